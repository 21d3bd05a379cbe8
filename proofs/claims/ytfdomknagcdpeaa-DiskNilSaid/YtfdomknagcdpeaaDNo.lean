/- A disk that nobody made: what its functions answer. -/
import Derived.Test.YtfdomknagcdpeaaDAw
namespace Go.Proofs.Ytfdomknagcdpeaa
open Go Go.RowKit Go.ChangeShapes Go.WideShapes Go.ChangeAt

def nilC : Array Value := #[.slice none 0 0, .slice none 0 0, .slice none 0 0, .int .i64 0, .int .i64 0]
def NoD (p : Value) (L : List Ass) : Prop := p = .pointer none ∨ ∃ B, p = .pointer (some ⟨B, 0, none⟩) ∧ Ass.blk true B #[.slice none 0 0, .slice none 0 0, .slice none 0 0, .int .i64 0, .int .i64 0] 68 ∈ L
theorem NoD.cons {p : Value} {X : Ass} {L : List Ass} (h : NoD p L) : NoD p (X :: L) := h.imp id (fun ⟨B, h1, h2⟩ => ⟨B, h1, .tail _ h2⟩)
section
variable {S : Nat → Prop} {w0 w : World} {L : List Ass} {p : Value}
theorem nd_none (HS : St S w0 w L) (hp : NoD p L) : Calls Try.prog 30 #[p] w fun e w' => e = .returned (.bool true) ∧ w = w' := by
  rcases hp with rfl | ⟨B, rfl, hm⟩
  · go_enter Try.func30, Try.ntmps30
    go_wp2
    go_ret
    exact ⟨rfl, rfl⟩
  · have HM := Lib.hid hm
    clear hm
    go_enter Try.func30, Try.ntmps30
    go_wp2_with (first | ((with_reducible apply sLoad1 HS); infer_instance; rfl; rfl; exact HM.out; rfl) | ((with_reducible apply sEqNil (P := Try.prog) (t := 24) Try.underlying24); rfl; rfl))
    go_ret
    exact ⟨rfl, rfl⟩
theorem nd_refuse (HS : St S w0 w L) (hp : NoD p L) (b : Int) : Calls Try.prog 32 #[p, .int .i64 b] w fun e w' => e = .returned (.int .i64 1) ∧ w = w' := by
  have HP := Lib.hid hp
  clear hp
  go_enter Try.func32, Try.ntmps32
  go_wp2_with (first | (go_at_call 30; refine (nd_none HS HP.out).mono ?_; rintro e w' ⟨rfl, rfl⟩))
  go_ret
  exact ⟨rfl, rfl⟩
theorem nd_blocks (HS : St S w0 w L) (hp : NoD p L) : Calls Try.prog 18 #[p] w fun e w' => e = .returned (.int .i64 0) ∧ w = w' := by
  have HP := Lib.hid hp
  clear hp
  go_enter Try.func18, Try.ntmps18
  go_wp2_with (first | (go_at_call 30; refine (nd_none HS HP.out).mono ?_; rintro e w' ⟨rfl, rfl⟩))
  go_ret
  exact ⟨rfl, rfl⟩
theorem nd_acts (HS : St S w0 w L) (hp : NoD p L) : Calls Try.prog 17 #[p] w fun e w' => e = .returned (.int .i64 0) ∧ w = w' := by
  have HP := Lib.hid hp
  clear hp
  go_enter Try.func17, Try.ntmps17
  go_wp2_with (first | (go_at_call 30; refine (nd_none HS HP.out).mono ?_; rintro e w' ⟨rfl, rfl⟩))
  go_ret
  exact ⟨rfl, rfl⟩
theorem nd_waiting (HS : St S w0 w L) (hp : NoD p L) : Calls Try.prog 16 #[p] w fun e w' => e = .returned (.int .i64 0) ∧ w = w' := by
  have HP := Lib.hid hp
  clear hp
  go_enter Try.func16, Try.ntmps16
  go_wp2_with (first | (go_at_call 30; refine (nd_none HS HP.out).mono ?_; rintro e w' ⟨rfl, rfl⟩))
  go_ret
  exact ⟨rfl, rfl⟩
theorem nd_dead (HS : St S w0 w L) (hp : NoD p L) : Calls Try.prog 26 #[p] w fun e w' => e = .returned (.bool false) ∧ w = w' := by
  have HP := Lib.hid hp
  clear hp
  go_enter Try.func26, Try.ntmps26
  go_wp2_with (first | (go_at_call 30; refine (nd_none HS HP.out).mono ?_; rintro e w' ⟨rfl, rfl⟩))
  go_ret
  exact ⟨rfl, rfl⟩
theorem nd_image (HS : St S w0 w L) (hp : NoD p L) : Calls Try.prog 11 #[p] w fun e w' => e = .returned (.slice none 0 0) ∧ w = w' := by
  have HP := Lib.hid hp
  clear hp
  go_enter Try.func11, Try.ntmps11
  go_wp2_with (first | (go_at_call 30; refine (nd_none HS HP.out).mono ?_; rintro e w' ⟨rfl, rfl⟩))
  go_ret
  exact ⟨rfl, rfl⟩
theorem nd_safe (HS : St S w0 w L) (hp : NoD p L) : Calls Try.prog 12 #[p] w fun e w' => e = .returned (.slice none 0 0) ∧ w = w' := by
  have HP := Lib.hid hp
  clear hp
  go_enter Try.func12, Try.ntmps12
  go_wp2_with (first | (go_at_call 30; refine (nd_none HS HP.out).mono ?_; rintro e w' ⟨rfl, rfl⟩))
  go_ret
  exact ⟨rfl, rfl⟩
theorem nd_flush (HS : St S w0 w L) (hp : NoD p L) : Calls Try.prog 20 #[p] w fun e w' => e = .returned (.int .i64 1) ∧ w = w' := by
  have HP := Lib.hid hp
  clear hp
  go_enter Try.func20, Try.ntmps20
  go_wp2_with (first | (go_at_call 32; refine (nd_refuse HS HP.out _).mono ?_; rintro e w' ⟨rfl, rfl⟩))
  go_ret
  exact ⟨rfl, rfl⟩
theorem nd_power (HS : St S w0 w L) (hp : NoD p L) (b : Int) : Calls Try.prog 25 #[p, .int .i64 b] w fun e w' => e = .returned (.tuple #[]) ∧ w = w' := by
  have HP := Lib.hid hp
  clear hp
  go_enter Try.func25, Try.ntmps25
  go_wp2_with (first | (go_at_call 30; refine (nd_none HS HP.out).mono ?_; rintro e w' ⟨rfl, rfl⟩))
  go_end0
  exact ⟨rfl, rfl⟩
theorem nd_crash (HS : St S w0 w L) (hp : NoD p L) (k : Value) : Calls Try.prog 21 #[p, k] w fun e w' => e = .returned (.tuple #[]) ∧ w = w' := by
  have HP := Lib.hid hp
  clear hp
  go_enter Try.func21, Try.ntmps21
  go_wp2_with (first | (go_at_call 30; refine (nd_none HS HP.out).mono ?_; rintro e w' ⟨rfl, rfl⟩))
  refine bodyPost_ret (results_none rfl _ _ _) rfl ?_
  exact ⟨rfl, rfl⟩
theorem nd_read (HS : St S w0 w L) (hp : NoD p L) (b : Int) : Calls Try.prog 19 #[p, .int .i64 b] w fun e w' => e = .returned (.tuple #[.agg (encB Z256), .int .i64 1]) ∧ St S w0 w' L := by
  have HP := Lib.hid hp
  clear hp
  have z256 : (encB Z256).size = 256 := (encB_size _).trans Z256_len
  go_enter Try.func19, Try.ntmps19
  go_wp2_with (first | (go_at_call 32; refine (nd_refuse HS.tail HP.out _).mono ?_; rintro e w' ⟨rfl, rfl⟩) | ((with_reducible apply sAlloc HS); infer_instance; (first | exact cells_agg _ | exact cells_one rfl); rfl; intro B1 w' H1; clear HS; have HS := H1; clear H1) | (with_reducible refine wpList_buildZ' blkT ?_) | ((with_reducible apply sStoreB HS); infer_instance; rfl; rfl; (conv => (lhs; whnf)); (repeat (first | exact Rep.here | apply Rep.there)); exact z256; exact z256; exact encB_one _; intro w' H1; clear HS; have HS := H1; clear H1))
  refine bodyPost_ret (res2 rfl (resCell HS rfl (by (repeat (first | exact List.Mem.head _ | apply List.Mem.tail))) z256) (resTmp _ _ _)) rfl ⟨rfl, HS.tail⟩
theorem nd_write (HS : St S w0 w L) (hp : NoD p L) (b : Int) (x : List UInt8) (_hx : x.length = 256) : Calls Try.prog 24 #[p, .int .i64 b, .agg (encB x)] w fun e w' => e = .returned (.int .i64 1) ∧ St S w0 w' L := by
  have HP := Lib.hid hp
  clear hp
  go_enter Try.func24, Try.ntmps24
  go_wp2_with (first | ((with_reducible apply sBox HS); rfl; (conv => (lhs; whnf)); (first | exact cells_agg _ | exact cells_one rfl); intro BX w' H1; clear HS; have HS := H1; clear H1) | (go_at_call 32; refine (nd_refuse HS.tail HP.out _).mono ?_; rintro e w' ⟨rfl, rfl⟩))
  go_ret
  exact ⟨rfl, HS.tail⟩
end
end Go.Proofs.Ytfdomknagcdpeaa
