/- Behind a flush all is safe, nothing waits, and a crash, whatever comes through, changes nothing. -/
import Derived.Test.YtfdomknagcdpeaaDArg
namespace Go.Proofs.Ytfdomknagcdpeaa.diskFlushed
open Go Go.RowKit Go.ChangeShapes Go.WideShapes Go.ChangeAt

theorem own : ownKnob Try.prog.godebug = none := by kernel_rfl
theorem laidOut : laidOutB Try.prog = true := by kernel_rfl

set_option maxRecDepth 100000 in
set_option maxHeartbeats 20000000 in
theorem walk (n : Int) (ad : Option Addr) (cap : Nat) (l : List (Int × Int)) (w : World) (L : List Ass) (HS : St none' w w L) (n0 : -9223372036854775808 ≤ n) (n1 : n ≤ 9223372036854775807) (hm : l.length ≤ maxLen) (hp : ∀ p ∈ l, putOk p) (hl : l = [] ∨ ∃ A o, ad = some ⟨A, o, none⟩ ∧ Ass.ro A o (encPs l) ∈ L) (ak : Option Addr) (kc : Nat) (keep : List Bool) (hkm : keep.length ≤ maxLen) (hkeep : keep = [] ∨ ∃ K o, ak = some ⟨K, o, none⟩ ∧ Ass.ro K o (keep.map Value.bool) ∈ L) :
    Calls Try.prog 5 #[.int .i64 n, .slice ad l.length cap, .slice ak keep.length kc] w fun e w' => e = .returned (.bool true) ∧ Below w.heap.size w w' := by
  have HKK := Lib.hid hkeep
  have HKM := Lib.hid hkm
  clear hkeep hkm
  have HP := Lib.hid hp
  have HLL := Lib.hid hl
  unfold maxLen at hm
  clear hp hl
  by_cases hlong : 300 < l.length
  · have hI : (300 : Int) < (l.length : Int) := by omega
    go_enter Try.func5, Try.ntmps5
    go_wp2
    go_ret
    exact ⟨rfl, HS.below⟩
  have hI : (l.length : Int) ≤ 300 := by omega
  have hpl := playOk_all (many64_bd n).1 (by have := (many64_bd n).2; omega) l l.length (Nat.le_refl _) (by omega)
  rw [List.take_length] at hpl
  have HW := Lib.hid (fun (HS : St none' w w L) => written_any HS n n0 n1 l (by omega) HP.out HLL.out (cap := cap))
  obtain ⟨N0, N1⟩ := many64_bd n
  obtain ⟨N, hN⟩ : ∃ N, many64 n = N := ⟨_, rfl⟩
  rw [hN] at HW hpl N0 N1
  obtain ⟨D, hD⟩ : ∃ D, playW N l = D := ⟨_, rfl⟩
  rw [hD] at HW hpl
  have HPL := Lib.hid hpl
  have HWY : Hid (D.why N 0 = 0) := by show _ = _; rw [hpl.why, if_pos ⟨by omega, by omega⟩]
  have HFS : Hid (D.flush.safe = D.now) := hpl.now.symm
  have hact : D.act.left = -1 := by unfold Dk.act; rw [if_neg (by rw [hpl.left]; omega)]; exact hpl.left
  have hokF : D.flush.Ok N := by
    have h := hpl.ok
    have ha := hpl.acts
    have hf := hpl.few
    refine ⟨by rw [HFS.out]; exact h.nowB, h.nowB, by simp [Dk.flush], by simp [Dk.flush], by rw [HFS.out]; exact h.now, h.now, h.n0, h.n1, ?_, ?_, ?_, ?_⟩
    · show 0 ≤ D.acts + 1; omega
    · show D.acts + 1 ≤ 1000000; omega
    · show -1 ≤ D.act.left; rw [hact]; omega
    · show D.act.left ≤ _; rw [hact]; omega
  have HOF := Lib.hid hokF
  have HCS : Hid ((D.flush.crash keep).safe = D.now) := HFS.out
  have HCN : Hid ((D.flush.crash keep).now = D.now) := HFS.out
  have hokC : (D.flush.crash keep).Ok N := ⟨by rw [HCS.out]; exact hpl.ok.nowB, by rw [HCN.out]; exact hpl.ok.nowB, by simp [Dk.crash], by simp [Dk.crash], by rw [HCS.out]; exact hpl.ok.now, by rw [HCN.out]; exact hpl.ok.now, hpl.ok.n0, hpl.ok.n1, hokF.acts0, hokF.acts1, by simp [Dk.crash], by simp [Dk.crash]⟩
  have HOC := Lib.hid hokC
  clear hN hD hpl hlong hact hokF hokC
  go_enter Try.func5, Try.ntmps5
  go_wp2_with (fail)
  refine (HW.out HS).mono ?_
  rintro e w1 ⟨B, g1, c1, g2, c2, vw, Bm, rfl, H1'⟩
  clear HS HW; have HS := H1'; clear H1'
  go_wp2_with (first | (go_at_call 20; refine (dk_flush (D := D) (n := N) HS HPL.out.ok).mono ?_; rintro e w' ⟨vw2, rfl, H1'⟩; clear HS; have HS := H1'; clear H1'; rw [HWY.out] at *; rw [if_pos rfl] at HS) | (go_at_call 16; refine (dk_waiting (D := D.flush) (n := N) HS).mono ?_; rintro e w' ⟨rfl, rfl⟩; rw [show ((D.flush.wait.length : Nat) : Int) = 0 from rfl]) | (go_at_call 12; refine (dk_safe (D := D.flush) (n := N) HS HOF.out).mono ?_; rintro e w' ⟨gf, cf, rfl, H1'⟩; clear HS; have HS := H1'; clear H1'; have HS2 := HS.back1 (D := diskA (D.flush) N B g1 c1 g2 c2 vw2); clear HS; have HS := HS2; clear HS2) | (go_at_call 15; refine (same_n HS (D.flush.safe) (D.now) HOF.out.safeB HPL.out.ok.nowB HOF.out.safe HPL.out.ok.now (by omega) (fun w' hC => hd_own (g := gf) (n := N) (e := 32) (sz := 256) hC (by (repeat (first | exact List.Mem.head _ | apply List.Mem.tail)))) (fun w' hC => hd_own (g := Bm) (cap := N) (n := N) (e := 32) (sz := 256) hC (by (repeat (first | exact List.Mem.head _ | apply List.Mem.tail))))).mono ?_; rintro e w' ⟨rfl, H1'⟩; clear HS; have HS := H1'; clear H1'; rw [HFS.out, show (D.now == D.now) = true by simp]))
  refine (dk_crash (D := D.flush) (n := N) HS HOF.out keep ak kc (by have := HKM.out; unfold maxLen at this; omega) (HKK.out.imp id (fun ⟨K, o, h1, h2⟩ => ⟨K, o, h1, fun w' hC => hC (.ro K o _) (List.mem_cons_of_mem _ (List.mem_cons_of_mem _ h2))⟩))).mono ?_
  rintro e w2 ⟨vw3, rfl, H1'⟩
  clear HS; have HS := H1'; clear H1'
  go_wp2_with (first | (go_at_call 11; refine (dk_image (D := (D.flush.crash keep)) (n := N) HS HOC.out).mono ?_; rintro e w' ⟨gi, ci, rfl, H1'⟩; clear HS; have HS := H1'; clear H1') | (go_at_call 15; refine (same_n HS ((D.flush.crash keep).now) (D.now) HOC.out.nowB HPL.out.ok.nowB HOC.out.now HPL.out.ok.now (by omega) (fun w' hC => hd_own (g := gi) (n := N) (e := 32) (sz := 256) hC (by (repeat (first | exact List.Mem.head _ | apply List.Mem.tail)))) (fun w' hC => hd_own (g := Bm) (cap := N) (n := N) (e := 32) (sz := 256) hC (by (repeat (first | exact List.Mem.head _ | apply List.Mem.tail))))).mono ?_; rintro e w' ⟨rfl, H1'⟩; clear HS; have HS := H1'; clear H1'; rw [HCN.out, show (D.now == D.now) = true by simp]))
  go_wp2_with (first | (go_at_call 12; refine (dk_safe (D := (D.flush.crash keep)) (n := N) (HS.back1 (D := diskA ((D.flush.crash keep)) N B g1 c1 g2 c2 vw3)) HOC.out).mono ?_; rintro e w' ⟨gf, cf, rfl, H1'⟩; clear HS; have HS := H1'; clear H1') | (go_at_call 15; refine (same_n HS ((D.flush.crash keep).safe) (D.now) HOC.out.safeB HPL.out.ok.nowB HOC.out.safe HPL.out.ok.now (by omega) (fun w' hC => hd_own (g := gf) (n := N) (e := 32) (sz := 256) hC (by (repeat (first | exact List.Mem.head _ | apply List.Mem.tail)))) (fun w' hC => hd_own (g := Bm) (cap := N) (n := N) (e := 32) (sz := 256) hC (by (repeat (first | exact List.Mem.head _ | apply List.Mem.tail))))).mono ?_; rintro e w' ⟨rfl, H1'⟩; clear HS; have HS := H1'; clear H1'; rw [HCS.out, show (D.now == D.now) = true by simp]) | (go_at_call 16; refine (dk_waiting (D := (D.flush.crash keep)) (n := N) (HS.back1 (D := diskA ((D.flush.crash keep)) N B g1 c1 g2 c2 vw3))).mono ?_; rintro e w' ⟨rfl, rfl⟩; rw [show ((((D.flush.crash keep)).wait.length : Nat) : Int) = 0 from rfl]))
  go_ret
  exact ⟨rfl, HS.below⟩

set_option maxRecDepth 100000 in
theorem lifted (os : Os) (started : os.Started) (H : Type) (enc : TypeId × Value → H) :
    ReturnsInHanded {} Try.checked os 5 .any (Rows.diskFlushedSpec.pre6 enc Try.prog Try.f5 Rows.diskFlushedRow.domain false) (Rows.diskFlushedSpec.post enc Try.prog Try.f5 false true false false) := by
  refine law_lift (C := Try.checked) own started (by kernel_rfl) Try.func5 laidOut rfl Try.underlying4 rfl ?hs (by kernel_rfl)
    (ChangeSpec.witness6 (enc := enc) (C := Try.checked) false ⟨#[], #[.int .i64 0, .slice none 0 0, .slice none 0 0], []⟩ 8 (by kernel_rfl) (by kernel_rfl) (by kernel_rfl) (by kernel_rfl)) ?hwalk
  case hs =>
    intro ds h
    match ds, h with
    | [d0, d1, d2], _ => rfl
  case hwalk =>
    intro W args hn ha
    obtain ⟨l⟩ := args
    match l, hn with
    | [v0, v1, v2], _ =>
      obtain ⟨n, rfl, hn1⟩ := (ha 0 _ _ rfl rfl).int Try.underlying3
      obtain ⟨ad, cap, l, rfl, hm, _, _, hp, hl⟩ := puts_arg (ha 1 _ _ rfl rfl)
      obtain ⟨ak, kc, keep, rfl, hkm, hk⟩ := bools_arg (ha 2 _ _ rfl rfl)
      obtain ⟨L1, HS1, hro1, hl1⟩ := (St.nil none' W).arg (by simp) hl
      obtain ⟨L2, HS, _, hl2⟩ := HS1.arg hro1 hk
      exact walk n ad cap l W _ HS (int_wf hn1).1 (int_wf hn1).2 hm hp (hl1.imp id (fun ⟨A, o, h1, h2⟩ => ⟨A, o, h1, List.mem_append_right _ (List.mem_append_left _ h2)⟩)) ak kc keep hkm (hl2.imp id (fun ⟨A, o, h1, h2⟩ => ⟨A, o, h1, List.mem_append_left _ h2⟩))

theorem over : Rows.diskFlushedRow.holds Try.pinned (OpenSpec.ofChange Rows.diskFlushedSpec) :=
  OpenClaim.holds_of_wide 5 Try.f5 rfl rfl rfl rfl rfl rfl rfl ⟨rfl, rfl, rfl, rfl, rfl⟩ rfl rfl rfl rfl rfl (by kernel_rfl) Try.func5 (by kernel_rfl)
    (of_decide_eq_true (by kernel_rfl)) (by unfold Func.isWrapper; first | (rw [if_pos (by decide +kernel)]; kernel_rfl) | (rw [if_neg (by decide +kernel)]; exact ⟨rfl, rfl⟩))
    (fun os started H enc _ => lifted os started H enc)

theorem proved : Rows.DiskFlushedSaid := over
#print axioms proved
end Go.Proofs.Ytfdomknagcdpeaa.diskFlushed
