/- The disk: its functions, over a list of assertions. -/
import Derived.Test.YtfdomknagcdpeaaSep3
import Derived.WalkSpells
namespace Go.Proofs.Ytfdomknagcdpeaa
open Go Go.RowKit

theorem blkT : BlkT Try.prog 32 5 :=
  ⟨Try.underlying32, Try.underlying5, by kernel_rfl, by kernel_rfl, by kernel_rfl, by kernel_rfl, by kernel_rfl, by kernel_rfl⟩
instance : Plain Try.prog 4 := plain_mk Try.underlying4 rfl (by kernel_rfl)
instance : Plain Try.prog 3 := plain_mk Try.underlying3 rfl (by kernel_rfl)
instance : Plain Try.prog 24 := plain_mk Try.underlying24 rfl (by kernel_rfl)
instance : Plain Try.prog 66 := plain_mk Try.underlying66 rfl (by kernel_rfl)
instance : Row Try.prog 32 256 := row_mk Try.underlying32 rfl (by kernel_rfl)
instance : Row Try.prog 68 5 := row_mk Try.underlying68 rfl (by kernel_rfl)
instance : Row Try.prog 75 257 := row_mk Try.underlying75 rfl (by kernel_rfl)

instance : Two Try.prog 75 1 256 := two_mk Try.underlying75 (by kernel_rfl) (by kernel_rfl)
instance : Zero0 Try.prog 32 (.agg (encB Z256)) := ⟨by kernel_rfl⟩

def encWs (l : List (Int × List UInt8)) : List Value := l.flatMap fun p => Value.int .i64 p.1 :: p.2.map bv
theorem infoB1 : (Try.prog.info? 32).map (·.size) = some 256 := by kernel_rfl
theorem infoB : (Try.prog.info? 32).map (fun i => (i.zero, i.size, i.bytes)) = some (some (.agg (encB Z256)), 256, 256) := by kernel_rfl
theorem zB_size : (Value.agg (encB Z256)).cells.size = 256 := (encB_size _).trans Z256_len
def zW : Value := .agg (#[.int .i64 0] ++ encB Z256)
theorem infoW : (Try.prog.info? 75).map (fun i => (i.zero, i.size, i.bytes)) = some (some zW, 257, 264) := by kernel_rfl
theorem infoW2 : (Try.prog.info? 75).map (fun i => (i.zero, i.size)) = some (some zW, 257) := by kernel_rfl
theorem zW_size : zW.cells.size = 257 := by kernel_rfl
theorem encWs_len {l : List (Int × List UInt8)} (h : ∀ p ∈ l, p.2.length = 256) : (encWs l).length = l.length * 257 := flat_len _ _ _ (fun p hp => by simp [h p hp])
theorem wcell_one (b : Int) (x : List UInt8) : ∀ v ∈ Value.int .i64 b :: x.map bv, v.oneCell' = true := by
  intro v hv
  rcases List.mem_cons.1 hv with rfl | hv
  · rfl
  · exact map_one x v hv
/-- A disk. -/
structure Dk where
  safe : List (List UInt8)
  now : List (List UInt8)
  wait : List (Int × List UInt8)
  acts : Int
  left : Int
structure Dk.Ok (D : Dk) (n : Nat) : Prop where
  safeB : all256 D.safe
  nowB : all256 D.now
  waitB : ∀ p ∈ D.wait, 0 ≤ p.1 ∧ p.1 < n ∧ p.2.length = 256
  waitN : D.wait.length ≤ 1000000
  safe : D.safe.length = n
  now : D.now.length = n
  n0 : 1 ≤ n
  n1 : n ≤ 2048
  acts0 : 0 ≤ D.acts
  acts1 : D.acts ≤ 1000000
  left0 : -1 ≤ D.left
  left1 : D.left ≤ 9223372036854775807
def diskC (D : Dk) (n g1 c1 g2 c2 : Nat) (vw : Value) : Array Value := #[.slice (some ⟨g1, 0, none⟩) n c1, .slice (some ⟨g2, 0, none⟩) n c2, vw, .int .i64 D.acts, .int .i64 D.left]
/-- Where a disk lies. -/
def diskA (D : Dk) (n B g1 c1 g2 c2 : Nat) (vw : Value) : List Ass :=
  [.blk true B #[.slice (some ⟨g1, 0, none⟩) n c1, .slice (some ⟨g2, 0, none⟩) n c2, vw, .int .i64 D.acts, .int .i64 D.left] 68,
   .own (.slice (some ⟨g1, 0, none⟩) n c1) 32 256 n (encBs D.safe), .own (.slice (some ⟨g2, 0, none⟩) n c2) 32 256 n (encBs D.now),
   .own vw 75 257 D.wait.length (encWs D.wait)]

section
variable {S : Nat → Prop} {w0 w : World} {R : List Ass} {D : Dk} {n B g1 c1 g2 c2 : Nat} {vw : Value}

theorem dk_none (HS : St S w0 w (diskA D n B g1 c1 g2 c2 vw ++ R)) :
    Calls Try.prog 30 #[.pointer (some ⟨B, 0, none⟩)] w fun e w' => e = .returned (.bool false) ∧ w = w' := by
  simp only [diskA, List.cons_append, List.nil_append] at HS
  go_enter Try.func30, Try.ntmps30
  go_wp2_with (first | ((with_reducible apply sLoad1 HS); infer_instance; rfl; rfl; (repeat (first | exact List.Mem.head _ | apply List.Mem.tail)); rfl) | ((with_reducible apply sEqNil (P := Try.prog) (t := 24) Try.underlying24); rfl; rfl))
  go_ret
  exact ⟨rfl, rfl⟩

/-- Why nothing is read or written. -/
def Dk.why (D : Dk) (n : Nat) (b : Int) : Int := if D.left = 0 then 30 else if b < 0 ∨ n ≤ b then 2 else 0
theorem dk_refuse (HS : St S w0 w (diskA D n B g1 c1 g2 c2 vw ++ R)) (b : Int) :
    Calls Try.prog 32 #[.pointer (some ⟨B, 0, none⟩), .int .i64 b] w fun e w' => e = .returned (.int .i64 (D.why n b)) ∧ w = w' := by
  have H0 := dk_none HS
  simp only [diskA, List.cons_append, List.nil_append] at HS
  rcases Bool.eq_false_or_eq_true (decide (b < 0)) with hb | hb
  all_goals
    go_enter Try.func32, Try.ntmps32
    go_wp2_with (first | (go_at_call 30; refine H0.mono ?_; rintro e w' ⟨rfl, rfl⟩) | ((with_reducible apply sLoad1 HS); infer_instance; rfl; rfl; (repeat (first | exact List.Mem.head _ | apply List.Mem.tail)); rfl))
    all_goals go_ret
    all_goals exact ⟨ret_int (by simp only [decide_eq_true_eq, decide_eq_false_iff_not] at hb; unfold Dk.why; simp_all <;> omega), rfl⟩

def Dk.act (D : Dk) : Dk := { D with acts := D.acts + 1, left := if 0 < D.left then D.left - 1 else D.left }
theorem dk_act (HS : St S w0 w (diskA D n B g1 c1 g2 c2 vw ++ R)) (h0 : 0 ≤ D.acts) (h1 : D.acts ≤ 1000000) (h2 : D.left ≤ 9223372036854775807) :
    Calls Try.prog 33 #[.pointer (some ⟨B, 0, none⟩)] w fun e w' => e = .returned (.tuple #[]) ∧ St S w0 w' (diskA D.act n B g1 c1 g2 c2 vw ++ R) := by
  simp only [diskA, List.cons_append, List.nil_append] at HS
  by_cases hl : 0 < D.left
  all_goals
    go_enter Try.func33, Try.ntmps33
    go_wp2_with (first | ((with_reducible apply sLoad1 HS); infer_instance; rfl; rfl; (repeat (first | exact List.Mem.head _ | apply List.Mem.tail)); rfl) | ((with_reducible apply sStore1 HS); infer_instance; rfl; rfl; (conv => (lhs; whnf)); (repeat (first | exact Rep.here | apply Rep.there)); exact of_decide_eq_true rfl; (first | rfl | exact HS.ownOne (by (repeat (first | exact List.Mem.head _ | apply List.Mem.tail)))); intro w' H1; clear HS; have HS := H1; clear H1; simp only [List.setIfInBounds_toArray, List.set_cons_zero, List.set_cons_succ] at HS))
    go_end0
    exact ⟨rfl, by unfold Dk.act; (first | rw [if_pos hl] | rw [if_neg (by omega)]); exact HS⟩

theorem dk_read (HS : St S w0 w (diskA D n B g1 c1 g2 c2 vw ++ R)) (hok : D.Ok n) (b : Int) :
    Calls Try.prog 19 #[.pointer (some ⟨B, 0, none⟩), .int .i64 b] w fun e w' => e = .returned (.tuple #[.agg (encB (if D.why n b = 0 then D.now.getD b.toNat Z256 else Z256)), .int .i64 (D.why n b)]) ∧ St S w0 w' (diskA D n B g1 c1 g2 c2 vw ++ R) := by
  simp only [diskA, List.cons_append, List.nil_append] at HS
  have z256 : (encB Z256).size = 256 := (encB_size _).trans Z256_len
  by_cases hz : D.why n b = 0
  · have hb : 0 ≤ b ∧ b < n := by unfold Dk.why at hz; repeat' split at hz; all_goals omega
    obtain ⟨k, rfl⟩ : ∃ k : Nat, b = k := ⟨b.toNat, by omega⟩
    obtain ⟨hb0, hb1⟩ := hb
    have hk : k < D.now.length := by have := hok.now; omega
    have hp := encBs_part hok.nowB hk
    have hl : ((D.now.getD k Z256).map bv).length = 256 := by rw [List.length_map]; exact hok.nowB.getD k
    have HZ := Lib.hid hz
    rw [hz, if_pos rfl, Int.toNat_natCast]
    obtain ⟨x, hx⟩ : ∃ x, D.now.getD k Z256 = x := ⟨_, rfl⟩
    rw [hx] at hp hl
    rw [hx]
    have HP := Lib.hid hp
    have HL := Lib.hid hl
    clear hp hl hx hz hk
    go_enter Try.func19, Try.ntmps19
    go_wp2_with (first | (go_at_call 32; refine (dk_refuse (D := D) (n := n) (B := B) (g1 := g1) (c1 := c1) (g2 := g2) (c2 := c2) (vw := vw) (R := R) HS.tail _).mono ?_; rintro e w' ⟨rfl, rfl⟩; rw [HZ.out]) | ((with_reducible apply sAlloc HS); infer_instance; (first | exact cells_agg _ | exact cells_one rfl); rfl; intro B1 w' H1; clear HS; have HS := H1; clear H1) | ((with_reducible apply sLoad1 HS); infer_instance; rfl; rfl; (repeat (first | exact List.Mem.head _ | apply List.Mem.tail)); rfl) | (with_reducible refine wpList_buildZ' blkT ?_) | ((with_reducible apply sLoadO HS); infer_instance; rfl; rfl; (repeat (first | exact List.Mem.head _ | apply List.Mem.tail)); exact HP.out; exact HL.out) | ((with_reducible apply sStoreB HS); infer_instance; rfl; rfl; (conv => (lhs; whnf)); (repeat (first | exact Rep.here | apply Rep.there)); exact z256; exact z256; exact encB_one _; intro w' H1; clear HS; have HS := H1; clear H1) | ((with_reducible apply sStoreB HS); infer_instance; rfl; rfl; (conv => (lhs; whnf)); (repeat (first | exact Rep.here | apply Rep.there)); (rw [List.size_toArray]; exact HL.out); exact z256; exact map_one' _; intro w' H1; clear HS; have HS := H1; clear H1))
    refine bodyPost_ret (res2 rfl (resCell HS rfl (by (repeat (first | exact List.Mem.head _ | apply List.Mem.tail))) (by rw [List.size_toArray]; exact HL.out)) (resTmp _ _ _)) rfl ⟨rfl, HS.tail⟩
  · have hz' : (D.why n b != 0) = true := by simp [hz]
    rw [if_neg hz]
    obtain ⟨r, hr⟩ : ∃ r, D.why n b = r := ⟨_, rfl⟩
    have HZ := Lib.hid hr
    rw [hr] at hz' ⊢
    clear hz hr
    go_enter Try.func19, Try.ntmps19
    go_wp2_with (first | (go_at_call 32; refine (dk_refuse (D := D) (n := n) (B := B) (g1 := g1) (c1 := c1) (g2 := g2) (c2 := c2) (vw := vw) (R := R) HS.tail _).mono ?_; rintro e w' ⟨rfl, rfl⟩; rw [HZ.out]) | ((with_reducible apply sAlloc HS); infer_instance; (first | exact cells_agg _ | exact cells_one rfl); rfl; intro B1 w' H1; clear HS; have HS := H1; clear H1) | ((with_reducible apply sLoad1 HS); infer_instance; rfl; rfl; (repeat (first | exact List.Mem.head _ | apply List.Mem.tail)); rfl) | (with_reducible refine wpList_buildZ' blkT ?_) | ((with_reducible apply sLoadO HS); infer_instance; rfl; rfl; (repeat (first | exact List.Mem.head _ | apply List.Mem.tail)); exact HP.out; exact HL.out) | ((with_reducible apply sStoreB HS); infer_instance; rfl; rfl; (conv => (lhs; whnf)); (repeat (first | exact Rep.here | apply Rep.there)); exact z256; exact z256; exact encB_one _; intro w' H1; clear HS; have HS := H1; clear H1) | ((with_reducible apply sStoreB HS); infer_instance; rfl; rfl; (conv => (lhs; whnf)); (repeat (first | exact Rep.here | apply Rep.there)); (rw [List.size_toArray]; exact HL.out); exact z256; exact map_one' _; intro w' H1; clear HS; have HS := H1; clear H1))
    refine bodyPost_ret (res2 rfl (resCell HS rfl (by (repeat (first | exact List.Mem.head _ | apply List.Mem.tail))) z256) (resTmp _ _ _)) rfl ⟨rfl, HS.tail⟩

def Dk.write (D : Dk) (b : Int) (x : List UInt8) : Dk := { D.act with wait := D.wait ++ [(b, x)], now := D.now.set b.toNat x }
set_option maxHeartbeats 1000000 in
theorem dk_write (HS : St S w0 w (diskA D n B g1 c1 g2 c2 vw ++ R)) (hok : D.Ok n) (b : Int) (x : List UInt8) (hx : x.length = 256) :
    Calls Try.prog 24 #[.pointer (some ⟨B, 0, none⟩), .int .i64 b, .agg (encB x)] w fun e w' => ∃ vw', e = .returned (.int .i64 (D.why n b)) ∧ St S w0 w' (diskA (if D.why n b = 0 then D.write b x else D) n B g1 c1 g2 c2 vw' ++ R) := by
  simp only [diskA, List.cons_append, List.nil_append] at HS
  have z256 : (encB x).size = 256 := (encB_size _).trans hx
  by_cases hz : D.why n b = 0
  · have hb : 0 ≤ b ∧ b < n := by unfold Dk.why at hz; repeat' split at hz; all_goals omega
    obtain ⟨k, rfl⟩ : ∃ k : Nat, b = k := ⟨b.toNat, by omega⟩
    obtain ⟨hb0, hb1⟩ := hb
    have hk : k < D.now.length := by have := hok.now; omega
    have hp := Lib.hid (encBs_set hok.nowB hx hk)
    have HW := Lib.hid (encWs_len (fun p hp => (hok.waitB p hp).2.2))
    have HL := Lib.hid (encBs_len hok.nowB)
    have hwn : D.act.wait.length ≤ 1000000 := hok.waitN
    have HN := Lib.hid hok.now
    have HZ := Lib.hid hz
    rw [hz, if_pos rfl]
    clear hz
    go_enter Try.func24, Try.ntmps24
    go_wp2_with (first | ((with_reducible apply sBox HS); rfl; (conv => (lhs; whnf)); (first | exact cells_agg _ | exact cells_one rfl); intro BX w' H1; clear HS; have HS := H1; clear H1) | (go_at_call 32; refine (dk_refuse (D := D) (n := n) (B := B) (g1 := g1) (c1 := c1) (g2 := g2) (c2 := c2) (vw := vw) (R := R) HS.tail _).mono ?_; rintro e w' ⟨rfl, rfl⟩; rw [HZ.out]) | (go_at_call 33; refine (dk_act (D := D) (n := n) (B := B) (g1 := g1) (c1 := c1) (g2 := g2) (c2 := c2) (vw := vw) (R := _ :: R) (HS.back1 (D := diskA D n B g1 c1 g2 c2 vw)) hok.acts0 hok.acts1 hok.left1).mono ?_; rintro e w' ⟨rfl, HS⟩; replace HS := HS.fore1; simp only [diskA, List.cons_append, List.nil_append] at HS))
    (try simp only [Act.put])
    refine wp_region_sch (.q 0 (.q 1 (.q 2 (.q 3 (.q 4 (.q 5 (.q 6 (.q 7 (.e 8 (.e 9 (.q 10 (.q 11 (.e 12 (.nil)))))))))))))) (Hd [.blk true B #[.slice (some ⟨g1, 0, none⟩) n c1, .slice (some ⟨g2, 0, none⟩) n c2, vw, .int .i64 D.act.acts, .int .i64 D.act.left] 68, .blk true BX (encB x) 32]) (by kernel_rfl) (by kernel_rfl) (fun _ _ d _ _ h => by cases d <;> exact h) ?_
    intro w1 hm1
    replace HS := HS.fresh hm1
    clear hm1
    refine ⟨HS.hd (by (repeat (first | exact subNil | (refine subCons ?_ ?_; (repeat (first | exact List.Mem.head _ | apply List.Mem.tail)))))), ?_⟩
    repeat (first | ((with_reducible apply cLoad1); (simp only [List.getElem?_toArray, List.getElem?_cons_zero, List.getElem?_cons_succ]; rfl); infer_instance; rfl; rfl; (repeat (first | exact List.Mem.head _ | apply List.Mem.tail)); rfl; (try simp only [Act.put, List.setIfInBounds_toArray, List.set_cons_zero, List.set_cons_succ])) | ((with_reducible apply cLoadB); (simp only [List.getElem?_toArray, List.getElem?_cons_zero, List.getElem?_cons_succ]; rfl); infer_instance; rfl; rfl; (repeat (first | exact List.Mem.head _ | apply List.Mem.tail)); exact z256; (try simp only [Act.put, List.setIfInBounds_toArray, List.set_cons_zero, List.set_cons_succ])) | ((with_reducible apply cTwo); (simp only [List.getElem?_toArray, List.getElem?_cons_zero, List.getElem?_cons_succ]; rfl); rfl; infer_instance; (conv => (lhs; whnf)); (conv => (lhs; whnf)); exact cells1; exact cellsB _; rfl; (rw [List.length_map]; exact hx); (try simp only [Act.put, List.setIfInBounds_toArray, List.set_cons_zero, List.set_cons_succ])) | ((with_reducible apply wpSch_nilCheck); (simp only [List.getElem?_toArray, List.getElem?_cons_zero, List.getElem?_cons_succ]; rfl); rfl; rfl; (try simp only [Act.put, List.setIfInBounds_toArray, List.set_cons_zero, List.set_cons_succ])) | ((with_reducible apply wpSch_plain); (simp only [List.getElem?_toArray, List.getElem?_cons_zero, List.getElem?_cons_succ]; rfl); rfl; rfl; (intro K hK; go_big_quiet_op; go_big_quiet_on)) | ((with_reducible apply wpSch_skip); (simp only [List.getElem?_toArray, List.getElem?_cons_zero, List.getElem?_cons_succ]; rfl); rfl; (try simp only [Act.put, List.setIfInBounds_toArray, List.set_cons_zero, List.set_cons_succ])))
    with_reducible apply wpSch_e_k
    (simp only [List.getElem?_toArray, List.getElem?_cons_zero, List.getElem?_cons_succ]; rfl)
    intro K HK
    ((with_reducible apply sOne HS Try.underlying66 infoW2 zW_size (by decide) (by decide)); rfl; (conv => (lhs; whnf)); (first | exact cells_agg _ | exact cells_one rfl); (simp [hx]); intro B2 w' H1; clear HS; have HS := H1; clear H1)
    (try simp only [Act.put, List.setIfInBounds_toArray, List.set_cons_zero, List.set_cons_succ])
    refine wpList_nil (then_normal (HK.out _ _ ⟨.inr (HS.hd (by (repeat (first | exact subNil | (refine subCons ?_ ?_; (repeat (first | exact List.Mem.head _ | apply List.Mem.tail))))))), ?_⟩))
    clear HK K
    with_reducible apply wpSch_e_k
    (simp only [List.getElem?_toArray, List.getElem?_cons_zero, List.getElem?_cons_succ]; rfl)
    intro K HK
    ((with_reducible apply sAppend HS Try.underlying66 infoW zW_size (by decide)); (conv => (lhs; whnf)); (intro v'; (repeat (first | exact Rep.here | apply Rep.there))); rfl; rotate_left; exact HS.newsAll (by (repeat (first | exact List.Mem.head _ | apply List.Mem.tail))); rotate_right; (simp [hx]); exact wcell_one _ _; decide; omega; intro v1 w' H1 hnil; clear HS; have HS := H1; clear H1)
    (try simp only [Act.put, List.setIfInBounds_toArray, List.set_cons_zero, List.set_cons_succ])
    refine wpList_nil (then_normal (HK.out _ _ ⟨.inr (HS.hd (by (repeat (first | exact subNil | (refine subCons ?_ ?_; (repeat (first | exact List.Mem.head _ | apply List.Mem.tail))))))), ?_⟩))
    clear HK K
    repeat (first | ((with_reducible apply cLoad1); (simp only [List.getElem?_toArray, List.getElem?_cons_zero, List.getElem?_cons_succ]; rfl); infer_instance; rfl; rfl; (repeat (first | exact List.Mem.head _ | apply List.Mem.tail)); rfl; (try simp only [Act.put, List.setIfInBounds_toArray, List.set_cons_zero, List.set_cons_succ])) | ((with_reducible apply cLoadB); (simp only [List.getElem?_toArray, List.getElem?_cons_zero, List.getElem?_cons_succ]; rfl); infer_instance; rfl; rfl; (repeat (first | exact List.Mem.head _ | apply List.Mem.tail)); exact z256; (try simp only [Act.put, List.setIfInBounds_toArray, List.set_cons_zero, List.set_cons_succ])) | ((with_reducible apply cTwo); (simp only [List.getElem?_toArray, List.getElem?_cons_zero, List.getElem?_cons_succ]; rfl); rfl; infer_instance; (conv => (lhs; whnf)); (conv => (lhs; whnf)); exact cells1; exact cellsB _; rfl; (rw [List.length_map]; exact hx); (try simp only [Act.put, List.setIfInBounds_toArray, List.set_cons_zero, List.set_cons_succ])) | ((with_reducible apply wpSch_nilCheck); (simp only [List.getElem?_toArray, List.getElem?_cons_zero, List.getElem?_cons_succ]; rfl); rfl; rfl; (try simp only [Act.put, List.setIfInBounds_toArray, List.set_cons_zero, List.set_cons_succ])) | ((with_reducible apply wpSch_plain); (simp only [List.getElem?_toArray, List.getElem?_cons_zero, List.getElem?_cons_succ]; rfl); rfl; rfl; (intro K hK; go_big_quiet_op; go_big_quiet_on)) | ((with_reducible apply wpSch_skip); (simp only [List.getElem?_toArray, List.getElem?_cons_zero, List.getElem?_cons_succ]; rfl); rfl; (try simp only [Act.put, List.setIfInBounds_toArray, List.set_cons_zero, List.set_cons_succ])))
    with_reducible apply wpSch_e_k
    (simp only [List.getElem?_toArray, List.getElem?_cons_zero, List.getElem?_cons_succ]; rfl)
    intro K HK
    ((with_reducible apply sStore1 HS); infer_instance; rfl; rfl; (conv => (lhs; whnf)); (repeat (first | exact Rep.here | apply Rep.there)); exact of_decide_eq_true rfl; (first | rfl | exact HS.ownOne (by (repeat (first | exact List.Mem.head _ | apply List.Mem.tail)))); intro w' H1; clear HS; have HS := H1; clear H1; simp only [List.setIfInBounds_toArray, List.set_cons_zero, List.set_cons_succ] at HS)
    (try simp only [Act.put])
    refine wpList_nil (then_normal (HK.out _ _ ⟨.inl rfl, ?_⟩))
    clear HK K
    refine wpSch_nil ?_
    go_wp2
    (try simp only [Act.put])
    refine wp_region_sch (.q 0 (.q 1 (.q 2 (.q 3 (.q 4 (.q 5 (.q 6 (.e 7 (.nil))))))))) (Hd [.blk true B #[.slice (some ⟨g1, 0, none⟩) n c1, .slice (some ⟨g2, 0, none⟩) n c2, v1, .int .i64 D.act.acts, .int .i64 D.act.left] 68, .blk true BX (encB x) 32]) (by kernel_rfl) (by kernel_rfl) (fun _ _ d _ _ h => by cases d <;> exact h) ?_
    intro w1 hm1
    replace HS := HS.fresh hm1
    clear hm1
    refine ⟨HS.hd (by (repeat (first | exact subNil | (refine subCons ?_ ?_; (repeat (first | exact List.Mem.head _ | apply List.Mem.tail)))))), ?_⟩
    repeat (first | ((with_reducible apply cLoad1); (simp only [List.getElem?_toArray, List.getElem?_cons_zero, List.getElem?_cons_succ]; rfl); infer_instance; rfl; rfl; (repeat (first | exact List.Mem.head _ | apply List.Mem.tail)); rfl; (try simp only [Act.put, List.setIfInBounds_toArray, List.set_cons_zero, List.set_cons_succ])) | ((with_reducible apply cLoadB); (simp only [List.getElem?_toArray, List.getElem?_cons_zero, List.getElem?_cons_succ]; rfl); infer_instance; rfl; rfl; (repeat (first | exact List.Mem.head _ | apply List.Mem.tail)); exact z256; (try simp only [Act.put, List.setIfInBounds_toArray, List.set_cons_zero, List.set_cons_succ])) | ((with_reducible apply wpSch_nilCheck); (simp only [List.getElem?_toArray, List.getElem?_cons_zero, List.getElem?_cons_succ]; rfl); rfl; rfl; (try simp only [Act.put, List.setIfInBounds_toArray, List.set_cons_zero, List.set_cons_succ])) | ((with_reducible apply wpSch_plain); (simp only [List.getElem?_toArray, List.getElem?_cons_zero, List.getElem?_cons_succ]; rfl); rfl; rfl; (intro K hK; go_big_quiet_op; go_big_quiet_on)) | ((with_reducible apply wpSch_skip); (simp only [List.getElem?_toArray, List.getElem?_cons_zero, List.getElem?_cons_succ]; rfl); rfl; (try simp only [Act.put, List.setIfInBounds_toArray, List.set_cons_zero, List.set_cons_succ])))
    with_reducible apply wpSch_e_k
    (simp only [List.getElem?_toArray, List.getElem?_cons_zero, List.getElem?_cons_succ]; rfl)
    intro K HK
    ((with_reducible apply sStoreO HS); infer_instance; rfl; rfl; (conv => (lhs; whnf)); (repeat (first | exact Rep.here | apply Rep.there)); exact z256; (show _ + (encB x).size ≤ (encBs D.now).length; rw [z256, HL.out, HN.out]; omega); exact encB_one _; intro w' H1; clear HS; have HS := H1; clear H1)
    (try simp only [Act.put])
    refine wpList_nil (then_normal (HK.out _ _ ⟨.inl rfl, ?_⟩))
    clear HK K
    refine wpSch_nil ?_
    go_wp2
    go_ret
    refine ⟨v1, rfl, ?_⟩
    have e1 : encWs (D.wait ++ [((k : Int), x)]) = encWs D.act.wait ++ ([Value.int .i64 (k : Int)] ++ x.map bv) := by
      show _ = encWs D.wait ++ _
      simp [encWs]
    have e2 : spl (encBs D.act.now) (k * 256) (x.map bv) = encBs (D.now.set k x) := hp.out
    have HS2 := HS.tail.tail
    simp only [encB_toList, e2] at HS2
    simp only [diskA, Dk.write, List.cons_append, List.nil_append, e1, List.length_append, List.length_singleton, Int.toNat_natCast]
    exact HS2
  · have hz' : (D.why n b != 0) = true := by simp [hz]
    rw [if_neg hz]
    obtain ⟨r, hr⟩ : ∃ r, D.why n b = r := ⟨_, rfl⟩
    have HZ := Lib.hid hr
    rw [hr] at hz' ⊢
    clear hz hr
    go_enter Try.func24, Try.ntmps24
    go_wp2_with (first | ((with_reducible apply sBox HS); rfl; (conv => (lhs; whnf)); (first | exact cells_agg _ | exact cells_one rfl); intro BX w' H1; clear HS; have HS := H1; clear H1) | (go_at_call 32; refine (dk_refuse (D := D) (n := n) (B := B) (g1 := g1) (c1 := c1) (g2 := g2) (c2 := c2) (vw := vw) (R := R) HS.tail _).mono ?_; rintro e w' ⟨rfl, rfl⟩; rw [HZ.out]) | (go_at_call 33; refine (dk_act (D := D) (n := n) (B := B) (g1 := g1) (c1 := c1) (g2 := g2) (c2 := c2) (vw := vw) (R := _ :: R) (HS.back1 (D := diskA D n B g1 c1 g2 c2 vw)) hok.acts0 hok.acts1 hok.left1).mono ?_; rintro e w' ⟨rfl, HS⟩; replace HS := HS.fore1; simp only [diskA, List.cons_append, List.nil_append] at HS))
    go_ret
    exact ⟨vw, rfl, HS.tail⟩
end
end Go.Proofs.Ytfdomknagcdpeaa
