/- The disk: Flush, Crash, and how it is made. -/
import Derived.Test.YtfdomknagcdpeaaDk2
namespace Go.Proofs.Ytfdomknagcdpeaa
open Go Go.RowKit

/-- Writes, one behind the other. -/
def applyW (ws : List (Int × List UInt8)) (l : List (List UInt8)) : List (List UInt8) := ws.foldl (fun l p => l.set p.1.toNat p.2) l
theorem applyW_snoc (ws : List (Int × List UInt8)) (p : Int × List UInt8) (l : List (List UInt8)) : applyW (ws ++ [p]) l = (applyW ws l).set p.1.toNat p.2 := by simp [applyW]
theorem applyW_len (ws : List (Int × List UInt8)) : ∀ l, (applyW ws l).length = l.length := by
  induction ws with
  | nil => intro l; rfl
  | cons p ws ih => intro l; show (applyW ws (l.set p.1.toNat p.2)).length = _; rw [ih, List.length_set]
theorem applyW_256 (ws : List (Int × List UInt8)) (hw : ∀ p ∈ ws, p.2.length = 256) : ∀ l, all256 l → all256 (applyW ws l) := by
  induction ws with
  | nil => intro l h; exact h
  | cons p ws ih => intro l h; exact ih (fun q hq => hw q (.tail _ hq)) _ (h.set (hw p (.head _)) _)
theorem cons_part (c : Value) (l : List Value) : ∀ j v, l[j]? = some v → (c :: l).toArray[1 + j]? = some v := by
  intro j v h
  rw [List.getElem?_toArray, Nat.add_comm, List.getElem?_cons_succ, h]
theorem wcell_one' (b : Int) (x : List UInt8) : ∀ v ∈ (Value.int .i64 b :: x.map bv).toArray.toList, v.oneCell' = true := by
  rw [List.toList_toArray]; exact wcell_one b x
theorem encWs_part {l : List (Int × List UInt8)} (h : ∀ p ∈ l, p.2.length = 256) {i : Nat} {p : Int × List UInt8} (hi : l[i]? = some p) : ∀ j v, (Value.int .i64 p.1 :: p.2.map bv)[j]? = some v → (encWs l)[i * 257 + j]? = some v :=
  flat_part (fun p : Int × List UInt8 => Value.int .i64 p.1 :: p.2.map bv) 257 l (fun p hp => by simp [h p hp]) i p hi
instance : Zero0 Try.prog 75 zW := ⟨by kernel_rfl⟩

def Dk.flush (D : Dk) : Dk := { D.act with safe := applyW D.wait D.safe, wait := [] }

section
variable {S : Nat → Prop} {w0 w : World} {R : List Ass} {D : Dk} {n B g1 c1 g2 c2 : Nat} {vw : Value}

theorem vw_cases (HS : St S w0 w (diskA D n B g1 c1 g2 c2 vw ++ R)) : (vw = .slice none 0 0 ∧ D.wait = []) ∨ ∃ g c, vw = .slice (some ⟨g, 0, none⟩) D.wait.length c := by
  have h := HS
  simp only [diskA, List.cons_append, List.nil_append] at h
  rcases (h.own (v := vw) (by (repeat (first | exact List.Mem.head _ | apply List.Mem.tail)))).2 with ⟨h1, h2⟩ | ⟨g, c, cur, h1, _⟩
  · exact .inl ⟨h1, List.eq_nil_of_length_eq_zero h2⟩
  · exact .inr ⟨g, c, h1⟩

set_option maxHeartbeats 2000000 in
theorem dk_flush (HS : St S w0 w (diskA D n B g1 c1 g2 c2 vw ++ R)) (hok : D.Ok n) :
    Calls Try.prog 20 #[.pointer (some ⟨B, 0, none⟩)] w fun e w' => ∃ vw', e = .returned (.int .i64 (D.why n 0)) ∧ St S w0 w' (diskA (if D.why n 0 = 0 then D.flush else D) n B g1 c1 g2 c2 vw' ++ R) := by
  by_cases hz : D.why n 0 = 0
  rotate_left
  · have hz' : (D.why n 0 != 0) = true := by simp [hz]
    rw [if_neg hz]
    obtain ⟨r, hr⟩ : ∃ r, D.why n 0 = r := ⟨_, rfl⟩
    have HZ := Lib.hid hr
    rw [hr] at hz' ⊢
    clear hz hr
    go_enter Try.func20, Try.ntmps20
    go_wp2_with (first | (go_at_call 32; refine (dk_refuse (D := D) (n := n) (B := B) (g1 := g1) (c1 := c1) (g2 := g2) (c2 := c2) (R := R) HS _).mono ?_; rintro e w' ⟨rfl, rfl⟩; rw [HZ.out]))
    go_ret
    exact ⟨vw, rfl, HS⟩
  have HZ := Lib.hid hz
  rw [hz, if_pos rfl]
  clear hz
  rcases vw_cases HS with ⟨rfl, hw⟩ | ⟨gw, cw, rfl⟩
  · go_enter Try.func20, Try.ntmps20
    go_wp2_with (first | (go_at_call 32; refine (dk_refuse (D := D) (n := n) (B := B) (g1 := g1) (c1 := c1) (g2 := g2) (c2 := c2) (R := R) HS _).mono ?_; rintro e w' ⟨rfl, rfl⟩; rw [HZ.out]) | (go_at_call 33; refine (dk_act (D := D) (n := n) (B := B) (g1 := g1) (c1 := c1) (g2 := g2) (c2 := c2) (R := R) HS hok.acts0 hok.acts1 hok.left1).mono ?_; rintro e w' ⟨rfl, H1'⟩; clear HS; have HS := H1'; clear H1'; simp only [diskA, List.cons_append, List.nil_append] at HS) | ((with_reducible apply sLoad1 HS); infer_instance; rfl; rfl; (repeat (first | exact List.Mem.head _ | apply List.Mem.tail)); rfl))
    refine wp_loop_once ?_
    go_wp2_with (first | (go_at_call 32; refine (dk_refuse (D := D) (n := n) (B := B) (g1 := g1) (c1 := c1) (g2 := g2) (c2 := c2) (R := R) HS _).mono ?_; rintro e w' ⟨rfl, rfl⟩; rw [HZ.out]) | (go_at_call 33; refine (dk_act (D := D) (n := n) (B := B) (g1 := g1) (c1 := c1) (g2 := g2) (c2 := c2) (R := R) HS hok.acts0 hok.acts1 hok.left1).mono ?_; rintro e w' ⟨rfl, H1'⟩; clear HS; have HS := H1'; clear H1'; simp only [diskA, List.cons_append, List.nil_append] at HS) | ((with_reducible apply sLoad1 HS); infer_instance; rfl; rfl; (repeat (first | exact List.Mem.head _ | apply List.Mem.tail)); rfl) | ((with_reducible apply sStore1 HS); infer_instance; rfl; rfl; (conv => (lhs; whnf)); (repeat (first | exact Rep.here | apply Rep.there)); exact of_decide_eq_true rfl; (first | rfl | exact HS.ownOne (by (repeat (first | exact List.Mem.head _ | apply List.Mem.tail)))); intro w' H1; clear HS; have HS := H1; clear H1; simp only [List.setIfInBounds_toArray, List.set_cons_zero, List.set_cons_succ] at HS))
    go_ret
    refine ⟨.slice none 0 0, rfl, ?_⟩
    have e : D.flush = { D.act with wait := [] } := by unfold Dk.flush; rw [hw]; rfl
    rw [e]
    simp only [diskA, List.cons_append, List.nil_append]
    have h2 : encWs D.act.wait = [] := by show encWs D.wait = []; rw [hw]; rfl
    have h3 : D.act.wait.length = 0 := by show D.wait.length = 0; rw [hw]; rfl
    rw [h2, h3] at HS
    exact HS
  have hwn := hok.waitN
  go_enter Try.func20, Try.ntmps20
  go_wp2_with (first | (go_at_call 32; refine (dk_refuse (D := D) (n := n) (B := B) (g1 := g1) (c1 := c1) (g2 := g2) (c2 := c2) (R := R) HS _).mono ?_; rintro e w' ⟨rfl, rfl⟩; rw [HZ.out]) | (go_at_call 33; refine (dk_act (D := D) (n := n) (B := B) (g1 := g1) (c1 := c1) (g2 := g2) (c2 := c2) (R := R) HS hok.acts0 hok.acts1 hok.left1).mono ?_; rintro e w' ⟨rfl, H1'⟩; clear HS; have HS := H1'; clear H1'; simp only [diskA, List.cons_append, List.nil_append] at HS) | ((with_reducible apply sLoad1 HS); infer_instance; rfl; rfl; (repeat (first | exact List.Mem.head _ | apply List.Mem.tail)); rfl))
  go_loopw [18] (fun i wr => ∃ k : Nat, k ≤ D.wait.length ∧ i = .int .i64 k ∧ St S w0 wr (diskA { D.act with safe := applyW (D.wait.take k) D.safe } n B g1 c1 g2 c2 (.slice (some ⟨gw, 0, none⟩) D.wait.length cw) ++ R)) (fun i _ => D.wait.length - (intOf i).toNat)
  case atStart => exact ⟨0, by omega, rfl, HS⟩
  case round =>
    obtain ⟨k, hk, rfl, HS⟩ := hrel
    simp only [diskA, List.cons_append, List.nil_append] at HS
    by_cases hlt : k < D.wait.length
    · obtain ⟨p, hp⟩ : ∃ p, D.wait[k]? = some p := ⟨_, List.getElem?_eq_getElem hlt⟩
      obtain ⟨hp0, hp1, hx⟩ := hok.waitB p (List.mem_of_getElem? hp)
      have HW := Lib.hid (encWs_part (fun p hp => (hok.waitB p hp).2.2) hp)
      obtain ⟨b, x⟩ := p
      obtain ⟨b, rfl⟩ : ∃ b' : Nat, b = b' := ⟨b.toNat, by have : 0 ≤ b := hp0; omega⟩
      have hb0 : (0 : Int) ≤ (b : Int) := hp0
      have hb1 : (b : Int) < (n : Int) := hp1
      have HA : all256 (applyW (D.wait.take k) D.safe) := applyW_256 _ (fun p hp => (hok.waitB p (List.mem_of_mem_take hp)).2.2) _ hok.safeB
      have hAl : (applyW (D.wait.take k) D.safe).length = n := by rw [applyW_len, hok.safe]
      have HE : Hid (spl (encBs (applyW (D.wait.take k) D.safe)) (b * 256) (x.map bv) = encBs (applyW (D.wait.take (k + 1)) D.safe)) := by
        show _ = _
        rw [encBs_set HA hx (by omega), List.take_add_one, hp]
        show _ = encBs (applyW (D.wait.take k ++ [((b : Int), x)]) D.safe)
        rw [applyW_snoc]
        rfl
      have HL := Lib.hid (encBs_len HA)
      have HAL := Lib.hid hAl
      have hx' : x.length = 256 := hx
      clear hp0 hp1 hp HA hAl hx
      go_wp2_with (first | ((with_reducible apply sLoadO HS); infer_instance; rfl; rfl; (repeat (first | exact List.Mem.head _ | apply List.Mem.tail)); exact HW.out; (simp [hx'])) | ((with_reducible apply sAlloc HS); infer_instance; (first | exact cells_agg _ | exact cells_one rfl); rfl; intro B5 w' H1; clear HS; have HS := H1; clear H1) | ((with_reducible apply sStoreB HS); infer_instance; rfl; rfl; (conv => (lhs; whnf)); (repeat (first | exact Rep.here | apply Rep.there)); (simp [hx']); exact zW_size; exact wcell_one' _ _; intro w' H1; clear HS; have HS := H1; clear H1) | ((with_reducible apply sLoad1 HS); infer_instance; rfl; rfl; (repeat (first | exact List.Mem.head _ | apply List.Mem.tail)); rfl))
      (try simp only [Act.put])
      refine wp_region_sch (.q 0 (.q 1 (.q 2 (.q 3 (.q 4 (.q 5 (.q 6 (.q 7 (.q 8 (.e 9 (.nil))))))))))) (Hd [.blk true B #[.slice (some ⟨g1, 0, none⟩) n c1, .slice (some ⟨g2, 0, none⟩) n c2, .slice (some ⟨gw, 0, none⟩) D.wait.length cw, .int .i64 D.act.acts, .int .i64 D.act.left] 68, .blk true B5 (Value.int .i64 (b : Int) :: x.map bv).toArray 75]) (by kernel_rfl) (by kernel_rfl) (fun _ _ d _ _ h => by cases d <;> exact h) ?_
      intro w1 hm1
      replace HS := HS.fresh hm1
      clear hm1
      refine ⟨HS.hd (by (repeat (first | exact subNil | (refine subCons ?_ ?_; (repeat (first | exact List.Mem.head _ | apply List.Mem.tail)))))), ?_⟩
      repeat (first | ((with_reducible apply cLoad1); (simp only [List.getElem?_toArray, List.getElem?_cons_zero, List.getElem?_cons_succ]; rfl); infer_instance; rfl; rfl; (repeat (first | exact List.Mem.head _ | apply List.Mem.tail)); rfl; (try simp only [Act.put, List.setIfInBounds_toArray, List.set_cons_zero, List.set_cons_succ])) | ((with_reducible apply cLoadN); (simp only [List.getElem?_toArray, List.getElem?_cons_zero, List.getElem?_cons_succ]; rfl); infer_instance; rfl; rfl; (repeat (first | exact List.Mem.head _ | apply List.Mem.tail)); exact cons_part _ _; (rw [List.length_map]; exact hx'); (try simp only [Act.put, List.setIfInBounds_toArray, List.set_cons_zero, List.set_cons_succ])) | ((with_reducible apply wpSch_nilCheck); (simp only [List.getElem?_toArray, List.getElem?_cons_zero, List.getElem?_cons_succ]; rfl); rfl; rfl; (try simp only [Act.put, List.setIfInBounds_toArray, List.set_cons_zero, List.set_cons_succ])) | ((with_reducible apply wpSch_plain); (simp only [List.getElem?_toArray, List.getElem?_cons_zero, List.getElem?_cons_succ]; rfl); rfl; rfl; (intro K hK; go_big_quiet_op; go_big_quiet_on)) | ((with_reducible apply wpSch_skip); (simp only [List.getElem?_toArray, List.getElem?_cons_zero, List.getElem?_cons_succ]; rfl); rfl; (try simp only [Act.put, List.setIfInBounds_toArray, List.set_cons_zero, List.set_cons_succ])))
      with_reducible apply wpSch_e_k
      (simp only [List.getElem?_toArray, List.getElem?_cons_zero, List.getElem?_cons_succ]; rfl)
      intro K HK
      ((with_reducible apply sStoreO HS); infer_instance; rfl; rfl; (conv => (lhs; whnf)); (repeat (first | exact Rep.here | apply Rep.there)); (simp [hx']); (rw [HL.out, HAL.out]; simp [hx']; omega); exact map_one' _; intro w' H1; clear HS; have HS := H1; clear H1)
      (try simp only [Act.put])
      refine wpList_nil (then_normal (HK.out _ _ ⟨.inl rfl, ?_⟩))
      clear HK K
      refine wpSch_nil ?_
      go_wp2
      go_roundw
      case rel =>
        simp only [HE.out] at HS
        exact ⟨k + 1, by omega, by go_num, HS.tail⟩
      case measure => simp [intOf]; omega
    · obtain rfl : k = D.wait.length := by omega
      rw [List.take_length] at HS
      go_wp2_with (first | ((with_reducible apply sLoad1 HS); infer_instance; rfl; rfl; (repeat (first | exact List.Mem.head _ | apply List.Mem.tail)); rfl) | ((with_reducible apply sStore1 HS); infer_instance; rfl; rfl; (conv => (lhs; whnf)); (repeat (first | exact Rep.here | apply Rep.there)); exact of_decide_eq_true rfl; (first | rfl | exact HS.ownOne (by (repeat (first | exact List.Mem.head _ | apply List.Mem.tail)))); intro w' H1; clear HS; have HS := H1; clear H1; simp only [List.setIfInBounds_toArray, List.set_cons_zero, List.set_cons_succ] at HS))
      go_ret
      refine ⟨.slice none 0 0, rfl, ?_⟩
      have HS2 := HS.lose (L' := _ :: _ :: _ :: _ :: R) (.there (.there (.there .here)))
      exact HS2

/-- What comes through. -/
def through (keep : List Bool) (ws : List (Int × List UInt8)) : List (Int × List UInt8) := (ws.zipIdx.filter fun p => keep.getD p.2 false).map (·.1)
theorem through_succ (keep : List Bool) (ws : List (Int × List UInt8)) (k : Nat) (p : Int × List UInt8) (hp : ws[k]? = some p) : through keep (ws.take (k + 1)) = through keep (ws.take k) ++ (if keep.getD k false then [p] else []) := by
  have hlt := (List.getElem?_eq_some_iff.1 hp).1
  unfold through
  rw [List.take_add_one, hp, Option.toList_some, List.zipIdx_append, List.filter_append, List.map_append, List.length_take, Nat.min_eq_left (by omega)]
  congr 1
  simp only [Nat.zero_add, List.zipIdx_singleton, List.filter_cons, List.filter_nil]
  split <;> simp

def Dk.crash (D : Dk) (keep : List Bool) : Dk := { D with safe := applyW (through keep D.wait) D.safe, now := applyW (through keep D.wait) D.safe, wait := [], left := -1 }
theorem through_mem {keep : List Bool} {ws : List (Int × List UInt8)} {p : Int × List UInt8} (h : p ∈ through keep ws) : p ∈ ws := by
  unfold through at h
  obtain ⟨q, hq, rfl⟩ := List.mem_map.1 h
  obtain ⟨hq, _⟩ := List.mem_filter.1 hq
  exact (List.mem_zipIdx' hq).2 ▸ List.getElem_mem _
theorem getD_ge {α : Type} {l : List α} {i : Nat} {d : α} (h : l.length ≤ i) : l.getD i d = d := by
  rw [List.getD_eq_getElem?_getD, List.getElem?_eq_none h]; rfl
theorem encWs_cell {l : List (Int × List UInt8)} (h : ∀ p ∈ l, p.2.length = 256) {i : Nat} {p : Int × List UInt8} (hi : l[i]? = some p) : (encWs l)[i * 257]? = some (Value.int .i64 p.1) := by
  have h1 := encWs_part h hi 0 (Value.int .i64 p.1) rfl
  rwa [Nat.add_zero] at h1
theorem encWs_block {l : List (Int × List UInt8)} (h : ∀ p ∈ l, p.2.length = 256) {i : Nat} {p : Int × List UInt8} (hi : l[i]? = some p) : ∀ j v, (p.2.map bv)[j]? = some v → (encWs l)[i * 257 + 1 + j]? = some v := by
  intro j v hj
  have h1 := encWs_part h hi (j + 1) v (by rw [List.getElem?_cons_succ]; exact hj)
  rwa [show i * 257 + 1 + j = i * 257 + (j + 1) by omega]

set_option maxRecDepth 100000 in
set_option maxHeartbeats 4000000 in
theorem dk_crash (HS : St S w0 w (diskA D n B g1 c1 g2 c2 vw ++ R)) (hok : D.Ok n) (keep : List Bool) (ak : Option Addr) (kc : Nat) (hkl : keep.length ≤ 9223372036854775807) (hkeep : keep = [] ∨ ∃ K o, ak = some ⟨K, o, none⟩ ∧ ∀ w', Hd R w' → w'.rangeAt K o (keep.map Value.bool)) :
    Calls Try.prog 21 #[.pointer (some ⟨B, 0, none⟩), .slice ak keep.length kc] w fun e w' => ∃ vw', e = .returned (.tuple #[]) ∧ St S w0 w' (diskA (D.crash keep) n B g1 c1 g2 c2 vw' ++ R) := by
  have HKL : Hid (∀ i, keep.getD i false = true → i < keep.length) := fun i h => by
    rcases Nat.lt_or_ge i keep.length with h1 | h1
    · exact h1
    · rw [getD_ge h1] at h; cases h
  have HKR := Lib.hid hkeep
  have hnn : 1 ≤ n := hok.n0
  have hn2 : n ≤ 2048 := hok.n1
  have HSL : all256 (applyW (through keep D.wait) D.safe) := applyW_256 _ (fun p hp => (hok.waitB p (through_mem hp)).2.2) _ hok.safeB
  have HSN := Lib.hid (show (applyW (through keep D.wait) D.safe).length = n by rw [applyW_len, hok.safe])
  have HSE := Lib.hid (encBs_len HSL)
  have HNE := Lib.hid (encBs_len hok.nowB)
  have HNN := Lib.hid hok.now
  have HSB : Hid ((encBs D.safe).length = n * 256) := (encBs_len hok.safeB).trans (by rw [hok.safe])
  clear hkeep HSL
  rcases vw_cases HS with ⟨rfl, hw⟩ | ⟨gw, cw, rfl⟩
  · have hthr : through keep D.wait = [] := by rw [hw]; rfl
    have HT := Lib.hid hthr
    have HSF : Hid (D.wait = []) := hw
    clear hthr hw
    go_enter Try.func21, Try.ntmps21
    go_wp2_with (first | (go_at_call 30; refine (dk_none (D := D) (n := n) (B := B) (g1 := g1) (c1 := c1) (g2 := g2) (c2 := c2) (R := R) HS).mono ?_; rintro e w' ⟨rfl, rfl⟩) | ((with_reducible apply sLoad1 HS); infer_instance; rfl; rfl; (repeat (first | exact List.Mem.head _ | apply List.Mem.tail)); rfl))
    refine wp_loop_once ?_
    go_wp2_with (first | ((with_reducible apply sLoad1 HS); infer_instance; rfl; rfl; (repeat (first | exact List.Mem.head _ | apply List.Mem.tail)); rfl) | ((with_reducible apply sStore1 HS); infer_instance; rfl; rfl; (conv => (lhs; whnf)); (repeat (first | exact Rep.here | apply Rep.there)); exact of_decide_eq_true rfl; (first | rfl | exact HS.ownOne (by (repeat (first | exact List.Mem.head _ | apply List.Mem.tail)))); intro w' H1; clear HS; have HS := H1; clear H1; simp only [List.setIfInBounds_toArray, List.set_cons_zero, List.set_cons_succ] at HS))
    (try simp only [Act.put])
    refine wp_region_sch (.q 0 (.q 1 (.q 2 (.q 3 (.q 4 (.q 5 (.q 6 (.q 7 (.e 8 (.nil)))))))))) (Hd [.blk true B #[.slice (some ⟨g1, 0, none⟩) n c1, .slice (some ⟨g2, 0, none⟩) n c2, .slice none 0 0, .int .i64 D.acts, .int .i64 (-1)] 68]) (by kernel_rfl) (by kernel_rfl) (fun _ _ d _ _ h => by cases d <;> exact h) ?_
    intro w1 hm1
    replace HS := HS.fresh hm1
    clear hm1
    refine ⟨HS.hd (by (repeat (first | exact subNil | (refine subCons ?_ ?_; (repeat (first | exact List.Mem.head _ | apply List.Mem.tail)))))), ?_⟩
    repeat (first | ((with_reducible apply cLoad1); (simp only [List.getElem?_toArray, List.getElem?_cons_zero, List.getElem?_cons_succ]; rfl); infer_instance; rfl; rfl; (repeat (first | exact List.Mem.head _ | apply List.Mem.tail)); rfl; (try simp only [Act.put, List.setIfInBounds_toArray, List.set_cons_zero, List.set_cons_succ])) | ((with_reducible apply wpSch_nilCheck); (simp only [List.getElem?_toArray, List.getElem?_cons_zero, List.getElem?_cons_succ]; rfl); rfl; rfl; (try simp only [Act.put, List.setIfInBounds_toArray, List.set_cons_zero, List.set_cons_succ])) | ((with_reducible apply wpSch_plain); (simp only [List.getElem?_toArray, List.getElem?_cons_zero, List.getElem?_cons_succ]; rfl); rfl; rfl; (intro K hK; go_big_quiet_op; go_big_quiet_on)) | ((with_reducible apply wpSch_skip); (simp only [List.getElem?_toArray, List.getElem?_cons_zero, List.getElem?_cons_succ]; rfl); rfl; (try simp only [Act.put, List.setIfInBounds_toArray, List.set_cons_zero, List.set_cons_succ])))
    with_reducible apply wpSch_e_k
    (simp only [List.getElem?_toArray, List.getElem?_cons_zero, List.getElem?_cons_succ]; rfl)
    intro K HK
    ((with_reducible apply sCopyO HS Try.underlying24 infoB1); rfl; rfl; (repeat (first | exact Rep.here | apply Rep.there)); exact news_range (HS.ownRange (by (repeat (first | exact List.Mem.head _ | apply List.Mem.tail)))); (rw [HSB.out, Nat.min_self]); exact encBs_one _; intro w' H1'; clear HS; have HS := H1'; clear H1')
    (try simp only [Act.put, List.setIfInBounds_toArray, List.set_cons_zero, List.set_cons_succ])
    refine wpList_nil (then_normal (HK.out _ _ ⟨.inl rfl, ?_⟩))
    clear HK K
    refine wpSch_nil ?_
    go_wp2
    go_end0
    refine ⟨.slice none 0 0, rfl, ?_⟩
    have e : D.crash keep = { D with safe := D.safe, now := D.safe, wait := [], left := -1 } := by unfold Dk.crash; rw [HT.out]; rfl
    rw [e]
    simp only [diskA, List.cons_append, List.nil_append]
    rw [HSF.out] at HS
    simp only [spl_all _ _ (show (encBs D.safe).length = (encBs D.now).length by rw [HNE.out, HNN.out, HSB.out])] at HS
    exact HS
  have hwn := hok.waitN
  go_enter Try.func21, Try.ntmps21
  go_wp2_with (first | (go_at_call 30; refine (dk_none (D := D) (n := n) (B := B) (g1 := g1) (c1 := c1) (g2 := g2) (c2 := c2) (R := R) HS).mono ?_; rintro e w' ⟨rfl, rfl⟩) | ((with_reducible apply sLoad1 HS); infer_instance; rfl; rfl; (repeat (first | exact List.Mem.head _ | apply List.Mem.tail)); rfl))
  go_loopw [12] (fun i wr => ∃ k : Nat, k ≤ D.wait.length ∧ i = .int .i64 k ∧ St S w0 wr (diskA { D with safe := applyW (through keep (D.wait.take k)) D.safe } n B g1 c1 g2 c2 (.slice (some ⟨gw, 0, none⟩) D.wait.length cw) ++ R)) (fun i _ => D.wait.length - (intOf i).toNat)
  case atStart => exact ⟨0, by omega, rfl, HS⟩
  case round =>
    obtain ⟨k, hk, rfl, HS⟩ := hrel
    simp only [diskA, List.cons_append, List.nil_append] at HS
    by_cases hlt : k < D.wait.length
    · obtain ⟨p, hp⟩ : ∃ p, D.wait[k]? = some p := ⟨_, List.getElem?_eq_getElem hlt⟩
      obtain ⟨hp0, hp1, hx⟩ := hok.waitB p (List.mem_of_getElem? hp)
      have HW0 := Lib.hid (encWs_cell (fun p hp => (hok.waitB p hp).2.2) hp)
      have HW1 := Lib.hid (encWs_block (fun p hp => (hok.waitB p hp).2.2) hp)
      have HTS := Lib.hid (through_succ keep D.wait k p hp)
      obtain ⟨b, x⟩ := p
      obtain ⟨b, rfl⟩ : ∃ b' : Nat, b = b' := ⟨b.toNat, by have : 0 ≤ b := hp0; omega⟩
      have hb0 : (0 : Int) ≤ (b : Int) := hp0
      have hb1 : (b : Int) < (n : Int) := hp1
      have hx' : x.length = 256 := hx
      have HA : all256 (applyW (through keep (D.wait.take k)) D.safe) := applyW_256 _ (fun p hp => (hok.waitB p (List.mem_of_mem_take (through_mem hp))).2.2) _ hok.safeB
      have HAL := Lib.hid (show (applyW (through keep (D.wait.take k)) D.safe).length = n by rw [applyW_len, hok.safe])
      have HL := Lib.hid (encBs_len HA)
      rcases Bool.eq_false_or_eq_true (keep.getD k false) with hkk | hkk
      · have hkl2 : k < keep.length := HKL.out k hkk
        obtain ⟨K, o, rfl, hr⟩ : ∃ K o, ak = some ⟨K, o, none⟩ ∧ ∀ w', Hd R w' → w'.rangeAt K o (keep.map Value.bool) := HKR.out.resolve_left (fun e => by rw [e] at hkl2; simp at hkl2)
        have HR3 := Lib.hid (hr _ (HS.hd (fun A hA => .tail _ (.tail _ (.tail _ (.tail _ hA))))))
        have HKV : Hid ((keep.map Value.bool)[k]? = some (.bool true)) := by
          show _ = _
          rw [List.getElem?_map, getD_some (d := false) hkl2, hkk]; rfl
        have HE : Hid (spl (encBs (applyW (through keep (D.wait.take k)) D.safe)) (b * 256) (x.map bv) = encBs (applyW (through keep (D.wait.take (k + 1))) D.safe)) := by
          show _ = _
          rw [encBs_set HA hx' (by have := HAL.out; omega), HTS.out, if_pos hkk, applyW_snoc]
          rfl
        have hkd : decide ((k : Int) < (keep.length : Int)) = true := by simpa using hkl2
        clear hp0 hp1 hp HA hx hr hkk
        go_wp2_with (first | ((with_reducible apply sLoadR1 (inferInstance : Plain Try.prog 4) HR3.out); rfl; rfl; exact HKV.out) | ((with_reducible apply sLoad1 HS); infer_instance; rfl; rfl; (repeat (first | exact List.Mem.head _ | apply List.Mem.tail)); rfl))
        (try simp only [Act.put])
        refine wp_region_sch (.q 0 (.q 1 (.q 2 (.q 3 (.q 4 (.q 5 (.q 6 (.q 7 (.q 8 (.q 9 (.q 10 (.q 11 (.q 12 (.q 13 (.q 14 (.q 15 (.q 16 (.q 17 (.q 18 (.q 19 (.q 20 (.e 21 (.nil))))))))))))))))))))))) (Hd [.blk true B #[.slice (some ⟨g1, 0, none⟩) n c1, .slice (some ⟨g2, 0, none⟩) n c2, .slice (some ⟨gw, 0, none⟩) D.wait.length cw, .int .i64 D.acts, .int .i64 D.left] 68, .own (.slice (some ⟨gw, 0, none⟩) D.wait.length cw) 75 257 D.wait.length (encWs D.wait)]) (by kernel_rfl) (by kernel_rfl) (fun _ _ d _ _ h => by cases d <;> exact h) ?_
        intro w1 hm1
        replace HS := HS.fresh hm1
        clear hm1
        refine ⟨HS.hd (by (repeat (first | exact subNil | (refine subCons ?_ ?_; (repeat (first | exact List.Mem.head _ | apply List.Mem.tail)))))), ?_⟩
        repeat (first | ((with_reducible apply cLoad1); (simp only [List.getElem?_toArray, List.getElem?_cons_zero, List.getElem?_cons_succ]; rfl); infer_instance; rfl; rfl; (repeat (first | exact List.Mem.head _ | apply List.Mem.tail)); rfl; (try simp only [Act.put, List.setIfInBounds_toArray, List.set_cons_zero, List.set_cons_succ])) | ((with_reducible apply cLoadO1); (simp only [List.getElem?_toArray, List.getElem?_cons_zero, List.getElem?_cons_succ]; rfl); infer_instance; rfl; rfl; (repeat (first | exact List.Mem.head _ | apply List.Mem.tail)); exact HW0.out; (try simp only [Act.put, List.setIfInBounds_toArray, List.set_cons_zero, List.set_cons_succ])) | ((with_reducible apply cLoadO); (simp only [List.getElem?_toArray, List.getElem?_cons_zero, List.getElem?_cons_succ]; rfl); infer_instance; rfl; rfl; (repeat (first | exact List.Mem.head _ | apply List.Mem.tail)); exact HW1.out; (rw [List.length_map]; exact hx'); (try simp only [Act.put, List.setIfInBounds_toArray, List.set_cons_zero, List.set_cons_succ])) | ((with_reducible apply wpSch_nilCheck); (simp only [List.getElem?_toArray, List.getElem?_cons_zero, List.getElem?_cons_succ]; rfl); rfl; rfl; (try simp only [Act.put, List.setIfInBounds_toArray, List.set_cons_zero, List.set_cons_succ])) | ((with_reducible apply wpSch_plain); (simp only [List.getElem?_toArray, List.getElem?_cons_zero, List.getElem?_cons_succ]; rfl); rfl; rfl; (intro K hK; go_big_quiet_op; go_big_quiet_on)) | ((with_reducible apply wpSch_skip); (simp only [List.getElem?_toArray, List.getElem?_cons_zero, List.getElem?_cons_succ]; rfl); rfl; (try simp only [Act.put, List.setIfInBounds_toArray, List.set_cons_zero, List.set_cons_succ])))
        with_reducible apply wpSch_e_k
        (simp only [List.getElem?_toArray, List.getElem?_cons_zero, List.getElem?_cons_succ]; rfl)
        intro K HK
        ((with_reducible apply sStoreO HS); infer_instance; rfl; rfl; (conv => (lhs; whnf)); (repeat (first | exact Rep.here | apply Rep.there)); (simp [hx']); (rw [HL.out, HAL.out]; simp [hx']; omega); exact map_one' _; intro w' H1; clear HS; have HS := H1; clear H1)
        (try simp only [Act.put])
        refine wpList_nil (then_normal (HK.out _ _ ⟨.inl rfl, ?_⟩))
        clear HK K
        refine wpSch_nil ?_
        go_wp2
        go_roundw
        case rel =>
          simp only [HE.out] at HS
          exact ⟨k + 1, by omega, by go_num, HS⟩
        case measure => simp [intOf]; omega
      · have HE : Hid (through keep (D.wait.take (k + 1)) = through keep (D.wait.take k)) := by
          show _ = _
          rw [HTS.out, if_neg (by rw [hkk]; simp), List.append_nil]
        by_cases hkl2 : k < keep.length
        · obtain ⟨K, o, rfl, hr⟩ : ∃ K o, ak = some ⟨K, o, none⟩ ∧ ∀ w', Hd R w' → w'.rangeAt K o (keep.map Value.bool) := HKR.out.resolve_left (fun e => by rw [e] at hkl2; simp at hkl2)
          have HR3 := Lib.hid (hr _ (HS.hd (fun A hA => .tail _ (.tail _ (.tail _ (.tail _ hA))))))
          have HKV : Hid ((keep.map Value.bool)[k]? = some (.bool false)) := by
            show _ = _
            rw [List.getElem?_map, getD_some (d := false) hkl2, hkk]; rfl
          have hkd : decide ((k : Int) < (keep.length : Int)) = true := by simpa using hkl2
          clear hp0 hp1 hp HA hx hr hkk
          go_wp2_with (first | ((with_reducible apply sLoadR1 (inferInstance : Plain Try.prog 4) HR3.out); rfl; rfl; exact HKV.out) | ((with_reducible apply sLoad1 HS); infer_instance; rfl; rfl; (repeat (first | exact List.Mem.head _ | apply List.Mem.tail)); rfl))
          go_roundw
          case rel => exact ⟨k + 1, by omega, by go_num, by rw [HE.out]; exact HS⟩
          case measure => simp [intOf]; omega
        · have hkd : decide ((k : Int) < (keep.length : Int)) = false := by simpa using hkl2
          clear hp0 hp1 hp HA hx hkk
          go_wp2_with (first | ((with_reducible apply sLoad1 HS); infer_instance; rfl; rfl; (repeat (first | exact List.Mem.head _ | apply List.Mem.tail)); rfl))
          go_roundw
          case rel => exact ⟨k + 1, by omega, by go_num, by rw [HE.out]; exact HS⟩
          case measure => simp [intOf]; omega
    · obtain rfl : k = D.wait.length := by omega
      rw [List.take_length] at HS
      go_wp2_with (first | ((with_reducible apply sLoad1 HS); infer_instance; rfl; rfl; (repeat (first | exact List.Mem.head _ | apply List.Mem.tail)); rfl) | ((with_reducible apply sStore1 HS); infer_instance; rfl; rfl; (conv => (lhs; whnf)); (repeat (first | exact Rep.here | apply Rep.there)); exact of_decide_eq_true rfl; (first | rfl | exact HS.ownOne (by (repeat (first | exact List.Mem.head _ | apply List.Mem.tail)))); intro w' H1; clear HS; have HS := H1; clear H1; simp only [List.setIfInBounds_toArray, List.set_cons_zero, List.set_cons_succ] at HS))
      (try simp only [Act.put])
      refine wp_region_sch (.q 0 (.q 1 (.q 2 (.q 3 (.q 4 (.q 5 (.q 6 (.q 7 (.e 8 (.nil)))))))))) (Hd [.blk true B #[.slice (some ⟨g1, 0, none⟩) n c1, .slice (some ⟨g2, 0, none⟩) n c2, .slice none 0 0, .int .i64 D.acts, .int .i64 (-1)] 68]) (by kernel_rfl) (by kernel_rfl) (fun _ _ d _ _ h => by cases d <;> exact h) ?_
      intro w1 hm1
      replace HS := HS.fresh hm1
      clear hm1
      refine ⟨HS.hd (by (repeat (first | exact subNil | (refine subCons ?_ ?_; (repeat (first | exact List.Mem.head _ | apply List.Mem.tail)))))), ?_⟩
      repeat (first | ((with_reducible apply cLoad1); (simp only [List.getElem?_toArray, List.getElem?_cons_zero, List.getElem?_cons_succ]; rfl); infer_instance; rfl; rfl; (repeat (first | exact List.Mem.head _ | apply List.Mem.tail)); rfl; (try simp only [Act.put, List.setIfInBounds_toArray, List.set_cons_zero, List.set_cons_succ])) | ((with_reducible apply wpSch_nilCheck); (simp only [List.getElem?_toArray, List.getElem?_cons_zero, List.getElem?_cons_succ]; rfl); rfl; rfl; (try simp only [Act.put, List.setIfInBounds_toArray, List.set_cons_zero, List.set_cons_succ])) | ((with_reducible apply wpSch_plain); (simp only [List.getElem?_toArray, List.getElem?_cons_zero, List.getElem?_cons_succ]; rfl); rfl; rfl; (intro K hK; go_big_quiet_op; go_big_quiet_on)) | ((with_reducible apply wpSch_skip); (simp only [List.getElem?_toArray, List.getElem?_cons_zero, List.getElem?_cons_succ]; rfl); rfl; (try simp only [Act.put, List.setIfInBounds_toArray, List.set_cons_zero, List.set_cons_succ])))
      with_reducible apply wpSch_e_k
      (simp only [List.getElem?_toArray, List.getElem?_cons_zero, List.getElem?_cons_succ]; rfl)
      intro K HK
      ((with_reducible apply sCopyO HS Try.underlying24 infoB1); rfl; rfl; (repeat (first | exact Rep.here | apply Rep.there)); exact news_range (HS.ownRange (by (repeat (first | exact List.Mem.head _ | apply List.Mem.tail)))); (rw [HSE.out, HSN.out, Nat.min_self]); exact encBs_one _; intro w' H1'; clear HS; have HS := H1'; clear H1')
      (try simp only [Act.put, List.setIfInBounds_toArray, List.set_cons_zero, List.set_cons_succ])
      refine wpList_nil (then_normal (HK.out _ _ ⟨.inl rfl, ?_⟩))
      clear HK K
      refine wpSch_nil ?_
      go_wp2
      go_end0
      refine ⟨.slice none 0 0, rfl, ?_⟩
      simp only [spl_all _ _ (show (encBs (applyW (through keep D.wait) D.safe)).length = (encBs D.now).length by rw [HNE.out, HNN.out, HSE.out, HSN.out])] at HS
      have HS2 := HS.lose (L' := _ :: _ :: _ :: _ :: R) (.there (.there (.there .here)))
      exact HS2
end
end Go.Proofs.Ytfdomknagcdpeaa
