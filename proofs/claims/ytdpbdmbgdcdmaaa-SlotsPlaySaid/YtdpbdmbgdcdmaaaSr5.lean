/- Are slots the same? -/
import Derived.Test.YtdpbdmbgdcdmaaaSr4
import Derived.Test.YtdpbdmbgdcdmaaaEq2
namespace Go.Proofs.Ytdpbdmbgdcdmaaa
open Go Go.RowKit

theorem slot_two : Two2 Try.prog 33 31 9 := ⟨by kernel_rfl, by kernel_rfl, by kernel_rfl, by kernel_rfl⟩
theorem u32As : EqAs Try.prog 31 (Value.int .u32) := eqAs_int Try.underlying31
theorem strAs : EqAs Try.prog 9 Value.string := eqAs_str Try.underlying9
section
variable {S : Nat → Prop} {w0 w : World} {L : List Ass}
theorem sl_parts (l : List Sl) (m : Nat) (y : Sl) (hy : l[m]? = some y) : ∀ j v, [Value.int .u32 y.1, .string y.2][j]? = some v → (encS l)[m * 2 + j]? = some v := encS_part l m y hy
theorem sl_bne (x y : Sl) : (!((x.1 == y.1) && (x.2 == y.2))) = (x != y) := rfl
set_option maxRecDepth 100000 in
set_option maxHeartbeats 8000000 in
theorem rsameS_any (HS : St S w0 w L) (xs ys : List Sl) {a1 a2 : Option Addr} {c1 c2 : Nat} (r1 : xs = [] ∨ ∃ g, a1 = some ⟨g, 0, none⟩ ∧ ∀ w', Hd L w' → w'.rangeAt g 0 (encS xs)) (r2 : ys = [] ∨ ∃ g, a2 = some ⟨g, 0, none⟩ ∧ ∀ w', Hd L w' → w'.rangeAt g 0 (encS ys)) (h1 : xs.length ≤ 100) (h2 : ys.length ≤ 100) :
    Calls Try.prog 12 #[.slice a1 xs.length c1, .slice a2 ys.length c2] w fun e w' => e = .returned (.bool (xs == ys)) ∧ St S w0 w' L := by
  by_cases hnm : xs.length = ys.length
  · have HLN := Lib.hid hnm
    have HR1 := Lib.hid r1
    have HR2 := Lib.hid r2
    have HR : Hid ((∀ (k : Nat) x y, xs[k]? = some x → ys[k]? = some y → x = y) → (xs == ys) = true) := by
      intro h
      rw [beq_iff_eq]
      apply List.ext_getElem hnm
      intro i h1 h2
      exact h i _ _ (List.getElem?_eq_getElem h1) (List.getElem?_eq_getElem h2)
    have HN : Hid (∀ (k : Nat) x y, xs[k]? = some x → ys[k]? = some y → x ≠ y → (xs == ys) = false) := by
      intro k x y hx hy hne
      rw [beq_eq_false_iff_ne]
      intro e; subst e
      rw [hx] at hy; cases hy; exact hne rfl
    generalize (xs == ys) = r at HR HN ⊢
    rw [← hnm]
    clear hnm r1 r2
    go_enter Try.func12, Try.ntmps12
    go_wp2
    go_loopw [5] (fun i wr => ∃ m : Nat, m ≤ xs.length ∧ i = .int .i64 m ∧ Hid (∀ (k : Nat) x y, k < m → xs[k]? = some x → ys[k]? = some y → x = y) ∧ St S w0 wr L) (fun i _ => xs.length - (intOf i).toNat)
    case atStart => exact ⟨0, by omega, rfl, fun k x y h => by omega, HS⟩
    case round =>
      obtain ⟨m, hm, rfl, HA, HS⟩ := hrel
      by_cases hml : m < xs.length
      · obtain ⟨g1, rfl, q1⟩ := HR1.out.resolve_left (fun e => by rw [e] at hml; simp at hml)
        obtain ⟨g2, rfl, q2⟩ := HR2.out.resolve_left (fun e => by have := HLN.out; rw [e, List.length_nil] at this; omega)
        obtain ⟨x, hx⟩ : ∃ x, xs[m]? = some x := ⟨_, List.getElem?_eq_getElem hml⟩
        obtain ⟨y, hy⟩ : ∃ y, ys[m]? = some y := ⟨_, List.getElem?_eq_getElem (by have := HLN.out; omega)⟩
        have HP1 := Lib.hid (sl_parts xs m x hx)
        have HP2 := Lib.hid (sl_parts ys m y hy)
        have HX := Lib.hid hx
        have HY := Lib.hid hy
        have HQ1 : Hid (wr.rangeAt g1 0 (encS xs)) := q1 _ (HS.hd (fun _ h => h))
        have HQ2 : Hid (wr.rangeAt g2 0 (encS ys)) := q2 _ (HS.hd (fun _ h => h))
        clear hx hy q1 q2
        cases hq : (x != y)
        · have HQV : Hid ((!((x.1 == y.1) && (x.2 == y.2))) = false) := hq
          have HQX := Lib.hid hq
          clear hq
          go_wp2
          (try simp only [Act.put])
          refine wp_region_quietF (by kernel_rfl) (by kernel_rfl) ?_
          repeat (first | go_big_quiet_skip | (((with_reducible refine qLoadR (n := 2) (o := 0) (i := m * 2) (B := g1) ?_ HQ1.out ?_ ?_ HP1.out ?_ ?_); infer_instance; rfl; (first | (rw [Nat.zero_add]; done) | (rw [Nat.zero_add]; rfl)); rfl); (try simp only [Act.put, List.setIfInBounds_toArray, List.set_cons_zero, List.set_cons_succ])) | (((with_reducible refine qLoadR (n := 2) (o := 0) (i := m * 2) (B := g2) ?_ HQ2.out ?_ ?_ HP2.out ?_ ?_); infer_instance; rfl; (first | (rw [Nat.zero_add]; done) | (rw [Nat.zero_add]; rfl)); rfl); (try simp only [Act.put, List.setIfInBounds_toArray, List.set_cons_zero, List.set_cons_succ])) | (((with_reducible apply qVal (valNe2 slot_two u32As strAs rfl rfl)); rfl; rw [HQV.out]); (try simp only [Act.put, List.setIfInBounds_toArray, List.set_cons_zero, List.set_cons_succ])) | (go_big_quiet_want; go_big_quiet_op; first | go_big_quiet_on | (refine ⟨_, fun _ _ => rfl, ?_⟩; go_big_quiet_on) | (apply Exists.intro; refine ⟨fun wc hfr => ?_, ?_⟩; (· fail); go_big_quiet_on)))
          refine wpQuiet_nil ?_
          intro w1 hm1
          replace HS := HS.fresh hm1
          clear hm1
          go_wp2
          go_roundw
          case rel =>
            refine ⟨m + 1, by omega, by go_num, fun k x' y' hk hx hy => ?_, HS⟩
            by_cases e : k < m
            · exact HA.out k x' y' e hx hy
            · obtain rfl : k = m := by omega
              rw [HX.out] at hx; rw [HY.out] at hy
              cases hx; cases hy
              simpa [bne] using HQX.out
          case measure => simp [intOf]; omega
        · have HF := Lib.hid (HN.out m x y HX.out HY.out (by simpa [bne] using hq))
          have HQV : Hid ((!((x.1 == y.1) && (x.2 == y.2))) = true) := hq
          clear hq
          go_wp2
          (try simp only [Act.put])
          refine wp_region_quietF (by kernel_rfl) (by kernel_rfl) ?_
          repeat (first | go_big_quiet_skip | (((with_reducible refine qLoadR (n := 2) (o := 0) (i := m * 2) (B := g1) ?_ HQ1.out ?_ ?_ HP1.out ?_ ?_); infer_instance; rfl; (first | (rw [Nat.zero_add]; done) | (rw [Nat.zero_add]; rfl)); rfl); (try simp only [Act.put, List.setIfInBounds_toArray, List.set_cons_zero, List.set_cons_succ])) | (((with_reducible refine qLoadR (n := 2) (o := 0) (i := m * 2) (B := g2) ?_ HQ2.out ?_ ?_ HP2.out ?_ ?_); infer_instance; rfl; (first | (rw [Nat.zero_add]; done) | (rw [Nat.zero_add]; rfl)); rfl); (try simp only [Act.put, List.setIfInBounds_toArray, List.set_cons_zero, List.set_cons_succ])) | (((with_reducible apply qVal (valNe2 slot_two u32As strAs rfl rfl)); rfl; rw [HQV.out]); (try simp only [Act.put, List.setIfInBounds_toArray, List.set_cons_zero, List.set_cons_succ])) | (go_big_quiet_want; go_big_quiet_op; first | go_big_quiet_on | (refine ⟨_, fun _ _ => rfl, ?_⟩; go_big_quiet_on) | (apply Exists.intro; refine ⟨fun wc hfr => ?_, ?_⟩; (· fail); go_big_quiet_on)))
          refine wpQuiet_nil ?_
          intro w1 hm1
          replace HS := HS.fresh hm1
          clear hm1
          go_wp2
          go_ret
          exact ⟨by rw [HF.out]; rfl, HS⟩
      · obtain rfl : m = xs.length := by omega
        go_wp2
        go_ret
        exact ⟨by rw [HR.out (fun k x y hx hy => HA.out k x y (List.getElem?_eq_some_iff.1 hx).1 hx hy)]; rfl, HS⟩
  · have HE : Hid ((xs == ys) = false) := by
      show _ = _
      rw [beq_eq_false_iff_ne]
      intro e; rw [e] at hnm; exact hnm rfl
    have hne : ((xs.length : Int) != (ys.length : Int)) = true := by simp; omega
    clear r1 r2
    go_enter Try.func12, Try.ntmps12
    go_wp2
    go_ret
    exact ⟨by rw [HE.out]; rfl, HS⟩
end
end Go.Proofs.Ytdpbdmbgdcdmaaa
