/- Which blocks a transaction may name: the program's word, the reference's word. -/
import Derived.Test.YtaiggaelnaaoaaaGeoWhat3
import Derived.Test.YtaiggaelnaaoaaaGeoAll
namespace Go.Proofs.Ytaiggaelnaaoaaa
open Go.RowKit

def outB (G S I J b : Int) : Bool := decide ((gWhat G S I J b).1 ≠ 0 ∧ (gWhat G S I J b).1 ≠ 3)

theorem outB_eq (G S I J b : Int) : outB G S I J b = decide (0 ≤ b ∧ b < gBlocks G S I J ∧ (b < 2 ∨ 2 + J ≤ b)) := by
  unfold outB gBlocks gWhat
  rw [decide_eq_decide]
  cases h : gMay G S I J
  · simp; omega
  · obtain ⟨h1, h2, h3, h4, h5, h6, h7, h8, h9, h10, h11⟩ := (gMay_iff G S I J).1 h
    obtain ⟨hm0, hm1⟩ := mul_bd G S h1 h2 h3 h4
    simp only [Bool.true_eq_false, false_or, if_true]
    repeat' split
    all_goals (first | (dsimp only; omega) | omega)

theorem scan_out (G S I J b : Int) (w : World) :
    Calls Try.prog 7 #[.agg #[.int .i64 G, .int .i64 S, .int .i64 I, .int .i64 J], .int .i64 b] w fun e w' => e = .returned (.bool (outB G S I J b)) ∧ Below w.heap.size w w' := by
  obtain ⟨k, hk⟩ : ∃ k, (gWhat G S I J b).1 = k := ⟨_, rfl⟩
  have HK := Lib.hid hk
  clear hk
  go_enter Try.func7, Try.ntmps7
  go_wp2_with fail
  refine (geo_what _ _ _ _ _ _).mono ?_
  rintro e w1 ⟨rfl, hb⟩
  have HB := Lib.hid (((Below.refl _ _).alloc (Nat.le_refl _) _).trans (hb.mono (by simp)))
  clear hb
  unfold trip
  rw [HK.out]
  go_wp2
  · go_ret
    exact ⟨ret_bool (by rw [outB, HK.out]; symm; rw [decide_eq_false_iff_not]; omega), HB.out⟩
  · go_ret
    exact ⟨ret_bool (by rw [outB, HK.out, Bool.eq_iff_iff]; simp), HB.out⟩

theorem ref_out (G S I J b : Int) (w : World) :
    Calls Try.prog 8 #[.agg #[.int .i64 G, .int .i64 S, .int .i64 I, .int .i64 J], .int .i64 b] w fun e w' => e = .returned (.bool (outB G S I J b)) ∧ Below w.heap.size w w' := by
  have HO : Hid (outB G S I J b = decide (0 ≤ b ∧ b < gBlocks G S I J ∧ (b < 2 ∨ 2 + J ≤ b))) := outB_eq G S I J b
  have hbl : b < gBlocks G S I J → 40 ≤ J ∧ J ≤ 256 ∧ gBlocks G S I J ≤ 2048 ∨ b < 0 := by
    intro hlt
    cases h : gMay G S I J
    · simp [gBlocks, h] at hlt; omega
    · obtain ⟨h1, h2, h3, h4, h5, h6, h7, h8, h9, h10, h11⟩ := (gMay_iff G S I J).1 h
      simp only [gBlocks, h, if_true]; omega
  generalize hn : gBlocks G S I J = n at *
  have HN := Lib.hid hn
  clear hn
  have K : ∀ w' : World, Below w.heap.size (w.alloc (.cells #[.int .i64 G, .int .i64 S, .int .i64 I, .int .i64 J] 25)) w' → True := fun _ _ => trivial
  by_cases c0 : 0 ≤ b
  · by_cases c1 : b < n
    · have hJ := hbl c1
      by_cases c2 : b < 2
      all_goals
        go_enter Try.func8, Try.ntmps8
        go_wp2_with fail
        refine (rblocks _ _ _ _ _).mono ?_
        rintro e w1 ⟨rfl, hb⟩
        rw [HN.out]
        obtain ⟨hc, hf⟩ := bcell hb
        have HB := Lib.hid (((Below.refl _ _).alloc (Nat.le_refl _) _).trans (hb.mono (by simp)))
        have cg : w1.cell? ⟨w.heap.size, 3, none⟩ = some (.int .i64 J) := by rw [hc _ _ (by simp)]; simp [go_sem]
        clear hb hc hf
        go_wp2
        go_ret
        exact ⟨ret_bool (by rw [HO.out]; first | (rw [decide_eq_decide]; omega) | (rw [Bool.eq_iff_iff]; simp only [Bool.or_eq_true, Bool.and_eq_true, decide_eq_true_iff]; omega) | (symm; rw [decide_eq_true_iff]; omega) | (symm; rw [decide_eq_false_iff_not]; omega)), HB.out⟩
    · go_enter Try.func8, Try.ntmps8
      go_wp2_with fail
      refine (rblocks _ _ _ _ _).mono ?_
      rintro e w1 ⟨rfl, hb⟩
      rw [HN.out]
      have HB := Lib.hid (((Below.refl _ _).alloc (Nat.le_refl _) _).trans (hb.mono (by simp)))
      clear hb
      go_wp2
      go_ret
      exact ⟨ret_bool (by rw [HO.out]; first | (rw [decide_eq_decide]; omega) | (rw [Bool.eq_iff_iff]; simp only [Bool.or_eq_true, Bool.and_eq_true, decide_eq_true_iff]; omega) | (symm; rw [decide_eq_true_iff]; omega) | (symm; rw [decide_eq_false_iff_not]; omega)), HB.out⟩
  · go_enter Try.func8, Try.ntmps8
    go_wp2_with fail
    refine (rblocks _ _ _ _ _).mono ?_
    rintro e w1 ⟨rfl, hb⟩
    rw [HN.out]
    have HB := Lib.hid (((Below.refl _ _).alloc (Nat.le_refl _) _).trans (hb.mono (by simp)))
    clear hb
    go_wp2
    go_ret
    exact ⟨ret_bool (by rw [HO.out]; first | (rw [decide_eq_decide]; omega) | (rw [Bool.eq_iff_iff]; simp only [Bool.or_eq_true, Bool.and_eq_true, decide_eq_true_iff]; omega) | (symm; rw [decide_eq_true_iff]; omega) | (symm; rw [decide_eq_false_iff_not]; omega)), HB.out⟩
end Go.Proofs.Ytaiggaelnaaoaaa
