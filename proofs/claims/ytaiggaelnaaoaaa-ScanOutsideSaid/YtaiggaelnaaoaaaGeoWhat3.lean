/- What a block is, by a geometry: all cases in one. -/
import Derived.Test.YtaiggaelnaaoaaaGeoWhat2
namespace Go.Proofs.Ytaiggaelnaaoaaa
open Go.RowKit

theorem geo_what (G S I J b : Int) (w : World) :
    Calls Try.prog 10 #[.agg #[.int .i64 G, .int .i64 S, .int .i64 I, .int .i64 J], .int .i64 b] w fun e w' => e = .returned (trip (gWhat G S I J b)) ∧ Below w.heap.size w w' := by
  cases h : gMay G S I J
  · have e : gWhat G S I J b = (0, 0, 0) := by simp [gWhat, h]
    rw [e]; exact what_no G S I J b w h
  · obtain ⟨h1, h2, h3, h4, h5, h6, h7, h8, h9, h10, h11⟩ := (gMay_iff G S I J).1 h
    obtain ⟨hm0, hm1⟩ := mul_bd G S h1 h2 h3 h4
    by_cases c0 : b < 0 ∨ 2 + J + G * S ≤ b
    · have e : gWhat G S I J b = (0, 0, 0) := by rw [gWhat, if_pos (Or.inr c0)]
      rw [e]; exact what_out G S I J b w h c0
    · have n0 : ¬ (gMay G S I J = false ∨ b < 0 ∨ 2 + J + G * S ≤ b) := by simp [h]; omega
      by_cases c1 : b = 0
      · have e : gWhat G S I J b = (1, 0, 0) := by rw [gWhat, if_neg n0, if_pos c1]
        rw [e]; exact what_0 G S I J b w h c1
      · by_cases c2 : b = 1
        · have e : gWhat G S I J b = (2, 0, 0) := by rw [gWhat, if_neg n0, if_neg c1, if_pos c2]
          rw [e]; exact what_1 G S I J b w h c2
        · by_cases c3 : b < 2 + J
          · have e : gWhat G S I J b = (3, 0, b - 2) := by rw [gWhat, if_neg n0, if_neg c1, if_neg c2, if_pos c3]
            rw [e]; exact what_j G S I J b w h (by omega) c3
          · exact what_g G S I J b w h (by omega) (by omega)
end Go.Proofs.Ytaiggaelnaaoaaa
