/- More of paths and names, in plain Lean. -/
import Derived.Test.YtaponmniedjkiaaNlc
namespace Go.Proofs.Ytaponmniedjkiaa
open Go Go.RowKit

theorem segs_slash : ∀ l : List UInt8, segs (l ++ [47]) = segs l ++ [[]]
  | [] => rfl
  | b :: l => by
    have ih := segs_slash l
    rw [List.cons_append]
    unfold segs
    by_cases hb : b = 47
    · rw [if_pos hb, if_pos hb, ih]; rfl
    · rw [if_neg hb, if_neg hb, ih]
      cases hs : segs l with
      | nil => exact absurd hs (segs_ne l)
      | cons a t => rfl
theorem splitN_not {p : List UInt8} (h : p.head? ≠ some 47 ∨ (rowP p).all okN = false) : (splitN p).1 ≠ 0 := by
  intro e
  obtain ⟨_, h1, h2, _⟩ := splitN_ok e
  rcases h with h | h
  · exact h h1
  · rw [h2] at h; cases h
/-- With a / behind it, a path is none. -/
theorem split_slash {b : UInt8} {r : List UInt8} : (splitN ((b :: r) ++ [47])).1 ≠ 0 := by
  apply splitN_not
  by_cases hb : b = 47
  · right
    subst hb
    rw [List.cons_append, rowP_cons (by simp), segs_slash, List.all_append]
    simp [okN_nil]
  · left
    simpa using hb
theorem split_two {r : List UInt8} : (splitN (47 :: 47 :: r)).1 ≠ 0 := by
  apply splitN_not
  right
  rw [rowP_cons (by simp), segs, if_pos rfl]
  simp [okN_nil]
theorem split_none {p : List UInt8} (h : (splitN p).1 ≠ 0) : ∃ q, q ≠ 0 ∧ splitN p = (q, []) := ⟨_, h, by rw [← splitN_bad h]⟩

/-- One name alone. -/
theorem join_one_ok {x : List UInt8} (h : okN x = true) : joinN [x] = (0, 47 :: x) ∧ splitN (47 :: x) = (0, [x]) := by
  have hx := okN_pos h
  have h1 : joinN [x] = (0, 47 :: x) := by
    rw [joinN_mk (by rw [pathOf_one]; simp; omega) (by simp [h]) (by simp), pathOf_one]
  refine ⟨h1, ?_⟩
  have := join_split (l := [x]) (by rw [h1])
  rwa [h1] at this
theorem join_one_bad {x : List UInt8} (h : okN x = false) : joinN [x] = (290, []) ∨ (joinN [x] = (3, []) ∧ 512 ≤ x.length) := by
  unfold joinN
  rw [pathOf_one]
  by_cases h1 : 512 < (47 :: x).length
  · rw [if_pos h1]; exact .inr ⟨rfl, by simp at h1; omega⟩
  · rw [if_neg h1, if_pos (by simp [h])]; exact .inl rfl

/-- A path's names, with one more. -/
theorem below_path {p x : List UInt8} (h : (splitN p).1 = 0) (hx : okN x = true) :
    (if (splitN p).2 = [] then 47 :: x else p ++ 47 :: x) = pathOf ((splitN p).2 ++ [x]) ∧
    splitN (pathOf ((splitN p).2 ++ [x])) = if 512 < (pathOf ((splitN p).2 ++ [x])).length then (3, []) else if (splitN p).2.length = 16 then (4, []) else (0, (splitN p).2 ++ [x]) := by
  obtain ⟨h1, h2, h3, h4, h5⟩ := splitN_ok h
  rw [h5]
  simp only
  have hall : (rowP p ++ [x]).all okN = true := by rw [List.all_append, h3]; simp [hx]
  refine ⟨?_, ?_⟩
  · by_cases h0 : rowP p = []
    · rw [if_pos h0, h0, List.nil_append, pathOf_one]
    · rw [if_neg h0, pathOf_snoc _ h0, pathOf_rowP h2]
  · unfold splitN
    rw [rowP_pathOf hall]
    have hl : (rowP p ++ [x]).length = (rowP p).length + 1 := by simp
    by_cases hb : 512 < (pathOf (rowP p ++ [x])).length
    · rw [if_pos hb, if_pos hb]
    · rw [if_neg hb, if_neg hb, if_neg (show ¬ (pathOf (rowP p ++ [x])).head? ≠ some 47 by simp [pathOf]), if_neg (by rw [hall]; simp), hl]
      by_cases h6 : (rowP p).length = 16
      · rw [if_pos (by omega), if_pos h6]
      · rw [if_neg (by omega), if_neg h6]
end Go.Proofs.Ytaponmniedjkiaa
