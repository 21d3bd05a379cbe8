/- Rows of numbers that rise: plain facts. -/
import Derived.Test.YtckadanghhibhaaBack
namespace Go.Proofs.Ytckadanghhibhaa
open Go.RowKit

def upto (l : List Int) (k : Nat) : Bool := (List.range (k - 1)).all fun i => decide (l.getD i 0 < l.getD (i + 1) 0)
theorem upto_all (l : List Int) : upto l l.length = risesN l := rfl
theorem upto_zero (l : List Int) : upto l 0 = true := rfl
theorem upto_one (l : List Int) : upto l 1 = true := rfl
theorem upto_succ (l : List Int) (k : Nat) : upto l (k + 1 + 1) = (upto l (k + 1) && decide (l.getD k 0 < l.getD (k + 1) 0)) := by
  unfold upto
  rw [show k + 1 + 1 - 1 = k + 1 by omega, show k + 1 - 1 = k by omega, List.range_succ, List.all_append]
  simp
def plainT (l : List Int) : List (Int × Bool) := l.map fun x => (x, false)
theorem plainT_len (l : List Int) : (plainT l).length = l.length := by simp [plainT]
theorem plainT_get (l : List Int) (k : Nat) : (plainT l).getD k (0, false) = (l.getD k 0, false) := by
  unfold plainT
  rw [List.getD_eq_getElem?_getD, List.getElem?_map, List.getD_eq_getElem?_getD]
  cases l[k]? <;> rfl
theorem plainT_rises (l : List Int) : risesT (plainT l) = risesN l := by
  unfold risesT risesN
  rw [plainT_len]
  congr 1
  funext i
  rw [plainT_get, plainT_get]
theorem rises_take (l : List Int) (n : Nat) (h : risesN l = true) : risesN (l.take n) = true := by
  rw [risesN_iff] at h ⊢
  intro i hi
  rw [List.length_take] at hi
  have h1 : (l.take n).getD i 0 = l.getD i 0 := by rw [List.getD_eq_getElem?_getD, List.getElem?_take, if_pos (by omega), List.getD_eq_getElem?_getD]
  have h2 : (l.take n).getD (i + 1) 0 = l.getD (i + 1) 0 := by rw [List.getD_eq_getElem?_getD, List.getElem?_take, if_pos (by omega), List.getD_eq_getElem?_getD]
  rw [h1, h2]
  exact h i (by omega)
theorem numsAt_take {w : World} {a : Option Addr} {n : Nat} {l : List Int} (h : NumsAt w a n l) (k : Nat) (hk : k ≤ n) : NumsAt w a k (l.take k) := by
  obtain ⟨h1, h2, L, o, h3, h4⟩ := h
  refine ⟨by rw [List.length_take]; omega, fun j => ?_, L, o, ?_, fun j hj => ?_⟩
  · by_cases hj : j < k
    · rw [List.getD_eq_getElem?_getD, List.getElem?_take, if_pos hj, ← List.getD_eq_getElem?_getD]; exact h2 j
    · rw [List.getD_eq_getElem?_getD, List.getElem?_take, if_neg hj]; simp
  · rcases h3 with h3 | h3
    · exact .inl (by omega)
    · exact .inr h3
  · rw [List.length_take] at hj
    rw [List.getD_eq_getElem?_getD, List.getElem?_take, if_pos (by omega), ← List.getD_eq_getElem?_getD]
    exact h4 j (by omega)
theorem Mod.of_below2 {B : Nat} {a b c : World} (h : Mod none' a b) (hb : Below B b c) (hB : a.heap.size ≤ B) : Mod none' a c :=
  ⟨hb.os.trans h.os, hb.tape.trans h.tape, hb.output.trans h.output, Nat.le_trans h.size hb.size, fun k hk hs => (hb.block k (by omega)).trans (h.same k hk hs)⟩
theorem encT_snoc (l : List (Int × Bool)) (x : Int × Bool) : (encT (l ++ [x])).toList = (encT l).toList ++ #[Value.int .u32 x.1, Value.bool x.2].toList := by simp [encT]
theorem tagsAt_own {w : World} {base n : Nat} {e : TypeId} {v : Value} {l : List (Int × Bool)} (h : w.ownsRow base e 2 v n (encT l).toList) (hn : l.length = n) (hb : ∀ k, 0 ≤ (l.getD k (0, false)).1 ∧ (l.getD k (0, false)).1 < 4294967296) : ∃ a cap, v = .slice a n cap ∧ TagsAt w a n l := by
  obtain ⟨_, ⟨rfl, rfl⟩ | ⟨g, cap, cur, rfl, _, hg, _, _, _, ht⟩⟩ := h
  · exact ⟨none, 0, rfl, hn.symm, hb, 0, 0, .inl rfl, fun k hk => by omega⟩
  · refine ⟨some ⟨g, 0, none⟩, cap, rfl, hn.symm, hb, g, 0, .inr ⟨rfl, lt_of_row hg⟩, fun k hk => ?_⟩
    obtain ⟨e1, e2⟩ := encT_get l k hk
    rw [← Array.getElem?_toList, ← ht, List.getElem?_take, if_pos (by omega), Array.getElem?_toList] at e1 e2
    rw [Nat.zero_add]
    exact ⟨(cell_of_row _ _ _ _ _ _ hg).trans e1, (cell_of_row _ _ _ _ _ _ hg).trans e2⟩
end Go.Proofs.Ytckadanghhibhaa
