/- What is known of a block that begins empty and takes a list of names, one after the other. -/
import Derived.Test.YtdpbdmbgdcdmaaaSlotsGone
namespace Go.Proofs.Ytdpbdmbgdcdmaaa
open Go Go.RowKit
open Go.Proofs.Ytdpbdmbgdcdmaaa.slotsBack (find_done)
open Go.Proofs.Ytdpbdmbgdcdmaaa.slotsGone (idx_none none_idx empty_ne lfind)

theorem idx_has {l : List Sl} {name : ByteArray} {j : Nat} {y : Sl} (hy : l[j]? = some y) (hq : y.2 = name) : (idxS l name).isSome = true := by
  cases h : idxS l name with
  | some _ => rfl
  | none =>
    have h1 := idx_none h j y hy
    rw [hq, beq_self_eq_true] at h1; cases h1
theorem idx_in {l : List Sl} {name : ByteArray} (h : (idxS l name).isSome = true) : ∃ (j : Nat) (y : Sl), l[j]? = some y ∧ y.2 = name := by
  obtain ⟨j, hj⟩ := Option.isSome_iff_exists.1 h
  obtain ⟨y, hy, hq⟩ := idxS_get hj
  exact ⟨j, y, hy, ba_eq.1 hq⟩

structure Eight (ss : List ByteArray) (i : Nat) (bs : List UInt8) (l : List Sl) (n : Nat) : Prop where
  len : bs.length = 256
  sl : slotsOf bs = some l
  n8 : n ≤ 8
  full : ∀ j y, j < n → l[j]? = some y → y.1 ≠ 0
  free : ∀ j, n ≤ j → j < 8 → l[j]? = some zSl
  old : ∀ s, okName s = true → (idxS l s).isSome = true → ∃ k, k < i ∧ ss[k]? = some s
  all : n < 8 → ∀ k s, k < i → ss[k]? = some s → okName s = true → (idxS l s).isSome = true

theorem Eight.eight {ss : List ByteArray} {i : Nat} {bs : List UInt8} {l : List Sl} {n : Nat} (h : Eight ss i bs l n) : l.length = 8 := slotsTo_len h.sl
theorem Eight.void {ss : List ByteArray} {i : Nat} {bs : List UInt8} {l : List Sl} {n : Nat} (h : Eight ss i bs l n) : ∀ j y, j < n → l[j]? = some y → (y.2 == ByteArray.empty) = false := by
  intro j y hj hy
  rw [void_iff (rdSlot_fine ((slotsOf_iff.1 h.sl).rd j y hy)), beq_eq_false_iff_ne]
  exact h.full j y hj hy
theorem Eight.idx_free {ss : List ByteArray} {i : Nat} {bs : List UInt8} {l : List Sl} {n : Nat} (h : Eight ss i bs l n) (hn : n < 8) : idxS l ByteArray.empty = some n := by
  refine idxS_some (y := zSl) (h.free n (Nat.le_refl _) hn) ?_ (by decide)
  rw [Bool.eq_false_iff]; intro ha
  obtain ⟨z, hz, hq⟩ := List.any_eq_true.1 ha
  obtain ⟨j, hj, rfl⟩ := List.getElem_of_mem hz
  rw [List.length_take] at hj
  rw [List.getElem_take] at hq
  rw [h.void j _ (by omega) (List.getElem?_eq_getElem (by omega))] at hq
  cases hq
theorem Eight.idx_full {ss : List ByteArray} {i : Nat} {bs : List UInt8} {l : List Sl} (h : Eight ss i bs l 8) : idxS l ByteArray.empty = none :=
  none_idx fun j y hy => h.void j y (by have := (List.getElem?_eq_some_iff.1 hy).1; have := h.eight; omega) hy

theorem Eight.step {ss : List ByteArray} {i : Nat} {bs : List UInt8} {l : List Sl} {n : Nat} {s : ByteArray} (h : Eight ss i bs l n) (hs : ss[i]? = some s) (hi : i < 1000) :
    (addOf bs s ((i : Int) + 1) = (bs, 2) ∧ (okName s = false ∨ (okName s = true ∧ ((ss.take i).any fun x => x == s) = true ∧ (findOf bs s).isSome = true)) ∧ Eight ss (i + 1) bs l n) ∨
    (n = 8 ∧ okName s = true ∧ addOf bs s ((i : Int) + 1) = (bs, 4) ∧ (findOf bs s).isSome = false ∧ Eight ss (i + 1) bs l n) ∨
    (n < 8 ∧ okName s = true ∧ ((ss.take i).any fun x => x == s) = false ∧ ∃ bs' l', addOf bs s ((i : Int) + 1) = (bs', 0) ∧ findOf bs' s = some (n, (i : Int) + 1) ∧ Eight ss (i + 1) bs' l' (n + 1)) := by
  have more : ∀ s', okName s' = true → (idxS l s').isSome = true → ∃ k, k < i + 1 ∧ ss[k]? = some s' := fun s' h1 h2 => by
    obtain ⟨k, hk, e⟩ := h.old s' h1 h2
    exact ⟨k, by omega, e⟩
  cases hok : okName s
  · left
    refine ⟨by unfold addOf; rw [h.sl]; simp only; rw [if_pos (.inl hok)], .inl rfl, h.len, h.sl, h.n8, h.full, h.free, more, fun h8 k s' hk e ho => ?_⟩
    rcases Nat.lt_or_ge k i with h1 | h1
    · exact h.all h8 k s' h1 e ho
    · obtain rfl : k = i := by omega
      rw [hs] at e; cases e
      rw [hok] at ho; cases ho
  · cases hx : (idxS l s).isSome
    · have hno : idxS l s = none := by
        cases hq : idxS l s with
        | none => rfl
        | some k => rw [hq] at hx; cases hx
      right
      rcases Nat.lt_or_ge n 8 with h8 | h8
      · right
        have hth : ((ss.take i).any fun x => x == s) = false := by
          rw [Bool.eq_false_iff]; intro ha
          obtain ⟨z, hz, hq⟩ := List.any_eq_true.1 ha
          obtain ⟨k, hk, rfl⟩ := List.getElem_of_mem hz
          rw [List.length_take] at hk
          rw [List.getElem_take] at hq
          have := h.all h8 k s (by omega) (by rw [List.getElem?_eq_getElem (by omega)]; exact congrArg some (ba_eq.1 hq)) hok
          rw [this] at hx; cases hx
        obtain ⟨hA, hs2⟩ := addOf_done (ino := (i : Int) + 1) h.len h.sl hok (by omega) (by omega) hno (h.idx_free h8)
        obtain ⟨hF, hix⟩ := find_done (ino := (i : Int) + 1) hok hno (by rw [h.eight]; exact h8) hs2
        have hfx : Fine ((i : Int) + 1, s) := .inr ⟨by show (0 : Int) < (i : Int) + 1; omega, by show (i : Int) + 1 < 4294967296; omega, hok⟩
        have ne : ∀ j, j ≠ n → (l.set n ((i : Int) + 1, s))[j]? = l[j]? := fun j hj => List.getElem?_set_ne (fun e => hj e.symm)
        have at_ : (l.set n ((i : Int) + 1, s))[n]? = some ((i : Int) + 1, s) := List.getElem?_set_self (by rw [h.eight]; exact h8)
        refine ⟨h8, rfl, hth, _, _, hA, hF, setSlot_len h.len h8 hfx, hs2, by omega, fun j y hj hy => ?_, fun j h1 h2 => ?_, fun s' h1 h2 => ?_, fun h9 k s' hk e ho => ?_⟩
        · by_cases hjn : j = n
          · subst hjn
            rw [at_] at hy; cases hy
            show (i : Int) + 1 ≠ 0
            omega
          · rw [ne j hjn] at hy; exact h.full j y (by omega) hy
        · rw [ne j (by omega)]; exact h.free j (by omega) h2
        · obtain ⟨j, y, hy, e⟩ := idx_in h2
          by_cases hjn : j = n
          · subst hjn
            rw [at_] at hy; cases hy
            exact ⟨i, by omega, by rw [hs]; exact congrArg some e⟩
          · rw [ne j hjn] at hy
            exact more s' h1 (idx_has hy e)
        · rcases Nat.lt_or_ge k i with h1 | h1
          · obtain ⟨j, y, hy, e⟩ := idx_in (h.all h8 k s' h1 e ho)
            by_cases hjn : j = n
            · subst hjn
              rw [h.free _ (Nat.le_refl _) h8] at hy; cases hy
              have := (okName_size ho).1
              rw [← e] at this
              exact absurd this (by decide)
            · exact idx_has (j := j) (y := y) (by rw [ne j hjn]; exact hy) e
          · obtain rfl : k = i := by omega
            rw [hs] at e; cases e
            rw [hix]; rfl
      · left
        obtain rfl : n = 8 := by have := h.n8; omega
        refine ⟨rfl, rfl, ?_, by rw [find_ok h.sl hok]; exact hx, h.len, h.sl, h.n8, h.full, h.free, more, fun h9 => absurd h9 (by omega)⟩
        unfold addOf; rw [h.sl]; simp only
        rw [if_neg (by rw [hok, hx]; simp; omega), h.idx_full]
    · left
      refine ⟨by unfold addOf; rw [h.sl]; simp only; rw [if_pos (.inr (.inr hx))], .inr ⟨rfl, ?_, by rw [find_ok h.sl hok]; exact hx⟩, h.len, h.sl, h.n8, h.full, h.free, more, fun h8 k s' hk e ho => ?_⟩
      · obtain ⟨k, hk, e⟩ := h.old s hok hx
        rw [List.any_eq_true]
        refine ⟨s, ?_, beq_self_eq_true _⟩
        rw [List.mem_iff_getElem?]
        exact ⟨k, by rw [List.getElem?_take_of_lt hk]; exact e⟩
      · rcases Nat.lt_or_ge k i with h1 | h1
        · exact h.all h8 k s' h1 e ho
        · obtain rfl : k = i := by omega
          rw [hs] at e; cases e
          exact hx
end Go.Proofs.Ytdpbdmbgdcdmaaa
