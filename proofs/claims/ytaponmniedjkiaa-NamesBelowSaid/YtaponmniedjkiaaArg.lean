/- What comes in: slices of like things. -/
import Derived.Test.YtaponmniedjkiaaSep3
import Derived.Test.YtaponmniedjkiaaFrame
namespace Go.Proofs.Ytaponmniedjkiaa
open Go Go.RowKit

theorem list_of {α : Type} (p : Nat → α → Prop) : ∀ n : Nat, (∀ i, i < n → ∃ x, p i x) → ∃ l : List α, l.length = n ∧ ∀ i x, l[i]? = some x → p i x
  | 0, _ => ⟨[], rfl, fun i x h => by simp at h⟩
  | n + 1, h => by
    obtain ⟨l, hl, hp⟩ := list_of p n (fun i hi => h i (by omega))
    obtain ⟨x, hx⟩ := h n (by omega)
    refine ⟨l ++ [x], by simp [hl], fun i y hy => ?_⟩
    by_cases hi : i < l.length
    · rw [List.getElem?_append_left hi] at hy; exact hp i y hy
    · have hi2 : i = l.length := by
        have := (List.getElem?_eq_some_iff.1 hy).1
        simp at this; omega
      subst hi2
      simp at hy
      subst hy
      rw [hl]; exact hx

theorem flat_range {α : Type} {w : World} (f : α → List Value) (n : Nat) (l : List α) (hf : ∀ x ∈ l, (f x).length = n) (A o : Nat) (hc : ∀ i x, l[i]? = some x → ∀ j, j < n → w.cell? ⟨A, o + i * n + j, none⟩ = (f x)[j]?) : w.rangeAt A o (l.flatMap f) := by
  intro k v hv
  have hk := (List.getElem?_eq_some_iff.1 hv).1
  rw [flat_len f n l hf] at hk
  have hn : 0 < n := by
    rcases Nat.eq_zero_or_pos n with h | h
    · subst h; omega
    · exact h
  have hi : k / n < l.length := Nat.div_lt_of_lt_mul (by rw [Nat.mul_comm]; exact hk)
  have hm := Nat.mod_lt k hn
  have hx := List.getElem?_eq_getElem hi
  have hkk : k / n * n + k % n = k := by rw [Nat.mul_comm]; exact Nat.div_add_mod k n
  have h1 := flat_get f n l hf (k / n) _ hx (k % n) hm
  rw [hkk, hv] at h1
  have h2 := hc (k / n) _ hx (k % n) hm
  rw [show o + k / n * n + k % n = o + k by omega] at h2
  rw [h2, ← h1]

/-- A slice of things that take n cells each. -/
theorem slice_arg {P : Program} {w : World} {t e : TypeId} {v : Value} {α : Type} {n : Nat} (ht : P.underlying t = some (.slice e)) (hn : P.cellsOf e = n) (hn0 : 0 < n) (h : ArgIs P w t v) (f : α → List Value) (ok : α → Prop)
    (hf : ∀ x, (f x).length = n) (hd : ∀ ecs, ecs.length = n → Rd P w e ecs → ∃ x, ok x ∧ ecs = f x) :
    ∃ (ad : Option Addr) (cap : Nat) (l : List α), v = .slice ad l.length cap ∧ l.length ≤ maxLen ∧ l.length ≤ cap ∧ cap ≤ maxLen ∧ (∀ x ∈ l, ok x) ∧ (l = [] ∨ ∃ A o, ad = some ⟨A, o, none⟩ ∧ w.rangeAt A o (l.flatMap f)) := by
  rcases h.slice ht with rfl | ⟨a, len, cap, rfl, h1, h2, h3⟩
  · exact ⟨none, 0, [], rfl, Nat.zero_le _, Nat.zero_le _, Nat.zero_le _, by simp, .inl rfl⟩
  · subst hn
    obtain ⟨l, hl, hp⟩ := list_of (fun i x => ok x ∧ ∀ j, j < P.cellsOf e → w.cell? ((a.add (i * P.cellsOf e)).add j) = (f x)[j]?) len (fun i hi => by
      obtain ⟨ecs, he, hc, hr⟩ := h3 i hi
      obtain ⟨x, hx, rfl⟩ := hd ecs he hr
      exact ⟨x, hx, hc⟩)
    refine ⟨some a, cap, l, by rw [hl], by omega, by omega, h2, fun x hx => ?_, ?_⟩
    · obtain ⟨i, hi, rfl⟩ := List.getElem_of_mem hx
      exact (hp i _ (List.getElem?_eq_getElem hi)).1
    · rcases l with _ | ⟨y, l⟩
      · exact .inl rfl
      · right
        obtain ⟨A, o, sp⟩ := a
        have hsp : sp = none := by
          have h0 := (hp 0 y rfl).2 0 hn0
          rw [List.getElem?_eq_getElem (by rw [hf]; exact hn0)] at h0
          cases sp with
          | none => rfl
          | some s =>
            exfalso
            have : w.cell? (((⟨A, o, some s⟩ : Addr).add (0 * P.cellsOf e)).add 0) = none := by
              unfold Addr.add World.cell?
              simp
              repeat' split
              all_goals simp_all
            rw [this] at h0; cases h0
        subst hsp
        refine ⟨A, o, rfl, flat_range f (P.cellsOf e) _ (fun x _ => hf x) A o (fun i x hx j hj => ?_)⟩
        have h4 := (hp i x hx).2 j hj
        rw [add_off, add_off] at h4
        exact h4

/-- Something that came in is only read. -/
theorem St.arg {w : World} {ad : Option Addr} {α : Type} {l : List α} {xs : List Value} {L : List Ass} (HS : St none' w w L) (hro : ∀ X ∈ L, X.rw = false) (h : l = [] ∨ ∃ A o, ad = some ⟨A, o, none⟩ ∧ w.rangeAt A o xs) :
    ∃ L', St none' w w (L' ++ L) ∧ (∀ X ∈ L' ++ L, X.rw = false) ∧ (l = [] ∨ ∃ A o, ad = some ⟨A, o, none⟩ ∧ Ass.ro A o xs ∈ L') := by
  rcases h with h | ⟨A, o, h1, h2⟩
  · exact ⟨[], HS, hro, .inl h⟩
  · refine ⟨[.ro A o xs], HS.read (A := .ro A o xs) h2 rfl (fun X hX hr => by rw [hro X hX] at hr; cases hr), fun X hX => ?_, .inr ⟨A, o, h1, .head _⟩⟩
    rcases List.mem_cons.1 hX with rfl | hX
    · rfl
    · exact hro X hX
end Go.Proofs.Ytaponmniedjkiaa
