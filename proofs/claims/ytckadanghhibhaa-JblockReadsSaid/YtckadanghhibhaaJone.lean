/- What a block is read as is written as just that block: common facts. -/
import Derived.Test.YtckadanghhibhaaJrh
namespace Go.Proofs.Ytckadanghhibhaa
open Go.RowKit

theorem tagsAt_nil {w : World} : TagsAt w none 0 [] := ⟨rfl, fun k => by simp, 0, 0, .inl rfl, fun k hk => by simp at hk⟩
theorem numsAt_nil {w : World} : NumsAt w none 0 [] := ⟨rfl, fun k => by simp, 0, 0, .inl rfl, fun k hk => by simp at hk⟩
theorem tagsAt_row {w : World} {L : Nat} {l : List (Int × Bool)} {t : TypeId} (h : w.heap[L]? = some (.cells (encT l) t (0, 0))) (hb : ∀ k, 0 ≤ (l.getD k (0, false)).1 ∧ (l.getD k (0, false)).1 < 4294967296) : TagsAt w (some ⟨L, 0, none⟩) l.length l := by
  refine ⟨rfl, hb, L, 0, .inr ⟨rfl, lt_of_row h⟩, fun k hk => ?_⟩
  obtain ⟨e1, e2⟩ := encT_get l k hk
  rw [Nat.zero_add]
  exact ⟨(cell_of_row _ _ _ _ _ _ h).trans e1, (cell_of_row _ _ _ _ _ _ h).trans e2⟩
theorem numsAt_row {w : World} {L : Nat} {l : List Int} {t : TypeId} (h : w.heap[L]? = some (.cells (encN l) t (0, 0))) (hb : ∀ k, 0 ≤ l.getD k 0 ∧ l.getD k 0 < 4294967296) : NumsAt w (some ⟨L, 0, none⟩) l.length l := by
  refine ⟨rfl, hb, L, 0, .inr ⟨rfl, lt_of_row h⟩, fun k hk => ?_⟩
  rw [Nat.zero_add]
  refine (cell_of_row _ _ _ _ _ _ h).trans ?_
  simp [encN, hk]

theorem kind_head {s t : Int} {bs : List UInt8} (h : wHead s t = some bs) (_s0 : 0 ≤ s ∧ s < 4294967296) : kindB bs = (4, s) := by
  unfold wHead at h
  split at h
  · rename_i hc
    obtain ⟨h1, h2, h3⟩ := hc
    cases h
    have hb : ∀ x ∈ [1280199249, 4, s, t], 0 ≤ x ∧ x < 4294967296 := by
      intro x hx
      simp only [List.mem_cons, List.not_mem_nil, or_false] at hx
      rcases hx with rfl | rfl | rfl | rfl <;> omega
    exact kindB_of (get32_blockOf _ 0 0 rfl (by simp) (by simp) hb) (get32_blockOf _ 4 1 rfl (by simp) (by simp) hb) (get32_blockOf _ 8 2 rfl (by simp) (by simp) hb) (by omega) h1
  · cases h
theorem kind_commit {s c m : Int} {bs : List UInt8} (h : wCommit s c m = some bs) (_s0 : 0 ≤ s ∧ s < 4294967296) (m0 : 0 ≤ m ∧ m < 4294967296) : kindB bs = (2, s) := by
  unfold wCommit at h
  split at h
  · rename_i hc
    obtain ⟨h1, h2, h3⟩ := hc
    cases h
    exact (commit_back s c m h1 ⟨h2, h3⟩ m0).1
  · cases h

theorem head_of {bs : List UInt8} {s t : Int} (h : rHead bs = some (s, t)) : wHead s t = some bs ∧ kindB bs = (4, s) := by
  have hb := kindB_bd bs
  unfold rHead at h
  split at h
  · rename_i hw
    simp only [Option.some.injEq, Prod.mk.injEq] at h
    obtain ⟨rfl, rfl⟩ := h
    exact ⟨hw, kind_head hw hb⟩
  · cases h
theorem commit_of {bs : List UInt8} {s c m : Int} (h : rCommit bs = some (s, c, m)) : wCommit s c m = some bs ∧ kindB bs = (2, s) ∧ 0 ≤ m ∧ m < 4294967296 := by
  have hb := kindB_bd bs
  have hm := get32_bd bs 16
  unfold rCommit at h
  split at h
  · rename_i hw
    simp only [Option.some.injEq, Prod.mk.injEq] at h
    obtain ⟨rfl, rfl, rfl⟩ := h
    exact ⟨hw, kind_commit hw hb hm, hm⟩
  · cases h
theorem desc_of {bs : List UInt8} {s : Int} {l : List (Int × Bool)} (h : rDesc bs = some (s, l)) : wDesc s l = some bs ∧ kindB bs = (1, s) ∧ (∀ k, 0 ≤ (l.getD k (0, false)).1 ∧ (l.getD k (0, false)).1 < 4294967296) ∧ l.length ≤ 30 := by
  unfold rDesc at h
  split at h
  · rename_i hc
    obtain ⟨h1, h2, h3⟩ := hc
    simp only [Option.some.injEq, Prod.mk.injEq] at h
    obtain ⟨h4, h5⟩ := h
    subst h5
    rw [h4] at h3
    exact ⟨h3, Prod.ext h1 h4, tagsOf_bd _ _, by rw [tagsOf_len]; omega⟩
  · cases h
theorem revoke_of {bs : List UInt8} {s : Int} {l : List Int} (h : rRevoke bs = some (s, l)) : wRevoke s l = some bs ∧ kindB bs = (3, s) ∧ (∀ k, 0 ≤ l.getD k 0 ∧ l.getD k 0 < 4294967296) ∧ l.length ≤ 60 := by
  unfold rRevoke at h
  split at h
  · rename_i hc
    obtain ⟨h1, h2, h3⟩ := hc
    simp only [Option.some.injEq, Prod.mk.injEq] at h
    obtain ⟨h4, h5⟩ := h
    subst h5
    rw [h4] at h3
    exact ⟨h3, Prod.ext h1 h4, numsOf_bd _ _, by rw [numsOf_len]; omega⟩
  · cases h
/-- A block is read as one kind at most. -/
theorem reads (bs : List UInt8) :
    (rHead bs = none ∧ rDesc bs = none ∧ rRevoke bs = none ∧ rCommit bs = none) ∨
    (∃ s t, rHead bs = some (s, t) ∧ rDesc bs = none ∧ rRevoke bs = none ∧ rCommit bs = none) ∨
    (∃ s l, rHead bs = none ∧ rDesc bs = some (s, l) ∧ rRevoke bs = none ∧ rCommit bs = none) ∨
    (∃ s l, rHead bs = none ∧ rDesc bs = none ∧ rRevoke bs = some (s, l) ∧ rCommit bs = none) ∨
    (∃ s c m, rHead bs = none ∧ rDesc bs = none ∧ rRevoke bs = none ∧ rCommit bs = some (s, c, m)) := by
  have a1 : (kindB bs).1 ≠ 4 → rHead bs = none := fun h => by
    cases e : rHead bs with
    | none => rfl
    | some p => exact absurd (congrArg Prod.fst (head_of (s := p.1) (t := p.2) e).2) h
  have a2 : (kindB bs).1 ≠ 1 → rDesc bs = none := fun h => by
    cases e : rDesc bs with
    | none => rfl
    | some p => exact absurd (congrArg Prod.fst (desc_of (s := p.1) (l := p.2) e).2.1) h
  have a3 : (kindB bs).1 ≠ 3 → rRevoke bs = none := fun h => by
    cases e : rRevoke bs with
    | none => rfl
    | some p => exact absurd (congrArg Prod.fst (revoke_of (s := p.1) (l := p.2) e).2.1) h
  have a4 : (kindB bs).1 ≠ 2 → rCommit bs = none := fun h => by
    cases e : rCommit bs with
    | none => rfl
    | some p => exact absurd (congrArg Prod.fst (commit_of (s := p.1) (c := p.2.1) (m := p.2.2) e).2.1) h
  cases e1 : rHead bs with
  | some p =>
    have hk := congrArg Prod.fst (head_of (s := p.1) (t := p.2) e1).2
    exact .inr (.inl ⟨p.1, p.2, rfl, a2 (by rw [hk]; simp), a3 (by rw [hk]; simp), a4 (by rw [hk]; simp)⟩)
  | none =>
    cases e2 : rDesc bs with
    | some p =>
      have hk := congrArg Prod.fst (desc_of (s := p.1) (l := p.2) e2).2.1
      exact .inr (.inr (.inl ⟨p.1, p.2, rfl, rfl, a3 (by rw [hk]; simp), a4 (by rw [hk]; simp)⟩))
    | none =>
      cases e3 : rRevoke bs with
      | some p =>
        have hk := congrArg Prod.fst (revoke_of (s := p.1) (l := p.2) e3).2.1
        exact .inr (.inr (.inr (.inl ⟨p.1, p.2, rfl, rfl, rfl, a4 (by rw [hk]; simp)⟩)))
      | none =>
        cases e4 : rCommit bs with
        | some p => exact .inr (.inr (.inr (.inr ⟨p.1, p.2.1, p.2.2, rfl, rfl, rfl, rfl⟩)))
        | none => exact .inl ⟨rfl, rfl, rfl, rfl⟩
end Go.Proofs.Ytckadanghhibhaa
