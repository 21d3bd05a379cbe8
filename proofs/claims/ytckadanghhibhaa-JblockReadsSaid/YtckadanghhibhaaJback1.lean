/- What is written is read, as its own kind and no other one. -/
import Derived.Test.YtckadanghhibhaaJsame
namespace Go.Proofs.Ytckadanghhibhaa
open Go.RowKit

theorem getD4 (a b c d : Int) (l : List Int) (k : Nat) : ([a, b, c, d] ++ l).getD (4 + k) 0 = l.getD k 0 := by rw [Nat.add_comm]; rfl

/-- How the four readers answer at a block. -/
structure ReadAs (bs : List UInt8) (k : Int) (s : Int) (h : Option (Int × Int)) (d : Option (Int × List (Int × Bool))) (r : Option (Int × List Int)) (c : Option (Int × Int × Int)) : Prop where
  kind : kindB bs = (k, s)
  head : rHead bs = h
  desc : rDesc bs = d
  rev : rRevoke bs = r
  com : rCommit bs = c

theorem as_none : ReadAs Z256 0 0 none none none none := by
  have hk : kindB Z256 = (0, 0) := by decide +kernel
  refine ⟨hk, ?_, ?_, ?_, ?_⟩
  · cases e : rHead Z256 with
    | none => rfl
    | some p => exact absurd (hk.symm.trans (head_of (s := p.1) (t := p.2) e).2) (by simp)
  · cases e : rDesc Z256 with
    | none => rfl
    | some p => exact absurd (hk.symm.trans (desc_of (s := p.1) (l := p.2) e).2.1) (by simp)
  · cases e : rRevoke Z256 with
    | none => rfl
    | some p => exact absurd (hk.symm.trans (revoke_of (s := p.1) (l := p.2) e).2.1) (by simp)
  · cases e : rCommit Z256 with
    | none => rfl
    | some p => exact absurd (hk.symm.trans (commit_of (s := p.1) (c := p.2.1) (m := p.2.2) e).2.1) (by simp)

theorem as_head {bs : List UInt8} {s t : Int} (h : wHead s t = some bs) (s0 : 0 ≤ s ∧ s < 4294967296) : ReadAs bs 4 s (some (s, t)) none none none := by
  have hk := kind_head h s0
  have ht : get32 bs 12 = t := by
    unfold wHead at h
    split at h
    · rename_i hc
      obtain ⟨h1, h2, h3⟩ := hc
      cases h
      exact (get_block4 _ _ _ _ s0 (by omega)).2
    · cases h
  have hr : rHead bs = some (s, t) := by
    rw [rHead, hk, ht, if_pos h]
  rcases reads bs with ⟨h1, _⟩ | ⟨_, _, h1, h2, h3, h4⟩ | ⟨_, _, h1, _⟩ | ⟨_, _, h1, _⟩ | ⟨_, _, _, h1, _⟩
  · rw [hr] at h1; cases h1
  · exact ⟨hk, hr, h2, h3, h4⟩
  · rw [hr] at h1; cases h1
  · rw [hr] at h1; cases h1
  · rw [hr] at h1; cases h1
theorem as_commit {bs : List UInt8} {s c m : Int} (h : wCommit s c m = some bs) (s0 : 0 ≤ s ∧ s < 4294967296) (m0 : 0 ≤ m ∧ m < 4294967296) : ReadAs bs 2 s none none none (some (s, c, m)) := by
  have hk := kind_commit h s0 m0
  have hr : rCommit bs = some (s, c, m) := by
    unfold wCommit at h
    split at h
    · rename_i hc
      obtain ⟨h1, h2, h3⟩ := hc
      cases h
      exact (commit_back s c m h1 ⟨h2, h3⟩ m0).2
    · cases h
  rcases reads bs with ⟨_, _, _, h1⟩ | ⟨_, _, _, _, _, h1⟩ | ⟨_, _, _, _, _, h1⟩ | ⟨_, _, _, _, _, h1⟩ | ⟨_, _, _, h1, h2, h3, _⟩
  · rw [hr] at h1; cases h1
  · rw [hr] at h1; cases h1
  · rw [hr] at h1; cases h1
  · rw [hr] at h1; cases h1
  · exact ⟨hk, h1, h2, h3, hr⟩

theorem as_revoke {bs : List UInt8} {s : Int} {l : List Int} (h : wRevoke s l = some bs) (s0 : 0 ≤ s ∧ s < 4294967296) (hb : ∀ k, 0 ≤ l.getD k 0 ∧ l.getD k 0 < 4294967296) : ReadAs bs 3 s none none (some (s, l)) none := by
  have h' := h
  unfold wRevoke at h'
  split at h'
  · rename_i hc
    obtain ⟨h1, h2, h3, h4⟩ := hc
    simp only [Option.some.injEq] at h'
    have hbd : ∀ x ∈ [1280199249, 3, s, (l.length : Int)] ++ l, 0 ≤ x ∧ x < 4294967296 := by
      intro x hx
      simp only [List.mem_append, List.mem_cons, List.not_mem_nil, or_false] at hx
      rcases hx with (rfl | rfl | rfl | rfl) | hx
      · omega
      · omega
      · omega
      · omega
      · obtain ⟨i, hi, rfl⟩ := List.getElem_of_mem hx
        have := hb i
        rw [List.getD_eq_getElem?_getD, List.getElem?_eq_getElem hi] at this
        exact this
    have hlen : ([1280199249, 3, s, (l.length : Int)] ++ l).length = 4 + l.length := by simp; omega
    have g := fun (q k : Nat) (hq : q = 4 * k) (hk : k < 4 + l.length) => get32_blockOf ([1280199249, 3, s, (l.length : Int)] ++ l) q k hq (by rw [hlen]; exact hk) (by rw [hlen]; omega) hbd
    rw [h'] at g
    have hk : kindB bs = (3, s) := kindB_of (g 0 0 rfl (by omega)) (g 4 1 rfl (by omega)) (g 8 2 rfl (by omega)) (by omega) h1
    have h12 : get32 bs 12 = (l.length : Int) := g 12 3 rfl (by omega)
    have hl : numsOf bs l.length = l := by
      apply List.ext_getElem (numsOf_len _ _)
      intro i i1 i2
      have e := g (16 + 4 * i) (4 + i) (by omega) (by omega)
      rw [getD4, List.getD_eq_getElem?_getD, List.getElem?_eq_getElem i2] at e
      simpa [numsOf] using e
    have hr : rRevoke bs = some (s, l) := by
      rw [rRevoke, hk, h12, Int.toNat_natCast, hl, if_pos ⟨rfl, by omega, h⟩]
    rcases reads bs with ⟨_, _, h1, _⟩ | ⟨_, _, _, _, h1, _⟩ | ⟨_, _, _, _, h1, _⟩ | ⟨_, _, h1, h2, h3, h4⟩ | ⟨_, _, _, _, _, h1, _⟩
    · rw [hr] at h1; cases h1
    · rw [hr] at h1; cases h1
    · rw [hr] at h1; cases h1
    · exact ⟨hk, h1, h2, hr, h4⟩
    · rw [hr] at h1; cases h1
  · cases h'

theorem flatT_get : ∀ (l : List (Int × Bool)) (i : Nat), i < l.length → (flatT l).getD (2 * i) 0 = (l.getD i (0, false)).1 ∧ (flatT l).getD (2 * i + 1) 0 = fl (l.getD i (0, false)).2
  | [], i, h => by simp at h
  | a :: l, 0, _ => ⟨rfl, rfl⟩
  | a :: l, i + 1, h => by
    obtain ⟨e1, e2⟩ := flatT_get l i (by simpa using h)
    rw [show 2 * (i + 1) = 2 * i + 1 + 1 by omega]
    exact ⟨e1, e2⟩
theorem as_desc {bs : List UInt8} {s : Int} {l : List (Int × Bool)} (h : wDesc s l = some bs) (s0 : 0 ≤ s ∧ s < 4294967296) (hb : ∀ k, 0 ≤ (l.getD k (0, false)).1 ∧ (l.getD k (0, false)).1 < 4294967296) : ReadAs bs 1 s none (some (s, l)) none none := by
  have h' := h
  unfold wDesc at h'
  split at h'
  · rename_i hc
    obtain ⟨h1, h2, h3, h4⟩ := hc
    simp only [Option.some.injEq] at h'
    have hfl : ∀ x ∈ flatT l, 0 ≤ x ∧ x < 4294967296 := by
      intro x hx
      unfold flatT at hx
      rw [List.mem_flatMap] at hx
      obtain ⟨p, hp, hx⟩ := hx
      obtain ⟨i, hi, rfl⟩ := List.getElem_of_mem hp
      have := hb i
      rw [List.getD_eq_getElem?_getD, List.getElem?_eq_getElem hi] at this
      simp only [List.mem_cons, List.not_mem_nil, or_false] at hx
      rcases hx with rfl | rfl
      · exact this
      · unfold fl; split <;> omega
    have hbd : ∀ x ∈ [1280199249, 1, s, (l.length : Int)] ++ flatT l, 0 ≤ x ∧ x < 4294967296 := by
      intro x hx
      rw [List.mem_append] at hx
      rcases hx with hx | hx
      · simp only [List.mem_cons, List.not_mem_nil, or_false] at hx
        rcases hx with rfl | rfl | rfl | rfl <;> omega
      · exact hfl x hx
    have hlen : ([1280199249, 1, s, (l.length : Int)] ++ flatT l).length = 4 + 2 * l.length := by rw [List.length_append, flatT_len]; simp
    have g := fun (q k : Nat) (hq : q = 4 * k) (hk : k < 4 + 2 * l.length) => get32_blockOf ([1280199249, 1, s, (l.length : Int)] ++ flatT l) q k hq (by rw [hlen]; exact hk) (by rw [hlen]; omega) hbd
    rw [h'] at g
    have hk : kindB bs = (1, s) := kindB_of (g 0 0 rfl (by omega)) (g 4 1 rfl (by omega)) (g 8 2 rfl (by omega)) (by omega) h1
    have h12 : get32 bs 12 = (l.length : Int) := g 12 3 rfl (by omega)
    have hl : tagsOf bs l.length = l := by
      apply List.ext_getElem (tagsOf_len _ _)
      intro i i1 i2
      have e := g (16 + 8 * i) (4 + 2 * i) (by omega) (by omega)
      have e' := g (16 + 8 * i + 4) (4 + (2 * i + 1)) (by omega) (by omega)
      obtain ⟨f1, f2⟩ := flatT_get l i i2
      rw [getD4, f1, List.getD_eq_getElem?_getD, List.getElem?_eq_getElem i2] at e
      rw [getD4, f2, List.getD_eq_getElem?_getD, List.getElem?_eq_getElem i2] at e'
      simp only [tagsOf, List.getElem_map, List.getElem_range, tagAt, e, e']
      simp only [Option.getD_some]
      apply Prod.ext
      · rfl
      · show decide (fl l[i].2 = 1) = l[i].2
        cases l[i].2 <;> rfl
    have hr : rDesc bs = some (s, l) := by
      rw [rDesc, hk, h12, Int.toNat_natCast, hl, if_pos ⟨rfl, by omega, h⟩]
    rcases reads bs with ⟨_, h1, _⟩ | ⟨_, _, _, h1, _⟩ | ⟨_, _, h1, h2, h3, h4⟩ | ⟨_, _, _, h1, _⟩ | ⟨_, _, _, _, h1, _⟩
    · rw [hr] at h1; cases h1
    · rw [hr] at h1; cases h1
    · exact ⟨hk, h1, hr, h3, h4⟩
    · rw [hr] at h1; cases h1
    · rw [hr] at h1; cases h1
  · cases h'
end Go.Proofs.Ytckadanghhibhaa
