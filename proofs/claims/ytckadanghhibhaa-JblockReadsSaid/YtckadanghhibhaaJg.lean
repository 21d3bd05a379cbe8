/- What blocks of numbers tell. -/
import Derived.Test.YtckadanghhibhaaJrd
namespace Go.Proofs.Ytckadanghhibhaa
open Go.RowKit

theorem get32_same {a b : List UInt8} {q : Nat} (h : ∀ i, i < 4 → gB a (q + i) = gB b (q + i)) : get32 a q = get32 b q := by
  unfold get32
  rw [show gB a q = gB b q from h 0 (by omega), h 1 (by omega), h 2 (by omega), h 3 (by omega)]
theorem get32_putL_out (l : List Int) (bs : List UInt8) (p q : Nat) (h : q + 4 ≤ p ∨ p + 4 * l.length ≤ q) : get32 (putL bs p l) q = get32 bs q :=
  get32_same fun i hi => gB_putL_out l bs p (q + i) (by omega)
theorem get32_putL_in : ∀ (l : List Int) (bs : List UInt8) (p k : Nat), k < l.length → p + 4 * l.length ≤ bs.length → (∀ x ∈ l, 0 ≤ x ∧ x < 4294967296) → get32 (putL bs p l) (p + 4 * k) = l.getD k 0
  | [], _, _, _, h, _, _ => by simp at h
  | x :: l, bs, p, 0, _, h, hb => by
    rw [List.length_cons] at h
    obtain ⟨h0, h1⟩ := hb x (List.mem_cons_self ..)
    rw [putL, get32_putL_out _ _ _ _ (by omega), Nat.mul_zero, Nat.add_zero, get32_put32 _ _ _ (by omega) h0 h1]
    rfl
  | x :: l, bs, p, k + 1, hk, h, hb => by
    rw [List.length_cons] at h hk
    rw [putL, show p + 4 * (k + 1) = (p + 4) + 4 * k by omega, get32_putL_in l _ (p + 4) k (by omega) (by rw [put32_len]; omega) (fun y hy => hb y (List.mem_cons_of_mem _ hy))]
    rfl
theorem get32_blockOf (l : List Int) (q k : Nat) (hq : q = 4 * k) (hk : k < l.length) (h : l.length ≤ 64) (hb : ∀ x ∈ l, 0 ≤ x ∧ x < 4294967296) : get32 (blockOf l) q = l.getD k 0 := by
  subst hq
  have := get32_putL_in l Z256 0 k hk (by rw [Z256_len]; omega) hb
  rw [Nat.zero_add] at this
  exact this

theorem kindB_of {bs : List UInt8} {k s : Int} (h0 : get32 bs 0 = 1280199249) (h4 : get32 bs 4 = k) (h8 : get32 bs 8 = s) (hk : 1 ≤ k ∧ k ≤ 4) (hs : seqB s = true) : kindB bs = (k, s) := by
  unfold kindB
  rw [if_pos ⟨h0, by omega, by omega, by rw [h8]; exact hs⟩, h4, h8]

theorem commit_back (s c m : Int) (hs : seqB s = true) (hc : 1 ≤ c ∧ c ≤ 256) (hm : 0 ≤ m ∧ m < 4294967296) :
    kindB (blockOf [1280199249, 2, s, c, m]) = (2, s) ∧ rCommit (blockOf [1280199249, 2, s, c, m]) = some (s, c, m) := by
  have hs' := seqB_bd hs
  have hb : ∀ x ∈ [1280199249, 2, s, c, m], 0 ≤ x ∧ x < 4294967296 := by
    intro x hx
    simp only [List.mem_cons, List.not_mem_nil, or_false] at hx
    rcases hx with rfl | rfl | rfl | rfl | rfl <;> omega
  have e0 := get32_blockOf [1280199249, 2, s, c, m] 0 0 rfl (by simp) (by simp) hb
  have e4 := get32_blockOf [1280199249, 2, s, c, m] 4 1 rfl (by simp) (by simp) hb
  have e8 := get32_blockOf [1280199249, 2, s, c, m] 8 2 rfl (by simp) (by simp) hb
  have e12 : get32 (blockOf [1280199249, 2, s, c, m]) 12 = c := get32_blockOf [1280199249, 2, s, c, m] 12 3 rfl (by simp) (by simp) hb
  have e16 : get32 (blockOf [1280199249, 2, s, c, m]) 16 = m := get32_blockOf [1280199249, 2, s, c, m] 16 4 rfl (by simp) (by simp) hb
  have hk : kindB (blockOf [1280199249, 2, s, c, m]) = (2, s) := kindB_of e0 e4 e8 (by omega) hs
  refine ⟨hk, ?_⟩
  rw [rCommit, hk, e12, e16, if_pos]
  rw [wCommit, if_pos ⟨hs, hc.1, hc.2⟩]
end Go.Proofs.Ytckadanghhibhaa
