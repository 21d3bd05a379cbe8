/- A disk that is to end behind so many acts: what stays true. -/
import Derived.Test.YtfdomknagcdpeaaDArg
namespace Go.Proofs.Ytfdomknagcdpeaa
open Go Go.RowKit

/-- Where a write goes. -/
def endAt (N : Nat) (b : Int) : Nat := ((b % 18446744073709551616) % (N : Int)).toNat
def wrE (N : Nat) (D : Dk) (p : Int × Int) : Dk := if D.left = 0 then D else D.write (endAt N p.1) (fillB p.2)
def playE (N A : Nat) (l : List (Int × Int)) : Dk := l.foldl (wrE N) ((newD (List.replicate N Z256)).power A)
theorem playE_snoc (N A : Nat) (l : List (Int × Int)) (p : Int × Int) : playE N A (l ++ [p]) = wrE N (playE N A l) p := by simp [playE]
structure EndOk (N A : Nat) (D : Dk) (k : Nat) : Prop where
  ok : D.Ok N
  acts : D.acts = ((min k A : Nat) : Int)
  left : D.left = (A : Int) - ((min k A : Nat) : Int)
  few : D.wait.length = min k A
  safe : D.safe = List.replicate N Z256
theorem endAt_bd {N : Nat} (h : 1 ≤ N) (b : Int) : endAt N b < N := by
  unfold endAt
  have h1 := Int.emod_nonneg (b % 18446744073709551616) (show (N : Int) ≠ 0 by omega)
  have h2 := Int.emod_lt_of_pos (b % 18446744073709551616) (show (0 : Int) < N by omega)
  omega
theorem endOk_start {N A : Nat} (h0 : 1 ≤ N) (h1 : N ≤ 2048) (hA : A ≤ 50) : EndOk N A ((newD (List.replicate N Z256)).power A) 0 := by
  have h := newD_ok (all256.rep N) (by simp) h0 h1
  have hl : ((newD (List.replicate N Z256)).power A).left = (A : Int) := by unfold Dk.power; rw [if_neg (by omega)]
  refine ⟨⟨h.safeB, h.nowB, h.waitB, h.waitN, h.safe, h.now, h.n0, h.n1, h.acts0, h.acts1, by rw [hl]; omega, by rw [hl]; omega⟩, ?_, ?_, ?_, rfl⟩
  · rw [Nat.zero_min]; rfl
  · rw [hl, Nat.zero_min]; omega
  · rw [Nat.zero_min]; rfl
theorem EndOk.why {N A : Nat} {D : Dk} {k : Nat} (h : EndOk N A D k) {b : Nat} (hb : b < N) : D.why N b = if A ≤ k then 30 else 0 := by
  unfold Dk.why
  rw [h.left]
  by_cases hk : A ≤ k
  · rw [if_pos (by omega), if_pos hk]
  · rw [if_neg (by omega), if_neg hk, if_neg (by omega)]
theorem EndOk.step {N A : Nat} {D : Dk} {k : Nat} (h : EndOk N A D k) (hk : k ≤ 300) (p : Int × Int) : EndOk N A (wrE N D p) (k + 1) := by
  have hl := h.left
  have ha := h.acts
  have hf := h.few
  unfold wrE
  by_cases hz : D.left = 0
  · rw [if_pos hz]
    have e : min (k + 1) A = min k A := by omega
    exact ⟨h.ok, by rw [e]; exact ha, by rw [e]; exact hl, by rw [e]; exact hf, h.safe⟩
  · rw [if_neg hz]
    have e : min (k + 1) A = min k A + 1 := by omega
    have hal : D.act.left = D.left - 1 := by unfold Dk.act; rw [if_pos (by omega)]
    have hb := endAt_bd h.ok.n0 p.1
    refine ⟨⟨h.ok.safeB, h.ok.nowB.set (fillB_len _) _, fun q hq => ?_, ?_, h.ok.safe, ?_, h.ok.n0, h.ok.n1, ?_, ?_, ?_, ?_⟩, ?_, ?_, ?_, h.safe⟩
    · rcases List.mem_append.1 hq with hq | hq
      · exact h.ok.waitB q hq
      · simp at hq; subst hq; exact ⟨by simp, by simpa using hb, fillB_len _⟩
    · show (D.wait ++ _).length ≤ _; simp; omega
    · show (D.now.set _ _).length = N; rw [List.length_set]; exact h.ok.now
    · show 0 ≤ D.acts + 1; omega
    · show D.acts + 1 ≤ 1000000; omega
    · show -1 ≤ D.act.left; rw [hal]; omega
    · show D.act.left ≤ _; rw [hal]; have := h.ok.left1; omega
    · show D.acts + 1 = _; rw [e]; omega
    · show D.act.left = _; rw [hal, e]; omega
    · show (D.wait ++ _).length = _; rw [e]; simp; omega
theorem endOk_all {N A : Nat} (h0 : 1 ≤ N) (h1 : N ≤ 2048) (hA : A ≤ 50) (l : List (Int × Int)) : ∀ k, k ≤ l.length → k ≤ 300 → EndOk N A (playE N A (l.take k)) k := by
  intro k
  induction k with
  | zero => intro _ _; rw [List.take_zero]; exact endOk_start h0 h1 hA
  | succ k ih =>
    intro hk h3
    rw [List.take_add_one, List.getElem?_eq_getElem (by omega), Option.toList_some, playE_snoc]
    exact (ih (by omega) (by omega)).step (by omega) _
end Go.Proofs.Ytfdomknagcdpeaa
