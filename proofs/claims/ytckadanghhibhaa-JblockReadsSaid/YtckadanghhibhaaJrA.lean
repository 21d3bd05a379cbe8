/- What the layer's readers hand out, as the call's own; heads compared. -/
import Derived.Test.YtckadanghhibhaaRrt
import Derived.Test.YtckadanghhibhaaJrl
import Derived.Test.YtckadanghhibhaaJrh
import Derived.Test.YtckadanghhibhaaSt1
namespace Go.Proofs.Ytckadanghhibhaa
open Go Go.RowKit

theorem own_full {w : World} {g base n sz : Nat} {e : TypeId} {cs : Array Value} (h : w.heap[g]? = some (.cells cs e (0, 0))) (hb : base ≤ g) (hs : cs.size = n * sz) (hn : n ≤ maxLen) : w.ownsRow base e sz (.slice (some ⟨g, 0, none⟩) n n) n cs.toList :=
  ⟨by simpa using hs, .inr ⟨g, n, cs, rfl, hb, h, Nat.le_refl _, hn, hs, by rw [List.take_of_length_le]; simpa using Nat.le_of_eq hs⟩⟩
theorem rDesc_len {bs : List UInt8} {s : Int} {l : List (Int × Bool)} (h : rDesc bs = some (s, l)) : l.length ≤ 30 := by
  unfold rDesc at h
  split at h
  · rename_i hc
    obtain ⟨_, rfl⟩ := Prod.mk.inj (Option.some.inj h)
    rw [tagsOf_len]
    have := (get32_bd bs 12).1
    omega
  · cases h
theorem rRevoke_len {bs : List UInt8} {s : Int} {l : List Int} (h : rRevoke bs = some (s, l)) : l.length ≤ 60 := by
  unfold rRevoke at h
  split at h
  · rename_i hc
    obtain ⟨_, rfl⟩ := Prod.mk.inj (Option.some.inj h)
    rw [numsOf_len]
    have := (get32_bd bs 12).1
    omega
  · cases h
theorem outT_fine (bs : List UInt8) : (outT (rDesc bs)).2.1.length ≤ 60 ∧ ∀ k, 0 ≤ ((outT (rDesc bs)).2.1.getD k (0, false)).1 ∧ ((outT (rDesc bs)).2.1.getD k (0, false)).1 < 4294967296 := by
  cases h : rDesc bs with
  | none => exact ⟨by simp [outT], fun k => by simp [outT]⟩
  | some p =>
    obtain ⟨s, l⟩ := p
    have hl := rDesc_len h
    refine ⟨by show l.length ≤ 60; omega, ?_⟩
    unfold rDesc at h
    split at h
    · obtain ⟨_, rfl⟩ := Prod.mk.inj (Option.some.inj h)
      exact fun k => tagsOf_bd bs _ k
    · cases h
theorem outN_fine (bs : List UInt8) : (outN (rRevoke bs)).2.1.length ≤ 60 ∧ ∀ k, 0 ≤ (outN (rRevoke bs)).2.1.getD k 0 ∧ (outN (rRevoke bs)).2.1.getD k 0 < 4294967296 := by
  cases h : rRevoke bs with
  | none => exact ⟨by simp [outN], fun k => by simp [outN]⟩
  | some p =>
    obtain ⟨s, l⟩ := p
    have hl := rRevoke_len h
    refine ⟨by show l.length ≤ 60; omega, ?_⟩
    unfold rRevoke at h
    split at h
    · obtain ⟨_, rfl⟩ := Prod.mk.inj (Option.some.inj h)
      exact fun k => numsOf_bd bs _ k
    · cases h
theorem encN_size (l : List Int) : (encN l).size = l.length := by unfold encN; simp
theorem gotT_own {S : Nat → Prop} {w0 w w' : World} {L : List Ass} (HS : St S w0 w L) {e : Ending} {bs : List UInt8} (hg : GotT e w w' (rDesc bs)) (hm : Mod none' w w') :
    ∃ v, e = .returned (.tuple #[.int .u32 (outT (rDesc bs)).1, v, .int .i64 (outT (rDesc bs)).2.2]) ∧ St S w0 w' (.own v 55 2 (outT (rDesc bs)).2.1.length (encTl (outT (rDesc bs)).2.1) :: L) := by
  cases h : rDesc bs with
  | none =>
    rw [h] at hg
    exact ⟨_, hg, (HS.fresh hm).ownNil _ _⟩
  | some p =>
    obtain ⟨s, l⟩ := p
    have hl := rDesc_len h
    rw [h] at hg
    obtain ⟨g, hgw, hrow, he⟩ := hg
    exact ⟨_, he, St.newOwnB HS hm (own_full hrow hgw (encT_size l) (by unfold maxLen; omega))⟩
theorem gotN_own {S : Nat → Prop} {w0 w w' : World} {L : List Ass} (HS : St S w0 w L) {e : Ending} {bs : List UInt8} (hg : GotN e w w' (rRevoke bs)) (hm : Mod none' w w') :
    ∃ v, e = .returned (.tuple #[.int .u32 (outN (rRevoke bs)).1, v, .int .i64 (outN (rRevoke bs)).2.2]) ∧ St S w0 w' (.own v 22 1 (outN (rRevoke bs)).2.1.length (encI (outN (rRevoke bs)).2.1) :: L) := by
  cases h : rRevoke bs with
  | none =>
    rw [h] at hg
    exact ⟨_, hg, (HS.fresh hm).ownNil _ _⟩
  | some p =>
    obtain ⟨s, l⟩ := p
    have hl := rRevoke_len h
    rw [h] at hg
    obtain ⟨g, hgw, hrow, he⟩ := hg
    exact ⟨_, he, St.newOwnB HS hm (own_full hrow hgw (show (encN l).size = l.length * 1 by rw [encN_size]; omega) (by unfold maxLen; omega))⟩
theorem resRH_eq (r : Option (Int × Int)) : ∃ a b c, resRH r = .tuple #[.agg #[.int .u32 a, .int .i64 b], .int .i64 c] := by
  cases r with
  | none => exact ⟨0, 0, 90, rfl⟩
  | some p => exact ⟨p.1, p.2, 0, rfl⟩
theorem resRC_eq (r : Option (Int × Int × Int)) : ∃ a b c d, resRC r = .tuple #[.int .u32 a, .int .i64 b, .int .u32 c, .int .i64 d] := by
  cases r with
  | none => exact ⟨0, 0, 0, 90, rfl⟩
  | some p => exact ⟨p.1, p.2.1, p.2.2, 0, rfl⟩
section
variable {ops : Array Oper} {rest : List Oper} {d : Option Tmp} {x y : Operand} {ty : TypeId} {pos : String} {af : Array Edge} {gd : Option (Nat × Bool)} {a : Act} {w : World} {Q : Exit → Act → World → Prop}
theorem sNeHead {t2 : TypeId} {u v : Int} (hw : Region.wanted ⟨d, .binOp .neq 24 x y t2, ty, pos, af, gd⟩ (yielded ops a.tmps) = true) (hx : a.eval x = .agg #[.int .u32 u, .int .i64 v]) (hy : a.eval y = .agg #[.int .u32 u, .int .i64 v])
    (h : wpList Try.prog ops Q rest (a.put d (.bool false)) w) : wpList Try.prog ops Q (⟨d, .binOp .neq 24 x y t2, ty, pos, af, gd⟩ :: rest) a w := by
  refine wpList_val hw ?_ h
  unfold execOp
  have h2 : (binOp .neq 24 (.agg #[.int .u32 u, .int .i64 v]) (.agg #[.int .u32 u, .int .i64 v])).run Try.prog w = .ok (.bool false) w := by
    rw [run_neq_struct, head_equal]; simp [Result.andThen]
  simp only [hx, hy, head_guard, h2, Sem.run_bind, Result.andThen_ok, Sem.run_pure]
theorem qEqSame {C : World → Prop} {Qa : Act → Prop} {P : Program} {T E t2 : TypeId} (hT : BlkT P T E) {u : List UInt8} (hw : Region.wanted ⟨d, .binOp .eql T x y t2, ty, pos, af, gd⟩ (yielded ops a.tmps) = true) (hx : a.eval x = .agg (encB u)) (hy : a.eval y = .agg (encB u)) (hu : u.length = 256)
    (h : wpQuiet P ops C Qa rest (a.put d (.bool true))) : wpQuiet P ops C Qa (⟨d, .binOp .eql T x y t2, ty, pos, af, gd⟩ :: rest) a :=
  qEqB hT hw hx hy hu hu (by rw [show (u == u) = true by simp]; exact h)
end
end Go.Proofs.Ytckadanghhibhaa
