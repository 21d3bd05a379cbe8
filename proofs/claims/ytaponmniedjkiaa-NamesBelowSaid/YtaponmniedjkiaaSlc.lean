/- A slice of some elements, built. -/
import Derived.Test.YtaponmniedjkiaaSep3
namespace Go.Proofs.Ytaponmniedjkiaa
open Go Go.RowKit
section
variable {P : Program} {ops : Array Oper} {rest : List Oper} {d : Option Tmp} {x y : Operand} {ty : TypeId} {pos : String} {af : Array Edge} {gd : Option (Nat × Bool)} {a : Act} {w w0 : World} {Q : Exit → Act → World → Prop} {S : Nat → Prop} {L : List Ass} {T : TypeId}
/-- A slice of some elements. -/
theorem sMany (hS : St S w0 w L) {t e : TypeId} (ht : P.underlying t = some (.slice e)) {z : Value} {sz n : Nat} (hi : (P.info? e).map (fun i => (i.zero, i.size)) = some (some z, sz)) (hs0 : n * sz ≠ 0) (hs1 : n * sz ≤ 16777216)
    {ps : Array (Nat × Operand)} (hw : Region.wanted ⟨d, .buildSlice t n ps, ty, pos, af, gd⟩ (yielded ops a.tmps) = true) {vs : List (Nat × Value)} (hv : ps.toList.map (fun p => (p.1, a.eval p.2)) = vs) {cs : Array Value}
    (hf : Instr.fill (fun i => some (i * sz, sz)) ((Array.range (n * sz)).map (z.cells[· % z.cells.size]!)) vs = some cs)
    (h : ∀ B w', St S w0 w' (.blk true B cs e :: L) → wpList P ops Q rest (a.put d (.slice (some ⟨B, 0, none⟩) n n)) w') : wpList P ops Q (⟨d, .buildSlice t n ps, ty, pos, af, gd⟩ :: rest) a w := by
  cases hq : P.info? e with
  | none => simp [hq] at hi
  | some i =>
    simp [hq] at hi
    obtain ⟨hi1, rfl⟩ := hi
    refine wpList_made (w' := w.alloc (.cells cs e)) hw ?_ (h _ _ (hS.alloc cs e))
    have h1 : ¬ (16777216 < n * i.size) := by omega
    unfold execOp
    simp only [Instr.buildSlice, Sem.run_bind, run_underlying ht, Result.andThen_ok, sizeOf, typeInfo, Sem.run_pure]
    simp [hq, run_zero (P := P) (T := e) (z := z) (by simp [hq, hi1])]
    rw [if_neg h1, if_neg hs0, show List.map (fun (x : Nat × Operand) => (x.1, a.eval x.2)) ps.toList = vs from hv, hf]
    simp [run_newRow]
end
end Go.Proofs.Ytaponmniedjkiaa
