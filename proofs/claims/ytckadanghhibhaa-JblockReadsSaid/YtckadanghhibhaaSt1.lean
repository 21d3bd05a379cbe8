/- A store of one cell into a slice of the call's own. -/
import Derived.Test.YtckadanghhibhaaSep3
namespace Go.Proofs.Ytckadanghhibhaa
open Go Go.RowKit
section
variable {P : Program} {ops : Array Oper} {rest : List Oper} {d : Option Tmp} {x y : Operand} {ty : TypeId} {pos : String} {af : Array Edge} {gd : Option (Nat × Bool)} {a : Act} {w w0 : World} {Q : Exit → Act → World → Prop} {S : Nat → Prop} {L : List Ass} {T : TypeId}
theorem sStoreO1 (hS : St S w0 w L) (hT : Plain P T) {g k cap sz i : Nat} {e : TypeId} {xs : List Value} {v : Value} {L' : List Ass} (hw : Region.wanted ⟨d, .store T x y, ty, pos, af, gd⟩ (yielded ops a.tmps) = true) (hx : a.eval x = .pointer (some ⟨g, i, none⟩)) (hy : a.eval y = v)
    (r : Rep (.own (.slice (some ⟨g, 0, none⟩) k cap) e sz k xs) (.own (.slice (some ⟨g, 0, none⟩) k cap) e sz k (spl xs i [v])) L L') (hi : i + 1 ≤ xs.length) (h1 : v.oneCell' = true)
    (h : ∀ w', St S w0 w' L' → wpList P ops Q rest (a.put d undef) w') : wpList P ops Q (⟨d, .store T x y, ty, pos, af, gd⟩ :: rest) a w := by
  obtain ⟨cur, hg, hc, hk⟩ := own_store (vs := [v]) i (hS.own r.mem) (by simpa using hi)
  have hcur : i < cur.size := by simp at hc; omega
  have hrun : (Instr.storeAt T (.pointer (some ⟨g, i, none⟩)) v).run P w = .ok () (w.setRow g (splice cur i [v])) := by
    have hcell : w.cell? ⟨g, i, none⟩ = some cur[i] := by rw [cell_of_row _ _ _ _ _ _ hg]; simp [hcur]
    have hf := frozen_of_row w g i cur e hg
    have hs := hT.one
    have hcells : v.cells = #[v] := by cases v <;> first | rfl | (simp [Value.oneCell'] at h1)
    have hset : w.setCell ⟨g, i, none⟩ v = w.setRow g (splice cur i [v]) := by
      rw [setCell_eq_setRow w g i cur e (0, 0) v hg, ← splice_cons cur i v [] (by simp; omega), splice_nil]
    cases hq : P.info? T with
    | none => simp [hq] at hs
    | some inf =>
      have hone : inf.size = 1 := by simpa [hq] using hs
      have hst := run_store P w ⟨g, i, none⟩ v .plain h1
      rw [← hset]
      simp [Instr.storeAt, Instr.sureAddr, storeVar, Sem.run_bind, sizeOf, typeInfo, hq, hone, hcells, storeCells, add_off, hst, hcell, hf]
  refine wpList_act (w' := w.setRow g (splice cur i [v])) hw (by unfold execOp; simp only [hx, hy, hrun, Sem.run_bind, Result.andThen_ok, Sem.run_pure]) (h _ ?_)
  exact hS.rep r rfl (fun _ hk => .inl hk) ((Mod.refl _ _).setRow (S := (Ass.own (.slice (some ⟨g, 0, none⟩) k cap) e sz k xs).foot) (.inl rfl) _) (hk _ (setRow_heap _ _ _ _ _ _ hg))
end
end Go.Proofs.Ytckadanghhibhaa
