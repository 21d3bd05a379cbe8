/- make with a variable size, elements of any number of cells; structs of two cells in a row. Over any program. -/
import Derived.Test.YtckadanghhibhaaBase
import Derived.Deep.OwnRows
import Derived.OwnWalk
namespace Go.Proofs.Ytckadanghhibhaa
open Go.RowKit

theorem wpList_makeC {P : Program} (w : World) {ops : Array Oper} {rest : List Oper} {o : Oper} {a : Act} {Q : Exit → Act → World → Prop}
    (hg : o.guard = none) (l c : Operand) (t : TypeId) (hop : o.op = Op.makeSlice t l c)
    (e : TypeId) (z : Value) (sz bytes : Nat) (ht : P.underlying t = some (.slice e)) (hinfo : (P.info? e).map (fun i => (i.zero, i.size, i.bytes)) = some (some z, sz, bytes))
    (kl kc : IntKind) (n : Nat) (hl : a.eval l = .int kl (n : Int)) (hc : a.eval c = .int kc (n : Int)) (hbytes : bytes * n ≤ 281474976710656) (h63 : n ≤ 9223372036854775807)
    (hK : wpList P ops Q rest (a.put o.dst (.slice (some ⟨w.heap.size, 0, none⟩) n n)) (w.alloc (.cells (madeCells z.cells (n * sz)) e))) :
    wpList P ops Q (o :: rest) a w := by
  obtain ⟨i, hi, hzz⟩ := Option.map_eq_some_iff.1 hinfo
  simp only [Prod.mk.injEq] at hzz
  obtain ⟨hz, hs, hb⟩ := hzz
  refine wpList_plain hg fun K hK' => ?_
  have hrun : (Instr.makeSlice t (.int kl (n : Int)) (.int kc (n : Int))).run P w = .ok (.slice (some ⟨w.heap.size, 0, none⟩) n n) (w.alloc (.cells (madeCells z.cells (n * sz)) e)) := by
    have hb' : (i.bytes : Int) * (n : Int) ≤ 281474976710656 := by
      have h : ((i.bytes * n : Nat) : Int) ≤ 281474976710656 := by rw [hb]; omega
      rwa [Int.natCast_mul] at h
    have hr := run_make (P := P) w t e i z ht hi hz kl kc n n (by omega) (Int.le_refl _) hb' (by omega)
    simp only [Int.toNat_natCast, hs] at hr
    exact hr
  unfold Oper.wp
  simp [execOp, hop, hl, hc, hrun, Result.andThen]
  exact hK' _ _ hK

/-- A row of pairs of cells. -/
theorem made_two (x y : Value) (n : Nat) : madeCells #[x, y] (n * 2) = ((List.replicate n [x, y]).flatten).toArray := by
  apply Array.ext
  · have : ∀ n : Nat, ((List.replicate n [x, y]).flatten).length = n * 2 := by
      intro n
      induction n with
      | zero => rfl
      | succ n ih => rw [List.replicate_succ, List.flatten_cons, List.length_append, ih]; simp; omega
    exact (size_madeCells _ _).trans ((this n).symm.trans List.size_toArray.symm)
  · intro i h1 h2
    have hi : i < n * 2 := by simpa [madeCells] using h1
    have e : ∀ (n i : Nat) (h : i < ((List.replicate n [x, y]).flatten).length), ((List.replicate n [x, y]).flatten)[i] = if i % 2 = 0 then x else y := by
      intro n
      induction n with
      | zero => intro i h; simp at h
      | succ n ih =>
        intro i h
        match i with
        | 0 => simp [List.replicate_succ]
        | 1 => simp [List.replicate_succ]
        | i + 2 =>
          have h' : i < ((List.replicate n [x, y]).flatten).length := by
            simp [List.replicate_succ] at h ⊢; omega
          have := ih i h'
          simp only [List.replicate_succ, List.flatten_cons, List.cons_append, List.nil_append, List.getElem_cons_succ]
          rw [this, show (i + 2) % 2 = i % 2 by omega]
    simp only [List.getElem_toArray, e]
    rcases Nat.mod_two_eq_zero_or_one i with h | h <;> simp [madeCells, h]
end Go.Proofs.Ytckadanghhibhaa
