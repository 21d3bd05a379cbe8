/- Structs of two plain fields, compared. Over any program. -/
import Derived.Test.YtdpbdmbgdcdmaaaArg
namespace Go.Proofs.Ytdpbdmbgdcdmaaa
open Go Go.RowKit

/-- Values of a type are compared as x and y are. -/
structure EqAs (P : Program) (t : TypeId) {α : Type} [BEq α] (f : α → Value) : Prop where
  eq : ∀ (d : Nat) (w : World) (x y : α), (Op.equalIn (d + 1) t (f x) (f y)).run P w = .ok (x == y) w
theorem eqAs_int {P : Program} {t : TypeId} {k k' : IntKind} (h : P.underlying t = some (.int k')) : EqAs P t (Value.int k) := ⟨fun d w x y => run_equalIn_int w d t k k' x y h⟩
theorem eqAs_str {P : Program} {t : TypeId} (h : P.underlying t = some .string) : EqAs P t Value.string := ⟨fun d w x y => by rw [run_equalIn_string w d t x y h, beq_toListBytes]⟩
theorem run_part1 {P : Program} {t : TypeId} [hT : Plain P t] (w : World) (xs : Array Value) (i : Nat) (v : Value) (h : xs[i]? = some v) : (part t xs i).run P w = .ok v w := by
  unfold part
  simp only [Sem.run_bind, hT.agg, Result.andThen_ok, h]
  simp
section
variable {P : Program} {t t0 t1 : TypeId} {α β : Type} [BEq α] [BEq β] {f : α → Value} {g : β → Value}
structure Two2 (P : Program) (t t0 t1 : TypeId) : Prop where
  st : P.underlying t = some (.struct (P.fieldsOf t))
  held : P.stoodInHeld t = false
  fs : (P.fieldsOf t).toList.map (fun f => (f.name == "_", f.type, f.offset)) = [(false, t0, 0), (false, t1, 1)]
  guard : P.eqGuardType P.depth t = false
theorem run_eq_two (h : Two2 P t t0 t1) [Plain P t0] [Plain P t1] (hf : EqAs P t0 f) (hg : EqAs P t1 g) (d : Nat) (w : World) (x x' : α) (y y' : β) :
    (Op.equalIn (d + 2) t (.agg #[f x, g y]) (.agg #[f x', g y'])).run P w = .ok ((x == x') && (y == y')) w := by
  rw [run_equalIn_struct w (d + 1) t _ _ h.st h.held]
  have hs := h.fs
  match hl : (P.fieldsOf t).toList, hs with
  | [f0, f1], hs =>
    simp only [List.map_cons, List.map_nil, List.cons.injEq, Prod.mk.injEq, and_true] at hs
    obtain ⟨⟨a1, a2, a3⟩, b1, b2, b3⟩ := hs
    have n0 : f0.name ≠ "_" := beq_eq_false_iff_ne.1 a1
    have n1 : f1.name ≠ "_" := beq_eq_false_iff_ne.1 b1
    simp only [Op.eqFields, n0, n1, ne_eq, not_false_eq_true, if_true, a2, a3, b2, b3]
    simp only [Sem.run_bind, run_part1 (P := P) (t := t0) w #[f x, g y] 0 (f x) rfl, run_part1 (P := P) (t := t0) w #[f x', g y'] 0 (f x') rfl, Result.andThen_ok, hf.eq]
    cases x == x'
    · simp
    · simp only [Bool.not_true, Bool.false_eq_true, if_false, Sem.run_bind, run_part1 (P := P) (t := t1) w #[f x, g y] 1 (g y) rfl, run_part1 (P := P) (t := t1) w #[f x', g y'] 1 (g y') rfl, Result.andThen_ok, hg.eq]
      cases y == y' <;> simp
  | [], hs => cases hs
  | [_], hs => simp at hs
  | _ :: _ :: _ :: _, hs => simp at hs
variable {d : Option Tmp} {X Y : Operand} {ty t2 : TypeId} {pos : String} {af : Array Edge} {gd : Option (Nat × Bool)} {a : Act}
theorem valEq2 (h : Two2 P t t0 t1) [Plain P t0] [Plain P t1] (hf : EqAs P t0 f) (hg : EqAs P t1 g) {x x' : α} {y y' : β} (hx : a.eval X = .agg #[f x, g y]) (hy : a.eval Y = .agg #[f x', g y']) : Val P a ⟨d, .binOp .eql t X Y t2, ty, pos, af, gd⟩ (.bool ((x == x') && (y == y'))) := fun w => by
  unfold execOp
  simp only [hx, hy, run_eqGuard_agg w .eql t X Y _ _ h.guard, run_eql_struct w t, run_eq_two h hf hg 9998 w x x' y y', Sem.run_bind, Result.andThen_ok, Sem.run_pure]
theorem valNe2 (h : Two2 P t t0 t1) [Plain P t0] [Plain P t1] (hf : EqAs P t0 f) (hg : EqAs P t1 g) {x x' : α} {y y' : β} (hx : a.eval X = .agg #[f x, g y]) (hy : a.eval Y = .agg #[f x', g y']) : Val P a ⟨d, .binOp .neq t X Y t2, ty, pos, af, gd⟩ (.bool (!((x == x') && (y == y')))) := fun w => by
  unfold execOp
  simp only [hx, hy, run_eqGuard_agg w .neq t X Y _ _ h.guard, run_neq_struct w t, run_eq_two h hf hg 9998 w x x' y y', Sem.run_bind, Result.andThen_ok, Sem.run_pure]
end
end Go.Proofs.Ytdpbdmbgdcdmaaa
