/- Blocks of bytes as values: made, read whole, written whole, compared. Over any program, given a few closed facts on the block's type. -/
import Derived.Test.YtckadanghhibhaaBytes
import Derived.ChangeKeysEq
namespace Go.Proofs.Ytckadanghhibhaa
open Go.RowKit

/-- The block of noughts. -/
def Z256 : List UInt8 := List.replicate 256 0
theorem Z256_len : Z256.length = 256 := List.length_replicate
theorem Z256_get (k : Nat) : gB Z256 k = 0 := by
  have h : Z256.getD k 0 = 0 := by
    rw [List.getD_eq_getElem?_getD, Z256, List.getElem?_replicate]
    split <;> rfl
  unfold gB
  rw [h]
  rfl

/-- The closed facts on a block's type T, with the byte's type E. -/
structure BlkT (P : Program) (T E : TypeId) : Prop where
  arr : P.underlying T = some (.array 256 E)
  byte : P.underlying E = some (.int .u8)
  zero : (P.info? T).bind (·.zero) = some (.agg (encB Z256))
  size : (P.info? T).map (·.size) = some 256
  one : P.cellsOf E = 1
  ei : (P.info? E).isSome = true
  guard : P.eqGuardType P.depth T = false
  built : P.built T [] = some (encB Z256)

section
variable {P : Program} {T E : TypeId}

theorem run_alloc_blk (hT : BlkT P T E) (w : World) : (Instr.alloc T true (.tuple #[])).run P w = .ok (.pointer (some ⟨w.heap.size, 0, none⟩)) (w.alloc (.cells (encB Z256) T)) := by
  have hz := hT.zero
  cases hq : P.info? T with
  | none => simp [hq] at hz
  | some i =>
    simp [hq] at hz
    simp [Instr.alloc, zeroValue, typeInfo, hq, hz, newVar, newRow, Value.cells, Sem.run_bind, go_sem]

theorem wpList_allocB (hT : BlkT P T E) {ops : Array Oper} {rest : List Oper} {o : Oper} {a : Act} {w : World} {Q : Exit → Act → World → Prop} (hgd : o.guard = none) (ho : o.op = .alloc T)
    (h : wpList P ops Q rest (a.put o.dst (.pointer (some ⟨w.heap.size, 0, none⟩))) (w.alloc (.cells (encB Z256) T))) : wpList P ops Q (o :: rest) a w := by
  refine wpList_plain hgd fun K hK => ?_
  unfold Oper.wp execOp
  simp only [ho, Sem.run_bind, run_alloc_blk hT w, Result.andThen_ok, Sem.run_pure, Oper.upon_value]
  exact hK _ _ h

theorem wpList_loadB (hT : BlkT P T E) {ops : Array Oper} {rest : List Oper} {o : Oper} {a : Act} {w : World} {Q : Exit → Act → World → Prop} (hgd : o.guard = none) (x : Operand) (ho : o.op = .load T x)
    (g : Nat) (hx : a.eval x = .pointer (some ⟨g, 0, none⟩)) (bs : List UInt8) (e : TypeId) (hl : bs.length = 256) (hg : w.heap[g]? = some (.cells (encB bs) e (0, 0)))
    (h : wpList P ops Q rest (a.put o.dst (.agg (encB bs))) w) : wpList P ops Q (o :: rest) a w :=
  wpList_load_row hgd T x ho g hx e (encB bs) (0, 0) _ hg hT.arr rfl (by rw [hT.size, encB_size, hl]) h

theorem wpList_storeB (hT : BlkT P T E) {ops : Array Oper} {rest : List Oper} {o : Oper} {a : Act} {w : World} {Q : Exit → Act → World → Prop} (hgd : o.guard = none) (x y : Operand) (ho : o.op = .store T x y)
    (g : Nat) (hx : a.eval x = .pointer (some ⟨g, 0, none⟩)) (bs old : List UInt8) (hy : a.eval y = .agg (encB bs)) (e : TypeId) (hl : bs.length = 256) (hlo : old.length = 256) (hg : w.heap[g]? = some (.cells (encB old) e (0, 0)))
    (h : wpList P ops Q rest (a.put o.dst undef) (w.setRow g (encB bs))) : wpList P ops Q (o :: rest) a w :=
  wpList_store_row hgd T x y ho g (encB bs) hx hy e (encB old) hg (by rw [hT.size, encB_size, hl]) (by rw [encB_size, encB_size, hl, hlo])
    (Array.all_eq_true_iff_forall_mem.2 (fun v hv => encB_one bs v (by simpa using hv))) h

theorem wpList_allocB' (hT : BlkT P T E) {ops : Array Oper} {rest : List Oper} {d : Option Tmp} {ty : TypeId} {pos : String} {af : Array Edge} {a : Act} {w : World} {Q : Exit → Act → World → Prop}
    (h : wpList P ops Q rest (a.put d (.pointer (some ⟨w.heap.size, 0, none⟩))) (w.alloc (.cells (encB Z256) T))) : wpList P ops Q (⟨d, .alloc T, ty, pos, af, none⟩ :: rest) a w :=
  wpList_allocB hT rfl rfl h
theorem wpList_loadB' (hT : BlkT P T E) {ops : Array Oper} {rest : List Oper} {d : Option Tmp} {x : Operand} {ty : TypeId} {pos : String} {af : Array Edge} {a : Act} {w : World} {Q : Exit → Act → World → Prop}
    {g : Nat} {bs : List UInt8} {e : TypeId} (hx : a.eval x = .pointer (some ⟨g, 0, none⟩)) (hl : bs.length = 256) (hg : w.heap[g]? = some (.cells (encB bs) e (0, 0)))
    (h : wpList P ops Q rest (a.put d (.agg (encB bs))) w) : wpList P ops Q (⟨d, .load T x, ty, pos, af, none⟩ :: rest) a w :=
  wpList_loadB hT rfl x rfl g hx bs e hl hg h
theorem wpList_storeB' (hT : BlkT P T E) {ops : Array Oper} {rest : List Oper} {d : Option Tmp} {x y : Operand} {ty : TypeId} {pos : String} {af : Array Edge} {a : Act} {w : World} {Q : Exit → Act → World → Prop}
    {g : Nat} {bs old : List UInt8} {e : TypeId} (hx : a.eval x = .pointer (some ⟨g, 0, none⟩)) (hy : a.eval y = .agg (encB bs)) (hl : bs.length = 256) (hlo : old.length = 256) (hg : w.heap[g]? = some (.cells (encB old) e (0, 0)))
    (h : wpList P ops Q rest (a.put d undef) (w.setRow g (encB bs))) : wpList P ops Q (⟨d, .store T x y, ty, pos, af, none⟩ :: rest) a w :=
  wpList_storeB hT rfl x y rfl g hx bs old hy e hl hlo hg h

theorem wpList_buildZ' (hT : BlkT P T E) {ops : Array Oper} {rest : List Oper} {d : Option Tmp} {ty : TypeId} {pos : String} {af : Array Edge} {a : Act} {w : World} {Q : Exit → Act → World → Prop}
    (h : wpList P ops Q rest (a.put d (.agg (encB Z256))) w) : wpList P ops Q (⟨d, .build T #[], ty, pos, af, none⟩ :: rest) a w := by
  have e : P.built T ((#[] : Array (Nat × Operand)).map fun (i, x) => (i, a.eval x)).toList = some (encB Z256) := by simpa using hT.built
  refine wpList_build rfl T #[] rfl (by rw [e]; rfl) ?_
  rw [e]
  exact h

/-- A function's results, a block in a cell ahead. -/
theorem results_blk (hT : BlkT P T E) {fn : Func} {p : Tmp} (h : fn.results = #[.cell p T]) (tmps : Array Value) (w : World) (g : Nat) (bs : List UInt8) (t : TypeId) (hl : bs.length = 256)
    (hp : tmps.getD p undef = .pointer (some ⟨g, 0, none⟩)) (hg : w.heap[g]? = some (.cells (encB bs) t (0, 0))) : (results fn tmps).run P w = .ok (.agg (encB bs)) w :=
  results_cell_row h tmps w g t (encB bs) (0, 0) _ hp hg hT.arr rfl (by rw [hT.size, encB_size, hl])
theorem run_loadVar_blk (hT : BlkT P T E) (w : World) (g : Nat) (bs : List UInt8) (t : TypeId) (hl : bs.length = 256) (hg : w.heap[g]? = some (.cells (encB bs) t (0, 0))) : (loadVar T ⟨g, 0, none⟩).run P w = .ok (.agg (encB bs)) w :=
  run_loadVar_row w g t T (encB bs) (0, 0) _ hg hT.arr rfl (by rw [hT.size, encB_size, hl])
theorem results_blk2 (hT : BlkT P T E) {fn : Func} {p q : Tmp} (h : fn.results = #[.cell p T, .tmp q]) (tmps : Array Value) (w : World) (g : Nat) (bs : List UInt8) (t : TypeId) (hl : bs.length = 256)
    (hp : tmps.getD p undef = .pointer (some ⟨g, 0, none⟩)) (hg : w.heap[g]? = some (.cells (encB bs) t (0, 0))) : (results fn tmps).run P w = .ok (.tuple #[.agg (encB bs), tmps.getD q undef]) w := by
  have hp' : tmps[p]?.getD undef = .pointer (some ⟨g, 0, none⟩) := by simpa using hp
  simp [results, h, hp', asAddr, run_loadVar_blk hT w g bs t hl hg]

theorem run_part_byte (hT : BlkT P T E) (w : World) (bs : List UInt8) (j : Nat) (h : j < bs.length) : (part E (encB bs) j).run P w = .ok (bv (bs.getD j 0)) w := by
  have he := encB_get bs j h
  unfold part isAgg
  simp only [Sem.run_bind, run_underlying hT.byte, Result.andThen_ok, he, Sem.run_pure, go_sem]
  simp [bv]

theorem run_eqItems_bytes (hT : BlkT P T E) (d : Nat) (w : World) (a b : List UInt8) (hab : a.length = b.length) : ∀ is : List Nat, (∀ i ∈ is, i < a.length) →
    (Op.eqItems (d + 1) E 1 (encB a) (encB b) is).run P w = .ok (is.all fun i => a.getD i 0 == b.getD i 0) w
  | [], _ => by simp [Op.eqItems]
  | i :: is, h => by
    have ih := run_eqItems_bytes hT d w a b hab is (fun j hj => h j (List.mem_cons_of_mem _ hj))
    have hi := h i (List.mem_cons_self ..)
    simp only [Op.eqItems, Sem.run_bind, Nat.mul_one, run_part_byte hT w a i hi, run_part_byte hT w b i (hab ▸ hi), Result.andThen_ok, bv, run_equalIn_int w d E _ _ _ _ hT.byte]
    have e : (((a.getD i 0).toNat : Int) == ((b.getD i 0).toNat : Int)) = (a.getD i 0 == b.getD i 0) := by
      rw [Bool.eq_iff_iff]
      simp only [beq_iff_eq]
      constructor
      · intro h; exact UInt8.toNat_inj.1 (by omega)
      · intro h; rw [h]
    rw [e]
    cases hc : (a.getD i 0 == b.getD i 0)
    · simp only [Bool.not_false, if_true, Sem.run_pure, List.all_cons, hc, Bool.false_and]
    · simp only [Bool.not_true, Bool.false_eq_true, if_false, List.all_cons, hc, Bool.true_and]
      exact ih

theorem all_getD_eq (a b : List UInt8) (hab : a.length = b.length) : ((List.range a.length).all fun i => a.getD i 0 == b.getD i 0) = (a == b) := by
  rw [Bool.eq_iff_iff]
  simp only [List.all_eq_true, List.mem_range, beq_iff_eq]
  constructor
  · intro h
    apply List.ext_getElem hab
    intro i h1 h2
    have := h i h1
    simpa [h1, h2] using this
  · intro h i _
    rw [h]

theorem run_eq_blk (hT : BlkT P T E) (d : Nat) (w : World) (a b : List UInt8) (ha : a.length = 256) (hb : b.length = 256) :
    (Op.equalIn (d + 2) T (.agg (encB a)) (.agg (encB b))).run P w = .ok (a == b) w := by
  obtain ⟨i, hi⟩ := Option.isSome_iff_exists.1 hT.ei
  rw [run_equalIn_array w (d + 1) _ _ hT.arr hi, hT.one, run_eqItems_bytes hT d w a b (by omega) _ (by simp; omega), ← all_getD_eq a b (by omega), ha]

/-- '==' and '!=' of two blocks, as an equation that the walk takes. -/
theorem run_eql_blk (hT : BlkT P T E) (w : World) (a b : List UInt8) (ha : a.length = 256) (hb : b.length = 256) :
    (binOp .eql T (.agg (encB a)) (.agg (encB b))).run P w = .ok (.bool (a == b)) w := by
  simp [binOp, Op.equal, Op.maxDepth, run_eq_blk hT 9998 w a b ha hb]
theorem run_neq_blk (hT : BlkT P T E) (w : World) (a b : List UInt8) (ha : a.length = 256) (hb : b.length = 256) :
    (binOp .neq T (.agg (encB a)) (.agg (encB b))).run P w = .ok (.bool (!(a == b))) w := by
  simp [binOp, Op.equal, Op.maxDepth, run_eq_blk hT 9998 w a b ha hb]
theorem run_guard_blk (hT : BlkT P T E) (w : World) (op : BinOp) (x y : Operand) (a b : Array Value) (h : op = .eql ∨ op = .neq) : (eqGuard op T x y (.agg a) (.agg b)).run P w = .ok () w := by
  rcases h with rfl | rfl <;> simp [eqGuard, hT.guard, go_sem]
end
end Go.Proofs.Ytckadanghhibhaa
