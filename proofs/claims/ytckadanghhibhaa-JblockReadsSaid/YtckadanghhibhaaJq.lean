/- Blocks loaded and compared where a guard stands, and in regions that draw. -/
import Derived.Test.YtckadanghhibhaaJaw
import Derived.BigQuiet
import Derived.Laws.StructEq
import Derived.Test.YtckadanghhibhaaFrame
namespace Go.Proofs.Ytckadanghhibhaa
open Go.RowKit

section
variable {P : Program} {T E : TypeId} {ops : Array Oper} {rest : List Oper} {d : Option Tmp} {x y : Operand} {ty : TypeId} {pos : String} {af : Array Edge} {a : Act} {w : World} {gd : Option (Nat × Bool)}

theorem run_loadAt_blk (hT : BlkT P T E) (w : World) (g : Nat) (bs : List UInt8) (t : TypeId) (hl : bs.length = 256) (hg : w.heap[g]? = some (.cells (encB bs) t (0, 0))) :
    (Instr.loadAt T (.pointer (some ⟨g, 0, none⟩))).run P w = .ok (.agg (encB bs)) w := by
  simp only [Instr.loadAt, Instr.sureAddr, Sem.run_bind, Sem.run_pure, Result.andThen_ok, run_loadVar_blk hT w g bs t hl hg]

theorem wpList_loadBg (hT : BlkT P T E) {Q : Exit → Act → World → Prop} {g : Nat} {bs : List UInt8} {e : TypeId}
    (hw : Region.wanted ⟨d, .load T x, ty, pos, af, gd⟩ (yielded ops a.tmps) = true) (hx : a.eval x = .pointer (some ⟨g, 0, none⟩)) (hl : bs.length = 256) (hg : w.heap[g]? = some (.cells (encB bs) e (0, 0)))
    (h : wpList P ops Q rest (a.put d (.agg (encB bs))) w) : wpList P ops Q (⟨d, .load T x, ty, pos, af, gd⟩ :: rest) a w := by
  refine wpList_step fun K hK => ?_
  rw [if_pos hw]
  unfold Oper.wp execOp
  simp only [hx, run_loadAt_blk hT w g bs e hl hg, Sem.run_bind, Result.andThen_ok, Sem.run_pure, Oper.upon_value]
  exact hK _ _ h

theorem wpList_eqlBg (hT : BlkT P T E) {Q : Exit → Act → World → Prop} {bs cs : List UInt8} {rt : TypeId}
    (hw : Region.wanted ⟨d, .binOp .eql T x y rt, ty, pos, af, gd⟩ (yielded ops a.tmps) = true) (hx : a.eval x = .agg (encB bs)) (hy : a.eval y = .agg (encB cs)) (hl : bs.length = 256) (hl2 : cs.length = 256)
    (h : wpList P ops Q rest (a.put d (.bool (bs == cs))) w) : wpList P ops Q (⟨d, .binOp .eql T x y rt, ty, pos, af, gd⟩ :: rest) a w := by
  refine wpList_step fun K hK => ?_
  rw [if_pos hw]
  unfold Oper.wp execOp
  simp only [hx, hy, run_guard_blk hT w .eql x y (encB bs) (encB cs) (.inl rfl), run_eql_blk hT w bs cs hl hl2, Sem.run_bind, Result.andThen_ok, Sem.run_pure, Oper.upon_value]
  exact hK _ _ h

theorem wpList_neqBg (hT : BlkT P T E) {Q : Exit → Act → World → Prop} {bs cs : List UInt8} {rt : TypeId}
    (hw : Region.wanted ⟨d, .binOp .neq T x y rt, ty, pos, af, gd⟩ (yielded ops a.tmps) = true) (hx : a.eval x = .agg (encB bs)) (hy : a.eval y = .agg (encB cs)) (hl : bs.length = 256) (hl2 : cs.length = 256)
    (h : wpList P ops Q rest (a.put d (.bool (!(bs == cs)))) w) : wpList P ops Q (⟨d, .binOp .neq T x y rt, ty, pos, af, gd⟩ :: rest) a w := by
  refine wpList_step fun K hK => ?_
  rw [if_pos hw]
  unfold Oper.wp execOp
  simp only [hx, hy, run_guard_blk hT w .neq x y (encB bs) (encB cs) (.inr rfl), run_neq_blk hT w bs cs hl hl2, Sem.run_bind, Result.andThen_ok, Sem.run_pure, Oper.upon_value]
  exact hK _ _ h

theorem wpQuiet_loadB (hT : BlkT P T E) {Q : Act → Prop} {g : Nat} {bs : List UInt8} {e : TypeId}
    (hw : Region.wanted ⟨d, .load T x, ty, pos, af, gd⟩ (yielded ops a.tmps) = true) (hx : a.eval x = .pointer (some ⟨g, 0, none⟩)) (hl : bs.length = 256) (hg : w.heap[g]? = some (.cells (encB bs) e (0, 0)))
    (h : wpQuiet P ops (fun w' => ∃ n, w' = w.drewN n) Q rest (a.put d (.agg (encB bs)))) : wpQuiet P ops (fun w' => ∃ n, w' = w.drewN n) Q (⟨d, .load T x, ty, pos, af, gd⟩ :: rest) a := by
  refine wpQuiet_step fun K hK => ?_
  rw [if_pos hw]
  refine ⟨_, fun w' hw' => ?_, hK _ h⟩
  obtain ⟨n, rfl⟩ := hw'
  unfold Oper.quietAt execOp
  simp only [hx, run_loadAt_blk hT (w.drewN n) g bs e hl hg, Sem.run_bind, Result.andThen_ok, Sem.run_pure, Oper.quietUpon, and_self]

theorem wpQuiet_eqlB (hT : BlkT P T E) {C : World → Prop} {Q : Act → Prop} {bs cs : List UInt8} {rt : TypeId}
    (hw : Region.wanted ⟨d, .binOp .eql T x y rt, ty, pos, af, gd⟩ (yielded ops a.tmps) = true) (hx : a.eval x = .agg (encB bs)) (hy : a.eval y = .agg (encB cs)) (hl : bs.length = 256) (hl2 : cs.length = 256)
    (h : wpQuiet P ops C Q rest (a.put d (.bool (bs == cs)))) : wpQuiet P ops C Q (⟨d, .binOp .eql T x y rt, ty, pos, af, gd⟩ :: rest) a := by
  refine wpQuiet_step fun K hK => ?_
  rw [if_pos hw]
  refine ⟨_, fun w' hw' => ?_, hK _ h⟩
  unfold Oper.quietAt execOp
  simp only [hx, hy, run_guard_blk hT w' .eql x y (encB bs) (encB cs) (.inl rfl), run_eql_blk hT w' bs cs hl hl2, Sem.run_bind, Result.andThen_ok, Sem.run_pure, Oper.quietUpon, and_self]

theorem wpQuiet_neqB (hT : BlkT P T E) {C : World → Prop} {Q : Act → Prop} {bs cs : List UInt8} {rt : TypeId}
    (hw : Region.wanted ⟨d, .binOp .neq T x y rt, ty, pos, af, gd⟩ (yielded ops a.tmps) = true) (hx : a.eval x = .agg (encB bs)) (hy : a.eval y = .agg (encB cs)) (hl : bs.length = 256) (hl2 : cs.length = 256)
    (h : wpQuiet P ops C Q rest (a.put d (.bool (!(bs == cs))))) : wpQuiet P ops C Q (⟨d, .binOp .neq T x y rt, ty, pos, af, gd⟩ :: rest) a := by
  refine wpQuiet_step fun K hK => ?_
  rw [if_pos hw]
  refine ⟨_, fun w' hw' => ?_, hK _ h⟩
  unfold Oper.quietAt execOp
  simp only [hx, hy, run_guard_blk hT w' .neq x y (encB bs) (encB cs) (.inr rfl), run_neq_blk hT w' bs cs hl hl2, Sem.run_bind, Result.andThen_ok, Sem.run_pure, Oper.quietUpon, and_self]
theorem wpQuiet_cmp {C : World → Prop} {Q : Act → Prop} {op : BinOp} {rt : TypeId} {vx vy v : Value}
    (hw : Region.wanted ⟨d, .binOp op T x y rt, ty, pos, af, gd⟩ (yielded ops a.tmps) = true) (hx : a.eval x = vx) (hy : a.eval y = vy) (hg : ∀ w, (eqGuard op T x y vx vy).run P w = .ok () w) (hr : ∀ w, (binOp op T vx vy).run P w = .ok v w)
    (h : wpQuiet P ops C Q rest (a.put d v)) : wpQuiet P ops C Q (⟨d, .binOp op T x y rt, ty, pos, af, gd⟩ :: rest) a := by
  refine wpQuiet_step fun K hK => ?_
  rw [if_pos hw]
  refine ⟨_, fun w' hw' => ?_, hK _ h⟩
  unfold Oper.quietAt execOp
  simp only [hx, hy, hg, hr, Sem.run_bind, Result.andThen_ok, Sem.run_pure, Oper.quietUpon, and_self]
theorem wpList_cmp {Q : Exit → Act → World → Prop} {op : BinOp} {rt : TypeId} {vx vy v : Value}
    (hw : Region.wanted ⟨d, .binOp op T x y rt, ty, pos, af, gd⟩ (yielded ops a.tmps) = true) (hx : a.eval x = vx) (hy : a.eval y = vy) (hg : ∀ w, (eqGuard op T x y vx vy).run P w = .ok () w) (hr : ∀ w, (binOp op T vx vy).run P w = .ok v w)
    (h : wpList P ops Q rest (a.put d v) w) : wpList P ops Q (⟨d, .binOp op T x y rt, ty, pos, af, gd⟩ :: rest) a w := by
  refine wpList_step fun K hK => ?_
  rw [if_pos hw]
  unfold Oper.wp execOp
  simp only [hx, hy, hg, hr, Sem.run_bind, Result.andThen_ok, Sem.run_pure, Oper.upon_value]
  exact hK _ _ h
end

theorem fieldsOf_eq {P : Program} {t : TypeId} {fs : Array Field} (h : P.underlying t = some (.struct fs)) : P.fieldsOf t = fs := by simp [Program.fieldsOf, h]

theorem head_guard (op : BinOp) (x y : Operand) (a b : Array Value) (w : World) : (eqGuard op 24 x y (.agg a) (.agg b)).run Try.prog w = .ok () w :=
  run_eqGuard_agg w op _ x y a b (by kernel_rfl)
theorem head_equal (s st s2 st2 : Int) (w : World) : (Op.equalIn 10000 24 (.agg #[.int .u32 s, .int .i64 st]) (.agg #[.int .u32 s2, .int .i64 st2])).run Try.prog w = .ok (s == s2 && st == st2) w := by
  have hf := fieldsOf_eq Try.underlying24
  rw [run_equalIn_struct w 9999 _ _ _ (by rw [hf]; exact Try.underlying24) (by kernel_rfl), hf]
  have u1 := Try.underlying22
  have u2 := Try.underlying3
  by_cases h : s = s2 <;> by_cases h2 : st = st2 <;> simp [Op.eqFields, part, isAgg, run_underlying u1, run_underlying u2, h, h2, go_sem]
theorem head_eql (s st s2 st2 : Int) (w : World) : (binOp .eql 24 (.agg #[.int .u32 s, .int .i64 st]) (.agg #[.int .u32 s2, .int .i64 st2])).run Try.prog w = .ok (.bool (s == s2 && st == st2)) w := by
  rw [run_eql_struct, head_equal]; rfl
theorem head_neq (s st s2 st2 : Int) (w : World) : (binOp .neq 24 (.agg #[.int .u32 s, .int .i64 st]) (.agg #[.int .u32 s2, .int .i64 st2])).run Try.prog w = .ok (.bool (!(s == s2 && st == st2))) w := by
  rw [run_neq_struct, head_equal]; rfl

theorem get_block4 (a b c e : Int) (hc : 0 ≤ c ∧ c < 4294967296) (he : 0 ≤ e ∧ e < 4294967296) : get32 (blockOf [a, b, c, e]) 8 = c ∧ get32 (blockOf [a, b, c, e]) 12 = e := by
  have l3 : (put32 (put32 Z256 0 a) 4 b).length = 256 := by rw [put32_len, put32_len, Z256_len]
  have l4 : (put32 (put32 (put32 Z256 0 a) 4 b) 8 c).length = 256 := by rw [put32_len]; exact l3
  have e8 : get32 (put32 (put32 (put32 (put32 Z256 0 a) 4 b) 8 c) 12 e) 8 = c := (get32_put32_other _ 12 8 e (.inl (by omega))).trans (get32_put32 _ 8 c (by rw [l3]; omega) hc.1 hc.2)
  have e12 : get32 (put32 (put32 (put32 (put32 Z256 0 a) 4 b) 8 c) 12 e) 12 = e := get32_put32 _ 12 e (by rw [l4]; omega) he.1 he.2
  exact ⟨e8, e12⟩

theorem cellsHead : Try.prog.cellsOf 24 = 2 := by kernel_rfl
theorem cellsU32 : Try.prog.cellsOf 22 = 1 := by kernel_rfl
theorem cellsInt : Try.prog.cellsOf 3 = 1 := by kernel_rfl
set_option maxRecDepth 100000 in
theorem head_arg {w : World} {v : Value} (h : ArgIs Try.prog w 24 v) : ∃ s st : Int, v = .agg #[.int .u32 s, .int .i64 st] ∧ 0 ≤ s ∧ s < 4294967296 := by
  obtain ⟨cs, rfl, hr⟩ := h.struct Try.underlying24
  obtain ⟨hlen, hall⟩ := hr.struct Try.underlying24
  rw [cellsHead] at hlen
  obtain ⟨l⟩ := cs
  obtain ⟨a, b, rfl⟩ : ∃ a b, l = [a, b] := by
    match l, hlen with
    | [a, b], _ => exact ⟨a, b, rfl⟩
  obtain ⟨s, e0, hs⟩ := (hall 0 _ rfl).int Try.underlying22
  obtain ⟨t, e1, _⟩ := (hall 1 _ rfl).int Try.underlying3
  simp [cellsU32, cellsInt] at e0 e1
  subst e0 e1
  exact ⟨s, t, rfl, by
    simp [Lit.wf] at hs
    have h1 : IntKind.u32.min = 0 := rfl
    have h2 : IntKind.u32.max = 4294967295 := rfl
    omega⟩
end Go.Proofs.Ytckadanghhibhaa
