/- Drawn regions whose callees lay new blocks: walked once, at the class 'new blocks may lie behind, the tape may have been asked'. -/
import Derived.Test.YtckadanghhibhaaJq
import Derived.Lib.QuietBelow
namespace Go.Proofs.Ytckadanghhibhaa
open Go.RowKit Go.Sort

abbrev Rg (w : World) : World → Prop := fun w' => ∃ p : Regrown, w' = grow (redrawn w p.d) p.os
theorem rg_mod {w w' : World} (h : ∃ p : Regrown, w' = grow (redrawn w p.d) p.os) : Mod none' w w' := by
  obtain ⟨p, rfl⟩ := h
  exact Mod.of_new (below_regrown w p.d p.os)
theorem rg_call {P : Program} {f : FuncId} {args : Array Value} {w : World} {d : Nat} {os : Array Obj} {v : Value}
    (h : Calls P f args (grow (redrawn w d) os) fun e w' => e = .returned v ∧ Mod none' (grow (redrawn w d) os) w') : Calls P f args (grow (redrawn w d) os) fun e w'' => e = .returned v ∧ ∃ p : Regrown, w'' = grow (redrawn w p.d) p.os :=
  Calls.regrown_of (h.mono fun _ _ ⟨he, hm⟩ => ⟨he, hm.new⟩)
theorem rg_row {w : World} {g : Nat} {o : Obj} (h : w.heap[g]? = some o) (d : Nat) (os : Array Obj) : (grow (redrawn w d) os).heap[g]? = some o :=
  (rg_mod ⟨⟨d, os⟩, rfl⟩).row h (fun e => e)

section
variable {P : Program} {T E : TypeId} {ops : Array Oper} {rest : List Oper} {d : Option Tmp} {x y : Operand} {ty : TypeId} {pos : String} {af : Array Edge} {a : Act} {w : World} {gd : Option (Nat × Bool)}
theorem wpQuietR_loadB (hT : BlkT P T E) {Q : Act → Prop} {g : Nat} {bs : List UInt8} {e : TypeId}
    (hw : Region.wanted ⟨d, .load T x, ty, pos, af, gd⟩ (yielded ops a.tmps) = true) (hx : a.eval x = .pointer (some ⟨g, 0, none⟩)) (hl : bs.length = 256) (hg : w.heap[g]? = some (.cells (encB bs) e (0, 0)))
    (h : wpQuiet P ops (fun w' => ∃ p : Regrown, w' = grow (redrawn w p.d) p.os) Q rest (a.put d (.agg (encB bs)))) : wpQuiet P ops (fun w' => ∃ p : Regrown, w' = grow (redrawn w p.d) p.os) Q (⟨d, .load T x, ty, pos, af, gd⟩ :: rest) a := by
  refine wpQuiet_step fun K hK => ?_
  rw [if_pos hw]
  refine ⟨_, fun w' hw' => ?_, hK _ h⟩
  obtain ⟨p, rfl⟩ := hw'
  unfold Oper.quietAt execOp
  simp only [hx, run_loadAt_blk hT _ g bs e hl (rg_row hg p.d p.os), Sem.run_bind, Result.andThen_ok, Sem.run_pure, Oper.quietUpon, and_self]
end

theorem put32_same (bs : List UInt8) (p : Nat) (a b : Int) : put32 (put32 bs p a) p b = put32 bs p b := by
  unfold put32
  simp only [List.set_comm _ _ (show p + 3 ≠ p by omega), List.set_comm _ _ (show p + 3 ≠ p + 1 by omega), List.set_comm _ _ (show p + 3 ≠ p + 2 by omega), List.set_set]
  apply bytes_ext (by simp)
  intro j _
  simp only [gB_set, List.length_set]
  repeat' split
  all_goals (first | rfl | omega)
theorem put32_get32 (bs : List UInt8) (p : Nat) (h : p + 4 ≤ bs.length) : put32 bs p (get32 bs p) = bs := by
  apply bytes_ext (put32_len _ _ _)
  intro j hj
  by_cases hp : p ≤ j ∧ j < p + 4
  · obtain ⟨i, hi, rfl⟩ : ∃ i, i < 4 ∧ j = p + i := ⟨j - p, by omega, by omega⟩
    rw [gB_put32_in _ _ _ _ hi h]
    have h0 := gB_bd bs p
    have h1 := gB_bd bs (p + 1)
    have h2 := gB_bd bs (p + 2)
    have h3 := gB_bd bs (p + 3)
    unfold get32
    obtain rfl | rfl | rfl | rfl : i = 0 ∨ i = 1 ∨ i = 2 ∨ i = 3 := by omega
    all_goals (simp only [Nat.add_zero, show (256 : Int) ^ 0 = 1 from rfl, show (256 : Int) ^ 1 = 256 from rfl, show (256 : Int) ^ 2 = 65536 from rfl, show (256 : Int) ^ 3 = 16777216 from rfl]; omega)
  · exact gB_put32_out _ _ _ _ (by omega)

theorem bytes_of : ∀ l : List Value, (∀ v ∈ l, ∃ n, v = .int .u8 n ∧ (Lit.int .u8 n).wf = true) → ∃ bs : List UInt8, l = bs.map bv
  | [], _ => ⟨[], rfl⟩
  | v :: l, h => by
    obtain ⟨bs, rfl⟩ := bytes_of l (fun u hu => h u (List.mem_cons_of_mem _ hu))
    obtain ⟨n, rfl, hn⟩ := h v (List.mem_cons_self ..)
    simp [Lit.wf] at hn
    have h1 : IntKind.u8.min = 0 := rfl
    have h2 : IntKind.u8.max = 255 := rfl
    refine ⟨u8 n :: bs, ?_⟩
    rw [List.map_cons, ← u8_cell, show n % 256 = n by omega]
theorem cellsBlk : Try.prog.cellsOf 28 = 256 := by kernel_rfl
theorem cellsU8 : Try.prog.cellsOf 5 = 1 := by kernel_rfl
theorem blk_arg {w : World} {v : Value} (h : ArgIs Try.prog w 28 v) : ∃ bs : List UInt8, bs.length = 256 ∧ v = .agg (encB bs) := by
  obtain ⟨cs, rfl, hr⟩ := h.array Try.underlying28
  obtain ⟨hlen, hall⟩ := hr.array Try.underlying28
  rw [cellsBlk] at hlen
  obtain ⟨bs, hbs⟩ := bytes_of cs.toList (fun v hv => by
    obtain ⟨i, hi, rfl⟩ := List.getElem_of_mem hv
    obtain ⟨n, e, hn⟩ := (hall i (by omega)).int Try.underlying5
    rw [cellsU8, Nat.mul_one] at e
    rw [List.drop_eq_getElem_cons hi, List.take_succ_cons] at e
    simp at e
    exact ⟨n, by simpa using e, hn⟩)
  refine ⟨bs, by rw [← hlen, hbs, List.length_map], ?_⟩
  congr 1
  apply Array.ext'
  rw [hbs, encB_toList]
end Go.Proofs.Ytckadanghhibhaa
