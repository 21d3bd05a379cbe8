/- What is known of the memory, as a list of assertions on blocks that are apart; each law of an operation or a call turns the list. Over any program. -/
import Derived.Test.YtckadanghhibhaaSch
import Derived.Deep.MidRow
import Derived.Laws.ResultCell
namespace Go.Proofs.Ytckadanghhibhaa
open Go Go.RowKit

/-- One thing that is known: a whole block of cells (rw: it may be turned); a slice of the call's own that may grow; some cells that are only read. -/
inductive Ass where
  | blk (rw : Bool) (B : Nat) (cs : Array Value) (t : TypeId)
  | own (v : Value) (e : TypeId) (sz n : Nat) (xs : List Value)
  | ro (B o : Nat) (xs : List Value)

def Ass.foot : Ass → Nat → Prop
  | .blk _ B _ _, k => k = B
  | .own v _ _ _ _, k => v.ownBlock = some k
  | .ro B _ xs, k => k = B ∧ xs ≠ []
def Ass.rw : Ass → Bool
  | .blk rw _ _ _ => rw
  | .own .. => true
  | .ro .. => false
def Ass.holds (w : World) : Ass → Prop
  | .blk _ B cs t => w.heap[B]? = some (.cells cs t (0, 0))
  | .own v e sz n xs => w.ownsRow 0 e sz v n xs
  | .ro B o xs => w.rangeAt B o xs

theorem Ass.lt {w : World} {A : Ass} (h : A.holds w) : ∀ k, A.foot k → k < w.heap.size := by
  intro k hk
  cases A with
  | blk rw B cs t => subst hk; exact lt_of_row h
  | own v e sz n xs => exact (World.ownsRow.lt h k hk).2
  | ro B o xs =>
    obtain ⟨rfl, hx⟩ := hk
    cases xs with
    | nil => exact absurd rfl hx
    | cons x xs => exact block_lt_of_cell (h 0 x rfl)
/-- It looks at its own blocks alone. -/
theorem Ass.same {w w' : World} {A : Ass} (h : A.holds w) (hs : ∀ k, A.foot k → w'.heap[k]? = w.heap[k]?) : A.holds w' := by
  cases A with
  | blk rw B cs t => exact (hs B rfl).trans h
  | own v e sz n xs =>
    refine ⟨h.1, ?_⟩
    rcases h.2 with h2 | ⟨g, cap, cur, rfl, hb, hg, h3⟩
    · exact .inl h2
    · exact .inr ⟨g, cap, cur, rfl, hb, (hs g rfl).trans hg, h3⟩
  | ro B o xs =>
    intro j v hj
    have hx : xs ≠ [] := fun e => by subst e; cases hj
    rw [World.cell?_of_block (w := w) (hs B ⟨rfl, hx⟩)]
    exact h j v hj

/-- From w0 on the memory has turned in S and in new blocks alone; in w these things hold, and no two of them meet if one may be turned. -/
structure St (S : Nat → Prop) (w0 w : World) (L : List Ass) : Prop where
  mod : Mod S w0 w
  hold : ∀ A ∈ L, A.holds w
  mine : ∀ A ∈ L, A.rw = true → ∀ k, A.foot k → S k ∨ w0.heap.size ≤ k
  apart : L.Pairwise fun A A' => A.rw = true ∨ A'.rw = true → ∀ k, A.foot k → ¬ A'.foot k

/-- L' is L, A' in A's place. -/
inductive Rep (A A' : Ass) : List Ass → List Ass → Prop where
  | here {L : List Ass} : Rep A A' (A :: L) (A' :: L)
  | there {B : Ass} {L L' : List Ass} (h : Rep A A' L L') : Rep A A' (B :: L) (B :: L')

section
variable {S : Nat → Prop} {w0 w w' : World} {L L' : List Ass} {A A' : Ass}

theorem St.nil (S : Nat → Prop) (w : World) : St S w w [] := ⟨Mod.refl _ _, by simp, by simp, List.Pairwise.nil⟩
theorem St.nil' {S : Nat → Prop} {w0 w : World} (h : Mod S w0 w) : St S w0 w [] := ⟨h, by simp, by simp, List.Pairwise.nil⟩
theorem St.lt (h : St S w0 w L) (hA : A ∈ L) : ∀ k, A.foot k → k < w.heap.size := Ass.lt (h.hold A hA)

/-- Nothing of what was there has turned. -/
theorem St.fresh (h : St S w0 w L) (hm : Mod none' w w') : St S w0 w' L :=
  ⟨h.mod.trans (hm.mono fun _ _ e => e.elim), fun A hA => Ass.same (h.hold A hA) fun k hk => hm.same k (h.lt hA k hk) (fun e => e), h.mine, h.apart⟩
theorem St.drew (h : St S w0 w L) : St S w0 w.drew L := h.fresh ((Mod.refl _ _).drew)

/-- A thing more, of new blocks. -/
theorem St.new (h : St S w0 w L) (hm : Mod none' w w') (hA : A.holds w') (hf : ∀ k, A.foot k → w.heap.size ≤ k) : St S w0 w' (A :: L) := by
  have h' := h.fresh hm
  refine ⟨h'.mod, fun X hX => ?_, fun X hX hrw k hk => ?_, List.pairwise_cons.2 ⟨fun X hX _ k hk hk' => ?_, h'.apart⟩⟩
  · rcases List.mem_cons.1 hX with rfl | hX
    · exact hA
    · exact h'.hold X hX
  · rcases List.mem_cons.1 hX with rfl | hX
    · exact .inr (Nat.le_trans h.mod.size (hf k hk))
    · exact h'.mine X hX hrw k hk
  · have := hf k hk
    have := h.lt hX k hk'
    omega
/-- A thing that is only read, of old memory. -/
theorem St.read (h : St S w0 w L) (hA : A.holds w) (hr : A.rw = false) (hd : ∀ X ∈ L, X.rw = true → ∀ k, X.foot k → ¬ A.foot k) : St S w0 w (A :: L) := by
  refine ⟨h.mod, fun X hX => ?_, fun X hX hrw k hk => ?_, List.pairwise_cons.2 ⟨fun X hX hrw k hk hk' => ?_, h.apart⟩⟩
  · rcases List.mem_cons.1 hX with rfl | hX
    · exact hA
    · exact h.hold X hX
  · rcases List.mem_cons.1 hX with rfl | hX
    · rw [hr] at hrw; cases hrw
    · exact h.mine X hX hrw k hk
  · exact hd X hX (hrw.resolve_left (by simp [hr])) k hk' hk

theorem Rep.mem (r : Rep A A' L L') : A ∈ L := by
  induction r with
  | here => exact .head _
  | there _ ih => exact .tail _ ih
theorem Rep.mem_out (r : Rep A A' L L') {X : Ass} (hX : X ∈ L') : X = A' ∨ X ∈ L := by
  induction r with
  | here => exact (List.mem_cons.1 hX).imp id (.tail _)
  | there _ ih =>
    rcases List.mem_cons.1 hX with rfl | hX
    · exact .inr (.head _)
    · exact (ih hX).imp id (.tail _)

theorem St.rep_aux (r : Rep A A' L L') (hrw : A.rw = true) (hf : ∀ k, A'.foot k → A.foot k ∨ w.heap.size ≤ k) (hm : Mod A.foot w w') (hA : A'.holds w') (hlt : ∀ X ∈ L, X.holds w) (hap : L.Pairwise fun A A' => A.rw = true ∨ A'.rw = true → ∀ k, A.foot k → ¬ A'.foot k) :
    (∀ X ∈ L', X.holds w') ∧ L'.Pairwise fun A A' => A.rw = true ∨ A'.rw = true → ∀ k, A.foot k → ¬ A'.foot k := by
  induction r with
  | @here L =>
    obtain ⟨h1, h2⟩ := List.pairwise_cons.1 hap
    refine ⟨fun X hX => ?_, List.pairwise_cons.2 ⟨fun X hX _ k hk hk' => ?_, h2⟩⟩
    · rcases List.mem_cons.1 hX with rfl | hX
      · exact hA
      · exact Ass.same (hlt X (.tail _ hX)) fun k hk => hm.same k (Ass.lt (hlt X (.tail _ hX)) k hk) fun hk' => h1 X hX (.inl hrw) k hk' hk
    · rcases hf k hk with hk | hk
      · exact h1 X hX (.inl hrw) k hk hk'
      · have := Ass.lt (hlt X (.tail _ hX)) k hk'
        omega
  | @there B L L' r ih =>
    obtain ⟨h1, h2⟩ := List.pairwise_cons.1 hap
    obtain ⟨i1, i2⟩ := ih (fun X hX => hlt X (.tail _ hX)) h2
    have hB := hlt B (.head _)
    refine ⟨fun X hX => ?_, List.pairwise_cons.2 ⟨fun X hX hx k hk hk' => ?_, i2⟩⟩
    · rcases List.mem_cons.1 hX with rfl | hX
      · exact Ass.same hB fun k hk => hm.same k (Ass.lt hB k hk) fun hk' => h1 A r.mem (.inr hrw) k hk hk'
      · exact i1 X hX
    · rcases r.mem_out hX with rfl | hX'
      · rcases hf k hk' with hk' | hk'
        · exact h1 A r.mem (.inr hrw) k hk hk'
        · have := Ass.lt hB k hk
          omega
      · exact h1 X hX' hx k hk hk'

/-- One thing is turned (or gives way to another one in its place). -/
theorem St.rep (h : St S w0 w L) (r : Rep A A' L L') (hrw : A.rw = true) (hf : ∀ k, A'.foot k → A.foot k ∨ w.heap.size ≤ k) (hm : Mod A.foot w w') (hA : A'.holds w') : St S w0 w' L' := by
  obtain ⟨h1, h2⟩ := St.rep_aux r hrw hf hm hA h.hold h.apart
  refine ⟨?_, h1, fun X hX hx k hk => ?_, h2⟩
  · refine ⟨hm.os.trans h.mod.os, hm.tape.trans h.mod.tape, hm.output.trans h.mod.output, Nat.le_trans h.mod.size hm.size, fun k hk hs => ?_⟩
    refine (hm.same k (Nat.lt_of_lt_of_le hk h.mod.size) fun hk' => ?_).trans (h.mod.same k hk hs)
    rcases h.mine A r.mem hrw k hk' with h3 | h3
    · exact hs h3
    · omega
  · rcases r.mem_out hX with rfl | hX'
    · rcases hf k hk with hk | hk
      · exact h.mine A r.mem hrw k hk
      · exact .inr (Nat.le_trans h.mod.size hk)
    · exact h.mine X hX' hx k hk

theorem St.tail (h : St S w0 w (A :: L)) : St S w0 w L :=
  ⟨h.mod, fun X hX => h.hold X (.tail _ hX), fun X hX => h.mine X (.tail _ hX), (List.pairwise_cons.1 h.apart).2⟩
theorem St.sub (h : St S w0 w L) (hs : L'.Sublist L) : St S w0 w L' :=
  ⟨h.mod, fun X hX => h.hold X (hs.subset hX), fun X hX => h.mine X (hs.subset hX), h.apart.sublist hs⟩
theorem St.swap {X Y : Ass} (h : St S w0 w (X :: Y :: L)) : St S w0 w (Y :: X :: L) := by
  obtain ⟨h1, h2⟩ := List.pairwise_cons.1 h.apart
  obtain ⟨h3, h4⟩ := List.pairwise_cons.1 h2
  have hmem : ∀ Z, Z ∈ Y :: X :: L → Z ∈ X :: Y :: L := fun Z hZ => by simp only [List.mem_cons] at hZ ⊢; rcases hZ with h | h | h <;> simp [h]
  refine ⟨h.mod, fun Z hZ => h.hold Z (hmem Z hZ), fun Z hZ => h.mine Z (hmem Z hZ), List.pairwise_cons.2 ⟨fun Z hZ hrw k hk hk' => ?_, List.pairwise_cons.2 ⟨fun Z hZ => h1 Z (.tail _ hZ), h4⟩⟩⟩
  rcases List.mem_cons.1 hZ with rfl | hZ
  · exact h1 Y (.head _) hrw.symm k hk' hk
  · exact h3 Z hZ hrw k hk hk'
/-- To the front. -/
inductive Pick (A : Ass) : List Ass → List Ass → Prop where
  | here {L : List Ass} : Pick A (A :: L) L
  | there {B : Ass} {L L' : List Ass} (h : Pick A L L') : Pick A (B :: L) (B :: L')
theorem Pick.mem (r : Pick A L L') : ∀ X, X ∈ L ↔ X = A ∨ X ∈ L' := by
  induction r with
  | here => intro X; simp
  | there _ ih => intro X; simp only [List.mem_cons, ih]; constructor <;> (rintro (h | h | h) <;> simp [h])
theorem Pick.apart {R : Ass → Ass → Prop} (hR : ∀ X Y, R X Y → R Y X) (r : Pick A L L') (h : L.Pairwise R) : (A :: L').Pairwise R := by
  induction r with
  | here => exact h
  | @there B L L' r ih =>
    obtain ⟨h1, h2⟩ := List.pairwise_cons.1 h
    obtain ⟨h3, h4⟩ := List.pairwise_cons.1 (ih h2)
    refine List.pairwise_cons.2 ⟨fun X hX => ?_, List.pairwise_cons.2 ⟨fun X hX => h1 X ((r.mem X).2 (.inr hX)), h4⟩⟩
    rcases List.mem_cons.1 hX with rfl | hX
    · exact hR _ _ (h1 A ((r.mem A).2 (.inl rfl)))
    · exact h3 X hX
theorem St.pick (h : St S w0 w L) (r : Pick A L L') : St S w0 w (A :: L') := by
  have hmem : ∀ X, X ∈ A :: L' → X ∈ L := fun X hX => (r.mem X).2 (List.mem_cons.1 hX)
  exact ⟨h.mod, fun X hX => h.hold X (hmem X hX), fun X hX => h.mine X (hmem X hX), r.apart (fun X Y hXY hrw k hk hk' => hXY hrw.symm k hk' hk) h.apart⟩

theorem St.perm (h : St S w0 w L) (p : L.Perm L') : St S w0 w L' :=
  ⟨h.mod, fun X hX => h.hold X (p.mem_iff.2 hX), fun X hX => h.mine X (p.mem_iff.2 hX), (p.pairwise_iff (R := fun A A' => A.rw = true ∨ A'.rw = true → ∀ k, A.foot k → ¬ A'.foot k) (fun hXY hrw k hk hk' => hXY hrw.symm k hk' hk)).1 h.apart⟩
theorem St.back1 {X : Ass} {D R : List Ass} (h : St S w0 w (X :: (D ++ R))) : St S w0 w (D ++ X :: R) := h.perm List.perm_middle.symm
theorem St.fore1 {X : Ass} {D R : List Ass} (h : St S w0 w (D ++ X :: R)) : St S w0 w (X :: (D ++ R)) := h.perm List.perm_middle
/-- What lies ahead of D, behind it. -/
theorem St.back {F D R : List Ass} (h : St S w0 w (F ++ (D ++ R))) : St S w0 w (D ++ (F ++ R)) := h.perm (by rw [← List.append_assoc, ← List.append_assoc]; exact List.perm_append_comm.append_right R)
/-- What a callee hands back of its own state serves the caller's: it has turned what lies in 'A' alone. -/
theorem St.mod1 (h : St S w0 w L) (r : Rep A A' L L') (hrw : A.rw = true) (hf : ∀ k, A'.foot k → A.foot k ∨ w.heap.size ≤ k) {T : Nat → Prop} (hm : Mod T w w') (hT : ∀ k, k < w.heap.size → T k → A.foot k) (hA : A'.holds w') : St S w0 w' L' :=
  h.rep r hrw hf (hm.mono hT) hA
end

section
variable {S : Nat → Prop} {w0 w : World} {L : List Ass} {P : Program}
theorem St.blk (h : St S w0 w L) {rw : Bool} {B : Nat} {cs : Array Value} {t : TypeId} (hm : Ass.blk rw B cs t ∈ L) : w.heap[B]? = some (.cells cs t (0, 0)) := h.hold _ hm
theorem St.cell (h : St S w0 w L) {rw : Bool} {B : Nat} {cs : Array Value} {t : TypeId} (hm : Ass.blk rw B cs t ∈ L) (i : Nat) : w.cell? ⟨B, i, none⟩ = cs[i]? := cell_of_row _ _ _ _ _ _ (h.blk hm)
theorem St.below (h : St none' w0 w L) : Below w0.heap.size w0 w := h.mod.new

/-- A new block. -/
theorem St.alloc (h : St S w0 w L) (cs : Array Value) (t : TypeId) : St S w0 (w.alloc (.cells cs t)) (.blk true w.heap.size cs t :: L) :=
  h.new ((Mod.refl _ _).alloc _) (heap_alloc_new w _) fun k hk => by
    have : k = w.heap.size := hk
    omega
/-- A block is turned. -/
theorem St.setRow (h : St S w0 w L) {B : Nat} {cs cs' : Array Value} {t : TypeId} {L' : List Ass} (r : Rep (.blk true B cs t) (.blk true B cs' t) L L') : St S w0 (w.setRow B cs') L' :=
  h.rep r rfl (fun _ hk => .inl hk) ((Mod.refl _ _).setRow (S := (Ass.blk true B cs t).foot) (.inl rfl) _) (setRow_heap _ _ _ _ _ _ (h.blk r.mem))
theorem St.setCell (h : St S w0 w L) {B : Nat} {cs : Array Value} {t : TypeId} {L' : List Ass} (i : Nat) (v : Value) (r : Rep (.blk true B cs t) (.blk true B (cs.setIfInBounds i v) t) L L') : St S w0 (w.setCell ⟨B, i, none⟩ v) L' := by
  rw [setCell_eq_setRow w B i cs t (0, 0) v (h.blk r.mem)]
  exact h.setRow r
end

/-! ### The operations -/

/-- The closed facts of a type: a plain one (one cell), or a row of n cells. -/
class Plain (P : Program) (t : TypeId) : Prop where
  one : (P.info? t).map (·.size) = some 1
  agg : ∀ w, (isAgg t).run P w = .ok false w
class Row (P : Program) (t : TypeId) (n : outParam Nat) : Prop where
  size : (P.info? t).map (·.size) = some n
  agg : ∀ w, (isAgg t).run P w = .ok true w
theorem plain_mk {P : Program} {t : TypeId} {d : TypeDesc} (hu : P.underlying t = some d) (hd : d.isRow = false) (hi : (P.info? t).map (·.size) = some 1) : Plain P t := by
  refine ⟨hi, fun w => ?_⟩
  unfold isAgg
  rw [Sem.run_bind, run_underlying hu w]
  cases d <;> simp_all
theorem row_mk {P : Program} {t : TypeId} {d : TypeDesc} {n : Nat} (hu : P.underlying t = some d) (hd : d.isRow = true) (hi : (P.info? t).map (·.size) = some n) : Row P t n := by
  refine ⟨hi, fun w => ?_⟩
  unfold isAgg
  rw [Sem.run_bind, run_underlying hu w]
  cases d <;> simp_all

section
variable {P : Program} {ops : Array Oper} {rest : List Oper} {d : Option Tmp} {x y : Operand} {ty : TypeId} {pos : String} {af : Array Edge} {gd : Option (Nat × Bool)} {a : Act} {w w0 : World} {Q : Exit → Act → World → Prop} {S : Nat → Prop} {L : List Ass} {T : TypeId}

theorem run_load1 [hT : Plain P T] (w : World) (ad : Addr) (v : Value) (h : w.cell? ad = some v) : (Instr.loadAt T (.pointer (some ad))).run P w = .ok v w := by
  simp [Instr.loadAt, Instr.sureAddr, loadVar, Sem.run_bind, hT.agg, load, Sem.run, h]
theorem run_loadN {n : Nat} [hT : Row P T n] (w : World) (B o : Nat) (cs : List Value) (h : w.rangeAt B o cs) (hn : cs.length = n) : (Instr.loadAt T (.pointer (some ⟨B, o, none⟩))).run P w = .ok (.agg cs.toArray) w := by
  have hl : (loadCells ⟨B, o, none⟩ cs.length).run P w = .ok cs.toArray w := run_loadCells_list (P := P) w ⟨B, o, none⟩ cs (fun j v hv => by rw [Addr.add_mid]; exact h j v hv)
  have hs := hT.size
  cases hq : P.info? T with
  | none => simp [hq] at hs
  | some i =>
    have hi : i.size = cs.length := by simp [hq] at hs; omega
    simp [Instr.loadAt, Instr.sureAddr, loadVar, Sem.run_bind, hT.agg, sizeOf, typeInfo, hq, hi, hl]

/-- An operation that hands back a value and leaves the world: at a list. -/
theorem wpList_val {o : Oper} {v : Value} (hw : Region.wanted o (yielded ops a.tmps) = true) (hr : (execOp a.eval o).run P w = .ok (.value v) w) (h : wpList P ops Q rest (a.put o.dst v) w) : wpList P ops Q (o :: rest) a w := by
  refine wpList_step fun K hK => ?_
  rw [if_pos hw]
  unfold Oper.wp
  rw [hr]
  exact hK _ _ h
theorem wpList_act {o : Oper} {w' : World} (hw : Region.wanted o (yielded ops a.tmps) = true) (hr : (execOp a.eval o).run P w = .ok .skip w') (h : wpList P ops Q rest (a.put o.dst undef) w') : wpList P ops Q (o :: rest) a w := by
  refine wpList_step fun K hK => ?_
  rw [if_pos hw]
  unfold Oper.wp
  rw [hr]
  exact hK _ _ h
theorem wpList_made {o : Oper} {v : Value} {w' : World} (hw : Region.wanted o (yielded ops a.tmps) = true) (hr : (execOp a.eval o).run P w = .ok (.value v) w') (h : wpList P ops Q rest (a.put o.dst v) w') : wpList P ops Q (o :: rest) a w := by
  refine wpList_step fun K hK => ?_
  rw [if_pos hw]
  unfold Oper.wp
  rw [hr]
  exact hK _ _ h

/-- A load of one cell. -/
theorem sLoad1 (hS : St S w0 w L) (hT : Plain P T) {rw : Bool} {B i : Nat} {cs : Array Value} {t : TypeId} {v : Value} (hw : Region.wanted ⟨d, .load T x, ty, pos, af, gd⟩ (yielded ops a.tmps) = true) (hx : a.eval x = .pointer (some ⟨B, i, none⟩)) (hm : Ass.blk rw B cs t ∈ L) (hc : cs[i]? = some v)
    (h : wpList P ops Q rest (a.put d v) w) : wpList P ops Q (⟨d, .load T x, ty, pos, af, gd⟩ :: rest) a w :=
  wpList_val hw (by unfold execOp; simp only [hx, run_load1 w ⟨B, i, none⟩ v ((hS.cell hm i).trans hc), Sem.run_bind, Result.andThen_ok, Sem.run_pure]) h
/-- A load of a whole row at its head. -/
theorem sLoadB {n : Nat} (hS : St S w0 w L) (hT : Row P T n) {rw : Bool} {B : Nat} {cs : Array Value} {t : TypeId} (hw : Region.wanted ⟨d, .load T x, ty, pos, af, gd⟩ (yielded ops a.tmps) = true) (hx : a.eval x = .pointer (some ⟨B, 0, none⟩)) (hm : Ass.blk rw B cs t ∈ L) (hn : cs.size = n)
    (h : wpList P ops Q rest (a.put d (.agg cs)) w) : wpList P ops Q (⟨d, .load T x, ty, pos, af, gd⟩ :: rest) a w := by
  have hr : w.rangeAt B 0 cs.toList := fun j v hj => by rw [Nat.zero_add, hS.cell hm]; simpa using hj
  have h1 := run_loadN (P := P) (T := T) w B 0 cs.toList hr (by simpa using hn)
  simp only [Array.toArray_toList] at h1
  exact wpList_val hw (by unfold execOp; simp only [hx, h1, Sem.run_bind, Result.andThen_ok, Sem.run_pure]) h
/-- A load of a part of a row. -/
theorem sLoadN {n : Nat} (hS : St S w0 w L) (hT : Row P T n) {rw : Bool} {B o : Nat} {cs : Array Value} {t : TypeId} {vs : List Value} (hw : Region.wanted ⟨d, .load T x, ty, pos, af, gd⟩ (yielded ops a.tmps) = true) (hx : a.eval x = .pointer (some ⟨B, o, none⟩)) (hm : Ass.blk rw B cs t ∈ L) (hv : ∀ j v, vs[j]? = some v → cs[o + j]? = some v) (hn : vs.length = n)
    (h : wpList P ops Q rest (a.put d (.agg vs.toArray)) w) : wpList P ops Q (⟨d, .load T x, ty, pos, af, gd⟩ :: rest) a w := by
  have h1 := run_loadN (P := P) (T := T) w B o vs (fun j v hj => by rw [hS.cell hm]; exact hv j v hj) hn
  exact wpList_val hw (by unfold execOp; simp only [hx, h1, Sem.run_bind, Result.andThen_ok, Sem.run_pure]) h

theorem run_store1 [hT : Plain P T] (hS : St S w0 w L) {B i : Nat} {cs : Array Value} {t : TypeId} {v : Value} (hm : Ass.blk true B cs t ∈ L) (hi : i < cs.size) (hv : v.oneCell' = true) :
    (Instr.storeAt T (.pointer (some ⟨B, i, none⟩)) v).run P w = .ok () (w.setCell ⟨B, i, none⟩ v) := by
  have hc : w.cell? ⟨B, i, none⟩ = some cs[i] := by rw [hS.cell hm]; simp [hi]
  have hf := frozen_of_row w B i cs t (hS.blk hm)
  have hs := hT.one
  have hcells : v.cells = #[v] := by cases v <;> first | rfl | (simp [Value.oneCell'] at hv)
  cases hq : P.info? T with
  | none => simp [hq] at hs
  | some inf =>
    have hone : inf.size = 1 := by simpa [hq] using hs
    have hst := run_store P w ⟨B, i, none⟩ v .plain hv
    simp [Instr.storeAt, Instr.sureAddr, storeVar, Sem.run_bind, sizeOf, typeInfo, hq, hone, hcells, storeCells, add_off, hst, hc, hf]
theorem sStore1 (hS : St S w0 w L) (hT : Plain P T) {B i : Nat} {cs : Array Value} {t : TypeId} {v : Value} {L' : List Ass} (hw : Region.wanted ⟨d, .store T x y, ty, pos, af, gd⟩ (yielded ops a.tmps) = true) (hx : a.eval x = .pointer (some ⟨B, i, none⟩)) (hy : a.eval y = v)
    (r : Rep (.blk true B cs t) (.blk true B (cs.setIfInBounds i v) t) L L') (hi : i < cs.size) (hv : v.oneCell' = true)
    (h : ∀ w', St S w0 w' L' → wpList P ops Q rest (a.put d undef) w') : wpList P ops Q (⟨d, .store T x y, ty, pos, af, gd⟩ :: rest) a w :=
  wpList_act hw (by unfold execOp; simp only [hx, hy, run_store1 hS r.mem hi hv, Sem.run_bind, Result.andThen_ok, Sem.run_pure]) (h _ (hS.setCell i v r))

/-- The cells of a row with others in the place from o on. -/
def splice (cs : Array Value) (o : Nat) (vs : List Value) : Array Value := (cs.toList.take o ++ vs ++ cs.toList.drop (o + vs.length)).toArray
theorem size_splice (cs : Array Value) (o : Nat) (vs : List Value) (h : o + vs.length ≤ cs.size) : (splice cs o vs).size = cs.size := by
  unfold splice
  rw [List.size_toArray, List.length_append, List.length_append, List.length_take, List.length_drop, Array.length_toList]
  omega
theorem splice_get (cs : Array Value) (o : Nat) (vs : List Value) (h : o + vs.length ≤ cs.size) (j : Nat) : (splice cs o vs)[j]? = if o ≤ j ∧ j < o + vs.length then vs[j - o]? else cs[j]? := by
  unfold splice
  rw [List.getElem?_toArray, List.append_assoc, List.getElem?_append]
  have hl : (cs.toList.take o).length = o := by rw [List.length_take, Array.length_toList]; omega
  rw [hl]
  by_cases h1 : j < o
  · rw [if_pos h1, if_neg (by omega), List.getElem?_take, if_pos h1, Array.getElem?_toList]
  · rw [if_neg h1, List.getElem?_append]
    by_cases h2 : j - o < vs.length
    · rw [if_pos h2, if_pos (by omega)]
    · rw [if_neg h2, if_neg (by omega), List.getElem?_drop, Array.getElem?_toList]
      congr 1
      omega
theorem splice_all (cs : Array Value) (vs : List Value) (h : vs.length = cs.size) : splice cs 0 vs = vs.toArray := by
  unfold splice
  rw [List.take_zero, List.nil_append, Nat.zero_add, List.drop_of_length_le (by rw [Array.length_toList]; omega), List.append_nil]

theorem run_storeN {n : Nat} [hT : Row P T n] (hS : St S w0 w L) {B o : Nat} {cs : Array Value} {t : TypeId} {vs : Array Value} (hm : Ass.blk true B cs t ∈ L) (hn : vs.size = n) (ho : o + vs.size ≤ cs.size) (h1 : ∀ v ∈ vs.toList, v.oneCell' = true) :
    (Instr.storeAt T (.pointer (some ⟨B, o, none⟩)) (.agg vs)).run P w = .ok () (w.setRow B (splice cs o vs.toList)) := by
  have hs := hT.size
  have hst := run_storeCells_at P B o t vs.toList 0 cs w (hS.blk hm) (by simpa using ho) h1
  simp only [Nat.add_zero] at hst
  cases hq : P.info? T with
  | none => simp [hq] at hs
  | some inf =>
    have hone : vs.size = inf.size := by simp [hq] at hs; omega
    simp [Instr.storeAt, Instr.sureAddr, storeVar, Sem.run_bind, sizeOf, typeInfo, hq, Value.cells, hone, hst, splice]
theorem sStoreN {n : Nat} (hS : St S w0 w L) (hT : Row P T n) {B o : Nat} {cs vs : Array Value} {t : TypeId} {L' : List Ass} (hw : Region.wanted ⟨d, .store T x y, ty, pos, af, gd⟩ (yielded ops a.tmps) = true) (hx : a.eval x = .pointer (some ⟨B, o, none⟩)) (hy : a.eval y = .agg vs)
    (r : Rep (.blk true B cs t) (.blk true B (splice cs o vs.toList) t) L L') (hn : vs.size = n) (ho : o + vs.size ≤ cs.size) (h1 : ∀ v ∈ vs.toList, v.oneCell' = true)
    (h : ∀ w', St S w0 w' L' → wpList P ops Q rest (a.put d undef) w') : wpList P ops Q (⟨d, .store T x y, ty, pos, af, gd⟩ :: rest) a w :=
  wpList_act hw (by unfold execOp; simp only [hx, hy, run_storeN hS r.mem hn ho h1, Sem.run_bind, Result.andThen_ok, Sem.run_pure]) (h _ (hS.setRow r))
theorem sStoreB {n : Nat} (hS : St S w0 w L) (hT : Row P T n) {B : Nat} {cs vs : Array Value} {t : TypeId} {L' : List Ass} (hw : Region.wanted ⟨d, .store T x y, ty, pos, af, gd⟩ (yielded ops a.tmps) = true) (hx : a.eval x = .pointer (some ⟨B, 0, none⟩)) (hy : a.eval y = .agg vs)
    (r : Rep (.blk true B cs t) (.blk true B vs t) L L') (hn : vs.size = n) (hc : cs.size = n) (h1 : ∀ v ∈ vs.toList, v.oneCell' = true)
    (h : ∀ w', St S w0 w' L' → wpList P ops Q rest (a.put d undef) w') : wpList P ops Q (⟨d, .store T x y, ty, pos, af, gd⟩ :: rest) a w := by
  have e : splice cs 0 vs.toList = vs := by rw [splice_all _ _ (by rw [Array.length_toList, hn, hc])]
  exact sStoreN hS hT hw hx hy (by rw [e]; exact r) hn (by omega) h1 h

theorem run_newRow (w : World) (cs : Array Value) : (newRow T cs).run P w = .ok ⟨w.heap.size, 0, none⟩ (w.alloc (.cells cs T)) := by simp [newRow, go_sem]
theorem run_zero {z : Value} (hz : (P.info? T).bind (·.zero) = some z) (w : World) : (zeroValue T).run P w = .ok z w := by
  cases hq : P.info? T with
  | none => simp [hq] at hz
  | some i =>
    simp [hq] at hz
    simp [zeroValue, typeInfo, hq, hz, go_sem]
theorem cells_agg (cs : Array Value) : (Value.agg cs).cells = cs := rfl
theorem cells_one {v : Value} (h : v.oneCell' = true) : v.cells = #[v] := by cases v <;> first | rfl | (simp [Value.oneCell'] at h)
/-- A parameter is laid into memory. -/
theorem sBox (hS : St S w0 w L) {v : Value} {cs : Array Value} (hw : Region.wanted ⟨d, .box T x, ty, pos, af, gd⟩ (yielded ops a.tmps) = true) (hx : a.eval x = v) (hcs : v.cells = cs)
    (h : ∀ B w', St S w0 w' (.blk true B cs T :: L) → wpList P ops Q rest (a.put d (.pointer (some ⟨B, 0, none⟩))) w') : wpList P ops Q (⟨d, .box T x, ty, pos, af, gd⟩ :: rest) a w :=
  wpList_made hw (by unfold execOp; simp only [hx, Instr.box, newVar, hcs, Sem.run_bind, run_newRow, Result.andThen_ok, Sem.run_pure]) (h _ _ (hS.alloc cs T))
/-- The zero value of a type. -/
class Zero0 (P : Program) (t : TypeId) (z : outParam Value) : Prop where
  eq : (P.info? t).bind (·.zero) = some z
theorem sAlloc {z : Value} {cs : Array Value} (hS : St S w0 w L) (hz : Zero0 P T z) (hcs : z.cells = cs) (hw : Region.wanted ⟨d, .alloc T, ty, pos, af, gd⟩ (yielded ops a.tmps) = true)
    (h : ∀ B w', St S w0 w' (.blk true B cs T :: L) → wpList P ops Q rest (a.put d (.pointer (some ⟨B, 0, none⟩))) w') : wpList P ops Q (⟨d, .alloc T, ty, pos, af, gd⟩ :: rest) a w := by
  exact wpList_made hw (by unfold execOp; simp only [Instr.alloc, run_zero hz.eq, newVar, hcs, Sem.run_bind, run_newRow, Result.andThen_ok, Sem.run_pure]) (h _ _ (hS.alloc cs T))
end
end Go.Proofs.Ytckadanghhibhaa
