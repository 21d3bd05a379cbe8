/- Structs that hold a block, built; slices of one element, of none. Over any program. -/
import Derived.Test.YtckadanghhibhaaFlat
import Derived.Laws.Tables
namespace Go.Proofs.Ytckadanghhibhaa
open Go Go.RowKit

theorem splice_len (cs : Array Value) (o : Nat) (vs : List Value) (h : o + vs.length ≤ cs.size) : (splice cs o vs).size = cs.size := size_splice cs o vs h
theorem splice_nil (cs : Array Value) (o : Nat) : splice cs o [] = cs := by
  apply Array.ext'
  simp [splice]
theorem splice_cons (cs : Array Value) (o : Nat) (v : Value) (vs : List Value) (h : o + (vs.length + 1) ≤ cs.size) : splice (cs.setIfInBounds o v) (o + 1) vs = splice cs o (v :: vs) := by
  apply Array.ext_getElem?
  intro j
  rw [splice_get _ _ _ (by simp; omega), splice_get _ _ _ (by simp; omega)]
  by_cases h1 : o + 1 ≤ j ∧ j < o + 1 + vs.length
  · rw [if_pos h1, if_pos (by simp; omega), show j - o = (j - (o + 1)) + 1 by omega, List.getElem?_cons_succ]
  · rw [if_neg h1]
    by_cases h2 : j = o
    · subst h2
      rw [if_pos (by simp), Nat.sub_self, Array.getElem?_setIfInBounds_self_of_lt (by omega)]; rfl
    · rw [if_neg (by simp; omega), Array.getElem?_setIfInBounds_ne (Ne.symm h2)]
theorem fold_splice : ∀ (vs : List Value) (k off : Nat) (cs : Array Value), off + k + vs.length ≤ cs.size → (vs.zipIdx k).foldl (fun cs (p : Value × Nat) => cs.setIfInBounds (off + p.2) p.1) cs = splice cs (off + k) vs
  | [], k, off, cs, _ => by rw [splice_nil]; rfl
  | v :: vs, k, off, cs, h => by
    rw [List.zipIdx_cons, List.foldl_cons, fold_splice vs (k + 1) off _ (by simp at h ⊢; omega), show off + (k + 1) = off + k + 1 by omega, splice_cons _ _ _ _ (by simp at h; omega)]
theorem fill_cons {place : Nat → Option (Nat × Nat)} {cells : Array Value} {i off size : Nat} {v : Value} {rest : List (Nat × Value)} (hp : place i = some (off, size)) (hv : v.cells.size = size) (hc : off + size ≤ cells.size) :
    Instr.fill place cells ((i, v) :: rest) = Instr.fill place (splice cells off v.cells.toList) rest := by
  have hf := fold_splice v.cells.toList 0 off cells (by simp; omega)
  simp only [Nat.add_zero] at hf
  rw [Instr.fill, hp]
  simp only []
  rw [if_neg (by simp [hv]; omega)]
  congr 1
  rw [← hf, ← Array.foldl_toList, Array.toList_zipIdx]
theorem splice_two (z : Array Value) (a b : List Value) (h : z.size = a.length + b.length) : splice (splice z 0 a) a.length b = (a ++ b).toArray := by
  apply Array.ext_getElem?
  intro j
  rw [splice_get _ _ _ (by rw [size_splice _ _ _ (by omega)]; omega), splice_get _ _ _ (by omega)]
  simp only [List.getElem?_toArray, List.getElem?_append, Nat.zero_add, Nat.sub_zero, Nat.zero_le, true_and]
  by_cases h1 : j < a.length
  · rw [if_neg (by omega), if_pos h1, if_pos h1]
  · rw [if_neg h1, if_neg h1]
    by_cases h2 : j < a.length + b.length
    · rw [if_pos (by omega)]
    · rw [if_neg (by omega), Array.getElem?_eq_none (by omega), List.getElem?_eq_none (by omega)]
/-- A struct of two fields, of whatever sizes. -/
class Two (P : Program) (t : TypeId) (n m : outParam Nat) : Prop where
  eq : ∃ z : Array Value, z.size = n + m ∧ ∀ parts, P.built t parts = Instr.fill (#[(0, n), (n, m)][·]?) z parts
theorem two_mk {P : Program} {t : TypeId} {n m : Nat} {fs : Array Field} (hu : P.underlying t = some (.struct fs)) (hz : ((P.info? t).bind (·.zero)).map (·.cells.size) = some (n + m)) (hp : fs.toList.mapM (fun f => (P.info? f.type).map fun i => (f.offset, i.size)) = some [(0, n), (n, m)]) : Two P t n m := by
  cases hi : P.info? t with
  | none => simp [hi] at hz
  | some it =>
    cases hz' : it.zero with
    | none => simp [hi, hz'] at hz
    | some z => exact ⟨z.cells, by simpa [hi, hz'] using hz, fun parts => by unfold Program.built; rw [hu, hi]; simp only [hz', hp]⟩
theorem built_two {P : Program} {t : TypeId} {n m : Nat} [h : Two P t n m] {a b : Value} (ha : a.cells.size = n) (hb : b.cells.size = m) : P.built t [(0, a), (1, b)] = some (a.cells.toList ++ b.cells.toList).toArray := by
  obtain ⟨z, hz, hf⟩ := h.eq
  rw [hf, fill_cons (off := 0) (size := n) rfl ha (by omega), fill_cons (off := n) (size := m) rfl hb (by rw [size_splice _ _ _ (by simp; omega)]; omega), Instr.fill]
  have hl : n = a.cells.toList.length := by simp [ha]
  have := splice_two z a.cells.toList b.cells.toList (by simp; omega)
  rw [← hl] at this
  rw [this]

section
variable {P : Program} {ops : Array Oper} {rest : List Oper} {d : Option Tmp} {x y : Operand} {ty : TypeId} {pos : String} {af : Array Edge} {gd : Option (Nat × Bool)} {a : Act} {w w0 : World} {Q : Exit → Act → World → Prop} {S : Nat → Prop} {L : List Ass} {T : TypeId}
theorem valTwo {n m : Nat} [Two P T n m] {u v : Value} (hx : a.eval x = u) (hy : a.eval y = v) (hu : u.cells.size = n) (hv : v.cells.size = m) : Val P a ⟨d, .build T #[(0, x), (1, y)], ty, pos, af, gd⟩ (.agg (u.cells.toList ++ v.cells.toList).toArray) := fun w => by
  have h1 := built_two (P := P) (t := T) hu hv
  unfold execOp
  simp only [List.map_toArray, List.map_cons, List.map_nil, hx, hy, run_build w T #[(0, u), (1, v)] _ h1, Sem.run_bind, Result.andThen_ok, Sem.run_pure]
theorem sTwo {n m : Nat} {u v : Value} (hw : Region.wanted ⟨d, .build T #[(0, x), (1, y)], ty, pos, af, gd⟩ (yielded ops a.tmps) = true) (hT : Two P T n m) (hx : a.eval x = u) (hy : a.eval y = v) {cu cv : List Value} (hcu : u.cells.toList = cu) (hcv : v.cells.toList = cv) (hu : cu.length = n) (hv : cv.length = m)
    (h : wpList P ops Q rest (a.put d (.agg (cu ++ cv).toArray)) w) : wpList P ops Q (⟨d, .build T #[(0, x), (1, y)], ty, pos, af, gd⟩ :: rest) a w := by
  subst hcu hcv
  exact sVal (valTwo hx hy (by simpa using hu) (by simpa using hv)) hw h
theorem cTwo {S : World → Prop} {i : Nat} {r : Sc} {n m : Nat} {u v : Value} (ho : ops[i]? = some ⟨d, .build T #[(0, x), (1, y)], ty, pos, af, gd⟩) (hw : Region.wanted ⟨d, .build T #[(0, x), (1, y)], ty, pos, af, gd⟩ (yielded ops a.tmps) = true) (hT : Two P T n m) (hx : a.eval x = u) (hy : a.eval y = v) {cu cv : List Value} (hcu : u.cells.toList = cu) (hcv : v.cells.toList = cv) (hu : cu.length = n) (hv : cv.length = m)
    (h : wpSch P ops Q S r (a.put d (.agg (cu ++ cv).toArray)) w) : wpSch P ops Q S (.q i r) a w := by
  subst hcu hcv
  exact cVal ho (valTwo hx hy (by simpa using hu) (by simpa using hv)) hw h

/-- Blocks compared. -/
theorem valEqB {T E t2 : TypeId} (hT : BlkT P T E) {u v : List UInt8} (hx : a.eval x = .agg (encB u)) (hy : a.eval y = .agg (encB v)) (hu : u.length = 256) (hv : v.length = 256) : Val P a ⟨d, .binOp .eql T x y t2, ty, pos, af, gd⟩ (.bool (u == v)) := fun w => by
  unfold execOp
  simp only [hx, hy, run_guard_blk hT w .eql x y (encB u) (encB v) (.inl rfl), run_eql_blk hT w u v hu hv, Sem.run_bind, Result.andThen_ok, Sem.run_pure]
theorem valNeB {T E t2 : TypeId} (hT : BlkT P T E) {u v : List UInt8} (hx : a.eval x = .agg (encB u)) (hy : a.eval y = .agg (encB v)) (hu : u.length = 256) (hv : v.length = 256) : Val P a ⟨d, .binOp .neq T x y t2, ty, pos, af, gd⟩ (.bool (!(u == v))) := fun w => by
  unfold execOp
  simp only [hx, hy, run_guard_blk hT w .neq x y (encB u) (encB v) (.inr rfl), run_neq_blk hT w u v hu hv, Sem.run_bind, Result.andThen_ok, Sem.run_pure]
theorem sEqB {T E t2 : TypeId} (hT : BlkT P T E) {u v : List UInt8} (hw : Region.wanted ⟨d, .binOp .eql T x y t2, ty, pos, af, gd⟩ (yielded ops a.tmps) = true) (hx : a.eval x = .agg (encB u)) (hy : a.eval y = .agg (encB v)) (hu : u.length = 256) (hv : v.length = 256)
    (h : wpList P ops Q rest (a.put d (.bool (u == v))) w) : wpList P ops Q (⟨d, .binOp .eql T x y t2, ty, pos, af, gd⟩ :: rest) a w := sVal (valEqB hT hx hy hu hv) hw h
theorem sNeB {T E t2 : TypeId} (hT : BlkT P T E) {u v : List UInt8} (hw : Region.wanted ⟨d, .binOp .neq T x y t2, ty, pos, af, gd⟩ (yielded ops a.tmps) = true) (hx : a.eval x = .agg (encB u)) (hy : a.eval y = .agg (encB v)) (hu : u.length = 256) (hv : v.length = 256)
    (h : wpList P ops Q rest (a.put d (.bool (!(u == v)))) w) : wpList P ops Q (⟨d, .binOp .neq T x y t2, ty, pos, af, gd⟩ :: rest) a w := sVal (valNeB hT hx hy hu hv) hw h
theorem qEqB {C : World → Prop} {Qa : Act → Prop} {T E t2 : TypeId} (hT : BlkT P T E) {u v : List UInt8} (hw : Region.wanted ⟨d, .binOp .eql T x y t2, ty, pos, af, gd⟩ (yielded ops a.tmps) = true) (hx : a.eval x = .agg (encB u)) (hy : a.eval y = .agg (encB v)) (hu : u.length = 256) (hv : v.length = 256)
    (h : wpQuiet P ops C Qa rest (a.put d (.bool (u == v)))) : wpQuiet P ops C Qa (⟨d, .binOp .eql T x y t2, ty, pos, af, gd⟩ :: rest) a := qVal (valEqB hT hx hy hu hv) hw h
theorem qNeB {C : World → Prop} {Qa : Act → Prop} {T E t2 : TypeId} (hT : BlkT P T E) {u v : List UInt8} (hw : Region.wanted ⟨d, .binOp .neq T x y t2, ty, pos, af, gd⟩ (yielded ops a.tmps) = true) (hx : a.eval x = .agg (encB u)) (hy : a.eval y = .agg (encB v)) (hu : u.length = 256) (hv : v.length = 256)
    (h : wpQuiet P ops C Qa rest (a.put d (.bool (!(u == v))))) : wpQuiet P ops C Qa (⟨d, .binOp .neq T x y t2, ty, pos, af, gd⟩ :: rest) a := qVal (valNeB hT hx hy hu hv) hw h
theorem cEqB {S : World → Prop} {i : Nat} {r : Sc} {T E t2 : TypeId} (hT : BlkT P T E) {u v : List UInt8} (ho : ops[i]? = some ⟨d, .binOp .eql T x y t2, ty, pos, af, gd⟩) (hw : Region.wanted ⟨d, .binOp .eql T x y t2, ty, pos, af, gd⟩ (yielded ops a.tmps) = true) (hx : a.eval x = .agg (encB u)) (hy : a.eval y = .agg (encB v)) (hu : u.length = 256) (hv : v.length = 256)
    (h : wpSch P ops Q S r (a.put d (.bool (u == v))) w) : wpSch P ops Q S (.q i r) a w := cVal ho (valEqB hT hx hy hu hv) hw h
theorem cNeB {S : World → Prop} {i : Nat} {r : Sc} {T E t2 : TypeId} (hT : BlkT P T E) {u v : List UInt8} (ho : ops[i]? = some ⟨d, .binOp .neq T x y t2, ty, pos, af, gd⟩) (hw : Region.wanted ⟨d, .binOp .neq T x y t2, ty, pos, af, gd⟩ (yielded ops a.tmps) = true) (hx : a.eval x = .agg (encB u)) (hy : a.eval y = .agg (encB v)) (hu : u.length = 256) (hv : v.length = 256)
    (h : wpSch P ops Q S r (a.put d (.bool (!(u == v)))) w) : wpSch P ops Q S (.q i r) a w := cVal ho (valNeB hT hx hy hu hv) hw h
/-- Nothing yet, of the call's own. -/
theorem St.ownNil (h : St S w0 w L) (e : TypeId) (sz : Nat) : St S w0 w (.own (.slice none 0 0) e sz 0 [] :: L) := h.new (Mod.refl _ _) (World.ownsRow_nil _ _ _ _) (fun k hk => by simp [Ass.foot, Value.ownBlock] at hk)
/-- copy: from wherever into a row of the call's own. -/
theorem run_copyN {dT sT rty e : TypeId} {sz : Nat} (hu : P.underlying dT = some (.slice e)) (hs : (P.info? e).map (·.size) = some sz) {g o dLen dCap sLen sCap : Nat} {ad : Addr} {cur : Array Value} {t : TypeId} {cs : List Value}
    (hg : w.heap[g]? = some (.cells cur t (0, 0))) (hn : cs.length = Nat.min sLen dLen * sz) (hsrc : ∀ j v, cs[j]? = some v → w.cell? (ad.add j) = some v) (hfit : o + cs.length ≤ cur.size) (h1 : ∀ v ∈ cs, v.oneCell' = true) :
    (Builtin.copy_ #[dT, sT] rty #[.slice (some ⟨g, o, none⟩) dLen dCap, .slice (some ad) sLen sCap]).run P w = .ok (goInt (Nat.min sLen dLen)) (w.setRow g (splice cur o cs)) := by
  have hst := run_storeCells_at P g o t cs 0 cur w hg (by simpa using hfit) h1
  simp only [Nat.add_zero] at hst
  cases hq : P.info? e with
  | none => simp [hq] at hs
  | some i =>
    have hi : i.size = sz := by simpa [hq] using hs
    have hf := run_firstCells_some (P := P) w sz (Nat.min sLen dLen) ad sLen sCap cs hn hsrc
    simp [Builtin.copy_, run_underlying hu, Builtin.lenOf, sizeOf, typeInfo, hq, hi, hf, hst, splice]
theorem sCopyO (hS : St S w0 w L) {dT sT e : TypeId} {sz : Nat} (hu : P.underlying dT = some (.slice e)) (hs : (P.info? e).map (·.size) = some sz) {g k cap sLen sCap : Nat} {t : TypeId} {xs cs : List Value} {ad : Addr} {L' : List Ass}
    (hx : a.eval x = .slice (some ⟨g, 0, none⟩) k cap) (hy : a.eval y = .slice (some ad) sLen sCap) (r : Rep (.own (.slice (some ⟨g, 0, none⟩) k cap) t sz k xs) (.own (.slice (some ⟨g, 0, none⟩) k cap) t sz k (spl xs 0 cs)) L L')
    (hsrc : ∀ j v, cs[j]? = some v → w.cell? (ad.add j) = some v) (hn : cs.length = min sLen k * sz) (h1 : ∀ v ∈ cs, v.oneCell' = true)
    (h : ∀ w', St S w0 w' L' → wpList P ops Q rest (a.put d (goInt (Nat.min sLen k))) w') : wpList P ops Q (⟨d, .call { callee := .builtin .copy, args := #[x, y], argTypes := #[dT, sT] }, ty, pos, af, none⟩ :: rest) a w := by
  have hown := hS.own r.mem
  have hn : cs.length = Nat.min sLen k * sz := hn
  have hmin : Nat.min sLen k * sz ≤ k * sz := Nat.mul_le_mul_right _ (Nat.min_le_right _ _)
  obtain ⟨cur, hg, hc, hk⟩ := own_store (vs := cs) 0 hown (by have := hown.1; omega)
  have hr := run_copyN (P := P) (sT := sT) (rty := ty) (sCap := sCap) (dCap := cap) (o := 0) hu hs hg hn hsrc hc h1
  refine wpList_made (v := goInt (Nat.min sLen k)) (w' := w.setRow g (splice cur 0 cs)) (by simp [Region.wanted]) ?_ (h _ ?_)
  · rw [BigFrame.execOp_builtin, BigFrame.builtin_copy]
    simp only [List.map_toArray, List.map_cons, List.map_nil, hx, hy, hr, Sem.run_bind, Sem.run_pure, Result.andThen_ok]
  · exact hS.rep r rfl (fun _ hk => .inl hk) ((Mod.refl _ _).setRow (S := (Ass.own (.slice (some ⟨g, 0, none⟩) k cap) t sz k xs).foot) (.inl rfl) _) (hk _ (setRow_heap _ _ _ _ _ _ hg))
theorem spl_all (xs vs : List Value) (h : vs.length = xs.length) : spl xs 0 vs = vs := by
  unfold spl
  rw [List.take_zero, List.nil_append, Nat.zero_add, List.drop_of_length_le (by omega), List.append_nil]
/-- A slice of one element. -/
theorem sOne (hS : St S w0 w L) {t e : TypeId} (ht : P.underlying t = some (.slice e)) {z v : Value} {sz : Nat} (hi : (P.info? e).map (fun i => (i.zero, i.size)) = some (some z, sz)) (hz : z.cells.size = sz) (hs0 : 0 < sz) (hs1 : sz ≤ 16777216)
    (hw : Region.wanted ⟨d, .buildSlice t 1 #[(0, x)], ty, pos, af, gd⟩ (yielded ops a.tmps) = true) (hx : a.eval x = v) {cs : Array Value} (hcs : v.cells = cs) (hc : cs.size = sz)
    (h : ∀ B w', St S w0 w' (.blk true B cs e :: L) → wpList P ops Q rest (a.put d (.slice (some ⟨B, 0, none⟩) 1 1)) w') : wpList P ops Q (⟨d, .buildSlice t 1 #[(0, x)], ty, pos, af, gd⟩ :: rest) a w := by
  subst hcs
  cases hq : P.info? e with
  | none => simp [hq] at hi
  | some i =>
    simp [hq] at hi
    obtain ⟨hi1, rfl⟩ := hi
    have hf : Instr.fill (fun i_1 => some (i_1 * i.size, i.size)) ((Array.range i.size).map (z.cells[· % z.cells.size]!)) [(0, v)] = some v.cells := by
      rw [fill_cons (off := 0) (size := i.size) (by simp) hc (by simp), Instr.fill, splice_all _ _ (by simp; omega)]
    refine wpList_made (w' := w.alloc (.cells v.cells e)) hw ?_ (h _ _ (hS.alloc v.cells e))
    have h1 : ¬ (16777216 < i.size) := by omega
    have h2 : i.size ≠ 0 := by omega
    unfold execOp
    simp only [List.map_toArray, List.map_cons, List.map_nil, hx, Instr.buildSlice, Sem.run_bind, run_underlying ht, Result.andThen_ok, sizeOf, typeInfo, Sem.run_pure]
    simp [hq, h1, h2, run_zero (P := P) (T := e) (z := z) (by simp [hq, hi1]), hf, run_newRow]
/-- A slice of none. -/
theorem sEmpty (hS : St S w0 w L) {t e : TypeId} (ht : P.underlying t = some (.slice e)) {sz : Nat} (hi : (P.info? e).map (·.size) = some sz)
    (hw : Region.wanted ⟨d, .buildSlice t 0 #[], ty, pos, af, gd⟩ (yielded ops a.tmps) = true)
    (h : ∀ B w', St S w0 w' (.own (.slice (some ⟨B, 0, none⟩) 0 0) e sz 0 [] :: L) → wpList P ops Q rest (a.put d (.slice (some ⟨B, 0, none⟩) 0 0)) w') : wpList P ops Q (⟨d, .buildSlice t 0 #[], ty, pos, af, gd⟩ :: rest) a w := by
  cases hq : P.info? e with
  | none => simp [hq] at hi
  | some i =>
    simp [hq] at hi
    subst hi
    have hS' : St S w0 (w.alloc (.cells #[] e)) (.own (.slice (some ⟨w.heap.size, 0, none⟩) 0 0) e i.size 0 [] :: L) :=
      hS.new ((Mod.refl _ _).alloc _) (World.ownsRow_made w #[] 0 (Nat.zero_le _) (Nat.zero_le _) (by simp)) fun k hk => by
        simp [Ass.foot, Value.ownBlock] at hk
        omega
    refine wpList_made (w' := w.alloc (.cells #[] e)) hw ?_ (h _ _ hS')
    unfold execOp
    simp only [List.map_toArray, List.map_nil, Instr.buildSlice, Sem.run_bind, run_underlying ht, Result.andThen_ok, sizeOf, typeInfo, Sem.run_pure]
    simp [hq, Instr.fill, run_newRow, show Array.range 0 = #[] from rfl]
end
end Go.Proofs.Ytckadanghhibhaa
