/- More laws over the list of assertions: slices of the call's own, drawn regions, calls, results. Over any program. -/
import Derived.Test.YtckadanghhibhaaSep
import Derived.Test.YtckadanghhibhaaMk
import Derived.BigQuiet
import Derived.WalkSpells
namespace Go.Proofs.Ytckadanghhibhaa
open Go Go.RowKit

theorem own_range {w : World} {base g n cap sz : Nat} {e : TypeId} {xs : List Value} (h : w.ownsRow base e sz (.slice (some ⟨g, 0, none⟩) n cap) n xs) : w.rangeAt g 0 xs := by
  intro j v hv
  rw [Nat.zero_add]
  rcases h.2 with ⟨h1, _⟩ | ⟨g', cap', cur, h1, _, hg, _, _, _, ht⟩
  · cases h1
  · simp only [Value.slice.injEq, Option.some.injEq, Addr.mk.injEq] at h1
    obtain ⟨⟨rfl, _⟩, _⟩ := h1
    rw [cell_of_row _ _ _ _ _ _ hg, ← hv, ← ht, List.getElem?_take, if_pos, Array.getElem?_toList]
    have hl := h.1
    have hj := (List.getElem?_eq_some_iff.1 hv).1
    omega
/-- A slice of the call's own that is there has its row. -/
theorem own_row {w : World} {base n sz : Nat} {e : TypeId} {v : Value} {xs : List Value} (h : w.ownsRow base e sz v n xs) (hn : 0 < n) : ∃ g cap, v = .slice (some ⟨g, 0, none⟩) n cap ∧ n ≤ cap ∧ cap ≤ maxLen := by
  rcases h.2 with ⟨_, h1⟩ | ⟨g, cap, cur, h1, _, hg, h2, h3, _⟩
  · omega
  · exact ⟨g, cap, h1, h2, h3⟩

section
variable {P : Program} {ops : Array Oper} {rest : List Oper} {d : Option Tmp} {x y : Operand} {ty : TypeId} {pos : String} {af : Array Edge} {gd : Option (Nat × Bool)} {a : Act} {w w0 : World} {Q : Exit → Act → World → Prop} {S : Nat → Prop} {L : List Ass} {T : TypeId}

theorem St.own (h : St S w0 w L) {v : Value} {e : TypeId} {sz n : Nat} {xs : List Value} (hm : Ass.own v e sz n xs ∈ L) : w.ownsRow 0 e sz v n xs := h.hold _ hm
theorem own_one {w : World} {base n sz : Nat} {e : TypeId} {v : Value} {xs : List Value} (h : w.ownsRow base e sz v n xs) : v.oneCell' = true := by
  rcases h.2 with ⟨rfl, _⟩ | ⟨g, cap, cur, rfl, _⟩ <;> rfl
theorem St.ownOne (h : St S w0 w L) {v : Value} {e : TypeId} {sz n : Nat} {xs : List Value} (hm : Ass.own v e sz n xs ∈ L) : v.oneCell' = true := own_one (h.own hm)
theorem own_slice {w : World} {base n sz : Nat} {e : TypeId} {v : Value} {xs : List Value} (h : w.ownsRow base e sz v n xs) : ∃ ad cap, v = .slice ad n cap := by
  rcases h.2 with ⟨rfl, rfl⟩ | ⟨g, cap, cur, rfl, _⟩
  · exact ⟨_, _, rfl⟩
  · exact ⟨_, _, rfl⟩
/-- Nobody asks for it any more. -/
theorem St.lose (h : St S w0 w L) {v : Value} {e : TypeId} {sz n : Nat} {xs : List Value} {L' : List Ass} (r : Rep (.own v e sz n xs) (.own (.slice none 0 0) e sz 0 []) L L') : St S w0 w L' :=
  h.rep r rfl (fun k hk => by simp [Ass.foot, Value.ownBlock] at hk) (Mod.refl _ _) (World.ownsRow_nil _ _ _ _)
theorem St.ownRange (h : St S w0 w L) {g cap : Nat} {e : TypeId} {sz n : Nat} {xs : List Value} (hm : Ass.own (.slice (some ⟨g, 0, none⟩) n cap) e sz n xs ∈ L) : w.rangeAt g 0 xs := own_range (h.own hm)

/-- A load of a part of a range. -/
theorem sLoadR {n : Nat} (hT : Row P T n) {B o i : Nat} {xs vs : List Value} (hr : w.rangeAt B o xs) (hw : Region.wanted ⟨d, .load T x, ty, pos, af, gd⟩ (yielded ops a.tmps) = true) (hx : a.eval x = .pointer (some ⟨B, o + i, none⟩)) (hv : ∀ j v, vs[j]? = some v → xs[i + j]? = some v) (hn : vs.length = n)
    (h : wpList P ops Q rest (a.put d (.agg vs.toArray)) w) : wpList P ops Q (⟨d, .load T x, ty, pos, af, gd⟩ :: rest) a w := by
  have h1 := run_loadN (P := P) (T := T) w B (o + i) vs (fun j v hj => by rw [Nat.add_assoc]; exact hr (i + j) v (hv j v hj)) hn
  exact wpList_val hw (by unfold execOp; simp only [hx, h1, Sem.run_bind, Result.andThen_ok, Sem.run_pure]) h
theorem sLoadR1 (hT : Plain P T) {B o i : Nat} {xs : List Value} {v : Value} (hr : w.rangeAt B o xs) (hw : Region.wanted ⟨d, .load T x, ty, pos, af, gd⟩ (yielded ops a.tmps) = true) (hx : a.eval x = .pointer (some ⟨B, o + i, none⟩)) (hv : xs[i]? = some v)
    (h : wpList P ops Q rest (a.put d v) w) : wpList P ops Q (⟨d, .load T x, ty, pos, af, gd⟩ :: rest) a w :=
  wpList_val hw (by unfold execOp; simp only [hx, run_load1 w ⟨B, o + i, none⟩ v (hr i v hv), Sem.run_bind, Result.andThen_ok, Sem.run_pure]) h

/-- .. of a slice of the call's own, of cells that are only read. -/
theorem sLoadO {n : Nat} (hS : St S w0 w L) (hT : Row P T n) {g i k cap sz : Nat} {e : TypeId} {xs vs : List Value} (hw : Region.wanted ⟨d, .load T x, ty, pos, af, gd⟩ (yielded ops a.tmps) = true) (hx : a.eval x = .pointer (some ⟨g, i, none⟩)) (hm : Ass.own (.slice (some ⟨g, 0, none⟩) k cap) e sz k xs ∈ L) (hv : ∀ j v, vs[j]? = some v → xs[i + j]? = some v) (hn : vs.length = n)
    (h : wpList P ops Q rest (a.put d (.agg vs.toArray)) w) : wpList P ops Q (⟨d, .load T x, ty, pos, af, gd⟩ :: rest) a w :=
  sLoadR hT (o := 0) (i := i) (hS.ownRange hm) hw (by rw [Nat.zero_add]; exact hx) hv hn h
theorem sLoadO1 (hS : St S w0 w L) (hT : Plain P T) {g i k cap sz : Nat} {e : TypeId} {xs : List Value} {v : Value} (hw : Region.wanted ⟨d, .load T x, ty, pos, af, gd⟩ (yielded ops a.tmps) = true) (hx : a.eval x = .pointer (some ⟨g, i, none⟩)) (hm : Ass.own (.slice (some ⟨g, 0, none⟩) k cap) e sz k xs ∈ L) (hv : xs[i]? = some v)
    (h : wpList P ops Q rest (a.put d v) w) : wpList P ops Q (⟨d, .load T x, ty, pos, af, gd⟩ :: rest) a w :=
  sLoadR1 hT (o := 0) (i := i) (hS.ownRange hm) hw (by rw [Nat.zero_add]; exact hx) hv h
theorem sLoadRo {j : Nat} {n : Nat} (hS : St S w0 w L) (hT : Row P T n) {B o p : Nat} {xs vs : List Value} (hw : Region.wanted ⟨d, .load T x, ty, pos, af, gd⟩ (yielded ops a.tmps) = true) (hx : a.eval x = .pointer (some ⟨B, p, none⟩)) (hm : Ass.ro B o xs ∈ L) (hp : p = o + j) (hv : ∀ k v, vs[k]? = some v → xs[j + k]? = some v) (hn : vs.length = n)
    (h : wpList P ops Q rest (a.put d (.agg vs.toArray)) w) : wpList P ops Q (⟨d, .load T x, ty, pos, af, gd⟩ :: rest) a w := by
  subst hp
  exact sLoadR hT (hS.hold _ hm : w.rangeAt B o xs) hw hx hv hn h
theorem sLoadRo1 {j : Nat} (hS : St S w0 w L) (hT : Plain P T) {B o p : Nat} {xs : List Value} {v : Value} (hw : Region.wanted ⟨d, .load T x, ty, pos, af, gd⟩ (yielded ops a.tmps) = true) (hx : a.eval x = .pointer (some ⟨B, p, none⟩)) (hm : Ass.ro B o xs ∈ L) (hp : p = o + j) (hv : xs[j]? = some v)
    (h : wpList P ops Q rest (a.put d v) w) : wpList P ops Q (⟨d, .load T x, ty, pos, af, gd⟩ :: rest) a w := by
  subst hp
  exact sLoadR1 hT (hS.hold _ hm : w.rangeAt B o xs) hw hx hv h
theorem St.roRange (h : St S w0 w L) {B o : Nat} {xs : List Value} (hm : Ass.ro B o xs ∈ L) : w.rangeAt B o xs := h.hold _ hm

/-- The values of a slice with others in the place from i on. -/
def spl (xs : List Value) (i : Nat) (vs : List Value) : List Value := xs.take i ++ vs ++ xs.drop (i + vs.length)
theorem spl_len (xs : List Value) (i : Nat) (vs : List Value) (h : i + vs.length ≤ xs.length) : (spl xs i vs).length = xs.length := by
  unfold spl
  rw [List.length_append, List.length_append, List.length_take, List.length_drop]
  omega
theorem own_store {w : World} {g n cap sz : Nat} {e : TypeId} {xs vs : List Value} (i : Nat) (h : w.ownsRow 0 e sz (.slice (some ⟨g, 0, none⟩) n cap) n xs) (hi : i + vs.length ≤ xs.length) :
    ∃ cur, w.heap[g]? = some (.cells cur e (0, 0)) ∧ i + vs.length ≤ cur.size ∧ ∀ w' : World, w'.heap[g]? = some (.cells (splice cur i vs) e (0, 0)) → w'.ownsRow 0 e sz (.slice (some ⟨g, 0, none⟩) n cap) n (spl xs i vs) := by
  have hl := h.1
  rcases h.2 with ⟨h1, _⟩ | ⟨g', cap', cur, h1, hb, hg, h2, h3, hc, ht⟩
  · cases h1
  · simp only [Value.slice.injEq, Option.some.injEq, Addr.mk.injEq] at h1
    obtain ⟨⟨rfl, _⟩, _, rfl⟩ := h1
    have hnc : n * sz ≤ cap * sz := Nat.mul_le_mul_right _ h2
    refine ⟨cur, hg, by omega, fun w' hw' => ⟨by rw [spl_len _ _ _ hi, hl], .inr ⟨g, cap, splice cur i vs, rfl, hb, hw', h2, h3, by rw [size_splice _ _ _ (by omega), hc], ?_⟩⟩⟩
    unfold splice spl
    rw [← ht]
    apply List.ext_getElem?
    intro j
    have hlc : cur.toList.length = cap * sz := by rw [Array.length_toList, hc]
    have hlx : (cur.toList.take (n * sz)).length = n * sz := by rw [List.length_take]; omega
    have hi2 : i + vs.length ≤ n * sz := by rw [← ht, hlx] at hi; exact hi
    simp only [List.getElem?_take, List.append_assoc, List.getElem?_append, List.length_take, List.getElem?_drop, hlc, hlx]
    repeat' split
    all_goals first
      | rfl
      | (exfalso; omega)
      | (congr 1; omega)
      | skip
    all_goals (simp only [List.getElem?_eq_none_iff] ; omega)

theorem run_storeO {n : Nat} [hT : Row P T n] {B o : Nat} {cs : Array Value} {t : TypeId} {vs : Array Value} (hB : w.heap[B]? = some (.cells cs t (0, 0))) (hn : vs.size = n) (ho : o + vs.size ≤ cs.size) (h1 : ∀ v ∈ vs.toList, v.oneCell' = true) :
    (Instr.storeAt T (.pointer (some ⟨B, o, none⟩)) (.agg vs)).run P w = .ok () (w.setRow B (splice cs o vs.toList)) := by
  have hs := hT.size
  have hst := run_storeCells_at P B o t vs.toList 0 cs w hB (by simpa using ho) h1
  simp only [Nat.add_zero] at hst
  cases hq : P.info? T with
  | none => simp [hq] at hs
  | some inf =>
    have hone : vs.size = inf.size := by simp [hq] at hs; omega
    simp [Instr.storeAt, Instr.sureAddr, storeVar, Sem.run_bind, sizeOf, typeInfo, hq, Value.cells, hone, hst, splice]
/-- A row of a slice of the call's own is written. -/
theorem sStoreO {n : Nat} (hS : St S w0 w L) (hT : Row P T n) {g k cap sz i : Nat} {e : TypeId} {xs : List Value} {vs : Array Value} {L' : List Ass} (hw : Region.wanted ⟨d, .store T x y, ty, pos, af, gd⟩ (yielded ops a.tmps) = true) (hx : a.eval x = .pointer (some ⟨g, i, none⟩)) (hy : a.eval y = .agg vs)
    (r : Rep (.own (.slice (some ⟨g, 0, none⟩) k cap) e sz k xs) (.own (.slice (some ⟨g, 0, none⟩) k cap) e sz k (spl xs i vs.toList)) L L') (hn : vs.size = n) (hi : i + vs.size ≤ xs.length) (h1 : ∀ v ∈ vs.toList, v.oneCell' = true)
    (h : ∀ w', St S w0 w' L' → wpList P ops Q rest (a.put d undef) w') : wpList P ops Q (⟨d, .store T x y, ty, pos, af, gd⟩ :: rest) a w := by
  obtain ⟨cur, hg, hc, hk⟩ := own_store (vs := vs.toList) i (hS.own r.mem) (by simpa using hi)
  refine wpList_act (w' := w.setRow g (splice cur i vs.toList)) hw (by unfold execOp; simp only [hx, hy, run_storeO (P := P) (T := T) hg hn (by simpa using hc) h1, Sem.run_bind, Result.andThen_ok, Sem.run_pure]) (h _ ?_)
  exact hS.rep r rfl (fun _ hk => .inl hk) ((Mod.refl _ _).setRow (S := (Ass.own (.slice (some ⟨g, 0, none⟩) k cap) e sz k xs).foot) (.inl rfl) _) (hk _ (setRow_heap _ _ _ _ _ _ hg))

/-- Where the row of what 'append' hands back lies. -/
theorem append_block {t ty e : TypeId} {i0 : TypeInfo} {zv : Value} (ht : P.underlying t = some (.slice e)) (hi : P.info? e = some i0) (hz : i0.zero = some zv) (hzs : zv.cells.size = i0.size) (hsz : 0 < i0.size)
    {v : Value} {n m c : Nat} {xs news : List Value} {ad : Addr} (hown : w.ownsRow 0 e i0.size v n xs) (hl : news.length = m * i0.size) (hnews : ∀ j u, news[j]? = some u → w.cell? (ad.add j) = some u) (h1 : ∀ u ∈ news, u.oneCell' = true)
    (h63 : n + m ≤ maxLen) (hbytes : (n + m) * i0.bytes ≤ 140737488355328) {v' : Value} {w' : World} (hr : (Builtin.append_ #[t, t] ty #[v, .slice (some ad) m c]).run P w = .ok v' w') : ∀ k, v'.ownBlock = some k → v.ownBlock = some k ∨ w.heap.size ≤ k := by
  intro k hk
  have hown2 := hown
  rcases hown.2 with ⟨rfl, rfl⟩ | ⟨g, cap, cur, rfl, hb, hg, hnc, hcm, hcs, htake⟩
  · have hx : xs = [] := List.eq_nil_of_length_eq_zero (by simpa using hown.1)
    subst hx
    obtain ⟨v1, w1, hr1, ho1, _⟩ := run_append_own (P := P) w w.heap.size t ty e i0 zv i0.size i0.bytes ht hi hz rfl rfl hzs hsz (.slice none 0 0) 0 [] (World.ownsRow_nil _ _ _ _) ad m c news hl hnews h1 h63 hbytes (Nat.le_refl _)
    rw [hr] at hr1
    cases hr1
    exact .inr (ho1.lt k hk).1
  · by_cases hroom : n + m ≤ cap
    · have hfit : n * i0.size + news.length ≤ cur.size := by rw [hl, hcs, ← Nat.add_mul]; exact Nat.mul_le_mul_right _ hroom
      have hr1 := run_append_room (P := P) w t ty e i0 ht hi g n cap cur hg ad m c news hl hnews h1 hroom hfit
      rw [hr] at hr1
      cases hr1
      exact .inl hk
    · have hr1 := run_append_grow (P := P) w t ty e i0 zv ht hi hz ⟨g, 0, none⟩ n cap xs hown.1 (hown2.cells (g := g) rfl) ad m c news hl hnews (by omega) (by unfold maxLen at h63; omega) (growslice_fits (by omega) hbytes)
      rw [hr] at hr1
      cases hr1
      right
      simp [Value.ownBlock] at hk
      omega

/-- 'append' to a slice of the call's own. -/
theorem sAppend (hS : St S w0 w L) {s z : Operand} {t : TypeId} {e : TypeId} {zv : Value} {sz bytes : Nat} (ht : P.underlying t = some (.slice e)) (hi : (P.info? e).map (fun i => (i.zero, i.size, i.bytes)) = some (some zv, sz, bytes)) (hzs : zv.cells.size = sz) (hsz : 0 < sz)
    {v : Value} {n m c : Nat} {xs news : List Value} {L' : Value → List Ass} {ad : Addr} (hs : a.eval s = v) (r : ∀ v', Rep (.own v e sz n xs) (.own v' e sz (n + m) (xs ++ news)) L (L' v')) (hz : a.eval z = .slice (some ad) m c)
    (hl : news.length = m * sz) (hnews : ∀ j u, news[j]? = some u → w.cell? (ad.add j) = some u) (h1 : ∀ u ∈ news, u.oneCell' = true) (hb0 : 0 < bytes) (hbytes : (n + m) * bytes ≤ 140737488355328)
    (h : ∀ v' w', St S w0 w' (L' v') → (v' = .slice none 0 0 ↔ v = .slice none 0 0 ∧ m = 0) → wpList P ops Q rest (a.put d v') w') :
    wpList P ops Q (⟨d, .call { callee := .builtin .append, args := #[s, z], argTypes := #[t, t] }, ty, pos, af, none⟩ :: rest) a w := by
  obtain ⟨i0, hi0, hz0, hz1, hz2⟩ := info_parts hi
  subst hz1 hz2
  have hnm : n + m ≤ maxLen := by
    have : n + m ≤ (n + m) * i0.bytes := Nat.le_mul_of_pos_right _ hb0
    unfold maxLen; omega
  have hown := hS.own (r v).mem
  obtain ⟨v', w', hr, hown', hg, hnil⟩ := run_append_own (P := P) w 0 t ty e i0 zv i0.size i0.bytes ht hi0 hz0 rfl rfl hzs hsz v n xs hown ad m c news hl hnews h1 hnm hbytes (Nat.zero_le _)
  have hblk := append_block (P := P) ht hi0 hz0 hzs hsz hown hl hnews h1 hnm hbytes hr
  have hS' := hS.rep (r v') rfl hblk ⟨hg.os, hg.tape, hg.output, hg.size, fun k hk hf => hg.block k hk (fun e => hf e.symm)⟩ hown'
  refine wpList_made (v := v') (w' := w') (by simp [Region.wanted]) ?_ (h v' w' hS' hnil)
  rw [BigFrame.execOp_builtin, BigFrame.builtin_append]
  simp only [List.map_toArray, List.map_cons, List.map_nil, hs, hz, hr, Sem.run_bind, Sem.run_pure, Result.andThen_ok]

theorem St.newsBlk (hS : St S w0 w L) {rw : Bool} {B o : Nat} {cs : Array Value} {t : TypeId} {news : List Value} (hm : Ass.blk rw B cs t ∈ L) (hv : ∀ j u, news[j]? = some u → cs[o + j]? = some u) : ∀ j u, news[j]? = some u → w.cell? ((⟨B, o, none⟩ : Addr).add j) = some u := by
  intro j u hj
  rw [add_off, hS.cell hm]
  exact hv j u hj
theorem St.newsAll (hS : St S w0 w L) {rw : Bool} {B : Nat} {cs : Array Value} {t : TypeId} (hm : Ass.blk rw B cs t ∈ L) : ∀ j u, cs.toList[j]? = some u → w.cell? ((⟨B, 0, none⟩ : Addr).add j) = some u :=
  hS.newsBlk hm fun j u hj => by rw [Nat.zero_add]; simpa using hj
theorem news_range {B o : Nat} {xs : List Value} (h : w.rangeAt B o xs) : ∀ j u, xs[j]? = some u → w.cell? ((⟨B, o, none⟩ : Addr).add j) = some u := fun j u hj => by rw [add_off]; exact h j u hj

/-- A new row of so many elements. -/
theorem run_makeC {t e : TypeId} {zv : Value} {sz bytes : Nat} (ht : P.underlying t = some (.slice e)) (hinfo : (P.info? e).map (fun i => (i.zero, i.size, i.bytes)) = some (some zv, sz, bytes)) (kl kc : IntKind) (n : Nat) (hbytes : bytes * n ≤ 281474976710656) (h63 : n ≤ 9223372036854775807) (w : World) :
    (Instr.makeSlice t (.int kl (n : Int)) (.int kc (n : Int))).run P w = .ok (.slice (some ⟨w.heap.size, 0, none⟩) n n) (w.alloc (.cells (madeCells zv.cells (n * sz)) e)) := by
  obtain ⟨i, hi, hzz⟩ := Option.map_eq_some_iff.1 hinfo
  simp only [Prod.mk.injEq] at hzz
  obtain ⟨hz, hs, hb⟩ := hzz
  have hb' : (i.bytes : Int) * (n : Int) ≤ 281474976710656 := by
    have h : ((i.bytes * n : Nat) : Int) ≤ 281474976710656 := by rw [hb]; omega
    rwa [Int.natCast_mul] at h
  have hr := run_make (P := P) w t e i zv ht hi hz kl kc n n (by omega) (Int.le_refl _) hb' (by omega)
  simp only [Int.toNat_natCast, hs] at hr
  exact hr
theorem sMake (hS : St S w0 w L) {l c : Operand} {t e : TypeId} {zv : Value} {sz bytes : Nat} (ht : P.underlying t = some (.slice e)) (hi : (P.info? e).map (fun i => (i.zero, i.size, i.bytes)) = some (some zv, sz, bytes))
    {kl kc : IntKind} {n : Nat} (hw : Region.wanted ⟨d, .makeSlice t l c, ty, pos, af, gd⟩ (yielded ops a.tmps) = true) (hl : a.eval l = .int kl (n : Int)) (hc : a.eval c = .int kc (n : Int)) (hbytes : bytes * n ≤ 281474976710656) (h63 : n ≤ 9223372036854775807)
    (h : ∀ B w', St S w0 w' (.blk true B (madeCells zv.cells (n * sz)) e :: L) → wpList P ops Q rest (a.put d (.slice (some ⟨B, 0, none⟩) n n)) w') : wpList P ops Q (⟨d, .makeSlice t l c, ty, pos, af, gd⟩ :: rest) a w :=
  wpList_made hw (by unfold execOp; simp only [hl, hc, run_makeC ht hi kl kc n hbytes h63, Sem.run_bind, Result.andThen_ok, Sem.run_pure]) (h _ _ (hS.alloc _ e))

/-- An operation that hands back v in whatever world. -/
def Val (P : Program) (a : Act) (o : Oper) (v : Value) : Prop := ∀ w, (execOp a.eval o).run P w = .ok (.value v) w
theorem sVal {o : Oper} {v : Value} (hv : Val P a o v) (hw : Region.wanted o (yielded ops a.tmps) = true) (h : wpList P ops Q rest (a.put o.dst v) w) : wpList P ops Q (o :: rest) a w := wpList_val hw (hv w) h
theorem cVal {i : Nat} {r : Sc} {S : World → Prop} {o : Oper} {v : Value} (ho : ops[i]? = some o) (hv : Val P a o v) (hw : Region.wanted o (yielded ops a.tmps) = true) (h : wpSch P ops Q S r (a.put o.dst v) w) : wpSch P ops Q S (.q i r) a w :=
  wpSch_q ho hw v (fun w' _ => by unfold heldAt; rw [hv w']; exact ⟨rfl, rfl⟩) h

/-- A slice against nil. -/
theorem valEqNil {t t2 e : TypeId} (hu : P.underlying t = some (.slice e)) {v : Option Addr} {n c : Nat} (hx : a.eval x = .slice v n c) : Val P a ⟨d, .binOp .eql t x (.const (.slice none 0 0)) t2, ty, pos, af, gd⟩ (.bool v.isNone) := fun w => by
  have hc : a.eval (.const (.slice none 0 0)) = .slice none 0 0 := rfl
  unfold execOp
  simp only [hx, hc]
  simp [eqGuard, Lib.run_eql_slice_nil w t e v n c 0 0 hu]
theorem valNeNil {t t2 e : TypeId} (hu : P.underlying t = some (.slice e)) {v : Option Addr} {n c : Nat} (hx : a.eval x = .slice v n c) : Val P a ⟨d, .binOp .neq t x (.const (.slice none 0 0)) t2, ty, pos, af, gd⟩ (.bool !v.isNone) := fun w => by
  have hc : a.eval (.const (.slice none 0 0)) = .slice none 0 0 := rfl
  unfold execOp
  simp only [hx, hc]
  simp [eqGuard, run_neq_slice_nil_any w t e v n c 0 0 hu]
theorem sEqNil {t t2 e : TypeId} (hu : P.underlying t = some (.slice e)) {v : Option Addr} {n c : Nat} (hw : Region.wanted ⟨d, .binOp .eql t x (.const (.slice none 0 0)) t2, ty, pos, af, gd⟩ (yielded ops a.tmps) = true) (hx : a.eval x = .slice v n c)
    (h : wpList P ops Q rest (a.put d (.bool v.isNone)) w) : wpList P ops Q (⟨d, .binOp .eql t x (.const (.slice none 0 0)) t2, ty, pos, af, gd⟩ :: rest) a w := sVal (valEqNil hu hx) hw h
theorem sNeNil {t t2 e : TypeId} (hu : P.underlying t = some (.slice e)) {v : Option Addr} {n c : Nat} (hw : Region.wanted ⟨d, .binOp .neq t x (.const (.slice none 0 0)) t2, ty, pos, af, gd⟩ (yielded ops a.tmps) = true) (hx : a.eval x = .slice v n c)
    (h : wpList P ops Q rest (a.put d (.bool !v.isNone)) w) : wpList P ops Q (⟨d, .binOp .neq t x (.const (.slice none 0 0)) t2, ty, pos, af, gd⟩ :: rest) a w := sVal (valNeNil hu hx) hw h
theorem then_normal {f : Act → World → Prop} (h : f a w) : Exit.then f Q .normal a w := h
/-! ### Calls -/
theorem Calls.then {f : FuncId} {args : Array Value} {R R' : Ending → World → Prop} (h : Calls P f args w R) (hr : ∀ e w', R e w' → R' e w') : Calls P f args w R' := h.mono hr

/-! ### Drawn regions that only read -/
abbrev Fr (w : World) : World → Prop := fun w' => Mod none' w w'
theorem wp_region_quietF {id : Nat} {l : List Oper} (hm : P.follows .mixedOrders = true) (hB : Region.lexB .any l.toArray = true)
    (h : wpQuiet P l.toArray (Fr w) (fun a' => ∀ w', Mod none' w w' → Q .normal a' w') l a) : (Code.region id l.toArray true).wp P Q a w :=
  wp_region_quiet (C := Fr w) hm hB ((Mod.refl _ _).drew) (by simpa using h)
theorem fr_call {f : FuncId} {args : Array Value} {w' : World} {v : Value} (hf : Fr w w') (h : Calls P f args w' fun e w'' => e = .returned v ∧ Mod none' w' w'') : Calls P f args w' fun e w'' => e = .returned v ∧ Fr w w'' :=
  h.mono fun _ _ ⟨he, hm⟩ => ⟨he, Mod.trans hf hm⟩
theorem fr_same {f : FuncId} {args : Array Value} {w' : World} {v : Value} (hf : Fr w w') (h : Calls P f args w' fun e w'' => e = .returned v ∧ w' = w'') : Calls P f args w' fun e w'' => e = .returned v ∧ Fr w w'' :=
  h.mono fun _ _ ⟨he, hm⟩ => ⟨he, by rw [← hm]; exact hf⟩
theorem fr_drew {f : FuncId} {args : Array Value} {w' : World} {v : Value} (hf : Fr w w') (h : Calls P f args w' fun e w'' => e = .returned v ∧ ∃ n, w'' = w'.drewN n) : Calls P f args w' fun e w'' => e = .returned v ∧ Fr w w'' :=
  h.mono fun _ _ ⟨he, n, hm⟩ => ⟨he, by rw [hm]; exact Mod.drewN hf n⟩

theorem wpQuiet_val {C : World → Prop} {Qa : Act → Prop} {o : Oper} {v : Value} (hw : Region.wanted o (yielded ops a.tmps) = true) (hr : ∀ w', C w' → (execOp a.eval o).run P w' = .ok (.value v) w') (h : wpQuiet P ops C Qa rest (a.put o.dst v)) : wpQuiet P ops C Qa (o :: rest) a := by
  refine wpQuiet_step fun K hK => ?_
  rw [if_pos hw]
  refine ⟨v, fun w' hC => ?_, hK _ h⟩
  unfold Oper.quietAt
  rw [hr w' hC]
  exact ⟨rfl, rfl⟩
theorem qVal {C : World → Prop} {Qa : Act → Prop} {o : Oper} {v : Value} (hv : Val P a o v) (hw : Region.wanted o (yielded ops a.tmps) = true) (h : wpQuiet P ops C Qa rest (a.put o.dst v)) : wpQuiet P ops C Qa (o :: rest) a := wpQuiet_val hw (fun w' _ => hv w') h
theorem qLoad1 {Qa : Act → Prop} (hS : St S w0 w L) (hT : Plain P T) {rw : Bool} {B i : Nat} {cs : Array Value} {t : TypeId} {v : Value} (hw : Region.wanted ⟨d, .load T x, ty, pos, af, gd⟩ (yielded ops a.tmps) = true) (hx : a.eval x = .pointer (some ⟨B, i, none⟩)) (hm : Ass.blk rw B cs t ∈ L) (hc : cs[i]? = some v)
    (h : wpQuiet P ops (Fr w) Qa rest (a.put d v)) : wpQuiet P ops (Fr w) Qa (⟨d, .load T x, ty, pos, af, gd⟩ :: rest) a :=
  wpQuiet_val hw (fun w' hC => by unfold execOp; simp only [hx, run_load1 w' ⟨B, i, none⟩ v (((hS.fresh hC).cell hm i).trans hc), Sem.run_bind, Result.andThen_ok, Sem.run_pure]) h
theorem qLoadB {n : Nat} {Qa : Act → Prop} (hS : St S w0 w L) (hT : Row P T n) {rw : Bool} {B : Nat} {cs : Array Value} {t : TypeId} (hw : Region.wanted ⟨d, .load T x, ty, pos, af, gd⟩ (yielded ops a.tmps) = true) (hx : a.eval x = .pointer (some ⟨B, 0, none⟩)) (hm : Ass.blk rw B cs t ∈ L) (hn : cs.size = n)
    (h : wpQuiet P ops (Fr w) Qa rest (a.put d (.agg cs))) : wpQuiet P ops (Fr w) Qa (⟨d, .load T x, ty, pos, af, gd⟩ :: rest) a :=
  wpQuiet_val hw (fun w' hC => by
    have hr : w'.rangeAt B 0 cs.toList := fun j v hj => by rw [Nat.zero_add, (hS.fresh hC).cell hm]; simpa using hj
    have h1 := run_loadN (P := P) (T := T) w' B 0 cs.toList hr (by simpa using hn)
    simp only [Array.toArray_toList] at h1
    unfold execOp; simp only [hx, h1, Sem.run_bind, Result.andThen_ok, Sem.run_pure]) h
theorem range_fresh {w w' : World} {B o : Nat} {xs : List Value} (h : w.rangeAt B o xs) (hm : Mod none' w w') : w'.rangeAt B o xs := fun j v hj => by
  have h1 := h j v hj
  have hlt : B < w.heap.size := block_lt_of_cell h1
  rw [World.cell?_of_block (w := w) (hm.same B hlt (fun e => e))]
  exact h1
theorem qLoadR {n : Nat} (hT : Row P T n) {Qa : Act → Prop} {B o i : Nat} {xs vs : List Value} (hr : w.rangeAt B o xs) (hw : Region.wanted ⟨d, .load T x, ty, pos, af, gd⟩ (yielded ops a.tmps) = true) (hx : a.eval x = .pointer (some ⟨B, o + i, none⟩)) (hv : ∀ j v, vs[j]? = some v → xs[i + j]? = some v) (hn : vs.length = n)
    (h : wpQuiet P ops (Fr w) Qa rest (a.put d (.agg vs.toArray))) : wpQuiet P ops (Fr w) Qa (⟨d, .load T x, ty, pos, af, gd⟩ :: rest) a :=
  wpQuiet_val hw (fun w' hC => by
    have h1 := run_loadN (P := P) (T := T) w' B (o + i) vs (fun j v hj => by rw [Nat.add_assoc]; exact range_fresh hr hC (i + j) v (hv j v hj)) hn
    unfold execOp; simp only [hx, h1, Sem.run_bind, Result.andThen_ok, Sem.run_pure]) h
theorem qLoadR1 (hT : Plain P T) {Qa : Act → Prop} {B o i : Nat} {xs : List Value} {v : Value} (hr : w.rangeAt B o xs) (hw : Region.wanted ⟨d, .load T x, ty, pos, af, gd⟩ (yielded ops a.tmps) = true) (hx : a.eval x = .pointer (some ⟨B, o + i, none⟩)) (hv : xs[i]? = some v)
    (h : wpQuiet P ops (Fr w) Qa rest (a.put d v)) : wpQuiet P ops (Fr w) Qa (⟨d, .load T x, ty, pos, af, gd⟩ :: rest) a :=
  wpQuiet_val hw (fun w' hC => by unfold execOp; simp only [hx, run_load1 w' ⟨B, o + i, none⟩ v (range_fresh hr hC i v hv), Sem.run_bind, Result.andThen_ok, Sem.run_pure]) h

/-! ### Drawn regions that end in something that turns the memory ('wp_region_sch'): what is held there is a list of assertions. -/
theorem qLoadO {n : Nat} {Qa : Act → Prop} (hS : St S w0 w L) (hT : Row P T n) {g o k cap sz : Nat} {e : TypeId} {xs vs : List Value} (hw : Region.wanted ⟨d, .load T x, ty, pos, af, gd⟩ (yielded ops a.tmps) = true) (hx : a.eval x = .pointer (some ⟨g, o, none⟩)) (hm : Ass.own (.slice (some ⟨g, 0, none⟩) k cap) e sz k xs ∈ L) (hv : ∀ j v, vs[j]? = some v → xs[o + j]? = some v) (hn : vs.length = n)
    (h : wpQuiet P ops (Fr w) Qa rest (a.put d (.agg vs.toArray))) : wpQuiet P ops (Fr w) Qa (⟨d, .load T x, ty, pos, af, gd⟩ :: rest) a :=
  qLoadR hT (o := 0) (i := o) (hS.ownRange hm) hw (by rw [Nat.zero_add]; exact hx) hv hn h
theorem qLoadO1 {Qa : Act → Prop} (hS : St S w0 w L) (hT : Plain P T) {g o k cap sz : Nat} {e : TypeId} {xs : List Value} {v : Value} (hw : Region.wanted ⟨d, .load T x, ty, pos, af, gd⟩ (yielded ops a.tmps) = true) (hx : a.eval x = .pointer (some ⟨g, o, none⟩)) (hm : Ass.own (.slice (some ⟨g, 0, none⟩) k cap) e sz k xs ∈ L) (hv : xs[o]? = some v)
    (h : wpQuiet P ops (Fr w) Qa rest (a.put d v)) : wpQuiet P ops (Fr w) Qa (⟨d, .load T x, ty, pos, af, gd⟩ :: rest) a :=
  qLoadR1 hT (o := 0) (i := o) (hS.ownRange hm) hw (by rw [Nat.zero_add]; exact hx) hv h
theorem qLoadRo {j : Nat} {n : Nat} {Qa : Act → Prop} (hS : St S w0 w L) (hT : Row P T n) {B o p : Nat} {xs vs : List Value} (hw : Region.wanted ⟨d, .load T x, ty, pos, af, gd⟩ (yielded ops a.tmps) = true) (hx : a.eval x = .pointer (some ⟨B, p, none⟩)) (hm : Ass.ro B o xs ∈ L) (hp : p = o + j) (hv : ∀ k v, vs[k]? = some v → xs[j + k]? = some v) (hn : vs.length = n)
    (h : wpQuiet P ops (Fr w) Qa rest (a.put d (.agg vs.toArray))) : wpQuiet P ops (Fr w) Qa (⟨d, .load T x, ty, pos, af, gd⟩ :: rest) a := by
  subst hp
  exact qLoadR hT (hS.roRange hm) hw hx hv hn h
theorem qLoadRo1 {j : Nat} {Qa : Act → Prop} (hS : St S w0 w L) (hT : Plain P T) {B o p : Nat} {xs : List Value} {v : Value} (hw : Region.wanted ⟨d, .load T x, ty, pos, af, gd⟩ (yielded ops a.tmps) = true) (hx : a.eval x = .pointer (some ⟨B, p, none⟩)) (hm : Ass.ro B o xs ∈ L) (hp : p = o + j) (hv : xs[j]? = some v)
    (h : wpQuiet P ops (Fr w) Qa rest (a.put d v)) : wpQuiet P ops (Fr w) Qa (⟨d, .load T x, ty, pos, af, gd⟩ :: rest) a := by
  subst hp
  exact qLoadR1 hT (hS.roRange hm) hw hx hv h
abbrev Hd (L : List Ass) : World → Prop := fun w' => ∀ A ∈ L, A.holds w'
theorem St.hd (h : St S w0 w L) {L' : List Ass} (hs : ∀ A ∈ L', A ∈ L) : Hd L' w := fun A hA => h.hold A (hs A hA)
theorem subNil : ∀ A ∈ ([] : List Ass), A ∈ L := by simp
theorem subCons {X : Ass} {L' : List Ass} (h : X ∈ L) (hs : ∀ A ∈ L', A ∈ L) : ∀ A ∈ X :: L', A ∈ L := fun A hA => (List.mem_cons.1 hA).elim (fun e => by rw [e]; exact h) (hs A)
theorem cLoad1 {i : Nat} {r : Sc} {rw : Bool} {B j : Nat} {cs : Array Value} {t : TypeId} {v : Value} (ho : ops[i]? = some ⟨d, .load T x, ty, pos, af, gd⟩) (hT : Plain P T) (hw : Region.wanted ⟨d, .load T x, ty, pos, af, gd⟩ (yielded ops a.tmps) = true) (hx : a.eval x = .pointer (some ⟨B, j, none⟩)) (hm : Ass.blk rw B cs t ∈ L) (hc : cs[j]? = some v)
    (h : wpSch P ops Q (Hd L) r (a.put d v) w) : wpSch P ops Q (Hd L) (.q i r) a w :=
  wpSch_q ho hw v (fun w' hC => by
    have hB : w'.heap[B]? = some (.cells cs t (0, 0)) := hC _ hm
    unfold heldAt execOp
    simp only [hx, run_load1 w' ⟨B, j, none⟩ v ((cell_of_row _ _ _ _ _ _ hB).trans hc), Sem.run_bind, Result.andThen_ok, Sem.run_pure, Oper.quietUpon, and_self]) h
theorem cLoadB {n : Nat} {i : Nat} {r : Sc} {rw : Bool} {B : Nat} {cs : Array Value} {t : TypeId} (ho : ops[i]? = some ⟨d, .load T x, ty, pos, af, gd⟩) (hT : Row P T n) (hw : Region.wanted ⟨d, .load T x, ty, pos, af, gd⟩ (yielded ops a.tmps) = true) (hx : a.eval x = .pointer (some ⟨B, 0, none⟩)) (hm : Ass.blk rw B cs t ∈ L) (hn : cs.size = n)
    (h : wpSch P ops Q (Hd L) r (a.put d (.agg cs)) w) : wpSch P ops Q (Hd L) (.q i r) a w :=
  wpSch_q ho hw (.agg cs) (fun w' hC => by
    have hB : w'.heap[B]? = some (.cells cs t (0, 0)) := hC _ hm
    have hr : w'.rangeAt B 0 cs.toList := fun j v hj => by rw [Nat.zero_add, cell_of_row _ _ _ _ _ _ hB]; simpa using hj
    have h1 := run_loadN (P := P) (T := T) w' B 0 cs.toList hr (by simpa using hn)
    simp only [Array.toArray_toList] at h1
    unfold heldAt execOp
    simp only [hx, h1, Sem.run_bind, Result.andThen_ok, Sem.run_pure, Oper.quietUpon, and_self]) h
theorem cLoadN {n : Nat} {i : Nat} {r : Sc} {rw : Bool} {B o : Nat} {cs : Array Value} {t : TypeId} {vs : List Value} (ho : ops[i]? = some ⟨d, .load T x, ty, pos, af, gd⟩) (hT : Row P T n) (hw : Region.wanted ⟨d, .load T x, ty, pos, af, gd⟩ (yielded ops a.tmps) = true) (hx : a.eval x = .pointer (some ⟨B, o, none⟩)) (hm : Ass.blk rw B cs t ∈ L) (hv : ∀ j v, vs[j]? = some v → cs[o + j]? = some v) (hn : vs.length = n)
    (h : wpSch P ops Q (Hd L) r (a.put d (.agg vs.toArray)) w) : wpSch P ops Q (Hd L) (.q i r) a w :=
  wpSch_q ho hw (.agg vs.toArray) (fun w' hC => by
    have hB : w'.heap[B]? = some (.cells cs t (0, 0)) := hC _ hm
    have h1 := run_loadN (P := P) (T := T) w' B o vs (fun j v hj => by rw [cell_of_row _ _ _ _ _ _ hB]; exact hv j v hj) hn
    unfold heldAt execOp
    simp only [hx, h1, Sem.run_bind, Result.andThen_ok, Sem.run_pure, Oper.quietUpon, and_self]) h
theorem cLoadO {n : Nat} {i : Nat} {r : Sc} {g o k cap sz : Nat} {e : TypeId} {xs vs : List Value} (ho : ops[i]? = some ⟨d, .load T x, ty, pos, af, gd⟩) (hT : Row P T n) (hw : Region.wanted ⟨d, .load T x, ty, pos, af, gd⟩ (yielded ops a.tmps) = true) (hx : a.eval x = .pointer (some ⟨g, o, none⟩)) (hm : Ass.own (.slice (some ⟨g, 0, none⟩) k cap) e sz k xs ∈ L) (hv : ∀ j v, vs[j]? = some v → xs[o + j]? = some v) (hn : vs.length = n)
    (h : wpSch P ops Q (Hd L) r (a.put d (.agg vs.toArray)) w) : wpSch P ops Q (Hd L) (.q i r) a w :=
  wpSch_q ho hw (.agg vs.toArray) (fun w' hC => by
    have hr : w'.rangeAt g 0 xs := own_range (hC _ hm)
    have h1 := run_loadN (P := P) (T := T) w' g o vs (fun j v hj => by have := hr (o + j) v (hv j v hj); rwa [Nat.zero_add] at this) hn
    unfold heldAt execOp
    simp only [hx, h1, Sem.run_bind, Result.andThen_ok, Sem.run_pure, Oper.quietUpon, and_self]) h
theorem cLoadO1 {i : Nat} {r : Sc} {g o k cap sz : Nat} {e : TypeId} {xs : List Value} {v : Value} (ho : ops[i]? = some ⟨d, .load T x, ty, pos, af, gd⟩) (hT : Plain P T) (hw : Region.wanted ⟨d, .load T x, ty, pos, af, gd⟩ (yielded ops a.tmps) = true) (hx : a.eval x = .pointer (some ⟨g, o, none⟩)) (hm : Ass.own (.slice (some ⟨g, 0, none⟩) k cap) e sz k xs ∈ L) (hv : xs[o]? = some v)
    (h : wpSch P ops Q (Hd L) r (a.put d v) w) : wpSch P ops Q (Hd L) (.q i r) a w :=
  wpSch_q ho hw v (fun w' hC => by
    have hr : w'.rangeAt g 0 xs := own_range (hC _ hm)
    have hc := hr o v hv
    rw [Nat.zero_add] at hc
    unfold heldAt execOp
    simp only [hx, run_load1 w' ⟨g, o, none⟩ v hc, Sem.run_bind, Result.andThen_ok, Sem.run_pure, Oper.quietUpon, and_self]) h
theorem cLoadRo {j : Nat} {n : Nat} {i : Nat} {r : Sc} {B o p : Nat} {xs vs : List Value} (ho : ops[i]? = some ⟨d, .load T x, ty, pos, af, gd⟩) (hT : Row P T n) (hw : Region.wanted ⟨d, .load T x, ty, pos, af, gd⟩ (yielded ops a.tmps) = true) (hx : a.eval x = .pointer (some ⟨B, p, none⟩)) (hm : Ass.ro B o xs ∈ L) (hp : p = o + j) (hv : ∀ k v, vs[k]? = some v → xs[j + k]? = some v) (hn : vs.length = n)
    (h : wpSch P ops Q (Hd L) r (a.put d (.agg vs.toArray)) w) : wpSch P ops Q (Hd L) (.q i r) a w :=
  wpSch_q ho hw (.agg vs.toArray) (fun w' hC => by
    subst hp
    have hr : w'.rangeAt B o xs := hC _ hm
    have h1 := run_loadN (P := P) (T := T) w' B (o + j) vs (fun k v hj => by rw [Nat.add_assoc]; exact hr (j + k) v (hv k v hj)) hn
    unfold heldAt execOp
    simp only [hx, h1, Sem.run_bind, Result.andThen_ok, Sem.run_pure, Oper.quietUpon, and_self]) h
theorem cLoadRo1 {j : Nat} {i : Nat} {r : Sc} {B o p : Nat} {xs : List Value} {v : Value} (ho : ops[i]? = some ⟨d, .load T x, ty, pos, af, gd⟩) (hT : Plain P T) (hw : Region.wanted ⟨d, .load T x, ty, pos, af, gd⟩ (yielded ops a.tmps) = true) (hx : a.eval x = .pointer (some ⟨B, p, none⟩)) (hm : Ass.ro B o xs ∈ L) (hp : p = o + j) (hv : xs[j]? = some v)
    (h : wpSch P ops Q (Hd L) r (a.put d v) w) : wpSch P ops Q (Hd L) (.q i r) a w :=
  wpSch_q ho hw v (fun w' hC => by
    subst hp
    have hr : w'.rangeAt B o xs := hC _ hm
    unfold heldAt execOp
    simp only [hx, run_load1 w' ⟨B, o + j, none⟩ v (hr j v hv), Sem.run_bind, Result.andThen_ok, Sem.run_pure, Oper.quietUpon, and_self]) h
theorem hd_range {w' : World} (hC : Hd L w') {B o : Nat} {xs : List Value} (hm : Ass.ro B o xs ∈ L) : w'.rangeAt B o xs := hC _ hm
theorem hd_own {w' : World} (hC : Hd L w') {g cap : Nat} {e : TypeId} {sz n : Nat} {xs : List Value} (hm : Ass.own (.slice (some ⟨g, 0, none⟩) n cap) e sz n xs ∈ L) : w'.rangeAt g 0 xs := own_range (hC _ hm)
theorem cLoadR {n : Nat} {i : Nat} {r : Sc} {B o j : Nat} {xs vs : List Value} (hr : ∀ w', Hd L w' → w'.rangeAt B o xs) (ho : ops[i]? = some ⟨d, .load T x, ty, pos, af, gd⟩) (hT : Row P T n) (hw : Region.wanted ⟨d, .load T x, ty, pos, af, gd⟩ (yielded ops a.tmps) = true) (hx : a.eval x = .pointer (some ⟨B, o + j, none⟩)) (hv : ∀ k v, vs[k]? = some v → xs[j + k]? = some v) (hn : vs.length = n)
    (h : wpSch P ops Q (Hd L) r (a.put d (.agg vs.toArray)) w) : wpSch P ops Q (Hd L) (.q i r) a w :=
  wpSch_q ho hw (.agg vs.toArray) (fun w' hC => by
    have h1 := run_loadN (P := P) (T := T) w' B (o + j) vs (fun k v hj => by rw [Nat.add_assoc]; exact hr w' hC (j + k) v (hv k v hj)) hn
    unfold heldAt execOp
    simp only [hx, h1, Sem.run_bind, Result.andThen_ok, Sem.run_pure, Oper.quietUpon, and_self]) h
theorem cLoadR1 {i : Nat} {r : Sc} {B o j : Nat} {xs : List Value} {v : Value} (hr : ∀ w', Hd L w' → w'.rangeAt B o xs) (ho : ops[i]? = some ⟨d, .load T x, ty, pos, af, gd⟩) (hT : Plain P T) (hw : Region.wanted ⟨d, .load T x, ty, pos, af, gd⟩ (yielded ops a.tmps) = true) (hx : a.eval x = .pointer (some ⟨B, o + j, none⟩)) (hv : xs[j]? = some v)
    (h : wpSch P ops Q (Hd L) r (a.put d v) w) : wpSch P ops Q (Hd L) (.q i r) a w :=
  wpSch_q ho hw v (fun w' hC => by
    unfold heldAt execOp
    simp only [hx, run_load1 w' ⟨B, o + j, none⟩ v (hr w' hC j v hv), Sem.run_bind, Result.andThen_ok, Sem.run_pure, Oper.quietUpon, and_self]) h

/-! ### Results -/
/-- What a function hands back in one place. -/
def resRun (tmps : Array Value) : ResultVar → Sem Value
  | .tmp t => pure (tmps.getD t undef)
  | .cell p t => do loadVar t (← asAddr (tmps.getD p undef))
theorem resTmp (tmps : Array Value) (t : Tmp) (w : World) : (resRun tmps (.tmp t)).run P w = .ok (tmps.getD t undef) w := rfl
theorem resCell {n : Nat} [Row P T n] (hS : St S w0 w L) {tmps : Array Value} {p : Tmp} {rw : Bool} {B : Nat} {cs : Array Value} {t : TypeId} (hp : tmps.getD p undef = .pointer (some ⟨B, 0, none⟩)) (hm : Ass.blk rw B cs t ∈ L) (hn : cs.size = n) : (resRun tmps (.cell p T)).run P w = .ok (.agg cs) w := by
  have hr : w.rangeAt B 0 cs.toList := fun j v hj => by rw [Nat.zero_add, hS.cell hm]; simpa using hj
  have h1 := run_loadN (P := P) (T := T) w B 0 cs.toList hr (by simpa using hn)
  simp only [Instr.loadAt, Instr.sureAddr, Sem.run_bind, Sem.run_pure, Result.andThen_ok, Array.toArray_toList] at h1
  have hp' : asAddr (tmps.getD p undef) = pure ⟨B, 0, none⟩ := by rw [hp]; rfl
  show (Sem.bind _ _).run P w = _
  rw [hp']
  exact h1
theorem res_eq (fn : Func) (tmps : Array Value) : results fn tmps = (do let vs ← fn.results.mapM (resRun tmps); pure (if h : vs.size = 1 then vs[0] else .tuple vs)) := by
  unfold results
  congr 2
theorem res1 {fn : Func} {r1 : ResultVar} (h : fn.results = #[r1]) {tmps : Array Value} {v1 : Value} (h1 : (resRun tmps r1).run P w = .ok v1 w) : (results fn tmps).run P w = .ok v1 w := by
  rw [res_eq, h]
  simp [h1]
theorem res2 {fn : Func} {r1 r2 : ResultVar} (h : fn.results = #[r1, r2]) {tmps : Array Value} {v1 v2 : Value} (h1 : (resRun tmps r1).run P w = .ok v1 w) (h2 : (resRun tmps r2).run P w = .ok v2 w) : (results fn tmps).run P w = .ok (.tuple #[v1, v2]) w := by
  rw [res_eq, h]
  simp [Sem.run_bind, h1, h2]
theorem res3 {fn : Func} {r1 r2 r3 : ResultVar} (h : fn.results = #[r1, r2, r3]) {tmps : Array Value} {v1 v2 v3 : Value} (h1 : (resRun tmps r1).run P w = .ok v1 w) (h2 : (resRun tmps r2).run P w = .ok v2 w) (h3 : (resRun tmps r3).run P w = .ok v3 w) : (results fn tmps).run P w = .ok (.tuple #[v1, v2, v3]) w := by
  rw [res_eq, h]
  simp [Sem.run_bind, h1, h2, h3]
theorem res4 {fn : Func} {r1 r2 r3 r4 : ResultVar} (h : fn.results = #[r1, r2, r3, r4]) {tmps : Array Value} {v1 v2 v3 v4 : Value} (h1 : (resRun tmps r1).run P w = .ok v1 w) (h2 : (resRun tmps r2).run P w = .ok v2 w) (h3 : (resRun tmps r3).run P w = .ok v3 w) (h4 : (resRun tmps r4).run P w = .ok v4 w) : (results fn tmps).run P w = .ok (.tuple #[v1, v2, v3, v4]) w := by
  rw [res_eq, h]
  simp [Sem.run_bind, h1, h2, h3, h4]
theorem ret {fn : Func} {R : Ending → World → Prop} {v : Value} (hr : (results fn a.tmps).run P w = .ok v w) (hd : a.defers = []) (hR : R (.returned v) w) : bodyPost P fn R .ret a w := bodyPost_ret hr hd hR
end
end Go.Proofs.Ytckadanghhibhaa
