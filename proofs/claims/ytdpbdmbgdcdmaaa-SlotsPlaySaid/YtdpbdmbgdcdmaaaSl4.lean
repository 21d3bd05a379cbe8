/- A name is added, removed. -/
import Derived.Test.YtdpbdmbgdcdmaaaSl3
import Derived.Lib.BufferWrite
import Derived.Lib.SliceRun
namespace Go.Proofs.Ytdpbdmbgdcdmaaa
open Go Go.RowKit

/-- Bytes of a row with others in the place from o on. -/
def setB (bs : List UInt8) (o : Nat) (p : List UInt8) : List UInt8 := bs.take o ++ p ++ bs.drop (o + p.length)
theorem setB_len (bs : List UInt8) (o : Nat) (p : List UInt8) (h : o + p.length ≤ bs.length) : (setB bs o p).length = bs.length := by
  unfold setB
  rw [List.length_append, List.length_append, List.length_take, List.length_drop]; omega
theorem encB_setB (bs : List UInt8) (o : Nat) (p : List UInt8) : splice (encB bs) o (p.map bv) = encB (setB bs o p) := by
  unfold splice encB setB
  simp [List.map_take, List.map_drop]

section
variable {P : Program} {ops : Array Oper} {rest : List Oper} {d : Option Tmp} {x y : Operand} {ty : TypeId} {pos : String} {af : Array Edge} {a : Act} {w w0 : World} {Q : Exit → Act → World → Prop} {S : Nat → Prop} {L L' : List Ass} {T e TS E : TypeId} {B : Nat} {bs : List UInt8}
/-- A text is copied into a row of bytes. -/
theorem sCopyS (HS : St S w0 w L) (hu : P.underlying T = some (.slice e)) (hs : (P.info? e).map (·.size) = some 1) {o n cap : Nat} {s : ByteArray} (hx : a.eval x = .slice (some ⟨B, o, none⟩) n cap) (hy : a.eval y = .string s)
    (r : Rep (.blk true B (encB bs) E) (.blk true B (encB (setB bs o s.data.toList)) E) L L') (hn : s.size ≤ n) (ho : o + s.size ≤ bs.length)
    (h : ∀ v w', St S w0 w' L' → wpList P ops Q rest (a.put d v) w') : wpList P ops Q (⟨d, .call { callee := .builtin .copy, args := #[x, y], argTypes := #[T, TS] }, ty, pos, af, none⟩ :: rest) a w := by
  have hr := Lib.run_copy_row_string (P := P) w T TS ty e B o n cap s (encB bs) E hu hs (HS.blk r.mem) hn (by rw [encB_size]; exact ho)
  have he : ((encB bs).toList.take o ++ Lib.byteCells s.data.toList ++ (encB bs).toList.drop (o + s.size)).toArray = encB (setB bs o s.data.toList) := by
    rw [← encB_setB]
    unfold splice
    rw [List.length_map, ← Lib.size_eq]
    rfl
  rw [he] at hr
  refine wpList_made (v := goInt s.size) (w' := w.setRow B (encB (setB bs o s.data.toList))) (by simp [Region.wanted]) ?_ (h _ _ (HS.setRow r))
  rw [BigFrame.execOp_builtin, BigFrame.builtin_copy]
  simp only [List.map_toArray, List.map_cons, List.map_nil, hx, hy, hr, Sem.run_bind, Sem.run_pure, Result.andThen_ok]
end

section
variable {P : Program} {ops : Array Oper} {rest : List Oper} {d : Option Tmp} {x : Operand} {ty : TypeId} {pos : String} {af : Array Edge} {a : Act} {w w0 : World} {Q : Exit → Act → World → Prop} {S : Nat → Prop} {L L' : List Ass} {T e E : TypeId} {B : Nat} {bs : List UInt8}
theorem setCells_row (B : Nat) (t : TypeId) : ∀ (vs : List Value) (w : World) (o : Nat) (cs : Array Value), w.heap[B]? = some (.cells cs t (0, 0)) → o + vs.length ≤ cs.size → w.setCells B o vs = w.setRow B (splice cs o vs)
  | [], w, o, cs, hB, _ => by rw [splice_nil]; exact (setRow_self w B cs t (0, 0) hB).symm
  | v :: vs, w, o, cs, hB, h => by
    rw [World.setCells, setCell_eq_setRow w B o cs t (0, 0) v hB, setCells_row B t vs _ _ _ (setRow_heap _ _ _ _ _ _ hB) (by rw [Array.size_setIfInBounds]; simp at h; omega), setRow_setRow]
    congr 1
    exact splice_cons cs o v vs (by simpa using h)
/-- Bytes are cleared. -/
theorem sClear (HS : St S w0 w L) (hu : P.underlying T = some (.slice e)) (hz : (P.info? e).bind (·.zero) = some (.int .u8 0)) {o n cap : Nat} (hx : a.eval x = .slice (some ⟨B, o, none⟩) n cap)
    (r : Rep (.blk true B (encB bs) E) (.blk true B (encB (setB bs o (List.replicate n 0))) E) L L') (hn : 0 < n) (ho : o + n ≤ bs.length)
    (h : ∀ v w', St S w0 w' L' → wpList P ops Q rest (a.put d v) w') : wpList P ops Q (⟨d, .call { callee := .builtin .clear, args := #[x], argTypes := #[T] }, ty, pos, af, none⟩ :: rest) a w := by
  have hB := HS.blk r.mem
  have hc : ∀ j, j < n → w.cell? ⟨B, o + j, none⟩ = some (.int .u8 (gB bs (o + j))) := fun j hj => by
    rw [cell_of_row w B (o + j) _ _ _ hB]; exact encB_gB bs (o + j) (by omega)
  have hr := Lib.run_clear_slice (P := P) w T e ty (.int .u8 0) hu (run_zero hz) rfl rfl B o n cap hn (fun j hj => by rw [hc j hj]; rfl) (fun j hj => frozen_of_row w B (o + j) _ _ hB)
  rw [setCells_row B E _ w o _ hB (by rw [List.length_replicate, encB_size]; exact ho)] at hr
  have he : splice (encB bs) o (List.replicate n (.int .u8 0)) = encB (setB bs o (List.replicate n 0)) := by
    rw [← encB_setB, List.map_replicate]; rfl
  rw [he] at hr
  refine wpList_made (v := .tuple #[]) (w' := w.setRow B (encB (setB bs o (List.replicate n 0)))) (by simp [Region.wanted]) ?_ (h _ _ (HS.setRow r))
  rw [BigFrame.execOp_builtin, BigFrame.builtin_clear]
  simp only [List.map_toArray, List.map_cons, List.map_nil, hx, hr, Sem.run_bind, Sem.run_pure, Result.andThen_ok]
end

/-- A slot's bytes are written. -/
def putName (bs : List UInt8) (i : Nat) (ino : Int) (name : ByteArray) : List UInt8 := setB ((put32 bs (32 * i) ino).set (32 * i + 4) (u8 name.size)) (32 * i + 5) name.data.toList
def addOf (bs : List UInt8) (name : ByteArray) (ino : Int) : List UInt8 × Int :=
  match slotsOf bs with
  | none => (bs, 80)
  | some l => if okName name = false ∨ ino = 0 ∨ (idxS l name).isSome = true then (bs, 2) else
    match idxS l ByteArray.empty with
    | none => (bs, 4)
    | some i => (putName bs i ino name, 0)
def remOf (bs : List UInt8) (name : ByteArray) : List UInt8 × Bool :=
  match findOf bs name with
  | none => (bs, false)
  | some (i, _) => (setB bs (32 * i) (List.replicate 32 0), true)
theorem okName_size {s : ByteArray} (h : okName s = true) : 1 ≤ s.size ∧ s.size ≤ 27 := by
  unfold okName okN at h
  simp only [Bool.and_eq_true, decide_eq_true_eq] at h
  rw [Lib.size_eq]
  exact ⟨h.1.1.1.1, h.1.1.1.2⟩

section
variable {S : Nat → Prop} {w0 w : World} {L : List Ass}
theorem add_nil (name : ByteArray) (ino : Int) (w : World) : Calls Try.prog 17 #[.pointer none, .string name, .int .u32 ino] w fun e w' => e = .returned (.int .i64 1) ∧ w = w' := by
  go_enter Try.func17, Try.ntmps17
  go_wp2
  go_ret
  exact ⟨rfl, rfl⟩
theorem rem_nil (name : ByteArray) (w : World) : Calls Try.prog 19 #[.pointer none, .string name] w fun e w' => e = .returned (.bool false) ∧ w = w' := by
  go_enter Try.func19, Try.ntmps19
  go_wp2
  go_ret
  exact ⟨rfl, rfl⟩
theorem nput_int (B o len cap p : Nat) (q : Int) (hq : q = (p : Int)) (v : Int) (bs : List UInt8) (E : TypeId) (w : World) (hB : w.heap[B]? = some (.cells (encB bs) E (0, 0))) (ho : o + len ≤ bs.length) (h1 : p + 4 ≤ len) (hl : len ≤ 9223372036854775807) (v0 : 0 ≤ v) (v1 : v < 4294967296) :
    Calls Try.prog 31 #[.slice (some ⟨B, o, none⟩) len cap, .int .i64 q, .int .u32 v] w fun e w' => e = .returned (.bool true) ∧ w' = w.setRow B (encB (put32 bs (o + p) v)) := by
  subst hq; exact nput_yes B o len cap p v bs E w hB ho h1 hl v0 v1
theorem encB_set2 (bs : List UInt8) (k : Nat) (n : Int) (h0 : 0 ≤ n) (h1 : n < 256) : (encB bs).setIfInBounds k (.int .u8 n) = encB (bs.set k (u8 n)) := by
  rw [← encB_set, show n % 256 = n by omega]
set_option maxRecDepth 100000 in
set_option maxHeartbeats 8000000 in
theorem add_any {B : Nat} (bs : List UInt8) (HS : St S w0 w (.blk true B (encB bs) 23 :: L)) (hl : bs.length = 256) (name : ByteArray) (hnm : name.size ≤ maxLen) (ino : Int) (i0 : 0 ≤ ino) (i1 : ino < 4294967296) :
    Calls Try.prog 17 #[.pointer (some ⟨B, 0, none⟩), .string name, .int .u32 ino] w fun e w' => e = .returned (.int .i64 (addOf bs name ino).2) ∧ St S w0 w' (.blk true B (encB (addOf bs name ino).1) 23 :: L) := by
  have HL := Lib.hid hl
  have hzb : (encB bs).size = 256 := (encB_size _).trans hl
  have HZB := Lib.hid hzb
  have HM := Lib.hid (fun W => pmay_any name W hnm)
  have HF : Hid (addOf bs name ino = match slotsOf bs with
    | none => (bs, 80)
    | some l => if okName name = false ∨ ino = 0 ∨ (idxS l name).isSome = true then (bs, 2) else
      match idxS l ByteArray.empty with
      | none => (bs, 4)
      | some i => (putName bs i ino name, 0)) := rfl
  generalize addOf bs name ino = r at HF ⊢
  clear hl hzb
  cases hs : slotsOf bs with
  | none =>
    have HR : Hid (r = (bs, 80)) := by show _ = _; rw [HF.out, hs]
    have HSO := Lib.hid hs
    clear HF hs
    go_enter Try.func17, Try.ntmps17
    go_wp2_with (first | ((with_reducible apply sLoadB HS); infer_instance; rfl; rfl; (repeat (first | exact List.Mem.head _ | apply List.Mem.tail)); exact HZB.out) | (go_at_call 11; refine (list_any HS bs HL.out).mono ?_; rintro e w' H1; rw [HSO.out] at H1; obtain ⟨rfl, H2⟩ := H1; clear HS; have HS := H2; clear H2))
    go_ret
    rw [HR.out]
    exact ⟨rfl, HS⟩
  | some l =>
    have hll := slotsTo_len hs
    have HLL := Lib.hid hll
    have HSO := Lib.hid hs
    have HFS : Hid (r = if okName name = false ∨ ino = 0 ∨ (idxS l name).isSome = true then ((bs, 2) : List UInt8 × Int) else
      match idxS l ByteArray.empty with
      | none => (bs, 4)
      | some i => (putName bs i ino name, 0)) := by show _ = _; rw [HF.out, hs]
    clear HF hs
    cases hok : okName name
    · have HR : Hid (r = (bs, 2)) := by show _ = _; rw [HFS.out, if_pos (.inl hok)]
      rw [hok] at HM
      clear HFS hok hll
      go_enter Try.func17, Try.ntmps17
      go_wp2_with (first | ((with_reducible apply sLoadB HS); infer_instance; rfl; rfl; (repeat (first | exact List.Mem.head _ | apply List.Mem.tail)); exact HZB.out) | (go_at_call 11; refine (list_any HS bs HL.out).mono ?_; rintro e w' H1; rw [HSO.out] at H1; obtain ⟨g, rfl, H2⟩ := H1; clear HS; have HS := H2; clear H2) | (go_at_call 15; refine (HM.out _).mono ?_; rintro e w' ⟨rfl, H1⟩; replace HS := HS.fresh H1; clear H1) | (go_at_call 29; refine (find_any HS (g := g) l (by (repeat (first | exact List.Mem.head _ | apply List.Mem.tail))) HLL.out _).mono ?_; rintro e w' ⟨rfl, H2⟩; clear HS; have HS := H2; clear H2; rw [HI.out]; simp only [idxV]))
      go_ret
      rw [HR.out]
      exact ⟨rfl, HS.tail⟩
    · obtain ⟨s1, s27⟩ := okName_size hok
      cases hi0 : (ino == 0)
      · have hi0' := beq_eq_false_iff_ne.1 hi0
        cases hx : idxS l name with
        | some k =>
          have HR : Hid (r = (bs, 2)) := by show _ = _; rw [HFS.out, if_pos (.inr (.inr (by rw [hx]; rfl)))]
          have HI := Lib.hid hx
          have hk0 : (0 : Int) ≤ (k : Int) := by omega
          rw [hok] at HM
          clear HFS hok hll hx
          go_enter Try.func17, Try.ntmps17
          go_wp2_with (first | ((with_reducible apply sLoadB HS); infer_instance; rfl; rfl; (repeat (first | exact List.Mem.head _ | apply List.Mem.tail)); exact HZB.out) | (go_at_call 11; refine (list_any HS bs HL.out).mono ?_; rintro e w' H1; rw [HSO.out] at H1; obtain ⟨g, rfl, H2⟩ := H1; clear HS; have HS := H2; clear H2) | (go_at_call 15; refine (HM.out _).mono ?_; rintro e w' ⟨rfl, H1⟩; replace HS := HS.fresh H1; clear H1) | (go_at_call 29; refine (find_any HS (g := g) l (by (repeat (first | exact List.Mem.head _ | apply List.Mem.tail))) HLL.out _).mono ?_; rintro e w' ⟨rfl, H2⟩; clear HS; have HS := H2; clear H2; rw [HI.out]; simp only [idxV]))
          go_ret
          rw [HR.out]
          exact ⟨rfl, HS.tail⟩
        | none =>
          have HFS2 : Hid (r = match idxS l ByteArray.empty with
            | none => ((bs, 4) : List UInt8 × Int)
            | some i => (putName bs i ino name, 0)) := by show _ = _; rw [HFS.out, if_neg (by rw [hok, hx]; rintro (h | h | h) <;> simp_all)]
          have HI := Lib.hid hx
          rw [hok] at HM
          clear HFS hok hx
          cases hy : idxS l ByteArray.empty with
          | none =>
            have HR : Hid (r = (bs, 4)) := by show _ = _; rw [HFS2.out, hy]
            have HE := Lib.hid hy
            clear HFS2 hy hll
            go_enter Try.func17, Try.ntmps17
            go_wp2_with (first | ((with_reducible apply sLoadB HS); infer_instance; rfl; rfl; (repeat (first | exact List.Mem.head _ | apply List.Mem.tail)); exact HZB.out) | (go_at_call 11; refine (list_any HS bs HL.out).mono ?_; rintro e w' H1; rw [HSO.out] at H1; obtain ⟨g, rfl, H2⟩ := H1; clear HS; have HS := H2; clear H2) | (go_at_call 15; refine (HM.out _).mono ?_; rintro e w' ⟨rfl, H1⟩; replace HS := HS.fresh H1; clear H1) | (go_at_call 29; refine (find_any HS (g := g) l (by (repeat (first | exact List.Mem.head _ | apply List.Mem.tail))) HLL.out _).mono ?_; rintro e w' ⟨rfl, H2⟩; clear HS; have HS := H2; clear H2; (first | rw [HI.out] | rw [show idxS l ⟨#[]⟩ = _ from HE.out]); simp only [idxV]))
            go_ret
            rw [HR.out]
            exact ⟨rfl, HS.tail⟩
          | some k =>
            have HR : Hid (r = (putName bs k ino name, 0)) := by show _ = _; rw [HFS2.out, hy]
            have HE := Lib.hid hy
            obtain ⟨y, hy1, _⟩ := idxS_get hy
            have hk8 : k < 8 := by have := (List.getElem?_eq_some_iff.1 hy1).1; omega
            have hk0 : (0 : Int) ≤ (k : Int) := by omega
            have hk8' : (k : Int) < 8 := by omega
            clear HFS2 hy hll hy1
            have s27' : (name.size : Int) ≤ 27 := by omega
            have hl2 : bs.length = 256 := HL.out
            have HPL : Hid ((put32 bs (32 * k) ino).length = 256) := (put32_len _ _ _).trans HL.out
            have HQL : Hid (((put32 bs (32 * k) ino).set (32 * k + 4) (u8 name.size)).length = 256) := by show _ = _; rw [List.length_set]; exact HPL.out
            clear hl2
            go_enter Try.func17, Try.ntmps17
            go_wp2_with (first | ((with_reducible apply sLoadB HS); infer_instance; rfl; rfl; (repeat (first | exact List.Mem.head _ | apply List.Mem.tail)); exact HZB.out) | (go_at_call 11; refine (list_any HS bs HL.out).mono ?_; rintro e w' H1; rw [HSO.out] at H1; obtain ⟨g, rfl, H2⟩ := H1; clear HS; have HS := H2; clear H2) | (go_at_call 15; refine (HM.out _).mono ?_; rintro e w' ⟨rfl, H1⟩; replace HS := HS.fresh H1; clear H1) | (go_at_call 29; refine (find_any HS (g := g) l (by (repeat (first | exact List.Mem.head _ | apply List.Mem.tail))) HLL.out _).mono ?_; rintro e w' ⟨rfl, H2⟩; clear HS; have HS := H2; clear H2; (first | rw [HI.out] | rw [show idxS l ⟨#[]⟩ = _ from HE.out]); simp only [idxV]) | (go_at_call 28; refine (piece_any _ k _ hk8).mono ?_; rintro e w' ⟨rfl, rfl⟩) | (go_at_call 31; refine (nput_int B (32 * k) 32 32 0 _ rfl ino bs 23 _ (HS.blk (.tail _ (.head _))) (by have := HL.out; omega) (by omega) (by omega) i0 i1).mono ?_; rintro e w' ⟨rfl, rfl⟩; rw [Nat.add_zero]; have H2 := HS.setRow (B := B) (cs := encB bs) (cs' := encB (put32 bs (32 * k) ino)) (t := 23) (.there .here); clear HS; generalize World.setRow _ B (encB (put32 bs (32 * k) ino)) = wp at H2 ⊢; have HS := H2; clear H2) | ((with_reducible apply sStore1 HS); infer_instance; rfl; rfl; (conv => (lhs; whnf)); (repeat (first | exact Rep.here | apply Rep.there)); (rw [encB_size, HPL.out]; omega); rfl; intro w' H1; clear HS; have HS := H1; clear H1; rw [encB_set2 _ _ _ (by omega) (by omega)] at HS) | ((with_reducible apply sCopyS HS Try.underlying58 (by kernel_rfl)); rfl; rfl; (repeat (first | exact Rep.here | apply Rep.there)); omega; (rw [HQL.out]; omega); intro v w' H1; clear HS; have HS := H1; clear H1))
            go_ret
            rw [HR.out]
            exact ⟨rfl, HS.tail⟩
      · have HR : Hid (r = (bs, 2)) := by show _ = _; rw [HFS.out, if_pos (.inr (.inl (beq_iff_eq.1 hi0)))]
        rw [hok] at HM
        clear HFS hok hll
        go_enter Try.func17, Try.ntmps17
        go_wp2_with (first | ((with_reducible apply sLoadB HS); infer_instance; rfl; rfl; (repeat (first | exact List.Mem.head _ | apply List.Mem.tail)); exact HZB.out) | (go_at_call 11; refine (list_any HS bs HL.out).mono ?_; rintro e w' H1; rw [HSO.out] at H1; obtain ⟨g, rfl, H2⟩ := H1; clear HS; have HS := H2; clear H2) | (go_at_call 15; refine (HM.out _).mono ?_; rintro e w' ⟨rfl, H1⟩; replace HS := HS.fresh H1; clear H1) | (go_at_call 29; refine (find_any HS (g := g) l (by (repeat (first | exact List.Mem.head _ | apply List.Mem.tail))) HLL.out _).mono ?_; rintro e w' ⟨rfl, H2⟩; clear HS; have HS := H2; clear H2; rw [HI.out]; simp only [idxV]))
        go_ret
        rw [HR.out]
        exact ⟨rfl, HS.tail⟩
set_option maxRecDepth 100000 in
set_option maxHeartbeats 8000000 in
theorem rem_any {B : Nat} (bs : List UInt8) (HS : St S w0 w (.blk true B (encB bs) 23 :: L)) (hl : bs.length = 256) (name : ByteArray) :
    Calls Try.prog 19 #[.pointer (some ⟨B, 0, none⟩), .string name] w fun e w' => e = .returned (.bool (remOf bs name).2) ∧ St S w0 w' (.blk true B (encB (remOf bs name).1) 23 :: L) := by
  have HL := Lib.hid hl
  have hzb : (encB bs).size = 256 := (encB_size _).trans hl
  have HZB := Lib.hid hzb
  have HF : Hid (remOf bs name = match findOf bs name with
    | none => (bs, false)
    | some (i, _) => (setB bs (32 * i) (List.replicate 32 0), true)) := rfl
  generalize remOf bs name = r at HF ⊢
  have hlt8 : ∀ i ino, findOf bs name = some (i, ino) → i < 8 := by
    intro i ino h
    unfold findOf at h
    split at h
    · cases h
    · rename_i l hs
      split at h
      · cases h
      · obtain ⟨j, hj, hji⟩ := Option.map_eq_some_iff.1 h
        cases hji
        obtain ⟨y, hy, _⟩ := idxS_get hj
        have := (List.getElem?_eq_some_iff.1 hy).1
        have := slotsTo_len hs
        omega
  clear hl hzb
  cases hf : findOf bs name with
  | none =>
    have HR : Hid (r = (bs, false)) := by show _ = _; rw [HF.out, hf]
    have HFO := Lib.hid hf
    clear HF hf hlt8
    go_enter Try.func19, Try.ntmps19
    go_wp2_with (first | ((with_reducible apply sLoadB HS); infer_instance; rfl; rfl; (repeat (first | exact List.Mem.head _ | apply List.Mem.tail)); exact HZB.out) | (go_at_call 13; refine (pfind_any HS bs HL.out name).mono ?_; rintro e w' ⟨rfl, H2⟩; clear HS; have HS := H2; clear H2; rw [HFO.out]; simp only [findV]) | (go_at_call 28; refine (piece_any _ k _ hk8).mono ?_; rintro e w' ⟨rfl, rfl⟩) | ((with_reducible apply sClear HS Try.underlying58 (by kernel_rfl)); rfl; (repeat (first | exact Rep.here | apply Rep.there)); omega; (have := HL.out; omega); intro v w' H1; clear HS; have HS := H1; clear H1))
    go_ret
    rw [HR.out]
    exact ⟨rfl, HS⟩
  | some p =>
    obtain ⟨k, ino⟩ := p
    have hk8 := hlt8 _ _ hf
    have HR : Hid (r = (setB bs (32 * k) (List.replicate 32 0), true)) := by show _ = _; rw [HF.out, hf]
    have HFO := Lib.hid hf
    have hk0 : (0 : Int) ≤ (k : Int) := by omega
    have hk8' : (k : Int) < 8 := by omega
    clear HF hf hlt8
    go_enter Try.func19, Try.ntmps19
    go_wp2_with (first | ((with_reducible apply sLoadB HS); infer_instance; rfl; rfl; (repeat (first | exact List.Mem.head _ | apply List.Mem.tail)); exact HZB.out) | (go_at_call 13; refine (pfind_any HS bs HL.out name).mono ?_; rintro e w' ⟨rfl, H2⟩; clear HS; have HS := H2; clear H2; rw [HFO.out]; simp only [findV]) | (go_at_call 28; refine (piece_any _ k _ hk8).mono ?_; rintro e w' ⟨rfl, rfl⟩) | ((with_reducible apply sClear HS Try.underlying58 (by kernel_rfl)); rfl; (repeat (first | exact Rep.here | apply Rep.there)); omega; (have := HL.out; omega); intro v w' H1; clear HS; have HS := H1; clear H1))
    go_ret
    rw [HR.out]
    exact ⟨rfl, HS⟩
end
end Go.Proofs.Ytdpbdmbgdcdmaaa
