/- A name is looked for. -/
import Derived.Test.YtdpbdmbgdcdmaaaSl2
namespace Go.Proofs.Ytdpbdmbgdcdmaaa
open Go Go.RowKit

/-- The first slot of a name. -/
def idxS (l : List Sl) (name : ByteArray) : Option Nat := l.findIdx? fun y => y.2 == name
def idxV : Option Nat → Int
  | none => -1
  | some i => i
theorem idxS_none {l : List Sl} {name : ByteArray} (h : (l.any fun y => y.2 == name) = false) : idxS l name = none := by
  unfold idxS
  rw [List.findIdx?_eq_none_iff]
  intro x hx
  cases hq : x.2 == name
  · rfl
  · rw [List.any_eq_true.2 ⟨x, hx, hq⟩] at h; cases h
theorem idxS_some {l : List Sl} {name : ByteArray} {m : Nat} {y : Sl} (hy : l[m]? = some y) (h : ((l.take m).any fun y => y.2 == name) = false) (hq : (y.2 == name) = true) : idxS l name = some m := by
  unfold idxS
  have hm := (List.getElem?_eq_some_iff.1 hy).1
  have hym := (List.getElem?_eq_some_iff.1 hy).2
  rw [List.findIdx?_eq_some_iff_getElem]
  refine ⟨hm, by rw [hym]; exact hq, fun j hj => ?_⟩
  have h1 : (l.take m)[j]? = some l[j] := by rw [List.getElem?_take, if_pos hj, List.getElem?_eq_getElem]
  cases hq2 : l[j].2 == name
  · simp
  · rw [List.any_eq_true.2 ⟨l[j], List.mem_of_getElem? h1, hq2⟩] at h; cases h
theorem idxS_get {l : List Sl} {name : ByteArray} {m : Nat} (h : idxS l name = some m) : ∃ y, l[m]? = some y ∧ (y.2 == name) = true := by
  unfold idxS at h
  rw [List.findIdx?_eq_some_iff_getElem] at h
  obtain ⟨h1, h2, _⟩ := h
  exact ⟨l[m], List.getElem?_eq_getElem h1, h2⟩

section
variable {S : Nat → Prop} {w0 w : World} {L : List Ass}
set_option maxRecDepth 100000 in
set_option maxHeartbeats 8000000 in
theorem find_any (HS : St S w0 w L) {rw : Bool} {g : Nat} (l : List Sl) (hm : Ass.blk rw g (rowS l) 33 ∈ L) (hl : l.length = 8) (name : ByteArray) :
    Calls Try.prog 29 #[.slice (some ⟨g, 0, none⟩) 8 8, .string name] w fun e w' => e = .returned (.int .i64 (idxV (idxS l name))) ∧ St S w0 w' L := by
  have HLN := Lib.hid hl
  have HI0 : Hid ((l.any fun y => y.2 == name) = false → idxS l name = none) := idxS_none
  have HI1 : Hid (∀ m y, l[m]? = some y → ((l.take m).any fun y => y.2 == name) = false → (y.2 == name) = true → idxS l name = some m) := fun m y => idxS_some
  generalize idxS l name = r at HI0 HI1 ⊢
  clear hl
  go_enter Try.func29, Try.ntmps29
  go_wp2
  go_loopw [9] (fun j wr => ∃ m : Nat, m ≤ 8 ∧ j = .int .i64 m ∧ Hid ((l.take m).any (fun y => y.2 == name) = false) ∧ St S w0 wr L) (fun j _ => 8 - (intOf j).toNat)
  case atStart => exact ⟨0, by omega, rfl, rfl, HS⟩
  case round =>
    obtain ⟨m, hmm, rfl, HA, HS⟩ := hrel
    by_cases hml : m < 8
    · obtain ⟨y, hy⟩ : ∃ y, l[m]? = some y := ⟨_, List.getElem?_eq_getElem (by have := HLN.out; omega)⟩
      obtain ⟨yv, yn⟩ := y
      have HP : Hid (∀ j u, [Value.int .u32 yv, .string yn][j]? = some u → (rowS l)[m * 2 + j]? = some u) := rowS_part l m (yv, yn) hy
      have HY := Lib.hid hy
      have HQ : Hid ((yn == name) = (yn.toList == name.toList)) := beq_toListBytes yn name
      clear hy
      cases hq : (yn.toList == name.toList)
      · have HQF : Hid ((yn == name) = false) := HQ.out.trans hq
        go_wp2_with (first | ((with_reducible apply sLoad1 HS); infer_instance; rfl; rfl; (repeat (first | exact List.Mem.head _ | apply List.Mem.tail)); rfl) | ((with_reducible apply sLoadN HS); infer_instance; rfl; rfl; (repeat (first | exact hm | exact List.Mem.head _ | apply List.Mem.tail)); exact HP.out; rfl) | ((with_reducible apply sAlloc HS); infer_instance; (first | exact cells_agg _ | exact cells_one rfl); rfl; intro Y w' H1; clear HS; have HS := H1; clear H1) | ((with_reducible apply sStoreB HS); infer_instance; rfl; rfl; (conv => (lhs; whnf)); (repeat (first | exact Rep.here | apply Rep.there)); rfl; rfl; exact (by intro u hu; simp at hu; rcases hu with rfl | rfl <;> rfl); intro w' H1; clear HS; have HS := H1; clear H1))
        go_roundw
        case rel =>
          refine ⟨m + 1, by omega, by go_num, ?_, HS.tail⟩
          show _ = _
          rw [List.take_add_one, HY.out, Option.toList_some, List.any_append, HA.out]
          simp only [List.any_cons, List.any_nil, HQF.out, Bool.or_false]
        case measure => simp [intOf]; omega
      · have HQF : Hid ((yn == name) = true) := HQ.out.trans hq
        have HR := Lib.hid (HI1.out m (yv, yn) HY.out HA.out HQF.out)
        go_wp2_with (first | ((with_reducible apply sLoad1 HS); infer_instance; rfl; rfl; (repeat (first | exact List.Mem.head _ | apply List.Mem.tail)); rfl) | ((with_reducible apply sLoadN HS); infer_instance; rfl; rfl; (repeat (first | exact hm | exact List.Mem.head _ | apply List.Mem.tail)); exact HP.out; rfl) | ((with_reducible apply sAlloc HS); infer_instance; (first | exact cells_agg _ | exact cells_one rfl); rfl; intro Y w' H1; clear HS; have HS := H1; clear H1) | ((with_reducible apply sStoreB HS); infer_instance; rfl; rfl; (conv => (lhs; whnf)); (repeat (first | exact Rep.here | apply Rep.there)); rfl; rfl; exact (by intro u hu; simp at hu; rcases hu with rfl | rfl <;> rfl); intro w' H1; clear HS; have HS := H1; clear H1))
        go_ret
        exact ⟨by rw [HR.out]; rfl, HS.tail⟩
    · obtain rfl : m = 8 := by omega
      have HR : Hid (r = none) := HI0.out (by have h := HA.out; rwa [List.take_of_length_le (by have := HLN.out; omega)] at h)
      go_wp2
      go_ret
      exact ⟨by rw [HR.out]; rfl, HS⟩
theorem find_nil (name : ByteArray) (w : World) :
    Calls Try.prog 29 #[.slice none 0 0, .string name] w fun e w' => e = .returned (.int .i64 (-1)) ∧ w = w' := by
  go_enter Try.func29, Try.ntmps29
  go_wp2
  refine wp_loop_rounds 1 ?_
  rw [rounds_succ]
  go_wp2
  go_ret
  exact ⟨rfl, rfl⟩

/-- Where a name stands in a block, and its inode. -/
def findOf (bs : List UInt8) (name : ByteArray) : Option (Nat × Int) :=
  match slotsOf bs with
  | none => none
  | some l => if name.size = 0 then none else (idxS l name).map fun i => (i, (l.getD i zSl).1)
def findV : Option (Nat × Int) → Value
  | none => .tuple #[.int .i64 (-1), .int .u32 0]
  | some (i, ino) => .tuple #[.int .i64 i, .int .u32 ino]
theorem isEmpty_size (s : ByteArray) : s.toList.isEmpty = decide (s.size = 0) := by
  rw [Lib.toList_data, Lib.size_eq]
  cases s.data.toList <;> simp
set_option maxRecDepth 100000 in
set_option maxHeartbeats 8000000 in
theorem pfind_any (HS : St S w0 w L) (bs : List UInt8) (hl : bs.length = 256) (name : ByteArray) :
    Calls Try.prog 13 #[.agg (encB bs), .string name] w fun e w' => e = .returned (findV (findOf bs name)) ∧ St S w0 w' L := by
  have HL := Lib.hid hl
  have hzb : (encB bs).size = 256 := (encB_size _).trans hl
  have HZB := Lib.hid hzb
  have HF : Hid (findOf bs name = match slotsOf bs with
    | none => none
    | some l => if name.size = 0 then none else (idxS l name).map fun i => (i, (l.getD i zSl).1)) := rfl
  generalize findOf bs name = r at HF ⊢
  clear hl hzb
  cases hs : slotsOf bs with
  | none =>
    have HR : Hid (r = none) := by show _ = _; rw [HF.out, hs]
    have HSO := Lib.hid hs
    clear HF hs
    go_enter Try.func13, Try.ntmps13
    go_wp2_with (first | ((with_reducible apply sBox HS); rfl; (conv => (lhs; whnf)); (first | exact cells_agg _ | exact cells_one rfl); intro Bb w' H1; clear HS; have HS := H1; clear H1) | ((with_reducible apply sLoadB HS); infer_instance; rfl; rfl; (repeat (first | exact List.Mem.head _ | apply List.Mem.tail)); exact HZB.out) | (go_at_call 11; refine (list_any HS bs HL.out).mono ?_; rintro e w' H1; rw [HSO.out] at H1; obtain ⟨rfl, H2⟩ := H1; clear HS; have HS := H2; clear H2) | (go_at_call 29; refine (find_nil _ _).mono ?_; rintro e w' ⟨rfl, rfl⟩))
    go_ret2
    exact ⟨by rw [HR.out]; rfl, HS.tail⟩
  | some l =>
    have hll := slotsTo_len hs
    have HLL := Lib.hid hll
    have HSO := Lib.hid hs
    have he := isEmpty_size name
    cases hi : idxS l name with
    | none =>
      have HR : Hid (r = none) := by show _ = _; rw [HF.out, hs]; simp only [hi, Option.map_none, ite_self]
      have HI := Lib.hid hi
      clear HF hs hll hi he
      go_enter Try.func13, Try.ntmps13
      go_wp2_with (first | ((with_reducible apply sBox HS); rfl; (conv => (lhs; whnf)); (first | exact cells_agg _ | exact cells_one rfl); intro Bb w' H1; clear HS; have HS := H1; clear H1) | ((with_reducible apply sLoadB HS); infer_instance; rfl; rfl; (repeat (first | exact List.Mem.head _ | apply List.Mem.tail)); exact HZB.out) | (go_at_call 11; refine (list_any HS bs HL.out).mono ?_; rintro e w' H1; rw [HSO.out] at H1; obtain ⟨g, rfl, H2⟩ := H1; clear HS; have HS := H2; clear H2) | (go_at_call 29; refine (find_any HS (g := g) l (by (repeat (first | exact List.Mem.head _ | apply List.Mem.tail))) HLL.out _).mono ?_; rintro e w' ⟨rfl, H2⟩; clear HS; have HS := H2; clear H2; rw [HI.out]; simp only [idxV]))
      go_ret2
      exact ⟨by rw [HR.out]; rfl, HS.tail.tail⟩
    | some i =>
      obtain ⟨y, hy, _⟩ := idxS_get hi
      obtain ⟨yv, yn⟩ := y
      have hil := (List.getElem?_eq_some_iff.1 hy).1
      have HI := Lib.hid hi
      have hi8 : i < 8 := by omega
      have hi0 : (0 : Int) ≤ (i : Int) := by omega
      have hi8' : (i : Int) < 8 := by omega
      cases hz : decide (name.size = 0)
      · have hz' : ¬ name.size = 0 := of_decide_eq_false hz
        rw [hz] at he
        have hne : ¬ name.toList = [] := fun e => by rw [e] at he; cases he
        have HR : Hid (r = some (i, yv)) := by
          show _ = _; rw [HF.out, hs]; simp only [if_neg hz', hi, Option.map_some]
          rw [List.getD_eq_getElem?_getD, hy]; rfl
        have HP : Hid (∀ j u, [Value.int .u32 yv, .string yn][j]? = some u → (rowS l)[i * 2 + j]? = some u) := rowS_part l i (yv, yn) hy
        have HC : Hid ((rowS l)[i * 2]? = some (.int .u32 yv)) := HP.out 0 _ rfl
        clear HF hs hll hi hil hy hz'
        go_enter Try.func13, Try.ntmps13
        go_wp2_with (first | ((with_reducible apply sBox HS); rfl; (conv => (lhs; whnf)); (first | exact cells_agg _ | exact cells_one rfl); intro Bb w' H1; clear HS; have HS := H1; clear H1) | ((with_reducible apply sLoadB HS); infer_instance; rfl; rfl; (repeat (first | exact List.Mem.head _ | apply List.Mem.tail)); exact HZB.out) | (go_at_call 11; refine (list_any HS bs HL.out).mono ?_; rintro e w' H1; rw [HSO.out] at H1; obtain ⟨g, rfl, H2⟩ := H1; clear HS; have HS := H2; clear H2) | (go_at_call 29; refine (find_any HS (g := g) l (by (repeat (first | exact List.Mem.head _ | apply List.Mem.tail))) HLL.out _).mono ?_; rintro e w' ⟨rfl, H2⟩; clear HS; have HS := H2; clear H2; rw [HI.out]; simp only [idxV]))
        (try simp only [Act.put])
        refine wp_region_quietF (by kernel_rfl) (by kernel_rfl) ?_
        repeat (first | go_big_quiet_skip | (((with_reducible apply qLoad1 HS); infer_instance; rfl; rfl; (repeat (first | exact List.Mem.head _ | apply List.Mem.tail)); exact HC.out); (try simp only [Act.put, List.setIfInBounds_toArray, List.set_cons_zero, List.set_cons_succ])) | (go_big_quiet_want; go_big_quiet_op; first | go_big_quiet_on | (refine ⟨_, fun _ _ => rfl, ?_⟩; go_big_quiet_on) | (apply Exists.intro; refine ⟨fun wc hfr => ?_, ?_⟩; (· fail); go_big_quiet_on)))
        refine wpQuiet_nil ?_
        intro w1 hm1
        replace HS := HS.fresh hm1
        clear hm1
        go_wp2
        go_ret2
        exact ⟨by rw [HR.out]; rfl, HS.tail.tail⟩
      · have HR : Hid (r = none) := by show _ = _; rw [HF.out, hs]; simp only [if_pos (of_decide_eq_true hz)]
        rw [hz] at he
        have hne : name.toList = [] := List.isEmpty_iff.1 he
        clear HF hs hll hi hil hy he
        go_enter Try.func13, Try.ntmps13
        go_wp2_with (first | ((with_reducible apply sBox HS); rfl; (conv => (lhs; whnf)); (first | exact cells_agg _ | exact cells_one rfl); intro Bb w' H1; clear HS; have HS := H1; clear H1) | ((with_reducible apply sLoadB HS); infer_instance; rfl; rfl; (repeat (first | exact List.Mem.head _ | apply List.Mem.tail)); exact HZB.out) | (go_at_call 11; refine (list_any HS bs HL.out).mono ?_; rintro e w' H1; rw [HSO.out] at H1; obtain ⟨g, rfl, H2⟩ := H1; clear HS; have HS := H2; clear H2) | (go_at_call 29; refine (find_any HS (g := g) l (by (repeat (first | exact List.Mem.head _ | apply List.Mem.tail))) HLL.out _).mono ?_; rintro e w' ⟨rfl, H2⟩; clear HS; have HS := H2; clear H2; rw [HI.out]; simp only [idxV]))
        go_ret2
        exact ⟨by rw [HR.out]; rfl, HS.tail.tail⟩
end
end Go.Proofs.Ytdpbdmbgdcdmaaa
