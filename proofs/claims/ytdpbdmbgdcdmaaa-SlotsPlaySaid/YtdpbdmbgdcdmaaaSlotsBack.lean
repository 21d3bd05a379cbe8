/- A name that is added and removed leaves the block as it was; what is added is found, and leaves all others where they are. -/
import Derived.Test.YtdpbdmbgdcdmaaaSaw
namespace Go.Proofs.Ytdpbdmbgdcdmaaa.slotsBack
open Go Go.RowKit Go.ChangeShapes Go.WideShapes Go.ChangeAt

theorem own : ownKnob Try.prog.godebug = none := by kernel_rfl
theorem laidOut : laidOutB Try.prog = true := by kernel_rfl

theorem u32_wf {n : Int} (h : (Lit.int .u32 n).wf = true) : 0 ≤ n ∧ n < 4294967296 := by
  simp [Lit.wf] at h
  have h1 : IntKind.u32.min = 0 := rfl
  have h2 : IntKind.u32.max = 4294967295 := rfl
  omega
theorem set_back {bs : List UInt8} (hl : bs.length = 256) {i : Nat} (hi : i < 8) (hr : rdSlot bs (32 * i) = some zSl) {x : Sl} (hx : Fine x) : setSlot (setSlot bs i x) i zSl = bs := by
  have hz := (allZ_iff _ _ _).1 (free_zero hr)
  have hz0 : Fine zSl := .inl ⟨rfl, rfl⟩
  have h1 := setSlot_len hl hi hx
  apply gB_ext (by rw [setSlot_len h1 hi hz0, hl])
  intro k hk
  rw [gB_setSlot h1 hi hz0, gB_setSlot hl hi hx]
  split
  · rw [slotBytes_zero, gB_rep]
    have := hz (k - 32 * i) (by omega)
    rw [show 32 * i + (k - 32 * i) = k by omega] at this
    exact this.symm
  · rfl
theorem row_range {w' : World} {g : Nat} {l : List Sl} (hl : l.length = 8) (hb : w'.heap[g]? = some (.cells (rowS l) 33 (0, 0))) : w'.rangeAt g 0 (encS l) := by
  intro j v hj
  rw [Nat.zero_add, cell_of_row _ _ _ _ _ _ hb, rowS_full l hl, List.getElem?_toArray]
  exact hj
/-- What Add does to a block of slots. -/
theorem add_cases {bs : List UInt8} (hl : bs.length = 256) {l : List Sl} (h : slotsOf bs = some l) (name : ByteArray) (ino : Int) (i0 : 0 ≤ ino) (i1 : ino < 4294967296) :
    addOf bs name ino = (bs, 2) ∨ addOf bs name ino = (bs, 4) ∨
    (okName name = true ∧ 0 < ino ∧ idxS l name = none ∧ ∃ i, idxS l ByteArray.empty = some i ∧ addOf bs name ino = (setSlot bs i (ino, name), 0) ∧ slotsOf (setSlot bs i (ino, name)) = some (l.set i (ino, name))) := by
  by_cases hc : okName name = false ∨ ino = 0 ∨ (idxS l name).isSome = true
  · left
    unfold addOf; rw [h]; simp only; rw [if_pos hc]
  · right
    have hok : okName name = true := by
      cases h : okName name
      · exact absurd (.inl h) hc
      · rfl
    have h0 : 0 < ino := by
      have : ino ≠ 0 := fun h => hc (.inr (.inl h))
      omega
    have hno : idxS l name = none := by
      cases h : idxS l name with
      | none => rfl
      | some k => exact absurd (.inr (.inr (by rw [h]; rfl))) hc
    cases hv : idxS l ByteArray.empty with
    | none =>
      left
      unfold addOf; rw [h]; simp only; rw [if_neg hc, hv]
    | some i =>
      right
      obtain ⟨e1, e2⟩ := addOf_done hl h hok h0 i1 hno hv
      exact ⟨hok, h0, hno, i, rfl, e1, e2⟩
theorem find_done {l : List Sl} {name : ByteArray} {ino : Int} (hok : okName name = true) (hno : idxS l name = none) {i : Nat} (hi : i < l.length) {bs' : List UInt8} (h' : slotsOf bs' = some (l.set i (ino, name))) : findOf bs' name = some (i, ino) ∧ idxS (l.set i (ino, name)) name = some i := by
  have hix : idxS (l.set i (ino, name)) name = some i := by
    refine idxS_some (y := (ino, name)) (by rw [List.getElem?_set_self hi]) ?_ (beq_self_eq_true _)
    rw [Bool.eq_false_iff]; intro ha
    obtain ⟨z, hz, hq⟩ := List.any_eq_true.1 ha
    obtain ⟨j, hj, rfl⟩ := List.getElem_of_mem hz
    rw [List.length_take, List.length_set] at hj
    rw [List.getElem_take, List.getElem_set_ne (by omega)] at hq
    unfold idxS at hno
    rw [List.findIdx?_eq_none_iff] at hno
    have := hno l[j] (List.getElem_mem (by omega))
    rw [hq] at this; cases this
  refine ⟨?_, hix⟩
  have hs := (okName_size hok).1
  unfold findOf
  rw [h']
  simp only
  rw [if_neg (by omega), hix, Option.map_some, List.getD_eq_getElem?_getD, List.getElem?_set_self hi]; rfl

set_option maxRecDepth 100000 in
set_option maxHeartbeats 20000000 in
theorem walk (bs : List UInt8) (hl : bs.length = 256) (name : ByteArray) (hn : name.size ≤ maxLen) (ino : Int) (i0 : 0 ≤ ino) (i1 : ino < 4294967296) (w : World) :
    Calls Try.prog 6 #[.agg (encB bs), .string name, .int .u32 ino] w fun e w' => e = .returned (.bool true) ∧ Below w.heap.size w w' := by
  have HS := St.nil none' w
  have HL := Lib.hid hl
  have hzb : (encB bs).size = 256 := (encB_size _).trans hl
  have HZB := Lib.hid hzb
  have HNM := Lib.hid hn
  have z256 : Hid ((encB Z256).size = 256) := (encB_size _).trans Z256_len
  unfold maxLen at hn
  by_cases hlong : 20000 < name.size
  · have hI : (20000 : Int) < (name.size : Int) := by omega
    clear hl hzb
    go_enter Try.func6, Try.ntmps6
    go_wp2_with (first | (go_at_call 21; refine (aw.awake_any _).mono ?_; rintro e w' ⟨rfl, H1⟩; replace HS := HS.fresh H1; clear H1) | ((with_reducible apply sBox HS); rfl; (conv => (lhs; whnf)); (first | exact cells_agg _ | exact cells_one rfl); intro Bb w' H1; clear HS; have HS := H1; clear H1))
    go_ret
    exact ⟨rfl, HS.below⟩
  have hI : ¬ (20000 : Int) < (name.size : Int) := by omega
  clear hlong hl hzb
  have HEQ : Hid ((bs == bs) = true) := beq_self_eq_true _
  cases hs : slotsOf bs with
  | none =>
    have HSO := Lib.hid hs
    have HA : Hid (addOf bs name ino = (bs, 80)) := by show _ = _; unfold addOf; rw [hs]
    clear hs
    go_enter Try.func6, Try.ntmps6
    go_wp2_with (first | (go_at_call 21; refine (aw.awake_any _).mono ?_; rintro e w' ⟨rfl, H1⟩; replace HS := HS.fresh H1; clear H1) | ((with_reducible apply sBox HS); rfl; (conv => (lhs; whnf)); (first | exact cells_agg _ | exact cells_one rfl); intro Bb w' H1; clear HS; have HS := H1; clear H1) | ((with_reducible apply sLoadB HS); infer_instance; rfl; rfl; (repeat (first | exact List.Mem.head _ | apply List.Mem.tail)); (first | exact HZB.out | exact HLZ.out)) | (go_at_call 11; refine (list_any HS bs HL.out).mono ?_; rintro e w' H1; rw [HSO.out] at H1; obtain ⟨rfl, H2⟩ := H1; clear HS; have HS := H2; clear H2) | ((with_reducible apply sAlloc HS); infer_instance; (first | exact cells_agg _ | exact cells_one rfl); rfl; intro C w' H1; clear HS; have HS := H1; clear H1) | ((with_reducible apply sStoreB HS); infer_instance; rfl; rfl; (conv => (lhs; whnf)); (repeat (first | exact Rep.here | apply Rep.there)); exact HZB.out; exact z256.out; exact encB_one _; intro w' H1; clear HS; have HS := H1; clear H1) | (go_at_call 17; refine (add_any bs HS HL.out name HNM.out ino i0 i1).mono ?_; rintro e w' ⟨rfl, H2⟩; clear HS; have HS := H2; clear H2; rw [HA.out] at HS ⊢) | ((with_reducible apply sEqB blkT); rfl; rfl; rfl; exact HL.out; exact HL.out; rw [HEQ.out]))
    go_ret
    exact ⟨rfl, HS.below⟩
  | some l =>
    have HLL := Lib.hid (slotsTo_len hs)
    have HSO := Lib.hid hs
    have hcases := add_cases HL.out hs name ino i0 i1
    clear hs
    rcases hcases with hA | hA | ⟨hok, hpos, hno, at_, hat, hA, hs2⟩
    · have HA := Lib.hid hA
      clear hA
      go_enter Try.func6, Try.ntmps6
      go_wp2_with (first | (go_at_call 21; refine (aw.awake_any _).mono ?_; rintro e w' ⟨rfl, H1⟩; replace HS := HS.fresh H1; clear H1) | ((with_reducible apply sBox HS); rfl; (conv => (lhs; whnf)); (first | exact cells_agg _ | exact cells_one rfl); intro Bb w' H1; clear HS; have HS := H1; clear H1) | ((with_reducible apply sLoadB HS); infer_instance; rfl; rfl; (repeat (first | exact List.Mem.head _ | apply List.Mem.tail)); (first | exact HZB.out | exact HLZ.out)) | (go_at_call 11; refine (list_any HS bs HL.out).mono ?_; rintro e w' H1; rw [HSO.out] at H1; obtain ⟨g1, rfl, H2⟩ := H1; clear HS; have HS := H2; clear H2) | ((with_reducible apply sAlloc HS); infer_instance; (first | exact cells_agg _ | exact cells_one rfl); rfl; intro C w' H1; clear HS; have HS := H1; clear H1) | ((with_reducible apply sStoreB HS); infer_instance; rfl; rfl; (conv => (lhs; whnf)); (repeat (first | exact Rep.here | apply Rep.there)); exact HZB.out; exact z256.out; exact encB_one _; intro w' H1; clear HS; have HS := H1; clear H1) | (go_at_call 17; refine (add_any bs HS HL.out name HNM.out ino i0 i1).mono ?_; rintro e w' ⟨rfl, H2⟩; clear HS; have HS := H2; clear H2; rw [HA.out] at HS ⊢) | ((with_reducible apply sEqB blkT); rfl; rfl; rfl; exact HL.out; exact HL.out; rw [HEQ.out]))
      go_ret
      exact ⟨rfl, HS.below⟩
    · have HA := Lib.hid hA
      clear hA
      go_enter Try.func6, Try.ntmps6
      go_wp2_with (first | (go_at_call 21; refine (aw.awake_any _).mono ?_; rintro e w' ⟨rfl, H1⟩; replace HS := HS.fresh H1; clear H1) | ((with_reducible apply sBox HS); rfl; (conv => (lhs; whnf)); (first | exact cells_agg _ | exact cells_one rfl); intro Bb w' H1; clear HS; have HS := H1; clear H1) | ((with_reducible apply sLoadB HS); infer_instance; rfl; rfl; (repeat (first | exact List.Mem.head _ | apply List.Mem.tail)); (first | exact HZB.out | exact HLZ.out)) | (go_at_call 11; refine (list_any HS bs HL.out).mono ?_; rintro e w' H1; rw [HSO.out] at H1; obtain ⟨g1, rfl, H2⟩ := H1; clear HS; have HS := H2; clear H2) | ((with_reducible apply sAlloc HS); infer_instance; (first | exact cells_agg _ | exact cells_one rfl); rfl; intro C w' H1; clear HS; have HS := H1; clear H1) | ((with_reducible apply sStoreB HS); infer_instance; rfl; rfl; (conv => (lhs; whnf)); (repeat (first | exact Rep.here | apply Rep.there)); exact HZB.out; exact z256.out; exact encB_one _; intro w' H1; clear HS; have HS := H1; clear H1) | (go_at_call 17; refine (add_any bs HS HL.out name HNM.out ino i0 i1).mono ?_; rintro e w' ⟨rfl, H2⟩; clear HS; have HS := H2; clear H2; rw [HA.out] at HS ⊢) | ((with_reducible apply sEqB blkT); rfl; rfl; rfl; exact HL.out; exact HL.out; rw [HEQ.out]))
      go_ret
      exact ⟨rfl, HS.below⟩
    · obtain ⟨h8, hat0, hrd⟩ := idxS_void HSO.out hat
      have HFX : Hid (Fine (ino, name)) := .inr ⟨hpos, i1, hok⟩
      have HA := Lib.hid hA
      obtain ⟨hf, hix⟩ := find_done (ino := ino) hok hno (by rw [HLL.out]; exact h8) hs2
      have HF := Lib.hid hf
      have HBK := Lib.hid (set_back HL.out h8 hrd HFX.out)
      have HRM : Hid (remOf (setSlot bs at_ (ino, name)) name = (bs, true)) := by
        show _ = _
        rw [remOf_set, hf]
        simp only
        rw [HBK.out]
      have HRN : Hid (remOf bs name = (bs, false)) := by
        show _ = _
        rw [remOf_set]
        have hs := (okName_size hok).1
        have : findOf bs name = none := by unfold findOf; rw [HSO.out]; simp only; rw [if_neg (by omega), hno]; rfl
        rw [this]
      have HS2 := Lib.hid hs2
      have HLC := Lib.hid (setSlot_len HL.out h8 HFX.out)
      have HLZ : Hid ((encB (setSlot bs at_ (ino, name))).size = 256) := (encB_size _).trans HLC.out
      have HL2 : Hid ((l.set at_ (ino, name)).length = 8) := by show _ = _; rw [List.length_set]; exact HLL.out
      have HSET : Hid (∀ k x, k ≠ at_ → l[k]? = some x → (l.set at_ (ino, name))[k]? = some x) := fun k x hk hx => by rw [List.getElem?_set_ne (fun e => hk e.symm)]; exact hx
      have HAT : Hid (l[at_]? = some zSl) := hat0
      have HFULL : Hid (∀ (k : Nat) (x : Sl), k < at_ → l[k]? = some x → (x.1 == 0) = false) := fun k x hk hx => by
        have hfx := rdSlot_fine ((slotsOf_iff.1 HSO.out).rd k x hx)
        rw [← void_iff hfx]
        have h := hat
        unfold idxS at h
        rw [List.findIdx?_eq_some_iff_getElem] at h
        obtain ⟨_, _, h3⟩ := h
        have h4 := h3 k hk
        have h5 := (List.getElem?_eq_some_iff.1 hx).2
        rw [h5] at h4
        simpa using h4
      have HC0 : Hid ((rowS l)[at_ * 2]? = some (.int .u32 0)) := rowS_part l at_ zSl hat0 0 _ rfl
      generalize setSlot bs at_ (ino, name) = c1 at HA HF HBK HRM HS2 HLC HLZ
      generalize l.set at_ (ino, name) = l2 at HS2 HL2 HSET
      have hat8 : (at_ : Int) < 8 := by omega
      have hat1 : (0 : Int) ≤ (at_ : Int) := by omega
      clear hok hno hat hA hs2 hat0 hrd hf hix
      go_enter Try.func6, Try.ntmps6
      go_wp2_with (first | (go_at_call 21; refine (aw.awake_any _).mono ?_; rintro e w' ⟨rfl, H1⟩; replace HS := HS.fresh H1; clear H1) | ((with_reducible apply sBox HS); rfl; (conv => (lhs; whnf)); (first | exact cells_agg _ | exact cells_one rfl); intro Bb w' H1; clear HS; have HS := H1; clear H1) | ((with_reducible apply sLoadB HS); infer_instance; rfl; rfl; (repeat (first | exact List.Mem.head _ | apply List.Mem.tail)); (first | exact HZB.out | exact HLZ.out)) | (go_at_call 11; (first | ((with_reducible refine (list_any HS bs HL.out).mono ?_); rintro e w' H1; rw [HSO.out] at H1; obtain ⟨g1, rfl, H2⟩ := H1) | ((with_reducible refine (list_any HS c1 HLC.out).mono ?_); rintro e w' H1; rw [HS2.out] at H1; obtain ⟨g2, rfl, H2⟩ := H1)); clear HS; have HS := H2; clear H2) | ((with_reducible apply sAlloc HS); infer_instance; (first | exact cells_agg _ | exact cells_one rfl); rfl; intro C w' H1; clear HS; have HS := H1; clear H1) | ((with_reducible apply sStoreB HS); infer_instance; rfl; rfl; (conv => (lhs; whnf)); (repeat (first | exact Rep.here | apply Rep.there)); exact HZB.out; exact z256.out; exact encB_one _; intro w' H1; clear HS; have HS := H1; clear H1) | (go_at_call 17; refine (add_any bs HS HL.out name HNM.out ino i0 i1).mono ?_; rintro e w' ⟨rfl, H2⟩; clear HS; have HS := H2; clear H2; rw [HA.out] at HS ⊢) | (go_at_call 13; refine (pfind_any HS c1 HLC.out name).mono ?_; rintro e w' ⟨rfl, H2⟩; clear HS; have HS := H2; clear H2; rw [HF.out]; simp only [findV]) | ((with_reducible apply sLoad1 HS); infer_instance; rfl; rfl; (repeat (first | exact List.Mem.head _ | apply List.Mem.tail)); exact HC0.out))
      go_loopw [15] (fun i wr => ∃ k : Nat, k ≤ 8 ∧ i = .int .i64 k ∧ St none' w wr [.blk true g2 (rowS l2) 33, .blk true C (encB c1) 23, .blk true g1 (rowS l) 33, .blk true Bb (encB bs) 23]) (fun i _ => 8 - (intOf i).toNat)
      case atStart => exact ⟨0, by omega, rfl, HS⟩
      case round =>
        obtain ⟨k, hk, rfl, HS⟩ := hrel
        by_cases hk8 : k < 8
        · obtain ⟨x, hx⟩ : ∃ x, l[k]? = some x := ⟨_, List.getElem?_eq_getElem (by have := HLL.out; omega)⟩
          by_cases hka : k = at_
          · subst hka
            have n1 : ((k : Int) != (k : Int)) = false := by simp
            have n2 : decide ((k : Int) < (k : Int)) = false := decide_eq_false (by omega)
            go_wp2
            (try simp only [Act.put])
            refine wp_region_quietF (by kernel_rfl) (by kernel_rfl) ?_
            repeat (first | go_big_quiet_skip | (go_big_quiet_want; go_big_quiet_op; first | go_big_quiet_on | (refine ⟨_, fun _ _ => rfl, ?_⟩; go_big_quiet_on) | (apply Exists.intro; refine ⟨fun wc hfr => ?_, ?_⟩; (· fail); go_big_quiet_on)))
            refine wpQuiet_nil ?_
            intro w1 hm1
            replace HS := HS.fresh hm1
            clear hm1
            go_wp2
            go_roundw
            case rel => exact ⟨k + 1, by omega, by go_num, HS⟩
            case measure => simp [intOf]; omega
          · have HQ1 : Hid (wr.rangeAt g1 0 (encS l)) := row_range HLL.out (HS.blk (rw := true) (by (repeat (first | exact List.Mem.head _ | apply List.Mem.tail))))
            have HQ2 : Hid (wr.rangeAt g2 0 (encS l2)) := row_range HL2.out (HS.blk (rw := true) (by (repeat (first | exact List.Mem.head _ | apply List.Mem.tail))))
            have HP1 := Lib.hid (sl_parts l k x hx)
            have HP2 := Lib.hid (sl_parts l2 k x (HSET.out k x hka hx))
            have HCK : Hid ((rowS l)[k * 2]? = some (.int .u32 x.1)) := rowS_part l k x hx 0 _ rfl
            have HQV : Hid ((!((x.1 == x.1) && (x.2 == x.2))) = false) := by show _ = _; simp
            have n1 : ((k : Int) != (at_ : Int)) = true := by simp; omega
            by_cases hlt : k < at_
            · have hx0 := HFULL.out k x hlt hx
              have n2 : decide ((k : Int) < (at_ : Int)) = true := decide_eq_true (by omega)
              clear hx
              go_wp2
              (try simp only [Act.put])
              refine wp_region_quietF (by kernel_rfl) (by kernel_rfl) ?_
              repeat (first | go_big_quiet_skip | (((with_reducible refine qLoadR (n := 2) (o := 0) (i := k * 2) (B := g1) ?_ HQ1.out ?_ ?_ HP1.out ?_ ?_); infer_instance; rfl; (first | (rw [Nat.zero_add]; done) | (rw [Nat.zero_add]; rfl)); rfl); (try simp only [Act.put, List.setIfInBounds_toArray, List.set_cons_zero, List.set_cons_succ])) | (((with_reducible refine qLoadR (n := 2) (o := 0) (i := k * 2) (B := g2) ?_ HQ2.out ?_ ?_ HP2.out ?_ ?_); infer_instance; rfl; (first | (rw [Nat.zero_add]; done) | (rw [Nat.zero_add]; rfl)); rfl); (try simp only [Act.put, List.setIfInBounds_toArray, List.set_cons_zero, List.set_cons_succ])) | (((with_reducible apply qLoad1 HS); infer_instance; rfl; rfl; (repeat (first | exact List.Mem.head _ | apply List.Mem.tail)); exact HCK.out); (try simp only [Act.put, List.setIfInBounds_toArray, List.set_cons_zero, List.set_cons_succ])) | (((with_reducible apply qVal (valNe2 slot_two u32As strAs rfl rfl)); rfl; rw [HQV.out]); (try simp only [Act.put, List.setIfInBounds_toArray, List.set_cons_zero, List.set_cons_succ])) | (go_big_quiet_want; go_big_quiet_op; first | go_big_quiet_on | (refine ⟨_, fun _ _ => rfl, ?_⟩; go_big_quiet_on) | (apply Exists.intro; refine ⟨fun wc hfr => ?_, ?_⟩; (· fail); go_big_quiet_on)))
              refine wpQuiet_nil ?_
              intro w1 hm1
              replace HS := HS.fresh hm1
              clear hm1
              go_wp2
              go_roundw
              case rel => exact ⟨k + 1, by omega, by go_num, HS⟩
              case measure => simp [intOf]; omega
            · have n2 : decide ((k : Int) < (at_ : Int)) = false := decide_eq_false (by omega)
              clear hx
              go_wp2
              (try simp only [Act.put])
              refine wp_region_quietF (by kernel_rfl) (by kernel_rfl) ?_
              repeat (first | go_big_quiet_skip | (((with_reducible refine qLoadR (n := 2) (o := 0) (i := k * 2) (B := g1) ?_ HQ1.out ?_ ?_ HP1.out ?_ ?_); infer_instance; rfl; (first | (rw [Nat.zero_add]; done) | (rw [Nat.zero_add]; rfl)); rfl); (try simp only [Act.put, List.setIfInBounds_toArray, List.set_cons_zero, List.set_cons_succ])) | (((with_reducible refine qLoadR (n := 2) (o := 0) (i := k * 2) (B := g2) ?_ HQ2.out ?_ ?_ HP2.out ?_ ?_); infer_instance; rfl; (first | (rw [Nat.zero_add]; done) | (rw [Nat.zero_add]; rfl)); rfl); (try simp only [Act.put, List.setIfInBounds_toArray, List.set_cons_zero, List.set_cons_succ])) | (((with_reducible apply qLoad1 HS); infer_instance; rfl; rfl; (repeat (first | exact List.Mem.head _ | apply List.Mem.tail)); exact HCK.out); (try simp only [Act.put, List.setIfInBounds_toArray, List.set_cons_zero, List.set_cons_succ])) | (((with_reducible apply qVal (valNe2 slot_two u32As strAs rfl rfl)); rfl; rw [HQV.out]); (try simp only [Act.put, List.setIfInBounds_toArray, List.set_cons_zero, List.set_cons_succ])) | (go_big_quiet_want; go_big_quiet_op; first | go_big_quiet_on | (refine ⟨_, fun _ _ => rfl, ?_⟩; go_big_quiet_on) | (apply Exists.intro; refine ⟨fun wc hfr => ?_, ?_⟩; (· fail); go_big_quiet_on)))
              refine wpQuiet_nil ?_
              intro w1 hm1
              replace HS := HS.fresh hm1
              clear hm1
              go_wp2
              go_roundw
              case rel => exact ⟨k + 1, by omega, by go_num, HS⟩
              case measure => simp [intOf]; omega
        · obtain rfl : k = 8 := by omega
          replace HS := HS.pick (A := .blk true C (encB c1) 23) (by (repeat (first | exact Pick.here | apply Pick.there)))
          go_wp2_with (first | (go_at_call 19; (with_reducible refine (rem_any c1 HS HLC.out name).mono ?_); rintro e w' ⟨rfl, H2⟩; clear HS; have HS := H2; clear H2; rw [HRM.out] at HS ⊢) | ((with_reducible apply sLoadB HS); infer_instance; rfl; rfl; (repeat (first | exact List.Mem.head _ | apply List.Mem.tail)); (first | exact HZB.out | exact HLZ.out)) | ((with_reducible apply sEqB blkT); rfl; rfl; rfl; exact HL.out; exact HL.out; rw [HEQ.out]))
          refine (rem_any bs HS HL.out name).mono ?_
          rintro e w' ⟨rfl, H2⟩
          clear HS; have HS := H2; clear H2
          rw [HRN.out] at HS ⊢
          go_wp2
          go_ret
          exact ⟨rfl, HS.below⟩

set_option maxRecDepth 100000 in
theorem lifted (os : Os) (started : os.Started) (H : Type) (enc : TypeId × Value → H) :
    ReturnsInHanded {} Try.checked os 6 .any (Rows.slotsBackSpec.pre6 enc Try.prog Try.f6 Rows.slotsBackRow.domain false) (Rows.slotsBackSpec.post enc Try.prog Try.f6 false true false false) := by
  refine law_lift (C := Try.checked) own started (by kernel_rfl) Try.func6 laidOut rfl Try.underlying4 rfl ?hs (by kernel_rfl)
    (ChangeSpec.witness6 (enc := enc) (C := Try.checked) false ⟨#[], #[.agg (encB Z256), .string ByteArray.empty, .int .u32 0], []⟩ 8 (by kernel_rfl) (by kernel_rfl) (by kernel_rfl) (by kernel_rfl)) ?hwalk
  case hs =>
    intro ds h
    match ds, h with
    | [d0, d1, d2], _ => rfl
  case hwalk =>
    intro W args hn ha
    obtain ⟨l⟩ := args
    match l, hn with
    | [v0, v1, v2], _ =>
      obtain ⟨bs, hl, rfl⟩ := blk_arg (ha 0 _ _ rfl rfl)
      obtain ⟨name, rfl, hn⟩ := (ha 1 _ _ rfl rfl).string Try.underlying9
      obtain ⟨ino, rfl, hi⟩ := (ha 2 _ _ rfl rfl).int Try.underlying31
      exact walk bs hl name hn ino (u32_wf hi).1 (u32_wf hi).2 W

theorem over : Rows.slotsBackRow.holds Try.pinned (OpenSpec.ofChange Rows.slotsBackSpec) :=
  OpenClaim.holds_of_wide 6 Try.f6 rfl rfl rfl rfl rfl rfl rfl ⟨rfl, rfl, rfl, rfl, rfl⟩ rfl rfl rfl rfl rfl (by kernel_rfl) Try.func6 (by kernel_rfl)
    (of_decide_eq_true (by kernel_rfl)) (by unfold Func.isWrapper; first | (rw [if_pos (by decide +kernel)]; kernel_rfl) | (rw [if_neg (by decide +kernel)]; exact ⟨rfl, rfl⟩))
    (fun os started H enc _ => lifted os started H enc)

theorem proved : Rows.SlotsBackSaid := over
#print axioms proved
end Go.Proofs.Ytdpbdmbgdcdmaaa.slotsBack
