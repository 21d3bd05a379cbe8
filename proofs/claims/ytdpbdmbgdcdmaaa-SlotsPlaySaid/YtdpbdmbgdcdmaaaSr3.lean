/- The reference's slots: a name is looked for; a slot is put; are slots the same. -/
import Derived.Test.YtdpbdmbgdcdmaaaSr2
namespace Go.Proofs.Ytdpbdmbgdcdmaaa
open Go Go.RowKit

def condS (name : ByteArray) (y : Sl) : Bool := decide (0 < y.1) && (y.2 == name)
theorem cond_idx {name : ByteArray} (hn : name.size ≠ 0) {y : Sl} (hy : Fine y) : condS name y = (y.2 == name) := by
  unfold condS
  rcases hy with ⟨h1, h2⟩ | ⟨h1, _, _⟩
  · cases hq : y.2 == name
    · simp
    · have := ba_eq.1 hq
      rw [← this, h2] at hn
      exact absurd (show ByteArray.empty.size = 0 from rfl) hn
  · rw [decide_eq_true h1]; rfl
theorem cond_void {name : ByteArray} (hn : name.size = 0) {y : Sl} (hy : Fine y) : condS name y = false := by
  unfold condS
  rcases hy with ⟨h1, h2⟩ | ⟨_, _, h3⟩
  · rw [h1]; rfl
  · have := (okName_size h3).1
    cases hq : y.2 == name
    · simp
    · have h4 := ba_eq.1 hq
      rw [h4] at this; omega
theorem find_hit {bs : List UInt8} {l : List Sl} (hs : slotsOf bs = some l) {name : ByteArray} {m : Nat} {y : Sl} (hy : l[m]? = some y) (hno : ∀ j z, j < m → l[j]? = some z → condS name z = false) (hc : condS name y = true) : findOf bs name = some (m, y.1) := by
  have hf := (slotsOf_iff.1 hs).rd
  have hne : name.size ≠ 0 := fun h => by rw [cond_void h (rdSlot_fine (hf m y hy))] at hc; cases hc
  unfold findOf
  rw [hs]
  simp only [if_neg hne]
  have hi : idxS l name = some m := idxS_some hy (by
    rw [Bool.eq_false_iff]; intro h
    obtain ⟨z, hz, hq⟩ := List.any_eq_true.1 h
    obtain ⟨j, hj, rfl⟩ := List.getElem_of_mem hz
    rw [List.length_take] at hj
    rw [List.getElem_take] at hq
    have hjl := List.getElem?_eq_getElem (l := l) (i := j) (by omega)
    have := hno j l[j] (by omega) hjl
    rw [cond_idx hne (rdSlot_fine (hf j _ hjl)), hq] at this; cases this) (by rw [← cond_idx hne (rdSlot_fine (hf m y hy))]; exact hc)
  rw [hi, Option.map_some, List.getD_eq_getElem?_getD, hy]; rfl
theorem find_miss {bs : List UInt8} {l : List Sl} (hs : slotsOf bs = some l) {name : ByteArray} (hno : ∀ (j : Nat) z, l[j]? = some z → condS name z = false) : findOf bs name = none := by
  have hf := (slotsOf_iff.1 hs).rd
  unfold findOf
  rw [hs]
  simp only
  split
  · rfl
  · rename_i hne
    rw [idxS_none, Option.map_none]
    rw [Bool.eq_false_iff]; intro h
    obtain ⟨z, hz, hq⟩ := List.any_eq_true.1 h
    obtain ⟨j, hj, rfl⟩ := List.getElem_of_mem hz
    have hjl := List.getElem?_eq_getElem hj
    have := hno j l[j] hjl
    rw [cond_idx hne (rdSlot_fine (hf j _ hjl)), hq] at this; cases this

section
variable {S : Nat → Prop} {w0 w : World} {L : List Ass}
set_option maxRecDepth 100000 in
set_option maxHeartbeats 8000000 in
theorem rfind_any (HS : St S w0 w L) (bs : List UInt8) (hl : bs.length = 256) (name : ByteArray) :
    Calls Try.prog 14 #[.agg (encB bs), .string name] w fun e w' => e = .returned (findV (findOf bs name)) ∧ St S w0 w' L := by
  have HL := Lib.hid hl
  have hzb : (encB bs).size = 256 := (encB_size _).trans hl
  have HZB := Lib.hid hzb
  clear hl hzb
  cases hs : slotsOf bs with
  | none =>
    have HR : Hid (findOf bs name = none) := by show _ = _; unfold findOf; rw [hs]
    have HSO := Lib.hid hs
    clear hs
    go_enter Try.func14, Try.ntmps14
    go_wp2_with (first | ((with_reducible apply sBox HS); rfl; (conv => (lhs; whnf)); (first | exact cells_agg _ | exact cells_one rfl); intro Bb w' H1; clear HS; have HS := H1; clear H1) | ((with_reducible apply sLoadB HS); infer_instance; rfl; rfl; (repeat (first | exact List.Mem.head _ | apply List.Mem.tail)); exact HZB.out) | (go_at_call 10; refine (rlist_any HS bs HL.out).mono ?_; rintro e w' H1; rw [HSO.out] at H1; obtain ⟨rfl, H2⟩ := H1; clear HS; have HS := H2; clear H2))
    refine wp_loop_rounds 1 ?_
    rw [rounds_succ]
    go_wp2
    go_ret2
    exact ⟨by rw [HR.out]; rfl, HS.tail⟩
  | some l =>
    have hll := slotsTo_len hs
    have HLL := Lib.hid hll
    have HSO := Lib.hid hs
    clear hs hll
    go_enter Try.func14, Try.ntmps14
    go_wp2_with (first | ((with_reducible apply sBox HS); rfl; (conv => (lhs; whnf)); (first | exact cells_agg _ | exact cells_one rfl); intro Bb w' H1; clear HS; have HS := H1; clear H1) | ((with_reducible apply sLoadB HS); infer_instance; rfl; rfl; (repeat (first | exact List.Mem.head _ | apply List.Mem.tail)); exact HZB.out) | (go_at_call 10; refine (rlist_any HS bs HL.out).mono ?_; rintro e w' H1; rw [HSO.out] at H1; obtain ⟨g, cap, rfl, H2⟩ := H1; clear HS; have HS := H2; clear H2))
    go_loopw [8] (fun i wr => ∃ m : Nat, m ≤ 8 ∧ i = .int .i64 m ∧ Hid (∀ j z, j < m → l[j]? = some z → condS name z = false) ∧ St S w0 wr (.own (.slice (some ⟨g, 0, none⟩) 8 cap) 33 2 8 (encS l) :: .blk true Bb (encB bs) 23 :: L)) (fun i _ => 8 - (intOf i).toNat)
    case atStart => exact ⟨0, by omega, rfl, fun j z h => by omega, HS⟩
    case round =>
      obtain ⟨m, hm, rfl, HA, HS⟩ := hrel
      by_cases hml : m < 8
      · obtain ⟨y, hy⟩ : ∃ y, l[m]? = some y := ⟨_, List.getElem?_eq_getElem (by have := HLL.out; omega)⟩
        obtain ⟨yv, yn⟩ := y
        have HC0 : Hid ((encS l)[m * 2]? = some (.int .u32 yv)) := encS_part l m (yv, yn) hy 0 _ rfl
        have HC1 : Hid ((encS l)[m * 2 + 1]? = some (.string yn)) := encS_part l m (yv, yn) hy 1 _ rfl
        have HY := Lib.hid hy
        have HQ : Hid ((yn == name) = (yn.toList == name.toList)) := beq_toListBytes yn name
        clear hy
        have HNX : Hid (condS name (yv, yn) = false → ∀ j z, j < m + 1 → l[j]? = some z → condS name z = false) := fun hc j z hj hz => by
          by_cases e : j < m
          · exact HA.out j z e hz
          · obtain rfl : j = m := by omega
            rw [HY.out] at hz; cases hz; exact hc
        cases hp : decide (0 < yv)
        · have HCF : Hid (condS name (yv, yn) = false) := by show (decide (0 < yv) && _) = false; rw [hp]; rfl
          have hp' : ¬ 0 < yv := of_decide_eq_false hp
          go_wp2_with (first | ((with_reducible apply sLoadO1 HS); infer_instance; rfl; rfl; (repeat (first | exact List.Mem.head _ | apply List.Mem.tail)); exact HC0.out) | ((with_reducible apply sLoadO1 HS); infer_instance; rfl; rfl; (repeat (first | exact List.Mem.head _ | apply List.Mem.tail)); exact HC1.out))
          go_roundw
          case rel => exact ⟨m + 1, by omega, by go_num, HNX.out HCF.out, HS⟩
          case measure => simp [intOf]; omega
        · have hp' : 0 < yv := of_decide_eq_true hp
          cases hq : (yn.toList == name.toList)
          · have HCF : Hid (condS name (yv, yn) = false) := by show (decide (0 < yv) && (yn == name)) = false; rw [HQ.out, hq]; simp
            go_wp2_with (first | ((with_reducible apply sLoadO1 HS); infer_instance; rfl; rfl; (repeat (first | exact List.Mem.head _ | apply List.Mem.tail)); exact HC0.out) | ((with_reducible apply sLoadO1 HS); infer_instance; rfl; rfl; (repeat (first | exact List.Mem.head _ | apply List.Mem.tail)); exact HC1.out))
            go_roundw
            case rel => exact ⟨m + 1, by omega, by go_num, HNX.out HCF.out, HS⟩
            case measure => simp [intOf]; omega
          · have HR : Hid (findOf bs name = some (m, yv)) := find_hit HSO.out HY.out HA.out (by show (decide (0 < yv) && (yn == name)) = true; rw [HQ.out, hq, hp]; rfl)
            go_wp2_with (first | ((with_reducible apply sLoadO1 HS); infer_instance; rfl; rfl; (repeat (first | exact List.Mem.head _ | apply List.Mem.tail)); exact HC0.out) | ((with_reducible apply sLoadO1 HS); infer_instance; rfl; rfl; (repeat (first | exact List.Mem.head _ | apply List.Mem.tail)); exact HC1.out))
            (try simp only [Act.put])
            refine wp_region_quietF (by kernel_rfl) (by kernel_rfl) ?_
            repeat (first | go_big_quiet_skip | (((with_reducible apply qLoadO1 HS); infer_instance; rfl; rfl; (repeat (first | exact List.Mem.head _ | apply List.Mem.tail)); exact HC0.out); (try simp only [Act.put, List.setIfInBounds_toArray, List.set_cons_zero, List.set_cons_succ])) | (go_big_quiet_want; go_big_quiet_op; first | go_big_quiet_on | (refine ⟨_, fun _ _ => rfl, ?_⟩; go_big_quiet_on) | (apply Exists.intro; refine ⟨fun wc hfr => ?_, ?_⟩; (· fail); go_big_quiet_on)))
            refine wpQuiet_nil ?_
            intro w1 hm1
            replace HS := HS.fresh hm1
            clear hm1
            go_wp2
            go_ret2
            exact ⟨by rw [HR.out]; rfl, HS.tail.tail⟩
      · obtain rfl : m = 8 := by omega
        have HR : Hid (findOf bs name = none) := find_miss HSO.out (fun j z hz => HA.out j z (by have := (List.getElem?_eq_some_iff.1 hz).1; have := HLL.out; omega) hz)
        go_wp2_with (first | ((with_reducible apply sLoadO1 HS); infer_instance; rfl; rfl; (repeat (first | exact List.Mem.head _ | apply List.Mem.tail)); exact HC0.out) | ((with_reducible apply sLoadO1 HS); infer_instance; rfl; rfl; (repeat (first | exact List.Mem.head _ | apply List.Mem.tail)); exact HC1.out))
        go_ret2
        exact ⟨by rw [HR.out]; rfl, HS.tail.tail⟩

instance : Zero0 Try.prog 23 (.agg (encB Z256)) := ⟨by kernel_rfl⟩
set_option maxRecDepth 100000 in
set_option maxHeartbeats 8000000 in
theorem rput_slot (HS : St S w0 w L) (bs : List UInt8) (hl : bs.length = 256) (i : Nat) (hi : i < 8) (v : Int) (nm : ByteArray) (v0 : 0 ≤ v) (v1 : v < 4294967296) (hn : v = 0 ∨ nm.size ≤ 27) :
    Calls Try.prog 32 #[.agg (encB bs), .int .i64 i, .agg #[.int .u32 v, .string nm]] w fun e w' => e = .returned (.agg (encB (setSlot bs i (v, nm)))) ∧ St S w0 w' L := by
  have HL := Lib.hid hl
  have hzb : (encB bs).size = 256 := (encB_size _).trans hl
  have HZB := Lib.hid hzb
  have z256 : (encB Z256).size = 256 := (encB_size _).trans Z256_len
  have hpl := slotBytes_len (x := (v, nm)) hn
  have HPL := Lib.hid hpl
  have HSS : Hid (setB bs (32 * i) (slotBytes (v, nm)) = setSlot bs i (v, nm)) := rfl
  have HSL : Hid ((setSlot bs i (v, nm)).length = 256) := by show (setB _ _ _).length = _; rw [setB_len _ _ _ (by rw [hpl]; omega), hl]
  clear hl hzb hpl z256
  go_enter Try.func32, Try.ntmps32
  go_wp2_with (first | ((with_reducible apply sBox (T := 23) HS); rfl; (conv => (lhs; whnf)); (first | exact cells_agg _ | exact cells_one rfl); intro Bb w' H1; clear HS; have HS := H1; clear H1) | ((with_reducible apply sBox (T := 33) HS); rfl; (conv => (lhs; whnf)); (first | exact cells_agg _ | exact cells_one rfl); intro X w' H1; clear HS; have HS := H1; clear H1) | ((with_reducible apply sAlloc HS); infer_instance; (first | exact cells_agg _ | exact cells_one rfl); rfl; intro R w' H1; clear HS; have HS := H1; clear H1) | ((with_reducible apply sLoadB HS); infer_instance; rfl; rfl; (repeat (first | exact List.Mem.head _ | apply List.Mem.tail)); rfl) | (go_at_call 26; refine (rbytes_any HS v nm v0 v1 hn).mono ?_; rintro e w' ⟨gb, rfl, H1⟩; clear HS; have HS := H1; clear H1))
  generalize slotBytes (v, nm) = p at HPL HSS HS
  go_loopw [8] (fun j wr => ∃ m : Nat, m ≤ 32 ∧ j = .int .i64 m ∧ St S w0 wr (.blk true gb (encB p) 5 :: .blk true R (encB Z256) 23 :: .blk true X #[.int .u32 v, .string nm] 33 :: .blk true Bb (encB (setB bs (32 * i) (p.take m))) 23 :: L)) (fun j _ => 32 - (intOf j).toNat)
  case atStart => exact ⟨0, by omega, rfl, by rw [List.take_zero]; unfold setB; simpa using HS⟩
  case round =>
    obtain ⟨m, hm, rfl, HS⟩ := hrel
    by_cases hml : m < 32
    · have hmp : m < p.length := by rw [HPL.out]; exact hml
      have HPC : Hid ((encB p)[m]? = some (.int .u8 (gB p m))) := encB_gB p m hmp
      have HTL : Hid ((p.take m).length = m) := by show _ = _; rw [List.length_take]; omega
      have HT : Hid (p.take (m + 1) = p.take m ++ [p[m]]) := by show _ = _; rw [List.take_add_one, List.getElem?_eq_getElem hmp]; rfl
      have HB1 : Hid ((setB bs (32 * i) (p.take m)).length = 256) := by show _ = _; rw [setB_len _ _ _ (by rw [HTL.out, HL.out]; omega), HL.out]
      have HSB : Hid ((encB (setB bs (32 * i) (p.take m))).setIfInBounds (32 * i + m) (.int .u8 (gB p m)) = encB (setB bs (32 * i) (p.take (m + 1)))) := by
        show _ = _
        rw [HT.out, ← setB_snoc _ _ _ _ (by rw [HTL.out, HL.out]; omega), HTL.out]
        unfold encB
        have : gB p m = (p[m].toNat : Int) := by unfold gB; rw [List.getD_eq_getElem?_getD, List.getElem?_eq_getElem hmp]; rfl
        rw [this]
        simp [List.map_set, bv]
      clear HT hmp
      generalize setB bs (32 * i) (p.take m) = b1 at HS HB1 HSB
      have hi0 : (0 : Int) ≤ (i : Int) := by omega
      have hi8 : (i : Int) < 8 := by omega
      go_wp2_with (first | ((with_reducible apply sLoad1 HS); infer_instance; rfl; rfl; (repeat (first | exact List.Mem.head _ | apply List.Mem.tail)); exact HPC.out) | ((with_reducible apply sStore1 HS); infer_instance; rfl; rfl; (conv => (lhs; whnf)); (repeat (first | exact Rep.here | apply Rep.there)); (rw [encB_size, HB1.out]; omega); rfl; intro w' H1; clear HS; have HS := H1; clear H1; rw [HSB.out] at HS))
      go_roundw
      case rel => exact ⟨m + 1, by omega, by go_num, HS⟩
      case measure => simp [intOf]; omega
    · obtain rfl : m = 32 := by omega
      rw [List.take_of_length_le (by rw [HPL.out]; exact Nat.le_refl _), HSS.out] at HS
      have HSZ : Hid ((encB (setSlot bs i (v, nm))).size = 256) := (encB_size _).trans HSL.out
      go_wp2_with (first | ((with_reducible apply sLoadB HS); infer_instance; rfl; rfl; (repeat (first | exact List.Mem.head _ | apply List.Mem.tail)); exact HSZ.out) | ((with_reducible apply sStoreB HS); infer_instance; rfl; rfl; (conv => (lhs; whnf)); (repeat (first | exact Rep.here | apply Rep.there)); exact HSZ.out; exact (encB_size _).trans Z256_len; exact encB_one _; intro w' H1; clear HS; have HS := H1; clear H1))
      refine bodyPost_ret (res1 rfl (resCell (n := 256) HS rfl (by (repeat (first | exact List.Mem.head _ | apply List.Mem.tail))) HSZ.out)) rfl ⟨rfl, HS.tail.tail.tail.tail⟩
end
end Go.Proofs.Ytdpbdmbgdcdmaaa
