/- The reference's slots: a block's. -/
import Derived.Test.YtdpbdmbgdcdmaaaSr
namespace Go.Proofs.Ytdpbdmbgdcdmaaa
open Go Go.RowKit

def same32 (bs : List UInt8) (o : Nat) (x : Sl) : Bool := ((slotBytes x).drop 0).take 32 == (bs.drop o).take 32
theorem cand {bs : List UInt8} {o : Nat} (hl : o + 32 ≤ bs.length) {x : Sl} (hx : Fine x) (hy : ∀ y, rdSlot bs o = some y → y = x) : rdSlot bs o = if same32 bs o x then some x else none := by
  have hb := slotBytes_len (fine_size hx)
  unfold same32
  rw [List.drop_zero, List.take_of_length_le (by omega)]
  split
  · rename_i h
    have h := beq_iff_eq.1 h
    rw [rdSlot_eq (bs' := slotBytes x) (o' := 0) hl (by omega) (fun k hk => by rw [h, Nat.zero_add, gB_take, if_pos hk, gB_drop])]
    exact rdSlot_bytes hx
  · rename_i h
    cases hr : rdSlot bs o with
    | none => rfl
    | some y =>
      have := hy y hr
      subst this
      have hk := rdSlot_back hl hr
      exfalso; apply h
      rw [beq_iff_eq]
      apply gB_ext
      · rw [hb, List.length_take, List.length_drop]; omega
      · intro k hk2
        rw [hb] at hk2
        rw [gB_take, if_pos hk2, gB_drop]; exact hk k hk2
theorem cand0 {bs : List UInt8} {o : Nat} (hl : o + 32 ≤ bs.length) (h0 : get32 bs o = 0) : rdSlot bs o = if same32 bs o zSl then some zSl else none :=
  cand hl (.inl ⟨rfl, rfl⟩) fun y hy => by
    unfold rdSlot at hy
    rw [if_pos h0] at hy
    split at hy
    · exact (Option.some.inj hy).symm
    · cases hy
theorem cand1 {bs : List UInt8} {o n : Nat} (hl : o + 32 ≤ bs.length) (h0 : get32 bs o ≠ 0) (hn : gB bs (o + 4) = n) (hok : okName (strB bs (o + 5) n) = true) : rdSlot bs o = if same32 bs o (get32 bs o, strB bs (o + 5) n) then some (get32 bs o, strB bs (o + 5) n) else none := by
  obtain ⟨v0, v1⟩ := get32_bd bs o
  refine cand hl (.inr ⟨by simp only; omega, v1, hok⟩) fun y hy => ?_
  unfold rdSlot at hy
  rw [if_neg h0, hn, Int.toNat_natCast] at hy
  split at hy
  · exact (Option.some.inj hy).symm
  · cases hy
theorem cand2 {bs : List UInt8} {o n : Nat} (h0 : get32 bs o ≠ 0) (hn : gB bs (o + 4) = n) (hno : n ≤ 27 → okName (strB bs (o + 5) n) = false) : rdSlot bs o = none := by
  unfold rdSlot
  rw [if_neg h0, hn, Int.toNat_natCast, if_neg]
  rintro ⟨h1, h2, _⟩
  rw [hno h1] at h2; cases h2
theorem okName_empty : okName ByteArray.empty = false := by decide
theorem encS_part (l : List Sl) (i : Nat) (x : Sl) (h : l[i]? = some x) : ∀ j v, (slV x)[j]? = some v → (encS l)[i * 2 + j]? = some v := flat_part slV 2 l (slV_len l) i x h
theorem encS_snoc (l : List Sl) (x : Sl) : encS l ++ slV x = encS (l ++ [x]) := (flat_snoc slV l x).symm
theorem encS_one (l : List Sl) : ∀ v ∈ encS l, v.oneCell' = true := by
  intro v hv
  obtain ⟨x, _, hx⟩ := List.mem_flatMap.1 hv
  simp [slV] at hx
  rcases hx with rfl | rfl <;> rfl

theorem slice_blk (k : Nat) (hk : k < 8) (B : Nat) (w : World) : (Instr.sliceAt 23 (.pointer (some ⟨B, 0, none⟩)) (some (.int .i64 (32 * (k : Int)))) (some (.int .i64 (32 * (k : Int) + 32))) none).run Try.prog w = .ok (.slice (some ⟨B, 32 * k, none⟩) 32 (256 - 32 * k)) w := by
  have hal : Try.prog.arrayLen 23 = 256 := by kernel_rfl
  have hs : (Go.sizeOf (Try.prog.elem 23)).run Try.prog w = .ok 1 w := by
    have : Try.prog.elem 23 = 5 := by kernel_rfl
    rw [this]
    exact Try.sizeOf5 w
  rw [run_sliceAt_array_lh w 23 ⟨B, 0, none⟩ (by kernel_rfl) .i64 .i64 _ _ (by omega) (by omega) (by rw [hal]; omega), hs]
  simp only [Result.andThen_ok, slicedAt, hal, Nat.mul_one]
  rw [show (32 * (k : Int)).toNat = 32 * k by omega, show (32 * (k : Int) + 32).toNat = 32 * k + 32 by omega, if_neg (by omega), add_off, Nat.zero_add]
  rw [show 32 * k + 32 - 32 * k = 32 by omega]
/-- What the reference's List hands back. -/
def RListP (S : Nat → Prop) (w0 w' : World) (L : List Ass) (e : Ending) : Option (List Sl) → Prop
  | none => e = .returned (.tuple #[.slice none 0 0, .int .i64 80]) ∧ St S w0 w' L
  | some l => ∃ g cap, e = .returned (.tuple #[.slice (some ⟨g, 0, none⟩) 8 cap, .int .i64 0]) ∧ St S w0 w' (.own (.slice (some ⟨g, 0, none⟩) 8 cap) 33 2 8 (encS l) :: L)

section
variable {S : Nat → Prop} {w0 w : World} {L : List Ass}
set_option maxRecDepth 100000 in
set_option maxHeartbeats 16000000 in
theorem rlist_any (HS : St S w0 w L) (bs : List UInt8) (hl : bs.length = 256) :
    Calls Try.prog 10 #[.agg (encB bs)] w fun e w' => RListP S w0 w' L e (slotsOf bs) := by
  have HL := Lib.hid hl
  have hl2 : 256 ≤ bs.length := by omega
  have HO : Hid (∀ i, i ≤ 8 → slotsTo bs i = none → slotsOf bs = none) := fun i => slotsOf_none
  have HO8 : Hid (∀ l, slotsTo bs 8 = some l → slotsOf bs = some l) := fun l h => h
  clear hl
  generalize slotsOf bs = r at HO HO8 ⊢
  go_enter Try.func10, Try.ntmps10
  go_wp2_with ((with_reducible apply sBox HS); rfl; (conv => (lhs; whnf)); (first | exact cells_agg _ | exact cells_one rfl); intro Bb w' H1; clear HS; have HS := H1; clear H1)
  replace HS := HS.ownNil 33 2
  go_loopw [4, 5] (fun v i wr => ∃ (k : Nat) (l : List Sl), k ≤ 8 ∧ i = .int .i64 k ∧ Hid (slotsTo bs k = some l) ∧ St S w0 wr (.own v 33 2 k (encS l) :: .blk true Bb (encB bs) 23 :: L)) (fun _ i _ => 8 - (intOf i).toNat)
  case atStart => exact ⟨0, [], by omega, rfl, rfl, HS⟩
  case round =>
    obtain ⟨k, l, hk, rfl, HT, HS⟩ := hrel
    have hlen := slotsTo_len HT.out
    have HLN := Lib.hid hlen
    clear hlen
    by_cases hlt : k < 8
    · have hsl := fun W => slice_blk k hlt Bb W
      obtain ⟨ino, hino⟩ : ∃ v, get32 bs (32 * k) = v := ⟨_, rfl⟩
      obtain ⟨n, hn⟩ : ∃ n : Nat, gB bs (32 * k + 4) = n := ⟨(gB bs (32 * k + 4)).toNat, by have := gB_bd bs (32 * k + 4); omega⟩
      have hnb : n < 256 := by have := gB_bd bs (32 * k + 4); omega
      obtain ⟨v0, v1⟩ : 0 ≤ ino ∧ ino < 4294967296 := by rw [← hino]; exact get32_bd bs (32 * k)
      have HI := Lib.hid hino
      have HN := Lib.hid hn
      have HNONE : Hid (rdSlot bs (32 * k) = none → r = none) := fun h => HO.out (k + 1) (by omega) (by rw [slotsTo_succ HT.out]; unfold slotStep; rw [h])
      clear hn
      cases hz : (ino == 0)
      · have hz' := beq_eq_false_iff_ne.1 hz
        have hpos : (0 : Int) < ino := by omega
        have HZ : Hid (get32 bs (32 * k) ≠ 0) := by show _ ≠ _; rw [hino]; exact hz'
        clear hino hz hz'
        by_cases h27 : n ≤ 27
        · have HRM := Lib.hid (fun W => rmay_any (strB bs (32 * k + 5) n) W (by rw [strB_size _ _ _ (by omega)]; unfold maxLen; omega))
          have HNS : Hid ((strB bs (32 * k + 5) n).size ≤ 27) := by show _ ≤ _; rw [strB_size _ _ _ (by omega)]; exact h27
          cases hok : okName (strB bs (32 * k + 5) n)
          · have HR := Lib.hid (HNONE.out (cand2 HZ.out HN.out (fun _ => hok)))
            rw [hok] at HRM
            clear hok
            go_wp2_with (first | (go_at_call 24; refine (rget_int Bb (32 * k) 32 _ 0 _ rfl bs 23 _ (HS.blk (by (repeat (first | exact List.Mem.head _ | apply List.Mem.tail)))) (by omega) (by omega) (by omega)).mono ?_; rintro e w' ⟨rfl, H1⟩; replace HS := HS.fresh H1; clear H1; rw [Nat.add_zero, HI.out]) | (go_at_call 16; refine (HRM.out _).mono ?_; rintro e w' ⟨rfl, rfl⟩) | ((with_reducible apply sAlloc HS); infer_instance; (first | exact cells_agg _ | exact cells_one rfl); rfl; intro X w' H1; clear HS; have HS := H1; clear H1) | ((with_reducible apply sStoreB HS); infer_instance; rfl; rfl; (conv => (lhs; whnf)); (repeat (first | exact Rep.here | apply Rep.there)); rfl; rfl; exact (by intro u hu; simp at hu; rcases hu with rfl | rfl <;> rfl); intro w' H1; clear HS; have HS := H1; clear H1) | (have hrow := HS.blk (rw := true) (B := Bb) (cs := encB bs) (t := 23) (by (repeat (first | exact List.Mem.head _ | apply List.Mem.tail))); (with_reducible apply sByte hrow); infer_instance; rfl; rfl; omega; clear hrow; rw [HN.out]) | (have hrow := HS.blk (rw := true) (B := Bb) (cs := encB bs) (t := 23) (by (repeat (first | exact List.Mem.head _ | apply List.Mem.tail))); (with_reducible apply sText hrow Try.underlying58 Try.underlying5 Try.underlying9); rfl; rfl; omega; clear hrow) | ((with_reducible apply sStore1 HS); infer_instance; rfl; rfl; (conv => (lhs; whnf)); (repeat (first | exact Rep.here | apply Rep.there)); exact of_decide_eq_true rfl; (first | rfl | exact HS.ownOne (by (repeat (first | exact List.Mem.head _ | apply List.Mem.tail)))); intro w' H1; clear HS; have HS := H1; clear H1; simp only [List.setIfInBounds_toArray, List.set_cons_zero, List.set_cons_succ] at HS) | ((with_reducible apply sLoad1 HS); infer_instance; rfl; rfl; (repeat (first | exact List.Mem.head _ | apply List.Mem.tail)); rfl))
            refine bodyPost_ret (res2 rfl (resTmp _ _ _) (resTmp _ _ _)) rfl ?_
            rw [HR.out]
            exact ⟨rfl, HS.tail.tail.tail⟩
          · have HC := Lib.hid (cand1 (by omega) HZ.out HN.out hok)
            rw [HI.out] at HC
            rw [hok] at HRM
            clear hok
            obtain ⟨nm, hnm⟩ : ∃ nm, strB bs (32 * k + 5) n = nm := ⟨_, rfl⟩
            rw [hnm] at HRM HNS HC
            have HNM := Lib.hid hnm
            clear hnm
            cases hs : same32 bs (32 * k) (ino, nm)
            · have HR : Hid (r = none) := HNONE.out (by rw [HC.out, hs]; rfl)
              have HSA := Lib.hid hs
              clear hs
              go_wp2_with (first | (go_at_call 24; refine (rget_int Bb (32 * k) 32 _ 0 _ rfl bs 23 _ (HS.blk (by (repeat (first | exact List.Mem.head _ | apply List.Mem.tail)))) (by omega) (by omega) (by omega)).mono ?_; rintro e w' ⟨rfl, H1⟩; replace HS := HS.fresh H1; clear H1; rw [Nat.add_zero, HI.out]) | (go_at_call 16; refine (HRM.out _).mono ?_; rintro e w' ⟨rfl, rfl⟩) | (go_at_call 26; refine (rbytes_any HS ino nm v0 v1 (.inr HNS.out)).mono ?_; rintro e w' ⟨gb, rfl, H1⟩; clear HS; have HS := H1; clear H1) | (go_at_call 25; refine (rsame_any HS (slotBytes (ino, nm)) bs (.head _) (by (repeat (first | exact List.Mem.head _ | apply List.Mem.tail))) (by rw [slotBytes_len (.inr HNS.out)]; omega) (by omega) (by omega) (by omega)).mono ?_; rintro e w' ⟨rfl, H1⟩; clear HS; have HS := H1; clear H1; rw [show (((slotBytes (ino, nm)).drop 0).take 32 == (bs.drop (32 * k)).take 32) = _ from HSA.out]) | ((with_reducible apply sAlloc HS); infer_instance; (first | exact cells_agg _ | exact cells_one rfl); rfl; intro X w' H1; clear HS; have HS := H1; clear H1) | ((with_reducible apply sStoreB HS); infer_instance; rfl; rfl; (conv => (lhs; whnf)); (repeat (first | exact Rep.here | apply Rep.there)); rfl; rfl; exact (by intro u hu; simp at hu; rcases hu with rfl | rfl <;> rfl); intro w' H1; clear HS; have HS := H1; clear H1) | (have hrow := HS.blk (rw := true) (B := Bb) (cs := encB bs) (t := 23) (by (repeat (first | exact List.Mem.head _ | apply List.Mem.tail))); (with_reducible apply sByte hrow); infer_instance; rfl; rfl; omega; clear hrow; rw [HN.out]) | (have hrow := HS.blk (rw := true) (B := Bb) (cs := encB bs) (t := 23) (by (repeat (first | exact List.Mem.head _ | apply List.Mem.tail))); (with_reducible apply sTextE hrow Try.underlying58 Try.underlying5 Try.underlying9); rfl; rfl; omega; exact (congrArg (strB bs (32 * k + 5)) (show 5 + n - 5 = n by omega)).trans HNM.out; clear hrow) | ((with_reducible apply sStore1 HS); infer_instance; rfl; rfl; (conv => (lhs; whnf)); (repeat (first | exact Rep.here | apply Rep.there)); exact of_decide_eq_true rfl; (first | rfl | exact HS.ownOne (by (repeat (first | exact List.Mem.head _ | apply List.Mem.tail)))); intro w' H1; clear HS; have HS := H1; clear H1; simp only [List.setIfInBounds_toArray, List.set_cons_zero, List.set_cons_succ] at HS) | ((with_reducible apply sLoad1 HS); infer_instance; rfl; rfl; (repeat (first | exact List.Mem.head _ | apply List.Mem.tail)); rfl) | ((with_reducible apply sLoadB HS); infer_instance; rfl; rfl; (repeat (first | exact List.Mem.head _ | apply List.Mem.tail)); rfl))
              refine bodyPost_ret (res2 rfl (resTmp _ _ _) (resTmp _ _ _)) rfl ?_
              rw [HR.out]
              exact ⟨rfl, HS.tail.tail.tail.tail⟩
            · have HRD : Hid (rdSlot bs (32 * k) = some (ino, nm)) := by show _ = _; rw [HC.out, hs]; rfl
              have HSA := Lib.hid hs
              have HV0 : Hid (ino ≠ 0) := by show _ ≠ _; omega
              clear hs HC
              go_wp2_with (first | (go_at_call 24; refine (rget_int Bb (32 * k) 32 _ 0 _ rfl bs 23 _ (HS.blk (by (repeat (first | exact List.Mem.head _ | apply List.Mem.tail)))) (by omega) (by omega) (by omega)).mono ?_; rintro e w' ⟨rfl, H1⟩; replace HS := HS.fresh H1; clear H1; rw [Nat.add_zero, HI.out]) | (go_at_call 16; refine (HRM.out _).mono ?_; rintro e w' ⟨rfl, rfl⟩) | (go_at_call 26; refine (rbytes_any HS ino nm v0 v1 (.inr HNS.out)).mono ?_; rintro e w' ⟨gb, rfl, H1⟩; clear HS; have HS := H1; clear H1) | (go_at_call 25; refine (rsame_any HS (slotBytes (ino, nm)) bs (.head _) (by (repeat (first | exact List.Mem.head _ | apply List.Mem.tail))) (by rw [slotBytes_len (.inr HNS.out)]; omega) (by omega) (by omega) (by omega)).mono ?_; rintro e w' ⟨rfl, H1⟩; clear HS; have HS := H1; clear H1; rw [show (((slotBytes (ino, nm)).drop 0).take 32 == (bs.drop (32 * k)).take 32) = _ from HSA.out]) | ((with_reducible apply sAlloc HS); infer_instance; (first | exact cells_agg _ | exact cells_one rfl); rfl; intro X w' H1; clear HS; have HS := H1; clear H1) | ((with_reducible apply sStoreB HS); infer_instance; rfl; rfl; (conv => (lhs; whnf)); (repeat (first | exact Rep.here | apply Rep.there)); rfl; rfl; exact (by intro u hu; simp at hu; rcases hu with rfl | rfl <;> rfl); intro w' H1; clear HS; have HS := H1; clear H1) | (have hrow := HS.blk (rw := true) (B := Bb) (cs := encB bs) (t := 23) (by (repeat (first | exact List.Mem.head _ | apply List.Mem.tail))); (with_reducible apply sByte hrow); infer_instance; rfl; rfl; omega; clear hrow; rw [HN.out]) | (have hrow := HS.blk (rw := true) (B := Bb) (cs := encB bs) (t := 23) (by (repeat (first | exact List.Mem.head _ | apply List.Mem.tail))); (with_reducible apply sTextE hrow Try.underlying58 Try.underlying5 Try.underlying9); rfl; rfl; omega; exact (congrArg (strB bs (32 * k + 5)) (show 5 + n - 5 = n by omega)).trans HNM.out; clear hrow) | ((with_reducible apply sStore1 HS); infer_instance; rfl; rfl; (conv => (lhs; whnf)); (repeat (first | exact Rep.here | apply Rep.there)); exact of_decide_eq_true rfl; (first | rfl | exact HS.ownOne (by (repeat (first | exact List.Mem.head _ | apply List.Mem.tail)))); intro w' H1; clear HS; have HS := H1; clear H1; simp only [List.setIfInBounds_toArray, List.set_cons_zero, List.set_cons_succ] at HS) | ((with_reducible apply sLoad1 HS); infer_instance; rfl; rfl; (repeat (first | exact List.Mem.head _ | apply List.Mem.tail)); rfl) | ((with_reducible apply sLoadB HS); infer_instance; rfl; rfl; (repeat (first | exact List.Mem.head _ | apply List.Mem.tail)); rfl))
              replace HS := HS.tail
              go_loopw [11] (fun j wr => ∃ m : Nat, m ≤ k ∧ j = .int .i64 m ∧ Hid ((ino : Int) ≠ 0 → (l.take m).any (fun y => y.2 == nm) = false) ∧ St S w0 wr (.blk true X #[.int .u32 ino, .string nm] 33 :: .own u4 33 2 k (encS l) :: .blk true Bb (encB bs) 23 :: L)) (fun j _ => k - (intOf j).toNat)
              case atStart => exact ⟨0, by omega, rfl, fun _ => rfl, HS⟩
              case round =>
                obtain ⟨m, hm, rfl, HA, HS⟩ := hrel
                by_cases hml : m < k
                · obtain ⟨g, cap, hu4, hc1, hc2⟩ := own_row (HS.own (.tail _ (.head _))) (by omega)
                  subst hu4
                  obtain ⟨y, hy⟩ : ∃ y, l[m]? = some y := ⟨_, List.getElem?_eq_getElem (by have := HLN.out; omega)⟩
                  obtain ⟨yv, yn⟩ := y
                  have HCY : Hid ((encS l)[m * 2 + 1]? = some (.string yn)) := encS_part l m (yv, yn) hy 1 _ rfl
                  have HY := Lib.hid hy
                  have HQ : Hid ((yn == nm) = (yn.toList == nm.toList)) := beq_toListBytes yn nm
                  clear hy
                  cases hq : (yn.toList == nm.toList)
                  · have HQF : Hid ((yn == nm) = false) := HQ.out.trans hq
                    go_wp2_with (first | ((with_reducible apply sLoad1 HS); infer_instance; rfl; rfl; (repeat (first | exact List.Mem.head _ | apply List.Mem.tail)); rfl) | ((with_reducible apply sLoadB HS); infer_instance; rfl; rfl; (repeat (first | exact List.Mem.head _ | apply List.Mem.tail)); rfl))
                    (try simp only [Act.put])
                    refine wp_region_quietF (by kernel_rfl) (by kernel_rfl) ?_
                    repeat (first | go_big_quiet_skip | (((with_reducible apply qLoadO1 HS); infer_instance; rfl; rfl; (repeat (first | exact List.Mem.head _ | apply List.Mem.tail)); exact HCY.out); (try simp only [Act.put, List.setIfInBounds_toArray, List.set_cons_zero, List.set_cons_succ])) | (((with_reducible apply qLoad1 HS); infer_instance; rfl; rfl; (repeat (first | exact List.Mem.head _ | apply List.Mem.tail)); rfl); (try simp only [Act.put, List.setIfInBounds_toArray, List.set_cons_zero, List.set_cons_succ])) | (go_big_quiet_want; go_big_quiet_op; first | go_big_quiet_on | (refine ⟨_, fun _ _ => rfl, ?_⟩; go_big_quiet_on) | (apply Exists.intro; refine ⟨fun wc hfr => ?_, ?_⟩; (· fail); go_big_quiet_on)))
                    refine wpQuiet_nil ?_
                    intro w1 hm1
                    replace HS := HS.fresh hm1
                    clear hm1
                    go_wp2
                    go_roundw
                    case rel =>
                      refine ⟨m + 1, by omega, by go_num, fun h => ?_, HS⟩
                      rw [List.take_add_one, HY.out, Option.toList_some, List.any_append, HA.out h]
                      simp only [List.any_cons, List.any_nil, HQF.out, Bool.or_false]
                    case measure => simp [intOf]; omega
                  · have HQF : Hid ((yn == nm) = true) := HQ.out.trans hq
                    have HR : Hid (r = none) := HO.out (k + 1) (by omega) (by
                      rw [slotsTo_succ HT.out]; unfold slotStep; rw [HRD.out]
                      simp only
                      rw [if_pos ⟨HV0.out, List.any_eq_true.2 ⟨(yv, yn), List.mem_of_getElem? HY.out, HQF.out⟩⟩])
                    go_wp2_with (first | ((with_reducible apply sLoad1 HS); infer_instance; rfl; rfl; (repeat (first | exact List.Mem.head _ | apply List.Mem.tail)); rfl) | ((with_reducible apply sLoadB HS); infer_instance; rfl; rfl; (repeat (first | exact List.Mem.head _ | apply List.Mem.tail)); rfl))
                    (try simp only [Act.put])
                    refine wp_region_quietF (by kernel_rfl) (by kernel_rfl) ?_
                    repeat (first | go_big_quiet_skip | (((with_reducible apply qLoadO1 HS); infer_instance; rfl; rfl; (repeat (first | exact List.Mem.head _ | apply List.Mem.tail)); exact HCY.out); (try simp only [Act.put, List.setIfInBounds_toArray, List.set_cons_zero, List.set_cons_succ])) | (((with_reducible apply qLoad1 HS); infer_instance; rfl; rfl; (repeat (first | exact List.Mem.head _ | apply List.Mem.tail)); rfl); (try simp only [Act.put, List.setIfInBounds_toArray, List.set_cons_zero, List.set_cons_succ])) | (go_big_quiet_want; go_big_quiet_op; first | go_big_quiet_on | (refine ⟨_, fun _ _ => rfl, ?_⟩; go_big_quiet_on) | (apply Exists.intro; refine ⟨fun wc hfr => ?_, ?_⟩; (· fail); go_big_quiet_on)))
                    refine wpQuiet_nil ?_
                    intro w1 hm1
                    replace HS := HS.fresh hm1
                    clear hm1
                    go_wp2
                    refine bodyPost_ret (res2 rfl (resTmp _ _ _) (resTmp _ _ _)) rfl ?_
                    rw [HR.out]
                    exact ⟨rfl, HS.tail.tail.tail⟩
                · obtain rfl : m = k := by omega
                  have HNX : Hid (slotsTo bs (m + 1) = some (l ++ [(ino, nm)])) := by
                    show _ = _
                    rw [slotsTo_succ HT.out]; unfold slotStep; rw [HRD.out]
                    simp only
                    rw [if_neg (fun h => ?_)]
                    have h2 := HA.out h.1
                    rw [List.take_of_length_le (by have := HLN.out; omega)] at h2
                    rw [h2] at h
                    exact absurd h.2 (by decide)
                  go_wp2_with (first | ((with_reducible apply sLoadB HS); infer_instance; rfl; rfl; (repeat (first | exact List.Mem.head _ | apply List.Mem.tail)); rfl) | (at_builtin; (have H2 := HS.alloc #[.int .u32 ino, .string nm] 33); (with_reducible apply sAppend H2 Try.underlying24 infoS rfl (by decide)); (conv => (lhs; whnf)); (intro v'; (repeat (first | exact Rep.here | apply Rep.there))); rfl; rotate_left; exact H2.newsAll (.head _); rotate_right; rfl; (intro u hu; simp at hu; rcases hu with rfl | rfl <;> rfl); decide; omega; intro v1 w' H1 hnil; clear HS H2; have HS := H1; clear H1 hnil))
                  rw [show encS l ++ [Value.int .u32 ino, .string nm] = encS (l ++ [(ino, nm)]) from encS_snoc l (ino, nm)] at HS
                  go_roundw
                  case rel => exact ⟨m + 1, l ++ [(ino, nm)], by omega, by go_num, HNX.out, HS.tail.tail⟩
                  case measure => simp [intOf]; omega
        · have HR := Lib.hid (HNONE.out (cand2 HZ.out HN.out (fun h => absurd h h27)))
          have HRE := Lib.hid (fun W => rmay_any ByteArray.empty W (by decide))
          rw [okName_empty] at HRE
          have h27' : decide ((n : Int) ≤ 27) = false := decide_eq_false (by omega)
          clear h27
          go_wp2_with (first | (go_at_call 24; refine (rget_int Bb (32 * k) 32 _ 0 _ rfl bs 23 _ (HS.blk (by (repeat (first | exact List.Mem.head _ | apply List.Mem.tail)))) (by omega) (by omega) (by omega)).mono ?_; rintro e w' ⟨rfl, H1⟩; replace HS := HS.fresh H1; clear H1; rw [Nat.add_zero, HI.out]) | (go_at_call 16; refine (HRE.out _).mono ?_; rintro e w' ⟨rfl, rfl⟩) | ((with_reducible apply sAlloc HS); infer_instance; (first | exact cells_agg _ | exact cells_one rfl); rfl; intro X w' H1; clear HS; have HS := H1; clear H1) | ((with_reducible apply sStoreB HS); infer_instance; rfl; rfl; (conv => (lhs; whnf)); (repeat (first | exact Rep.here | apply Rep.there)); rfl; rfl; exact (by intro u hu; simp at hu; rcases hu with rfl | rfl <;> rfl); intro w' H1; clear HS; have HS := H1; clear H1) | (have hrow := HS.blk (rw := true) (B := Bb) (cs := encB bs) (t := 23) (by (repeat (first | exact List.Mem.head _ | apply List.Mem.tail))); (with_reducible apply sByte hrow); infer_instance; rfl; rfl; omega; clear hrow; rw [HN.out]) | (have hrow := HS.blk (rw := true) (B := Bb) (cs := encB bs) (t := 23) (by (repeat (first | exact List.Mem.head _ | apply List.Mem.tail))); (with_reducible apply sText hrow Try.underlying58 Try.underlying5 Try.underlying9); rfl; rfl; omega; clear hrow) | ((with_reducible apply sStore1 HS); infer_instance; rfl; rfl; (conv => (lhs; whnf)); (repeat (first | exact Rep.here | apply Rep.there)); exact of_decide_eq_true rfl; (first | rfl | exact HS.ownOne (by (repeat (first | exact List.Mem.head _ | apply List.Mem.tail)))); intro w' H1; clear HS; have HS := H1; clear H1; simp only [List.setIfInBounds_toArray, List.set_cons_zero, List.set_cons_succ] at HS) | ((with_reducible apply sLoad1 HS); infer_instance; rfl; rfl; (repeat (first | exact List.Mem.head _ | apply List.Mem.tail)); rfl))
          refine bodyPost_ret (res2 rfl (resTmp _ _ _) (resTmp _ _ _)) rfl ?_
          rw [HR.out]
          exact ⟨rfl, HS.tail.tail.tail⟩
      · have hz' := beq_iff_eq.1 hz
        subst hz'
        have HC := Lib.hid (cand0 (by omega) hino)
        clear hino hz
        cases hs : same32 bs (32 * k) zSl
        · have HR : Hid (r = none) := HNONE.out (by rw [HC.out, hs]; rfl)
          have HSA := Lib.hid hs
          clear hs
          go_wp2_with (first | (go_at_call 24; refine (rget_int Bb (32 * k) 32 _ 0 _ rfl bs 23 _ (HS.blk (by (repeat (first | exact List.Mem.head _ | apply List.Mem.tail)))) (by omega) (by omega) (by omega)).mono ?_; rintro e w' ⟨rfl, H1⟩; replace HS := HS.fresh H1; clear H1; rw [Nat.add_zero, HI.out]) | (go_at_call 26; refine (rbytes_any HS 0 ByteArray.empty (by omega) (by omega) (.inl rfl)).mono ?_; rintro e w' ⟨gb, rfl, H1⟩; clear HS; have HS := H1; clear H1) | (go_at_call 25; refine (rsame_any HS (slotBytes zSl) bs (.head _) (by (repeat (first | exact List.Mem.head _ | apply List.Mem.tail))) (by rw [slotBytes_len (.inl rfl)]; omega) (by omega) (by omega) (by omega)).mono ?_; rintro e w' ⟨rfl, H1⟩; clear HS; have HS := H1; clear H1; rw [show (((slotBytes zSl).drop 0).take 32 == (bs.drop (32 * k)).take 32) = _ from HSA.out]) | ((with_reducible apply sAlloc HS); infer_instance; (first | exact cells_agg _ | exact cells_one rfl); rfl; intro X w' H1; clear HS; have HS := H1; clear H1) | ((with_reducible apply sStoreB HS); infer_instance; rfl; rfl; (conv => (lhs; whnf)); (repeat (first | exact Rep.here | apply Rep.there)); rfl; rfl; exact (by intro u hu; simp at hu; rcases hu with rfl | rfl <;> rfl); intro w' H1; clear HS; have HS := H1; clear H1) | (have hrow := HS.blk (rw := true) (B := Bb) (cs := encB bs) (t := 23) (by (repeat (first | exact List.Mem.head _ | apply List.Mem.tail))); (with_reducible apply sByte hrow); infer_instance; rfl; rfl; omega; clear hrow; rw [HN.out]) | ((with_reducible apply sLoad1 HS); infer_instance; rfl; rfl; (repeat (first | exact List.Mem.head _ | apply List.Mem.tail)); rfl) | ((with_reducible apply sLoadB HS); infer_instance; rfl; rfl; (repeat (first | exact List.Mem.head _ | apply List.Mem.tail)); rfl))
          refine bodyPost_ret (res2 rfl (resTmp _ _ _) (resTmp _ _ _)) rfl ?_
          rw [HR.out]
          exact ⟨rfl, HS.tail.tail.tail.tail⟩
        · have HRD : Hid (rdSlot bs (32 * k) = some zSl) := by show _ = _; rw [HC.out, hs]; rfl
          have HSA := Lib.hid hs
          clear hs HC
          go_wp2_with (first | (go_at_call 24; refine (rget_int Bb (32 * k) 32 _ 0 _ rfl bs 23 _ (HS.blk (by (repeat (first | exact List.Mem.head _ | apply List.Mem.tail)))) (by omega) (by omega) (by omega)).mono ?_; rintro e w' ⟨rfl, H1⟩; replace HS := HS.fresh H1; clear H1; rw [Nat.add_zero, HI.out]) | (go_at_call 26; refine (rbytes_any HS 0 ByteArray.empty (by omega) (by omega) (.inl rfl)).mono ?_; rintro e w' ⟨gb, rfl, H1⟩; clear HS; have HS := H1; clear H1) | (go_at_call 25; refine (rsame_any HS (slotBytes zSl) bs (.head _) (by (repeat (first | exact List.Mem.head _ | apply List.Mem.tail))) (by rw [slotBytes_len (.inl rfl)]; omega) (by omega) (by omega) (by omega)).mono ?_; rintro e w' ⟨rfl, H1⟩; clear HS; have HS := H1; clear H1; rw [show (((slotBytes zSl).drop 0).take 32 == (bs.drop (32 * k)).take 32) = _ from HSA.out]) | ((with_reducible apply sAlloc HS); infer_instance; (first | exact cells_agg _ | exact cells_one rfl); rfl; intro X w' H1; clear HS; have HS := H1; clear H1) | ((with_reducible apply sStoreB HS); infer_instance; rfl; rfl; (conv => (lhs; whnf)); (repeat (first | exact Rep.here | apply Rep.there)); rfl; rfl; exact (by intro u hu; simp at hu; rcases hu with rfl | rfl <;> rfl); intro w' H1; clear HS; have HS := H1; clear H1) | (have hrow := HS.blk (rw := true) (B := Bb) (cs := encB bs) (t := 23) (by (repeat (first | exact List.Mem.head _ | apply List.Mem.tail))); (with_reducible apply sByte hrow); infer_instance; rfl; rfl; omega; clear hrow; rw [HN.out]) | ((with_reducible apply sLoad1 HS); infer_instance; rfl; rfl; (repeat (first | exact List.Mem.head _ | apply List.Mem.tail)); rfl) | ((with_reducible apply sLoadB HS); infer_instance; rfl; rfl; (repeat (first | exact List.Mem.head _ | apply List.Mem.tail)); rfl))
          replace HS := HS.tail
          go_loopw [11] (fun j wr => ∃ m : Nat, m ≤ k ∧ j = .int .i64 m ∧ Hid ((0 : Int) ≠ 0 → (l.take m).any (fun y => y.2 == ByteArray.empty) = false) ∧ St S w0 wr (.blk true X #[.int .u32 0, .string ByteArray.empty] 33 :: .own u4 33 2 k (encS l) :: .blk true Bb (encB bs) 23 :: L)) (fun j _ => k - (intOf j).toNat)
          case atStart => exact ⟨0, by omega, rfl, fun _ => rfl, HS⟩
          case round =>
            obtain ⟨m, hm, rfl, HA, HS⟩ := hrel
            by_cases hml : m < k
            · obtain ⟨g, cap, hu4, hc1, hc2⟩ := own_row (HS.own (.tail _ (.head _))) (by omega)
              subst hu4
              go_wp2_with (first | ((with_reducible apply sLoad1 HS); infer_instance; rfl; rfl; (repeat (first | exact List.Mem.head _ | apply List.Mem.tail)); rfl) | ((with_reducible apply sLoadB HS); infer_instance; rfl; rfl; (repeat (first | exact List.Mem.head _ | apply List.Mem.tail)); rfl))
              (try simp only [Act.put])
              refine wp_region_quietF (by kernel_rfl) (by kernel_rfl) ?_
              repeat (first | go_big_quiet_skip | (go_big_quiet_want; go_big_quiet_op; first | go_big_quiet_on | (refine ⟨_, fun _ _ => rfl, ?_⟩; go_big_quiet_on) | (apply Exists.intro; refine ⟨fun wc hfr => ?_, ?_⟩; (· fail); go_big_quiet_on)))
              refine wpQuiet_nil ?_
              intro w1 hm1
              replace HS := HS.fresh hm1
              clear hm1
              go_wp2
              go_roundw
              case rel => exact ⟨m + 1, by omega, by go_num, fun h => absurd rfl h, HS⟩
              case measure => simp [intOf]; omega
            · obtain rfl : m = k := by omega
              have HNX : Hid (slotsTo bs (m + 1) = some (l ++ [(0, ByteArray.empty)])) := by
                show _ = _
                rw [slotsTo_succ HT.out]; unfold slotStep; rw [HRD.out]
                simp only
                rw [if_neg (fun h => ?_)]
                have h2 := HA.out h.1
                rw [List.take_of_length_le (by have := HLN.out; omega)] at h2
                rw [h2] at h
                exact absurd h.2 (by decide)
              go_wp2_with (first | ((with_reducible apply sLoadB HS); infer_instance; rfl; rfl; (repeat (first | exact List.Mem.head _ | apply List.Mem.tail)); rfl) | (at_builtin; (have H2 := HS.alloc #[.int .u32 0, .string ByteArray.empty] 33); (with_reducible apply sAppend H2 Try.underlying24 infoS rfl (by decide)); (conv => (lhs; whnf)); (intro v'; (repeat (first | exact Rep.here | apply Rep.there))); rfl; rotate_left; exact H2.newsAll (.head _); rotate_right; rfl; (intro u hu; simp at hu; rcases hu with rfl | rfl <;> rfl); decide; omega; intro v1 w' H1 hnil; clear HS H2; have HS := H1; clear H1 hnil))
              rw [show encS l ++ [Value.int .u32 0, .string ByteArray.empty] = encS (l ++ [(0, ByteArray.empty)]) from encS_snoc l (0, ByteArray.empty)] at HS
              go_roundw
              case rel => exact ⟨m + 1, l ++ [(0, ByteArray.empty)], by omega, by go_num, HNX.out, HS.tail.tail⟩
              case measure => simp [intOf]; omega
    · obtain rfl : k = 8 := by omega
      have HR := Lib.hid (HO8.out _ HT.out)
      obtain ⟨g, cap, rfl, _, _⟩ := own_row (HS.own (.head _)) (by omega)
      go_wp2_with (first | (go_at_call 24; refine (rget_int Bb (32 * k) 32 _ 0 _ rfl bs 23 _ (HS.blk (by (repeat (first | exact List.Mem.head _ | apply List.Mem.tail)))) (by omega) (by omega) (by omega)).mono ?_; rintro e w' ⟨rfl, H1⟩; replace HS := HS.fresh H1; clear H1; rw [Nat.add_zero, HI.out]) | (go_at_call 16; refine (HRM.out _).mono ?_; rintro e w' ⟨rfl, rfl⟩) | ((with_reducible apply sAlloc HS); infer_instance; (first | exact cells_agg _ | exact cells_one rfl); rfl; intro X w' H1; clear HS; have HS := H1; clear H1) | ((with_reducible apply sStoreB HS); infer_instance; rfl; rfl; (conv => (lhs; whnf)); (repeat (first | exact Rep.here | apply Rep.there)); rfl; rfl; exact (by intro u hu; simp at hu; rcases hu with rfl | rfl <;> rfl); intro w' H1; clear HS; have HS := H1; clear H1) | (have hrow := HS.blk (rw := true) (B := Bb) (cs := encB bs) (t := 23) (by (repeat (first | exact List.Mem.head _ | apply List.Mem.tail))); (with_reducible apply sByte hrow); infer_instance; rfl; rfl; omega; clear hrow; rw [HN.out]) | (have hrow := HS.blk (rw := true) (B := Bb) (cs := encB bs) (t := 23) (by (repeat (first | exact List.Mem.head _ | apply List.Mem.tail))); (with_reducible apply sText hrow Try.underlying58 Try.underlying5 Try.underlying9); rfl; rfl; omega; clear hrow) | ((with_reducible apply sStore1 HS); infer_instance; rfl; rfl; (conv => (lhs; whnf)); (repeat (first | exact Rep.here | apply Rep.there)); exact of_decide_eq_true rfl; (first | rfl | exact HS.ownOne (by (repeat (first | exact List.Mem.head _ | apply List.Mem.tail)))); intro w' H1; clear HS; have HS := H1; clear H1; simp only [List.setIfInBounds_toArray, List.set_cons_zero, List.set_cons_succ] at HS) | ((with_reducible apply sLoad1 HS); infer_instance; rfl; rfl; (repeat (first | exact List.Mem.head _ | apply List.Mem.tail)); rfl))
      refine bodyPost_ret (res2 rfl (resTmp _ _ _) (resTmp _ _ _)) rfl ?_
      rw [HR.out]
      exact ⟨g, cap, rfl, HS.sub (List.Sublist.cons_cons _ (List.Sublist.cons _ (List.Sublist.refl _)))⟩
end
end Go.Proofs.Ytdpbdmbgdcdmaaa
