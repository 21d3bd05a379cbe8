/- Any block's slots, any name in it, are told as the chapter says; what is told is the caller's own. -/
import Derived.Test.YtdpbdmbgdcdmaaaSr5
import Derived.Test.YtdpbdmbgdcdmaaaBlkArg
namespace Go.Proofs.Ytdpbdmbgdcdmaaa.slotsTell
open Go Go.RowKit Go.ChangeShapes Go.WideShapes Go.ChangeAt

theorem own : ownKnob Try.prog.godebug = none := by kernel_rfl
theorem laidOut : laidOutB Try.prog = true := by kernel_rfl

theorem same_l {S : Nat → Prop} {w0 w : World} {L : List Ass} (HS : St S w0 w L) (l : List Sl) (hl : l.length = 8) {rw : Bool} {g1 g2 c1 c2 : Nat} (hm1 : Ass.blk rw g1 (rowS l) 33 ∈ L) (hm2 : Ass.own (.slice (some ⟨g2, 0, none⟩) 8 c2) 33 2 8 (encS l) ∈ L) :
    Calls Try.prog 12 #[.slice (some ⟨g1, 0, none⟩) 8 c1, .slice (some ⟨g2, 0, none⟩) 8 c2] w fun e w' => e = .returned (.bool true) ∧ St S w0 w' L := by
  have h := rsameS_any HS l l (a1 := some ⟨g1, 0, none⟩) (a2 := some ⟨g2, 0, none⟩) (c1 := c1) (c2 := c2) (.inr ⟨g1, rfl, fun w' hC => ?_⟩) (.inr ⟨g2, rfl, fun w' hC => hd_own hC hm2⟩) (by omega) (by omega)
  · rw [hl] at h
    exact h.mono fun e w' ⟨h1, h2⟩ => ⟨by rw [h1, beq_self_eq_true], h2⟩
  · have hb : w'.heap[g1]? = some (.cells (rowS l) 33 (0, 0)) := hC _ hm1
    intro j v hj
    rw [Nat.zero_add, cell_of_row _ _ _ _ _ _ hb, rowS_full l hl, List.getElem?_toArray]
    exact hj
set_option maxRecDepth 100000 in
set_option maxHeartbeats 20000000 in
theorem walk (bs : List UInt8) (hl : bs.length = 256) (name : ByteArray) (hn : name.size ≤ maxLen) (w : World) :
    Calls Try.prog 3 #[.agg (encB bs), .string name] w fun e w' => e = .returned (.bool true) ∧ Below w.heap.size w w' := by
  have HS := St.nil none' w
  have HL := Lib.hid hl
  have hzb : (encB bs).size = 256 := (encB_size _).trans hl
  have HZB := Lib.hid hzb
  have HNM := Lib.hid hn
  unfold maxLen at hn
  clear hl hzb
  by_cases hlong : 20000 < name.size
  · have hI : (20000 : Int) < (name.size : Int) := by omega
    go_enter Try.func3, Try.ntmps3
    go_wp2_with (first | ((with_reducible apply sBox HS); rfl; (conv => (lhs; whnf)); (first | exact cells_agg _ | exact cells_one rfl); intro Bb w' H1; clear HS; have HS := H1; clear H1))
    go_ret
    exact ⟨rfl, HS.below⟩
  have hI : ¬ (20000 : Int) < (name.size : Int) := by omega
  obtain ⟨a, b, hab, _, _⟩ := findV_parts (findOf bs name)
  have HAB := Lib.hid hab
  clear hab hlong
  have HM1 := Lib.hid (fun W => pmay_any name W HNM.out)
  have HM2 := Lib.hid (fun W => rmay_any name W HNM.out)
  generalize okName name = ok at HM1 HM2
  cases hs : slotsOf bs with
  | none =>
    have HSO := Lib.hid hs
    clear hs
    go_enter Try.func3, Try.ntmps3
    go_wp2_with (first | ((with_reducible apply sBox HS); rfl; (conv => (lhs; whnf)); (first | exact cells_agg _ | exact cells_one rfl); intro Bb w' H1; clear HS; have HS := H1; clear H1) | ((with_reducible apply sLoadB HS); infer_instance; rfl; rfl; (repeat (first | exact List.Mem.head _ | apply List.Mem.tail)); exact HZB.out) | (go_at_call 10; refine (rlist_any HS bs HL.out).mono ?_; rintro e w' H1; rw [HSO.out] at H1; obtain ⟨rfl, H2⟩ := H1; clear HS; have HS := H2; clear H2) | (go_at_call 11; refine (list_any HS bs HL.out).mono ?_; rintro e w' H1; rw [HSO.out] at H1; obtain ⟨rfl, H2⟩ := H1; clear HS; have HS := H2; clear H2) | (go_at_call 12; refine (rsameS_any HS [] [] (.inl rfl) (.inl rfl) (by decide) (by decide)).mono ?_; rintro e w' ⟨rfl, H2⟩; clear HS; have HS := H2; clear H2; rw [show (([] : List Sl) == []) = true from rfl]))
    go_loopw [7] (fun t wr => ∃ k : Nat, k ≤ 2 ∧ t = .int .i64 k ∧ St none' w wr [.blk true Bb (encB bs) 23]) (fun t _ => 2 - (intOf t).toNat)
    case atStart => exact ⟨0, by omega, rfl, HS⟩
    case round =>
      obtain ⟨k, hk, rfl, HS⟩ := hrel
      by_cases hk2 : k < 2
      · go_wp2_with (first | ((with_reducible apply sBox HS); rfl; (conv => (lhs; whnf)); (first | exact cells_agg _ | exact cells_one rfl); intro Bb w' H1; clear HS; have HS := H1; clear H1) | ((with_reducible apply sLoadB HS); infer_instance; rfl; rfl; (repeat (first | exact List.Mem.head _ | apply List.Mem.tail)); exact HZB.out) | (go_at_call 10; refine (rlist_any HS bs HL.out).mono ?_; rintro e w' H1; rw [HSO.out] at H1; obtain ⟨rfl, H2⟩ := H1; clear HS; have HS := H2; clear H2) | (go_at_call 11; refine (list_any HS bs HL.out).mono ?_; rintro e w' H1; rw [HSO.out] at H1; obtain ⟨rfl, H2⟩ := H1; clear HS; have HS := H2; clear H2) | (go_at_call 12; refine (rsameS_any HS [] [] (.inl rfl) (.inl rfl) (by decide) (by decide)).mono ?_; rintro e w' ⟨rfl, H2⟩; clear HS; have HS := H2; clear H2; rw [show (([] : List Sl) == []) = true from rfl]))
        refine wp_loop_rounds 1 ?_
        rw [rounds_succ]
        go_wp2
        go_roundw
        case rel => exact ⟨k + 1, by omega, by go_num, HS⟩
        case measure => simp [intOf]; omega
      · obtain rfl : k = 2 := by omega
        go_wp2_with (first | ((with_reducible apply sLoadB HS); infer_instance; rfl; rfl; (repeat (first | exact List.Mem.head _ | apply List.Mem.tail)); exact HZB.out) | (go_at_call 13; refine (pfind_any HS bs HL.out name).mono ?_; rintro e w' ⟨rfl, H2⟩; clear HS; have HS := H2; clear H2; rw [HAB.out]) | (go_at_call 14; refine (rfind_any HS bs HL.out name).mono ?_; rintro e w' ⟨rfl, H2⟩; clear HS; have HS := H2; clear H2; rw [HAB.out]) | (go_at_call 15; refine (HM1.out _).mono ?_; rintro e w' ⟨rfl, H1⟩; replace HS := HS.fresh H1; clear H1) | (go_at_call 16; refine (HM2.out _).mono ?_; rintro e w' ⟨rfl, rfl⟩))
        go_ret
        exact ⟨by simp, HS.below⟩
  | some l =>
    have HLL := Lib.hid (slotsTo_len hs)
    have HSO := Lib.hid hs
    clear hs
    go_enter Try.func3, Try.ntmps3
    go_wp2_with (first | ((with_reducible apply sBox HS); rfl; (conv => (lhs; whnf)); (first | exact cells_agg _ | exact cells_one rfl); intro Bb w' H1; clear HS; have HS := H1; clear H1) | ((with_reducible apply sLoadB HS); infer_instance; rfl; rfl; (repeat (first | exact List.Mem.head _ | apply List.Mem.tail)); exact HZB.out) | (go_at_call 10; refine (rlist_any HS bs HL.out).mono ?_; rintro e w' H1; rw [HSO.out] at H1; obtain ⟨g, cap, rfl, H2⟩ := H1; clear HS; have HS := H2; clear H2) | (go_at_call 11; refine (list_any HS bs HL.out).mono ?_; rintro e w' H1; rw [HSO.out] at H1; obtain ⟨g2, rfl, H2⟩ := H1; clear HS; have HS := H2; clear H2) | (go_at_call 12; refine (same_l HS l HLL.out (.head _) (.tail _ (.head _))).mono ?_; rintro e w' ⟨rfl, H2⟩; clear HS; have HS := H2; clear H2))
    go_loopw [7] (fun t wr => ∃ k : Nat, k ≤ 2 ∧ t = .int .i64 k ∧ St none' w wr [.own (.slice (some ⟨g, 0, none⟩) 8 cap) 33 2 8 (encS l), .blk true Bb (encB bs) 23]) (fun t _ => 2 - (intOf t).toNat)
    case atStart => exact ⟨0, by omega, rfl, HS⟩
    case round =>
      obtain ⟨k, hk, rfl, HS⟩ := hrel
      by_cases hk2 : k < 2
      · go_wp2_with (first | ((with_reducible apply sBox HS); rfl; (conv => (lhs; whnf)); (first | exact cells_agg _ | exact cells_one rfl); intro Bb w' H1; clear HS; have HS := H1; clear H1) | ((with_reducible apply sLoadB HS); infer_instance; rfl; rfl; (repeat (first | exact List.Mem.head _ | apply List.Mem.tail)); exact HZB.out) | (go_at_call 10; refine (rlist_any HS bs HL.out).mono ?_; rintro e w' H1; rw [HSO.out] at H1; obtain ⟨g, cap, rfl, H2⟩ := H1; clear HS; have HS := H2; clear H2) | (go_at_call 11; refine (list_any HS bs HL.out).mono ?_; rintro e w' H1; rw [HSO.out] at H1; obtain ⟨g2, rfl, H2⟩ := H1; clear HS; have HS := H2; clear H2) | (go_at_call 12; refine (same_l HS l HLL.out (.head _) (.tail _ (.head _))).mono ?_; rintro e w' ⟨rfl, H2⟩; clear HS; have HS := H2; clear H2))
        go_loopw [10] (fun i wr => ∃ (m : Nat) (cs : Array Value), m ≤ 8 ∧ i = .int .i64 m ∧ Hid (cs.size = 16) ∧ St none' w wr [.blk true g2 cs 33, .own (.slice (some ⟨g, 0, none⟩) 8 cap) 33 2 8 (encS l), .blk true Bb (encB bs) 23]) (fun i _ => 8 - (intOf i).toNat)
        case atStart => exact ⟨0, _, by omega, rfl, rowS_size l (by rw [HLL.out]; exact Nat.le_refl 8), HS⟩
        case round =>
          obtain ⟨m, cs, hm, rfl, HCS, HS⟩ := hrel
          by_cases hm8 : m < 8
          · go_wp2_with (first | ((with_reducible apply sStore1 HS); infer_instance; rfl; rfl; (conv => (lhs; whnf)); (repeat (first | exact Rep.here | apply Rep.there)); (rw [HCS.out]; omega); rfl; intro w' H1; clear HS; have HS := H1; clear H1))
            go_roundw
            case rel => exact ⟨m + 1, _, by omega, by go_num, by show _ = _; rw [Array.size_setIfInBounds]; exact HCS.out, HS⟩
            case measure => simp [intOf]; omega
          · obtain rfl : m = 8 := by omega
            go_wp2_with (first | ((with_reducible apply sStore1 HS); infer_instance; rfl; rfl; (conv => (lhs; whnf)); (repeat (first | exact Rep.here | apply Rep.there)); (rw [HCS.out]; omega); rfl; intro w' H1; clear HS; have HS := H1; clear H1))
            go_roundw
            case rel => exact ⟨k + 1, by omega, by go_num, HS.tail⟩
            case measure => simp [intOf]; omega
      · obtain rfl : k = 2 := by omega
        go_wp2_with (first | ((with_reducible apply sLoadB HS); infer_instance; rfl; rfl; (repeat (first | exact List.Mem.head _ | apply List.Mem.tail)); exact HZB.out) | (go_at_call 13; refine (pfind_any HS bs HL.out name).mono ?_; rintro e w' ⟨rfl, H2⟩; clear HS; have HS := H2; clear H2; rw [HAB.out]) | (go_at_call 14; refine (rfind_any HS bs HL.out name).mono ?_; rintro e w' ⟨rfl, H2⟩; clear HS; have HS := H2; clear H2; rw [HAB.out]) | (go_at_call 15; refine (HM1.out _).mono ?_; rintro e w' ⟨rfl, H1⟩; replace HS := HS.fresh H1; clear H1) | (go_at_call 16; refine (HM2.out _).mono ?_; rintro e w' ⟨rfl, rfl⟩))
        go_ret
        exact ⟨by simp, HS.below⟩

set_option maxRecDepth 100000 in
theorem lifted (os : Os) (started : os.Started) (H : Type) (enc : TypeId × Value → H) :
    ReturnsInHanded {} Try.checked os 3 .any (Rows.slotsTellSpec.pre6 enc Try.prog Try.f3 Rows.slotsTellRow.domain false) (Rows.slotsTellSpec.post enc Try.prog Try.f3 false true false false) := by
  refine law_lift (C := Try.checked) own started (by kernel_rfl) Try.func3 laidOut rfl Try.underlying4 rfl ?hs (by kernel_rfl)
    (ChangeSpec.witness6 (enc := enc) (C := Try.checked) false ⟨#[], #[.agg (encB Z256), .string ByteArray.empty], []⟩ 8 (by kernel_rfl) (by kernel_rfl) (by kernel_rfl) (by kernel_rfl)) ?hwalk
  case hs =>
    intro ds h
    match ds, h with
    | [d0, d1], _ => rfl
  case hwalk =>
    intro W args hn ha
    obtain ⟨l⟩ := args
    match l, hn with
    | [v0, v1], _ =>
      obtain ⟨bs, hl, rfl⟩ := blk_arg (ha 0 _ _ rfl rfl)
      obtain ⟨name, rfl, hn⟩ := (ha 1 _ _ rfl rfl).string Try.underlying9
      exact walk bs hl name hn W

theorem over : Rows.slotsTellRow.holds Try.pinned (OpenSpec.ofChange Rows.slotsTellSpec) :=
  OpenClaim.holds_of_wide 3 Try.f3 rfl rfl rfl rfl rfl rfl rfl ⟨rfl, rfl, rfl, rfl, rfl⟩ rfl rfl rfl rfl rfl (by kernel_rfl) Try.func3 (by kernel_rfl)
    (of_decide_eq_true (by kernel_rfl)) (by unfold Func.isWrapper; first | (rw [if_pos (by decide +kernel)]; kernel_rfl) | (rw [if_neg (by decide +kernel)]; exact ⟨rfl, rfl⟩))
    (fun os started H enc _ => lifted os started H enc)

theorem proved : Rows.SlotsTellSaid := over
#print axioms proved
end Go.Proofs.Ytdpbdmbgdcdmaaa.slotsTell
