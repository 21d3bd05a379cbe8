/- A name alone, behind a /, is a path just if it may be. -/
import Derived.Test.YtaponmniedjkiaaNlp
namespace Go.Proofs.Ytaponmniedjkiaa.namesOne
open Go Go.RowKit Go.ChangeShapes Go.WideShapes Go.ChangeAt
theorem own : ownKnob Try.prog.godebug = none := by kernel_rfl
theorem laidOut : laidOutB Try.prog = true := by kernel_rfl
set_option maxRecDepth 100000 in
set_option maxHeartbeats 20000000 in
theorem walk_false (s : ByteArray) (hn : s.size ≤ maxLen) (w : World) (hok : okName s = false) :
    Calls Try.prog 7 #[.string s] w fun e w' => e = .returned (.bool true) ∧ Below w.heap.size w w' := by
  have HS := St.nil none' w
  have HL : Hid (s.toList = s.data.toList) := Lib.toList_data s
  have HN : Hid (s.size = s.data.toList.length) := Lib.size_eq s
  unfold maxLen at hn
  by_cases hlong : 20000 < s.size
  · have hI : (20000 : Int) < (s.size : Int) := by omega
    go_enter Try.func7, Try.ntmps7
    go_wp2_with (go_at_call 17; refine (aw.awake_any _).mono ?_; rintro e w' ⟨rfl, H1⟩; replace HS := HS.fresh H1; clear H1)
    go_ret
    exact ⟨rfl, HS.below⟩
  have hI : ¬ (20000 : Int) < (s.size : Int) := by omega
  obtain ⟨c, hc⟩ : ∃ c, (decide ((1 : Int) ≤ (s.size : Int)) && decide ((s.size : Int) ≤ 27) && !(s.toList == [46]) && !(s.toList == [46, 46])) = c := ⟨_, rfl⟩
  have HC := Lib.hid hc
  have HO : Hid (okName s = (c && !(s.data.toList.any badB))) := by
    show _ = _
    rw [← hc]
    unfold okName okN
    rw [HL.out, HN.out]
    rw [show decide (1 ≤ s.data.toList.length) = decide ((1 : Int) ≤ (s.data.toList.length : Int)) from by rw [decide_eq_decide]; omega, show decide (s.data.toList.length ≤ 27) = decide ((s.data.toList.length : Int) ≤ 27) from by rw [decide_eq_decide]; omega]
    cases s.data.toList.any badB <;> simp
  clear hc
  have hz2 : ((⟨#[47]⟩ : ByteArray) ++ s).size = s.size + 1 := by rw [Lib.size_eq, HN.out]; simp
  have HE : Hid (encS [s.data.toList] = [.string s]) := by show _ = _; unfold encS; rw [List.map_cons, mkB_data]; rfl
  have hss : (s.toList == s.toList) = true := by simp
  have HOK := Lib.hid hok
  obtain ⟨q, hq0, hj⟩ : ∃ q, (q = 290 ∨ (q = 3 ∧ 512 ≤ s.size)) ∧ joinN [s.data.toList] = (q, []) := by
    rcases join_one_bad (x := s.data.toList) hok with h | ⟨h, h2⟩
    · exact ⟨_, .inl rfl, h⟩
    · exact ⟨_, .inr ⟨rfl, by rw [HN.out]; exact h2⟩, h⟩
  have HJ := Lib.hid (fun (W : World) g h2 => join_any W (some ⟨g, 0, none⟩) 1 [s.data.toList] (by simp) (by simp) (by rw [pathOf_one, List.length_cons, ← HN.out]; omega) h2)
  rw [hj] at HJ
  have hn2 : (mkB []).toList.isEmpty = true := by rw [Lib.toList_data]; rfl
  have hn3 : ((mkB []).toList == ([] : List UInt8)) = true := by rw [Lib.toList_data]; rfl
  clear hok hj
  go_enter Try.func7, Try.ntmps7
  go_wp2_with (go_at_call 17; refine (aw.awake_any _).mono ?_; rintro e w' ⟨rfl, H1⟩; replace HS := HS.fresh H1; clear H1)
  all_goals
    go_loopw [3, 4] (fun f i wr => ∃ (k : Nat) (fb : Bool), k ≤ s.size ∧ i = .int .i64 k ∧ f = .bool fb ∧ Hid (fb = (c && !((s.data.toList.take k).any badB))) ∧ St none' w wr []) (fun _ i _ => s.size - (intOf i).toNat)
    case atStart =>
      refine ⟨0, _, by omega, rfl, rfl, ?_, HS⟩
      show _ = _
      rw [← HC.out]
      first | (simp [*]; done) | grind
    case round =>
      obtain ⟨k, fb, hk, rfl, rfl, HF, HS⟩ := hrel
      by_cases hlt : k < s.size
      · obtain ⟨x, hx⟩ : ∃ x : UInt8, s[k]'hlt = x := ⟨_, rfl⟩
        have hxl : s.data.toList[k]? = some x := by rw [← hx]; exact Lib.data_getElem? s k hlt
        have HT : Hid ((s.data.toList.take (k + 1)).any badB = ((s.data.toList.take k).any badB || badB x)) := by show _ = _; rw [List.take_add_one, hxl]; simp
        clear hxl
        cases fb
        · have HX := Lib.hid hx
          clear hx
          go_wp2
          go_roundw
          case rel =>
            refine ⟨k + 1, false, by omega, by go_num, rfl, ?_, HS⟩
            show _ = _
            rw [HT.out]
            have h := HF.out
            revert h
            cases (s.data.toList.take k).any badB <;> cases c <;> cases badB x <;> simp
          case measure => simp [intOf]; omega
        · have HX := Lib.hid hx
          cases hb : badB x
          · obtain ⟨c1, c2⟩ := badB_no hb
            have hb1 : (((s[k]'hlt).toNat : Int) != 47) = true := by rw [hx, bne_iff_ne]; exact c1
            have hb2 : (((s[k]'hlt).toNat : Int) != 0) = true := by rw [hx, bne_iff_ne]; exact c2
            clear hx
            have HB := Lib.hid hb
            clear hb
            go_wp2
            go_roundw
            case rel =>
              refine ⟨k + 1, true, by omega, by go_num, rfl, ?_, HS⟩
              show _ = _
              rw [HT.out, HB.out]
              have h := HF.out
              revert h
              cases (s.data.toList.take k).any badB <;> cases c <;> simp
            case measure => simp [intOf]; omega
          · have HB := Lib.hid hb
            rcases badB_yes hb with c1 | ⟨c1, c2⟩
            · have hb1 : (((s[k]'hlt).toNat : Int) != 47) = false := by rw [hx, bne_eq_false_iff_eq]; exact c1
              clear hx hb c1
              go_wp2
              go_roundw
              case rel =>
                refine ⟨k + 1, false, by omega, by go_num, rfl, ?_, HS⟩
                show _ = _
                rw [HT.out, HB.out]
                simp
              case measure => simp [intOf]; omega
            · have hb1 : (((s[k]'hlt).toNat : Int) != 47) = true := by rw [hx, bne_iff_ne]; exact c1
              have hb2 : (((s[k]'hlt).toNat : Int) != 0) = false := by rw [hx, bne_eq_false_iff_eq]; exact c2
              clear hx hb c1 c2
              go_wp2
              go_roundw
              case rel =>
                refine ⟨k + 1, false, by omega, by go_num, rfl, ?_, HS⟩
                show _ = _
                rw [HT.out, HB.out]
                simp
              case measure => simp [intOf]; omega
      · obtain rfl : k = s.size := by omega
        have hfb : fb = false := by
          have h := HF.out
          rw [List.take_of_length_le (by rw [← HN.out]; exact Nat.le_refl _), ← HO.out, HOK.out] at h
          exact h
        subst hfb
        rcases hq0 with rfl | ⟨rfl, h512⟩
        · go_wp2_with (go_at_call 10; ((have H2 := HS.alloc (encS [s.data.toList]).toArray 9); (have HTX := aw.Txts.blk H2 (.head _)); rw [HE.out] at H2 HTX; refine (HJ.out _ _ HTX).mono ?_; rintro e w' ⟨rfl, H1⟩; clear HS; have HS := H2.fresh H1; clear H1 H2 HTX))
          go_ret
          exact ⟨rfl, HS.tail.below⟩
        · have h5 : decide ((512 : Int) ≤ (s.size : Int)) = true := decide_eq_true (by omega)
          first
          | (exfalso; omega)
          | (go_wp2_with (go_at_call 10; ((have H2 := HS.alloc (encS [s.data.toList]).toArray 9); (have HTX := aw.Txts.blk H2 (.head _)); rw [HE.out] at H2 HTX; refine (HJ.out _ _ HTX).mono ?_; rintro e w' ⟨rfl, H1⟩; clear HS; have HS := H2.fresh H1; clear H1 H2 HTX))
             go_ret
             exact ⟨rfl, HS.tail.below⟩)
set_option maxRecDepth 100000 in
set_option maxHeartbeats 20000000 in
theorem walk_true (s : ByteArray) (hn : s.size ≤ maxLen) (w : World) (hok : okName s = true) :
    Calls Try.prog 7 #[.string s] w fun e w' => e = .returned (.bool true) ∧ Below w.heap.size w w' := by
  have HS := St.nil none' w
  have HL : Hid (s.toList = s.data.toList) := Lib.toList_data s
  have HN : Hid (s.size = s.data.toList.length) := Lib.size_eq s
  unfold maxLen at hn
  by_cases hlong : 20000 < s.size
  · have hI : (20000 : Int) < (s.size : Int) := by omega
    go_enter Try.func7, Try.ntmps7
    go_wp2_with (go_at_call 17; refine (aw.awake_any _).mono ?_; rintro e w' ⟨rfl, H1⟩; replace HS := HS.fresh H1; clear H1)
    go_ret
    exact ⟨rfl, HS.below⟩
  have hI : ¬ (20000 : Int) < (s.size : Int) := by omega
  obtain ⟨c, hc⟩ : ∃ c, (decide ((1 : Int) ≤ (s.size : Int)) && decide ((s.size : Int) ≤ 27) && !(s.toList == [46]) && !(s.toList == [46, 46])) = c := ⟨_, rfl⟩
  have HC := Lib.hid hc
  have HO : Hid (okName s = (c && !(s.data.toList.any badB))) := by
    show _ = _
    rw [← hc]
    unfold okName okN
    rw [HL.out, HN.out]
    rw [show decide (1 ≤ s.data.toList.length) = decide ((1 : Int) ≤ (s.data.toList.length : Int)) from by rw [decide_eq_decide]; omega, show decide (s.data.toList.length ≤ 27) = decide ((s.data.toList.length : Int) ≤ 27) from by rw [decide_eq_decide]; omega]
    cases s.data.toList.any badB <;> simp
  clear hc
  have hz2 : ((⟨#[47]⟩ : ByteArray) ++ s).size = s.size + 1 := by rw [Lib.size_eq, HN.out]; simp
  have HE : Hid (encS [s.data.toList] = [.string s]) := by show _ = _; unfold encS; rw [List.map_cons, mkB_data]; rfl
  have hss : (s.toList == s.toList) = true := by simp
  have HOK := Lib.hid hok
  obtain ⟨hj, hsp⟩ := join_one_ok (x := s.data.toList) hok
  have HJ := Lib.hid (fun (W : World) g h2 => join_any W (some ⟨g, 0, none⟩) 1 [s.data.toList] (by simp) (by simp) (by rw [pathOf_one, List.length_cons, ← HN.out]; omega) h2)
  rw [hj, show mkB (0, 47 :: s.data.toList).2 = (⟨#[47]⟩ : ByteArray) ++ s from ba_list (by simp [mkB])] at HJ
  have HSP := Lib.hid (fun (S : Nat → Prop) (w0 W : World) (L : List Ass) (HS : St S w0 W L) => aw.split_at HS ((⟨#[47]⟩ : ByteArray) ++ s) (by omega) (q := 0) (l := [s.data.toList]) (by rw [show ((⟨#[47]⟩ : ByteArray) ++ s).data.toList = 47 :: s.data.toList by simp]; exact hsp))
  have hpp : (((⟨#[47]⟩ : ByteArray) ++ s).toList == ((⟨#[47]⟩ : ByteArray) ++ s).toList) = true := by simp
  clear hok hj hsp
  go_enter Try.func7, Try.ntmps7
  go_wp2_with (go_at_call 17; refine (aw.awake_any _).mono ?_; rintro e w' ⟨rfl, H1⟩; replace HS := HS.fresh H1; clear H1)
  all_goals
    go_loopw [3, 4] (fun f i wr => ∃ (k : Nat) (fb : Bool), k ≤ s.size ∧ i = .int .i64 k ∧ f = .bool fb ∧ Hid (fb = (c && !((s.data.toList.take k).any badB))) ∧ St none' w wr []) (fun _ i _ => s.size - (intOf i).toNat)
    case atStart =>
      refine ⟨0, _, by omega, rfl, rfl, ?_, HS⟩
      show _ = _
      rw [← HC.out]
      first | (simp [*]; done) | grind
    case round =>
      obtain ⟨k, fb, hk, rfl, rfl, HF, HS⟩ := hrel
      by_cases hlt : k < s.size
      · obtain ⟨x, hx⟩ : ∃ x : UInt8, s[k]'hlt = x := ⟨_, rfl⟩
        have hxl : s.data.toList[k]? = some x := by rw [← hx]; exact Lib.data_getElem? s k hlt
        have HT : Hid ((s.data.toList.take (k + 1)).any badB = ((s.data.toList.take k).any badB || badB x)) := by show _ = _; rw [List.take_add_one, hxl]; simp
        clear hxl
        cases fb
        · have HX := Lib.hid hx
          clear hx
          go_wp2
          go_roundw
          case rel =>
            refine ⟨k + 1, false, by omega, by go_num, rfl, ?_, HS⟩
            show _ = _
            rw [HT.out]
            have h := HF.out
            revert h
            cases (s.data.toList.take k).any badB <;> cases c <;> cases badB x <;> simp
          case measure => simp [intOf]; omega
        · have HX := Lib.hid hx
          cases hb : badB x
          · obtain ⟨c1, c2⟩ := badB_no hb
            have hb1 : (((s[k]'hlt).toNat : Int) != 47) = true := by rw [hx, bne_iff_ne]; exact c1
            have hb2 : (((s[k]'hlt).toNat : Int) != 0) = true := by rw [hx, bne_iff_ne]; exact c2
            clear hx
            have HB := Lib.hid hb
            clear hb
            go_wp2
            go_roundw
            case rel =>
              refine ⟨k + 1, true, by omega, by go_num, rfl, ?_, HS⟩
              show _ = _
              rw [HT.out, HB.out]
              have h := HF.out
              revert h
              cases (s.data.toList.take k).any badB <;> cases c <;> simp
            case measure => simp [intOf]; omega
          · have HB := Lib.hid hb
            rcases badB_yes hb with c1 | ⟨c1, c2⟩
            · have hb1 : (((s[k]'hlt).toNat : Int) != 47) = false := by rw [hx, bne_eq_false_iff_eq]; exact c1
              clear hx hb c1
              go_wp2
              go_roundw
              case rel =>
                refine ⟨k + 1, false, by omega, by go_num, rfl, ?_, HS⟩
                show _ = _
                rw [HT.out, HB.out]
                simp
              case measure => simp [intOf]; omega
            · have hb1 : (((s[k]'hlt).toNat : Int) != 47) = true := by rw [hx, bne_iff_ne]; exact c1
              have hb2 : (((s[k]'hlt).toNat : Int) != 0) = false := by rw [hx, bne_eq_false_iff_eq]; exact c2
              clear hx hb c1 c2
              go_wp2
              go_roundw
              case rel =>
                refine ⟨k + 1, false, by omega, by go_num, rfl, ?_, HS⟩
                show _ = _
                rw [HT.out, HB.out]
                simp
              case measure => simp [intOf]; omega
      · obtain rfl : k = s.size := by omega
        have hfb : fb = true := by
          have h := HF.out
          rw [List.take_of_length_le (by rw [← HN.out]; exact Nat.le_refl _), ← HO.out, HOK.out] at h
          exact h
        subst hfb
        go_wp2_with (first | (go_at_call 10; ((have H2 := HS.alloc (encS [s.data.toList]).toArray 9); (have HTX := aw.Txts.blk H2 (.head _)); rw [HE.out] at H2 HTX; refine (HJ.out _ _ HTX).mono ?_; rintro e w' ⟨rfl, H1⟩; clear HS; have HS := H2.fresh H1; clear H1 H2 HTX)) | (go_at_call 14; (with_reducible refine (HSP.out _ _ _ _ HS).mono ?_); rintro e w' ⟨v, rfl, H1⟩; clear HS; have HS := H1; clear H1; obtain ⟨g, cap, rfl, hcap, _⟩ := own_row (HS.own (.head _)) (by simp); replace hcap : 1 ≤ cap := hcap) | ((with_reducible apply sLoadO1 HS); infer_instance; rfl; rfl; (repeat (first | exact List.Mem.head _ | apply List.Mem.tail)); exact (show (encS [s.data.toList])[0]? = some (.string s) from by rw [HE.out]; rfl)))
        go_ret
        exact ⟨by simp, HS.tail.tail.below⟩

theorem walk (s : ByteArray) (hn : s.size ≤ maxLen) (w : World) :
    Calls Try.prog 7 #[.string s] w fun e w' => e = .returned (.bool true) ∧ Below w.heap.size w w' := by
  cases hok : okName s
  · exact walk_false s hn w hok
  · exact walk_true s hn w hok

set_option maxRecDepth 100000 in
theorem lifted (os : Os) (started : os.Started) (H : Type) (enc : TypeId × Value → H) :
    ReturnsInHanded {} Try.checked os 7 .any (Rows.namesOneSpec.pre6 enc Try.prog Try.f7 Rows.namesOneRow.domain false) (Rows.namesOneSpec.post enc Try.prog Try.f7 false true false false) := by
  refine law_lift (C := Try.checked) own started (by kernel_rfl) Try.func7 laidOut rfl Try.underlying4 rfl ?hs (by kernel_rfl)
    (ChangeSpec.witness6 (enc := enc) (C := Try.checked) false ⟨#[], #[.string ByteArray.empty], []⟩ 8 (by kernel_rfl) (by kernel_rfl) (by kernel_rfl) (by kernel_rfl)) ?hwalk
  case hs =>
    intro ds h
    match ds, h with
    | [d0], _ => rfl
  case hwalk =>
    intro W args hn ha
    obtain ⟨l⟩ := args
    match l, hn with
    | [v0], _ =>
      obtain ⟨s, rfl, hs⟩ := (ha 0 _ _ rfl rfl).string Try.underlying9
      exact walk s hs W

theorem over : Rows.namesOneRow.holds Try.pinned (OpenSpec.ofChange Rows.namesOneSpec) :=
  OpenClaim.holds_of_wide 7 Try.f7 rfl rfl rfl rfl rfl rfl rfl ⟨rfl, rfl, rfl, rfl, rfl⟩ rfl rfl rfl rfl rfl (by kernel_rfl) Try.func7 (by kernel_rfl)
    (of_decide_eq_true (by kernel_rfl)) (by unfold Func.isWrapper; first | (rw [if_pos (by decide +kernel)]; kernel_rfl) | (rw [if_neg (by decide +kernel)]; exact ⟨rfl, rfl⟩))
    (fun os started H enc _ => lifted os started H enc)

theorem proved : Rows.NamesOneSaid := over
#print axioms proved
end Go.Proofs.Ytaponmniedjkiaa.namesOne
