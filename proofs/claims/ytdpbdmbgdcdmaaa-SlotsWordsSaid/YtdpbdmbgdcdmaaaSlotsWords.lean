/- A name may be just if it has 1 to 27 bytes, none of them / or 0, and is neither . nor .. . -/
import Derived.Test.YtdpbdmbgdcdmaaaSaw
namespace Go.Proofs.Ytdpbdmbgdcdmaaa.slotsWords
open Go Go.RowKit Go.ChangeShapes Go.WideShapes Go.ChangeAt

theorem own : ownKnob Try.prog.godebug = none := by kernel_rfl
theorem laidOut : laidOutB Try.prog = true := by kernel_rfl

set_option maxRecDepth 100000 in
set_option maxHeartbeats 20000000 in
theorem walk (s : ByteArray) (hn : s.size ≤ maxLen) (w : World) :
    Calls Try.prog 9 #[.string s] w fun e w' => e = .returned (.bool true) ∧ Below w.heap.size w w' := by
  have HS := St.nil none' w
  have HM := Lib.hid (fun W => pmay_any s W hn)
  have HL : Hid (s.toList = s.data.toList) := Lib.toList_data s
  have HN : Hid (s.size = s.data.toList.length) := Lib.size_eq s
  obtain ⟨c, hc⟩ : ∃ c, (decide ((1 : Int) ≤ (s.size : Int)) && decide ((s.size : Int) ≤ 27) && !(s.toList == [46]) && !(s.toList == [46, 46])) = c := ⟨_, rfl⟩
  have HC := Lib.hid hc
  have HO : Hid (okName s = (c && !(s.data.toList.any badB))) := by
    show _ = _
    rw [← hc]
    unfold okName okN
    rw [HL.out, HN.out]
    rw [show decide (1 ≤ s.data.toList.length) = decide ((1 : Int) ≤ (s.data.toList.length : Int)) from by rw [decide_eq_decide]; omega, show decide (s.data.toList.length ≤ 27) = decide ((s.data.toList.length : Int) ≤ 27) from by rw [decide_eq_decide]; omega]
    cases s.data.toList.any badB <;> simp
  clear hc
  unfold maxLen at hn
  by_cases hlong : 20000 < s.size
  · have hI : (20000 : Int) < (s.size : Int) := by omega
    go_enter Try.func9, Try.ntmps9
    go_wp2_with (first | (go_at_call 21; refine (aw.awake_any _).mono ?_; rintro e w' ⟨rfl, H1⟩; replace HS := HS.fresh H1; clear H1) | (go_at_call 15; refine (HM.out _).mono ?_; rintro e w' ⟨rfl, H1⟩; replace HS := HS.fresh H1; clear H1))
    go_ret
    exact ⟨rfl, HS.below⟩
  have hI : ¬ (20000 : Int) < (s.size : Int) := by omega
  generalize okName s = ok at HM HO
  go_enter Try.func9, Try.ntmps9
  go_wp2_with (first | (go_at_call 21; refine (aw.awake_any _).mono ?_; rintro e w' ⟨rfl, H1⟩; replace HS := HS.fresh H1; clear H1) | (go_at_call 15; refine (HM.out _).mono ?_; rintro e w' ⟨rfl, H1⟩; replace HS := HS.fresh H1; clear H1))
  all_goals
    go_loopw [3, 4] (fun f i wr => ∃ (k : Nat) (fb : Bool), k ≤ s.size ∧ i = .int .i64 k ∧ f = .bool fb ∧ Hid (fb = (c && !((s.data.toList.take k).any badB))) ∧ St none' w wr []) (fun _ i _ => s.size - (intOf i).toNat)
    case atStart =>
      refine ⟨0, _, by omega, rfl, rfl, ?_, HS⟩
      show _ = _
      rw [← HC.out]
      first | (simp [*]; done) | grind
    case round =>
      obtain ⟨k, fb, hk, rfl, rfl, HF, HS⟩ := hrel
      by_cases hlt : k < s.size
      · obtain ⟨x, hx⟩ : ∃ x : UInt8, s[k]'hlt = x := ⟨_, rfl⟩
        have hxl : s.data.toList[k]? = some x := by rw [← hx]; exact Lib.data_getElem? s k hlt
        have HT : Hid ((s.data.toList.take (k + 1)).any badB = ((s.data.toList.take k).any badB || badB x)) := by show _ = _; rw [List.take_add_one, hxl]; simp
        clear hxl
        cases fb
        · have HX := Lib.hid hx
          clear hx
          go_wp2
          go_roundw
          case rel =>
            refine ⟨k + 1, false, by omega, by go_num, rfl, ?_, HS⟩
            show _ = _
            rw [HT.out]
            have h := HF.out
            revert h
            cases (s.data.toList.take k).any badB <;> cases c <;> cases badB x <;> simp
          case measure => simp [intOf]; omega
        · have HX := Lib.hid hx
          cases hb : badB x
          · obtain ⟨c1, c2⟩ := badB_no hb
            have hb1 : (((s[k]'hlt).toNat : Int) != 47) = true := by rw [hx, bne_iff_ne]; exact c1
            have hb2 : (((s[k]'hlt).toNat : Int) != 0) = true := by rw [hx, bne_iff_ne]; exact c2
            clear hx
            have HB := Lib.hid hb
            clear hb
            go_wp2
            go_roundw
            case rel =>
              refine ⟨k + 1, true, by omega, by go_num, rfl, ?_, HS⟩
              show _ = _
              rw [HT.out, HB.out]
              have h := HF.out
              revert h
              cases (s.data.toList.take k).any badB <;> cases c <;> simp
            case measure => simp [intOf]; omega
          · have HB := Lib.hid hb
            rcases badB_yes hb with c1 | ⟨c1, c2⟩
            · have hb1 : (((s[k]'hlt).toNat : Int) != 47) = false := by rw [hx, bne_eq_false_iff_eq]; exact c1
              clear hx hb c1
              go_wp2
              go_roundw
              case rel =>
                refine ⟨k + 1, false, by omega, by go_num, rfl, ?_, HS⟩
                show _ = _
                rw [HT.out, HB.out]
                simp
              case measure => simp [intOf]; omega
            · have hb1 : (((s[k]'hlt).toNat : Int) != 47) = true := by rw [hx, bne_iff_ne]; exact c1
              have hb2 : (((s[k]'hlt).toNat : Int) != 0) = false := by rw [hx, bne_eq_false_iff_eq]; exact c2
              clear hx hb c1 c2
              go_wp2
              go_roundw
              case rel =>
                refine ⟨k + 1, false, by omega, by go_num, rfl, ?_, HS⟩
                show _ = _
                rw [HT.out, HB.out]
                simp
              case measure => simp [intOf]; omega
      · obtain rfl : k = s.size := by omega
        go_wp2_with (first | (go_at_call 21; refine (aw.awake_any _).mono ?_; rintro e w' ⟨rfl, H1⟩; replace HS := HS.fresh H1; clear H1) | (go_at_call 15; refine (HM.out _).mono ?_; rintro e w' ⟨rfl, H1⟩; replace HS := HS.fresh H1; clear H1))
        go_ret
        refine ⟨?_, HS.below⟩
        have h := HF.out
        rw [List.take_of_length_le (by rw [← HN.out]; exact Nat.le_refl _), ← HO.out] at h
        subst h
        simp

set_option maxRecDepth 100000 in
theorem lifted (os : Os) (started : os.Started) (H : Type) (enc : TypeId × Value → H) :
    ReturnsInHanded {} Try.checked os 9 .any (Rows.slotsWordsSpec.pre6 enc Try.prog Try.f9 Rows.slotsWordsRow.domain false) (Rows.slotsWordsSpec.post enc Try.prog Try.f9 false true false false) := by
  refine law_lift (C := Try.checked) own started (by kernel_rfl) Try.func9 laidOut rfl Try.underlying4 rfl ?hs (by kernel_rfl)
    (ChangeSpec.witness6 (enc := enc) (C := Try.checked) false ⟨#[], #[.string ByteArray.empty], []⟩ 8 (by kernel_rfl) (by kernel_rfl) (by kernel_rfl) (by kernel_rfl)) ?hwalk
  case hs =>
    intro ds h
    match ds, h with
    | [d0], _ => rfl
  case hwalk =>
    intro W args hn ha
    obtain ⟨l⟩ := args
    match l, hn with
    | [v0], _ =>
      obtain ⟨name, rfl, hn⟩ := (ha 0 _ _ rfl rfl).string Try.underlying9
      exact walk name hn W

theorem over : Rows.slotsWordsRow.holds Try.pinned (OpenSpec.ofChange Rows.slotsWordsSpec) :=
  OpenClaim.holds_of_wide 9 Try.f9 rfl rfl rfl rfl rfl rfl rfl ⟨rfl, rfl, rfl, rfl, rfl⟩ rfl rfl rfl rfl rfl (by kernel_rfl) Try.func9 (by kernel_rfl)
    (of_decide_eq_true (by kernel_rfl)) (by unfold Func.isWrapper; first | (rw [if_pos (by decide +kernel)]; kernel_rfl) | (rw [if_neg (by decide +kernel)]; exact ⟨rfl, rfl⟩))
    (fun os started H enc _ => lifted os started H enc)

theorem proved : Rows.SlotsWordsSaid := over
#print axioms proved
end Go.Proofs.Ytdpbdmbgdcdmaaa.slotsWords
