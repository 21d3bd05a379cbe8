/- Names and paths lead to one another, one for one. -/
import Derived.Test.YtaponmniedjkiaaNlc
namespace Go.Proofs.Ytaponmniedjkiaa.namesBack
open Go Go.RowKit Go.ChangeShapes Go.WideShapes Go.ChangeAt
theorem own : ownKnob Try.prog.godebug = none := by kernel_rfl
theorem laidOut : laidOutB Try.prog = true := by kernel_rfl

set_option maxRecDepth 100000 in
set_option maxHeartbeats 8000000 in
theorem walk (s : ByteArray) (hs : s.size ≤ maxLen) (ad : Option Addr) (cap : Nat) (l : List (List UInt8)) (w : World) (hm : l.length ≤ maxLen) (hcap : l.length ≤ cap) (hok : ∀ x ∈ l, x.length ≤ maxLen) (hT : Txts w ad l) :
    Calls Try.prog 5 #[.string s, .slice ad l.length cap] w fun e w' => e = .returned (.bool true) ∧ Below w.heap.size w w' := by
  have HS := St.nil none' w
  have HOK := Lib.hid hok
  have hT0 := Lib.hid hT
  unfold maxLen at hm hs
  clear hok
  go_enter Try.func5, Try.ntmps5
  go_wp2_with (go_at_call 17; refine (aw.awake_any _).mono ?_; rintro e w' ⟨rfl, H1⟩; replace HS := HS.fresh H1; clear H1)
  go_loopw [5, 6] (fun nv iv wr => ∃ i : Nat, i ≤ l.length ∧ i ≤ 1001 ∧ iv = .int .i64 i ∧ nv = .int .i64 (min s.size 20001 + cnt (l.take i) : Nat) ∧ St none' w wr []) (fun _ iv _ => l.length - (intOf iv).toNat)
  case atStart => exact ⟨0, Nat.zero_le _, by omega, rfl, by simp [cnt]; go_num, HS⟩
  case round =>
    obtain ⟨i, hi, hi1, rfl, rfl, HS⟩ := hrel
    replace hT := hT.sub HS.below
    have hT2 : Hid (Txts _ ad l) := hT
    by_cases hgo : i < l.length ∧ i ≤ 1000
    · obtain ⟨hil, hi0⟩ := hgo
      have e1 : decide ((i : Int) < (l.length : Int)) = true := decide_eq_true (by omega)
      have e2 : decide ((i : Int) ≤ 1000) = true := decide_eq_true (by omega)
      obtain ⟨x, hx⟩ : ∃ x, l[i]? = some x := ⟨_, List.getElem?_eq_getElem hil⟩
      obtain ⟨A, o, rfl, hc⟩ := hT.cell hx
      have hxl := HOK.out x (List.mem_of_getElem? hx)
      unfold maxLen at hxl
      have hsx : (mkB x).size = x.length := mkB_size x
      have HC : Hid (min s.size 20001 + cnt (l.take (i + 1)) = min s.size 20001 + cnt (l.take i) + min x.length 20001) := by show _ = _; rw [cnt_step hx]; omega
      have hcl : min s.size 20001 + cnt (l.take i) ≤ 20001 + 20001 * i := by have := cnt_take_le l i; omega
      generalize min s.size 20001 + cnt (l.take i) = n at *
      clear hx
      go_wp2
      go_roundw
      case rel => exact ⟨i + 1, by omega, by omega, by go_num, by rw [HC.out]; go_num, HS⟩
      case measure => simp [intOf]; omega
    · have hcl : min s.size 20001 + cnt (l.take i) ≤ 20001 + 20001 * i := by have := cnt_take_le l i; omega
      by_cases hlong : 1000 < l.length
      · obtain rfl : i = 1001 := by omega
        have e2 : decide ((1001 : Int) ≤ 1000) = false := rfl
        have e3 : decide ((1000 : Int) < (l.length : Int)) = true := decide_eq_true (by omega)
        have e3I : (1000 : Int) < (l.length : Int) := by omega
        by_cases hil : 1001 < l.length
        · have e1 : decide ((1001 : Int) < (l.length : Int)) = true := decide_eq_true (by omega)
          go_wp2
          go_ret
          exact ⟨rfl, HS.below⟩
        · have e1 : decide ((1001 : Int) < (l.length : Int)) = false := decide_eq_false (by omega)
          go_wp2
          go_ret
          exact ⟨rfl, HS.below⟩
      · obtain rfl : i = l.length := by omega
        rw [List.take_length] at hcl ⊢
        have e1 : decide ((l.length : Int) < (l.length : Int)) = false := decide_eq_false (by omega)
        have e3 : decide ((1000 : Int) < (l.length : Int)) = false := decide_eq_false (by omega)
        have e3I : ¬ (1000 : Int) < (l.length : Int) := by omega
        obtain ⟨n, hn⟩ : ∃ n, min s.size 20001 + cnt l = n := ⟨_, rfl⟩
        rw [hn] at hcl ⊢
        by_cases hbig : 20000 < n
        · have e4 : decide ((20000 : Int) < (n : Int)) = true := decide_eq_true (by omega)
          have e4I : (20000 : Int) < (n : Int) := by omega
          go_wp2
          go_ret
          exact ⟨rfl, HS.below⟩
        · have e4 : decide ((20000 : Int) < (n : Int)) = false := decide_eq_false (by omega)
          have e4I : ¬ (20000 : Int) < (n : Int) := by omega
          have hcnt : cnt l ≤ 20000 := by omega
          have hs2 : s.size ≤ 20000 := by omega
          have HSP := Lib.hid (fun (S : Nat → Prop) (w0 W : World) (L : List Ass) (HS : St S w0 W L) => split_any HS s (by omega))
          have hpl := cnt_path hcnt
          have HJ := Lib.hid (fun (W : World) h2 => join_any W ad cap l (by omega) hcap (by omega) h2)
          have hn2 : (mkB []).toList.isEmpty = true := by rw [Lib.toList_data]; rfl
          have hn3 : ((mkB []).toList == ([] : List UInt8)) = true := by rw [Lib.toList_data]; rfl
          have hn4 : (mkB []).toList = [] := by rw [Lib.toList_data]; rfl
          have hss : (s.toList == s.toList) = true := by simp
          have hll : (l == l) = true := by simp
          have HL20 : Hid (l.length ≤ 1000) := by show _ ≤ _; omega
          clear hn hgo hcl
          by_cases h1 : (splitN s.data.toList).1 = 0
          · obtain ⟨k1, _, _, k2, k3⟩ := splitN_ok h1
            obtain ⟨l1, hl1⟩ : ∃ l1, rowP s.data.toList = l1 := ⟨_, rfl⟩
            rw [hl1] at k3 k2
            have hj := split_join h1
            rw [k3] at hj HSP
            simp only at hj HSP
            have hp1 : (pathOf l1).length ≤ 512 := (joinN_ok (l := l1) (by rw [hj])).1
            have HJ1 := Lib.hid (fun (W : World) ad cap h1 h2 => join_any W ad cap l1 (by omega) h1 (by omega) h2)
            rw [hj] at HJ1
            simp only [mkB_data] at HJ1
            clear hj k1 k3 hl1 h1
            by_cases h2 : (joinN l).1 = 0
            · have hjs := join_split h2
              have hlp : (joinN l).2.length ≤ 1000 := by rw [(joinN_ok h2).2.2.2]; have := (joinN_ok h2).1; show (pathOf l).length ≤ 1000; omega
              rw [h2] at HJ
              generalize (joinN l).2 = t at *
              have HS2 := Lib.hid (fun (S : Nat → Prop) (w0 W : World) (L : List Ass) (HS : St S w0 W L) => aw.split_at HS (mkB t) (by rw [mkB_size]; omega) hjs)
              clear hjs h2 hpl
              go_wp2_with (first | (go_at_call 14; (with_reducible refine (HSP.out _ _ _ _ HS).mono ?_); rintro e w' ⟨v, rfl, H1⟩; clear HS; have HS := H1; clear H1; obtain ⟨ad1, cap1, rfl⟩ := own_slice (HS.own (.head _))) | (go_at_call 14; (with_reducible refine (HS2.out _ _ _ _ HS).mono ?_); rintro e w' ⟨v, rfl, H1⟩; clear HS; have HS := H1; clear H1; obtain ⟨ad1, cap1, rfl⟩ := own_slice (HS.own (.head _))) | (go_at_call 10; ((with_reducible refine (HJ1.out _ _ _ ?_ ?_).mono ?_); exact (Txts.own HS (.head _) rfl).2; exact (Txts.own HS (.head _) rfl).1; rintro e w' ⟨rfl, H1⟩; replace HS := HS.fresh H1; clear H1)) | (go_at_call 10; (with_reducible refine (HJ.out _ (hT0.out.sub HS.below)).mono ?_); rintro e w' ⟨rfl, H1⟩; replace HS := HS.fresh H1; clear H1) | (go_at_call 12; refine (rsame_any _ _ _ _ _ l l (by have := HL20.out; omega) (by have := HL20.out; omega) (Txts.own HS (.head _) rfl).1 (hT0.out.sub HS.below)).mono ?_; rintro e w' ⟨rfl, H1⟩; rw [hll]; replace HS := HS.fresh H1; clear H1))
              go_ret
              exact ⟨rfl, HS.below⟩
            · have hq2 : (joinN l).2 = [] := joinN_bad h2
              rw [hq2] at HJ
              generalize (joinN l).1 = q at *
              have hb2 : (q != 0) = true := by simpa using h2
              clear hq2 hpl
              go_wp2_with (first | (go_at_call 14; (with_reducible refine (HSP.out _ _ _ _ HS).mono ?_); rintro e w' ⟨v, rfl, H1⟩; clear HS; have HS := H1; clear H1; obtain ⟨ad1, cap1, rfl⟩ := own_slice (HS.own (.head _))) | (go_at_call 14; (with_reducible refine (HS2.out _ _ _ _ HS).mono ?_); rintro e w' ⟨v, rfl, H1⟩; clear HS; have HS := H1; clear H1; obtain ⟨ad1, cap1, rfl⟩ := own_slice (HS.own (.head _))) | (go_at_call 10; ((with_reducible refine (HJ1.out _ _ _ ?_ ?_).mono ?_); exact (Txts.own HS (.head _) rfl).2; exact (Txts.own HS (.head _) rfl).1; rintro e w' ⟨rfl, H1⟩; replace HS := HS.fresh H1; clear H1)) | (go_at_call 10; (with_reducible refine (HJ.out _ (hT0.out.sub HS.below)).mono ?_); rintro e w' ⟨rfl, H1⟩; replace HS := HS.fresh H1; clear H1) | (go_at_call 12; refine (rsame_any _ _ _ _ _ l l (by have := HL20.out; omega) (by have := HL20.out; omega) (Txts.own HS (.head _) rfl).1 (hT0.out.sub HS.below)).mono ?_; rintro e w' ⟨rfl, H1⟩; rw [hll]; replace HS := HS.fresh H1; clear H1))
              go_ret
              exact ⟨rfl, HS.below⟩
          · have k3 := splitN_bad h1
            rw [k3] at HSP
            generalize (splitN s.data.toList).1 = q1 at *
            have hb1 : (q1 == 0) = false := by simpa using h1
            clear k3
            by_cases h2 : (joinN l).1 = 0
            · have hjs := join_split h2
              have hlp : (joinN l).2.length ≤ 1000 := by rw [(joinN_ok h2).2.2.2]; have := (joinN_ok h2).1; show (pathOf l).length ≤ 1000; omega
              rw [h2] at HJ
              generalize (joinN l).2 = t at *
              have HS2 := Lib.hid (fun (S : Nat → Prop) (w0 W : World) (L : List Ass) (HS : St S w0 W L) => aw.split_at HS (mkB t) (by rw [mkB_size]; omega) hjs)
              clear hjs h2 hpl
              go_wp2_with (first | (go_at_call 14; (with_reducible refine (HSP.out _ _ _ _ HS).mono ?_); rintro e w' ⟨v, rfl, H1⟩; clear HS; have HS := H1; clear H1; obtain ⟨ad1, cap1, rfl⟩ := own_slice (HS.own (.head _))) | (go_at_call 14; (with_reducible refine (HS2.out _ _ _ _ HS).mono ?_); rintro e w' ⟨v, rfl, H1⟩; clear HS; have HS := H1; clear H1; obtain ⟨ad1, cap1, rfl⟩ := own_slice (HS.own (.head _))) | (go_at_call 10; ((with_reducible refine (HJ1.out _ _ _ ?_ ?_).mono ?_); exact (Txts.own HS (.head _) rfl).2; exact (Txts.own HS (.head _) rfl).1; rintro e w' ⟨rfl, H1⟩; replace HS := HS.fresh H1; clear H1)) | (go_at_call 10; (with_reducible refine (HJ.out _ (hT0.out.sub HS.below)).mono ?_); rintro e w' ⟨rfl, H1⟩; replace HS := HS.fresh H1; clear H1) | (go_at_call 12; refine (rsame_any _ _ _ _ _ l l (by have := HL20.out; omega) (by have := HL20.out; omega) (Txts.own HS (.head _) rfl).1 (hT0.out.sub HS.below)).mono ?_; rintro e w' ⟨rfl, H1⟩; rw [hll]; replace HS := HS.fresh H1; clear H1))
              go_ret
              exact ⟨rfl, HS.below⟩
            · have hq2 : (joinN l).2 = [] := joinN_bad h2
              rw [hq2] at HJ
              generalize (joinN l).1 = q at *
              have hb2 : (q != 0) = true := by simpa using h2
              clear hq2 hpl
              go_wp2_with (first | (go_at_call 14; (with_reducible refine (HSP.out _ _ _ _ HS).mono ?_); rintro e w' ⟨v, rfl, H1⟩; clear HS; have HS := H1; clear H1; obtain ⟨ad1, cap1, rfl⟩ := own_slice (HS.own (.head _))) | (go_at_call 14; (with_reducible refine (HS2.out _ _ _ _ HS).mono ?_); rintro e w' ⟨v, rfl, H1⟩; clear HS; have HS := H1; clear H1; obtain ⟨ad1, cap1, rfl⟩ := own_slice (HS.own (.head _))) | (go_at_call 10; ((with_reducible refine (HJ1.out _ _ _ ?_ ?_).mono ?_); exact (Txts.own HS (.head _) rfl).2; exact (Txts.own HS (.head _) rfl).1; rintro e w' ⟨rfl, H1⟩; replace HS := HS.fresh H1; clear H1)) | (go_at_call 10; (with_reducible refine (HJ.out _ (hT0.out.sub HS.below)).mono ?_); rintro e w' ⟨rfl, H1⟩; replace HS := HS.fresh H1; clear H1) | (go_at_call 12; refine (rsame_any _ _ _ _ _ l l (by have := HL20.out; omega) (by have := HL20.out; omega) (Txts.own HS (.head _) rfl).1 (hT0.out.sub HS.below)).mono ?_; rintro e w' ⟨rfl, H1⟩; rw [hll]; replace HS := HS.fresh H1; clear H1))
              go_ret
              exact ⟨rfl, HS.below⟩

set_option maxRecDepth 100000 in
theorem lifted (os : Os) (started : os.Started) (H : Type) (enc : TypeId × Value → H) :
    ReturnsInHanded {} Try.checked os 5 .any (Rows.namesBackSpec.pre6 enc Try.prog Try.f5 Rows.namesBackRow.domain false) (Rows.namesBackSpec.post enc Try.prog Try.f5 false true false false) := by
  refine law_lift (C := Try.checked) own started (by kernel_rfl) Try.func5 laidOut rfl Try.underlying4 rfl ?hs (by kernel_rfl)
    (ChangeSpec.witness6 (enc := enc) (C := Try.checked) false ⟨#[], #[.string ByteArray.empty, .slice none 0 0], []⟩ 8 (by kernel_rfl) (by kernel_rfl) (by kernel_rfl) (by kernel_rfl)) ?hwalk
  case hs =>
    intro ds h
    match ds, h with
    | [d0, d1], _ => rfl
  case hwalk =>
    intro W args hn ha
    obtain ⟨l⟩ := args
    match l, hn with
    | [v0, v1], _ =>
      obtain ⟨s, rfl, hs⟩ := (ha 0 _ _ rfl rfl).string Try.underlying9
      obtain ⟨ad, cap, l, rfl, hm, hcap, hok, hT, hn⟩ := names_arg (ha 1 _ _ rfl rfl)
      exact walk s hs ad cap l W hm hcap hok hT

theorem over : Rows.namesBackRow.holds Try.pinned (OpenSpec.ofChange Rows.namesBackSpec) :=
  OpenClaim.holds_of_wide 5 Try.f5 rfl rfl rfl rfl rfl rfl rfl ⟨rfl, rfl, rfl, rfl, rfl⟩ rfl rfl rfl rfl rfl (by kernel_rfl) Try.func5 (by kernel_rfl)
    (of_decide_eq_true (by kernel_rfl)) (by unfold Func.isWrapper; first | (rw [if_pos (by decide +kernel)]; kernel_rfl) | (rw [if_neg (by decide +kernel)]; exact ⟨rfl, rfl⟩))
    (fun os started H enc _ => lifted os started H enc)

theorem proved : Rows.NamesBackSaid := over
#print axioms proved
end Go.Proofs.Ytaponmniedjkiaa.namesBack
