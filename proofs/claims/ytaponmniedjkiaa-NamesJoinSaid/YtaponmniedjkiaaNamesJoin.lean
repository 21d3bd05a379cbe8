/- Any names are joined as the chapter says, or refused; they stay. -/
import Derived.Test.YtaponmniedjkiaaNlc
namespace Go.Proofs.Ytaponmniedjkiaa.namesJoin
open Go Go.RowKit Go.ChangeShapes Go.WideShapes Go.ChangeAt
theorem own : ownKnob Try.prog.godebug = none := by kernel_rfl
theorem laidOut : laidOutB Try.prog = true := by kernel_rfl

set_option maxRecDepth 100000 in
set_option maxHeartbeats 4000000 in
theorem walk (ad : Option Addr) (cap : Nat) (l : List (List UInt8)) (w : World) (hm : l.length ≤ maxLen) (hcap : l.length ≤ cap) (hok : ∀ x ∈ l, x.length ≤ maxLen) (hT : Txts w ad l) (hnone : ad = none → l = []) :
    Calls Try.prog 3 #[.slice ad l.length cap] w fun e w' => e = .returned (.bool true) ∧ Below w.heap.size w w' := by
  have HS := St.nil none' w
  have HOK := Lib.hid hok
  unfold maxLen at hm
  clear hok
  go_enter Try.func3, Try.ntmps3
  go_wp2
  go_loop [3, 4] (fun nv iv => ∃ i : Nat, i ≤ l.length ∧ i ≤ 1001 ∧ iv = .int .i64 i ∧ nv = .int .i64 (cnt (l.take i))) (fun _ iv => l.length - (intOf iv).toNat)
  case atStart => exact ⟨0, Nat.zero_le _, by omega, rfl, rfl⟩
  case round =>
    obtain ⟨i, hi, hi1, rfl, rfl⟩ := hrel
    by_cases hgo : i < l.length ∧ i ≤ 1000
    · obtain ⟨hil, hi0⟩ := hgo
      have e1 : decide ((i : Int) < (l.length : Int)) = true := decide_eq_true (by omega)
      have e2 : decide ((i : Int) ≤ 1000) = true := decide_eq_true (by omega)
      obtain ⟨x, hx⟩ : ∃ x, l[i]? = some x := ⟨_, List.getElem?_eq_getElem hil⟩
      obtain ⟨A, o, rfl, hc⟩ := hT.cell hx
      have hxl := HOK.out x (List.mem_of_getElem? hx)
      unfold maxLen at hxl
      have hsx : (mkB x).size = x.length := mkB_size x
      have HC : Hid (cnt (l.take (i + 1)) = cnt (l.take i) + min x.length 20001) := cnt_step hx
      have hcl := cnt_take_le l i
      generalize cnt (l.take i) = n at *
      clear hx
      go_wp2
      go_round
      case rel => exact ⟨i + 1, by omega, by omega, by go_num, by rw [HC.out]; go_num⟩
      case measure => simp [intOf]; omega
    · have hcl := cnt_take_le l i
      have hsame : (cnt (l.take i) : Int) = (cnt (l.take i) : Int) := rfl
      by_cases hlong : 1000 < l.length
      · obtain rfl : i = 1001 := by omega
        have e2 : decide ((1001 : Int) ≤ 1000) = false := rfl
        have e3 : decide ((1000 : Int) < (l.length : Int)) = true := decide_eq_true (by omega)
        have e3I : (1000 : Int) < (l.length : Int) := by omega
        by_cases hil : 1001 < l.length
        · have e1 : decide ((1001 : Int) < (l.length : Int)) = true := decide_eq_true (by omega)
          go_wp2
          go_ret
          exact ⟨rfl, HS.below⟩
        · have e1 : decide ((1001 : Int) < (l.length : Int)) = false := decide_eq_false (by omega)
          go_wp2
          go_ret
          exact ⟨rfl, HS.below⟩
      · obtain rfl : i = l.length := by omega
        rw [List.take_length] at hcl ⊢
        have e1 : decide ((l.length : Int) < (l.length : Int)) = false := decide_eq_false (by omega)
        have e3 : decide ((1000 : Int) < (l.length : Int)) = false := decide_eq_false (by omega)
        have e3I : ¬ (1000 : Int) < (l.length : Int) := by omega
        by_cases hbig : 20000 < cnt l
        · have e4 : decide ((20000 : Int) < (cnt l : Int)) = true := decide_eq_true (by omega)
          have e4I : (20000 : Int) < (cnt l : Int) := by omega
          go_wp2
          go_ret
          exact ⟨rfl, HS.below⟩
        · have e4 : decide ((20000 : Int) < (cnt l : Int)) = false := decide_eq_false (by omega)
          have e4I : ¬ (20000 : Int) < (cnt l : Int) := by omega
          have hpl := cnt_path (l := l) (by omega)
          have HJ := Lib.hid (fun (W : World) ad cap h1 h2 => join_any W ad cap l (by omega) h1 (by omega) h2)
          have HRJ := Lib.hid (fun (W : World) ad cap h2 => rjoin_any W ad cap l (by omega) (by omega) h2)
          obtain ⟨q, t, hq⟩ : ∃ q t, joinN l = (q, t) := ⟨_, _, rfl⟩
          rw [hq] at HJ HRJ
          simp only at HJ HRJ
          have hll : (l == l) = true := by simp
          have HT := Lib.hid hT
          have hlen : Hid ((encS l).length = l.length * 1) := by show _ = _; rw [encS_len]; omega
          clear hq hT
          cases ad with
          | none =>
            have hl0 := hnone rfl
            subst hl0
            go_wp2_with (first | ((with_reducible apply sEmpty HS Try.underlying22 (sz := 1)); kernel_rfl; rfl; intro B w' H1; clear HS; have HS := H1; clear H1) | (go_at_call 10; refine (HJ.out _ _ _ (Nat.zero_le _) (.inl rfl)).mono ?_; rintro e w' ⟨rfl, H1⟩; replace HS := HS.fresh H1; clear H1) | (go_at_call 11; refine (HRJ.out _ _ _ (.inl rfl)).mono ?_; rintro e w' ⟨rfl, rfl⟩) | (go_at_call 12; refine (rsame_any _ _ _ _ _ [] [] (by decide) (by decide) (.inl rfl) (.inl rfl)).mono ?_; rintro e w' ⟨rfl, H1⟩; rw [hll]; replace HS := HS.fresh H1; clear H1))
            go_ret
            exact ⟨by simp, HS.below⟩
          | some a =>
            go_wp2_with (first | ((with_reducible apply sEmpty HS Try.underlying22 (sz := 1)); kernel_rfl; rfl; intro B w' H1; clear HS; have HS := H1; clear H1) | (at_builtin; (with_reducible apply sAppend HS Try.underlying22 infoS rfl (by decide)); (conv => (lhs; whnf)); (intro v'; (repeat (first | exact Rep.here | apply Rep.there))); rfl; rotate_left; exact (HT.out.sub HS.below).news; rotate_right; exact hlen.out; exact encS_one _; decide; (rw [Nat.zero_add]; omega); intro v1 w' H1 hnil; clear HS; have HS := H1; clear H1 hnil; rw [Nat.zero_add, List.nil_append] at HS; obtain ⟨ad1, cap1, rfl⟩ := own_slice (HS.own (.head _))) | (go_at_call 10; refine (HJ.out _ _ _ (Txts.own HS (.head _) rfl).2 (Txts.own HS (.head _) rfl).1).mono ?_; rintro e w' ⟨rfl, H1⟩; replace HS := HS.fresh H1; clear H1) | (go_at_call 11; refine (HRJ.out _ _ _ (HT.out.sub HS.below)).mono ?_; rintro e w' ⟨rfl, rfl⟩) | (go_at_call 12; refine (rsame_any _ _ _ _ _ l l (by omega) (by omega) (Txts.own HS (.head _) rfl).1 (HT.out.sub HS.below)).mono ?_; rintro e w' ⟨rfl, H1⟩; rw [hll]; replace HS := HS.fresh H1; clear H1))
            go_ret
            exact ⟨by simp, HS.below⟩

set_option maxRecDepth 100000 in
theorem lifted (os : Os) (started : os.Started) (H : Type) (enc : TypeId × Value → H) :
    ReturnsInHanded {} Try.checked os 3 .any (Rows.namesJoinSpec.pre6 enc Try.prog Try.f3 Rows.namesJoinRow.domain false) (Rows.namesJoinSpec.post enc Try.prog Try.f3 false true false false) := by
  refine law_lift (C := Try.checked) own started (by kernel_rfl) Try.func3 laidOut rfl Try.underlying4 rfl ?hs (by kernel_rfl)
    (ChangeSpec.witness6 (enc := enc) (C := Try.checked) false ⟨#[], #[.slice none 0 0], []⟩ 8 (by kernel_rfl) (by kernel_rfl) (by kernel_rfl) (by kernel_rfl)) ?hwalk
  case hs =>
    intro ds h
    match ds, h with
    | [d0], _ => rfl
  case hwalk =>
    intro W args hn ha
    obtain ⟨l⟩ := args
    match l, hn with
    | [v0], _ =>
      obtain ⟨ad, cap, l, rfl, hm, hcap, hok, hT, hn⟩ := names_arg (ha 0 _ _ rfl rfl)
      exact walk ad cap l W hm hcap hok hT hn

theorem over : Rows.namesJoinRow.holds Try.pinned (OpenSpec.ofChange Rows.namesJoinSpec) :=
  OpenClaim.holds_of_wide 3 Try.f3 rfl rfl rfl rfl rfl rfl rfl ⟨rfl, rfl, rfl, rfl, rfl⟩ rfl rfl rfl rfl rfl (by kernel_rfl) Try.func3 (by kernel_rfl)
    (of_decide_eq_true (by kernel_rfl)) (by unfold Func.isWrapper; first | (rw [if_pos (by decide +kernel)]; kernel_rfl) | (rw [if_neg (by decide +kernel)]; exact ⟨rfl, rfl⟩))
    (fun os started H enc _ => lifted os started H enc)

theorem proved : Rows.NamesJoinSaid := over
#print axioms proved
end Go.Proofs.Ytaponmniedjkiaa.namesJoin
