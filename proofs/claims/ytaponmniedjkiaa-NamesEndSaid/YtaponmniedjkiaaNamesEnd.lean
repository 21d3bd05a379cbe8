/- A path but / alone, with a / behind it, is refused; so is one with a / ahead. -/
import Derived.Test.YtaponmniedjkiaaNlp
namespace Go.Proofs.Ytaponmniedjkiaa.namesEnd
open Go Go.RowKit Go.ChangeShapes Go.WideShapes Go.ChangeAt
theorem own : ownKnob Try.prog.godebug = none := by kernel_rfl
theorem laidOut : laidOutB Try.prog = true := by kernel_rfl

set_option maxRecDepth 100000 in
set_option maxHeartbeats 8000000 in
theorem walk (s : ByteArray) (hs : s.size ≤ maxLen) (w : World) :
    Calls Try.prog 9 #[.string s] w fun e w' => e = .returned (.bool true) ∧ Below w.heap.size w w' := by
  have HS := St.nil none' w
  unfold maxLen at hs
  have hl := Lib.toList_data s
  have hsz := Lib.size_eq s
  by_cases hlong : 5000 < s.size
  · have e1 : decide ((5000 : Int) < (s.size : Int)) = true := decide_eq_true (by omega)
    have e1I : (5000 : Int) < (s.size : Int) := by omega
    clear hl hsz
    go_enter Try.func9, Try.ntmps9
    go_wp2_with (go_at_call 17; refine (aw.awake_any _).mono ?_; rintro e w' ⟨rfl, H1⟩; replace HS := HS.fresh H1; clear H1)
    go_ret
    exact ⟨rfl, HS.below⟩
  have e1 : decide ((5000 : Int) < (s.size : Int)) = false := decide_eq_false (by omega)
  have e1I : ¬ (5000 : Int) < (s.size : Int) := by omega
  rcases hb : s.data.toList with _ | ⟨b, r⟩
  · have e4 : s.toList.isEmpty = true := by rw [hl, hb]; rfl
    have e5 : (s.toList == ([] : List UInt8)) = true := by rw [hl, hb]; rfl
    clear hl hsz hb
    go_enter Try.func9, Try.ntmps9
    go_wp2_with (go_at_call 17; refine (aw.awake_any _).mono ?_; rintro e w' ⟨rfl, H1⟩; replace HS := HS.fresh H1; clear H1)
    go_ret
    exact ⟨rfl, HS.below⟩
  have e4 : s.toList.isEmpty = false := by rw [hl, hb]; rfl
  have e5 : (s.toList == ([] : List UInt8)) = false := by rw [hl, hb]; rfl
  have h0 : 0 < s.size := by rw [hsz, hb]; simp
  have h0I : (0 : Int) < (s.size : Int) := by omega
  have hb0 : s[0]'h0 = b := by
    have := Lib.data_getElem? s 0 h0
    rw [hb] at this
    exact (Option.some.inj this).symm
  obtain ⟨q, hq0, hq⟩ := split_none (split_slash (b := b) (r := r))
  have hz1 : (s ++ ⟨#[47]⟩).size = s.size + 1 := by rw [Lib.size_eq, hsz]; simp
  have hz2 : ((⟨#[47]⟩ : ByteArray) ++ s).size = s.size + 1 := by rw [Lib.size_eq, hsz]; simp
  have HA := Lib.hid (fun (S : Nat → Prop) (w0 W : World) (L : List Ass) (HS : St S w0 W L) => aw.split_at HS (s ++ ⟨#[47]⟩) (by omega) (show splitN (s ++ ⟨#[47]⟩).data.toList = (q, []) by rw [show (s ++ ⟨#[47]⟩).data.toList = (b :: r) ++ [47] by simp [hb]]; exact hq))
  have hqb : (q != 0) = true := by simpa using hq0
  obtain ⟨q2, l2, hq2⟩ : ∃ q2 l2, splitN (47 :: b :: r) = (q2, l2) := ⟨_, _, rfl⟩
  have HB := Lib.hid (fun (S : Nat → Prop) (w0 W : World) (L : List Ass) (HS : St S w0 W L) => aw.split_at HS ((⟨#[47]⟩ : ByteArray) ++ s) (by omega) (show splitN ((⟨#[47]⟩ : ByteArray) ++ s).data.toList = (q2, l2) by rw [show ((⟨#[47]⟩ : ByteArray) ++ s).data.toList = 47 :: b :: r by simp [hb]]; exact hq2))
  by_cases hb47 : b = 47
  · subst hb47
    obtain ⟨q3, hq3, h3⟩ := split_none (split_two (r := r))
    rw [h3] at hq2
    obtain ⟨rfl, rfl⟩ := Prod.mk.inj hq2
    have hqb2 : (q3 != 0) = true := by simpa using hq3
    have c1 : (((s[0]'h0).toNat : Int) == 47) = true := by rw [hb0]; rfl
    have c2 : (((s[0]'h0).toNat : Int) != 47) = false := by rw [bne, c1]; rfl
    have c3 := beq_iff_eq.1 c1
    clear hl hsz hb hb0 hq hq2 h3 hq0 hq3
    go_enter Try.func9, Try.ntmps9
    go_wp2_with (first | (go_at_call 17; refine (aw.awake_any _).mono ?_; rintro e w' ⟨rfl, H1⟩; replace HS := HS.fresh H1; clear H1) | (go_at_call 14; (with_reducible refine (HA.out _ _ _ _ HS).mono ?_); rintro e w' ⟨v, rfl, H1⟩; clear HS; have HS := H1; clear H1; obtain ⟨ad1, ad1c, rfl⟩ := own_slice (HS.own (.head _))) | (go_at_call 14; (with_reducible refine (HB.out _ _ _ _ HS).mono ?_); rintro e w' ⟨v, rfl, H1⟩; clear HS; have HS := H1; clear H1; obtain ⟨ad2, ad2c, rfl⟩ := own_slice (HS.own (.head _))))
    go_ret
    exact ⟨rfl, HS.below⟩
  · have c1 : (((s[0]'h0).toNat : Int) == 47) = false := by
      rw [hb0, beq_eq_false_iff_ne]
      intro e
      apply hb47
      apply UInt8.toNat_inj.1
      have : b.toNat = 47 := by omega
      exact this
    have c2 : (((s[0]'h0).toNat : Int) != 47) = true := by rw [bne, c1]; rfl
    have c3 := beq_eq_false_iff_ne.1 c1
    clear hl hsz hb hb0 hq hq2 hq0 hb47
    go_enter Try.func9, Try.ntmps9
    go_wp2_with (first | (go_at_call 17; refine (aw.awake_any _).mono ?_; rintro e w' ⟨rfl, H1⟩; replace HS := HS.fresh H1; clear H1) | (go_at_call 14; (with_reducible refine (HA.out _ _ _ _ HS).mono ?_); rintro e w' ⟨v, rfl, H1⟩; clear HS; have HS := H1; clear H1; obtain ⟨ad1, ad1c, rfl⟩ := own_slice (HS.own (.head _))) | (go_at_call 14; (with_reducible refine (HB.out _ _ _ _ HS).mono ?_); rintro e w' ⟨v, rfl, H1⟩; clear HS; have HS := H1; clear H1; obtain ⟨ad2, ad2c, rfl⟩ := own_slice (HS.own (.head _))))
    go_ret
    exact ⟨rfl, HS.below⟩

set_option maxRecDepth 100000 in
theorem lifted (os : Os) (started : os.Started) (H : Type) (enc : TypeId × Value → H) :
    ReturnsInHanded {} Try.checked os 9 .any (Rows.namesEndSpec.pre6 enc Try.prog Try.f9 Rows.namesEndRow.domain false) (Rows.namesEndSpec.post enc Try.prog Try.f9 false true false false) := by
  refine law_lift (C := Try.checked) own started (by kernel_rfl) Try.func9 laidOut rfl Try.underlying4 rfl ?hs (by kernel_rfl)
    (ChangeSpec.witness6 (enc := enc) (C := Try.checked) false ⟨#[], #[.string ByteArray.empty], []⟩ 8 (by kernel_rfl) (by kernel_rfl) (by kernel_rfl) (by kernel_rfl)) ?hwalk
  case hs =>
    intro ds h
    match ds, h with
    | [d0], _ => rfl
  case hwalk =>
    intro W args hn ha
    obtain ⟨l⟩ := args
    match l, hn with
    | [v0], _ =>
      obtain ⟨s, rfl, hs⟩ := (ha 0 _ _ rfl rfl).string Try.underlying9
      exact walk s hs W

theorem over : Rows.namesEndRow.holds Try.pinned (OpenSpec.ofChange Rows.namesEndSpec) :=
  OpenClaim.holds_of_wide 9 Try.f9 rfl rfl rfl rfl rfl rfl rfl ⟨rfl, rfl, rfl, rfl, rfl⟩ rfl rfl rfl rfl rfl (by kernel_rfl) Try.func9 (by kernel_rfl)
    (of_decide_eq_true (by kernel_rfl)) (by unfold Func.isWrapper; first | (rw [if_pos (by decide +kernel)]; kernel_rfl) | (rw [if_neg (by decide +kernel)]; exact ⟨rfl, rfl⟩))
    (fun os started H enc _ => lifted os started H enc)

theorem proved : Rows.NamesEndSaid := over
#print axioms proved
end Go.Proofs.Ytaponmniedjkiaa.namesEnd
