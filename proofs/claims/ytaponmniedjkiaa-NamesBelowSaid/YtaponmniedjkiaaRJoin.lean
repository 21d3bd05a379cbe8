/- Names are joined, lists of names compared: the reference's way. -/
import Derived.Test.YtaponmniedjkiaaParent
namespace Go.Proofs.Ytaponmniedjkiaa
open Go Go.RowKit

theorem jt_path {l : List (List UInt8)} (h : l ≠ []) : pathOf l = Lib.joinTail [47] l := by
  cases l with
  | nil => exact absurd rfl h
  | cons x r => rw [pathOf, Lib.join_cons]; rfl
theorem jt_snoc {l : List (List UInt8)} {i : Nat} {x : List UInt8} (h : l[i]? = some x) : Lib.joinTail [47] (l.take (i + 1)) = Lib.joinTail [47] (l.take i) ++ [47] ++ x := Lib.joinTail_take_succ _ _ _ _ h
theorem jt_le (l : List (List UInt8)) (i : Nat) : (Lib.joinTail [47] (l.take i)).length ≤ (pathOf l).length := by
  have h1 := Lib.joinTail_take_le [47] l i
  by_cases h : l = []
  · subst h
    rw [List.take_nil]; exact Nat.zero_le _
  · rw [jt_path h]; exact h1

set_option maxRecDepth 100000 in
set_option maxHeartbeats 4000000 in
theorem rjoin_any (w : World) (ad : Option Addr) (cap : Nat) (l : List (List UInt8)) (hn : l.length ≤ 1000000) (ht : (pathOf l).length ≤ 100000000) (hr : Txts w ad l) :
    Calls Try.prog 11 #[.slice ad l.length cap] w fun e w' => e = .returned (.tuple #[.string (mkB (joinN l).2), .int .i64 (joinN l).1]) ∧ w = w' := by
  obtain ⟨q, hq⟩ : ∃ q, joinN l = q := ⟨_, rfl⟩
  rw [hq]
  have HQ : Hid (q = if 512 < (pathOf l).length then (3, []) else if l.all okN = false then (290, []) else if 16 < l.length then (4, []) else (0, pathOf l)) := hq.symm
  have HLE := Lib.hid (jt_le l)
  have hel : ∀ i x, l[i]? = some x → x.length + 1 + (Lib.joinTail [47] (l.take i)).length ≤ 100000000 := fun i x hx => by
    have h1 := jt_le l (i + 1)
    rw [jt_snoc hx, List.length_append, List.length_append] at h1
    simp at h1; omega
  have HEL := Lib.hid hel
  clear hq hel
  go_enter Try.func11, Try.ntmps11
  go_wp2
  go_loop [4, 5] (fun nv iv => ∃ i : Nat, i ≤ l.length ∧ iv = .int .i64 i ∧ nv = .int .i64 (Lib.joinTail [47] (l.take i)).length) (fun _ iv => l.length - (intOf iv).toNat)
  case atStart => exact ⟨0, Nat.zero_le _, rfl, rfl⟩
  case round =>
    obtain ⟨i, hi, rfl, rfl⟩ := hrel
    by_cases hil : i < l.length
    · obtain ⟨x, hx⟩ : ∃ x, l[i]? = some x := ⟨_, List.getElem?_eq_getElem hil⟩
      obtain ⟨A, o, rfl, hc⟩ := hr.cell hx
      have hb := HEL.out i x hx
      have HT : Hid ((Lib.joinTail [47] (l.take (i + 1))).length = (Lib.joinTail [47] (l.take i)).length + 1 + x.length) := by show _ = _; rw [jt_snoc hx, List.length_append, List.length_append]; simp
      have hsx : (mkB x).size = x.length := mkB_size x
      generalize (Lib.joinTail [47] (l.take i)).length = n at *
      clear hx
      go_wp2
      go_round
      case rel => exact ⟨i + 1, by omega, by go_num, by rw [HT.out]; go_num⟩
      case measure => simp [intOf]; omega
    · obtain rfl : i = l.length := by omega
      rw [List.take_length]
      have hjt : 512 < (pathOf l).length ↔ 512 < (Lib.joinTail [47] l).length := by
        by_cases h : l = []
        · subst h; decide
        · rw [jt_path h]
      have hjb : (Lib.joinTail [47] l).length ≤ 100000000 := by have := HLE.out l.length; rw [List.take_length] at this; omega
      by_cases hlong : 512 < (pathOf l).length
      · have hq : q = (3, []) := by rw [HQ.out, if_pos hlong]
        subst hq
        have hb : decide ((512 : Int) < ((Lib.joinTail [47] l).length : Int)) = true := decide_eq_true (by have := hjt.1 hlong; omega)
        clear hjt
        go_wp2
        refine bodyPost_ret (res2 rfl (resTmp _ _ _) (resTmp _ _ _)) rfl ⟨rfl, rfl⟩
      · have hb : decide ((512 : Int) < ((Lib.joinTail [47] l).length : Int)) = false := decide_eq_false (by have := fun h => hlong (hjt.2 h); omega)
        have HQ2 : Hid (q = if l.all okN = false then (290, []) else if 16 < l.length then (4, []) else (0, pathOf l)) := by show _ = _; rw [HQ.out, if_neg hlong]
        clear hjt HQ
        go_wp2
        go_loop [6, 7] (fun pv iv => ∃ i : Nat, i ≤ l.length ∧ iv = .int .i64 i ∧ pv = .string (mkB (Lib.joinTail [47] (l.take i))) ∧ Hid ((l.take i).all okN = true)) (fun _ iv => l.length - (intOf iv).toNat)
        case atStart => exact ⟨0, Nat.zero_le _, rfl, rfl, rfl⟩
        case round =>
          obtain ⟨i, hi, rfl, rfl, HA⟩ := hrel
          by_cases hil : i < l.length
          · obtain ⟨x, hx⟩ : ∃ x, l[i]? = some x := ⟨_, List.getElem?_eq_getElem hil⟩
            obtain ⟨A, o, rfl, hc⟩ := hr.cell hx
            have hb2 := HEL.out i x hx
            have HM := Lib.hid (fun W => rmay_any (mkB x) W (by rw [mkB_size]; unfold maxLen; omega))
            rw [show okName (mkB x) = okN x from rfl] at HM
            have HTK : Hid (l.take (i + 1) = l.take i ++ [x]) := by show _ = _; rw [List.take_add_one, hx]; rfl
            have HX := Lib.hid hx
            clear hx
            cases hok : okN x
            · have hq : q = (290, []) := by rw [HQ2.out, if_pos (lib_all HX.out hok)]
              subst hq
              rw [hok] at HM
              go_wp2_with (go_at_call 20; (with_reducible refine (HM.out _).mono ?_); rintro e w' ⟨rfl, rfl⟩)
              refine bodyPost_ret (res2 rfl (resTmp _ _ _) (resTmp _ _ _)) rfl ⟨rfl, rfl⟩
            · rw [hok] at HM
              have hs1 : (mkB x).size = x.length := mkB_size x
              have hs2 : (mkB (Lib.joinTail [47] (l.take i))).size = (Lib.joinTail [47] (l.take i)).length := mkB_size _
              have HS : Hid (mkB (Lib.joinTail [47] (l.take i)) ++ ⟨#[47]⟩ ++ mkB x = mkB (Lib.joinTail [47] (l.take (i + 1)))) := ba_list (by rw [jt_snoc HX.out]; simp [mkB])
              have hs3 : (mkB (Lib.joinTail [47] (l.take i)) ++ ⟨#[47]⟩).size = (Lib.joinTail [47] (l.take i)).length + 1 := by rw [Lib.size_eq]; simp [mkB]
              generalize (Lib.joinTail [47] (l.take i)) = n at *
              go_wp2_with (go_at_call 20; (with_reducible refine (HM.out _).mono ?_); rintro e w' ⟨rfl, rfl⟩)
              go_round
              case rel => exact ⟨i + 1, by omega, by go_num, by rw [← HS.out], by show _ = _; rw [HTK.out, List.all_append, HA.out]; simp [hok]⟩
              case measure => simp [intOf]; omega
          · obtain rfl : i = l.length := by omega
            rw [List.take_length]
            have hall : l.all okN = true := by have := HA.out; rwa [List.take_length] at this
            have HQ3 : Hid (q = if 16 < l.length then (4, []) else (0, pathOf l)) := by show _ = _; rw [HQ2.out, if_neg (by rw [hall]; simp)]
            clear hall HQ2 HA
            by_cases h16 : 16 < l.length
            · have hq : q = (4, []) := by rw [HQ3.out, if_pos h16]
              subst hq
              have e16 : decide ((16 : Int) < (l.length : Int)) = true := decide_eq_true (by omega)
              go_wp2
              refine bodyPost_ret (res2 rfl (resTmp _ _ _) (resTmp _ _ _)) rfl ⟨rfl, rfl⟩
            · have hq : q = (0, pathOf l) := by rw [HQ3.out, if_neg h16]
              subst hq
              have e16 : decide ((16 : Int) < (l.length : Int)) = false := decide_eq_false (by omega)
              by_cases hl0 : l = []
              · subst hl0
                have hn1 : (mkB (Lib.joinTail [47] ([] : List (List UInt8)))).toList = [] := by rw [Lib.toList_data]; rfl
                have hn2 : (mkB (Lib.joinTail [47] ([] : List (List UInt8)))).toList.isEmpty = true := by rw [hn1]; rfl
                go_wp2
                refine bodyPost_ret (res2 rfl (resTmp _ _ _) (resTmp _ _ _)) rfl ⟨rfl, rfl⟩
              · have hne : ¬ (mkB (Lib.joinTail [47] l)).toList = [] := by
                  rw [Lib.toList_data, mkB_list, ← jt_path hl0]; exact fun e => by cases e
                have hne2 : (mkB (Lib.joinTail [47] l)).toList.isEmpty = false := by
                  cases h : (mkB (Lib.joinTail [47] l)).toList with
                  | nil => exact absurd h hne
                  | cons _ _ => rfl
                have HP := Lib.hid (jt_path hl0)
                go_wp2
                refine bodyPost_ret (res2 rfl (resTmp _ _ _) (resTmp _ _ _)) rfl ⟨by rw [HP.out]; rfl, rfl⟩

set_option maxRecDepth 100000 in
set_option maxHeartbeats 2000000 in
/-- Are lists of names the same? -/
theorem rsame_any (w : World) (ad1 ad2 : Option Addr) (c1 c2 : Nat) (l1 l2 : List (List UInt8)) (hn : l1.length ≤ 1000000) (hn2 : l2.length ≤ 1000000) (h1 : Txts w ad1 l1) (h2 : Txts w ad2 l2) :
    Calls Try.prog 12 #[.slice ad1 l1.length c1, .slice ad2 l2.length c2] w fun e w' => e = .returned (.bool (l1 == l2)) ∧ Mod none' w w' := by
  have HR1 := Lib.hid h1
  have HR2 := Lib.hid h2
  clear h1 h2
  by_cases hnm : l1.length = l2.length
  · have hne : ((l1.length : Int) != (l2.length : Int)) = false := by rw [hnm]; simp
    have hnmI : (l1.length : Int) = (l2.length : Int) := by omega
    go_enter Try.func12, Try.ntmps12
    go_wp2
    go_loopw [5] (fun iv wr => ∃ i : Nat, i ≤ l1.length ∧ iv = .int .i64 i ∧ Mod none' w wr ∧ Hid (l1.take i = l2.take i)) (fun iv _ => l1.length - (intOf iv).toNat)
    case atStart => exact ⟨0, Nat.zero_le _, rfl, Mod.refl _ _, rfl⟩
    case round =>
      obtain ⟨i, hi, rfl, H2, HA⟩ := hrel
      by_cases hil : i < l1.length
      · have hil2 : i < l2.length := by omega
        obtain ⟨x, hx⟩ : ∃ x, l1[i]? = some x := ⟨_, List.getElem?_eq_getElem hil⟩
        obtain ⟨y, hy⟩ : ∃ y, l2[i]? = some y := ⟨_, List.getElem?_eq_getElem hil2⟩
        obtain ⟨A1, o1, rfl, hra1⟩ : ∃ A o, ad1 = some ⟨A, o, none⟩ ∧ wr.rangeAt A o (encS l1) := by
          rcases HR1.out.fresh H2 with h | h
          · subst h; simp at hil
          · exact h
        obtain ⟨A2, o2, rfl, hra2⟩ : ∃ A o, ad2 = some ⟨A, o, none⟩ ∧ wr.rangeAt A o (encS l2) := by
          rcases HR2.out.fresh H2 with h | h
          · subst h; simp at hil2
          · exact h
        have hv1 := encS_get hx
        have hv2 := encS_get hy
        have HX := Lib.hid hx
        have HY := Lib.hid hy
        clear hx hy
        cases hc : ((mkB x).toList == (mkB y).toList)
        · have hxy : x ≠ y := fun e => by
            have := beq_eq_false_iff_ne.1 hc
            exact this (by rw [e])
          have hr : (l1 == l2) = false := by
            rw [beq_eq_false_iff_ne]
            intro e
            have h1 := HX.out
            rw [e, HY.out] at h1
            exact hxy (Option.some.inj h1).symm
          have HRR := Lib.hid hr
          clear hr hxy
          go_wp2
          (try simp only [Act.put])
          refine wp_region_quietF (by kernel_rfl) (by kernel_rfl) ?_
          repeat (first | go_big_quiet_skip | (((with_reducible apply qLoadR1 inferInstance hra1); rfl; rfl; exact hv1); (try simp only [Act.put, List.setIfInBounds_toArray, List.set_cons_zero, List.set_cons_succ])) | (((with_reducible apply qLoadR1 inferInstance hra2); rfl; rfl; exact hv2); (try simp only [Act.put, List.setIfInBounds_toArray, List.set_cons_zero, List.set_cons_succ])) | (go_big_quiet_want; go_big_quiet_op; first | go_big_quiet_on | (refine ⟨_, fun _ _ => rfl, ?_⟩; go_big_quiet_on) | (apply Exists.intro; refine ⟨fun wc hfr => ?_, ?_⟩; (· fail); go_big_quiet_on)))
          refine wpQuiet_nil ?_
          intro w1 hm1
          replace H2 := H2.trans hm1
          clear hm1
          go_wp2
          go_ret
          exact ⟨by rw [HRR.out]; rfl, H2⟩
        · have hxy : x = y := by
            have := beq_iff_eq.1 hc
            rw [Lib.toList_data, Lib.toList_data] at this
            exact this
          subst hxy
          have HT : Hid (l1.take (i + 1) = l2.take (i + 1)) := by show _ = _; rw [List.take_add_one, List.take_add_one, HA.out, HX.out, HY.out]
          clear HA
          go_wp2
          (try simp only [Act.put])
          refine wp_region_quietF (by kernel_rfl) (by kernel_rfl) ?_
          repeat (first | go_big_quiet_skip | (((with_reducible apply qLoadR1 inferInstance hra1); rfl; rfl; exact hv1); (try simp only [Act.put, List.setIfInBounds_toArray, List.set_cons_zero, List.set_cons_succ])) | (((with_reducible apply qLoadR1 inferInstance hra2); rfl; rfl; exact hv2); (try simp only [Act.put, List.setIfInBounds_toArray, List.set_cons_zero, List.set_cons_succ])) | (go_big_quiet_want; go_big_quiet_op; first | go_big_quiet_on | (refine ⟨_, fun _ _ => rfl, ?_⟩; go_big_quiet_on) | (apply Exists.intro; refine ⟨fun wc hfr => ?_, ?_⟩; (· fail); go_big_quiet_on)))
          refine wpQuiet_nil ?_
          intro w1 hm1
          replace H2 := H2.trans hm1
          clear hm1
          go_wp2
          go_roundw
          case rel => exact ⟨i + 1, by omega, by go_num, H2, HT⟩
          case measure => simp [intOf]; omega
      · obtain rfl : i = l1.length := by omega
        have hr : (l1 == l2) = true := by
          rw [beq_iff_eq]
          have := HA.out
          rwa [List.take_length, hnm, List.take_length] at this
        have HRR := Lib.hid hr
        clear hr HA
        go_wp2
        go_ret
        exact ⟨by rw [HRR.out]; rfl, H2⟩
  · have hr : (l1 == l2) = false := by
      rw [beq_eq_false_iff_ne]
      exact fun e => hnm (by rw [e])
    have hne : ((l1.length : Int) != (l2.length : Int)) = true := by simp; omega
    have hneI : ¬ (l1.length : Int) = (l2.length : Int) := by omega
    go_enter Try.func12, Try.ntmps12
    go_wp2
    go_ret
    exact ⟨by rw [hr]; rfl, Mod.refl _ _⟩
end Go.Proofs.Ytaponmniedjkiaa
