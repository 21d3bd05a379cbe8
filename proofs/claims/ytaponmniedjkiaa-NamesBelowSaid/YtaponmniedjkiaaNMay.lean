/- May a name be? The program's and the reference's answer. -/
import Derived.Test.YtaponmniedjkiaaMay3
namespace Go.Proofs.Ytaponmniedjkiaa
open Go Go.RowKit

def okN (l : List UInt8) : Bool := decide (1 ≤ l.length) && decide (l.length ≤ 27) && !(l.any badB) && !(l == [46]) && !(l == [46, 46])
def okName (s : ByteArray) : Bool := okN s.data.toList

theorem badB_no {x : UInt8} (h : badB x = false) : ¬ (x.toNat : Int) = 47 ∧ ¬ (x.toNat : Int) = 0 := by
  unfold badB at h
  simp only [Bool.or_eq_false_iff, beq_eq_false_iff_ne] at h
  refine ⟨fun e => h.1 (UInt8.toNat_inj.1 ?_), fun e => h.2 (UInt8.toNat_inj.1 ?_)⟩
  · have : x.toNat = 47 := by omega
    exact this
  · have : x.toNat = 0 := by omega
    exact this
theorem badB_yes {x : UInt8} (h : badB x = true) : (x.toNat : Int) = 47 ∨ (¬ (x.toNat : Int) = 47 ∧ (x.toNat : Int) = 0) := by
  unfold badB at h
  simp only [Bool.or_eq_true, beq_iff_eq] at h
  rcases h with rfl | rfl
  · exact .inl rfl
  · exact .inr ⟨by decide, rfl⟩

theorem pmay_any (s : ByteArray) (w : World) (hs : s.size ≤ maxLen) :
    Calls Try.prog 19 #[.string s] w fun e w' => e = .returned (.bool (okName s)) ∧ Mod none' w w' := by
  have hl := Lib.toList_data s
  have hn := Lib.size_eq s
  have HO : Hid (okName s = (decide (1 ≤ s.size) && decide (s.size ≤ 27) && !(s.data.toList.any badB) && !(s.toList == [46]) && !(s.toList == [46, 46]))) := by
    show _ = _; rw [hl, hn]; rfl
  unfold maxLen at hs
  generalize okName s = ok at HO ⊢
  clear hl hn
  by_cases h1 : 1 ≤ s.size
  · by_cases h2 : s.size ≤ 27
    · have HC := Lib.hid (cany s w (by omega))
      have e1 : decide ((1 : Int) ≤ (s.size : Int)) = true := decide_eq_true (by omega)
      have e2 : decide ((s.size : Int) ≤ 27) = true := decide_eq_true (by omega)
      have HO2 : Hid (ok = (!(s.data.toList.any badB) && !(s.toList == [46]) && !(s.toList == [46, 46]))) := by show _ = _; rw [HO.out, decide_eq_true h1, decide_eq_true h2]; simp
      clear HO
      generalize s.data.toList.any badB = b at HC HO2
      cases b
      · by_cases h3 : s.toList = [46]
        · have HO3 : Hid (ok = false) := by show _ = _; rw [HO2.out, h3]; rfl
          clear HO2
          go_enter Try.func19, Try.ntmps19
          go_wp2_with (go_at_call 26; refine HC.out.mono ?_; rintro e w' ⟨rfl, hw⟩)
          go_ret
          exact ⟨by rw [HO3.out]; rfl, hw⟩
        · by_cases h4 : s.toList = [46, 46]
          · have HO3 : Hid (ok = false) := by show _ = _; rw [HO2.out, h4]; rfl
            clear HO2
            go_enter Try.func19, Try.ntmps19
            go_wp2_with (go_at_call 26; refine HC.out.mono ?_; rintro e w' ⟨rfl, hw⟩)
            go_ret
            exact ⟨by rw [HO3.out]; rfl, hw⟩
          · have HO3 : Hid (ok = true) := by show _ = _; rw [HO2.out, beq_eq_false_iff_ne.2 h3, beq_eq_false_iff_ne.2 h4]; rfl
            have b3 := beq_eq_false_iff_ne.2 h3
            have b4 := beq_eq_false_iff_ne.2 h4
            clear HO2
            go_enter Try.func19, Try.ntmps19
            go_wp2_with (go_at_call 26; refine HC.out.mono ?_; rintro e w' ⟨rfl, hw⟩)
            go_ret
            exact ⟨by rw [HO3.out]; rfl, hw⟩
      · have HO3 : Hid (ok = false) := HO2.out
        clear HO2
        go_enter Try.func19, Try.ntmps19
        go_wp2_with (go_at_call 26; refine HC.out.mono ?_; rintro e w' ⟨rfl, hw⟩)
        go_ret
        exact ⟨by rw [HO3.out]; rfl, hw⟩
    · have HO3 : Hid (ok = false) := by show _ = _; rw [HO.out, decide_eq_false h2]; simp
      clear HO
      have e1 : decide ((1 : Int) ≤ (s.size : Int)) = true := decide_eq_true (by omega)
      have e2 : decide ((s.size : Int) ≤ 27) = false := decide_eq_false (by omega)
      go_enter Try.func19, Try.ntmps19
      go_wp2
      go_ret
      exact ⟨by rw [HO3.out]; rfl, Mod.refl _ _⟩
  · have HO3 : Hid (ok = false) := by show _ = _; rw [HO.out, decide_eq_false h1]; simp
    clear HO
    have e1 : decide ((1 : Int) ≤ (s.size : Int)) = false := decide_eq_false (by omega)
    go_enter Try.func19, Try.ntmps19
    go_wp2
    go_ret
    exact ⟨by rw [HO3.out]; rfl, Mod.refl _ _⟩

set_option maxRecDepth 100000 in
set_option maxHeartbeats 4000000 in
theorem rmay_any (s : ByteArray) (w : World) (hs : s.size ≤ maxLen) :
    Calls Try.prog 20 #[.string s] w fun e w' => e = .returned (.bool (okName s)) ∧ w = w' := by
  have hl := Lib.toList_data s
  have hn := Lib.size_eq s
  have HO : Hid (okName s = (decide (1 ≤ s.size) && decide (s.size ≤ 27) && !(s.data.toList.any badB) && !(s.toList == [46]) && !(s.toList == [46, 46]))) := by
    show _ = _; rw [hl, hn]; rfl
  unfold maxLen at hs
  generalize hok : okName s = ok at HO ⊢
  clear hok
  by_cases h1 : 1 ≤ s.size
  · have h0 : ¬ s.toList = [] := fun e => by
      rw [hl] at e
      have : s.data.toList.length = 0 := by rw [e]; rfl
      omega
    have hE : s.toList.isEmpty = false := by cases h : s.toList with
      | nil => exact absurd h h0
      | cons _ _ => rfl
    by_cases h2 : s.size ≤ 27
    · have e2 : decide ((27 : Int) < (s.size : Int)) = false := decide_eq_false (by omega)
      have HO2 : Hid (ok = (!(s.data.toList.any badB) && !(s.toList == [46]) && !(s.toList == [46, 46]))) := by show _ = _; rw [HO.out, decide_eq_true h1, decide_eq_true h2]; simp
      clear HO
      cases b3 : s.toList == [46]
      · cases b4 : s.toList == [46, 46]
        · have HO3 : Hid (ok = !(s.data.toList.any badB)) := by show _ = _; rw [HO2.out, b3, b4]; simp
          have n3 := beq_eq_false_iff_ne.1 b3
          have n4 := beq_eq_false_iff_ne.1 b4
          have HN := Lib.hid hn
          clear HO2 hl hn
          go_enter Try.func20, Try.ntmps20
          go_wp2
          go_loop [3] (fun i => ∃ k : Nat, k ≤ s.size ∧ i = .int .i64 k ∧ Hid ((s.data.toList.take k).any badB = false)) (fun i => s.size - (intOf i).toNat)
          case atStart => exact ⟨0, by omega, rfl, by simp [Hid]⟩
          case round =>
            obtain ⟨k, hk, rfl, HA⟩ := hrel
            by_cases hlt : k < s.size
            · obtain ⟨x, hx⟩ : ∃ x : UInt8, s[k]'hlt = x := ⟨_, rfl⟩
              have hxl : s.data.toList[k]? = some x := by rw [← hx]; exact Lib.data_getElem? s k hlt
              have HT : Hid (s.data.toList.take (k + 1) = s.data.toList.take k ++ [x]) := by show _ = _; rw [List.take_add_one, hxl]; rfl
              have HXL := Lib.hid hxl
              clear hxl
              cases hb : badB x
              · obtain ⟨c1, c2⟩ := badB_no hb
                have hb1 : (((s[k]'hlt).toNat : Int) == 47) = false := by rw [hx]; exact beq_eq_false_iff_ne.2 c1
                have hb2 : (((s[k]'hlt).toNat : Int) == 0) = false := by rw [hx]; exact beq_eq_false_iff_ne.2 c2
                have hb3 := beq_eq_false_iff_ne.1 hb1
                have HX := Lib.hid hx
                clear hx
                go_wp2
                go_round
                case rel => exact ⟨k + 1, by omega, by go_num, by show _ = _; rw [HT.out, List.any_append, HA.out]; simp [hb]⟩
                case measure => simp [intOf]; omega
              · have HB : Hid (s.data.toList.any badB = true) := List.any_eq_true.2 ⟨x, List.mem_of_getElem? HXL.out, hb⟩
                rcases badB_yes hb with c1 | ⟨c1, c2⟩
                · have hb1 : (((s[k]'hlt).toNat : Int) == 47) = true := by rw [hx]; exact beq_iff_eq.2 c1
                  have hb3 := beq_iff_eq.1 hb1
                  clear hx
                  go_wp2
                  go_ret
                  exact ⟨by rw [HO3.out, HB.out]; rfl, rfl⟩
                · have hb1 : (((s[k]'hlt).toNat : Int) == 47) = false := by rw [hx]; exact beq_eq_false_iff_ne.2 c1
                  have hb2 : (((s[k]'hlt).toNat : Int) == 0) = true := by rw [hx]; exact beq_iff_eq.2 c2
                  have hb3 := beq_eq_false_iff_ne.1 hb1
                  clear hx
                  go_wp2
                  go_ret
                  exact ⟨by rw [HO3.out, HB.out]; rfl, rfl⟩
            · obtain rfl : k = s.size := by omega
              go_wp2
              go_ret
              exact ⟨by rw [HO3.out]; have h := HA.out; rw [HN.out, List.take_length] at h; rw [h]; rfl, rfl⟩
        · have HO3 : Hid (ok = false) := by show _ = _; rw [HO2.out, b4]; simp
          have n3 := beq_eq_false_iff_ne.1 b3
          clear HO2 hl hn
          go_enter Try.func20, Try.ntmps20
          go_wp2
          go_ret
          exact ⟨by rw [HO3.out]; rfl, rfl⟩
      · have HO3 : Hid (ok = false) := by show _ = _; rw [HO2.out, b3]; simp
        clear HO2 hl hn
        go_enter Try.func20, Try.ntmps20
        go_wp2
        go_ret
        exact ⟨by rw [HO3.out]; rfl, rfl⟩
    · have HO3 : Hid (ok = false) := by show _ = _; rw [HO.out, decide_eq_false h2]; simp
      clear HO hl hn
      have e2 : decide ((27 : Int) < (s.size : Int)) = true := decide_eq_true (by omega)
      go_enter Try.func20, Try.ntmps20
      go_wp2
      go_ret
      exact ⟨by rw [HO3.out]; rfl, rfl⟩
  · have HO3 : Hid (ok = false) := by show _ = _; rw [HO.out, decide_eq_false h1]; simp
    have h0 : s.toList = [] := by rw [hl]; exact List.eq_nil_of_length_eq_zero (by omega)
    clear HO hl hn
    go_enter Try.func20, Try.ntmps20
    go_wp2
    go_ret
    exact ⟨by rw [HO3.out]; rfl, rfl⟩
end Go.Proofs.Ytaponmniedjkiaa
