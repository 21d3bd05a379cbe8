/- What stands behind each / of a path, one by one: the iterator. -/
import Derived.Test.YtaponmniedjkiaaNp
import Derived.Test.YtaponmniedjkiaaCut
import Derived.Test.YtaponmniedjkiaaRange
import Derived.Test.YtaponmniedjkiaaSlc
namespace Go.Proofs.Ytaponmniedjkiaa
open Go Go.RowKit Go.Shelf
attribute [local go_sem] Oper.semAt_some

/-- The text of some bytes. -/
def mkB (l : List UInt8) : ByteArray := ⟨l.toArray⟩
theorem mkB_list (l : List UInt8) : (mkB l).data.toList = l := rfl
theorem mkB_data (s : ByteArray) : mkB s.data.toList = s := Lib.mk_data s
theorem mkB_size (l : List UInt8) : (mkB l).size = l.length := by rw [Lib.size_eq, mkB_list]
theorem ba_list {a b : ByteArray} (h : a.data.toList = b.data.toList) : a = b := by rw [← mkB_data a, ← mkB_data b, h]
theorem mkB_inj {a b : List UInt8} : mkB a = mkB b ↔ a = b := ⟨fun h => by rw [← mkB_list a, h, mkB_list], fun h => by rw [h]⟩
theorem extract_list (s : ByteArray) (i j : Nat) : (s.extract i j).data.toList = (s.data.toList.take j).drop i := by
  rw [ByteArray.data_extract, Array.toList_extract, List.extract_eq_take_drop, List.drop_take]
theorem first47 : ∀ r : List UInt8, (47 : UInt8) ∉ r ∨ ∃ h t, r = h ++ 47 :: t ∧ (47 : UInt8) ∉ h
  | [] => .inl (by simp)
  | b :: r => by
    by_cases hb : b = 47
    · subst hb; exact .inr ⟨[], r, rfl, by simp⟩
    · rcases first47 r with h | ⟨h, t, rfl, hn⟩
      · exact .inl (by simp only [List.mem_cons, not_or]; exact ⟨fun e => hb e.symm, h⟩)
      · exact .inr ⟨b :: h, t, rfl, by simp only [List.mem_cons, not_or]; exact ⟨fun e => hb e.symm, hn⟩⟩
theorem cutV_no {s : ByteArray} (h : (47 : UInt8) ∉ s.data.toList) : cutV s = .tuple #[.string s, .string (mkB []), .bool false] := by
  unfold cutV
  rcases indexByte_cases 47 s.data.toList with ⟨h1, _⟩ | ⟨k, _, _, h3, _⟩
  · rw [h1]; rfl
  · exact absurd (List.mem_of_getElem? h3) h
theorem cutV_at {s : ByteArray} {h t : List UInt8} (hs : s.data.toList = h ++ 47 :: t) (hn : (47 : UInt8) ∉ h) : cutV s = .tuple #[.string (mkB h), .string (mkB t), .bool true] := by
  have hz : s.size = h.length + (t.length + 1) := by rw [Lib.size_eq, hs]; simp
  rcases indexByte_cases 47 s.data.toList with ⟨_, h2⟩ | ⟨k, h1, h2, h3, h4⟩
  · rw [hs] at h2; simp at h2
  have hk : k = h.length := by
    rw [hs] at h3 h4
    rcases Nat.lt_trichotomy k h.length with hl | hl | hl
    · rw [List.getElem?_append_left hl] at h3
      exact absurd (List.mem_of_getElem? h3) hn
    · exact hl
    · exfalso
      apply h4
      rw [List.take_append, List.take_of_length_le (by omega)]
      have : k - h.length = (k - h.length - 1) + 1 := by omega
      rw [this]
      simp
  subst hk
  unfold cutV
  rw [h1, if_pos (by omega), Int.toNat_natCast]
  have e1 : s.extract 0 h.length = mkB h := ba_list (by rw [extract_list, hs, mkB_list]; simp)
  have e2 : s.extract (h.length + 1) s.size = mkB t := ba_list (by
    rw [extract_list, mkB_list, List.take_of_length_le (by rw [hs, hz]; simp), hs, List.drop_append, List.drop_of_length_le (by omega)]
    simp)
  rw [e1, e2]
theorem Mod.keeps {X Y : World} (h : Mod none' X Y) (B : Nat) : KeepsFrom B X Y := ⟨h.size, fun _ _ _ hk _ => h.row hk (fun e => e)⟩
theorem Mod.sameC {X Y : World} (h : Mod none' X Y) (b : Nat) : SameC b X Y := fun _ _ _ e => h.row e (fun e => e)
def strOf : Value → ByteArray
  | .string s => s
  | _ => ByteArray.empty
abbrev segV (p : List UInt8) (i : Nat) : Array Value := #[.string (mkB ((rowP p).getD i []))]

set_option maxRecDepth 100000 in
set_option maxHeartbeats 2000000 in
theorem each_iter (B1 : Nat) (s : ByteArray) (hs : s.size ≤ 1000000) :
    Iter Try.prog 28 #[.pointer (some ⟨B1, 0, none⟩)] (segV s.data.toList) (rowP s.data.toList).length (fun X Y => SameC B1 X Y) (fun X Y => Mod none' X Y)
      (fun W => W.heap[B1]? = some (.cells #[.string s] 9 (0, 0))) := by
  intro l Jv Jx W m hW hJs hJxs hY h0
  have hsz := Lib.size_eq s
  refine callsIn_of_wp Try.func28 rfl trivial ?_ rfl
  simp only [Try.ntmps28, List.size_toArray, List.length_cons, List.length_nil, Nat.reduceAdd, Nat.reduceSub, Array.replicate_succ, Array.replicate_zero, List.push_toArray, List.append_toArray, List.nil_append, List.cons_append]
  have c1 := (cell_of_row W B1 0 _ _ _ hW).trans (show _ = some (.string s) from rfl)
  by_cases hp : s.data.toList = [] ∨ s.data.toList = [47]
  · have hN : rowP s.data.toList = [] := if_pos hp
    rw [hN]
    have HJ := Lib.hid h0
    gi_wp2
    gi_loopw [3] (fun at_ wr => at_ = .string s ∧ Hid (Jv 0 wr) ∧ wr.heap[B1]? = some (.cells #[.string s] 9 (0, 0))) (fun _ _ => 0)
    case atStart => exact ⟨rfl, HJ, hW⟩
    case round =>
      obtain ⟨rfl, HJ, hW⟩ := hrel
      have c1 := (cell_of_row wr B1 0 _ _ _ hW).trans (show _ = some (.string s) from rfl)
      rcases hp with hp | hp
      · have hz : s.size = 0 := by rw [hsz, hp]; rfl
        have e0 : decide ((0 : Int) < (s.size : Int)) = false := by rw [hz]; rfl
        clear hsz
        gi_wp2
        go_end0
        exact ⟨⟨_, rfl⟩, .inl HJ.out⟩
      · have hz : s.size = 1 := by rw [hsz, hp]; rfl
        have e0 : decide ((0 : Int) < (s.size : Int)) = true := by rw [hz]; rfl
        have e1 : (s.toList == ([47] : List UInt8)) = true := by rw [Lib.toList_data, hp]; rfl
        have e2 : s.toList = ([47] : List UInt8) := by rw [Lib.toList_data, hp]
        clear hsz
        gi_wp2
        go_end0
        exact ⟨⟨_, rfl⟩, .inl HJ.out⟩
  · have e1 : (s.toList == ([47] : List UInt8)) = false := by rw [Lib.toList_data, beq_eq_false_iff_ne]; exact fun e => hp (.inr e)
    have e2 : ¬ s.toList = ([47] : List UInt8) := beq_eq_false_iff_ne.1 e1
    have HP := Lib.hid hp
    have HN : Hid (rowP s.data.toList = segs (s.data.toList.drop 1)) := if_neg hp
    have HSZ := Lib.hid hsz
    have HJ := Lib.hid h0
    obtain ⟨N, hN⟩ : ∃ N, (rowP s.data.toList).length = N := ⟨_, rfl⟩
    have HNL := Lib.hid hN
    rw [hN]
    clear hp hsz hN
    gi_wp2
    gi_loopw [3] (fun at_ wr => ∃ (i : Nat) (x : ByteArray), i ≤ N ∧ at_ = .string x ∧ x.size ≤ 1000000 ∧ Hid (Jv i wr) ∧ wr.heap[B1]? = some (.cells #[.string s] 9 (0, 0)) ∧
      ((x.size = 0 ∧ i = N) ∨ (0 < x.size ∧ i < N ∧ Hid (segs (x.data.toList.drop 1) = (rowP s.data.toList).drop i)))) (fun at_ _ => (strOf at_).size)
    case atStart =>
      refine ⟨0, s, Nat.zero_le _, rfl, hs, HJ, hW, .inr ⟨?_, ?_, by rw [HN.out]; rfl⟩⟩
      · rw [HSZ.out]
        rcases h : s.data.toList with _ | ⟨b, r⟩
        · exact absurd (.inl h) HP.out
        · simp
      · rw [← HNL.out, HN.out]
        exact List.length_pos_iff.2 (segs_ne _)
    case round =>
      obtain ⟨i, x, hi, rfl, hx, HJ, hW, hc⟩ := hrel
      have c1 := (cell_of_row wr B1 0 _ _ _ hW).trans (show _ = some (.string s) from rfl)
      have HW := Lib.hid hW
      clear hW
      rcases hc with ⟨hz, rfl⟩ | ⟨hz, hiN, HG⟩
      · have e0 : decide ((0 : Int) < (x.size : Int)) = false := by rw [hz]; rfl
        gi_wp2
        go_end0
        exact ⟨⟨_, rfl⟩, .inl HJ.out⟩
      · have e0 : decide ((0 : Int) < (x.size : Int)) = true := decide_eq_true (by omega)
        have HX : Hid ((x.extract 1 x.size).data.toList = x.data.toList.drop 1) := by
          show _ = _
          rw [extract_list, List.take_of_length_le (by rw [Lib.size_eq]; exact Nat.le_refl _)]
        have hxi : (1 : Int) ≤ (x.size : Int) := by omega
        have HC := Lib.hid (fun W => cut_any (x.extract 1 x.size) (by rw [Lib.size_eq, HX.out, List.length_drop, ← Lib.size_eq]; omega) W)
        rcases first47 (x.data.toList.drop 1) with hno | ⟨h, t, hht, hnh⟩
        · have hcut := cutV_no (s := x.extract 1 x.size) (by rw [HX.out]; exact hno)
          have hseg : (rowP s.data.toList).drop i = [(x.extract 1 x.size).data.toList] := by rw [← HG.out, segs_no hno, HX.out]
          rw [hcut] at HC
          have hi1 : i + 1 = N := by
            have := congrArg List.length hseg
            rw [List.length_drop, HNL.out] at this
            simp at this; omega
          have hget : (rowP s.data.toList).getD i [] = (x.extract 1 x.size).data.toList := by
            have := congrArg (fun l => l[0]?) hseg
            simp only [List.getElem?_drop, Nat.add_zero] at this
            rw [List.getD_eq_getElem?_getD, this]; rfl
          have HGET : Hid (segV s.data.toList i = #[.string (x.extract 1 x.size)]) := by show _ = _; unfold segV; rw [hget, mkB_data]
          clear hcut hseg hget hno
          gi_wp2_with (fail)
          refine ⟨trivial, fun hw => by simp [Fence.wide] at hw, ?_⟩
          refine (callsIn_wide.2 (HC.out _)).mono ?_
          rintro e w' ⟨rfl, H1⟩
          obtain ⟨fn, tmps, assign, body, hy, hR⟩ := hY i w' (m - 1) (by rw [HNL.out]; exact hiN) (hJs _ _ _ HJ.out H1)
          rw [HGET.out] at hy
          have HW1 := Lib.hid (H1.row HW.out (fun e => e))
          clear H1
          gi_wp2_with (fail)
          refine ⟨fun hw => by simp [Fence.wide] at hw, hR.mono ?_⟩
          rintro e W3 (⟨rfl, hJ3, hk3⟩ | ⟨rfl, hJx3⟩)
          · have HG1 := Lib.hid (hk3 _ _ _ HW1.out)
            have HJ3 := Lib.hid hJ3
            clear hk3 hJ3
            gi_wp2
            go_roundw
            case rel => exact ⟨i + 1, mkB [], by omega, rfl, by rw [mkB_size]; exact Nat.zero_le _, HJ3, HG1.out, .inl ⟨by rw [mkB_size]; rfl, hi1⟩⟩
            case measure => exact hz
          · have HJX := Lib.hid hJx3
            clear hJx3
            gi_wp2
            refine bodyPost_ret (results_none rfl _ _ _) rfl ?_
            exact ⟨⟨_, rfl⟩, .inr ⟨i + 1, by omega, HJX.out⟩⟩
        · have hcut := cutV_at (s := x.extract 1 x.size) (by rw [HX.out]; exact hht) hnh
          have hseg : (rowP s.data.toList).drop i = h :: segs t := by rw [← HG.out, hht, segs_at t hnh]
          rw [hcut] at HC
          have hdrop : (rowP s.data.toList).drop (i + 1) = segs t := by rw [← List.drop_drop, hseg]; rfl
          have hi1 : i + 1 < N := by
            have := congrArg List.length hdrop
            rw [List.length_drop, HNL.out] at this
            have := List.length_pos_iff.2 (segs_ne t)
            omega
          have hget : (rowP s.data.toList).getD i [] = h := by
            have := congrArg (fun l => l[0]?) hseg
            simp only [List.getElem?_drop, Nat.add_zero] at this
            rw [List.getD_eq_getElem?_getD, this]; rfl
          have HGET : Hid (segV s.data.toList i = #[.string (mkB h)]) := by show _ = _; unfold segV; rw [hget]
          have hlen : h.length + (t.length + 1) = x.size - 1 := by
            have := congrArg List.length hht
            rw [List.length_drop, ← Lib.size_eq, List.length_append] at this
            simp at this; omega
          have hadd : (mkB (47 :: t)).size = t.length + 1 := by rw [mkB_size]; rfl
          have hmt : (mkB t).size ≤ 1000000 := by rw [mkB_size]; omega
          have HADD : Hid ((⟨#[47]⟩ : ByteArray) ++ mkB t = mkB (47 :: t)) := ba_list (by simp [mkB])
          have HREST : Hid (segs ((mkB (47 :: t)).data.toList.drop 1) = (rowP s.data.toList).drop (i + 1)) := hdrop.symm
          clear hcut hseg hget hht hnh hdrop
          gi_wp2_with (fail)
          refine ⟨trivial, fun hw => by simp [Fence.wide] at hw, ?_⟩
          refine (callsIn_wide.2 (HC.out _)).mono ?_
          rintro e w' ⟨rfl, H1⟩
          obtain ⟨fn, tmps, assign, body, hy, hR⟩ := hY i w' (m - 1) (by rw [HNL.out]; exact hiN) (hJs _ _ _ HJ.out H1)
          rw [HGET.out] at hy
          have HW1 := Lib.hid (H1.row HW.out (fun e => e))
          clear H1
          gi_wp2_with (fail)
          refine ⟨fun hw => by simp [Fence.wide] at hw, hR.mono ?_⟩
          rintro e W3 (⟨rfl, hJ3, hk3⟩ | ⟨rfl, hJx3⟩)
          · have HG1 := Lib.hid (hk3 _ _ _ HW1.out)
            have HJ3 := Lib.hid hJ3
            clear hk3 hJ3
            gi_wp2
            rw [HADD.out]
            go_roundw
            case rel => exact ⟨i + 1, mkB (47 :: t), by omega, rfl, by omega, HJ3, HG1.out, .inr ⟨by omega, hi1, HREST⟩⟩
            case measure => simp [strOf, hadd]; omega
          · have HJX := Lib.hid hJx3
            clear hJx3
            gi_wp2
            refine bodyPost_ret (results_none rfl _ _ _) rfl ?_
            exact ⟨⟨_, rfl⟩, .inr ⟨i + 1, by omega, HJX.out⟩⟩

theorem each_any (s : ByteArray) (w : World) :
    Calls Try.prog 22 #[.string s] w fun e w' => e = .returned (.func (.func 28) #[] #[.pointer (some ⟨w.heap.size, 0, none⟩)]) ∧ w' = w.alloc (.cells #[.string s] 9) := by
  go_enter Try.func22, Try.ntmps22
  go_wp2
  go_ret
  exact ⟨rfl, rfl⟩
end Go.Proofs.Ytaponmniedjkiaa
