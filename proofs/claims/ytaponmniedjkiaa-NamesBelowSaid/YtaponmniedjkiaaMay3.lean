/- .. of at most eight bytes; and of any. -/
import Derived.Test.YtaponmniedjkiaaMay2
import Derived.Lib.OthersKept
namespace Go.Proofs.Ytaponmniedjkiaa
open Go Go.RowKit

theorem noAny_wide {s : ByteArray} {i : Nat} (h : i < s.size) (ha : 128 ≤ (s[i]'h).toNat) (hn : Lib.NoAny s.data.toList [47, 0] i) : Lib.NoAny s.data.toList [47, 0] (i + (Utf8.decode s i).2) := by
  intro j b hj hb
  by_cases hji : j < i
  · exact hn j b hji hb
  · obtain ⟨h1, h2⟩ := decode_wide s i h ha (j - i) (by omega)
    have hij : i + (j - i) = j := by omega
    rw [hij] at h1 h2
    have h3 : s.get! j = b := by
      have := Lib.data_getElem? s j h1
      rw [hb] at this
      have h4 := get_at s j h1
      rw [Nat.add_zero] at h4
      rw [h4]
      exact (Option.some.inj this).symm
    rw [h3] at h2
    rw [bad_contains]
    unfold badB
    have e1 : (b == 47) = false := by
      rw [beq_eq_false_iff_ne]; intro e; subst e; revert h2; decide
    have e2 : (b == 0) = false := by
      rw [beq_eq_false_iff_ne]; intro e; subst e; revert h2; decide
    rw [e1, e2]; rfl
theorem decode_le_size (s : ByteArray) (pos : Nat) (h : pos < s.size) (ha : 128 ≤ (s[pos]'h).toNat) : pos + (Utf8.decode s pos).2 ≤ s.size := by
  rcases Nat.eq_zero_or_pos (Utf8.decode s pos).2 with h0 | h0
  · omega
  · have := (decode_wide s pos h ha ((Utf8.decode s pos).2 - 1) (by omega)).1
    omega

theorem iterAt_mod {w wr : World} (h : Mod none' w wr) (s : ByteArray) (p : Nat) : Mod none' w (wr.iterAt w.heap.size s p) :=
  ⟨h.os, h.tape, h.output, by rw [Lib.iterAt_size]; exact h.size, fun k hk hs => (Lib.iterAt_other wr w.heap.size k s p (by omega)).trans (h.same k hk hs)⟩

set_option maxRecDepth 100000 in
set_option maxHeartbeats 8000000 in
/-- .. of at most 8 bytes. -/
theorem iany_short (s : ByteArray) (w : World) (h8 : s.size ≤ 8) :
    Calls Try.prog 32 #[.string s, .string cz] w fun e w' => e = .returned (.int .i64 (Lib.indexAny s.data.toList [47, 0])) ∧ Mod none' w w' := by
  have hs : cz.size = 2 := rfl
  have hcd : cz.data.toList = [47, 0] := rfl
  have hemp : cz.toList.isEmpty = false := by rw [Lib.toList_data]; rfl
  have h8z : decide ((8 : Int) < (s.size : Int)) = false := decide_eq_false (by omega)
  go_enter Try.func32, Try.ntmps32
  go_wp2_with (go_at_call 37; refine (Try.strings_shouldUseASCIISet _ _).mono ?_; rintro e w' ⟨rfl, hw⟩; rw [hw, h8z])
  go_loopg [9, 10] s.size (fun g _ _ wx => ∃ i : Nat, i + g = s.size ∧ Mod none' w wx ∧ wx.heap[w.heap.size]? = some (.stringIter s i) ∧ Lib.NoAny s.data.toList [47, 0] i)
  case atStart => exact ⟨0, by omega, iter_mod w s 0, World.iter_heap w s 0, Lib.NoAny.zero _ _⟩
  case round =>
    obtain ⟨i, hig, hm, hk, hno⟩ := hrel
    have HN := Lib.hid hno
    have HM := Lib.hid hm
    clear hno hm
    by_cases hi : i < s.size
    · by_cases ha : (s[i]'hi).toNat < 128
      · have hnx := fun ty => Lib.run_next_ascii_at (P := Try.prog) wr w.heap.size s i ty hk hi ha
        obtain ⟨x, hx⟩ : ∃ x : UInt8, s[i]'hi = x := ⟨_, rfl⟩
        have hxl : s.data.toList[i]? = some x := by rw [← hx]; exact Lib.data_getElem? s i hi
        rw [hx] at hnx ha
        have Hx := Lib.hid hxl
        have hx128 : x.toNat < 128 := ha
        have HM2 : Hid (Mod none' w (wr.iterAt w.heap.size s (i + 1))) := iterAt_mod HM.out s _
        have HK2 := Lib.hid (Lib.iterAt_heap wr w.heap.size s i (i + 1) hk)
        clear hxl hx hk
        have hcon := Lib.contains_iff_indexByte [47, 0] x
        have hback : ((x.toNat : Int)).toNat.toUInt8 = x := by simp
        cases hin : ([47, 0] : List UInt8).contains x
        · rw [hin] at hcon
          have hlt : ¬ ((0 : Int) ≤ Lib.indexByte [47, 0] x) := of_decide_eq_false hcon.symm
          clear hcon
          go_wp2_with (go_at_call 36; refine (Try.strings_IndexRune_ascii _ _ _ (by omega) (by omega)).mono ?_; rintro e w' ⟨rfl, hw⟩; rw [hw, hback])
          go_roundg (s.size - (i + 1))
          case measure => omega
          case rel => exact ⟨i + 1, by omega, HM2.out, HK2.out, HN.out.succ Hx.out hin⟩
        · rw [hin] at hcon
          have hge : (0 : Int) ≤ Lib.indexByte [47, 0] x := of_decide_eq_true hcon.symm
          clear hcon
          go_wp2_with (go_at_call 36; refine (Try.strings_IndexRune_ascii _ _ _ (by omega) (by omega)).mono ?_; rintro e w' ⟨rfl, hw⟩; rw [hw, hback])
          go_ret
          exact ⟨by rw [Lib.indexAny_hit HN.out Hx.out hin]; rfl, HM2.out⟩
      · have ha2 : 128 ≤ (s[i]'hi).toNat := by omega
        obtain ⟨d1, d2⟩ := decode_high s i hi ha2
        have d3 := decode_le s i
        have HN2 := Lib.hid (noAny_wide hi ha2 HN.out)
        have d4 := decode_le_size s i hi ha2
        have hnx := fun ty => Lib.run_next_any_at (P := Try.prog) wr w.heap.size s i ty hk hi
        have HM2 : Hid (∀ p, Mod none' w (wr.iterAt w.heap.size s p)) := fun p => iterAt_mod HM.out s p
        have HK2 := Lib.hid (Lib.iterAt_heap wr w.heap.size s i (i + (Utf8.decode s i).2) hk)
        generalize Utf8.decode s i = d at hnx d1 d2 d3 d4 HN2 HK2
        obtain ⟨c, wd⟩ := d
        have c0 : (128 : Int) ≤ (c : Int) := by simp only at d1; omega
        have c1 : (c : Int) ≤ 2147483647 := by simp only at d3; omega
        have d5 : 1 ≤ wd := d2
        have d6 : i + wd ≤ s.size := d4
        clear hk ha ha2 d1 d2 d3 d4
        go_wp2_with (go_at_call 36; refine (irune_hi _ c0 c1 _).mono ?_; rintro e w' ⟨rfl, hw⟩)
        have HW := Lib.hid hw
        go_roundg (s.size - (i + wd))
        case measure => omega
        case rel => exact ⟨i + wd, by omega, (HM2.out _).trans HW.out, HW.out.row HK2.out (fun e => e), HN2.out⟩
    · obtain rfl : i = s.size := by omega
      have hnx := fun ty => Lib.run_next_end_at (P := Try.prog) wr w.heap.size s s.size ty hk (by omega)
      go_wp2
      go_ret
      exact ⟨by rw [Lib.indexAny_none (by rw [← Lib.size_eq]; exact HN.out)]; rfl, HM.out⟩

theorem info256 : (Try.prog.info? 66).map (fun i => (i.zero, i.size)) = some (some (.agg (Array.replicate 256 (.bool false))), 256) := by kernel_rfl
theorem bad_ascii : ∀ (j : Nat) b, cz.data.toList[j]? = some b → b.toNat < 128 := by
  intro j b h
  have hz : cz.data.toList = [47, 0] := rfl
  rw [hz] at h
  match j, h with
  | 0, h => cases h; decide
  | 1, h => cases h; decide
  | j + 2, h => simp at h
set_option maxHeartbeats 2000000 in
/-- Is there a bad byte? -/
theorem cany (s : ByteArray) (w : World) (hs : s.size < 4294967281) :
    Calls Try.prog 26 #[.string s, .string cz] w fun e w' => e = .returned (.bool (s.data.toList.any badB)) ∧ Mod none' w w' := by
  have HC := Lib.hid (any_indexAny s.data.toList)
  have c : Calls Try.prog 32 #[.string s, .string cz] w fun e w' => e = .returned (.int .i64 (Lib.indexAny s.data.toList [47, 0])) ∧ Mod none' w w' := by
    by_cases h8 : s.size ≤ 8
    · exact iany_short s w h8
    · refine (Try.strings_IndexAny_long (zero_of_info info256).1 s cz w (by decide) (by omega) hs (by decide) bad_ascii).mono ?_
      rintro e w' ⟨rfl, rfl⟩
      exact ⟨rfl, ((Mod.refl _ _).alloc _).alloc _⟩
  have HI := Lib.hid c
  clear c
  go_enter Try.func26, Try.ntmps26
  go_wp2_with (go_at_call 32; refine HI.out.mono ?_; rintro e w' ⟨rfl, hw⟩)
  go_ret
  exact ⟨by rw [← HC.out]; rfl, hw⟩
end Go.Proofs.Ytaponmniedjkiaa
