/- The library's search for a bad byte, in any bytes. -/
import Derived.Test.YtaponmniedjkiaaMay
import Derived.WalkMore
namespace Go.Proofs.Ytaponmniedjkiaa
open Go Go.RowKit

def cz : ByteArray := ⟨#[47, 0]⟩
theorem iter_mod (w : World) (s : ByteArray) (p : Nat) : Mod none' w (w.iter s p) := (Mod.refl _ _).alloc _

theorem enc_hi (r : Int) (h : 128 ≤ r) : 128 ≤ (if Utf8.valid r = true then r.toNat else Utf8.runeError) := by
  split
  · omega
  · decide
theorem enc_size (r : Int) (h : 128 ≤ r) : 2 ≤ (Utf8.encode r).size ∧ (Utf8.encode r).size ≤ 4 := by
  have h2 := enc_hi r h
  unfold Utf8.encode
  simp only
  generalize (if Utf8.valid r = true then r.toNat else Utf8.runeError) = c at *
  rw [if_neg (by omega)]
  split
  · exact ⟨Nat.le_refl 2, by show 2 ≤ 4; omega⟩
  · split
    · exact ⟨by show 2 ≤ 3; omega, by show 3 ≤ 4; omega⟩
    · exact ⟨by show 2 ≤ 4; omega, Nat.le_refl 4⟩
theorem enc_one (r : Int) (h : 128 ≤ r) (h2 : (Utf8.encode r).size = 2) : ∃ a b : UInt8, Utf8.encode r = ⟨#[a, b]⟩ ∧ 128 ≤ b.toNat := by
  have h3 := enc_hi r h
  unfold Utf8.encode at h2 ⊢
  simp only at h2 ⊢
  generalize (if Utf8.valid r = true then r.toNat else Utf8.runeError) = c at *
  rw [if_neg (by omega)] at h2 ⊢
  split
  · refine ⟨_, _, rfl, ?_⟩
    rw [UInt8.toNat_ofNat']
    omega
  · rename_i h4
    rw [if_neg h4] at h2
    split at h2
    · exact absurd (show 3 = 2 from h2) (by omega)
    · exact absurd (show 4 = 2 from h2) (by omega)

set_option maxRecDepth 100000 in
set_option maxHeartbeats 4000000 in
/-- Neither / nor 0 is a rune above 127. -/
theorem irune_hi (r : Int) (h : 128 ≤ r) (h1 : r ≤ 2147483647) (w : World) :
    Calls Try.prog 36 #[.string cz, .int .i32 r] w fun e w' => e = .returned (.int .i64 (-1)) ∧ Mod none' w w' := by
  have hs : cz.size = 2 := rfl
  have hlt : decide (r < 128) = false := decide_eq_false (by omega)
  by_cases he : r = 65533
  · subst he
    have hn0 := fun ty => run_next_ascii (P := Try.prog) w cz 0 ty (by decide) (by decide)
    have hn1 := fun ty => run_next_ascii (P := Try.prog) w cz 1 ty (by decide) (by decide)
    have hn2 := fun ty => run_next_end (P := Try.prog) w cz 2 ty (by decide)
    have HM := Lib.hid (iter_mod w cz 2)
    go_enter Try.func36, Try.ntmps36
    go_wp2
    refine wp_loop_rounds 3 ?_
    rw [rounds_succ]
    go_wp2
    rw [rounds_succ]
    go_wp2
    rw [rounds_succ]
    go_wp2
    go_ret
    exact ⟨rfl, HM.out⟩
  · have hee : (r == 65533) = false := by simpa using he
    cases hv : Lib.validRune r
    · go_enter Try.func36, Try.ntmps36
      go_wp2_with (go_at_call 42; refine (Try.utf8_ValidRune _ _).mono ?_; rintro e w' ⟨rfl, hw⟩; rw [hw, hv])
      go_ret
      exact ⟨rfl, Mod.refl _ _⟩
    · obtain ⟨z0, z1⟩ := enc_size r h
      obtain ⟨rs, hrs⟩ : ∃ rs, Utf8.encode r = rs := ⟨_, rfl⟩
      by_cases h2 : rs.size = 2
      · obtain ⟨a, b, hab, hb⟩ := enc_one r h (by rw [hrs]; exact h2)
        have HE := Lib.hid hab
        have hbi : (128 : Int) ≤ (b.toNat : Int) := by omega
        rw [hrs] at hab
        have hx : rs.data.toList[1]? = some b := by rw [hab]; rfl
        have hx2 : ∀ h : 1 < rs.size, rs[1] = b := fun h => by subst hab; rfl
        have hne : (((cz[1]'(by decide)).toNat : Int) != ((rs[1]'(by omega)).toNat : Int)) = true := by
          rw [hx2 (by omega)]
          have : (cz[1]'(by decide)).toNat = 0 := rfl
          rw [this]
          simp; omega
        clear hab HE hx hx2 z0 z1
        go_enter Try.func36, Try.ntmps36
        go_wp2_with (go_at_call 42; refine (Try.utf8_ValidRune _ _).mono ?_; rintro e w' ⟨rfl, hw⟩; rw [hw, hv])
        go_step3
        go_wp2
        refine wp_loop_rounds 1 ?_
        rw [rounds_succ]
        go_wp2
        go_step3
        go_wp2
        go_quiet (fail)
        go_wp2_with (fail)
        have HM := Lib.hid ((Mod.refl none' w).drewN nq)
        generalize w.drewN nq = wq at HM ⊢
        have hw2 : IntKind.i64.wrap 2 = 2 := by decide
        go_quiet ((go_at_call 41; exact Calls.quiet_of_same (Try.strings_IndexByte _ _ _)))
        go_wp2
        simp only [Exit.noGoto, Exit.inBlock, Exit.then]
        go_ret
        exact ⟨rfl, HM.out.drewN _⟩
      · have h3 : decide ((rs.size : Int) - 1 < 2) = false := by rw [hrs] at z0; exact decide_eq_false (by omega)
        have h4 : (3 : Int) ≤ rs.size := by rw [hrs] at z0; omega
        have h5 : (rs.size : Int) ≤ 4 := by rw [hrs] at z1; omega
        clear z0 z1
        go_enter Try.func36, Try.ntmps36
        go_wp2_with (go_at_call 42; refine (Try.utf8_ValidRune _ _).mono ?_; rintro e w' ⟨rfl, hw⟩; rw [hw, hv])
        go_step3
        go_wp2
        refine wp_loop_rounds 1 ?_
        rw [rounds_succ]
        go_wp2
        rw [Exit.noGoto_ret]
        go_ret
        exact ⟨rfl, Mod.refl _ _⟩

end Go.Proofs.Ytaponmniedjkiaa
