/- A path is cut at its first /. -/
import Derived.Test.YtaponmniedjkiaaShelf
import Derived.Test.YtaponmniedjkiaaSep3
import Derived.Test.YtaponmniedjkiaaNMay
namespace Go.Proofs.Ytaponmniedjkiaa
open Go Go.RowKit

def slash : ByteArray := ⟨#[47]⟩
set_option maxRecDepth 100000 in
theorem index1 (s : ByteArray) (w : World) :
    Calls Try.prog 40 #[.string s, .string ⟨#[47]⟩] w fun e w' => e = .returned (.int .i64 (Lib.indexByte s.data.toList 47)) ∧ Mod none' w w' := by
  cases hc : (([47] : List UInt8) == s.toList)
  · go_enter Try.func40, Try.ntmps40
    go_wp2_with (go_at_call 45; refine (Try.stringslite_IndexByte _ _ _).mono ?_; rintro e w' ⟨rfl, rfl⟩)
    go_ret
    exact ⟨rfl, Mod.refl _ _⟩
  · have h2 : s.data.toList = [47] := by rw [← Lib.toList_data]; exact (beq_iff_eq.1 hc).symm
    have h3 : Lib.indexByte s.data.toList 47 = 0 := by rw [h2]; rfl
    go_enter Try.func40, Try.ntmps40
    go_wp2
    go_ret
    exact ⟨by rw [h3]; rfl, Mod.refl _ _⟩

theorem indexByte_cases (c : UInt8) : ∀ l : List UInt8, (Lib.indexByte l c = -1 ∧ c ∉ l) ∨ ∃ k : Nat, Lib.indexByte l c = (k : Int) ∧ k < l.length ∧ l[k]? = some c ∧ c ∉ l.take k
  | [] => .inl ⟨rfl, by simp⟩
  | b :: l => by
    unfold Lib.indexByte
    by_cases hb : b = c
    · subst hb
      right
      refine ⟨0, by simp, by simp, by simp, by simp⟩
    · rw [if_neg (by simpa using hb)]
      rcases indexByte_cases c l with ⟨h1, h2⟩ | ⟨k, h1, h2, h3, h4⟩
      · left
        rw [h1]
        refine ⟨by simp, ?_⟩
        simp only [List.mem_cons, not_or]
        exact ⟨fun e => hb e.symm, h2⟩
      · right
        refine ⟨k + 1, ?_, by simp; omega, by simpa using h3, ?_⟩
        · rw [h1, if_neg (by simp)]; push_cast; rfl
        · simp only [List.take_succ_cons, List.mem_cons, not_or]
          exact ⟨fun e => hb e.symm, h4⟩

/-- What stands ahead of the first /, what stands behind it, and whether there is one. -/
def cutV (s : ByteArray) : Value :=
  if 0 ≤ Lib.indexByte s.data.toList 47 then .tuple #[.string (s.extract 0 (Lib.indexByte s.data.toList 47).toNat), .string (s.extract ((Lib.indexByte s.data.toList 47).toNat + 1) s.size), .bool true]
  else .tuple #[.string s, .string ByteArray.empty, .bool false]
set_option maxRecDepth 100000 in
theorem cut_in (s : ByteArray) (hs : s.size ≤ 4294967295) (w : World) :
    Calls Try.prog 33 #[.string s, .string ⟨#[47]⟩] w fun e w' => e = .returned (cutV s) ∧ Mod none' w w' := by
  have HI := Lib.hid (fun W => index1 s W)
  have hsz := Lib.size_eq s
  unfold cutV
  rcases indexByte_cases 47 s.data.toList with ⟨h1, _⟩ | ⟨k, h1, h2, _, _⟩
  · rw [h1] at HI ⊢
    clear hsz
    go_enter Try.func33, Try.ntmps33
    go_wp2_with (go_at_call 40; (with_reducible refine (HI.out _).mono ?_); rintro e w' ⟨rfl, H1⟩)
    refine bodyPost_ret (res3 rfl (resTmp _ _ _) (resTmp _ _ _) (resTmp _ _ _)) rfl ⟨?_, H1⟩
    rfl
  · rw [h1] at HI ⊢
    have hk : k < s.size := by omega
    rw [if_pos (by omega), Int.toNat_natCast]
    have hki : (k : Int) < (s.size : Int) := by omega
    clear hsz h2 h1
    go_enter Try.func33, Try.ntmps33
    go_wp2_with (go_at_call 40; (with_reducible refine (HI.out _).mono ?_); rintro e w' ⟨rfl, H1⟩)
    (try simp only [Act.put])
    refine wp_region_quietF (by kernel_rfl) (by kernel_rfl) ?_
    repeat (first | go_big_quiet_skip | (go_big_quiet_want; go_big_quiet_op; first | go_big_quiet_on | (refine ⟨_, fun _ _ => rfl, ?_⟩; go_big_quiet_on) | (apply Exists.intro; refine ⟨fun wc hfr => ?_, ?_⟩; (· fail); go_big_quiet_on)))
    refine wpQuiet_nil ?_
    intro w1 hm1
    replace H1 := H1.trans hm1
    clear hm1
    go_wp2
    refine bodyPost_ret (res3 rfl (resTmp _ _ _) (resTmp _ _ _) (resTmp _ _ _)) rfl ⟨?_, H1⟩
    rfl
theorem cut_any (s : ByteArray) (hs : s.size ≤ 4294967295) (w : World) :
    Calls Try.prog 29 #[.string s, .string ⟨#[47]⟩] w fun e w' => e = .returned (cutV s) ∧ Mod none' w w' := by
  have HI := Lib.hid (fun W => cut_in s hs W)
  unfold cutV at *
  by_cases hc : 0 ≤ Lib.indexByte s.data.toList 47
  · rw [if_pos hc] at HI ⊢
    clear hc
    go_enter Try.func29, Try.ntmps29
    go_wp2_with (go_at_call 33; (with_reducible refine (HI.out _).mono ?_); rintro e w' ⟨rfl, H1⟩)
    refine bodyPost_ret (res3 rfl (resTmp _ _ _) (resTmp _ _ _) (resTmp _ _ _)) rfl ⟨?_, H1⟩
    rfl
  · rw [if_neg hc] at HI ⊢
    clear hc
    go_enter Try.func29, Try.ntmps29
    go_wp2_with (go_at_call 33; (with_reducible refine (HI.out _).mono ?_); rintro e w' ⟨rfl, H1⟩)
    refine bodyPost_ret (res3 rfl (resTmp _ _ _) (resTmp _ _ _) (resTmp _ _ _)) rfl ⟨?_, H1⟩
    rfl
end Go.Proofs.Ytaponmniedjkiaa
