/- A slot is read. -/
import Derived.Test.YtdpbdmbgdcdmaaaPMay
import Derived.Test.YtdpbdmbgdcdmaaaZero
import Derived.Test.YtdpbdmbgdcdmaaaByt
namespace Go.Proofs.Ytdpbdmbgdcdmaaa
open Go Go.RowKit

instance : Plain Try.prog 4 := plain_mk Try.underlying4 rfl (by kernel_rfl)
instance : Plain Try.prog 3 := plain_mk Try.underlying3 rfl (by kernel_rfl)
instance : Plain Try.prog 5 := plain_mk Try.underlying5 rfl (by kernel_rfl)
instance : Plain Try.prog 31 := plain_mk Try.underlying31 rfl (by kernel_rfl)
instance : Plain Try.prog 9 := plain_mk Try.underlying9 rfl (by kernel_rfl)
instance : Row Try.prog 23 256 := row_mk Try.underlying23 rfl (by kernel_rfl)
instance : Row Try.prog 33 2 := row_mk Try.underlying33 rfl (by kernel_rfl)
abbrev noSl : Value := .agg #[.int .u32 0, .string ByteArray.empty]
instance : Zero0 Try.prog 33 noSl := ⟨by kernel_rfl⟩

/-- What a slot's bytes tell. -/
abbrev Sl := Int × ByteArray
def slV (x : Sl) : List Value := [.int .u32 x.1, .string x.2]
def rdSlot (bs : List UInt8) (o : Nat) : Option Sl :=
  if get32 bs o = 0 then (if allZ bs o 32 then some (0, ByteArray.empty) else none)
  else if (gB bs (o + 4)).toNat ≤ 27 ∧ okName (strB bs (o + 5) (gB bs (o + 4)).toNat) = true ∧ allZ bs (o + 5 + (gB bs (o + 4)).toNat) (27 - (gB bs (o + 4)).toNat) = true then some (get32 bs o, strB bs (o + 5) (gB bs (o + 4)).toNat) else none
def rdV : Option Sl → Value
  | none => .tuple #[noSl, .bool false]
  | some x => .tuple #[.agg (slV x).toArray, .bool true]

set_option maxRecDepth 100000 in
set_option maxHeartbeats 4000000 in
theorem read_any (B o : Nat) (bs : List UInt8) (E : TypeId) (w : World) (hB : w.heap[B]? = some (.cells (encB bs) E (0, 0))) (ho : o + 32 ≤ bs.length) (_hl : bs.length ≤ 100000) :
    Calls Try.prog 27 #[.slice (some ⟨B, o, none⟩) 32 32] w fun e w' => e = .returned (rdV (rdSlot bs o)) ∧ Mod none' w w' := by
  have HB := Lib.hid hB
  have HS := St.nil none' w
  clear hB
  have HR : Hid (rdSlot bs o = if get32 bs o = 0 then (if allZ bs o 32 then some (0, ByteArray.empty) else none)
    else if (gB bs (o + 4)).toNat ≤ 27 ∧ okName (strB bs (o + 5) (gB bs (o + 4)).toNat) = true ∧ allZ bs (o + 5 + (gB bs (o + 4)).toNat) (27 - (gB bs (o + 4)).toNat) = true then some (get32 bs o, strB bs (o + 5) (gB bs (o + 4)).toNat) else none) := rfl
  obtain ⟨v0, v1⟩ := get32_bd bs o
  obtain ⟨c0, c1⟩ := gB_bd bs (o + 4)
  generalize rdSlot bs o = r at HR ⊢
  cases hz : (get32 bs o == 0)
  · have hz1 := beq_eq_false_iff_ne.1 hz
    have HZ := Lib.hid hz1
    obtain ⟨v, hv⟩ : ∃ v, get32 bs o = v := ⟨_, rfl⟩
    obtain ⟨n, hn⟩ : ∃ n : Nat, gB bs (o + 4) = n := ⟨(gB bs (o + 4)).toNat, by omega⟩
    have HV := Lib.hid hv
    have HN := Lib.hid hn
    have HRV : Hid (r = if n ≤ 27 ∧ okName (strB bs (o + 5) n) = true ∧ allZ bs (o + 5 + n) (27 - n) = true then some (v, strB bs (o + 5) n) else none) := by
      show _ = _
      rw [HR.out, if_neg hz1, hv, hn, Int.toNat_natCast]
    rw [hv] at hz v0 v1
    rw [hn] at c0 c1
    clear hv hn hz1 HR
    by_cases h27 : n ≤ 27
    · have e27 : decide ((27 : Int) < (n : Int)) = false := decide_eq_false (by omega)
      have hsz := strB_size bs (o + 5) n (by omega)
      have HM := Lib.hid (fun W => pmay_any (strB bs (o + 5) n) W (by rw [hsz]; unfold maxLen; omega))
      clear hsz
      cases hok : okName (strB bs (o + 5) n)
      · have HRF : Hid (r = none) := by show _ = _; rw [HRV.out, hok]; simp
        rw [hok] at HM
        clear HRV hok
        go_enter Try.func27, Try.ntmps27
        go_wp2_with (first | ((with_reducible apply sAlloc HS); infer_instance; (first | exact cells_agg _ | exact cells_one rfl); rfl; intro Rc w' H1; clear HS; have HS := H1; clear H1) | (go_at_call 34; refine (nget_int B o 32 32 0 _ rfl bs E _ (HS.mod.row HB.out (fun e => e)) ho (by omega) (by omega)).mono ?_; rintro e w' ⟨rfl, rfl⟩; rw [Nat.add_zero, HV.out]) | ((with_reducible apply sByte (HS.mod.row HB.out (fun e => e))); infer_instance; rfl; rfl; omega); rw [HN.out] | ((with_reducible apply sText (HS.mod.row HB.out (fun e => e)) Try.underlying58 Try.underlying5 Try.underlying9); rfl; rfl; omega) | (go_at_call 15; refine (HM.out _).mono ?_; rintro e w' ⟨rfl, H1⟩; replace HS := HS.fresh H1; clear H1) | ((with_reducible apply sStoreB HS); infer_instance; rfl; rfl; (conv => (lhs; whnf)); (repeat (first | exact Rep.here | apply Rep.there)); rfl; rfl; exact (by intro u hu; simp at hu; rcases hu with rfl | rfl <;> rfl); intro w' H1; clear HS; have HS := H1; clear H1))
        refine bodyPost_ret (res2 rfl (resCell (n := 2) HS rfl (by (repeat (first | exact List.Mem.head _ | apply List.Mem.tail))) rfl) (resTmp _ _ _)) rfl ⟨?_, HS.mod⟩
        rw [HRF.out]; rfl
      · rw [hok] at HM
        by_cases hn27 : n = 27
        · subst hn27
          have HRF : Hid (r = some (v, strB bs (o + 5) 27)) := by show _ = _; rw [HRV.out, hok]; simp [allZ_iff]
          clear HRV hok
          go_enter Try.func27, Try.ntmps27
          go_wp2_with (first | ((with_reducible apply sAlloc HS); infer_instance; (first | exact cells_agg _ | exact cells_one rfl); rfl; intro Rc w' H1; clear HS; have HS := H1; clear H1) | (go_at_call 34; refine (nget_int B o 32 32 0 _ rfl bs E _ (HS.mod.row HB.out (fun e => e)) ho (by omega) (by omega)).mono ?_; rintro e w' ⟨rfl, rfl⟩; rw [Nat.add_zero, HV.out]) | ((with_reducible apply sByte (HS.mod.row HB.out (fun e => e))); infer_instance; rfl; rfl; omega); rw [HN.out] | ((with_reducible apply sText (HS.mod.row HB.out (fun e => e)) Try.underlying58 Try.underlying5 Try.underlying9); rfl; rfl; omega) | (go_at_call 15; refine (HM.out _).mono ?_; rintro e w' ⟨rfl, H1⟩; replace HS := HS.fresh H1; clear H1) | (go_at_call 35; refine (pzero B (_) (0) _ bs E _ (HS.mod.row HB.out (fun e => e)) (by omega) (by omega) (by omega)).mono ?_; rintro e w' ⟨rfl, H1⟩; replace HS := HS.fresh H1; clear H1; simp only [show allZ bs _ 0 = true from by simp [allZ_iff]]) | ((with_reducible apply sStoreB HS); infer_instance; rfl; rfl; (conv => (lhs; whnf)); (repeat (first | exact Rep.here | apply Rep.there)); rfl; rfl; exact (by intro u hu; simp at hu; rcases hu with rfl | rfl <;> rfl); intro w' H1; clear HS; have HS := H1; clear H1))
          refine bodyPost_ret (res2 rfl (resCell (n := 2) HS rfl (by (repeat (first | exact List.Mem.head _ | apply List.Mem.tail))) rfl) (resTmp _ _ _)) rfl ⟨?_, HS.mod⟩
          rw [HRF.out]; rfl
        · have h26 : n ≤ 26 := by omega
          cases hzz : allZ bs (o + 5 + n) (27 - n)
          · have HRF : Hid (r = none) := by show _ = _; rw [HRV.out, hzz]; simp
            have HZZ : Hid (∀ p q, p = o + 5 + n → q = 27 - n → allZ bs p q = false) := fun p q h h' => by rw [h, h']; exact hzz
            clear HRV hok hzz hn27 h27
            go_enter Try.func27, Try.ntmps27
            go_wp2_with (first | ((with_reducible apply sAlloc HS); infer_instance; (first | exact cells_agg _ | exact cells_one rfl); rfl; intro Rc w' H1; clear HS; have HS := H1; clear H1) | (go_at_call 34; refine (nget_int B o 32 32 0 _ rfl bs E _ (HS.mod.row HB.out (fun e => e)) ho (by omega) (by omega)).mono ?_; rintro e w' ⟨rfl, rfl⟩; rw [Nat.add_zero, HV.out]) | ((with_reducible apply sByte (HS.mod.row HB.out (fun e => e))); infer_instance; rfl; rfl; omega); rw [HN.out] | ((with_reducible apply sText (HS.mod.row HB.out (fun e => e)) Try.underlying58 Try.underlying5 Try.underlying9); rfl; rfl; omega) | (go_at_call 15; refine (HM.out _).mono ?_; rintro e w' ⟨rfl, H1⟩; replace HS := HS.fresh H1; clear H1) | (go_at_call 35; refine (pzero B (_) (_) _ bs E _ (HS.mod.row HB.out (fun e => e)) (by omega) (by omega) (by omega)).mono ?_; rintro e w' ⟨rfl, H1⟩; replace HS := HS.fresh H1; clear H1; rw [HZZ.out _ _ (by omega) (by omega)]) | ((with_reducible apply sStoreB HS); infer_instance; rfl; rfl; (conv => (lhs; whnf)); (repeat (first | exact Rep.here | apply Rep.there)); rfl; rfl; exact (by intro u hu; simp at hu; rcases hu with rfl | rfl <;> rfl); intro w' H1; clear HS; have HS := H1; clear H1))
            refine bodyPost_ret (res2 rfl (resCell (n := 2) HS rfl (by (repeat (first | exact List.Mem.head _ | apply List.Mem.tail))) rfl) (resTmp _ _ _)) rfl ⟨?_, HS.mod⟩
            rw [HRF.out]; rfl
          · have HRF : Hid (r = some (v, strB bs (o + 5) n)) := by show _ = _; rw [HRV.out, hzz, hok]; simp [h27]
            have HZZ : Hid (∀ p q, p = o + 5 + n → q = 27 - n → allZ bs p q = true) := fun p q h h' => by rw [h, h']; exact hzz
            clear HRV hok hzz hn27 h27
            go_enter Try.func27, Try.ntmps27
            go_wp2_with (first | ((with_reducible apply sAlloc HS); infer_instance; (first | exact cells_agg _ | exact cells_one rfl); rfl; intro Rc w' H1; clear HS; have HS := H1; clear H1) | (go_at_call 34; refine (nget_int B o 32 32 0 _ rfl bs E _ (HS.mod.row HB.out (fun e => e)) ho (by omega) (by omega)).mono ?_; rintro e w' ⟨rfl, rfl⟩; rw [Nat.add_zero, HV.out]) | ((with_reducible apply sByte (HS.mod.row HB.out (fun e => e))); infer_instance; rfl; rfl; omega); rw [HN.out] | ((with_reducible apply sText (HS.mod.row HB.out (fun e => e)) Try.underlying58 Try.underlying5 Try.underlying9); rfl; rfl; omega) | (go_at_call 15; refine (HM.out _).mono ?_; rintro e w' ⟨rfl, H1⟩; replace HS := HS.fresh H1; clear H1) | (go_at_call 35; refine (pzero B (_) (_) _ bs E _ (HS.mod.row HB.out (fun e => e)) (by omega) (by omega) (by omega)).mono ?_; rintro e w' ⟨rfl, H1⟩; replace HS := HS.fresh H1; clear H1; rw [HZZ.out _ _ (by omega) (by omega)]) | ((with_reducible apply sStoreB HS); infer_instance; rfl; rfl; (conv => (lhs; whnf)); (repeat (first | exact Rep.here | apply Rep.there)); rfl; rfl; exact (by intro u hu; simp at hu; rcases hu with rfl | rfl <;> rfl); intro w' H1; clear HS; have HS := H1; clear H1))
            refine bodyPost_ret (res2 rfl (resCell (n := 2) HS rfl (by (repeat (first | exact List.Mem.head _ | apply List.Mem.tail))) rfl) (resTmp _ _ _)) rfl ⟨?_, HS.mod⟩
            rw [HRF.out]; rfl
    · have HRF : Hid (r = none) := by show _ = _; rw [HRV.out, if_neg (fun h => h27 h.1)]
      have e27 : decide ((27 : Int) < (n : Int)) = true := decide_eq_true (by omega)
      clear HRV
      go_enter Try.func27, Try.ntmps27
      go_wp2_with (first | ((with_reducible apply sAlloc HS); infer_instance; (first | exact cells_agg _ | exact cells_one rfl); rfl; intro Rc w' H1; clear HS; have HS := H1; clear H1) | (go_at_call 34; refine (nget_int B o 32 32 0 _ rfl bs E _ (HS.mod.row HB.out (fun e => e)) ho (by omega) (by omega)).mono ?_; rintro e w' ⟨rfl, rfl⟩; rw [Nat.add_zero, HV.out]) | ((with_reducible apply sByte (HS.mod.row HB.out (fun e => e))); infer_instance; rfl; rfl; omega); rw [HN.out] | ((with_reducible apply sText (HS.mod.row HB.out (fun e => e)) Try.underlying58 Try.underlying5 Try.underlying9); rfl; rfl; omega) | (go_at_call 15; refine (HM.out _).mono ?_; rintro e w' ⟨rfl, H1⟩; replace HS := HS.fresh H1; clear H1) | ((with_reducible apply sStoreB HS); infer_instance; rfl; rfl; (conv => (lhs; whnf)); (repeat (first | exact Rep.here | apply Rep.there)); rfl; rfl; exact (by intro u hu; simp at hu; rcases hu with rfl | rfl <;> rfl); intro w' H1; clear HS; have HS := H1; clear H1))
      refine bodyPost_ret (res2 rfl (resCell (n := 2) HS rfl (by (repeat (first | exact List.Mem.head _ | apply List.Mem.tail))) rfl) (resTmp _ _ _)) rfl ⟨?_, HS.mod⟩
      rw [HRF.out]; rfl
  · have hz1 := beq_iff_eq.1 hz
    have HV := Lib.hid hz1
    cases hzz : allZ bs o 32
    · have HRF : Hid (r = none) := by show _ = _; rw [HR.out, if_pos hz1, hzz]; rfl
      have HZZ := Lib.hid hzz
      clear HR hz hz1 hzz
      go_enter Try.func27, Try.ntmps27
      go_wp2_with (first | ((with_reducible apply sAlloc HS); infer_instance; (first | exact cells_agg _ | exact cells_one rfl); rfl; intro Rc w' H1; clear HS; have HS := H1; clear H1) | (go_at_call 34; refine (nget_int B o 32 32 0 _ rfl bs E _ (HS.mod.row HB.out (fun e => e)) ho (by omega) (by omega)).mono ?_; rintro e w' ⟨rfl, rfl⟩; rw [Nat.add_zero, HV.out]) | (go_at_call 35; refine (pzero B (o) (32) _ bs E _ (HS.mod.row HB.out (fun e => e)) (by omega) (by omega) (by omega)).mono ?_; rintro e w' ⟨rfl, H1⟩; replace HS := HS.fresh H1; clear H1; rw [HZZ.out]) | ((with_reducible apply sStoreB HS); infer_instance; rfl; rfl; (conv => (lhs; whnf)); (repeat (first | exact Rep.here | apply Rep.there)); rfl; rfl; exact (by intro u hu; simp at hu; rcases hu with rfl | rfl <;> rfl); intro w' H1; clear HS; have HS := H1; clear H1))
      refine bodyPost_ret (res2 rfl (resCell (n := 2) HS rfl (by (repeat (first | exact List.Mem.head _ | apply List.Mem.tail))) rfl) (resTmp _ _ _)) rfl ⟨?_, HS.mod⟩
      rw [HRF.out]; rfl
    · have HRF : Hid (r = some (0, ByteArray.empty)) := by show _ = _; rw [HR.out, if_pos hz1, hzz]; rfl
      have HZZ := Lib.hid hzz
      clear HR hz hz1 hzz
      go_enter Try.func27, Try.ntmps27
      go_wp2_with (first | ((with_reducible apply sAlloc HS); infer_instance; (first | exact cells_agg _ | exact cells_one rfl); rfl; intro Rc w' H1; clear HS; have HS := H1; clear H1) | (go_at_call 34; refine (nget_int B o 32 32 0 _ rfl bs E _ (HS.mod.row HB.out (fun e => e)) ho (by omega) (by omega)).mono ?_; rintro e w' ⟨rfl, rfl⟩; rw [Nat.add_zero, HV.out]) | (go_at_call 35; refine (pzero B (o) (32) _ bs E _ (HS.mod.row HB.out (fun e => e)) (by omega) (by omega) (by omega)).mono ?_; rintro e w' ⟨rfl, H1⟩; replace HS := HS.fresh H1; clear H1; rw [HZZ.out]) | ((with_reducible apply sStoreB HS); infer_instance; rfl; rfl; (conv => (lhs; whnf)); (repeat (first | exact Rep.here | apply Rep.there)); rfl; rfl; exact (by intro u hu; simp at hu; rcases hu with rfl | rfl <;> rfl); intro w' H1; clear HS; have HS := H1; clear H1))
      refine bodyPost_ret (res2 rfl (resCell (n := 2) HS rfl (by (repeat (first | exact List.Mem.head _ | apply List.Mem.tail))) rfl) (resTmp _ _ _)) rfl ⟨?_, HS.mod⟩
      rw [HRF.out]; rfl
end Go.Proofs.Ytdpbdmbgdcdmaaa
