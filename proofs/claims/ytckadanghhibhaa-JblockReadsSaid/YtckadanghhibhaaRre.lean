/- The reference's kinds and escapes; revoke blocks read. -/
import Derived.Test.YtckadanghhibhaaRrd
namespace Go.Proofs.Ytckadanghhibhaa
open Go Go.RowKit

theorem encB_set0 (b : List UInt8) (k : Nat) : (encB b).setIfInBounds k (.int .u8 0) = encB (b.set k (u8 0)) := encB_set b k 0
theorem esc4 (bs : List UInt8) : ((((encB bs).setIfInBounds 0 (.int .u8 0)).setIfInBounds 1 (.int .u8 0)).setIfInBounds 2 (.int .u8 0)).setIfInBounds 3 (.int .u8 0) = encB (put32 bs 0 0) := by
  have h : ∀ (b : List UInt8) (k : Nat), (encB b).setIfInBounds k (.int .u8 0) = encB (b.set k (u8 0)) := fun b k => encB_set b k 0
  rw [h, h, h, h]
  rfl

set_option maxRecDepth 100000 in
set_option maxHeartbeats 2000000 in
theorem rrkind (bs : List UInt8) (hl : bs.length = 256) (w : World) :
    Calls Try.prog 30 #[.agg (encB bs)] w fun e w' => e = .returned (resK (kindB bs)) ∧ Mod none' w w' := by
  have HS := St.nil none' w
  have A8 := Lib.hid (fun W => rat bs hl W 8 8 rfl (by decide))
  have HBG := Lib.hid (fun k W => rbeg bs hl k W)
  have hz : Hid ((encB bs).size = 256) := (encB_size _).trans hl
  clear hl
  go_enter Try.func30, Try.ntmps30
  go_wp2_with ((with_reducible apply sBox HS); rfl; (conv => (lhs; whnf)); (first | exact cells_agg _ | exact cells_one rfl); intro B1 w' H1; clear HS; have HS := H1; clear H1)
  go_loopw [4] (fun kv wr => ∃ k : Nat, 1 ≤ k ∧ k ≤ 5 ∧ kv = .int .u32 (k : Int) ∧ Hid (∀ j : Nat, 1 ≤ j → j < k → begB bs (j : Int) = false) ∧ St none' w wr [.blk true B1 (encB bs) 28]) (fun kv _ => 5 - (intOf kv).toNat)
  case atStart => exact ⟨1, by omega, by omega, rfl, fun j h1 h2 => by omega, HS⟩
  case round =>
    obtain ⟨k, hk1, hk5, rfl, HA, HS⟩ := hrel
    by_cases h4 : k ≤ 4
    · have h4d : decide ((k : Int) ≤ 4) = true := decide_eq_true (by omega)
      have HK := Lib.hid (fun W => HBG.out (k : Int) W)
      have hw8 : IntKind.u8.wrap (k : Int) = (k : Int) := by rw [IntKind.wrap_u8]; omega
      cases hb : begB bs (k : Int)
      · rw [hb] at HK
        have HB := Lib.hid hb
        clear hb
        go_wp2_with (first | ((with_reducible apply sLoadB HS); infer_instance; rfl; rfl; (repeat (first | exact List.Mem.head _ | apply List.Mem.tail)); exact hz.out) | (go_at_call 48; refine (HK.out _).mono ?_; rintro e w' ⟨rfl, H1⟩; replace HS := HS.fresh H1; clear H1) | (go_at_call 49; (with_reducible refine (A8.out _).mono ?_); rintro e w' ⟨rfl, H1⟩; replace HS := HS.fresh H1; clear H1))
        go_roundw
        case rel =>
          refine ⟨k + 1, by omega, by omega, by go_num, fun j h1 h2 => ?_, HS⟩
          by_cases e : j = k
          · subst e; exact HB.out
          · exact HA.out j h1 (by omega)
        case measure => simp [intOf]; omega
      · rw [hb] at HK
        have HE : Hid (kindB bs = ((k : Int), get32 bs 8)) := begB_kind hb (by omega) (by omega)
        clear hb
        go_wp2_with (first | ((with_reducible apply sLoadB HS); infer_instance; rfl; rfl; (repeat (first | exact List.Mem.head _ | apply List.Mem.tail)); exact hz.out) | (go_at_call 48; refine (HK.out _).mono ?_; rintro e w' ⟨rfl, H1⟩; replace HS := HS.fresh H1; clear H1) | (go_at_call 49; (with_reducible refine (A8.out _).mono ?_); rintro e w' ⟨rfl, H1⟩; replace HS := HS.fresh H1; clear H1))
        refine bodyPost_ret (res2 rfl (resTmp _ _ _) (resTmp _ _ _)) rfl ⟨?_, HS.mod⟩
        rw [HE.out]; rfl
    · obtain rfl : k = 5 := by omega
      have HE : Hid (kindB bs = (0, 0)) := by
        show _ = _
        rw [kind_begB, show begB bs 1 = false from HA.out 1 (by omega) (by omega), show begB bs 2 = false from HA.out 2 (by omega) (by omega), show begB bs 3 = false from HA.out 3 (by omega) (by omega), show begB bs 4 = false from HA.out 4 (by omega) (by omega)]
        rfl
      go_wp2
      refine bodyPost_ret (res2 rfl (resTmp _ _ _) (resTmp _ _ _)) rfl ⟨?_, HS.mod⟩
      rw [HE.out]; rfl

set_option maxRecDepth 100000 in
set_option maxHeartbeats 2000000 in
theorem rresc (bs : List UInt8) (hl : bs.length = 256) (w : World) :
    Calls Try.prog 34 #[.agg (encB bs)] w fun e w' => e = .returned (.tuple #[.agg (encB (escB bs)), .bool (isB bs)]) ∧ Mod none' w w' := by
  have HS := St.nil none' w
  have A0 := Lib.hid (fun W => rat bs hl W 0 0 rfl (by decide))
  have hz : Hid ((encB bs).size = 256) := (encB_size _).trans hl
  have hp : (put32 bs 0 0).length = 256 := by rw [put32_len, hl]
  have hzp : Hid ((encB (put32 bs 0 0)).size = 256) := (encB_size _).trans hp
  have HP := Lib.hid hp
  have HL := Lib.hid hl
  have HE4 : Hid ((((bs.set 0 (u8 0)).set 1 (u8 0)).set 2 (u8 0)).set 3 (u8 0) = put32 bs 0 0) := rfl
  have HEB : Hid (escB bs = if get32 bs 0 = 1280199249 then put32 bs 0 0 else bs) := rfl
  have HIB : Hid (isB bs = decide (get32 bs 0 = 1280199249)) := rfl
  obtain ⟨eb, heb⟩ : ∃ eb, escB bs = eb := ⟨_, rfl⟩
  obtain ⟨ib, hib⟩ : ∃ ib, isB bs = ib := ⟨_, rfl⟩
  rw [heb] at HEB ⊢
  rw [hib] at HIB ⊢
  clear hl hp heb hib
  generalize get32 bs 0 = v0 at *
  by_cases h : v0 = 1280199249
  · have e1 : eb = put32 bs 0 0 := by rw [HEB.out, if_pos h]
    have e2 : ib = true := by rw [HIB.out, decide_eq_true h]
    subst e1 e2 h
    clear HEB HIB
    go_enter Try.func34, Try.ntmps34
    go_wp2_with (first | ((with_reducible apply sBox HS); rfl; (conv => (lhs; whnf)); (first | exact cells_agg _ | exact cells_one rfl); intro B1 w' H1; clear HS; have HS := H1; clear H1) | ((with_reducible apply sAlloc HS); infer_instance; (first | exact cells_agg _ | exact cells_one rfl); rfl; intro B2 w' H1; clear HS; have HS := H1; clear H1) | ((rw [HE4.out] at HS); (with_reducible apply sLoadB HS); infer_instance; rfl; rfl; (repeat (first | exact List.Mem.head _ | apply List.Mem.tail)); with_reducible exact hzp.out) | ((with_reducible apply sLoadB HS); infer_instance; rfl; rfl; (repeat (first | exact List.Mem.head _ | apply List.Mem.tail)); with_reducible exact hz.out) | (go_at_call 49; (with_reducible refine (A0.out _).mono ?_); rintro e w' ⟨rfl, H1⟩; replace HS := HS.fresh H1; clear H1) | ((with_reducible apply sStore1 HS); infer_instance; rfl; rfl; (conv => (lhs; whnf)); (repeat (first | exact Rep.here | apply Rep.there)); (rw [encB_size]; (try simp only [List.length_set]); rw [HL.out]; decide); rfl; intro w' H1; clear HS; rw [encB_set0] at H1; have HS := H1; clear H1) | ((with_reducible apply sStoreB HS); infer_instance; rfl; rfl; (conv => (lhs; whnf)); (repeat (first | exact Rep.here | apply Rep.there)); (first | (with_reducible exact hz.out) | (with_reducible exact hzp.out)); exact z256s; exact encB_one _; intro w' H1; clear HS; have HS := H1; clear H1))
    refine bodyPost_ret (res2 rfl (resCellB HS HP.out rfl (by (repeat (first | exact List.Mem.head _ | apply List.Mem.tail)))) (resTmp _ _ _)) rfl ⟨rfl, HS.mod⟩
  · have e1 : eb = bs := by rw [HEB.out, if_neg h]
    have e2 : ib = false := by rw [HIB.out, decide_eq_false h]
    subst e1 e2
    have hne : (v0 != 1280199249) = true := by simpa using h
    clear HEB HIB
    go_enter Try.func34, Try.ntmps34
    go_wp2_with (first | ((with_reducible apply sBox HS); rfl; (conv => (lhs; whnf)); (first | exact cells_agg _ | exact cells_one rfl); intro B1 w' H1; clear HS; have HS := H1; clear H1) | ((with_reducible apply sAlloc HS); infer_instance; (first | exact cells_agg _ | exact cells_one rfl); rfl; intro B2 w' H1; clear HS; have HS := H1; clear H1) | ((rw [HE4.out] at HS); (with_reducible apply sLoadB HS); infer_instance; rfl; rfl; (repeat (first | exact List.Mem.head _ | apply List.Mem.tail)); with_reducible exact hzp.out) | ((with_reducible apply sLoadB HS); infer_instance; rfl; rfl; (repeat (first | exact List.Mem.head _ | apply List.Mem.tail)); with_reducible exact hz.out) | (go_at_call 49; (with_reducible refine (A0.out _).mono ?_); rintro e w' ⟨rfl, H1⟩; replace HS := HS.fresh H1; clear H1) | ((with_reducible apply sStore1 HS); infer_instance; rfl; rfl; (conv => (lhs; whnf)); (repeat (first | exact Rep.here | apply Rep.there)); (rw [encB_size]; (try simp only [List.length_set]); rw [HL.out]; decide); rfl; intro w' H1; clear HS; rw [encB_set0] at H1; have HS := H1; clear H1) | ((with_reducible apply sStoreB HS); infer_instance; rfl; rfl; (conv => (lhs; whnf)); (repeat (first | exact Rep.here | apply Rep.there)); (first | (with_reducible exact hz.out) | (with_reducible exact hzp.out)); exact z256s; exact encB_one _; intro w' H1; clear HS; have HS := H1; clear H1))
    refine bodyPost_ret (res2 rfl (resCellB HS HL.out rfl (by (repeat (first | exact List.Mem.head _ | apply List.Mem.tail)))) (resTmp _ _ _)) rfl ⟨rfl, HS.mod⟩

set_option maxRecDepth 100000 in
set_option maxHeartbeats 2000000 in
theorem rrunesc (bs : List UInt8) (hl : bs.length = 256) (w : World) :
    Calls Try.prog 35 #[.agg (encB bs)] w fun e w' => e = .returned (.agg (encB (unescB bs))) ∧ Mod none' w w' := by
  have HS := St.nil none' w
  have HL := Lib.hid hl
  have hp : (unescB bs).length = 256 := unescB_len bs hl
  have hzp : Hid ((encB (unescB bs)).size = 256) := (encB_size _).trans hp
  have HP := Lib.hid hp
  clear hl hp
  go_enter Try.func35, Try.ntmps35
  go_wp2_with (first | ((with_reducible apply sBox HS); rfl; (conv => (lhs; whnf)); (first | exact cells_agg _ | exact cells_one rfl); intro B1 w' H1; clear HS; have HS := H1; clear H1) | ((with_reducible apply sAlloc HS); infer_instance; (first | exact cells_agg _ | exact cells_one rfl); rfl; intro B2 w' H1; clear HS; have HS := H1; clear H1) | ((with_reducible apply sLoadB HS); infer_instance; rfl; rfl; (repeat (first | exact List.Mem.head _ | apply List.Mem.tail)); exact hzp.out) | (go_at_call 52; refine (rput_at B1 0 256 256 0 0 _ bs _ _ (HS.blk (by (repeat (first | exact List.Mem.head _ | apply List.Mem.tail)))) rfl (by rw [HL.out]; omega) (by decide) (by decide) (by decide) (by decide)).mono ?_; rintro e w' ⟨rfl, H1, H2⟩; replace HS := HS.rep (A := .blk true B1 (encB bs) 28) (A' := .blk true B1 (encB (unescB bs)) 28) (.there .here) rfl (fun _ hk => .inl hk) H1 H2; clear H1 H2) | ((with_reducible apply sStoreB HS); infer_instance; rfl; rfl; (conv => (lhs; whnf)); (repeat (first | exact Rep.here | apply Rep.there)); exact hzp.out; exact z256s; exact encB_one _; intro w' H1; clear HS; have HS := H1; clear H1))
  refine bodyPost_ret (res1 rfl (resCellB HS HP.out rfl (by (repeat (first | exact List.Mem.head _ | apply List.Mem.tail))))) rfl ⟨rfl, HS.mod⟩
end Go.Proofs.Ytckadanghhibhaa
