/- Revoke blocks: the reference's reader. -/
import Derived.Test.YtckadanghhibhaaRre
namespace Go.Proofs.Ytckadanghhibhaa
open Go Go.RowKit

/-- What an own slice holds that lies beyond what was there. -/
theorem St.newOwnB {S : Nat → Prop} {w0 w w' : World} {L : List Ass} (h : St S w0 w L) (hm : Mod none' w w') {e : TypeId} {sz n : Nat} {v : Value} {xs : List Value} (ho : w'.ownsRow w.heap.size e sz v n xs) : St S w0 w' (.own v e sz n xs :: L) := by
  refine h.new hm ⟨ho.1, ho.2.imp id ?_⟩ (fun k hk => (World.ownsRow.lt ho k hk).1)
  rintro ⟨g, cap, cur, hv, _, hg, hr⟩
  exact ⟨g, cap, cur, hv, Nat.zero_le _, hg, hr⟩
def outN : Option (Int × List Int) → Int × List Int × Int
  | none => (0, [], 90)
  | some (s, l) => (s, l, 0)
theorem numsOf_succ (bs : List UInt8) (k : Nat) : numsOf bs (k + 1) = numsOf bs k ++ [get32 bs (16 + 4 * k)] := by
  unfold numsOf; rw [List.range_succ, List.map_append]; rfl
theorem numsOf_getD (bs : List UInt8) {n k j : Nat} (h1 : j < k) (h2 : j < n) : (numsOf bs k).getD j 0 = (numsOf bs n).getD j 0 := by rw [numsOf_get bs k j h1, numsOf_get bs n j h2]

set_option maxRecDepth 100000 in
set_option maxHeartbeats 8000000 in
theorem rrrevoke {S : Nat → Prop} {w0 w : World} {L : List Ass} (HS0 : St S w0 w L) (bs : List UInt8) (hl : bs.length = 256) :
    Calls Try.prog 32 #[.agg (encB bs)] w fun e w' => ∃ v, e = .returned (.tuple #[.int .u32 (outN (rRevoke bs)).1, v, .int .i64 (outN (rRevoke bs)).2.2]) ∧ St S w0 w' (.own v 22 1 (outN (rRevoke bs)).2.1.length (encI (outN (rRevoke bs)).2.1) :: L) := by
  have HL := Lib.hid hl
  have A8 := Lib.hid (fun W => rat bs hl W 8 8 rfl (by decide))
  have A12 := Lib.hid (fun W => rat bs hl W 12 12 rfl (by decide))
  have HAT := Lib.hid (fun W k q h1 h2 => rat bs hl W k q h1 h2)
  have HBG := Lib.hid (fun W => rbeg bs hl 3 W)
  have hz : Hid ((encB bs).size = 256) := (encB_size _).trans hl
  have HG := get32_bd bs 12
  have HRR := Lib.hid (rRevoke_ref hl)
  obtain ⟨r, hr⟩ : ∃ r, rRevoke bs = r := ⟨_, rfl⟩
  rw [hr] at HRR ⊢
  have HS := HS0
  clear hr hl HS0
  obtain ⟨n, hn⟩ : ∃ n : Nat, get32 bs 12 = n := ⟨(get32 bs 12).toNat, by omega⟩
  rw [hn, Int.toNat_natCast] at HRR
  rw [hn] at HG A12
  obtain ⟨v8, h8⟩ : ∃ v, get32 bs 8 = v := ⟨_, rfl⟩
  rw [h8] at HRR A8
  rw [show 240 - 4 * n = 256 - (16 + 4 * n) by omega] at HRR
  clear hn h8
  cases hb : begB bs 3
  · rw [hb] at HBG HRR
    have hrr : r = none := by rw [HRR.out, if_neg (by simp)]
    subst hrr
    clear HRR hb
    go_enter Try.func32, Try.ntmps32
    go_wp2_with (first | ((with_reducible apply sBox HS); rfl; (conv => (lhs; whnf)); (first | exact cells_agg _ | exact cells_one rfl); intro B1 w' H1; clear HS; have HS := H1; clear H1) | ((with_reducible apply sLoadB HS); infer_instance; rfl; rfl; (repeat (first | exact List.Mem.head _ | apply List.Mem.tail)); with_reducible exact hz.out) | (go_at_call 48; refine (HBG.out _).mono ?_; rintro e w' ⟨rfl, H1⟩; replace HS := HS.fresh H1; clear H1) | (go_at_call 49; (with_reducible refine (A12.out _).mono ?_); rintro e w' ⟨rfl, H1⟩; replace HS := HS.fresh H1; clear H1) | (go_at_call 49; (with_reducible refine (A8.out _).mono ?_); rintro e w' ⟨rfl, H1⟩; replace HS := HS.fresh H1; clear H1) | (go_at_call 50; (with_reducible refine (HZ.out _ _ ?_).mono ?_); exact (HS.blk (by (repeat (first | exact List.Mem.head _ | apply List.Mem.tail)))); rintro e w' ⟨rfl, rfl⟩) | (go_at_call 50; (with_reducible refine (HZ0.out _ _ ?_).mono ?_); exact (HS.blk (by (repeat (first | exact List.Mem.head _ | apply List.Mem.tail)))); rintro e w' ⟨rfl, rfl⟩))
    refine bodyPost_ret (res3 rfl (resTmp _ _ _) (resTmp _ _ _) (resTmp _ _ _)) rfl ⟨_, rfl, (by first | exact HS.tail.ownNil _ _ | exact HS.tail.tail.ownNil _ _)⟩
  rw [hb] at HBG HRR
  by_cases h1 : 1 ≤ n
  rotate_left
  · have hrr : r = none := by rw [HRR.out, if_neg (fun h => by have := h.2.1; omega)]
    subst hrr
    have hcd : decide ((n : Int) < (1 : Int)) = true := decide_eq_true (by omega)
    clear HRR hb
    go_enter Try.func32, Try.ntmps32
    go_wp2_with (first | ((with_reducible apply sBox HS); rfl; (conv => (lhs; whnf)); (first | exact cells_agg _ | exact cells_one rfl); intro B1 w' H1; clear HS; have HS := H1; clear H1) | ((with_reducible apply sLoadB HS); infer_instance; rfl; rfl; (repeat (first | exact List.Mem.head _ | apply List.Mem.tail)); with_reducible exact hz.out) | (go_at_call 48; refine (HBG.out _).mono ?_; rintro e w' ⟨rfl, H1⟩; replace HS := HS.fresh H1; clear H1) | (go_at_call 49; (with_reducible refine (A12.out _).mono ?_); rintro e w' ⟨rfl, H1⟩; replace HS := HS.fresh H1; clear H1) | (go_at_call 49; (with_reducible refine (A8.out _).mono ?_); rintro e w' ⟨rfl, H1⟩; replace HS := HS.fresh H1; clear H1) | (go_at_call 50; (with_reducible refine (HZ.out _ _ ?_).mono ?_); exact (HS.blk (by (repeat (first | exact List.Mem.head _ | apply List.Mem.tail)))); rintro e w' ⟨rfl, rfl⟩) | (go_at_call 50; (with_reducible refine (HZ0.out _ _ ?_).mono ?_); exact (HS.blk (by (repeat (first | exact List.Mem.head _ | apply List.Mem.tail)))); rintro e w' ⟨rfl, rfl⟩))
    refine bodyPost_ret (res3 rfl (resTmp _ _ _) (resTmp _ _ _) (resTmp _ _ _)) rfl ⟨_, rfl, (by first | exact HS.tail.ownNil _ _ | exact HS.tail.tail.ownNil _ _)⟩
  have hcd1 : decide ((n : Int) < (1 : Int)) = false := decide_eq_false (by omega)
  by_cases h60 : n ≤ 60
  rotate_left
  · have hrr : r = none := by rw [HRR.out, if_neg (fun h => by have := h.2.2.1; omega)]
    subst hrr
    have hcd : decide ((60 : Int) < (n : Int)) = true := decide_eq_true (by omega)
    clear HRR hb
    go_enter Try.func32, Try.ntmps32
    go_wp2_with (first | ((with_reducible apply sBox HS); rfl; (conv => (lhs; whnf)); (first | exact cells_agg _ | exact cells_one rfl); intro B1 w' H1; clear HS; have HS := H1; clear H1) | ((with_reducible apply sLoadB HS); infer_instance; rfl; rfl; (repeat (first | exact List.Mem.head _ | apply List.Mem.tail)); with_reducible exact hz.out) | (go_at_call 48; refine (HBG.out _).mono ?_; rintro e w' ⟨rfl, H1⟩; replace HS := HS.fresh H1; clear H1) | (go_at_call 49; (with_reducible refine (A12.out _).mono ?_); rintro e w' ⟨rfl, H1⟩; replace HS := HS.fresh H1; clear H1) | (go_at_call 49; (with_reducible refine (A8.out _).mono ?_); rintro e w' ⟨rfl, H1⟩; replace HS := HS.fresh H1; clear H1) | (go_at_call 50; (with_reducible refine (HZ.out _ _ ?_).mono ?_); exact (HS.blk (by (repeat (first | exact List.Mem.head _ | apply List.Mem.tail)))); rintro e w' ⟨rfl, rfl⟩) | (go_at_call 50; (with_reducible refine (HZ0.out _ _ ?_).mono ?_); exact (HS.blk (by (repeat (first | exact List.Mem.head _ | apply List.Mem.tail)))); rintro e w' ⟨rfl, rfl⟩))
    refine bodyPost_ret (res3 rfl (resTmp _ _ _) (resTmp _ _ _) (resTmp _ _ _)) rfl ⟨_, rfl, (by first | exact HS.tail.ownNil _ _ | exact HS.tail.tail.ownNil _ _)⟩
  have hcd2 : decide ((60 : Int) < (n : Int)) = false := decide_eq_false (by omega)
  have hw1 : IntKind.u32.wrap (4 * (n : Int)) = ((4 * n : Nat) : Int) := by rw [IntWalk.u32_in _ (by omega)]; push_cast; rfl
  have hsl : (16 : Int) + 4 * (n : Int) ≤ 256 := by omega
  have hsl0 : (0 : Int) ≤ (16 : Int) + 4 * (n : Int) := by omega
  have HZ := Lib.hid (fun B W (h : W.heap[B]? = some (.cells (encB bs) 28 (0, 0))) => rzero B (16 + 4 * n) (256 - (16 + 4 * n)) (256 - (16 + 4 * n)) bs _ W h (by rw [HL.out]; omega) (by omega))
  have HZ0 := Lib.hid (fun B W (h : W.heap[B]? = some (.cells (encB bs) 28 (0, 0))) => rzero B 0 0 0 bs _ W h (by omega) (by omega))
  rw [show allZ bs 0 0 = true from rfl] at HZ0
  rcases Nat.lt_or_ge n 60 with h60l | h60g
  · have hne : ¬ 256 = 16 + 4 * n := by omega
    cases hzz : allZ bs (16 + 4 * n) (256 - (16 + 4 * n))
    · rw [hzz] at HZ HRR
      have hrr : r = none := by rw [HRR.out, if_neg (by simp)]
      subst hrr
      clear HRR hb hzz
      go_enter Try.func32, Try.ntmps32
      go_wp2_with (first | ((with_reducible apply sBox HS); rfl; (conv => (lhs; whnf)); (first | exact cells_agg _ | exact cells_one rfl); intro B1 w' H1; clear HS; have HS := H1; clear H1) | ((with_reducible apply sLoadB HS); infer_instance; rfl; rfl; (repeat (first | exact List.Mem.head _ | apply List.Mem.tail)); with_reducible exact hz.out) | (go_at_call 48; refine (HBG.out _).mono ?_; rintro e w' ⟨rfl, H1⟩; replace HS := HS.fresh H1; clear H1) | (go_at_call 49; (with_reducible refine (A12.out _).mono ?_); rintro e w' ⟨rfl, H1⟩; replace HS := HS.fresh H1; clear H1) | (go_at_call 49; (with_reducible refine (A8.out _).mono ?_); rintro e w' ⟨rfl, H1⟩; replace HS := HS.fresh H1; clear H1) | (go_at_call 50; (with_reducible refine (HZ.out _ _ ?_).mono ?_); exact (HS.blk (by (repeat (first | exact List.Mem.head _ | apply List.Mem.tail)))); rintro e w' ⟨rfl, rfl⟩) | (go_at_call 50; (with_reducible refine (HZ0.out _ _ ?_).mono ?_); exact (HS.blk (by (repeat (first | exact List.Mem.head _ | apply List.Mem.tail)))); rintro e w' ⟨rfl, rfl⟩))
      refine bodyPost_ret (res3 rfl (resTmp _ _ _) (resTmp _ _ _) (resTmp _ _ _)) rfl ⟨_, rfl, (by first | exact HS.tail.ownNil _ _ | exact HS.tail.tail.ownNil _ _)⟩
    · rw [hzz] at HZ HRR
      have HR2 : Hid (r = if risesN (numsOf bs n) = true then some (v8, numsOf bs n) else none) := by
        show _ = _
        rw [HRR.out]
        by_cases hx : risesN (numsOf bs n) = true
        · rw [if_pos ⟨rfl, by omega, by omega, rfl, hx⟩, if_pos hx]
        · rw [if_neg (fun h => hx h.2.2.2.2), if_neg hx]
      clear HRR hb hzz
      go_enter Try.func32, Try.ntmps32
      go_wp2_with (first | ((with_reducible apply sBox HS); rfl; (conv => (lhs; whnf)); (first | exact cells_agg _ | exact cells_one rfl); intro B1 w' H1; clear HS; have HS := H1; clear H1) | ((with_reducible apply sLoadB HS); infer_instance; rfl; rfl; (repeat (first | exact List.Mem.head _ | apply List.Mem.tail)); with_reducible exact hz.out) | (go_at_call 48; refine (HBG.out _).mono ?_; rintro e w' ⟨rfl, H1⟩; replace HS := HS.fresh H1; clear H1) | (go_at_call 49; (with_reducible refine (A12.out _).mono ?_); rintro e w' ⟨rfl, H1⟩; replace HS := HS.fresh H1; clear H1) | (go_at_call 49; (with_reducible refine (A8.out _).mono ?_); rintro e w' ⟨rfl, H1⟩; replace HS := HS.fresh H1; clear H1) | (go_at_call 50; (with_reducible refine (HZ.out _ _ ?_).mono ?_); exact (HS.blk (by (repeat (first | exact List.Mem.head _ | apply List.Mem.tail)))); rintro e w' ⟨rfl, rfl⟩) | (go_at_call 50; (with_reducible refine (HZ0.out _ _ ?_).mono ?_); exact (HS.blk (by (repeat (first | exact List.Mem.head _ | apply List.Mem.tail)))); rintro e w' ⟨rfl, rfl⟩))
      replace HS := HS.ownNil 22 1
      go_loopw [6, 7] (fun ov iv wr => ∃ k : Nat, k ≤ n ∧ iv = .int .i64 (k : Int) ∧ Hid (riseTo (numsOf bs n) k) ∧ St S w0 wr (.own ov 22 1 k (encI (numsOf bs k)) :: .blk true B1 (encB bs) 28 :: L)) (fun _ iv _ => n - (intOf iv).toNat)
      case atStart => exact ⟨0, Nat.zero_le _, rfl, (fun i hi => by omega), HS⟩
      case round =>
        obtain ⟨k, hk, rfl, HRI, HS⟩ := hrel
        obtain ⟨oa, oc, rfl⟩ := own_slice (HS.own (.head _))
        by_cases hlt : k < n
        · have hltI : decide ((k : Int) < (n : Int)) = true := decide_eq_true (by omega)
          have HNS : Hid (encI (numsOf bs k) ++ (#[Value.int .u32 (get32 bs (16 + 4 * k))] : Array Value).toList = encI (numsOf bs (k + 1))) := by show _ = _; rw [numsOf_succ, ← encI_app]; rfl
          have HGK : Hid ((numsOf bs n).getD k 0 = get32 bs (16 + 4 * k)) := numsOf_get bs n k hlt
          obtain ⟨x, hx⟩ : ∃ x, get32 bs (16 + 4 * k) = x := ⟨_, rfl⟩
          rw [hx] at HNS HGK
          have HX := Lib.hid hx
          clear hx
          rcases k with _ | k
          · go_wp2_with (first | ((with_reducible apply sLoadB HS); infer_instance; rfl; rfl; (repeat (first | exact List.Mem.head _ | apply List.Mem.tail)); with_reducible exact hz.out) | (go_at_call 49; (with_reducible refine (HAT.out _ (16 + 4 * (0)) _ ?_ ?_).mono ?_); (first | rfl | (push_cast; omega) | (push_cast; rfl)); omega; rintro e w' ⟨rfl, H1⟩; rw [HX.out]; replace HS := HS.fresh H1; clear H1) | (go_at_call 49; (with_reducible refine (A8.out _).mono ?_); rintro e w' ⟨rfl, H1⟩; replace HS := HS.fresh H1; clear H1) | (at_builtin; (have H2 := HS.alloc #[.int .u32 x] 22); (with_reducible apply sAppend H2 Try.underlying26 infoN rfl (by decide)); (conv => (lhs; whnf)); (intro v'; (repeat (first | exact Rep.here | apply Rep.there))); rfl; rotate_left; exact H2.newsAll (.head _); rotate_right; rfl; (exact encI_one [x]); decide; omega; intro v1 w9 H1 hnil; clear HS H2; have HS := H1.tail; clear H1 hnil; rw [HNS.out] at HS))
            go_roundw
            case rel => exact ⟨1, by omega, by go_num, (fun i hi => by omega), HS⟩
            case measure => simp [intOf]; omega
          · have hgt : decide ((0 : Int) < (k : Int) + 1) = true := decide_eq_true (by omega)
            obtain ⟨g, oc2, e3, _⟩ := own_row (HS.own (.head _)) (Nat.succ_pos k)
            obtain ⟨rfl, rfl⟩ : oa = some ⟨g, 0, none⟩ ∧ oc = oc2 := by simpa using e3
            clear e3
            have hv0 : Hid ((encI (numsOf bs (k + 1)))[k]? = some (.int .u32 ((numsOf bs n).getD k 0))) := by
              show _ = _
              rw [encI_get (by rw [numsOf_len]; omega), numsOf_getD bs (by omega) (show k < n by omega)]
            have HST := Lib.hid (fun h => riseTo_succ HRI.out h)
            have HNO := Lib.hid (fun h => rise_not (l := numsOf bs n) (k := k) (by rw [numsOf_len]; omega) h)
            rw [HGK.out] at HST HNO
            obtain ⟨y, hy⟩ : ∃ x, (numsOf bs n).getD k 0 = x := ⟨_, rfl⟩
            rw [hy] at hv0 HST HNO
            clear hy
            by_cases hyx : y < x
            · have hle : decide (x ≤ y) = false := decide_eq_false (by omega)
              have hle2 : ¬ x ≤ y := by omega
              go_wp2_with (first | ((with_reducible apply sLoadB HS); infer_instance; rfl; rfl; (repeat (first | exact List.Mem.head _ | apply List.Mem.tail)); with_reducible exact hz.out) | (go_at_call 49; (with_reducible refine (HAT.out _ (16 + 4 * (k + 1)) _ ?_ ?_).mono ?_); (first | rfl | (push_cast; omega) | (push_cast; rfl)); omega; rintro e w' ⟨rfl, H1⟩; rw [HX.out]; replace HS := HS.fresh H1; clear H1) | ((with_reducible apply sLoadO1 HS); infer_instance; rfl; rfl; exact .head _; exact hv0.out) | (at_builtin; (have H2 := HS.alloc #[.int .u32 x] 22); (with_reducible apply sAppend H2 Try.underlying26 infoN rfl (by decide)); (conv => (lhs; whnf)); (intro v'; (repeat (first | exact Rep.here | apply Rep.there))); rfl; rotate_left; exact H2.newsAll (.head _); rotate_right; rfl; (exact encI_one [x]); decide; omega; intro v1 w9 H1 hnil; clear HS H2; have HS := H1.tail; clear H1 hnil; rw [HNS.out] at HS))
              go_roundw
              case rel => exact ⟨k + 1 + 1, by omega, by go_num, HST.out hyx, HS⟩
              case measure => simp [intOf]; omega
            · have hle : decide (x ≤ y) = true := decide_eq_true (by omega)
              have hle2 : x ≤ y := by omega
              have hrn : r = none := by rw [HR2.out, HNO.out hyx]; rfl
              subst hrn
              go_wp2_with (first | ((with_reducible apply sLoadB HS); infer_instance; rfl; rfl; (repeat (first | exact List.Mem.head _ | apply List.Mem.tail)); with_reducible exact hz.out) | (go_at_call 49; (with_reducible refine (HAT.out _ (16 + 4 * (k + 1)) _ ?_ ?_).mono ?_); (first | rfl | (push_cast; omega) | (push_cast; rfl)); omega; rintro e w' ⟨rfl, H1⟩; rw [HX.out]; replace HS := HS.fresh H1; clear H1) | ((with_reducible apply sLoadO1 HS); infer_instance; rfl; rfl; exact .head _; exact hv0.out) | (at_builtin; (have H2 := HS.alloc #[.int .u32 x] 22); (with_reducible apply sAppend H2 Try.underlying26 infoN rfl (by decide)); (conv => (lhs; whnf)); (intro v'; (repeat (first | exact Rep.here | apply Rep.there))); rfl; rotate_left; exact H2.newsAll (.head _); rotate_right; rfl; (exact encI_one [x]); decide; omega; intro v1 w9 H1 hnil; clear HS H2; have HS := H1.tail; clear H1 hnil; rw [HNS.out] at HS))
              refine bodyPost_ret (res3 rfl (resTmp _ _ _) (resTmp _ _ _) (resTmp _ _ _)) rfl ⟨_, rfl, (by first | exact HS.tail.ownNil _ _ | exact HS.tail.tail.ownNil _ _)⟩
        · obtain rfl : k = n := by omega
          have hltI : decide ((k : Int) < (k : Int)) = false := decide_eq_false (by omega)
          have hrise : risesN (numsOf bs k) = true := (riseTo_all _).1 (by rw [numsOf_len]; exact HRI.out)
          have hrn : r = some (v8, numsOf bs k) := by rw [HR2.out, if_pos hrise]
          subst hrn
          have HLK : Hid ((numsOf bs k).length = k) := numsOf_len bs k
          clear hrise HR2
          go_wp2_with (first | ((with_reducible apply sBox HS); rfl; (conv => (lhs; whnf)); (first | exact cells_agg _ | exact cells_one rfl); intro B1 w' H1; clear HS; have HS := H1; clear H1) | ((with_reducible apply sLoadB HS); infer_instance; rfl; rfl; (repeat (first | exact List.Mem.head _ | apply List.Mem.tail)); with_reducible exact hz.out) | (go_at_call 48; refine (HBG.out _).mono ?_; rintro e w' ⟨rfl, H1⟩; replace HS := HS.fresh H1; clear H1) | (go_at_call 49; (with_reducible refine (A12.out _).mono ?_); rintro e w' ⟨rfl, H1⟩; replace HS := HS.fresh H1; clear H1) | (go_at_call 49; (with_reducible refine (A8.out _).mono ?_); rintro e w' ⟨rfl, H1⟩; replace HS := HS.fresh H1; clear H1) | (go_at_call 50; (with_reducible refine (HZ.out _ _ ?_).mono ?_); exact (HS.blk (by (repeat (first | exact List.Mem.head _ | apply List.Mem.tail)))); rintro e w' ⟨rfl, rfl⟩) | (go_at_call 50; (with_reducible refine (HZ0.out _ _ ?_).mono ?_); exact (HS.blk (by (repeat (first | exact List.Mem.head _ | apply List.Mem.tail)))); rintro e w' ⟨rfl, rfl⟩))
          refine bodyPost_ret (res3 rfl (resTmp _ _ _) (resTmp _ _ _) (resTmp _ _ _)) rfl ⟨_, rfl, ?_⟩
          show St S w0 _ (.own _ 22 1 (numsOf bs k).length (encI (numsOf bs k)) :: L)
          rw [HLK.out]
          exact HS.swap.tail
  · have heq : 256 = 16 + 4 * n := by omega
    have hzz : allZ bs (16 + 4 * n) (256 - (16 + 4 * n)) = true := by rw [← heq]; rfl
    rw [hzz] at HRR
    have HR2 : Hid (r = if risesN (numsOf bs n) = true then some (v8, numsOf bs n) else none) := by
      show _ = _
      rw [HRR.out]
      by_cases hx : risesN (numsOf bs n) = true
      · rw [if_pos ⟨rfl, by omega, by omega, rfl, hx⟩, if_pos hx]
      · rw [if_neg (fun h => hx h.2.2.2.2), if_neg hx]
    clear HRR hb hzz HZ
    go_enter Try.func32, Try.ntmps32
    go_wp2_with (first | ((with_reducible apply sBox HS); rfl; (conv => (lhs; whnf)); (first | exact cells_agg _ | exact cells_one rfl); intro B1 w' H1; clear HS; have HS := H1; clear H1) | ((with_reducible apply sLoadB HS); infer_instance; rfl; rfl; (repeat (first | exact List.Mem.head _ | apply List.Mem.tail)); with_reducible exact hz.out) | (go_at_call 48; refine (HBG.out _).mono ?_; rintro e w' ⟨rfl, H1⟩; replace HS := HS.fresh H1; clear H1) | (go_at_call 49; (with_reducible refine (A12.out _).mono ?_); rintro e w' ⟨rfl, H1⟩; replace HS := HS.fresh H1; clear H1) | (go_at_call 49; (with_reducible refine (A8.out _).mono ?_); rintro e w' ⟨rfl, H1⟩; replace HS := HS.fresh H1; clear H1) | (go_at_call 50; (with_reducible refine (HZ.out _ _ ?_).mono ?_); exact (HS.blk (by (repeat (first | exact List.Mem.head _ | apply List.Mem.tail)))); rintro e w' ⟨rfl, rfl⟩) | (go_at_call 50; (with_reducible refine (HZ0.out _ _ ?_).mono ?_); exact (HS.blk (by (repeat (first | exact List.Mem.head _ | apply List.Mem.tail)))); rintro e w' ⟨rfl, rfl⟩))
    replace HS := HS.ownNil 22 1
    go_loopw [6, 7] (fun ov iv wr => ∃ k : Nat, k ≤ n ∧ iv = .int .i64 (k : Int) ∧ Hid (riseTo (numsOf bs n) k) ∧ St S w0 wr (.own ov 22 1 k (encI (numsOf bs k)) :: .blk true B1 (encB bs) 28 :: L)) (fun _ iv _ => n - (intOf iv).toNat)
    case atStart => exact ⟨0, Nat.zero_le _, rfl, (fun i hi => by omega), HS⟩
    case round =>
      obtain ⟨k, hk, rfl, HRI, HS⟩ := hrel
      obtain ⟨oa, oc, rfl⟩ := own_slice (HS.own (.head _))
      by_cases hlt : k < n
      · have hltI : decide ((k : Int) < (n : Int)) = true := decide_eq_true (by omega)
        have HNS : Hid (encI (numsOf bs k) ++ (#[Value.int .u32 (get32 bs (16 + 4 * k))] : Array Value).toList = encI (numsOf bs (k + 1))) := by show _ = _; rw [numsOf_succ, ← encI_app]; rfl
        have HGK : Hid ((numsOf bs n).getD k 0 = get32 bs (16 + 4 * k)) := numsOf_get bs n k hlt
        obtain ⟨x, hx⟩ : ∃ x, get32 bs (16 + 4 * k) = x := ⟨_, rfl⟩
        rw [hx] at HNS HGK
        have HX := Lib.hid hx
        clear hx
        rcases k with _ | k
        · go_wp2_with (first | ((with_reducible apply sLoadB HS); infer_instance; rfl; rfl; (repeat (first | exact List.Mem.head _ | apply List.Mem.tail)); with_reducible exact hz.out) | (go_at_call 49; (with_reducible refine (HAT.out _ (16 + 4 * (0)) _ ?_ ?_).mono ?_); (first | rfl | (push_cast; omega) | (push_cast; rfl)); omega; rintro e w' ⟨rfl, H1⟩; rw [HX.out]; replace HS := HS.fresh H1; clear H1) | (go_at_call 49; (with_reducible refine (A8.out _).mono ?_); rintro e w' ⟨rfl, H1⟩; replace HS := HS.fresh H1; clear H1) | (at_builtin; (have H2 := HS.alloc #[.int .u32 x] 22); (with_reducible apply sAppend H2 Try.underlying26 infoN rfl (by decide)); (conv => (lhs; whnf)); (intro v'; (repeat (first | exact Rep.here | apply Rep.there))); rfl; rotate_left; exact H2.newsAll (.head _); rotate_right; rfl; (exact encI_one [x]); decide; omega; intro v1 w9 H1 hnil; clear HS H2; have HS := H1.tail; clear H1 hnil; rw [HNS.out] at HS))
          go_roundw
          case rel => exact ⟨1, by omega, by go_num, (fun i hi => by omega), HS⟩
          case measure => simp [intOf]; omega
        · have hgt : decide ((0 : Int) < (k : Int) + 1) = true := decide_eq_true (by omega)
          obtain ⟨g, oc2, e3, _⟩ := own_row (HS.own (.head _)) (Nat.succ_pos k)
          obtain ⟨rfl, rfl⟩ : oa = some ⟨g, 0, none⟩ ∧ oc = oc2 := by simpa using e3
          clear e3
          have hv0 : Hid ((encI (numsOf bs (k + 1)))[k]? = some (.int .u32 ((numsOf bs n).getD k 0))) := by
            show _ = _
            rw [encI_get (by rw [numsOf_len]; omega), numsOf_getD bs (by omega) (show k < n by omega)]
          have HST := Lib.hid (fun h => riseTo_succ HRI.out h)
          have HNO := Lib.hid (fun h => rise_not (l := numsOf bs n) (k := k) (by rw [numsOf_len]; omega) h)
          rw [HGK.out] at HST HNO
          obtain ⟨y, hy⟩ : ∃ x, (numsOf bs n).getD k 0 = x := ⟨_, rfl⟩
          rw [hy] at hv0 HST HNO
          clear hy
          by_cases hyx : y < x
          · have hle : decide (x ≤ y) = false := decide_eq_false (by omega)
            have hle2 : ¬ x ≤ y := by omega
            go_wp2_with (first | ((with_reducible apply sLoadB HS); infer_instance; rfl; rfl; (repeat (first | exact List.Mem.head _ | apply List.Mem.tail)); with_reducible exact hz.out) | (go_at_call 49; (with_reducible refine (HAT.out _ (16 + 4 * (k + 1)) _ ?_ ?_).mono ?_); (first | rfl | (push_cast; omega) | (push_cast; rfl)); omega; rintro e w' ⟨rfl, H1⟩; rw [HX.out]; replace HS := HS.fresh H1; clear H1) | ((with_reducible apply sLoadO1 HS); infer_instance; rfl; rfl; exact .head _; exact hv0.out) | (at_builtin; (have H2 := HS.alloc #[.int .u32 x] 22); (with_reducible apply sAppend H2 Try.underlying26 infoN rfl (by decide)); (conv => (lhs; whnf)); (intro v'; (repeat (first | exact Rep.here | apply Rep.there))); rfl; rotate_left; exact H2.newsAll (.head _); rotate_right; rfl; (exact encI_one [x]); decide; omega; intro v1 w9 H1 hnil; clear HS H2; have HS := H1.tail; clear H1 hnil; rw [HNS.out] at HS))
            go_roundw
            case rel => exact ⟨k + 1 + 1, by omega, by go_num, HST.out hyx, HS⟩
            case measure => simp [intOf]; omega
          · have hle : decide (x ≤ y) = true := decide_eq_true (by omega)
            have hle2 : x ≤ y := by omega
            have hrn : r = none := by rw [HR2.out, HNO.out hyx]; rfl
            subst hrn
            go_wp2_with (first | ((with_reducible apply sLoadB HS); infer_instance; rfl; rfl; (repeat (first | exact List.Mem.head _ | apply List.Mem.tail)); with_reducible exact hz.out) | (go_at_call 49; (with_reducible refine (HAT.out _ (16 + 4 * (k + 1)) _ ?_ ?_).mono ?_); (first | rfl | (push_cast; omega) | (push_cast; rfl)); omega; rintro e w' ⟨rfl, H1⟩; rw [HX.out]; replace HS := HS.fresh H1; clear H1) | ((with_reducible apply sLoadO1 HS); infer_instance; rfl; rfl; exact .head _; exact hv0.out) | (at_builtin; (have H2 := HS.alloc #[.int .u32 x] 22); (with_reducible apply sAppend H2 Try.underlying26 infoN rfl (by decide)); (conv => (lhs; whnf)); (intro v'; (repeat (first | exact Rep.here | apply Rep.there))); rfl; rotate_left; exact H2.newsAll (.head _); rotate_right; rfl; (exact encI_one [x]); decide; omega; intro v1 w9 H1 hnil; clear HS H2; have HS := H1.tail; clear H1 hnil; rw [HNS.out] at HS))
            refine bodyPost_ret (res3 rfl (resTmp _ _ _) (resTmp _ _ _) (resTmp _ _ _)) rfl ⟨_, rfl, (by first | exact HS.tail.ownNil _ _ | exact HS.tail.tail.ownNil _ _)⟩
      · obtain rfl : k = n := by omega
        have hltI : decide ((k : Int) < (k : Int)) = false := decide_eq_false (by omega)
        have hrise : risesN (numsOf bs k) = true := (riseTo_all _).1 (by rw [numsOf_len]; exact HRI.out)
        have hrn : r = some (v8, numsOf bs k) := by rw [HR2.out, if_pos hrise]
        subst hrn
        have HLK : Hid ((numsOf bs k).length = k) := numsOf_len bs k
        clear hrise HR2
        go_wp2_with (first | ((with_reducible apply sBox HS); rfl; (conv => (lhs; whnf)); (first | exact cells_agg _ | exact cells_one rfl); intro B1 w' H1; clear HS; have HS := H1; clear H1) | ((with_reducible apply sLoadB HS); infer_instance; rfl; rfl; (repeat (first | exact List.Mem.head _ | apply List.Mem.tail)); with_reducible exact hz.out) | (go_at_call 48; refine (HBG.out _).mono ?_; rintro e w' ⟨rfl, H1⟩; replace HS := HS.fresh H1; clear H1) | (go_at_call 49; (with_reducible refine (A12.out _).mono ?_); rintro e w' ⟨rfl, H1⟩; replace HS := HS.fresh H1; clear H1) | (go_at_call 49; (with_reducible refine (A8.out _).mono ?_); rintro e w' ⟨rfl, H1⟩; replace HS := HS.fresh H1; clear H1) | (go_at_call 50; (with_reducible refine (HZ.out _ _ ?_).mono ?_); exact (HS.blk (by (repeat (first | exact List.Mem.head _ | apply List.Mem.tail)))); rintro e w' ⟨rfl, rfl⟩) | (go_at_call 50; (with_reducible refine (HZ0.out _ _ ?_).mono ?_); exact (HS.blk (by (repeat (first | exact List.Mem.head _ | apply List.Mem.tail)))); rintro e w' ⟨rfl, rfl⟩))
        refine bodyPost_ret (res3 rfl (resTmp _ _ _) (resTmp _ _ _) (resTmp _ _ _)) rfl ⟨_, rfl, ?_⟩
        show St S w0 _ (.own _ 22 1 (numsOf bs k).length (encI (numsOf bs k)) :: L)
        rw [HLK.out]
        exact HS.swap.tail
end Go.Proofs.Ytckadanghhibhaa
