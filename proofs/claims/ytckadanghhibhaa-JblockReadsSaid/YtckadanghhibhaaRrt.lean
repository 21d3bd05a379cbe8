/- Descriptors: the reference's reader. -/
import Derived.Test.YtckadanghhibhaaRrn
namespace Go.Proofs.Ytckadanghhibhaa
open Go Go.RowKit

def outT : Option (Int × List (Int × Bool)) → Int × List (Int × Bool) × Int
  | none => (0, [], 90)
  | some (s, l) => (s, l, 0)
theorem tagsOf_succ (bs : List UInt8) (k : Nat) : tagsOf bs (k + 1) = tagsOf bs k ++ [tagAt bs k] := by
  unfold tagsOf; rw [List.range_succ, List.map_append]; rfl
theorem tagsOf_getD (bs : List UInt8) {n k j : Nat} (h1 : j < k) (h2 : j < n) : (tagsOf bs k).getD j (0, false) = (tagsOf bs n).getD j (0, false) := by rw [tagsOf_get bs k j h1, tagsOf_get bs n j h2]
theorem tagAt_eq (bs : List UInt8) (k : Nat) : tagAt bs k = (get32 bs (16 + 8 * k), get32 bs (20 + 8 * k) == 1) := by
  unfold tagAt
  rw [show 16 + 8 * k + 4 = 20 + 8 * k by omega]
  rfl
theorem encTl_snoc (l : List (Int × Bool)) (x : Int) (b : Bool) : encTl l ++ (#[Value.int .u32 x, .bool b] : Array Value).toList = encTl (l ++ [(x, b)]) := by
  unfold encTl; rw [encT]; simp [encT]
instance : Zero0 Try.prog 55 (.agg #[.int .u32 0, .bool false]) := ⟨by kernel_rfl⟩

set_option maxRecDepth 100000 in
set_option maxHeartbeats 8000000 in
theorem rrdesc {S : Nat → Prop} {w0 w : World} {L : List Ass} (HS0 : St S w0 w L) (bs : List UInt8) (hl : bs.length = 256) :
    Calls Try.prog 31 #[.agg (encB bs)] w fun e w' => ∃ v, e = .returned (.tuple #[.int .u32 (outT (rDesc bs)).1, v, .int .i64 (outT (rDesc bs)).2.2]) ∧ St S w0 w' (.own v 55 2 (outT (rDesc bs)).2.1.length (encTl (outT (rDesc bs)).2.1) :: L) := by
  have HL := Lib.hid hl
  have A8 := Lib.hid (fun W => rat bs hl W 8 8 rfl (by decide))
  have A12 := Lib.hid (fun W => rat bs hl W 12 12 rfl (by decide))
  have HAT := Lib.hid (fun W k q h1 h2 => rat bs hl W k q h1 h2)
  have HBG := Lib.hid (fun W => rbeg bs hl 1 W)
  have hz : Hid ((encB bs).size = 256) := (encB_size _).trans hl
  have HG := get32_bd bs 12
  have HRR := Lib.hid (rDesc_ref hl)
  obtain ⟨r, hr⟩ : ∃ r, rDesc bs = r := ⟨_, rfl⟩
  rw [hr] at HRR ⊢
  have HS := HS0
  clear hr hl HS0
  obtain ⟨n, hn⟩ : ∃ n : Nat, get32 bs 12 = n := ⟨(get32 bs 12).toNat, by omega⟩
  rw [hn, Int.toNat_natCast] at HRR
  rw [hn] at HG A12
  obtain ⟨v8, h8⟩ : ∃ v, get32 bs 8 = v := ⟨_, rfl⟩
  rw [h8] at HRR A8
  rw [show 240 - 8 * n = 256 - (16 + 8 * n) by omega] at HRR
  clear hn h8
  cases hb : begB bs 1
  · rw [hb] at HBG HRR
    have hrr : r = none := by rw [HRR.out, if_neg (by simp)]
    subst hrr
    clear HRR hb
    go_enter Try.func31, Try.ntmps31
    go_wp2_with (first | ((with_reducible apply sBox HS); rfl; (conv => (lhs; whnf)); (first | exact cells_agg _ | exact cells_one rfl); intro B1 w' H1; clear HS; have HS := H1; clear H1) | ((with_reducible apply sLoadB HS); infer_instance; rfl; rfl; (repeat (first | exact List.Mem.head _ | apply List.Mem.tail)); with_reducible exact hz.out) | (go_at_call 48; refine (HBG.out _).mono ?_; rintro e w' ⟨rfl, H1⟩; replace HS := HS.fresh H1; clear H1) | (go_at_call 49; (with_reducible refine (A12.out _).mono ?_); rintro e w' ⟨rfl, H1⟩; replace HS := HS.fresh H1; clear H1) | (go_at_call 49; (with_reducible refine (A8.out _).mono ?_); rintro e w' ⟨rfl, H1⟩; replace HS := HS.fresh H1; clear H1) | (go_at_call 50; (with_reducible refine (HZ.out _ _ ?_).mono ?_); exact (HS.blk (by (repeat (first | exact List.Mem.head _ | apply List.Mem.tail)))); rintro e w' ⟨rfl, rfl⟩) | (go_at_call 50; (with_reducible refine (HZ0.out _ _ ?_).mono ?_); exact (HS.blk (by (repeat (first | exact List.Mem.head _ | apply List.Mem.tail)))); rintro e w' ⟨rfl, rfl⟩))
    refine bodyPost_ret (res3 rfl (resTmp _ _ _) (resTmp _ _ _) (resTmp _ _ _)) rfl ⟨_, rfl, (by first | exact HS.tail.ownNil _ _ | exact HS.tail.tail.ownNil _ _ | exact HS.tail.tail.tail.ownNil _ _)⟩
  rw [hb] at HBG HRR
  by_cases h1 : 1 ≤ n
  rotate_left
  · have hrr : r = none := by rw [HRR.out, if_neg (fun h => by have := h.2.1; omega)]
    subst hrr
    have hcd : decide ((n : Int) < (1 : Int)) = true := decide_eq_true (by omega)
    clear HRR hb
    go_enter Try.func31, Try.ntmps31
    go_wp2_with (first | ((with_reducible apply sBox HS); rfl; (conv => (lhs; whnf)); (first | exact cells_agg _ | exact cells_one rfl); intro B1 w' H1; clear HS; have HS := H1; clear H1) | ((with_reducible apply sLoadB HS); infer_instance; rfl; rfl; (repeat (first | exact List.Mem.head _ | apply List.Mem.tail)); with_reducible exact hz.out) | (go_at_call 48; refine (HBG.out _).mono ?_; rintro e w' ⟨rfl, H1⟩; replace HS := HS.fresh H1; clear H1) | (go_at_call 49; (with_reducible refine (A12.out _).mono ?_); rintro e w' ⟨rfl, H1⟩; replace HS := HS.fresh H1; clear H1) | (go_at_call 49; (with_reducible refine (A8.out _).mono ?_); rintro e w' ⟨rfl, H1⟩; replace HS := HS.fresh H1; clear H1) | (go_at_call 50; (with_reducible refine (HZ.out _ _ ?_).mono ?_); exact (HS.blk (by (repeat (first | exact List.Mem.head _ | apply List.Mem.tail)))); rintro e w' ⟨rfl, rfl⟩) | (go_at_call 50; (with_reducible refine (HZ0.out _ _ ?_).mono ?_); exact (HS.blk (by (repeat (first | exact List.Mem.head _ | apply List.Mem.tail)))); rintro e w' ⟨rfl, rfl⟩))
    refine bodyPost_ret (res3 rfl (resTmp _ _ _) (resTmp _ _ _) (resTmp _ _ _)) rfl ⟨_, rfl, (by first | exact HS.tail.ownNil _ _ | exact HS.tail.tail.ownNil _ _ | exact HS.tail.tail.tail.ownNil _ _)⟩
  have hcd1 : decide ((n : Int) < (1 : Int)) = false := decide_eq_false (by omega)
  by_cases h60 : n ≤ 30
  rotate_left
  · have hrr : r = none := by rw [HRR.out, if_neg (fun h => by have := h.2.2.1; omega)]
    subst hrr
    have hcd : decide ((30 : Int) < (n : Int)) = true := decide_eq_true (by omega)
    clear HRR hb
    go_enter Try.func31, Try.ntmps31
    go_wp2_with (first | ((with_reducible apply sBox HS); rfl; (conv => (lhs; whnf)); (first | exact cells_agg _ | exact cells_one rfl); intro B1 w' H1; clear HS; have HS := H1; clear H1) | ((with_reducible apply sLoadB HS); infer_instance; rfl; rfl; (repeat (first | exact List.Mem.head _ | apply List.Mem.tail)); with_reducible exact hz.out) | (go_at_call 48; refine (HBG.out _).mono ?_; rintro e w' ⟨rfl, H1⟩; replace HS := HS.fresh H1; clear H1) | (go_at_call 49; (with_reducible refine (A12.out _).mono ?_); rintro e w' ⟨rfl, H1⟩; replace HS := HS.fresh H1; clear H1) | (go_at_call 49; (with_reducible refine (A8.out _).mono ?_); rintro e w' ⟨rfl, H1⟩; replace HS := HS.fresh H1; clear H1) | (go_at_call 50; (with_reducible refine (HZ.out _ _ ?_).mono ?_); exact (HS.blk (by (repeat (first | exact List.Mem.head _ | apply List.Mem.tail)))); rintro e w' ⟨rfl, rfl⟩) | (go_at_call 50; (with_reducible refine (HZ0.out _ _ ?_).mono ?_); exact (HS.blk (by (repeat (first | exact List.Mem.head _ | apply List.Mem.tail)))); rintro e w' ⟨rfl, rfl⟩))
    refine bodyPost_ret (res3 rfl (resTmp _ _ _) (resTmp _ _ _) (resTmp _ _ _)) rfl ⟨_, rfl, (by first | exact HS.tail.ownNil _ _ | exact HS.tail.tail.ownNil _ _ | exact HS.tail.tail.tail.ownNil _ _)⟩
  have hcd2 : decide ((30 : Int) < (n : Int)) = false := decide_eq_false (by omega)
  have hw1 : IntKind.u32.wrap (8 * (n : Int)) = ((8 * n : Nat) : Int) := by rw [IntWalk.u32_in _ (by omega)]; push_cast; rfl
  have hsl : (16 : Int) + 8 * (n : Int) ≤ 256 := by omega
  have hsl0 : (0 : Int) ≤ (16 : Int) + 8 * (n : Int) := by omega
  have HZ := Lib.hid (fun B W (h : W.heap[B]? = some (.cells (encB bs) 28 (0, 0))) => rzero B (16 + 8 * n) (256 - (16 + 8 * n)) (256 - (16 + 8 * n)) bs _ W h (by rw [HL.out]; omega) (by omega))
  have HZ0 := Lib.hid (fun B W (h : W.heap[B]? = some (.cells (encB bs) 28 (0, 0))) => rzero B 0 0 0 bs _ W h (by omega) (by omega))
  rw [show allZ bs 0 0 = true from rfl] at HZ0
  rcases Nat.lt_or_ge n 30 with h60l | h60g
  · have hne : ¬ 256 = 16 + 8 * n := by omega
    cases hzz : allZ bs (16 + 8 * n) (256 - (16 + 8 * n))
    · rw [hzz] at HZ HRR
      have hrr : r = none := by rw [HRR.out, if_neg (by simp)]
      subst hrr
      clear HRR hb hzz
      go_enter Try.func31, Try.ntmps31
      go_wp2_with (first | ((with_reducible apply sBox HS); rfl; (conv => (lhs; whnf)); (first | exact cells_agg _ | exact cells_one rfl); intro B1 w' H1; clear HS; have HS := H1; clear H1) | ((with_reducible apply sLoadB HS); infer_instance; rfl; rfl; (repeat (first | exact List.Mem.head _ | apply List.Mem.tail)); with_reducible exact hz.out) | (go_at_call 48; refine (HBG.out _).mono ?_; rintro e w' ⟨rfl, H1⟩; replace HS := HS.fresh H1; clear H1) | (go_at_call 49; (with_reducible refine (A12.out _).mono ?_); rintro e w' ⟨rfl, H1⟩; replace HS := HS.fresh H1; clear H1) | (go_at_call 49; (with_reducible refine (A8.out _).mono ?_); rintro e w' ⟨rfl, H1⟩; replace HS := HS.fresh H1; clear H1) | (go_at_call 50; (with_reducible refine (HZ.out _ _ ?_).mono ?_); exact (HS.blk (by (repeat (first | exact List.Mem.head _ | apply List.Mem.tail)))); rintro e w' ⟨rfl, rfl⟩) | (go_at_call 50; (with_reducible refine (HZ0.out _ _ ?_).mono ?_); exact (HS.blk (by (repeat (first | exact List.Mem.head _ | apply List.Mem.tail)))); rintro e w' ⟨rfl, rfl⟩))
      refine bodyPost_ret (res3 rfl (resTmp _ _ _) (resTmp _ _ _) (resTmp _ _ _)) rfl ⟨_, rfl, (by first | exact HS.tail.ownNil _ _ | exact HS.tail.tail.ownNil _ _ | exact HS.tail.tail.tail.ownNil _ _)⟩
    · rw [hzz] at HZ HRR
      have HR2 : Hid (r = if (∀ i, i < n → get32 bs (20 + 8 * i) ≤ 1) ∧ risesT (tagsOf bs n) = true then some (v8, tagsOf bs n) else none) := by
        show _ = _
        rw [HRR.out]
        by_cases hx : (∀ i, i < n → get32 bs (20 + 8 * i) ≤ 1) ∧ risesT (tagsOf bs n) = true
        · rw [if_pos ⟨rfl, by omega, by omega, rfl, hx⟩, if_pos hx]
        · rw [if_neg (fun h => hx h.2.2.2.2), if_neg hx]
      clear HRR hb hzz
      go_enter Try.func31, Try.ntmps31
      go_wp2_with (first | ((with_reducible apply sBox HS); rfl; (conv => (lhs; whnf)); (first | exact cells_agg _ | exact cells_one rfl); intro B1 w' H1; clear HS; have HS := H1; clear H1) | ((with_reducible apply sLoadB HS); infer_instance; rfl; rfl; (repeat (first | exact List.Mem.head _ | apply List.Mem.tail)); with_reducible exact hz.out) | (go_at_call 48; refine (HBG.out _).mono ?_; rintro e w' ⟨rfl, H1⟩; replace HS := HS.fresh H1; clear H1) | (go_at_call 49; (with_reducible refine (A12.out _).mono ?_); rintro e w' ⟨rfl, H1⟩; replace HS := HS.fresh H1; clear H1) | (go_at_call 49; (with_reducible refine (A8.out _).mono ?_); rintro e w' ⟨rfl, H1⟩; replace HS := HS.fresh H1; clear H1) | (go_at_call 50; (with_reducible refine (HZ.out _ _ ?_).mono ?_); exact (HS.blk (by (repeat (first | exact List.Mem.head _ | apply List.Mem.tail)))); rintro e w' ⟨rfl, rfl⟩) | (go_at_call 50; (with_reducible refine (HZ0.out _ _ ?_).mono ?_); exact (HS.blk (by (repeat (first | exact List.Mem.head _ | apply List.Mem.tail)))); rintro e w' ⟨rfl, rfl⟩))
      replace HS := HS.ownNil 55 2
      go_loopw [6, 7] (fun ov iv wr => ∃ k : Nat, k ≤ n ∧ iv = .int .i64 (k : Int) ∧ Hid (riseTt (tagsOf bs n) k) ∧ Hid (∀ i, i < k → get32 bs (20 + 8 * i) ≤ 1) ∧ St S w0 wr (.own ov 55 2 k (encTl (tagsOf bs k)) :: .blk true B1 (encB bs) 28 :: L)) (fun _ iv _ => n - (intOf iv).toNat)
      case atStart => exact ⟨0, Nat.zero_le _, rfl, (fun i hi => by omega), (fun i hi => by omega), HS⟩
      case round =>
        obtain ⟨k, hk, rfl, HRI, HFL, HS⟩ := hrel
        obtain ⟨oa, oc, rfl⟩ := own_slice (HS.own (.head _))
        by_cases hlt : k < n
        · have hltI : decide ((k : Int) < (n : Int)) = true := decide_eq_true (by omega)
          have HNS : Hid (encTl (tagsOf bs k) ++ (#[Value.int .u32 (get32 bs (16 + 8 * k)), .bool (get32 bs (20 + 8 * k) == 1)] : Array Value).toList = encTl (tagsOf bs (k + 1))) := by show _ = _; rw [encTl_snoc, tagsOf_succ, tagAt_eq]
          have HGK : Hid (((tagsOf bs n).getD k (0, false)).1 = get32 bs (16 + 8 * k)) := by show _ = _; rw [tagsOf_get bs n k hlt]; rfl
          have HFK := Lib.hid (fun (h : ¬ get32 bs (20 + 8 * k) ≤ 1) (g : ∀ i, i < n → get32 bs (20 + 8 * i) ≤ 1) => h (g k hlt))
          have HFS := Lib.hid (fun (h : get32 bs (20 + 8 * k) ≤ 1) (i : Nat) (hi : i < k + 1) => (if e : i = k then (by rw [e]; exact h) else HFL.out i (by omega) : get32 bs (20 + 8 * i) ≤ 1))
          obtain ⟨x, hx⟩ : ∃ x, get32 bs (16 + 8 * k) = x := ⟨_, rfl⟩
          obtain ⟨f, hf⟩ : ∃ x, get32 bs (20 + 8 * k) = x := ⟨_, rfl⟩
          rw [hx] at HNS HGK
          rw [hf] at HNS HFK HFS
          have hfb := (get32_bd bs (20 + 8 * k)).1
          rw [hf] at hfb
          have HX := Lib.hid hx
          have HF := Lib.hid hf
          clear hx hf
          rcases k with _ | k
          · have HAX := Lib.hid (fun W => HAT.out W 16 16 rfl (by decide))
            have HAF := Lib.hid (fun W => HAT.out W 20 20 rfl (by decide))
            rw [show get32 bs 16 = x from HX.out] at HAX
            rw [show get32 bs 20 = f from HF.out] at HAF
            by_cases hf1 : f ≤ 1
            · have hfd : decide ((1 : Int) < f) = false := decide_eq_false (by omega)
              have hfI : ¬ (1 : Int) < f := by omega
              go_wp2
              (try simp only [Act.put])
              refine wp_region_sch (.q 0 (.q 1 (.q 2 (.q 3 (.q 5 (.q 6 (.q 7 (.q 8 (.two 4 (.two 9 (.q 10 (.q 11 (.e 12 (.e 13 (.nil))))) 12 (.e 9 (.q 10 (.q 11 (.e 13 (.nil)))))) 12 (.e 4 (.e 9 (.q 10 (.q 11 (.e 13 (.nil))))))))))))))) (Hd [.blk true B1 (encB bs) 28]) (by kernel_rfl) (by kernel_rfl) (fun _ _ d _ _ h => by cases d <;> exact h) ?_
              intro w1 hm1
              replace HS := HS.fresh hm1
              clear hm1
              refine ⟨HS.hd (by (repeat (first | exact subNil | (refine subCons ?_ ?_; (repeat (first | exact List.Mem.head _ | apply List.Mem.tail)))))), ?_⟩
              repeat (first | ((with_reducible apply cLoadB); (simp only [List.getElem?_toArray, List.getElem?_cons_zero, List.getElem?_cons_succ]; rfl); infer_instance; rfl; rfl; (repeat (first | exact List.Mem.head _ | apply List.Mem.tail)); with_reducible exact hz.out; (try simp only [Act.put, List.setIfInBounds_toArray, List.set_cons_zero, List.set_cons_succ])) | ((with_reducible apply wpSch_nilCheck); (simp only [List.getElem?_toArray, List.getElem?_cons_zero, List.getElem?_cons_succ]; rfl); rfl; rfl; (try simp only [Act.put, List.setIfInBounds_toArray, List.set_cons_zero, List.set_cons_succ])) | ((with_reducible apply wpSch_plain); (simp only [List.getElem?_toArray, List.getElem?_cons_zero, List.getElem?_cons_succ]; rfl); rfl; rfl; (intro K hK; go_big_quiet_op; go_big_quiet_on)) | ((with_reducible apply wpSch_skip); (simp only [List.getElem?_toArray, List.getElem?_cons_zero, List.getElem?_cons_succ]; rfl); rfl; (try simp only [Act.put, List.setIfInBounds_toArray, List.set_cons_zero, List.set_cons_succ])))
              with_reducible apply wpSch_two_k
              (simp only [List.getElem?_toArray, List.getElem?_cons_zero, List.getElem?_cons_succ]; rfl)
              (simp only [List.getElem?_toArray, List.getElem?_cons_zero, List.getElem?_cons_succ]; rfl)
              · intro K HK
                go_wp2_with (go_at_call 49; (with_reducible refine (HAX.out _).mono ?_); rintro e w' ⟨rfl, H1⟩; replace HS := HS.fresh H1; clear H1)
                refine HK.out _ _ ⟨.inr (HS.hd (by (repeat (first | exact subNil | (refine subCons ?_ ?_; (repeat (first | exact List.Mem.head _ | apply List.Mem.tail))))))), ?_⟩
                clear HK K
                with_reducible apply wpSch_two_k
                (simp only [List.getElem?_toArray, List.getElem?_cons_zero, List.getElem?_cons_succ]; rfl)
                (simp only [List.getElem?_toArray, List.getElem?_cons_zero, List.getElem?_cons_succ]; rfl)
                · intro K HK
                  go_wp2_with (go_at_call 49; (with_reducible refine (HAF.out _).mono ?_); rintro e w' ⟨rfl, H1⟩; replace HS := HS.fresh H1; clear H1)
                  refine HK.out _ _ ⟨.inr (HS.hd (by (repeat (first | exact subNil | (refine subCons ?_ ?_; (repeat (first | exact List.Mem.head _ | apply List.Mem.tail))))))), ?_⟩
                  clear HK K
                  repeat (first | ((with_reducible apply cLoadB); (simp only [List.getElem?_toArray, List.getElem?_cons_zero, List.getElem?_cons_succ]; rfl); infer_instance; rfl; rfl; (repeat (first | exact List.Mem.head _ | apply List.Mem.tail)); with_reducible exact hz.out; (try simp only [Act.put, List.setIfInBounds_toArray, List.set_cons_zero, List.set_cons_succ])) | ((with_reducible apply wpSch_nilCheck); (simp only [List.getElem?_toArray, List.getElem?_cons_zero, List.getElem?_cons_succ]; rfl); rfl; rfl; (try simp only [Act.put, List.setIfInBounds_toArray, List.set_cons_zero, List.set_cons_succ])) | ((with_reducible apply wpSch_plain); (simp only [List.getElem?_toArray, List.getElem?_cons_zero, List.getElem?_cons_succ]; rfl); rfl; rfl; (intro K hK; go_big_quiet_op; go_big_quiet_on)) | ((with_reducible apply wpSch_skip); (simp only [List.getElem?_toArray, List.getElem?_cons_zero, List.getElem?_cons_succ]; rfl); rfl; (try simp only [Act.put, List.setIfInBounds_toArray, List.set_cons_zero, List.set_cons_succ])))
                  with_reducible apply wpSch_e_k
                  (simp only [List.getElem?_toArray, List.getElem?_cons_zero, List.getElem?_cons_succ]; rfl)
                  intro K HK
                  ((with_reducible apply sAlloc HS); infer_instance; (first | exact cells_agg _ | exact cells_one rfl); rfl; intro Bx w' H1; clear HS; have HS := H1; clear H1)
                  (try simp only [Act.put, List.setIfInBounds_toArray, List.set_cons_zero, List.set_cons_succ])
                  refine wpList_nil (then_normal (HK.out _ _ ⟨.inr (HS.hd (by (repeat (first | exact subNil | (refine subCons ?_ ?_; (repeat (first | exact List.Mem.head _ | apply List.Mem.tail))))))), ?_⟩))
                  clear HK K
                  with_reducible apply wpSch_e_k
                  (simp only [List.getElem?_toArray, List.getElem?_cons_zero, List.getElem?_cons_succ]; rfl)
                  intro K HK
                  ((with_reducible apply sStoreB HS); infer_instance; rfl; rfl; (conv => (lhs; whnf)); (repeat (first | exact Rep.here | apply Rep.there)); rfl; rfl; (intro u hu; simp at hu; rcases hu with rfl | rfl <;> rfl); intro w' H1; clear HS; have HS := H1; clear H1)
                  (try simp only [Act.put])
                  refine wpList_nil (then_normal (HK.out _ _ ⟨.inl rfl, ?_⟩))
                  clear HK K
                  refine wpSch_nil ?_
                  go_wp2
                  (try simp only [Act.put])
                  refine wp_region_quietF (by kernel_rfl) (by kernel_rfl) ?_
                  repeat (first | go_big_quiet_skip | (((with_reducible apply qLoadB HS); infer_instance; rfl; rfl; (repeat (first | exact List.Mem.head _ | apply List.Mem.tail)); with_reducible exact hz.out); (try simp only [Act.put, List.setIfInBounds_toArray, List.set_cons_zero, List.set_cons_succ])) | (((with_reducible apply qLoad1 HS); infer_instance; rfl; rfl; (repeat (first | exact List.Mem.head _ | apply List.Mem.tail)); rfl); (try simp only [Act.put, List.setIfInBounds_toArray, List.set_cons_zero, List.set_cons_succ])) | (go_big_quiet_want; go_big_quiet_op; first | go_big_quiet_on | (refine ⟨_, fun _ _ => rfl, ?_⟩; go_big_quiet_on) | (apply Exists.intro; refine ⟨fun wc hfr => ?_, ?_⟩; (· (go_at_call 49; exact fr_call hfr (HAF.out _))); go_big_quiet_on)))
                  refine wpQuiet_nil ?_
                  intro w1 hm1
                  replace HS := HS.fresh hm1
                  clear hm1
                  go_wp2_with (first | ((with_reducible apply sLoadB HS); infer_instance; rfl; rfl; (repeat (first | exact List.Mem.head _ | apply List.Mem.tail)); rfl) | (at_builtin; (have H2 := HS.alloc #[.int .u32 x, .bool (f == 1)] 55); (with_reducible apply sAppend H2 Try.underlying25 infoTag rfl (by decide)); (conv => (lhs; whnf)); (intro v'; (repeat (first | exact Rep.here | apply Rep.there))); rfl; rotate_left; exact H2.newsAll (.head _); rotate_right; rfl; (intro u hu; simp at hu; rcases hu with rfl | rfl <;> rfl); decide; omega; intro v1 w9 H1 hnil; clear HS H2; have HS := H1.tail; clear H1 hnil; rw [HNS.out] at HS))
                  go_roundw
                  case rel => exact ⟨1, by omega, by go_num, (fun i hi => by omega), HFS.out hf1, HS.tail⟩
                  case measure => simp [intOf]; omega
                · intro K HK
                  ((with_reducible apply sAlloc HS); infer_instance; (first | exact cells_agg _ | exact cells_one rfl); rfl; intro Bx w' H1; clear HS; have HS := H1; clear H1)
                  (try simp only [Act.put, List.setIfInBounds_toArray, List.set_cons_zero, List.set_cons_succ])
                  refine wpList_nil (then_normal (HK.out _ _ ⟨.inr (HS.hd (by (repeat (first | exact subNil | (refine subCons ?_ ?_; (repeat (first | exact List.Mem.head _ | apply List.Mem.tail))))))), ?_⟩))
                  clear HK K
                  with_reducible apply wpSch_e_k
                  (simp only [List.getElem?_toArray, List.getElem?_cons_zero, List.getElem?_cons_succ]; rfl)
                  intro K HK
                  go_wp2_with (go_at_call 49; (with_reducible refine (HAF.out _).mono ?_); rintro e w' ⟨rfl, H1⟩; replace HS := HS.fresh H1; clear H1)
                  refine HK.out _ _ ⟨.inr (HS.hd (by (repeat (first | exact subNil | (refine subCons ?_ ?_; (repeat (first | exact List.Mem.head _ | apply List.Mem.tail))))))), ?_⟩
                  clear HK K
                  repeat (first | ((with_reducible apply cLoadB); (simp only [List.getElem?_toArray, List.getElem?_cons_zero, List.getElem?_cons_succ]; rfl); infer_instance; rfl; rfl; (repeat (first | exact List.Mem.head _ | apply List.Mem.tail)); with_reducible exact hz.out; (try simp only [Act.put, List.setIfInBounds_toArray, List.set_cons_zero, List.set_cons_succ])) | ((with_reducible apply wpSch_nilCheck); (simp only [List.getElem?_toArray, List.getElem?_cons_zero, List.getElem?_cons_succ]; rfl); rfl; rfl; (try simp only [Act.put, List.setIfInBounds_toArray, List.set_cons_zero, List.set_cons_succ])) | ((with_reducible apply wpSch_plain); (simp only [List.getElem?_toArray, List.getElem?_cons_zero, List.getElem?_cons_succ]; rfl); rfl; rfl; (intro K hK; go_big_quiet_op; go_big_quiet_on)) | ((with_reducible apply wpSch_skip); (simp only [List.getElem?_toArray, List.getElem?_cons_zero, List.getElem?_cons_succ]; rfl); rfl; (try simp only [Act.put, List.setIfInBounds_toArray, List.set_cons_zero, List.set_cons_succ])))
                  with_reducible apply wpSch_e_k
                  (simp only [List.getElem?_toArray, List.getElem?_cons_zero, List.getElem?_cons_succ]; rfl)
                  intro K HK
                  ((with_reducible apply sStoreB HS); infer_instance; rfl; rfl; (conv => (lhs; whnf)); (repeat (first | exact Rep.here | apply Rep.there)); rfl; rfl; (intro u hu; simp at hu; rcases hu with rfl | rfl <;> rfl); intro w' H1; clear HS; have HS := H1; clear H1)
                  (try simp only [Act.put])
                  refine wpList_nil (then_normal (HK.out _ _ ⟨.inl rfl, ?_⟩))
                  clear HK K
                  refine wpSch_nil ?_
                  go_wp2
                  (try simp only [Act.put])
                  refine wp_region_quietF (by kernel_rfl) (by kernel_rfl) ?_
                  repeat (first | go_big_quiet_skip | (((with_reducible apply qLoadB HS); infer_instance; rfl; rfl; (repeat (first | exact List.Mem.head _ | apply List.Mem.tail)); with_reducible exact hz.out); (try simp only [Act.put, List.setIfInBounds_toArray, List.set_cons_zero, List.set_cons_succ])) | (((with_reducible apply qLoad1 HS); infer_instance; rfl; rfl; (repeat (first | exact List.Mem.head _ | apply List.Mem.tail)); rfl); (try simp only [Act.put, List.setIfInBounds_toArray, List.set_cons_zero, List.set_cons_succ])) | (go_big_quiet_want; go_big_quiet_op; first | go_big_quiet_on | (refine ⟨_, fun _ _ => rfl, ?_⟩; go_big_quiet_on) | (apply Exists.intro; refine ⟨fun wc hfr => ?_, ?_⟩; (· (go_at_call 49; exact fr_call hfr (HAF.out _))); go_big_quiet_on)))
                  refine wpQuiet_nil ?_
                  intro w1 hm1
                  replace HS := HS.fresh hm1
                  clear hm1
                  go_wp2_with (first | ((with_reducible apply sLoadB HS); infer_instance; rfl; rfl; (repeat (first | exact List.Mem.head _ | apply List.Mem.tail)); rfl) | (at_builtin; (have H2 := HS.alloc #[.int .u32 x, .bool (f == 1)] 55); (with_reducible apply sAppend H2 Try.underlying25 infoTag rfl (by decide)); (conv => (lhs; whnf)); (intro v'; (repeat (first | exact Rep.here | apply Rep.there))); rfl; rotate_left; exact H2.newsAll (.head _); rotate_right; rfl; (intro u hu; simp at hu; rcases hu with rfl | rfl <;> rfl); decide; omega; intro v1 w9 H1 hnil; clear HS H2; have HS := H1.tail; clear H1 hnil; rw [HNS.out] at HS))
                  go_roundw
                  case rel => exact ⟨1, by omega, by go_num, (fun i hi => by omega), HFS.out hf1, HS.tail⟩
                  case measure => simp [intOf]; omega
              · intro K HK
                ((with_reducible apply sAlloc HS); infer_instance; (first | exact cells_agg _ | exact cells_one rfl); rfl; intro Bx w' H1; clear HS; have HS := H1; clear H1)
                (try simp only [Act.put, List.setIfInBounds_toArray, List.set_cons_zero, List.set_cons_succ])
                refine wpList_nil (then_normal (HK.out _ _ ⟨.inr (HS.hd (by (repeat (first | exact subNil | (refine subCons ?_ ?_; (repeat (first | exact List.Mem.head _ | apply List.Mem.tail))))))), ?_⟩))
                clear HK K
                with_reducible apply wpSch_e_k
                (simp only [List.getElem?_toArray, List.getElem?_cons_zero, List.getElem?_cons_succ]; rfl)
                intro K HK
                go_wp2_with (go_at_call 49; (with_reducible refine (HAX.out _).mono ?_); rintro e w' ⟨rfl, H1⟩; replace HS := HS.fresh H1; clear H1)
                refine HK.out _ _ ⟨.inr (HS.hd (by (repeat (first | exact subNil | (refine subCons ?_ ?_; (repeat (first | exact List.Mem.head _ | apply List.Mem.tail))))))), ?_⟩
                clear HK K
                with_reducible apply wpSch_e_k
                (simp only [List.getElem?_toArray, List.getElem?_cons_zero, List.getElem?_cons_succ]; rfl)
                intro K HK
                go_wp2_with (go_at_call 49; (with_reducible refine (HAF.out _).mono ?_); rintro e w' ⟨rfl, H1⟩; replace HS := HS.fresh H1; clear H1)
                refine HK.out _ _ ⟨.inr (HS.hd (by (repeat (first | exact subNil | (refine subCons ?_ ?_; (repeat (first | exact List.Mem.head _ | apply List.Mem.tail))))))), ?_⟩
                clear HK K
                repeat (first | ((with_reducible apply cLoadB); (simp only [List.getElem?_toArray, List.getElem?_cons_zero, List.getElem?_cons_succ]; rfl); infer_instance; rfl; rfl; (repeat (first | exact List.Mem.head _ | apply List.Mem.tail)); with_reducible exact hz.out; (try simp only [Act.put, List.setIfInBounds_toArray, List.set_cons_zero, List.set_cons_succ])) | ((with_reducible apply wpSch_nilCheck); (simp only [List.getElem?_toArray, List.getElem?_cons_zero, List.getElem?_cons_succ]; rfl); rfl; rfl; (try simp only [Act.put, List.setIfInBounds_toArray, List.set_cons_zero, List.set_cons_succ])) | ((with_reducible apply wpSch_plain); (simp only [List.getElem?_toArray, List.getElem?_cons_zero, List.getElem?_cons_succ]; rfl); rfl; rfl; (intro K hK; go_big_quiet_op; go_big_quiet_on)) | ((with_reducible apply wpSch_skip); (simp only [List.getElem?_toArray, List.getElem?_cons_zero, List.getElem?_cons_succ]; rfl); rfl; (try simp only [Act.put, List.setIfInBounds_toArray, List.set_cons_zero, List.set_cons_succ])))
                with_reducible apply wpSch_e_k
                (simp only [List.getElem?_toArray, List.getElem?_cons_zero, List.getElem?_cons_succ]; rfl)
                intro K HK
                ((with_reducible apply sStoreB HS); infer_instance; rfl; rfl; (conv => (lhs; whnf)); (repeat (first | exact Rep.here | apply Rep.there)); rfl; rfl; (intro u hu; simp at hu; rcases hu with rfl | rfl <;> rfl); intro w' H1; clear HS; have HS := H1; clear H1)
                (try simp only [Act.put])
                refine wpList_nil (then_normal (HK.out _ _ ⟨.inl rfl, ?_⟩))
                clear HK K
                refine wpSch_nil ?_
                go_wp2
                (try simp only [Act.put])
                refine wp_region_quietF (by kernel_rfl) (by kernel_rfl) ?_
                repeat (first | go_big_quiet_skip | (((with_reducible apply qLoadB HS); infer_instance; rfl; rfl; (repeat (first | exact List.Mem.head _ | apply List.Mem.tail)); with_reducible exact hz.out); (try simp only [Act.put, List.setIfInBounds_toArray, List.set_cons_zero, List.set_cons_succ])) | (((with_reducible apply qLoad1 HS); infer_instance; rfl; rfl; (repeat (first | exact List.Mem.head _ | apply List.Mem.tail)); rfl); (try simp only [Act.put, List.setIfInBounds_toArray, List.set_cons_zero, List.set_cons_succ])) | (go_big_quiet_want; go_big_quiet_op; first | go_big_quiet_on | (refine ⟨_, fun _ _ => rfl, ?_⟩; go_big_quiet_on) | (apply Exists.intro; refine ⟨fun wc hfr => ?_, ?_⟩; (· (go_at_call 49; exact fr_call hfr (HAF.out _))); go_big_quiet_on)))
                refine wpQuiet_nil ?_
                intro w1 hm1
                replace HS := HS.fresh hm1
                clear hm1
                go_wp2_with (first | ((with_reducible apply sLoadB HS); infer_instance; rfl; rfl; (repeat (first | exact List.Mem.head _ | apply List.Mem.tail)); rfl) | (at_builtin; (have H2 := HS.alloc #[.int .u32 x, .bool (f == 1)] 55); (with_reducible apply sAppend H2 Try.underlying25 infoTag rfl (by decide)); (conv => (lhs; whnf)); (intro v'; (repeat (first | exact Rep.here | apply Rep.there))); rfl; rotate_left; exact H2.newsAll (.head _); rotate_right; rfl; (intro u hu; simp at hu; rcases hu with rfl | rfl <;> rfl); decide; omega; intro v1 w9 H1 hnil; clear HS H2; have HS := H1.tail; clear H1 hnil; rw [HNS.out] at HS))
                go_roundw
                case rel => exact ⟨1, by omega, by go_num, (fun i hi => by omega), HFS.out hf1, HS.tail⟩
                case measure => simp [intOf]; omega
            · have hfd : decide ((1 : Int) < f) = true := decide_eq_true (by omega)
              have hfI : (1 : Int) < f := by omega
              have hrn : r = none := by rw [HR2.out, if_neg (fun h => HFK.out hf1 h.1)]
              subst hrn
              go_wp2
              (try simp only [Act.put])
              refine wp_region_sch (.q 0 (.q 1 (.q 2 (.q 3 (.q 5 (.q 6 (.q 7 (.q 8 (.two 4 (.two 9 (.q 10 (.q 11 (.e 12 (.e 13 (.nil))))) 12 (.e 9 (.q 10 (.q 11 (.e 13 (.nil)))))) 12 (.e 4 (.e 9 (.q 10 (.q 11 (.e 13 (.nil))))))))))))))) (Hd [.blk true B1 (encB bs) 28]) (by kernel_rfl) (by kernel_rfl) (fun _ _ d _ _ h => by cases d <;> exact h) ?_
              intro w1 hm1
              replace HS := HS.fresh hm1
              clear hm1
              refine ⟨HS.hd (by (repeat (first | exact subNil | (refine subCons ?_ ?_; (repeat (first | exact List.Mem.head _ | apply List.Mem.tail)))))), ?_⟩
              repeat (first | ((with_reducible apply cLoadB); (simp only [List.getElem?_toArray, List.getElem?_cons_zero, List.getElem?_cons_succ]; rfl); infer_instance; rfl; rfl; (repeat (first | exact List.Mem.head _ | apply List.Mem.tail)); with_reducible exact hz.out; (try simp only [Act.put, List.setIfInBounds_toArray, List.set_cons_zero, List.set_cons_succ])) | ((with_reducible apply wpSch_nilCheck); (simp only [List.getElem?_toArray, List.getElem?_cons_zero, List.getElem?_cons_succ]; rfl); rfl; rfl; (try simp only [Act.put, List.setIfInBounds_toArray, List.set_cons_zero, List.set_cons_succ])) | ((with_reducible apply wpSch_plain); (simp only [List.getElem?_toArray, List.getElem?_cons_zero, List.getElem?_cons_succ]; rfl); rfl; rfl; (intro K hK; go_big_quiet_op; go_big_quiet_on)) | ((with_reducible apply wpSch_skip); (simp only [List.getElem?_toArray, List.getElem?_cons_zero, List.getElem?_cons_succ]; rfl); rfl; (try simp only [Act.put, List.setIfInBounds_toArray, List.set_cons_zero, List.set_cons_succ])))
              with_reducible apply wpSch_two_k
              (simp only [List.getElem?_toArray, List.getElem?_cons_zero, List.getElem?_cons_succ]; rfl)
              (simp only [List.getElem?_toArray, List.getElem?_cons_zero, List.getElem?_cons_succ]; rfl)
              · intro K HK
                go_wp2_with (go_at_call 49; (with_reducible refine (HAX.out _).mono ?_); rintro e w' ⟨rfl, H1⟩; replace HS := HS.fresh H1; clear H1)
                refine HK.out _ _ ⟨.inr (HS.hd (by (repeat (first | exact subNil | (refine subCons ?_ ?_; (repeat (first | exact List.Mem.head _ | apply List.Mem.tail))))))), ?_⟩
                clear HK K
                with_reducible apply wpSch_two_k
                (simp only [List.getElem?_toArray, List.getElem?_cons_zero, List.getElem?_cons_succ]; rfl)
                (simp only [List.getElem?_toArray, List.getElem?_cons_zero, List.getElem?_cons_succ]; rfl)
                · intro K HK
                  go_wp2_with (go_at_call 49; (with_reducible refine (HAF.out _).mono ?_); rintro e w' ⟨rfl, H1⟩; replace HS := HS.fresh H1; clear H1)
                  refine HK.out _ _ ⟨.inr (HS.hd (by (repeat (first | exact subNil | (refine subCons ?_ ?_; (repeat (first | exact List.Mem.head _ | apply List.Mem.tail))))))), ?_⟩
                  clear HK K
                  repeat (first | ((with_reducible apply cLoadB); (simp only [List.getElem?_toArray, List.getElem?_cons_zero, List.getElem?_cons_succ]; rfl); infer_instance; rfl; rfl; (repeat (first | exact List.Mem.head _ | apply List.Mem.tail)); with_reducible exact hz.out; (try simp only [Act.put, List.setIfInBounds_toArray, List.set_cons_zero, List.set_cons_succ])) | ((with_reducible apply wpSch_nilCheck); (simp only [List.getElem?_toArray, List.getElem?_cons_zero, List.getElem?_cons_succ]; rfl); rfl; rfl; (try simp only [Act.put, List.setIfInBounds_toArray, List.set_cons_zero, List.set_cons_succ])) | ((with_reducible apply wpSch_plain); (simp only [List.getElem?_toArray, List.getElem?_cons_zero, List.getElem?_cons_succ]; rfl); rfl; rfl; (intro K hK; go_big_quiet_op; go_big_quiet_on)) | ((with_reducible apply wpSch_skip); (simp only [List.getElem?_toArray, List.getElem?_cons_zero, List.getElem?_cons_succ]; rfl); rfl; (try simp only [Act.put, List.setIfInBounds_toArray, List.set_cons_zero, List.set_cons_succ])))
                  with_reducible apply wpSch_e_k
                  (simp only [List.getElem?_toArray, List.getElem?_cons_zero, List.getElem?_cons_succ]; rfl)
                  intro K HK
                  ((with_reducible apply sAlloc HS); infer_instance; (first | exact cells_agg _ | exact cells_one rfl); rfl; intro Bx w' H1; clear HS; have HS := H1; clear H1)
                  (try simp only [Act.put, List.setIfInBounds_toArray, List.set_cons_zero, List.set_cons_succ])
                  refine wpList_nil (then_normal (HK.out _ _ ⟨.inr (HS.hd (by (repeat (first | exact subNil | (refine subCons ?_ ?_; (repeat (first | exact List.Mem.head _ | apply List.Mem.tail))))))), ?_⟩))
                  clear HK K
                  with_reducible apply wpSch_e_k
                  (simp only [List.getElem?_toArray, List.getElem?_cons_zero, List.getElem?_cons_succ]; rfl)
                  intro K HK
                  ((with_reducible apply sStoreB HS); infer_instance; rfl; rfl; (conv => (lhs; whnf)); (repeat (first | exact Rep.here | apply Rep.there)); rfl; rfl; (intro u hu; simp at hu; rcases hu with rfl | rfl <;> rfl); intro w' H1; clear HS; have HS := H1; clear H1)
                  (try simp only [Act.put])
                  refine wpList_nil (then_normal (HK.out _ _ ⟨.inl rfl, ?_⟩))
                  clear HK K
                  refine wpSch_nil ?_
                  go_wp2
                  (try simp only [Act.put])
                  refine wp_region_quietF (by kernel_rfl) (by kernel_rfl) ?_
                  repeat (first | go_big_quiet_skip | (((with_reducible apply qLoadB HS); infer_instance; rfl; rfl; (repeat (first | exact List.Mem.head _ | apply List.Mem.tail)); with_reducible exact hz.out); (try simp only [Act.put, List.setIfInBounds_toArray, List.set_cons_zero, List.set_cons_succ])) | (((with_reducible apply qLoad1 HS); infer_instance; rfl; rfl; (repeat (first | exact List.Mem.head _ | apply List.Mem.tail)); rfl); (try simp only [Act.put, List.setIfInBounds_toArray, List.set_cons_zero, List.set_cons_succ])) | (go_big_quiet_want; go_big_quiet_op; first | go_big_quiet_on | (refine ⟨_, fun _ _ => rfl, ?_⟩; go_big_quiet_on) | (apply Exists.intro; refine ⟨fun wc hfr => ?_, ?_⟩; (· (go_at_call 49; exact fr_call hfr (HAF.out _))); go_big_quiet_on)))
                  refine wpQuiet_nil ?_
                  intro w1 hm1
                  replace HS := HS.fresh hm1
                  clear hm1
                  go_wp2_with (first | ((with_reducible apply sLoadB HS); infer_instance; rfl; rfl; (repeat (first | exact List.Mem.head _ | apply List.Mem.tail)); rfl) | (at_builtin; (have H2 := HS.alloc #[.int .u32 x, .bool (f == 1)] 55); (with_reducible apply sAppend H2 Try.underlying25 infoTag rfl (by decide)); (conv => (lhs; whnf)); (intro v'; (repeat (first | exact Rep.here | apply Rep.there))); rfl; rotate_left; exact H2.newsAll (.head _); rotate_right; rfl; (intro u hu; simp at hu; rcases hu with rfl | rfl <;> rfl); decide; omega; intro v1 w9 H1 hnil; clear HS H2; have HS := H1.tail; clear H1 hnil; rw [HNS.out] at HS))
                  refine bodyPost_ret (res3 rfl (resTmp _ _ _) (resTmp _ _ _) (resTmp _ _ _)) rfl ⟨_, rfl, (by first | exact HS.tail.ownNil _ _ | exact HS.tail.tail.ownNil _ _ | exact HS.tail.tail.tail.ownNil _ _)⟩
                · intro K HK
                  ((with_reducible apply sAlloc HS); infer_instance; (first | exact cells_agg _ | exact cells_one rfl); rfl; intro Bx w' H1; clear HS; have HS := H1; clear H1)
                  (try simp only [Act.put, List.setIfInBounds_toArray, List.set_cons_zero, List.set_cons_succ])
                  refine wpList_nil (then_normal (HK.out _ _ ⟨.inr (HS.hd (by (repeat (first | exact subNil | (refine subCons ?_ ?_; (repeat (first | exact List.Mem.head _ | apply List.Mem.tail))))))), ?_⟩))
                  clear HK K
                  with_reducible apply wpSch_e_k
                  (simp only [List.getElem?_toArray, List.getElem?_cons_zero, List.getElem?_cons_succ]; rfl)
                  intro K HK
                  go_wp2_with (go_at_call 49; (with_reducible refine (HAF.out _).mono ?_); rintro e w' ⟨rfl, H1⟩; replace HS := HS.fresh H1; clear H1)
                  refine HK.out _ _ ⟨.inr (HS.hd (by (repeat (first | exact subNil | (refine subCons ?_ ?_; (repeat (first | exact List.Mem.head _ | apply List.Mem.tail))))))), ?_⟩
                  clear HK K
                  repeat (first | ((with_reducible apply cLoadB); (simp only [List.getElem?_toArray, List.getElem?_cons_zero, List.getElem?_cons_succ]; rfl); infer_instance; rfl; rfl; (repeat (first | exact List.Mem.head _ | apply List.Mem.tail)); with_reducible exact hz.out; (try simp only [Act.put, List.setIfInBounds_toArray, List.set_cons_zero, List.set_cons_succ])) | ((with_reducible apply wpSch_nilCheck); (simp only [List.getElem?_toArray, List.getElem?_cons_zero, List.getElem?_cons_succ]; rfl); rfl; rfl; (try simp only [Act.put, List.setIfInBounds_toArray, List.set_cons_zero, List.set_cons_succ])) | ((with_reducible apply wpSch_plain); (simp only [List.getElem?_toArray, List.getElem?_cons_zero, List.getElem?_cons_succ]; rfl); rfl; rfl; (intro K hK; go_big_quiet_op; go_big_quiet_on)) | ((with_reducible apply wpSch_skip); (simp only [List.getElem?_toArray, List.getElem?_cons_zero, List.getElem?_cons_succ]; rfl); rfl; (try simp only [Act.put, List.setIfInBounds_toArray, List.set_cons_zero, List.set_cons_succ])))
                  with_reducible apply wpSch_e_k
                  (simp only [List.getElem?_toArray, List.getElem?_cons_zero, List.getElem?_cons_succ]; rfl)
                  intro K HK
                  ((with_reducible apply sStoreB HS); infer_instance; rfl; rfl; (conv => (lhs; whnf)); (repeat (first | exact Rep.here | apply Rep.there)); rfl; rfl; (intro u hu; simp at hu; rcases hu with rfl | rfl <;> rfl); intro w' H1; clear HS; have HS := H1; clear H1)
                  (try simp only [Act.put])
                  refine wpList_nil (then_normal (HK.out _ _ ⟨.inl rfl, ?_⟩))
                  clear HK K
                  refine wpSch_nil ?_
                  go_wp2
                  (try simp only [Act.put])
                  refine wp_region_quietF (by kernel_rfl) (by kernel_rfl) ?_
                  repeat (first | go_big_quiet_skip | (((with_reducible apply qLoadB HS); infer_instance; rfl; rfl; (repeat (first | exact List.Mem.head _ | apply List.Mem.tail)); with_reducible exact hz.out); (try simp only [Act.put, List.setIfInBounds_toArray, List.set_cons_zero, List.set_cons_succ])) | (((with_reducible apply qLoad1 HS); infer_instance; rfl; rfl; (repeat (first | exact List.Mem.head _ | apply List.Mem.tail)); rfl); (try simp only [Act.put, List.setIfInBounds_toArray, List.set_cons_zero, List.set_cons_succ])) | (go_big_quiet_want; go_big_quiet_op; first | go_big_quiet_on | (refine ⟨_, fun _ _ => rfl, ?_⟩; go_big_quiet_on) | (apply Exists.intro; refine ⟨fun wc hfr => ?_, ?_⟩; (· (go_at_call 49; exact fr_call hfr (HAF.out _))); go_big_quiet_on)))
                  refine wpQuiet_nil ?_
                  intro w1 hm1
                  replace HS := HS.fresh hm1
                  clear hm1
                  go_wp2_with (first | ((with_reducible apply sLoadB HS); infer_instance; rfl; rfl; (repeat (first | exact List.Mem.head _ | apply List.Mem.tail)); rfl) | (at_builtin; (have H2 := HS.alloc #[.int .u32 x, .bool (f == 1)] 55); (with_reducible apply sAppend H2 Try.underlying25 infoTag rfl (by decide)); (conv => (lhs; whnf)); (intro v'; (repeat (first | exact Rep.here | apply Rep.there))); rfl; rotate_left; exact H2.newsAll (.head _); rotate_right; rfl; (intro u hu; simp at hu; rcases hu with rfl | rfl <;> rfl); decide; omega; intro v1 w9 H1 hnil; clear HS H2; have HS := H1.tail; clear H1 hnil; rw [HNS.out] at HS))
                  refine bodyPost_ret (res3 rfl (resTmp _ _ _) (resTmp _ _ _) (resTmp _ _ _)) rfl ⟨_, rfl, (by first | exact HS.tail.ownNil _ _ | exact HS.tail.tail.ownNil _ _ | exact HS.tail.tail.tail.ownNil _ _)⟩
              · intro K HK
                ((with_reducible apply sAlloc HS); infer_instance; (first | exact cells_agg _ | exact cells_one rfl); rfl; intro Bx w' H1; clear HS; have HS := H1; clear H1)
                (try simp only [Act.put, List.setIfInBounds_toArray, List.set_cons_zero, List.set_cons_succ])
                refine wpList_nil (then_normal (HK.out _ _ ⟨.inr (HS.hd (by (repeat (first | exact subNil | (refine subCons ?_ ?_; (repeat (first | exact List.Mem.head _ | apply List.Mem.tail))))))), ?_⟩))
                clear HK K
                with_reducible apply wpSch_e_k
                (simp only [List.getElem?_toArray, List.getElem?_cons_zero, List.getElem?_cons_succ]; rfl)
                intro K HK
                go_wp2_with (go_at_call 49; (with_reducible refine (HAX.out _).mono ?_); rintro e w' ⟨rfl, H1⟩; replace HS := HS.fresh H1; clear H1)
                refine HK.out _ _ ⟨.inr (HS.hd (by (repeat (first | exact subNil | (refine subCons ?_ ?_; (repeat (first | exact List.Mem.head _ | apply List.Mem.tail))))))), ?_⟩
                clear HK K
                with_reducible apply wpSch_e_k
                (simp only [List.getElem?_toArray, List.getElem?_cons_zero, List.getElem?_cons_succ]; rfl)
                intro K HK
                go_wp2_with (go_at_call 49; (with_reducible refine (HAF.out _).mono ?_); rintro e w' ⟨rfl, H1⟩; replace HS := HS.fresh H1; clear H1)
                refine HK.out _ _ ⟨.inr (HS.hd (by (repeat (first | exact subNil | (refine subCons ?_ ?_; (repeat (first | exact List.Mem.head _ | apply List.Mem.tail))))))), ?_⟩
                clear HK K
                repeat (first | ((with_reducible apply cLoadB); (simp only [List.getElem?_toArray, List.getElem?_cons_zero, List.getElem?_cons_succ]; rfl); infer_instance; rfl; rfl; (repeat (first | exact List.Mem.head _ | apply List.Mem.tail)); with_reducible exact hz.out; (try simp only [Act.put, List.setIfInBounds_toArray, List.set_cons_zero, List.set_cons_succ])) | ((with_reducible apply wpSch_nilCheck); (simp only [List.getElem?_toArray, List.getElem?_cons_zero, List.getElem?_cons_succ]; rfl); rfl; rfl; (try simp only [Act.put, List.setIfInBounds_toArray, List.set_cons_zero, List.set_cons_succ])) | ((with_reducible apply wpSch_plain); (simp only [List.getElem?_toArray, List.getElem?_cons_zero, List.getElem?_cons_succ]; rfl); rfl; rfl; (intro K hK; go_big_quiet_op; go_big_quiet_on)) | ((with_reducible apply wpSch_skip); (simp only [List.getElem?_toArray, List.getElem?_cons_zero, List.getElem?_cons_succ]; rfl); rfl; (try simp only [Act.put, List.setIfInBounds_toArray, List.set_cons_zero, List.set_cons_succ])))
                with_reducible apply wpSch_e_k
                (simp only [List.getElem?_toArray, List.getElem?_cons_zero, List.getElem?_cons_succ]; rfl)
                intro K HK
                ((with_reducible apply sStoreB HS); infer_instance; rfl; rfl; (conv => (lhs; whnf)); (repeat (first | exact Rep.here | apply Rep.there)); rfl; rfl; (intro u hu; simp at hu; rcases hu with rfl | rfl <;> rfl); intro w' H1; clear HS; have HS := H1; clear H1)
                (try simp only [Act.put])
                refine wpList_nil (then_normal (HK.out _ _ ⟨.inl rfl, ?_⟩))
                clear HK K
                refine wpSch_nil ?_
                go_wp2
                (try simp only [Act.put])
                refine wp_region_quietF (by kernel_rfl) (by kernel_rfl) ?_
                repeat (first | go_big_quiet_skip | (((with_reducible apply qLoadB HS); infer_instance; rfl; rfl; (repeat (first | exact List.Mem.head _ | apply List.Mem.tail)); with_reducible exact hz.out); (try simp only [Act.put, List.setIfInBounds_toArray, List.set_cons_zero, List.set_cons_succ])) | (((with_reducible apply qLoad1 HS); infer_instance; rfl; rfl; (repeat (first | exact List.Mem.head _ | apply List.Mem.tail)); rfl); (try simp only [Act.put, List.setIfInBounds_toArray, List.set_cons_zero, List.set_cons_succ])) | (go_big_quiet_want; go_big_quiet_op; first | go_big_quiet_on | (refine ⟨_, fun _ _ => rfl, ?_⟩; go_big_quiet_on) | (apply Exists.intro; refine ⟨fun wc hfr => ?_, ?_⟩; (· (go_at_call 49; exact fr_call hfr (HAF.out _))); go_big_quiet_on)))
                refine wpQuiet_nil ?_
                intro w1 hm1
                replace HS := HS.fresh hm1
                clear hm1
                go_wp2_with (first | ((with_reducible apply sLoadB HS); infer_instance; rfl; rfl; (repeat (first | exact List.Mem.head _ | apply List.Mem.tail)); rfl) | (at_builtin; (have H2 := HS.alloc #[.int .u32 x, .bool (f == 1)] 55); (with_reducible apply sAppend H2 Try.underlying25 infoTag rfl (by decide)); (conv => (lhs; whnf)); (intro v'; (repeat (first | exact Rep.here | apply Rep.there))); rfl; rotate_left; exact H2.newsAll (.head _); rotate_right; rfl; (intro u hu; simp at hu; rcases hu with rfl | rfl <;> rfl); decide; omega; intro v1 w9 H1 hnil; clear HS H2; have HS := H1.tail; clear H1 hnil; rw [HNS.out] at HS))
                refine bodyPost_ret (res3 rfl (resTmp _ _ _) (resTmp _ _ _) (resTmp _ _ _)) rfl ⟨_, rfl, (by first | exact HS.tail.ownNil _ _ | exact HS.tail.tail.ownNil _ _ | exact HS.tail.tail.tail.ownNil _ _)⟩
          · have hgt : decide ((0 : Int) < (k : Int) + 1) = true := decide_eq_true (by omega)
            have HAX := Lib.hid (fun W => HAT.out W (16 + 8 * (k + 1)) (16 + 8 * ((k : Int) + 1)) (by push_cast; rfl) (by omega))
            have HAF := Lib.hid (fun W => HAT.out W (20 + 8 * (k + 1)) (20 + 8 * ((k : Int) + 1)) (by push_cast; rfl) (by omega))
            rw [HX.out] at HAX
            rw [HF.out] at HAF
            obtain ⟨g, oc2, e3, _⟩ := own_row (HS.own (.head _)) (Nat.succ_pos k)
            obtain ⟨rfl, rfl⟩ : oa = some ⟨g, 0, none⟩ ∧ oc = oc2 := by simpa using e3
            clear e3
            have hv0 : Hid ((encTl (tagsOf bs (k + 1)))[k * 2]? = some (.int .u32 ((tagsOf bs n).getD k (0, false)).1)) := by
              show _ = _
              rw [encTl_get1 (by rw [tagsOf_len]; omega), tagsOf_getD bs (by omega) (show k < n by omega)]
            have HST := Lib.hid (fun h => riseTt_succ HRI.out h)
            have HNO := Lib.hid (fun h => riset_not (l := tagsOf bs n) (k := k) (by rw [tagsOf_len]; omega) h)
            rw [HGK.out] at HST HNO
            obtain ⟨y, hy⟩ : ∃ x, ((tagsOf bs n).getD k (0, false)).1 = x := ⟨_, rfl⟩
            rw [hy] at hv0 HST HNO
            clear hy
            by_cases hf1 : f ≤ 1
            · have hfd : decide ((1 : Int) < f) = false := decide_eq_false (by omega)
              have hfI : ¬ (1 : Int) < f := by omega
              by_cases hyx : y < x
              · have hle : decide (x ≤ y) = false := decide_eq_false (by omega)
                have hle2 : ¬ x ≤ y := by omega
                go_wp2
                (try simp only [Act.put])
                refine wp_region_sch (.q 0 (.q 1 (.q 2 (.q 3 (.q 5 (.q 6 (.q 7 (.q 8 (.two 4 (.two 9 (.q 10 (.q 11 (.e 12 (.e 13 (.nil))))) 12 (.e 9 (.q 10 (.q 11 (.e 13 (.nil)))))) 12 (.e 4 (.e 9 (.q 10 (.q 11 (.e 13 (.nil))))))))))))))) (Hd [.blk true B1 (encB bs) 28]) (by kernel_rfl) (by kernel_rfl) (fun _ _ d _ _ h => by cases d <;> exact h) ?_
                intro w1 hm1
                replace HS := HS.fresh hm1
                clear hm1
                refine ⟨HS.hd (by (repeat (first | exact subNil | (refine subCons ?_ ?_; (repeat (first | exact List.Mem.head _ | apply List.Mem.tail)))))), ?_⟩
                repeat (first | ((with_reducible apply cLoadB); (simp only [List.getElem?_toArray, List.getElem?_cons_zero, List.getElem?_cons_succ]; rfl); infer_instance; rfl; rfl; (repeat (first | exact List.Mem.head _ | apply List.Mem.tail)); with_reducible exact hz.out; (try simp only [Act.put, List.setIfInBounds_toArray, List.set_cons_zero, List.set_cons_succ])) | ((with_reducible apply wpSch_nilCheck); (simp only [List.getElem?_toArray, List.getElem?_cons_zero, List.getElem?_cons_succ]; rfl); rfl; rfl; (try simp only [Act.put, List.setIfInBounds_toArray, List.set_cons_zero, List.set_cons_succ])) | ((with_reducible apply wpSch_plain); (simp only [List.getElem?_toArray, List.getElem?_cons_zero, List.getElem?_cons_succ]; rfl); rfl; rfl; (intro K hK; go_big_quiet_op; go_big_quiet_on)) | ((with_reducible apply wpSch_skip); (simp only [List.getElem?_toArray, List.getElem?_cons_zero, List.getElem?_cons_succ]; rfl); rfl; (try simp only [Act.put, List.setIfInBounds_toArray, List.set_cons_zero, List.set_cons_succ])))
                with_reducible apply wpSch_two_k
                (simp only [List.getElem?_toArray, List.getElem?_cons_zero, List.getElem?_cons_succ]; rfl)
                (simp only [List.getElem?_toArray, List.getElem?_cons_zero, List.getElem?_cons_succ]; rfl)
                · intro K HK
                  go_wp2_with (go_at_call 49; (with_reducible refine (HAX.out _).mono ?_); rintro e w' ⟨rfl, H1⟩; replace HS := HS.fresh H1; clear H1)
                  refine HK.out _ _ ⟨.inr (HS.hd (by (repeat (first | exact subNil | (refine subCons ?_ ?_; (repeat (first | exact List.Mem.head _ | apply List.Mem.tail))))))), ?_⟩
                  clear HK K
                  with_reducible apply wpSch_two_k
                  (simp only [List.getElem?_toArray, List.getElem?_cons_zero, List.getElem?_cons_succ]; rfl)
                  (simp only [List.getElem?_toArray, List.getElem?_cons_zero, List.getElem?_cons_succ]; rfl)
                  · intro K HK
                    go_wp2_with (go_at_call 49; (with_reducible refine (HAF.out _).mono ?_); rintro e w' ⟨rfl, H1⟩; replace HS := HS.fresh H1; clear H1)
                    refine HK.out _ _ ⟨.inr (HS.hd (by (repeat (first | exact subNil | (refine subCons ?_ ?_; (repeat (first | exact List.Mem.head _ | apply List.Mem.tail))))))), ?_⟩
                    clear HK K
                    repeat (first | ((with_reducible apply cLoadB); (simp only [List.getElem?_toArray, List.getElem?_cons_zero, List.getElem?_cons_succ]; rfl); infer_instance; rfl; rfl; (repeat (first | exact List.Mem.head _ | apply List.Mem.tail)); with_reducible exact hz.out; (try simp only [Act.put, List.setIfInBounds_toArray, List.set_cons_zero, List.set_cons_succ])) | ((with_reducible apply wpSch_nilCheck); (simp only [List.getElem?_toArray, List.getElem?_cons_zero, List.getElem?_cons_succ]; rfl); rfl; rfl; (try simp only [Act.put, List.setIfInBounds_toArray, List.set_cons_zero, List.set_cons_succ])) | ((with_reducible apply wpSch_plain); (simp only [List.getElem?_toArray, List.getElem?_cons_zero, List.getElem?_cons_succ]; rfl); rfl; rfl; (intro K hK; go_big_quiet_op; go_big_quiet_on)) | ((with_reducible apply wpSch_skip); (simp only [List.getElem?_toArray, List.getElem?_cons_zero, List.getElem?_cons_succ]; rfl); rfl; (try simp only [Act.put, List.setIfInBounds_toArray, List.set_cons_zero, List.set_cons_succ])))
                    with_reducible apply wpSch_e_k
                    (simp only [List.getElem?_toArray, List.getElem?_cons_zero, List.getElem?_cons_succ]; rfl)
                    intro K HK
                    ((with_reducible apply sAlloc HS); infer_instance; (first | exact cells_agg _ | exact cells_one rfl); rfl; intro Bx w' H1; clear HS; have HS := H1; clear H1)
                    (try simp only [Act.put, List.setIfInBounds_toArray, List.set_cons_zero, List.set_cons_succ])
                    refine wpList_nil (then_normal (HK.out _ _ ⟨.inr (HS.hd (by (repeat (first | exact subNil | (refine subCons ?_ ?_; (repeat (first | exact List.Mem.head _ | apply List.Mem.tail))))))), ?_⟩))
                    clear HK K
                    with_reducible apply wpSch_e_k
                    (simp only [List.getElem?_toArray, List.getElem?_cons_zero, List.getElem?_cons_succ]; rfl)
                    intro K HK
                    ((with_reducible apply sStoreB HS); infer_instance; rfl; rfl; (conv => (lhs; whnf)); (repeat (first | exact Rep.here | apply Rep.there)); rfl; rfl; (intro u hu; simp at hu; rcases hu with rfl | rfl <;> rfl); intro w' H1; clear HS; have HS := H1; clear H1)
                    (try simp only [Act.put])
                    refine wpList_nil (then_normal (HK.out _ _ ⟨.inl rfl, ?_⟩))
                    clear HK K
                    refine wpSch_nil ?_
                    go_wp2
                    (try simp only [Act.put])
                    refine wp_region_quietF (by kernel_rfl) (by kernel_rfl) ?_
                    repeat (first | go_big_quiet_skip | (((with_reducible apply qLoadB HS); infer_instance; rfl; rfl; (repeat (first | exact List.Mem.head _ | apply List.Mem.tail)); with_reducible exact hz.out); (try simp only [Act.put, List.setIfInBounds_toArray, List.set_cons_zero, List.set_cons_succ])) | (((with_reducible apply qLoad1 HS); infer_instance; rfl; rfl; (repeat (first | exact List.Mem.head _ | apply List.Mem.tail)); rfl); (try simp only [Act.put, List.setIfInBounds_toArray, List.set_cons_zero, List.set_cons_succ])) | (((with_reducible apply qLoadO1 HS); infer_instance; rfl; rfl; (repeat (first | exact List.Mem.head _ | apply List.Mem.tail)); exact hv0.out); (try simp only [Act.put, List.setIfInBounds_toArray, List.set_cons_zero, List.set_cons_succ])) | (go_big_quiet_want; go_big_quiet_op; first | go_big_quiet_on | (refine ⟨_, fun _ _ => rfl, ?_⟩; go_big_quiet_on) | (apply Exists.intro; refine ⟨fun wc hfr => ?_, ?_⟩; (· (go_at_call 49; exact fr_call hfr (HAF.out _))); go_big_quiet_on)))
                    refine wpQuiet_nil ?_
                    intro w1 hm1
                    replace HS := HS.fresh hm1
                    clear hm1
                    go_wp2_with (first | ((with_reducible apply sLoadB HS); infer_instance; rfl; rfl; (repeat (first | exact List.Mem.head _ | apply List.Mem.tail)); rfl) | (at_builtin; (have H2 := HS.alloc #[.int .u32 x, .bool (f == 1)] 55); (with_reducible apply sAppend H2 Try.underlying25 infoTag rfl (by decide)); (conv => (lhs; whnf)); (intro v'; (repeat (first | exact Rep.here | apply Rep.there))); rfl; rotate_left; exact H2.newsAll (.head _); rotate_right; rfl; (intro u hu; simp at hu; rcases hu with rfl | rfl <;> rfl); decide; omega; intro v1 w9 H1 hnil; clear HS H2; have HS := H1.tail; clear H1 hnil; rw [HNS.out] at HS))
                    go_roundw
                    case rel => exact ⟨k + 1 + 1, by omega, by go_num, HST.out hyx, HFS.out hf1, HS.tail⟩
                    case measure => simp [intOf]; omega
                  · intro K HK
                    ((with_reducible apply sAlloc HS); infer_instance; (first | exact cells_agg _ | exact cells_one rfl); rfl; intro Bx w' H1; clear HS; have HS := H1; clear H1)
                    (try simp only [Act.put, List.setIfInBounds_toArray, List.set_cons_zero, List.set_cons_succ])
                    refine wpList_nil (then_normal (HK.out _ _ ⟨.inr (HS.hd (by (repeat (first | exact subNil | (refine subCons ?_ ?_; (repeat (first | exact List.Mem.head _ | apply List.Mem.tail))))))), ?_⟩))
                    clear HK K
                    with_reducible apply wpSch_e_k
                    (simp only [List.getElem?_toArray, List.getElem?_cons_zero, List.getElem?_cons_succ]; rfl)
                    intro K HK
                    go_wp2_with (go_at_call 49; (with_reducible refine (HAF.out _).mono ?_); rintro e w' ⟨rfl, H1⟩; replace HS := HS.fresh H1; clear H1)
                    refine HK.out _ _ ⟨.inr (HS.hd (by (repeat (first | exact subNil | (refine subCons ?_ ?_; (repeat (first | exact List.Mem.head _ | apply List.Mem.tail))))))), ?_⟩
                    clear HK K
                    repeat (first | ((with_reducible apply cLoadB); (simp only [List.getElem?_toArray, List.getElem?_cons_zero, List.getElem?_cons_succ]; rfl); infer_instance; rfl; rfl; (repeat (first | exact List.Mem.head _ | apply List.Mem.tail)); with_reducible exact hz.out; (try simp only [Act.put, List.setIfInBounds_toArray, List.set_cons_zero, List.set_cons_succ])) | ((with_reducible apply wpSch_nilCheck); (simp only [List.getElem?_toArray, List.getElem?_cons_zero, List.getElem?_cons_succ]; rfl); rfl; rfl; (try simp only [Act.put, List.setIfInBounds_toArray, List.set_cons_zero, List.set_cons_succ])) | ((with_reducible apply wpSch_plain); (simp only [List.getElem?_toArray, List.getElem?_cons_zero, List.getElem?_cons_succ]; rfl); rfl; rfl; (intro K hK; go_big_quiet_op; go_big_quiet_on)) | ((with_reducible apply wpSch_skip); (simp only [List.getElem?_toArray, List.getElem?_cons_zero, List.getElem?_cons_succ]; rfl); rfl; (try simp only [Act.put, List.setIfInBounds_toArray, List.set_cons_zero, List.set_cons_succ])))
                    with_reducible apply wpSch_e_k
                    (simp only [List.getElem?_toArray, List.getElem?_cons_zero, List.getElem?_cons_succ]; rfl)
                    intro K HK
                    ((with_reducible apply sStoreB HS); infer_instance; rfl; rfl; (conv => (lhs; whnf)); (repeat (first | exact Rep.here | apply Rep.there)); rfl; rfl; (intro u hu; simp at hu; rcases hu with rfl | rfl <;> rfl); intro w' H1; clear HS; have HS := H1; clear H1)
                    (try simp only [Act.put])
                    refine wpList_nil (then_normal (HK.out _ _ ⟨.inl rfl, ?_⟩))
                    clear HK K
                    refine wpSch_nil ?_
                    go_wp2
                    (try simp only [Act.put])
                    refine wp_region_quietF (by kernel_rfl) (by kernel_rfl) ?_
                    repeat (first | go_big_quiet_skip | (((with_reducible apply qLoadB HS); infer_instance; rfl; rfl; (repeat (first | exact List.Mem.head _ | apply List.Mem.tail)); with_reducible exact hz.out); (try simp only [Act.put, List.setIfInBounds_toArray, List.set_cons_zero, List.set_cons_succ])) | (((with_reducible apply qLoad1 HS); infer_instance; rfl; rfl; (repeat (first | exact List.Mem.head _ | apply List.Mem.tail)); rfl); (try simp only [Act.put, List.setIfInBounds_toArray, List.set_cons_zero, List.set_cons_succ])) | (((with_reducible apply qLoadO1 HS); infer_instance; rfl; rfl; (repeat (first | exact List.Mem.head _ | apply List.Mem.tail)); exact hv0.out); (try simp only [Act.put, List.setIfInBounds_toArray, List.set_cons_zero, List.set_cons_succ])) | (go_big_quiet_want; go_big_quiet_op; first | go_big_quiet_on | (refine ⟨_, fun _ _ => rfl, ?_⟩; go_big_quiet_on) | (apply Exists.intro; refine ⟨fun wc hfr => ?_, ?_⟩; (· (go_at_call 49; exact fr_call hfr (HAF.out _))); go_big_quiet_on)))
                    refine wpQuiet_nil ?_
                    intro w1 hm1
                    replace HS := HS.fresh hm1
                    clear hm1
                    go_wp2_with (first | ((with_reducible apply sLoadB HS); infer_instance; rfl; rfl; (repeat (first | exact List.Mem.head _ | apply List.Mem.tail)); rfl) | (at_builtin; (have H2 := HS.alloc #[.int .u32 x, .bool (f == 1)] 55); (with_reducible apply sAppend H2 Try.underlying25 infoTag rfl (by decide)); (conv => (lhs; whnf)); (intro v'; (repeat (first | exact Rep.here | apply Rep.there))); rfl; rotate_left; exact H2.newsAll (.head _); rotate_right; rfl; (intro u hu; simp at hu; rcases hu with rfl | rfl <;> rfl); decide; omega; intro v1 w9 H1 hnil; clear HS H2; have HS := H1.tail; clear H1 hnil; rw [HNS.out] at HS))
                    go_roundw
                    case rel => exact ⟨k + 1 + 1, by omega, by go_num, HST.out hyx, HFS.out hf1, HS.tail⟩
                    case measure => simp [intOf]; omega
                · intro K HK
                  ((with_reducible apply sAlloc HS); infer_instance; (first | exact cells_agg _ | exact cells_one rfl); rfl; intro Bx w' H1; clear HS; have HS := H1; clear H1)
                  (try simp only [Act.put, List.setIfInBounds_toArray, List.set_cons_zero, List.set_cons_succ])
                  refine wpList_nil (then_normal (HK.out _ _ ⟨.inr (HS.hd (by (repeat (first | exact subNil | (refine subCons ?_ ?_; (repeat (first | exact List.Mem.head _ | apply List.Mem.tail))))))), ?_⟩))
                  clear HK K
                  with_reducible apply wpSch_e_k
                  (simp only [List.getElem?_toArray, List.getElem?_cons_zero, List.getElem?_cons_succ]; rfl)
                  intro K HK
                  go_wp2_with (go_at_call 49; (with_reducible refine (HAX.out _).mono ?_); rintro e w' ⟨rfl, H1⟩; replace HS := HS.fresh H1; clear H1)
                  refine HK.out _ _ ⟨.inr (HS.hd (by (repeat (first | exact subNil | (refine subCons ?_ ?_; (repeat (first | exact List.Mem.head _ | apply List.Mem.tail))))))), ?_⟩
                  clear HK K
                  with_reducible apply wpSch_e_k
                  (simp only [List.getElem?_toArray, List.getElem?_cons_zero, List.getElem?_cons_succ]; rfl)
                  intro K HK
                  go_wp2_with (go_at_call 49; (with_reducible refine (HAF.out _).mono ?_); rintro e w' ⟨rfl, H1⟩; replace HS := HS.fresh H1; clear H1)
                  refine HK.out _ _ ⟨.inr (HS.hd (by (repeat (first | exact subNil | (refine subCons ?_ ?_; (repeat (first | exact List.Mem.head _ | apply List.Mem.tail))))))), ?_⟩
                  clear HK K
                  repeat (first | ((with_reducible apply cLoadB); (simp only [List.getElem?_toArray, List.getElem?_cons_zero, List.getElem?_cons_succ]; rfl); infer_instance; rfl; rfl; (repeat (first | exact List.Mem.head _ | apply List.Mem.tail)); with_reducible exact hz.out; (try simp only [Act.put, List.setIfInBounds_toArray, List.set_cons_zero, List.set_cons_succ])) | ((with_reducible apply wpSch_nilCheck); (simp only [List.getElem?_toArray, List.getElem?_cons_zero, List.getElem?_cons_succ]; rfl); rfl; rfl; (try simp only [Act.put, List.setIfInBounds_toArray, List.set_cons_zero, List.set_cons_succ])) | ((with_reducible apply wpSch_plain); (simp only [List.getElem?_toArray, List.getElem?_cons_zero, List.getElem?_cons_succ]; rfl); rfl; rfl; (intro K hK; go_big_quiet_op; go_big_quiet_on)) | ((with_reducible apply wpSch_skip); (simp only [List.getElem?_toArray, List.getElem?_cons_zero, List.getElem?_cons_succ]; rfl); rfl; (try simp only [Act.put, List.setIfInBounds_toArray, List.set_cons_zero, List.set_cons_succ])))
                  with_reducible apply wpSch_e_k
                  (simp only [List.getElem?_toArray, List.getElem?_cons_zero, List.getElem?_cons_succ]; rfl)
                  intro K HK
                  ((with_reducible apply sStoreB HS); infer_instance; rfl; rfl; (conv => (lhs; whnf)); (repeat (first | exact Rep.here | apply Rep.there)); rfl; rfl; (intro u hu; simp at hu; rcases hu with rfl | rfl <;> rfl); intro w' H1; clear HS; have HS := H1; clear H1)
                  (try simp only [Act.put])
                  refine wpList_nil (then_normal (HK.out _ _ ⟨.inl rfl, ?_⟩))
                  clear HK K
                  refine wpSch_nil ?_
                  go_wp2
                  (try simp only [Act.put])
                  refine wp_region_quietF (by kernel_rfl) (by kernel_rfl) ?_
                  repeat (first | go_big_quiet_skip | (((with_reducible apply qLoadB HS); infer_instance; rfl; rfl; (repeat (first | exact List.Mem.head _ | apply List.Mem.tail)); with_reducible exact hz.out); (try simp only [Act.put, List.setIfInBounds_toArray, List.set_cons_zero, List.set_cons_succ])) | (((with_reducible apply qLoad1 HS); infer_instance; rfl; rfl; (repeat (first | exact List.Mem.head _ | apply List.Mem.tail)); rfl); (try simp only [Act.put, List.setIfInBounds_toArray, List.set_cons_zero, List.set_cons_succ])) | (((with_reducible apply qLoadO1 HS); infer_instance; rfl; rfl; (repeat (first | exact List.Mem.head _ | apply List.Mem.tail)); exact hv0.out); (try simp only [Act.put, List.setIfInBounds_toArray, List.set_cons_zero, List.set_cons_succ])) | (go_big_quiet_want; go_big_quiet_op; first | go_big_quiet_on | (refine ⟨_, fun _ _ => rfl, ?_⟩; go_big_quiet_on) | (apply Exists.intro; refine ⟨fun wc hfr => ?_, ?_⟩; (· (go_at_call 49; exact fr_call hfr (HAF.out _))); go_big_quiet_on)))
                  refine wpQuiet_nil ?_
                  intro w1 hm1
                  replace HS := HS.fresh hm1
                  clear hm1
                  go_wp2_with (first | ((with_reducible apply sLoadB HS); infer_instance; rfl; rfl; (repeat (first | exact List.Mem.head _ | apply List.Mem.tail)); rfl) | (at_builtin; (have H2 := HS.alloc #[.int .u32 x, .bool (f == 1)] 55); (with_reducible apply sAppend H2 Try.underlying25 infoTag rfl (by decide)); (conv => (lhs; whnf)); (intro v'; (repeat (first | exact Rep.here | apply Rep.there))); rfl; rotate_left; exact H2.newsAll (.head _); rotate_right; rfl; (intro u hu; simp at hu; rcases hu with rfl | rfl <;> rfl); decide; omega; intro v1 w9 H1 hnil; clear HS H2; have HS := H1.tail; clear H1 hnil; rw [HNS.out] at HS))
                  go_roundw
                  case rel => exact ⟨k + 1 + 1, by omega, by go_num, HST.out hyx, HFS.out hf1, HS.tail⟩
                  case measure => simp [intOf]; omega
              · have hle : decide (x ≤ y) = true := decide_eq_true (by omega)
                have hle2 : x ≤ y := by omega
                have hrn : r = none := by rw [HR2.out, if_neg (fun h => by rw [HNO.out hyx] at h; exact absurd h.2 (by simp))]
                subst hrn
                go_wp2
                (try simp only [Act.put])
                refine wp_region_sch (.q 0 (.q 1 (.q 2 (.q 3 (.q 5 (.q 6 (.q 7 (.q 8 (.two 4 (.two 9 (.q 10 (.q 11 (.e 12 (.e 13 (.nil))))) 12 (.e 9 (.q 10 (.q 11 (.e 13 (.nil)))))) 12 (.e 4 (.e 9 (.q 10 (.q 11 (.e 13 (.nil))))))))))))))) (Hd [.blk true B1 (encB bs) 28]) (by kernel_rfl) (by kernel_rfl) (fun _ _ d _ _ h => by cases d <;> exact h) ?_
                intro w1 hm1
                replace HS := HS.fresh hm1
                clear hm1
                refine ⟨HS.hd (by (repeat (first | exact subNil | (refine subCons ?_ ?_; (repeat (first | exact List.Mem.head _ | apply List.Mem.tail)))))), ?_⟩
                repeat (first | ((with_reducible apply cLoadB); (simp only [List.getElem?_toArray, List.getElem?_cons_zero, List.getElem?_cons_succ]; rfl); infer_instance; rfl; rfl; (repeat (first | exact List.Mem.head _ | apply List.Mem.tail)); with_reducible exact hz.out; (try simp only [Act.put, List.setIfInBounds_toArray, List.set_cons_zero, List.set_cons_succ])) | ((with_reducible apply wpSch_nilCheck); (simp only [List.getElem?_toArray, List.getElem?_cons_zero, List.getElem?_cons_succ]; rfl); rfl; rfl; (try simp only [Act.put, List.setIfInBounds_toArray, List.set_cons_zero, List.set_cons_succ])) | ((with_reducible apply wpSch_plain); (simp only [List.getElem?_toArray, List.getElem?_cons_zero, List.getElem?_cons_succ]; rfl); rfl; rfl; (intro K hK; go_big_quiet_op; go_big_quiet_on)) | ((with_reducible apply wpSch_skip); (simp only [List.getElem?_toArray, List.getElem?_cons_zero, List.getElem?_cons_succ]; rfl); rfl; (try simp only [Act.put, List.setIfInBounds_toArray, List.set_cons_zero, List.set_cons_succ])))
                with_reducible apply wpSch_two_k
                (simp only [List.getElem?_toArray, List.getElem?_cons_zero, List.getElem?_cons_succ]; rfl)
                (simp only [List.getElem?_toArray, List.getElem?_cons_zero, List.getElem?_cons_succ]; rfl)
                · intro K HK
                  go_wp2_with (go_at_call 49; (with_reducible refine (HAX.out _).mono ?_); rintro e w' ⟨rfl, H1⟩; replace HS := HS.fresh H1; clear H1)
                  refine HK.out _ _ ⟨.inr (HS.hd (by (repeat (first | exact subNil | (refine subCons ?_ ?_; (repeat (first | exact List.Mem.head _ | apply List.Mem.tail))))))), ?_⟩
                  clear HK K
                  with_reducible apply wpSch_two_k
                  (simp only [List.getElem?_toArray, List.getElem?_cons_zero, List.getElem?_cons_succ]; rfl)
                  (simp only [List.getElem?_toArray, List.getElem?_cons_zero, List.getElem?_cons_succ]; rfl)
                  · intro K HK
                    go_wp2_with (go_at_call 49; (with_reducible refine (HAF.out _).mono ?_); rintro e w' ⟨rfl, H1⟩; replace HS := HS.fresh H1; clear H1)
                    refine HK.out _ _ ⟨.inr (HS.hd (by (repeat (first | exact subNil | (refine subCons ?_ ?_; (repeat (first | exact List.Mem.head _ | apply List.Mem.tail))))))), ?_⟩
                    clear HK K
                    repeat (first | ((with_reducible apply cLoadB); (simp only [List.getElem?_toArray, List.getElem?_cons_zero, List.getElem?_cons_succ]; rfl); infer_instance; rfl; rfl; (repeat (first | exact List.Mem.head _ | apply List.Mem.tail)); with_reducible exact hz.out; (try simp only [Act.put, List.setIfInBounds_toArray, List.set_cons_zero, List.set_cons_succ])) | ((with_reducible apply wpSch_nilCheck); (simp only [List.getElem?_toArray, List.getElem?_cons_zero, List.getElem?_cons_succ]; rfl); rfl; rfl; (try simp only [Act.put, List.setIfInBounds_toArray, List.set_cons_zero, List.set_cons_succ])) | ((with_reducible apply wpSch_plain); (simp only [List.getElem?_toArray, List.getElem?_cons_zero, List.getElem?_cons_succ]; rfl); rfl; rfl; (intro K hK; go_big_quiet_op; go_big_quiet_on)) | ((with_reducible apply wpSch_skip); (simp only [List.getElem?_toArray, List.getElem?_cons_zero, List.getElem?_cons_succ]; rfl); rfl; (try simp only [Act.put, List.setIfInBounds_toArray, List.set_cons_zero, List.set_cons_succ])))
                    with_reducible apply wpSch_e_k
                    (simp only [List.getElem?_toArray, List.getElem?_cons_zero, List.getElem?_cons_succ]; rfl)
                    intro K HK
                    ((with_reducible apply sAlloc HS); infer_instance; (first | exact cells_agg _ | exact cells_one rfl); rfl; intro Bx w' H1; clear HS; have HS := H1; clear H1)
                    (try simp only [Act.put, List.setIfInBounds_toArray, List.set_cons_zero, List.set_cons_succ])
                    refine wpList_nil (then_normal (HK.out _ _ ⟨.inr (HS.hd (by (repeat (first | exact subNil | (refine subCons ?_ ?_; (repeat (first | exact List.Mem.head _ | apply List.Mem.tail))))))), ?_⟩))
                    clear HK K
                    with_reducible apply wpSch_e_k
                    (simp only [List.getElem?_toArray, List.getElem?_cons_zero, List.getElem?_cons_succ]; rfl)
                    intro K HK
                    ((with_reducible apply sStoreB HS); infer_instance; rfl; rfl; (conv => (lhs; whnf)); (repeat (first | exact Rep.here | apply Rep.there)); rfl; rfl; (intro u hu; simp at hu; rcases hu with rfl | rfl <;> rfl); intro w' H1; clear HS; have HS := H1; clear H1)
                    (try simp only [Act.put])
                    refine wpList_nil (then_normal (HK.out _ _ ⟨.inl rfl, ?_⟩))
                    clear HK K
                    refine wpSch_nil ?_
                    go_wp2
                    (try simp only [Act.put])
                    refine wp_region_quietF (by kernel_rfl) (by kernel_rfl) ?_
                    repeat (first | go_big_quiet_skip | (((with_reducible apply qLoadB HS); infer_instance; rfl; rfl; (repeat (first | exact List.Mem.head _ | apply List.Mem.tail)); with_reducible exact hz.out); (try simp only [Act.put, List.setIfInBounds_toArray, List.set_cons_zero, List.set_cons_succ])) | (((with_reducible apply qLoad1 HS); infer_instance; rfl; rfl; (repeat (first | exact List.Mem.head _ | apply List.Mem.tail)); rfl); (try simp only [Act.put, List.setIfInBounds_toArray, List.set_cons_zero, List.set_cons_succ])) | (((with_reducible apply qLoadO1 HS); infer_instance; rfl; rfl; (repeat (first | exact List.Mem.head _ | apply List.Mem.tail)); exact hv0.out); (try simp only [Act.put, List.setIfInBounds_toArray, List.set_cons_zero, List.set_cons_succ])) | (go_big_quiet_want; go_big_quiet_op; first | go_big_quiet_on | (refine ⟨_, fun _ _ => rfl, ?_⟩; go_big_quiet_on) | (apply Exists.intro; refine ⟨fun wc hfr => ?_, ?_⟩; (· (go_at_call 49; exact fr_call hfr (HAF.out _))); go_big_quiet_on)))
                    refine wpQuiet_nil ?_
                    intro w1 hm1
                    replace HS := HS.fresh hm1
                    clear hm1
                    go_wp2_with (first | ((with_reducible apply sLoadB HS); infer_instance; rfl; rfl; (repeat (first | exact List.Mem.head _ | apply List.Mem.tail)); rfl) | (at_builtin; (have H2 := HS.alloc #[.int .u32 x, .bool (f == 1)] 55); (with_reducible apply sAppend H2 Try.underlying25 infoTag rfl (by decide)); (conv => (lhs; whnf)); (intro v'; (repeat (first | exact Rep.here | apply Rep.there))); rfl; rotate_left; exact H2.newsAll (.head _); rotate_right; rfl; (intro u hu; simp at hu; rcases hu with rfl | rfl <;> rfl); decide; omega; intro v1 w9 H1 hnil; clear HS H2; have HS := H1.tail; clear H1 hnil; rw [HNS.out] at HS))
                    refine bodyPost_ret (res3 rfl (resTmp _ _ _) (resTmp _ _ _) (resTmp _ _ _)) rfl ⟨_, rfl, (by first | exact HS.tail.ownNil _ _ | exact HS.tail.tail.ownNil _ _ | exact HS.tail.tail.tail.ownNil _ _)⟩
                  · intro K HK
                    ((with_reducible apply sAlloc HS); infer_instance; (first | exact cells_agg _ | exact cells_one rfl); rfl; intro Bx w' H1; clear HS; have HS := H1; clear H1)
                    (try simp only [Act.put, List.setIfInBounds_toArray, List.set_cons_zero, List.set_cons_succ])
                    refine wpList_nil (then_normal (HK.out _ _ ⟨.inr (HS.hd (by (repeat (first | exact subNil | (refine subCons ?_ ?_; (repeat (first | exact List.Mem.head _ | apply List.Mem.tail))))))), ?_⟩))
                    clear HK K
                    with_reducible apply wpSch_e_k
                    (simp only [List.getElem?_toArray, List.getElem?_cons_zero, List.getElem?_cons_succ]; rfl)
                    intro K HK
                    go_wp2_with (go_at_call 49; (with_reducible refine (HAF.out _).mono ?_); rintro e w' ⟨rfl, H1⟩; replace HS := HS.fresh H1; clear H1)
                    refine HK.out _ _ ⟨.inr (HS.hd (by (repeat (first | exact subNil | (refine subCons ?_ ?_; (repeat (first | exact List.Mem.head _ | apply List.Mem.tail))))))), ?_⟩
                    clear HK K
                    repeat (first | ((with_reducible apply cLoadB); (simp only [List.getElem?_toArray, List.getElem?_cons_zero, List.getElem?_cons_succ]; rfl); infer_instance; rfl; rfl; (repeat (first | exact List.Mem.head _ | apply List.Mem.tail)); with_reducible exact hz.out; (try simp only [Act.put, List.setIfInBounds_toArray, List.set_cons_zero, List.set_cons_succ])) | ((with_reducible apply wpSch_nilCheck); (simp only [List.getElem?_toArray, List.getElem?_cons_zero, List.getElem?_cons_succ]; rfl); rfl; rfl; (try simp only [Act.put, List.setIfInBounds_toArray, List.set_cons_zero, List.set_cons_succ])) | ((with_reducible apply wpSch_plain); (simp only [List.getElem?_toArray, List.getElem?_cons_zero, List.getElem?_cons_succ]; rfl); rfl; rfl; (intro K hK; go_big_quiet_op; go_big_quiet_on)) | ((with_reducible apply wpSch_skip); (simp only [List.getElem?_toArray, List.getElem?_cons_zero, List.getElem?_cons_succ]; rfl); rfl; (try simp only [Act.put, List.setIfInBounds_toArray, List.set_cons_zero, List.set_cons_succ])))
                    with_reducible apply wpSch_e_k
                    (simp only [List.getElem?_toArray, List.getElem?_cons_zero, List.getElem?_cons_succ]; rfl)
                    intro K HK
                    ((with_reducible apply sStoreB HS); infer_instance; rfl; rfl; (conv => (lhs; whnf)); (repeat (first | exact Rep.here | apply Rep.there)); rfl; rfl; (intro u hu; simp at hu; rcases hu with rfl | rfl <;> rfl); intro w' H1; clear HS; have HS := H1; clear H1)
                    (try simp only [Act.put])
                    refine wpList_nil (then_normal (HK.out _ _ ⟨.inl rfl, ?_⟩))
                    clear HK K
                    refine wpSch_nil ?_
                    go_wp2
                    (try simp only [Act.put])
                    refine wp_region_quietF (by kernel_rfl) (by kernel_rfl) ?_
                    repeat (first | go_big_quiet_skip | (((with_reducible apply qLoadB HS); infer_instance; rfl; rfl; (repeat (first | exact List.Mem.head _ | apply List.Mem.tail)); with_reducible exact hz.out); (try simp only [Act.put, List.setIfInBounds_toArray, List.set_cons_zero, List.set_cons_succ])) | (((with_reducible apply qLoad1 HS); infer_instance; rfl; rfl; (repeat (first | exact List.Mem.head _ | apply List.Mem.tail)); rfl); (try simp only [Act.put, List.setIfInBounds_toArray, List.set_cons_zero, List.set_cons_succ])) | (((with_reducible apply qLoadO1 HS); infer_instance; rfl; rfl; (repeat (first | exact List.Mem.head _ | apply List.Mem.tail)); exact hv0.out); (try simp only [Act.put, List.setIfInBounds_toArray, List.set_cons_zero, List.set_cons_succ])) | (go_big_quiet_want; go_big_quiet_op; first | go_big_quiet_on | (refine ⟨_, fun _ _ => rfl, ?_⟩; go_big_quiet_on) | (apply Exists.intro; refine ⟨fun wc hfr => ?_, ?_⟩; (· (go_at_call 49; exact fr_call hfr (HAF.out _))); go_big_quiet_on)))
                    refine wpQuiet_nil ?_
                    intro w1 hm1
                    replace HS := HS.fresh hm1
                    clear hm1
                    go_wp2_with (first | ((with_reducible apply sLoadB HS); infer_instance; rfl; rfl; (repeat (first | exact List.Mem.head _ | apply List.Mem.tail)); rfl) | (at_builtin; (have H2 := HS.alloc #[.int .u32 x, .bool (f == 1)] 55); (with_reducible apply sAppend H2 Try.underlying25 infoTag rfl (by decide)); (conv => (lhs; whnf)); (intro v'; (repeat (first | exact Rep.here | apply Rep.there))); rfl; rotate_left; exact H2.newsAll (.head _); rotate_right; rfl; (intro u hu; simp at hu; rcases hu with rfl | rfl <;> rfl); decide; omega; intro v1 w9 H1 hnil; clear HS H2; have HS := H1.tail; clear H1 hnil; rw [HNS.out] at HS))
                    refine bodyPost_ret (res3 rfl (resTmp _ _ _) (resTmp _ _ _) (resTmp _ _ _)) rfl ⟨_, rfl, (by first | exact HS.tail.ownNil _ _ | exact HS.tail.tail.ownNil _ _ | exact HS.tail.tail.tail.ownNil _ _)⟩
                · intro K HK
                  ((with_reducible apply sAlloc HS); infer_instance; (first | exact cells_agg _ | exact cells_one rfl); rfl; intro Bx w' H1; clear HS; have HS := H1; clear H1)
                  (try simp only [Act.put, List.setIfInBounds_toArray, List.set_cons_zero, List.set_cons_succ])
                  refine wpList_nil (then_normal (HK.out _ _ ⟨.inr (HS.hd (by (repeat (first | exact subNil | (refine subCons ?_ ?_; (repeat (first | exact List.Mem.head _ | apply List.Mem.tail))))))), ?_⟩))
                  clear HK K
                  with_reducible apply wpSch_e_k
                  (simp only [List.getElem?_toArray, List.getElem?_cons_zero, List.getElem?_cons_succ]; rfl)
                  intro K HK
                  go_wp2_with (go_at_call 49; (with_reducible refine (HAX.out _).mono ?_); rintro e w' ⟨rfl, H1⟩; replace HS := HS.fresh H1; clear H1)
                  refine HK.out _ _ ⟨.inr (HS.hd (by (repeat (first | exact subNil | (refine subCons ?_ ?_; (repeat (first | exact List.Mem.head _ | apply List.Mem.tail))))))), ?_⟩
                  clear HK K
                  with_reducible apply wpSch_e_k
                  (simp only [List.getElem?_toArray, List.getElem?_cons_zero, List.getElem?_cons_succ]; rfl)
                  intro K HK
                  go_wp2_with (go_at_call 49; (with_reducible refine (HAF.out _).mono ?_); rintro e w' ⟨rfl, H1⟩; replace HS := HS.fresh H1; clear H1)
                  refine HK.out _ _ ⟨.inr (HS.hd (by (repeat (first | exact subNil | (refine subCons ?_ ?_; (repeat (first | exact List.Mem.head _ | apply List.Mem.tail))))))), ?_⟩
                  clear HK K
                  repeat (first | ((with_reducible apply cLoadB); (simp only [List.getElem?_toArray, List.getElem?_cons_zero, List.getElem?_cons_succ]; rfl); infer_instance; rfl; rfl; (repeat (first | exact List.Mem.head _ | apply List.Mem.tail)); with_reducible exact hz.out; (try simp only [Act.put, List.setIfInBounds_toArray, List.set_cons_zero, List.set_cons_succ])) | ((with_reducible apply wpSch_nilCheck); (simp only [List.getElem?_toArray, List.getElem?_cons_zero, List.getElem?_cons_succ]; rfl); rfl; rfl; (try simp only [Act.put, List.setIfInBounds_toArray, List.set_cons_zero, List.set_cons_succ])) | ((with_reducible apply wpSch_plain); (simp only [List.getElem?_toArray, List.getElem?_cons_zero, List.getElem?_cons_succ]; rfl); rfl; rfl; (intro K hK; go_big_quiet_op; go_big_quiet_on)) | ((with_reducible apply wpSch_skip); (simp only [List.getElem?_toArray, List.getElem?_cons_zero, List.getElem?_cons_succ]; rfl); rfl; (try simp only [Act.put, List.setIfInBounds_toArray, List.set_cons_zero, List.set_cons_succ])))
                  with_reducible apply wpSch_e_k
                  (simp only [List.getElem?_toArray, List.getElem?_cons_zero, List.getElem?_cons_succ]; rfl)
                  intro K HK
                  ((with_reducible apply sStoreB HS); infer_instance; rfl; rfl; (conv => (lhs; whnf)); (repeat (first | exact Rep.here | apply Rep.there)); rfl; rfl; (intro u hu; simp at hu; rcases hu with rfl | rfl <;> rfl); intro w' H1; clear HS; have HS := H1; clear H1)
                  (try simp only [Act.put])
                  refine wpList_nil (then_normal (HK.out _ _ ⟨.inl rfl, ?_⟩))
                  clear HK K
                  refine wpSch_nil ?_
                  go_wp2
                  (try simp only [Act.put])
                  refine wp_region_quietF (by kernel_rfl) (by kernel_rfl) ?_
                  repeat (first | go_big_quiet_skip | (((with_reducible apply qLoadB HS); infer_instance; rfl; rfl; (repeat (first | exact List.Mem.head _ | apply List.Mem.tail)); with_reducible exact hz.out); (try simp only [Act.put, List.setIfInBounds_toArray, List.set_cons_zero, List.set_cons_succ])) | (((with_reducible apply qLoad1 HS); infer_instance; rfl; rfl; (repeat (first | exact List.Mem.head _ | apply List.Mem.tail)); rfl); (try simp only [Act.put, List.setIfInBounds_toArray, List.set_cons_zero, List.set_cons_succ])) | (((with_reducible apply qLoadO1 HS); infer_instance; rfl; rfl; (repeat (first | exact List.Mem.head _ | apply List.Mem.tail)); exact hv0.out); (try simp only [Act.put, List.setIfInBounds_toArray, List.set_cons_zero, List.set_cons_succ])) | (go_big_quiet_want; go_big_quiet_op; first | go_big_quiet_on | (refine ⟨_, fun _ _ => rfl, ?_⟩; go_big_quiet_on) | (apply Exists.intro; refine ⟨fun wc hfr => ?_, ?_⟩; (· (go_at_call 49; exact fr_call hfr (HAF.out _))); go_big_quiet_on)))
                  refine wpQuiet_nil ?_
                  intro w1 hm1
                  replace HS := HS.fresh hm1
                  clear hm1
                  go_wp2_with (first | ((with_reducible apply sLoadB HS); infer_instance; rfl; rfl; (repeat (first | exact List.Mem.head _ | apply List.Mem.tail)); rfl) | (at_builtin; (have H2 := HS.alloc #[.int .u32 x, .bool (f == 1)] 55); (with_reducible apply sAppend H2 Try.underlying25 infoTag rfl (by decide)); (conv => (lhs; whnf)); (intro v'; (repeat (first | exact Rep.here | apply Rep.there))); rfl; rotate_left; exact H2.newsAll (.head _); rotate_right; rfl; (intro u hu; simp at hu; rcases hu with rfl | rfl <;> rfl); decide; omega; intro v1 w9 H1 hnil; clear HS H2; have HS := H1.tail; clear H1 hnil; rw [HNS.out] at HS))
                  refine bodyPost_ret (res3 rfl (resTmp _ _ _) (resTmp _ _ _) (resTmp _ _ _)) rfl ⟨_, rfl, (by first | exact HS.tail.ownNil _ _ | exact HS.tail.tail.ownNil _ _ | exact HS.tail.tail.tail.ownNil _ _)⟩
            · have hfd : decide ((1 : Int) < f) = true := decide_eq_true (by omega)
              have hfI : (1 : Int) < f := by omega
              have hrn : r = none := by rw [HR2.out, if_neg (fun h => HFK.out hf1 h.1)]
              subst hrn
              go_wp2
              (try simp only [Act.put])
              refine wp_region_sch (.q 0 (.q 1 (.q 2 (.q 3 (.q 5 (.q 6 (.q 7 (.q 8 (.two 4 (.two 9 (.q 10 (.q 11 (.e 12 (.e 13 (.nil))))) 12 (.e 9 (.q 10 (.q 11 (.e 13 (.nil)))))) 12 (.e 4 (.e 9 (.q 10 (.q 11 (.e 13 (.nil))))))))))))))) (Hd [.blk true B1 (encB bs) 28]) (by kernel_rfl) (by kernel_rfl) (fun _ _ d _ _ h => by cases d <;> exact h) ?_
              intro w1 hm1
              replace HS := HS.fresh hm1
              clear hm1
              refine ⟨HS.hd (by (repeat (first | exact subNil | (refine subCons ?_ ?_; (repeat (first | exact List.Mem.head _ | apply List.Mem.tail)))))), ?_⟩
              repeat (first | ((with_reducible apply cLoadB); (simp only [List.getElem?_toArray, List.getElem?_cons_zero, List.getElem?_cons_succ]; rfl); infer_instance; rfl; rfl; (repeat (first | exact List.Mem.head _ | apply List.Mem.tail)); with_reducible exact hz.out; (try simp only [Act.put, List.setIfInBounds_toArray, List.set_cons_zero, List.set_cons_succ])) | ((with_reducible apply wpSch_nilCheck); (simp only [List.getElem?_toArray, List.getElem?_cons_zero, List.getElem?_cons_succ]; rfl); rfl; rfl; (try simp only [Act.put, List.setIfInBounds_toArray, List.set_cons_zero, List.set_cons_succ])) | ((with_reducible apply wpSch_plain); (simp only [List.getElem?_toArray, List.getElem?_cons_zero, List.getElem?_cons_succ]; rfl); rfl; rfl; (intro K hK; go_big_quiet_op; go_big_quiet_on)) | ((with_reducible apply wpSch_skip); (simp only [List.getElem?_toArray, List.getElem?_cons_zero, List.getElem?_cons_succ]; rfl); rfl; (try simp only [Act.put, List.setIfInBounds_toArray, List.set_cons_zero, List.set_cons_succ])))
              with_reducible apply wpSch_two_k
              (simp only [List.getElem?_toArray, List.getElem?_cons_zero, List.getElem?_cons_succ]; rfl)
              (simp only [List.getElem?_toArray, List.getElem?_cons_zero, List.getElem?_cons_succ]; rfl)
              · intro K HK
                go_wp2_with (go_at_call 49; (with_reducible refine (HAX.out _).mono ?_); rintro e w' ⟨rfl, H1⟩; replace HS := HS.fresh H1; clear H1)
                refine HK.out _ _ ⟨.inr (HS.hd (by (repeat (first | exact subNil | (refine subCons ?_ ?_; (repeat (first | exact List.Mem.head _ | apply List.Mem.tail))))))), ?_⟩
                clear HK K
                with_reducible apply wpSch_two_k
                (simp only [List.getElem?_toArray, List.getElem?_cons_zero, List.getElem?_cons_succ]; rfl)
                (simp only [List.getElem?_toArray, List.getElem?_cons_zero, List.getElem?_cons_succ]; rfl)
                · intro K HK
                  go_wp2_with (go_at_call 49; (with_reducible refine (HAF.out _).mono ?_); rintro e w' ⟨rfl, H1⟩; replace HS := HS.fresh H1; clear H1)
                  refine HK.out _ _ ⟨.inr (HS.hd (by (repeat (first | exact subNil | (refine subCons ?_ ?_; (repeat (first | exact List.Mem.head _ | apply List.Mem.tail))))))), ?_⟩
                  clear HK K
                  repeat (first | ((with_reducible apply cLoadB); (simp only [List.getElem?_toArray, List.getElem?_cons_zero, List.getElem?_cons_succ]; rfl); infer_instance; rfl; rfl; (repeat (first | exact List.Mem.head _ | apply List.Mem.tail)); with_reducible exact hz.out; (try simp only [Act.put, List.setIfInBounds_toArray, List.set_cons_zero, List.set_cons_succ])) | ((with_reducible apply wpSch_nilCheck); (simp only [List.getElem?_toArray, List.getElem?_cons_zero, List.getElem?_cons_succ]; rfl); rfl; rfl; (try simp only [Act.put, List.setIfInBounds_toArray, List.set_cons_zero, List.set_cons_succ])) | ((with_reducible apply wpSch_plain); (simp only [List.getElem?_toArray, List.getElem?_cons_zero, List.getElem?_cons_succ]; rfl); rfl; rfl; (intro K hK; go_big_quiet_op; go_big_quiet_on)) | ((with_reducible apply wpSch_skip); (simp only [List.getElem?_toArray, List.getElem?_cons_zero, List.getElem?_cons_succ]; rfl); rfl; (try simp only [Act.put, List.setIfInBounds_toArray, List.set_cons_zero, List.set_cons_succ])))
                  with_reducible apply wpSch_e_k
                  (simp only [List.getElem?_toArray, List.getElem?_cons_zero, List.getElem?_cons_succ]; rfl)
                  intro K HK
                  ((with_reducible apply sAlloc HS); infer_instance; (first | exact cells_agg _ | exact cells_one rfl); rfl; intro Bx w' H1; clear HS; have HS := H1; clear H1)
                  (try simp only [Act.put, List.setIfInBounds_toArray, List.set_cons_zero, List.set_cons_succ])
                  refine wpList_nil (then_normal (HK.out _ _ ⟨.inr (HS.hd (by (repeat (first | exact subNil | (refine subCons ?_ ?_; (repeat (first | exact List.Mem.head _ | apply List.Mem.tail))))))), ?_⟩))
                  clear HK K
                  with_reducible apply wpSch_e_k
                  (simp only [List.getElem?_toArray, List.getElem?_cons_zero, List.getElem?_cons_succ]; rfl)
                  intro K HK
                  ((with_reducible apply sStoreB HS); infer_instance; rfl; rfl; (conv => (lhs; whnf)); (repeat (first | exact Rep.here | apply Rep.there)); rfl; rfl; (intro u hu; simp at hu; rcases hu with rfl | rfl <;> rfl); intro w' H1; clear HS; have HS := H1; clear H1)
                  (try simp only [Act.put])
                  refine wpList_nil (then_normal (HK.out _ _ ⟨.inl rfl, ?_⟩))
                  clear HK K
                  refine wpSch_nil ?_
                  go_wp2
                  (try simp only [Act.put])
                  refine wp_region_quietF (by kernel_rfl) (by kernel_rfl) ?_
                  repeat (first | go_big_quiet_skip | (((with_reducible apply qLoadB HS); infer_instance; rfl; rfl; (repeat (first | exact List.Mem.head _ | apply List.Mem.tail)); with_reducible exact hz.out); (try simp only [Act.put, List.setIfInBounds_toArray, List.set_cons_zero, List.set_cons_succ])) | (((with_reducible apply qLoad1 HS); infer_instance; rfl; rfl; (repeat (first | exact List.Mem.head _ | apply List.Mem.tail)); rfl); (try simp only [Act.put, List.setIfInBounds_toArray, List.set_cons_zero, List.set_cons_succ])) | (((with_reducible apply qLoadO1 HS); infer_instance; rfl; rfl; (repeat (first | exact List.Mem.head _ | apply List.Mem.tail)); exact hv0.out); (try simp only [Act.put, List.setIfInBounds_toArray, List.set_cons_zero, List.set_cons_succ])) | (go_big_quiet_want; go_big_quiet_op; first | go_big_quiet_on | (refine ⟨_, fun _ _ => rfl, ?_⟩; go_big_quiet_on) | (apply Exists.intro; refine ⟨fun wc hfr => ?_, ?_⟩; (· (go_at_call 49; exact fr_call hfr (HAF.out _))); go_big_quiet_on)))
                  refine wpQuiet_nil ?_
                  intro w1 hm1
                  replace HS := HS.fresh hm1
                  clear hm1
                  go_wp2_with (first | ((with_reducible apply sLoadB HS); infer_instance; rfl; rfl; (repeat (first | exact List.Mem.head _ | apply List.Mem.tail)); rfl) | (at_builtin; (have H2 := HS.alloc #[.int .u32 x, .bool (f == 1)] 55); (with_reducible apply sAppend H2 Try.underlying25 infoTag rfl (by decide)); (conv => (lhs; whnf)); (intro v'; (repeat (first | exact Rep.here | apply Rep.there))); rfl; rotate_left; exact H2.newsAll (.head _); rotate_right; rfl; (intro u hu; simp at hu; rcases hu with rfl | rfl <;> rfl); decide; omega; intro v1 w9 H1 hnil; clear HS H2; have HS := H1.tail; clear H1 hnil; rw [HNS.out] at HS))
                  refine bodyPost_ret (res3 rfl (resTmp _ _ _) (resTmp _ _ _) (resTmp _ _ _)) rfl ⟨_, rfl, (by first | exact HS.tail.ownNil _ _ | exact HS.tail.tail.ownNil _ _ | exact HS.tail.tail.tail.ownNil _ _)⟩
                · intro K HK
                  ((with_reducible apply sAlloc HS); infer_instance; (first | exact cells_agg _ | exact cells_one rfl); rfl; intro Bx w' H1; clear HS; have HS := H1; clear H1)
                  (try simp only [Act.put, List.setIfInBounds_toArray, List.set_cons_zero, List.set_cons_succ])
                  refine wpList_nil (then_normal (HK.out _ _ ⟨.inr (HS.hd (by (repeat (first | exact subNil | (refine subCons ?_ ?_; (repeat (first | exact List.Mem.head _ | apply List.Mem.tail))))))), ?_⟩))
                  clear HK K
                  with_reducible apply wpSch_e_k
                  (simp only [List.getElem?_toArray, List.getElem?_cons_zero, List.getElem?_cons_succ]; rfl)
                  intro K HK
                  go_wp2_with (go_at_call 49; (with_reducible refine (HAF.out _).mono ?_); rintro e w' ⟨rfl, H1⟩; replace HS := HS.fresh H1; clear H1)
                  refine HK.out _ _ ⟨.inr (HS.hd (by (repeat (first | exact subNil | (refine subCons ?_ ?_; (repeat (first | exact List.Mem.head _ | apply List.Mem.tail))))))), ?_⟩
                  clear HK K
                  repeat (first | ((with_reducible apply cLoadB); (simp only [List.getElem?_toArray, List.getElem?_cons_zero, List.getElem?_cons_succ]; rfl); infer_instance; rfl; rfl; (repeat (first | exact List.Mem.head _ | apply List.Mem.tail)); with_reducible exact hz.out; (try simp only [Act.put, List.setIfInBounds_toArray, List.set_cons_zero, List.set_cons_succ])) | ((with_reducible apply wpSch_nilCheck); (simp only [List.getElem?_toArray, List.getElem?_cons_zero, List.getElem?_cons_succ]; rfl); rfl; rfl; (try simp only [Act.put, List.setIfInBounds_toArray, List.set_cons_zero, List.set_cons_succ])) | ((with_reducible apply wpSch_plain); (simp only [List.getElem?_toArray, List.getElem?_cons_zero, List.getElem?_cons_succ]; rfl); rfl; rfl; (intro K hK; go_big_quiet_op; go_big_quiet_on)) | ((with_reducible apply wpSch_skip); (simp only [List.getElem?_toArray, List.getElem?_cons_zero, List.getElem?_cons_succ]; rfl); rfl; (try simp only [Act.put, List.setIfInBounds_toArray, List.set_cons_zero, List.set_cons_succ])))
                  with_reducible apply wpSch_e_k
                  (simp only [List.getElem?_toArray, List.getElem?_cons_zero, List.getElem?_cons_succ]; rfl)
                  intro K HK
                  ((with_reducible apply sStoreB HS); infer_instance; rfl; rfl; (conv => (lhs; whnf)); (repeat (first | exact Rep.here | apply Rep.there)); rfl; rfl; (intro u hu; simp at hu; rcases hu with rfl | rfl <;> rfl); intro w' H1; clear HS; have HS := H1; clear H1)
                  (try simp only [Act.put])
                  refine wpList_nil (then_normal (HK.out _ _ ⟨.inl rfl, ?_⟩))
                  clear HK K
                  refine wpSch_nil ?_
                  go_wp2
                  (try simp only [Act.put])
                  refine wp_region_quietF (by kernel_rfl) (by kernel_rfl) ?_
                  repeat (first | go_big_quiet_skip | (((with_reducible apply qLoadB HS); infer_instance; rfl; rfl; (repeat (first | exact List.Mem.head _ | apply List.Mem.tail)); with_reducible exact hz.out); (try simp only [Act.put, List.setIfInBounds_toArray, List.set_cons_zero, List.set_cons_succ])) | (((with_reducible apply qLoad1 HS); infer_instance; rfl; rfl; (repeat (first | exact List.Mem.head _ | apply List.Mem.tail)); rfl); (try simp only [Act.put, List.setIfInBounds_toArray, List.set_cons_zero, List.set_cons_succ])) | (((with_reducible apply qLoadO1 HS); infer_instance; rfl; rfl; (repeat (first | exact List.Mem.head _ | apply List.Mem.tail)); exact hv0.out); (try simp only [Act.put, List.setIfInBounds_toArray, List.set_cons_zero, List.set_cons_succ])) | (go_big_quiet_want; go_big_quiet_op; first | go_big_quiet_on | (refine ⟨_, fun _ _ => rfl, ?_⟩; go_big_quiet_on) | (apply Exists.intro; refine ⟨fun wc hfr => ?_, ?_⟩; (· (go_at_call 49; exact fr_call hfr (HAF.out _))); go_big_quiet_on)))
                  refine wpQuiet_nil ?_
                  intro w1 hm1
                  replace HS := HS.fresh hm1
                  clear hm1
                  go_wp2_with (first | ((with_reducible apply sLoadB HS); infer_instance; rfl; rfl; (repeat (first | exact List.Mem.head _ | apply List.Mem.tail)); rfl) | (at_builtin; (have H2 := HS.alloc #[.int .u32 x, .bool (f == 1)] 55); (with_reducible apply sAppend H2 Try.underlying25 infoTag rfl (by decide)); (conv => (lhs; whnf)); (intro v'; (repeat (first | exact Rep.here | apply Rep.there))); rfl; rotate_left; exact H2.newsAll (.head _); rotate_right; rfl; (intro u hu; simp at hu; rcases hu with rfl | rfl <;> rfl); decide; omega; intro v1 w9 H1 hnil; clear HS H2; have HS := H1.tail; clear H1 hnil; rw [HNS.out] at HS))
                  refine bodyPost_ret (res3 rfl (resTmp _ _ _) (resTmp _ _ _) (resTmp _ _ _)) rfl ⟨_, rfl, (by first | exact HS.tail.ownNil _ _ | exact HS.tail.tail.ownNil _ _ | exact HS.tail.tail.tail.ownNil _ _)⟩
              · intro K HK
                ((with_reducible apply sAlloc HS); infer_instance; (first | exact cells_agg _ | exact cells_one rfl); rfl; intro Bx w' H1; clear HS; have HS := H1; clear H1)
                (try simp only [Act.put, List.setIfInBounds_toArray, List.set_cons_zero, List.set_cons_succ])
                refine wpList_nil (then_normal (HK.out _ _ ⟨.inr (HS.hd (by (repeat (first | exact subNil | (refine subCons ?_ ?_; (repeat (first | exact List.Mem.head _ | apply List.Mem.tail))))))), ?_⟩))
                clear HK K
                with_reducible apply wpSch_e_k
                (simp only [List.getElem?_toArray, List.getElem?_cons_zero, List.getElem?_cons_succ]; rfl)
                intro K HK
                go_wp2_with (go_at_call 49; (with_reducible refine (HAX.out _).mono ?_); rintro e w' ⟨rfl, H1⟩; replace HS := HS.fresh H1; clear H1)
                refine HK.out _ _ ⟨.inr (HS.hd (by (repeat (first | exact subNil | (refine subCons ?_ ?_; (repeat (first | exact List.Mem.head _ | apply List.Mem.tail))))))), ?_⟩
                clear HK K
                with_reducible apply wpSch_e_k
                (simp only [List.getElem?_toArray, List.getElem?_cons_zero, List.getElem?_cons_succ]; rfl)
                intro K HK
                go_wp2_with (go_at_call 49; (with_reducible refine (HAF.out _).mono ?_); rintro e w' ⟨rfl, H1⟩; replace HS := HS.fresh H1; clear H1)
                refine HK.out _ _ ⟨.inr (HS.hd (by (repeat (first | exact subNil | (refine subCons ?_ ?_; (repeat (first | exact List.Mem.head _ | apply List.Mem.tail))))))), ?_⟩
                clear HK K
                repeat (first | ((with_reducible apply cLoadB); (simp only [List.getElem?_toArray, List.getElem?_cons_zero, List.getElem?_cons_succ]; rfl); infer_instance; rfl; rfl; (repeat (first | exact List.Mem.head _ | apply List.Mem.tail)); with_reducible exact hz.out; (try simp only [Act.put, List.setIfInBounds_toArray, List.set_cons_zero, List.set_cons_succ])) | ((with_reducible apply wpSch_nilCheck); (simp only [List.getElem?_toArray, List.getElem?_cons_zero, List.getElem?_cons_succ]; rfl); rfl; rfl; (try simp only [Act.put, List.setIfInBounds_toArray, List.set_cons_zero, List.set_cons_succ])) | ((with_reducible apply wpSch_plain); (simp only [List.getElem?_toArray, List.getElem?_cons_zero, List.getElem?_cons_succ]; rfl); rfl; rfl; (intro K hK; go_big_quiet_op; go_big_quiet_on)) | ((with_reducible apply wpSch_skip); (simp only [List.getElem?_toArray, List.getElem?_cons_zero, List.getElem?_cons_succ]; rfl); rfl; (try simp only [Act.put, List.setIfInBounds_toArray, List.set_cons_zero, List.set_cons_succ])))
                with_reducible apply wpSch_e_k
                (simp only [List.getElem?_toArray, List.getElem?_cons_zero, List.getElem?_cons_succ]; rfl)
                intro K HK
                ((with_reducible apply sStoreB HS); infer_instance; rfl; rfl; (conv => (lhs; whnf)); (repeat (first | exact Rep.here | apply Rep.there)); rfl; rfl; (intro u hu; simp at hu; rcases hu with rfl | rfl <;> rfl); intro w' H1; clear HS; have HS := H1; clear H1)
                (try simp only [Act.put])
                refine wpList_nil (then_normal (HK.out _ _ ⟨.inl rfl, ?_⟩))
                clear HK K
                refine wpSch_nil ?_
                go_wp2
                (try simp only [Act.put])
                refine wp_region_quietF (by kernel_rfl) (by kernel_rfl) ?_
                repeat (first | go_big_quiet_skip | (((with_reducible apply qLoadB HS); infer_instance; rfl; rfl; (repeat (first | exact List.Mem.head _ | apply List.Mem.tail)); with_reducible exact hz.out); (try simp only [Act.put, List.setIfInBounds_toArray, List.set_cons_zero, List.set_cons_succ])) | (((with_reducible apply qLoad1 HS); infer_instance; rfl; rfl; (repeat (first | exact List.Mem.head _ | apply List.Mem.tail)); rfl); (try simp only [Act.put, List.setIfInBounds_toArray, List.set_cons_zero, List.set_cons_succ])) | (((with_reducible apply qLoadO1 HS); infer_instance; rfl; rfl; (repeat (first | exact List.Mem.head _ | apply List.Mem.tail)); exact hv0.out); (try simp only [Act.put, List.setIfInBounds_toArray, List.set_cons_zero, List.set_cons_succ])) | (go_big_quiet_want; go_big_quiet_op; first | go_big_quiet_on | (refine ⟨_, fun _ _ => rfl, ?_⟩; go_big_quiet_on) | (apply Exists.intro; refine ⟨fun wc hfr => ?_, ?_⟩; (· (go_at_call 49; exact fr_call hfr (HAF.out _))); go_big_quiet_on)))
                refine wpQuiet_nil ?_
                intro w1 hm1
                replace HS := HS.fresh hm1
                clear hm1
                go_wp2_with (first | ((with_reducible apply sLoadB HS); infer_instance; rfl; rfl; (repeat (first | exact List.Mem.head _ | apply List.Mem.tail)); rfl) | (at_builtin; (have H2 := HS.alloc #[.int .u32 x, .bool (f == 1)] 55); (with_reducible apply sAppend H2 Try.underlying25 infoTag rfl (by decide)); (conv => (lhs; whnf)); (intro v'; (repeat (first | exact Rep.here | apply Rep.there))); rfl; rotate_left; exact H2.newsAll (.head _); rotate_right; rfl; (intro u hu; simp at hu; rcases hu with rfl | rfl <;> rfl); decide; omega; intro v1 w9 H1 hnil; clear HS H2; have HS := H1.tail; clear H1 hnil; rw [HNS.out] at HS))
                refine bodyPost_ret (res3 rfl (resTmp _ _ _) (resTmp _ _ _) (resTmp _ _ _)) rfl ⟨_, rfl, (by first | exact HS.tail.ownNil _ _ | exact HS.tail.tail.ownNil _ _ | exact HS.tail.tail.tail.ownNil _ _)⟩
        · obtain rfl : k = n := by omega
          have hltI : decide ((k : Int) < (k : Int)) = false := decide_eq_false (by omega)
          have hrise : risesT (tagsOf bs k) = true := (riseTt_all _).1 (by rw [tagsOf_len]; exact HRI.out)
          have hrn : r = some (v8, tagsOf bs k) := by rw [HR2.out, if_pos ⟨HFL.out, hrise⟩]
          subst hrn
          have HLK : Hid ((tagsOf bs k).length = k) := tagsOf_len bs k
          clear hrise HR2
          go_wp2_with (first | ((with_reducible apply sBox HS); rfl; (conv => (lhs; whnf)); (first | exact cells_agg _ | exact cells_one rfl); intro B1 w' H1; clear HS; have HS := H1; clear H1) | ((with_reducible apply sLoadB HS); infer_instance; rfl; rfl; (repeat (first | exact List.Mem.head _ | apply List.Mem.tail)); with_reducible exact hz.out) | (go_at_call 48; refine (HBG.out _).mono ?_; rintro e w' ⟨rfl, H1⟩; replace HS := HS.fresh H1; clear H1) | (go_at_call 49; (with_reducible refine (A12.out _).mono ?_); rintro e w' ⟨rfl, H1⟩; replace HS := HS.fresh H1; clear H1) | (go_at_call 49; (with_reducible refine (A8.out _).mono ?_); rintro e w' ⟨rfl, H1⟩; replace HS := HS.fresh H1; clear H1) | (go_at_call 50; (with_reducible refine (HZ.out _ _ ?_).mono ?_); exact (HS.blk (by (repeat (first | exact List.Mem.head _ | apply List.Mem.tail)))); rintro e w' ⟨rfl, rfl⟩) | (go_at_call 50; (with_reducible refine (HZ0.out _ _ ?_).mono ?_); exact (HS.blk (by (repeat (first | exact List.Mem.head _ | apply List.Mem.tail)))); rintro e w' ⟨rfl, rfl⟩))
          refine bodyPost_ret (res3 rfl (resTmp _ _ _) (resTmp _ _ _) (resTmp _ _ _)) rfl ⟨_, rfl, ?_⟩
          show St S w0 _ (.own _ 55 2 (tagsOf bs k).length (encTl (tagsOf bs k)) :: L)
          rw [HLK.out]
          exact HS.swap.tail
  · have heq : 256 = 16 + 8 * n := by omega
    have hzz : allZ bs (16 + 8 * n) (256 - (16 + 8 * n)) = true := by rw [← heq]; rfl
    rw [hzz] at HRR
    have HR2 : Hid (r = if (∀ i, i < n → get32 bs (20 + 8 * i) ≤ 1) ∧ risesT (tagsOf bs n) = true then some (v8, tagsOf bs n) else none) := by
      show _ = _
      rw [HRR.out]
      by_cases hx : (∀ i, i < n → get32 bs (20 + 8 * i) ≤ 1) ∧ risesT (tagsOf bs n) = true
      · rw [if_pos ⟨rfl, by omega, by omega, rfl, hx⟩, if_pos hx]
      · rw [if_neg (fun h => hx h.2.2.2.2), if_neg hx]
    clear HRR hb hzz HZ
    go_enter Try.func31, Try.ntmps31
    go_wp2_with (first | ((with_reducible apply sBox HS); rfl; (conv => (lhs; whnf)); (first | exact cells_agg _ | exact cells_one rfl); intro B1 w' H1; clear HS; have HS := H1; clear H1) | ((with_reducible apply sLoadB HS); infer_instance; rfl; rfl; (repeat (first | exact List.Mem.head _ | apply List.Mem.tail)); with_reducible exact hz.out) | (go_at_call 48; refine (HBG.out _).mono ?_; rintro e w' ⟨rfl, H1⟩; replace HS := HS.fresh H1; clear H1) | (go_at_call 49; (with_reducible refine (A12.out _).mono ?_); rintro e w' ⟨rfl, H1⟩; replace HS := HS.fresh H1; clear H1) | (go_at_call 49; (with_reducible refine (A8.out _).mono ?_); rintro e w' ⟨rfl, H1⟩; replace HS := HS.fresh H1; clear H1) | (go_at_call 50; (with_reducible refine (HZ.out _ _ ?_).mono ?_); exact (HS.blk (by (repeat (first | exact List.Mem.head _ | apply List.Mem.tail)))); rintro e w' ⟨rfl, rfl⟩) | (go_at_call 50; (with_reducible refine (HZ0.out _ _ ?_).mono ?_); exact (HS.blk (by (repeat (first | exact List.Mem.head _ | apply List.Mem.tail)))); rintro e w' ⟨rfl, rfl⟩))
    replace HS := HS.ownNil 55 2
    go_loopw [6, 7] (fun ov iv wr => ∃ k : Nat, k ≤ n ∧ iv = .int .i64 (k : Int) ∧ Hid (riseTt (tagsOf bs n) k) ∧ Hid (∀ i, i < k → get32 bs (20 + 8 * i) ≤ 1) ∧ St S w0 wr (.own ov 55 2 k (encTl (tagsOf bs k)) :: .blk true B1 (encB bs) 28 :: L)) (fun _ iv _ => n - (intOf iv).toNat)
    case atStart => exact ⟨0, Nat.zero_le _, rfl, (fun i hi => by omega), (fun i hi => by omega), HS⟩
    case round =>
      obtain ⟨k, hk, rfl, HRI, HFL, HS⟩ := hrel
      obtain ⟨oa, oc, rfl⟩ := own_slice (HS.own (.head _))
      by_cases hlt : k < n
      · have hltI : decide ((k : Int) < (n : Int)) = true := decide_eq_true (by omega)
        have HNS : Hid (encTl (tagsOf bs k) ++ (#[Value.int .u32 (get32 bs (16 + 8 * k)), .bool (get32 bs (20 + 8 * k) == 1)] : Array Value).toList = encTl (tagsOf bs (k + 1))) := by show _ = _; rw [encTl_snoc, tagsOf_succ, tagAt_eq]
        have HGK : Hid (((tagsOf bs n).getD k (0, false)).1 = get32 bs (16 + 8 * k)) := by show _ = _; rw [tagsOf_get bs n k hlt]; rfl
        have HFK := Lib.hid (fun (h : ¬ get32 bs (20 + 8 * k) ≤ 1) (g : ∀ i, i < n → get32 bs (20 + 8 * i) ≤ 1) => h (g k hlt))
        have HFS := Lib.hid (fun (h : get32 bs (20 + 8 * k) ≤ 1) (i : Nat) (hi : i < k + 1) => (if e : i = k then (by rw [e]; exact h) else HFL.out i (by omega) : get32 bs (20 + 8 * i) ≤ 1))
        obtain ⟨x, hx⟩ : ∃ x, get32 bs (16 + 8 * k) = x := ⟨_, rfl⟩
        obtain ⟨f, hf⟩ : ∃ x, get32 bs (20 + 8 * k) = x := ⟨_, rfl⟩
        rw [hx] at HNS HGK
        rw [hf] at HNS HFK HFS
        have hfb := (get32_bd bs (20 + 8 * k)).1
        rw [hf] at hfb
        have HX := Lib.hid hx
        have HF := Lib.hid hf
        clear hx hf
        rcases k with _ | k
        · have HAX := Lib.hid (fun W => HAT.out W 16 16 rfl (by decide))
          have HAF := Lib.hid (fun W => HAT.out W 20 20 rfl (by decide))
          rw [show get32 bs 16 = x from HX.out] at HAX
          rw [show get32 bs 20 = f from HF.out] at HAF
          by_cases hf1 : f ≤ 1
          · have hfd : decide ((1 : Int) < f) = false := decide_eq_false (by omega)
            have hfI : ¬ (1 : Int) < f := by omega
            go_wp2
            (try simp only [Act.put])
            refine wp_region_sch (.q 0 (.q 1 (.q 2 (.q 3 (.q 5 (.q 6 (.q 7 (.q 8 (.two 4 (.two 9 (.q 10 (.q 11 (.e 12 (.e 13 (.nil))))) 12 (.e 9 (.q 10 (.q 11 (.e 13 (.nil)))))) 12 (.e 4 (.e 9 (.q 10 (.q 11 (.e 13 (.nil))))))))))))))) (Hd [.blk true B1 (encB bs) 28]) (by kernel_rfl) (by kernel_rfl) (fun _ _ d _ _ h => by cases d <;> exact h) ?_
            intro w1 hm1
            replace HS := HS.fresh hm1
            clear hm1
            refine ⟨HS.hd (by (repeat (first | exact subNil | (refine subCons ?_ ?_; (repeat (first | exact List.Mem.head _ | apply List.Mem.tail)))))), ?_⟩
            repeat (first | ((with_reducible apply cLoadB); (simp only [List.getElem?_toArray, List.getElem?_cons_zero, List.getElem?_cons_succ]; rfl); infer_instance; rfl; rfl; (repeat (first | exact List.Mem.head _ | apply List.Mem.tail)); with_reducible exact hz.out; (try simp only [Act.put, List.setIfInBounds_toArray, List.set_cons_zero, List.set_cons_succ])) | ((with_reducible apply wpSch_nilCheck); (simp only [List.getElem?_toArray, List.getElem?_cons_zero, List.getElem?_cons_succ]; rfl); rfl; rfl; (try simp only [Act.put, List.setIfInBounds_toArray, List.set_cons_zero, List.set_cons_succ])) | ((with_reducible apply wpSch_plain); (simp only [List.getElem?_toArray, List.getElem?_cons_zero, List.getElem?_cons_succ]; rfl); rfl; rfl; (intro K hK; go_big_quiet_op; go_big_quiet_on)) | ((with_reducible apply wpSch_skip); (simp only [List.getElem?_toArray, List.getElem?_cons_zero, List.getElem?_cons_succ]; rfl); rfl; (try simp only [Act.put, List.setIfInBounds_toArray, List.set_cons_zero, List.set_cons_succ])))
            with_reducible apply wpSch_two_k
            (simp only [List.getElem?_toArray, List.getElem?_cons_zero, List.getElem?_cons_succ]; rfl)
            (simp only [List.getElem?_toArray, List.getElem?_cons_zero, List.getElem?_cons_succ]; rfl)
            · intro K HK
              go_wp2_with (go_at_call 49; (with_reducible refine (HAX.out _).mono ?_); rintro e w' ⟨rfl, H1⟩; replace HS := HS.fresh H1; clear H1)
              refine HK.out _ _ ⟨.inr (HS.hd (by (repeat (first | exact subNil | (refine subCons ?_ ?_; (repeat (first | exact List.Mem.head _ | apply List.Mem.tail))))))), ?_⟩
              clear HK K
              with_reducible apply wpSch_two_k
              (simp only [List.getElem?_toArray, List.getElem?_cons_zero, List.getElem?_cons_succ]; rfl)
              (simp only [List.getElem?_toArray, List.getElem?_cons_zero, List.getElem?_cons_succ]; rfl)
              · intro K HK
                go_wp2_with (go_at_call 49; (with_reducible refine (HAF.out _).mono ?_); rintro e w' ⟨rfl, H1⟩; replace HS := HS.fresh H1; clear H1)
                refine HK.out _ _ ⟨.inr (HS.hd (by (repeat (first | exact subNil | (refine subCons ?_ ?_; (repeat (first | exact List.Mem.head _ | apply List.Mem.tail))))))), ?_⟩
                clear HK K
                repeat (first | ((with_reducible apply cLoadB); (simp only [List.getElem?_toArray, List.getElem?_cons_zero, List.getElem?_cons_succ]; rfl); infer_instance; rfl; rfl; (repeat (first | exact List.Mem.head _ | apply List.Mem.tail)); with_reducible exact hz.out; (try simp only [Act.put, List.setIfInBounds_toArray, List.set_cons_zero, List.set_cons_succ])) | ((with_reducible apply wpSch_nilCheck); (simp only [List.getElem?_toArray, List.getElem?_cons_zero, List.getElem?_cons_succ]; rfl); rfl; rfl; (try simp only [Act.put, List.setIfInBounds_toArray, List.set_cons_zero, List.set_cons_succ])) | ((with_reducible apply wpSch_plain); (simp only [List.getElem?_toArray, List.getElem?_cons_zero, List.getElem?_cons_succ]; rfl); rfl; rfl; (intro K hK; go_big_quiet_op; go_big_quiet_on)) | ((with_reducible apply wpSch_skip); (simp only [List.getElem?_toArray, List.getElem?_cons_zero, List.getElem?_cons_succ]; rfl); rfl; (try simp only [Act.put, List.setIfInBounds_toArray, List.set_cons_zero, List.set_cons_succ])))
                with_reducible apply wpSch_e_k
                (simp only [List.getElem?_toArray, List.getElem?_cons_zero, List.getElem?_cons_succ]; rfl)
                intro K HK
                ((with_reducible apply sAlloc HS); infer_instance; (first | exact cells_agg _ | exact cells_one rfl); rfl; intro Bx w' H1; clear HS; have HS := H1; clear H1)
                (try simp only [Act.put, List.setIfInBounds_toArray, List.set_cons_zero, List.set_cons_succ])
                refine wpList_nil (then_normal (HK.out _ _ ⟨.inr (HS.hd (by (repeat (first | exact subNil | (refine subCons ?_ ?_; (repeat (first | exact List.Mem.head _ | apply List.Mem.tail))))))), ?_⟩))
                clear HK K
                with_reducible apply wpSch_e_k
                (simp only [List.getElem?_toArray, List.getElem?_cons_zero, List.getElem?_cons_succ]; rfl)
                intro K HK
                ((with_reducible apply sStoreB HS); infer_instance; rfl; rfl; (conv => (lhs; whnf)); (repeat (first | exact Rep.here | apply Rep.there)); rfl; rfl; (intro u hu; simp at hu; rcases hu with rfl | rfl <;> rfl); intro w' H1; clear HS; have HS := H1; clear H1)
                (try simp only [Act.put])
                refine wpList_nil (then_normal (HK.out _ _ ⟨.inl rfl, ?_⟩))
                clear HK K
                refine wpSch_nil ?_
                go_wp2
                (try simp only [Act.put])
                refine wp_region_quietF (by kernel_rfl) (by kernel_rfl) ?_
                repeat (first | go_big_quiet_skip | (((with_reducible apply qLoadB HS); infer_instance; rfl; rfl; (repeat (first | exact List.Mem.head _ | apply List.Mem.tail)); with_reducible exact hz.out); (try simp only [Act.put, List.setIfInBounds_toArray, List.set_cons_zero, List.set_cons_succ])) | (((with_reducible apply qLoad1 HS); infer_instance; rfl; rfl; (repeat (first | exact List.Mem.head _ | apply List.Mem.tail)); rfl); (try simp only [Act.put, List.setIfInBounds_toArray, List.set_cons_zero, List.set_cons_succ])) | (go_big_quiet_want; go_big_quiet_op; first | go_big_quiet_on | (refine ⟨_, fun _ _ => rfl, ?_⟩; go_big_quiet_on) | (apply Exists.intro; refine ⟨fun wc hfr => ?_, ?_⟩; (· (go_at_call 49; exact fr_call hfr (HAF.out _))); go_big_quiet_on)))
                refine wpQuiet_nil ?_
                intro w1 hm1
                replace HS := HS.fresh hm1
                clear hm1
                go_wp2_with (first | ((with_reducible apply sLoadB HS); infer_instance; rfl; rfl; (repeat (first | exact List.Mem.head _ | apply List.Mem.tail)); rfl) | (at_builtin; (have H2 := HS.alloc #[.int .u32 x, .bool (f == 1)] 55); (with_reducible apply sAppend H2 Try.underlying25 infoTag rfl (by decide)); (conv => (lhs; whnf)); (intro v'; (repeat (first | exact Rep.here | apply Rep.there))); rfl; rotate_left; exact H2.newsAll (.head _); rotate_right; rfl; (intro u hu; simp at hu; rcases hu with rfl | rfl <;> rfl); decide; omega; intro v1 w9 H1 hnil; clear HS H2; have HS := H1.tail; clear H1 hnil; rw [HNS.out] at HS))
                go_roundw
                case rel => exact ⟨1, by omega, by go_num, (fun i hi => by omega), HFS.out hf1, HS.tail⟩
                case measure => simp [intOf]; omega
              · intro K HK
                ((with_reducible apply sAlloc HS); infer_instance; (first | exact cells_agg _ | exact cells_one rfl); rfl; intro Bx w' H1; clear HS; have HS := H1; clear H1)
                (try simp only [Act.put, List.setIfInBounds_toArray, List.set_cons_zero, List.set_cons_succ])
                refine wpList_nil (then_normal (HK.out _ _ ⟨.inr (HS.hd (by (repeat (first | exact subNil | (refine subCons ?_ ?_; (repeat (first | exact List.Mem.head _ | apply List.Mem.tail))))))), ?_⟩))
                clear HK K
                with_reducible apply wpSch_e_k
                (simp only [List.getElem?_toArray, List.getElem?_cons_zero, List.getElem?_cons_succ]; rfl)
                intro K HK
                go_wp2_with (go_at_call 49; (with_reducible refine (HAF.out _).mono ?_); rintro e w' ⟨rfl, H1⟩; replace HS := HS.fresh H1; clear H1)
                refine HK.out _ _ ⟨.inr (HS.hd (by (repeat (first | exact subNil | (refine subCons ?_ ?_; (repeat (first | exact List.Mem.head _ | apply List.Mem.tail))))))), ?_⟩
                clear HK K
                repeat (first | ((with_reducible apply cLoadB); (simp only [List.getElem?_toArray, List.getElem?_cons_zero, List.getElem?_cons_succ]; rfl); infer_instance; rfl; rfl; (repeat (first | exact List.Mem.head _ | apply List.Mem.tail)); with_reducible exact hz.out; (try simp only [Act.put, List.setIfInBounds_toArray, List.set_cons_zero, List.set_cons_succ])) | ((with_reducible apply wpSch_nilCheck); (simp only [List.getElem?_toArray, List.getElem?_cons_zero, List.getElem?_cons_succ]; rfl); rfl; rfl; (try simp only [Act.put, List.setIfInBounds_toArray, List.set_cons_zero, List.set_cons_succ])) | ((with_reducible apply wpSch_plain); (simp only [List.getElem?_toArray, List.getElem?_cons_zero, List.getElem?_cons_succ]; rfl); rfl; rfl; (intro K hK; go_big_quiet_op; go_big_quiet_on)) | ((with_reducible apply wpSch_skip); (simp only [List.getElem?_toArray, List.getElem?_cons_zero, List.getElem?_cons_succ]; rfl); rfl; (try simp only [Act.put, List.setIfInBounds_toArray, List.set_cons_zero, List.set_cons_succ])))
                with_reducible apply wpSch_e_k
                (simp only [List.getElem?_toArray, List.getElem?_cons_zero, List.getElem?_cons_succ]; rfl)
                intro K HK
                ((with_reducible apply sStoreB HS); infer_instance; rfl; rfl; (conv => (lhs; whnf)); (repeat (first | exact Rep.here | apply Rep.there)); rfl; rfl; (intro u hu; simp at hu; rcases hu with rfl | rfl <;> rfl); intro w' H1; clear HS; have HS := H1; clear H1)
                (try simp only [Act.put])
                refine wpList_nil (then_normal (HK.out _ _ ⟨.inl rfl, ?_⟩))
                clear HK K
                refine wpSch_nil ?_
                go_wp2
                (try simp only [Act.put])
                refine wp_region_quietF (by kernel_rfl) (by kernel_rfl) ?_
                repeat (first | go_big_quiet_skip | (((with_reducible apply qLoadB HS); infer_instance; rfl; rfl; (repeat (first | exact List.Mem.head _ | apply List.Mem.tail)); with_reducible exact hz.out); (try simp only [Act.put, List.setIfInBounds_toArray, List.set_cons_zero, List.set_cons_succ])) | (((with_reducible apply qLoad1 HS); infer_instance; rfl; rfl; (repeat (first | exact List.Mem.head _ | apply List.Mem.tail)); rfl); (try simp only [Act.put, List.setIfInBounds_toArray, List.set_cons_zero, List.set_cons_succ])) | (go_big_quiet_want; go_big_quiet_op; first | go_big_quiet_on | (refine ⟨_, fun _ _ => rfl, ?_⟩; go_big_quiet_on) | (apply Exists.intro; refine ⟨fun wc hfr => ?_, ?_⟩; (· (go_at_call 49; exact fr_call hfr (HAF.out _))); go_big_quiet_on)))
                refine wpQuiet_nil ?_
                intro w1 hm1
                replace HS := HS.fresh hm1
                clear hm1
                go_wp2_with (first | ((with_reducible apply sLoadB HS); infer_instance; rfl; rfl; (repeat (first | exact List.Mem.head _ | apply List.Mem.tail)); rfl) | (at_builtin; (have H2 := HS.alloc #[.int .u32 x, .bool (f == 1)] 55); (with_reducible apply sAppend H2 Try.underlying25 infoTag rfl (by decide)); (conv => (lhs; whnf)); (intro v'; (repeat (first | exact Rep.here | apply Rep.there))); rfl; rotate_left; exact H2.newsAll (.head _); rotate_right; rfl; (intro u hu; simp at hu; rcases hu with rfl | rfl <;> rfl); decide; omega; intro v1 w9 H1 hnil; clear HS H2; have HS := H1.tail; clear H1 hnil; rw [HNS.out] at HS))
                go_roundw
                case rel => exact ⟨1, by omega, by go_num, (fun i hi => by omega), HFS.out hf1, HS.tail⟩
                case measure => simp [intOf]; omega
            · intro K HK
              ((with_reducible apply sAlloc HS); infer_instance; (first | exact cells_agg _ | exact cells_one rfl); rfl; intro Bx w' H1; clear HS; have HS := H1; clear H1)
              (try simp only [Act.put, List.setIfInBounds_toArray, List.set_cons_zero, List.set_cons_succ])
              refine wpList_nil (then_normal (HK.out _ _ ⟨.inr (HS.hd (by (repeat (first | exact subNil | (refine subCons ?_ ?_; (repeat (first | exact List.Mem.head _ | apply List.Mem.tail))))))), ?_⟩))
              clear HK K
              with_reducible apply wpSch_e_k
              (simp only [List.getElem?_toArray, List.getElem?_cons_zero, List.getElem?_cons_succ]; rfl)
              intro K HK
              go_wp2_with (go_at_call 49; (with_reducible refine (HAX.out _).mono ?_); rintro e w' ⟨rfl, H1⟩; replace HS := HS.fresh H1; clear H1)
              refine HK.out _ _ ⟨.inr (HS.hd (by (repeat (first | exact subNil | (refine subCons ?_ ?_; (repeat (first | exact List.Mem.head _ | apply List.Mem.tail))))))), ?_⟩
              clear HK K
              with_reducible apply wpSch_e_k
              (simp only [List.getElem?_toArray, List.getElem?_cons_zero, List.getElem?_cons_succ]; rfl)
              intro K HK
              go_wp2_with (go_at_call 49; (with_reducible refine (HAF.out _).mono ?_); rintro e w' ⟨rfl, H1⟩; replace HS := HS.fresh H1; clear H1)
              refine HK.out _ _ ⟨.inr (HS.hd (by (repeat (first | exact subNil | (refine subCons ?_ ?_; (repeat (first | exact List.Mem.head _ | apply List.Mem.tail))))))), ?_⟩
              clear HK K
              repeat (first | ((with_reducible apply cLoadB); (simp only [List.getElem?_toArray, List.getElem?_cons_zero, List.getElem?_cons_succ]; rfl); infer_instance; rfl; rfl; (repeat (first | exact List.Mem.head _ | apply List.Mem.tail)); with_reducible exact hz.out; (try simp only [Act.put, List.setIfInBounds_toArray, List.set_cons_zero, List.set_cons_succ])) | ((with_reducible apply wpSch_nilCheck); (simp only [List.getElem?_toArray, List.getElem?_cons_zero, List.getElem?_cons_succ]; rfl); rfl; rfl; (try simp only [Act.put, List.setIfInBounds_toArray, List.set_cons_zero, List.set_cons_succ])) | ((with_reducible apply wpSch_plain); (simp only [List.getElem?_toArray, List.getElem?_cons_zero, List.getElem?_cons_succ]; rfl); rfl; rfl; (intro K hK; go_big_quiet_op; go_big_quiet_on)) | ((with_reducible apply wpSch_skip); (simp only [List.getElem?_toArray, List.getElem?_cons_zero, List.getElem?_cons_succ]; rfl); rfl; (try simp only [Act.put, List.setIfInBounds_toArray, List.set_cons_zero, List.set_cons_succ])))
              with_reducible apply wpSch_e_k
              (simp only [List.getElem?_toArray, List.getElem?_cons_zero, List.getElem?_cons_succ]; rfl)
              intro K HK
              ((with_reducible apply sStoreB HS); infer_instance; rfl; rfl; (conv => (lhs; whnf)); (repeat (first | exact Rep.here | apply Rep.there)); rfl; rfl; (intro u hu; simp at hu; rcases hu with rfl | rfl <;> rfl); intro w' H1; clear HS; have HS := H1; clear H1)
              (try simp only [Act.put])
              refine wpList_nil (then_normal (HK.out _ _ ⟨.inl rfl, ?_⟩))
              clear HK K
              refine wpSch_nil ?_
              go_wp2
              (try simp only [Act.put])
              refine wp_region_quietF (by kernel_rfl) (by kernel_rfl) ?_
              repeat (first | go_big_quiet_skip | (((with_reducible apply qLoadB HS); infer_instance; rfl; rfl; (repeat (first | exact List.Mem.head _ | apply List.Mem.tail)); with_reducible exact hz.out); (try simp only [Act.put, List.setIfInBounds_toArray, List.set_cons_zero, List.set_cons_succ])) | (((with_reducible apply qLoad1 HS); infer_instance; rfl; rfl; (repeat (first | exact List.Mem.head _ | apply List.Mem.tail)); rfl); (try simp only [Act.put, List.setIfInBounds_toArray, List.set_cons_zero, List.set_cons_succ])) | (go_big_quiet_want; go_big_quiet_op; first | go_big_quiet_on | (refine ⟨_, fun _ _ => rfl, ?_⟩; go_big_quiet_on) | (apply Exists.intro; refine ⟨fun wc hfr => ?_, ?_⟩; (· (go_at_call 49; exact fr_call hfr (HAF.out _))); go_big_quiet_on)))
              refine wpQuiet_nil ?_
              intro w1 hm1
              replace HS := HS.fresh hm1
              clear hm1
              go_wp2_with (first | ((with_reducible apply sLoadB HS); infer_instance; rfl; rfl; (repeat (first | exact List.Mem.head _ | apply List.Mem.tail)); rfl) | (at_builtin; (have H2 := HS.alloc #[.int .u32 x, .bool (f == 1)] 55); (with_reducible apply sAppend H2 Try.underlying25 infoTag rfl (by decide)); (conv => (lhs; whnf)); (intro v'; (repeat (first | exact Rep.here | apply Rep.there))); rfl; rotate_left; exact H2.newsAll (.head _); rotate_right; rfl; (intro u hu; simp at hu; rcases hu with rfl | rfl <;> rfl); decide; omega; intro v1 w9 H1 hnil; clear HS H2; have HS := H1.tail; clear H1 hnil; rw [HNS.out] at HS))
              go_roundw
              case rel => exact ⟨1, by omega, by go_num, (fun i hi => by omega), HFS.out hf1, HS.tail⟩
              case measure => simp [intOf]; omega
          · have hfd : decide ((1 : Int) < f) = true := decide_eq_true (by omega)
            have hfI : (1 : Int) < f := by omega
            have hrn : r = none := by rw [HR2.out, if_neg (fun h => HFK.out hf1 h.1)]
            subst hrn
            go_wp2
            (try simp only [Act.put])
            refine wp_region_sch (.q 0 (.q 1 (.q 2 (.q 3 (.q 5 (.q 6 (.q 7 (.q 8 (.two 4 (.two 9 (.q 10 (.q 11 (.e 12 (.e 13 (.nil))))) 12 (.e 9 (.q 10 (.q 11 (.e 13 (.nil)))))) 12 (.e 4 (.e 9 (.q 10 (.q 11 (.e 13 (.nil))))))))))))))) (Hd [.blk true B1 (encB bs) 28]) (by kernel_rfl) (by kernel_rfl) (fun _ _ d _ _ h => by cases d <;> exact h) ?_
            intro w1 hm1
            replace HS := HS.fresh hm1
            clear hm1
            refine ⟨HS.hd (by (repeat (first | exact subNil | (refine subCons ?_ ?_; (repeat (first | exact List.Mem.head _ | apply List.Mem.tail)))))), ?_⟩
            repeat (first | ((with_reducible apply cLoadB); (simp only [List.getElem?_toArray, List.getElem?_cons_zero, List.getElem?_cons_succ]; rfl); infer_instance; rfl; rfl; (repeat (first | exact List.Mem.head _ | apply List.Mem.tail)); with_reducible exact hz.out; (try simp only [Act.put, List.setIfInBounds_toArray, List.set_cons_zero, List.set_cons_succ])) | ((with_reducible apply wpSch_nilCheck); (simp only [List.getElem?_toArray, List.getElem?_cons_zero, List.getElem?_cons_succ]; rfl); rfl; rfl; (try simp only [Act.put, List.setIfInBounds_toArray, List.set_cons_zero, List.set_cons_succ])) | ((with_reducible apply wpSch_plain); (simp only [List.getElem?_toArray, List.getElem?_cons_zero, List.getElem?_cons_succ]; rfl); rfl; rfl; (intro K hK; go_big_quiet_op; go_big_quiet_on)) | ((with_reducible apply wpSch_skip); (simp only [List.getElem?_toArray, List.getElem?_cons_zero, List.getElem?_cons_succ]; rfl); rfl; (try simp only [Act.put, List.setIfInBounds_toArray, List.set_cons_zero, List.set_cons_succ])))
            with_reducible apply wpSch_two_k
            (simp only [List.getElem?_toArray, List.getElem?_cons_zero, List.getElem?_cons_succ]; rfl)
            (simp only [List.getElem?_toArray, List.getElem?_cons_zero, List.getElem?_cons_succ]; rfl)
            · intro K HK
              go_wp2_with (go_at_call 49; (with_reducible refine (HAX.out _).mono ?_); rintro e w' ⟨rfl, H1⟩; replace HS := HS.fresh H1; clear H1)
              refine HK.out _ _ ⟨.inr (HS.hd (by (repeat (first | exact subNil | (refine subCons ?_ ?_; (repeat (first | exact List.Mem.head _ | apply List.Mem.tail))))))), ?_⟩
              clear HK K
              with_reducible apply wpSch_two_k
              (simp only [List.getElem?_toArray, List.getElem?_cons_zero, List.getElem?_cons_succ]; rfl)
              (simp only [List.getElem?_toArray, List.getElem?_cons_zero, List.getElem?_cons_succ]; rfl)
              · intro K HK
                go_wp2_with (go_at_call 49; (with_reducible refine (HAF.out _).mono ?_); rintro e w' ⟨rfl, H1⟩; replace HS := HS.fresh H1; clear H1)
                refine HK.out _ _ ⟨.inr (HS.hd (by (repeat (first | exact subNil | (refine subCons ?_ ?_; (repeat (first | exact List.Mem.head _ | apply List.Mem.tail))))))), ?_⟩
                clear HK K
                repeat (first | ((with_reducible apply cLoadB); (simp only [List.getElem?_toArray, List.getElem?_cons_zero, List.getElem?_cons_succ]; rfl); infer_instance; rfl; rfl; (repeat (first | exact List.Mem.head _ | apply List.Mem.tail)); with_reducible exact hz.out; (try simp only [Act.put, List.setIfInBounds_toArray, List.set_cons_zero, List.set_cons_succ])) | ((with_reducible apply wpSch_nilCheck); (simp only [List.getElem?_toArray, List.getElem?_cons_zero, List.getElem?_cons_succ]; rfl); rfl; rfl; (try simp only [Act.put, List.setIfInBounds_toArray, List.set_cons_zero, List.set_cons_succ])) | ((with_reducible apply wpSch_plain); (simp only [List.getElem?_toArray, List.getElem?_cons_zero, List.getElem?_cons_succ]; rfl); rfl; rfl; (intro K hK; go_big_quiet_op; go_big_quiet_on)) | ((with_reducible apply wpSch_skip); (simp only [List.getElem?_toArray, List.getElem?_cons_zero, List.getElem?_cons_succ]; rfl); rfl; (try simp only [Act.put, List.setIfInBounds_toArray, List.set_cons_zero, List.set_cons_succ])))
                with_reducible apply wpSch_e_k
                (simp only [List.getElem?_toArray, List.getElem?_cons_zero, List.getElem?_cons_succ]; rfl)
                intro K HK
                ((with_reducible apply sAlloc HS); infer_instance; (first | exact cells_agg _ | exact cells_one rfl); rfl; intro Bx w' H1; clear HS; have HS := H1; clear H1)
                (try simp only [Act.put, List.setIfInBounds_toArray, List.set_cons_zero, List.set_cons_succ])
                refine wpList_nil (then_normal (HK.out _ _ ⟨.inr (HS.hd (by (repeat (first | exact subNil | (refine subCons ?_ ?_; (repeat (first | exact List.Mem.head _ | apply List.Mem.tail))))))), ?_⟩))
                clear HK K
                with_reducible apply wpSch_e_k
                (simp only [List.getElem?_toArray, List.getElem?_cons_zero, List.getElem?_cons_succ]; rfl)
                intro K HK
                ((with_reducible apply sStoreB HS); infer_instance; rfl; rfl; (conv => (lhs; whnf)); (repeat (first | exact Rep.here | apply Rep.there)); rfl; rfl; (intro u hu; simp at hu; rcases hu with rfl | rfl <;> rfl); intro w' H1; clear HS; have HS := H1; clear H1)
                (try simp only [Act.put])
                refine wpList_nil (then_normal (HK.out _ _ ⟨.inl rfl, ?_⟩))
                clear HK K
                refine wpSch_nil ?_
                go_wp2
                (try simp only [Act.put])
                refine wp_region_quietF (by kernel_rfl) (by kernel_rfl) ?_
                repeat (first | go_big_quiet_skip | (((with_reducible apply qLoadB HS); infer_instance; rfl; rfl; (repeat (first | exact List.Mem.head _ | apply List.Mem.tail)); with_reducible exact hz.out); (try simp only [Act.put, List.setIfInBounds_toArray, List.set_cons_zero, List.set_cons_succ])) | (((with_reducible apply qLoad1 HS); infer_instance; rfl; rfl; (repeat (first | exact List.Mem.head _ | apply List.Mem.tail)); rfl); (try simp only [Act.put, List.setIfInBounds_toArray, List.set_cons_zero, List.set_cons_succ])) | (go_big_quiet_want; go_big_quiet_op; first | go_big_quiet_on | (refine ⟨_, fun _ _ => rfl, ?_⟩; go_big_quiet_on) | (apply Exists.intro; refine ⟨fun wc hfr => ?_, ?_⟩; (· (go_at_call 49; exact fr_call hfr (HAF.out _))); go_big_quiet_on)))
                refine wpQuiet_nil ?_
                intro w1 hm1
                replace HS := HS.fresh hm1
                clear hm1
                go_wp2_with (first | ((with_reducible apply sLoadB HS); infer_instance; rfl; rfl; (repeat (first | exact List.Mem.head _ | apply List.Mem.tail)); rfl) | (at_builtin; (have H2 := HS.alloc #[.int .u32 x, .bool (f == 1)] 55); (with_reducible apply sAppend H2 Try.underlying25 infoTag rfl (by decide)); (conv => (lhs; whnf)); (intro v'; (repeat (first | exact Rep.here | apply Rep.there))); rfl; rotate_left; exact H2.newsAll (.head _); rotate_right; rfl; (intro u hu; simp at hu; rcases hu with rfl | rfl <;> rfl); decide; omega; intro v1 w9 H1 hnil; clear HS H2; have HS := H1.tail; clear H1 hnil; rw [HNS.out] at HS))
                refine bodyPost_ret (res3 rfl (resTmp _ _ _) (resTmp _ _ _) (resTmp _ _ _)) rfl ⟨_, rfl, (by first | exact HS.tail.ownNil _ _ | exact HS.tail.tail.ownNil _ _ | exact HS.tail.tail.tail.ownNil _ _)⟩
              · intro K HK
                ((with_reducible apply sAlloc HS); infer_instance; (first | exact cells_agg _ | exact cells_one rfl); rfl; intro Bx w' H1; clear HS; have HS := H1; clear H1)
                (try simp only [Act.put, List.setIfInBounds_toArray, List.set_cons_zero, List.set_cons_succ])
                refine wpList_nil (then_normal (HK.out _ _ ⟨.inr (HS.hd (by (repeat (first | exact subNil | (refine subCons ?_ ?_; (repeat (first | exact List.Mem.head _ | apply List.Mem.tail))))))), ?_⟩))
                clear HK K
                with_reducible apply wpSch_e_k
                (simp only [List.getElem?_toArray, List.getElem?_cons_zero, List.getElem?_cons_succ]; rfl)
                intro K HK
                go_wp2_with (go_at_call 49; (with_reducible refine (HAF.out _).mono ?_); rintro e w' ⟨rfl, H1⟩; replace HS := HS.fresh H1; clear H1)
                refine HK.out _ _ ⟨.inr (HS.hd (by (repeat (first | exact subNil | (refine subCons ?_ ?_; (repeat (first | exact List.Mem.head _ | apply List.Mem.tail))))))), ?_⟩
                clear HK K
                repeat (first | ((with_reducible apply cLoadB); (simp only [List.getElem?_toArray, List.getElem?_cons_zero, List.getElem?_cons_succ]; rfl); infer_instance; rfl; rfl; (repeat (first | exact List.Mem.head _ | apply List.Mem.tail)); with_reducible exact hz.out; (try simp only [Act.put, List.setIfInBounds_toArray, List.set_cons_zero, List.set_cons_succ])) | ((with_reducible apply wpSch_nilCheck); (simp only [List.getElem?_toArray, List.getElem?_cons_zero, List.getElem?_cons_succ]; rfl); rfl; rfl; (try simp only [Act.put, List.setIfInBounds_toArray, List.set_cons_zero, List.set_cons_succ])) | ((with_reducible apply wpSch_plain); (simp only [List.getElem?_toArray, List.getElem?_cons_zero, List.getElem?_cons_succ]; rfl); rfl; rfl; (intro K hK; go_big_quiet_op; go_big_quiet_on)) | ((with_reducible apply wpSch_skip); (simp only [List.getElem?_toArray, List.getElem?_cons_zero, List.getElem?_cons_succ]; rfl); rfl; (try simp only [Act.put, List.setIfInBounds_toArray, List.set_cons_zero, List.set_cons_succ])))
                with_reducible apply wpSch_e_k
                (simp only [List.getElem?_toArray, List.getElem?_cons_zero, List.getElem?_cons_succ]; rfl)
                intro K HK
                ((with_reducible apply sStoreB HS); infer_instance; rfl; rfl; (conv => (lhs; whnf)); (repeat (first | exact Rep.here | apply Rep.there)); rfl; rfl; (intro u hu; simp at hu; rcases hu with rfl | rfl <;> rfl); intro w' H1; clear HS; have HS := H1; clear H1)
                (try simp only [Act.put])
                refine wpList_nil (then_normal (HK.out _ _ ⟨.inl rfl, ?_⟩))
                clear HK K
                refine wpSch_nil ?_
                go_wp2
                (try simp only [Act.put])
                refine wp_region_quietF (by kernel_rfl) (by kernel_rfl) ?_
                repeat (first | go_big_quiet_skip | (((with_reducible apply qLoadB HS); infer_instance; rfl; rfl; (repeat (first | exact List.Mem.head _ | apply List.Mem.tail)); with_reducible exact hz.out); (try simp only [Act.put, List.setIfInBounds_toArray, List.set_cons_zero, List.set_cons_succ])) | (((with_reducible apply qLoad1 HS); infer_instance; rfl; rfl; (repeat (first | exact List.Mem.head _ | apply List.Mem.tail)); rfl); (try simp only [Act.put, List.setIfInBounds_toArray, List.set_cons_zero, List.set_cons_succ])) | (go_big_quiet_want; go_big_quiet_op; first | go_big_quiet_on | (refine ⟨_, fun _ _ => rfl, ?_⟩; go_big_quiet_on) | (apply Exists.intro; refine ⟨fun wc hfr => ?_, ?_⟩; (· (go_at_call 49; exact fr_call hfr (HAF.out _))); go_big_quiet_on)))
                refine wpQuiet_nil ?_
                intro w1 hm1
                replace HS := HS.fresh hm1
                clear hm1
                go_wp2_with (first | ((with_reducible apply sLoadB HS); infer_instance; rfl; rfl; (repeat (first | exact List.Mem.head _ | apply List.Mem.tail)); rfl) | (at_builtin; (have H2 := HS.alloc #[.int .u32 x, .bool (f == 1)] 55); (with_reducible apply sAppend H2 Try.underlying25 infoTag rfl (by decide)); (conv => (lhs; whnf)); (intro v'; (repeat (first | exact Rep.here | apply Rep.there))); rfl; rotate_left; exact H2.newsAll (.head _); rotate_right; rfl; (intro u hu; simp at hu; rcases hu with rfl | rfl <;> rfl); decide; omega; intro v1 w9 H1 hnil; clear HS H2; have HS := H1.tail; clear H1 hnil; rw [HNS.out] at HS))
                refine bodyPost_ret (res3 rfl (resTmp _ _ _) (resTmp _ _ _) (resTmp _ _ _)) rfl ⟨_, rfl, (by first | exact HS.tail.ownNil _ _ | exact HS.tail.tail.ownNil _ _ | exact HS.tail.tail.tail.ownNil _ _)⟩
            · intro K HK
              ((with_reducible apply sAlloc HS); infer_instance; (first | exact cells_agg _ | exact cells_one rfl); rfl; intro Bx w' H1; clear HS; have HS := H1; clear H1)
              (try simp only [Act.put, List.setIfInBounds_toArray, List.set_cons_zero, List.set_cons_succ])
              refine wpList_nil (then_normal (HK.out _ _ ⟨.inr (HS.hd (by (repeat (first | exact subNil | (refine subCons ?_ ?_; (repeat (first | exact List.Mem.head _ | apply List.Mem.tail))))))), ?_⟩))
              clear HK K
              with_reducible apply wpSch_e_k
              (simp only [List.getElem?_toArray, List.getElem?_cons_zero, List.getElem?_cons_succ]; rfl)
              intro K HK
              go_wp2_with (go_at_call 49; (with_reducible refine (HAX.out _).mono ?_); rintro e w' ⟨rfl, H1⟩; replace HS := HS.fresh H1; clear H1)
              refine HK.out _ _ ⟨.inr (HS.hd (by (repeat (first | exact subNil | (refine subCons ?_ ?_; (repeat (first | exact List.Mem.head _ | apply List.Mem.tail))))))), ?_⟩
              clear HK K
              with_reducible apply wpSch_e_k
              (simp only [List.getElem?_toArray, List.getElem?_cons_zero, List.getElem?_cons_succ]; rfl)
              intro K HK
              go_wp2_with (go_at_call 49; (with_reducible refine (HAF.out _).mono ?_); rintro e w' ⟨rfl, H1⟩; replace HS := HS.fresh H1; clear H1)
              refine HK.out _ _ ⟨.inr (HS.hd (by (repeat (first | exact subNil | (refine subCons ?_ ?_; (repeat (first | exact List.Mem.head _ | apply List.Mem.tail))))))), ?_⟩
              clear HK K
              repeat (first | ((with_reducible apply cLoadB); (simp only [List.getElem?_toArray, List.getElem?_cons_zero, List.getElem?_cons_succ]; rfl); infer_instance; rfl; rfl; (repeat (first | exact List.Mem.head _ | apply List.Mem.tail)); with_reducible exact hz.out; (try simp only [Act.put, List.setIfInBounds_toArray, List.set_cons_zero, List.set_cons_succ])) | ((with_reducible apply wpSch_nilCheck); (simp only [List.getElem?_toArray, List.getElem?_cons_zero, List.getElem?_cons_succ]; rfl); rfl; rfl; (try simp only [Act.put, List.setIfInBounds_toArray, List.set_cons_zero, List.set_cons_succ])) | ((with_reducible apply wpSch_plain); (simp only [List.getElem?_toArray, List.getElem?_cons_zero, List.getElem?_cons_succ]; rfl); rfl; rfl; (intro K hK; go_big_quiet_op; go_big_quiet_on)) | ((with_reducible apply wpSch_skip); (simp only [List.getElem?_toArray, List.getElem?_cons_zero, List.getElem?_cons_succ]; rfl); rfl; (try simp only [Act.put, List.setIfInBounds_toArray, List.set_cons_zero, List.set_cons_succ])))
              with_reducible apply wpSch_e_k
              (simp only [List.getElem?_toArray, List.getElem?_cons_zero, List.getElem?_cons_succ]; rfl)
              intro K HK
              ((with_reducible apply sStoreB HS); infer_instance; rfl; rfl; (conv => (lhs; whnf)); (repeat (first | exact Rep.here | apply Rep.there)); rfl; rfl; (intro u hu; simp at hu; rcases hu with rfl | rfl <;> rfl); intro w' H1; clear HS; have HS := H1; clear H1)
              (try simp only [Act.put])
              refine wpList_nil (then_normal (HK.out _ _ ⟨.inl rfl, ?_⟩))
              clear HK K
              refine wpSch_nil ?_
              go_wp2
              (try simp only [Act.put])
              refine wp_region_quietF (by kernel_rfl) (by kernel_rfl) ?_
              repeat (first | go_big_quiet_skip | (((with_reducible apply qLoadB HS); infer_instance; rfl; rfl; (repeat (first | exact List.Mem.head _ | apply List.Mem.tail)); with_reducible exact hz.out); (try simp only [Act.put, List.setIfInBounds_toArray, List.set_cons_zero, List.set_cons_succ])) | (((with_reducible apply qLoad1 HS); infer_instance; rfl; rfl; (repeat (first | exact List.Mem.head _ | apply List.Mem.tail)); rfl); (try simp only [Act.put, List.setIfInBounds_toArray, List.set_cons_zero, List.set_cons_succ])) | (go_big_quiet_want; go_big_quiet_op; first | go_big_quiet_on | (refine ⟨_, fun _ _ => rfl, ?_⟩; go_big_quiet_on) | (apply Exists.intro; refine ⟨fun wc hfr => ?_, ?_⟩; (· (go_at_call 49; exact fr_call hfr (HAF.out _))); go_big_quiet_on)))
              refine wpQuiet_nil ?_
              intro w1 hm1
              replace HS := HS.fresh hm1
              clear hm1
              go_wp2_with (first | ((with_reducible apply sLoadB HS); infer_instance; rfl; rfl; (repeat (first | exact List.Mem.head _ | apply List.Mem.tail)); rfl) | (at_builtin; (have H2 := HS.alloc #[.int .u32 x, .bool (f == 1)] 55); (with_reducible apply sAppend H2 Try.underlying25 infoTag rfl (by decide)); (conv => (lhs; whnf)); (intro v'; (repeat (first | exact Rep.here | apply Rep.there))); rfl; rotate_left; exact H2.newsAll (.head _); rotate_right; rfl; (intro u hu; simp at hu; rcases hu with rfl | rfl <;> rfl); decide; omega; intro v1 w9 H1 hnil; clear HS H2; have HS := H1.tail; clear H1 hnil; rw [HNS.out] at HS))
              refine bodyPost_ret (res3 rfl (resTmp _ _ _) (resTmp _ _ _) (resTmp _ _ _)) rfl ⟨_, rfl, (by first | exact HS.tail.ownNil _ _ | exact HS.tail.tail.ownNil _ _ | exact HS.tail.tail.tail.ownNil _ _)⟩
        · have hgt : decide ((0 : Int) < (k : Int) + 1) = true := decide_eq_true (by omega)
          have HAX := Lib.hid (fun W => HAT.out W (16 + 8 * (k + 1)) (16 + 8 * ((k : Int) + 1)) (by push_cast; rfl) (by omega))
          have HAF := Lib.hid (fun W => HAT.out W (20 + 8 * (k + 1)) (20 + 8 * ((k : Int) + 1)) (by push_cast; rfl) (by omega))
          rw [HX.out] at HAX
          rw [HF.out] at HAF
          obtain ⟨g, oc2, e3, _⟩ := own_row (HS.own (.head _)) (Nat.succ_pos k)
          obtain ⟨rfl, rfl⟩ : oa = some ⟨g, 0, none⟩ ∧ oc = oc2 := by simpa using e3
          clear e3
          have hv0 : Hid ((encTl (tagsOf bs (k + 1)))[k * 2]? = some (.int .u32 ((tagsOf bs n).getD k (0, false)).1)) := by
            show _ = _
            rw [encTl_get1 (by rw [tagsOf_len]; omega), tagsOf_getD bs (by omega) (show k < n by omega)]
          have HST := Lib.hid (fun h => riseTt_succ HRI.out h)
          have HNO := Lib.hid (fun h => riset_not (l := tagsOf bs n) (k := k) (by rw [tagsOf_len]; omega) h)
          rw [HGK.out] at HST HNO
          obtain ⟨y, hy⟩ : ∃ x, ((tagsOf bs n).getD k (0, false)).1 = x := ⟨_, rfl⟩
          rw [hy] at hv0 HST HNO
          clear hy
          by_cases hf1 : f ≤ 1
          · have hfd : decide ((1 : Int) < f) = false := decide_eq_false (by omega)
            have hfI : ¬ (1 : Int) < f := by omega
            by_cases hyx : y < x
            · have hle : decide (x ≤ y) = false := decide_eq_false (by omega)
              have hle2 : ¬ x ≤ y := by omega
              go_wp2
              (try simp only [Act.put])
              refine wp_region_sch (.q 0 (.q 1 (.q 2 (.q 3 (.q 5 (.q 6 (.q 7 (.q 8 (.two 4 (.two 9 (.q 10 (.q 11 (.e 12 (.e 13 (.nil))))) 12 (.e 9 (.q 10 (.q 11 (.e 13 (.nil)))))) 12 (.e 4 (.e 9 (.q 10 (.q 11 (.e 13 (.nil))))))))))))))) (Hd [.blk true B1 (encB bs) 28]) (by kernel_rfl) (by kernel_rfl) (fun _ _ d _ _ h => by cases d <;> exact h) ?_
              intro w1 hm1
              replace HS := HS.fresh hm1
              clear hm1
              refine ⟨HS.hd (by (repeat (first | exact subNil | (refine subCons ?_ ?_; (repeat (first | exact List.Mem.head _ | apply List.Mem.tail)))))), ?_⟩
              repeat (first | ((with_reducible apply cLoadB); (simp only [List.getElem?_toArray, List.getElem?_cons_zero, List.getElem?_cons_succ]; rfl); infer_instance; rfl; rfl; (repeat (first | exact List.Mem.head _ | apply List.Mem.tail)); with_reducible exact hz.out; (try simp only [Act.put, List.setIfInBounds_toArray, List.set_cons_zero, List.set_cons_succ])) | ((with_reducible apply wpSch_nilCheck); (simp only [List.getElem?_toArray, List.getElem?_cons_zero, List.getElem?_cons_succ]; rfl); rfl; rfl; (try simp only [Act.put, List.setIfInBounds_toArray, List.set_cons_zero, List.set_cons_succ])) | ((with_reducible apply wpSch_plain); (simp only [List.getElem?_toArray, List.getElem?_cons_zero, List.getElem?_cons_succ]; rfl); rfl; rfl; (intro K hK; go_big_quiet_op; go_big_quiet_on)) | ((with_reducible apply wpSch_skip); (simp only [List.getElem?_toArray, List.getElem?_cons_zero, List.getElem?_cons_succ]; rfl); rfl; (try simp only [Act.put, List.setIfInBounds_toArray, List.set_cons_zero, List.set_cons_succ])))
              with_reducible apply wpSch_two_k
              (simp only [List.getElem?_toArray, List.getElem?_cons_zero, List.getElem?_cons_succ]; rfl)
              (simp only [List.getElem?_toArray, List.getElem?_cons_zero, List.getElem?_cons_succ]; rfl)
              · intro K HK
                go_wp2_with (go_at_call 49; (with_reducible refine (HAX.out _).mono ?_); rintro e w' ⟨rfl, H1⟩; replace HS := HS.fresh H1; clear H1)
                refine HK.out _ _ ⟨.inr (HS.hd (by (repeat (first | exact subNil | (refine subCons ?_ ?_; (repeat (first | exact List.Mem.head _ | apply List.Mem.tail))))))), ?_⟩
                clear HK K
                with_reducible apply wpSch_two_k
                (simp only [List.getElem?_toArray, List.getElem?_cons_zero, List.getElem?_cons_succ]; rfl)
                (simp only [List.getElem?_toArray, List.getElem?_cons_zero, List.getElem?_cons_succ]; rfl)
                · intro K HK
                  go_wp2_with (go_at_call 49; (with_reducible refine (HAF.out _).mono ?_); rintro e w' ⟨rfl, H1⟩; replace HS := HS.fresh H1; clear H1)
                  refine HK.out _ _ ⟨.inr (HS.hd (by (repeat (first | exact subNil | (refine subCons ?_ ?_; (repeat (first | exact List.Mem.head _ | apply List.Mem.tail))))))), ?_⟩
                  clear HK K
                  repeat (first | ((with_reducible apply cLoadB); (simp only [List.getElem?_toArray, List.getElem?_cons_zero, List.getElem?_cons_succ]; rfl); infer_instance; rfl; rfl; (repeat (first | exact List.Mem.head _ | apply List.Mem.tail)); with_reducible exact hz.out; (try simp only [Act.put, List.setIfInBounds_toArray, List.set_cons_zero, List.set_cons_succ])) | ((with_reducible apply wpSch_nilCheck); (simp only [List.getElem?_toArray, List.getElem?_cons_zero, List.getElem?_cons_succ]; rfl); rfl; rfl; (try simp only [Act.put, List.setIfInBounds_toArray, List.set_cons_zero, List.set_cons_succ])) | ((with_reducible apply wpSch_plain); (simp only [List.getElem?_toArray, List.getElem?_cons_zero, List.getElem?_cons_succ]; rfl); rfl; rfl; (intro K hK; go_big_quiet_op; go_big_quiet_on)) | ((with_reducible apply wpSch_skip); (simp only [List.getElem?_toArray, List.getElem?_cons_zero, List.getElem?_cons_succ]; rfl); rfl; (try simp only [Act.put, List.setIfInBounds_toArray, List.set_cons_zero, List.set_cons_succ])))
                  with_reducible apply wpSch_e_k
                  (simp only [List.getElem?_toArray, List.getElem?_cons_zero, List.getElem?_cons_succ]; rfl)
                  intro K HK
                  ((with_reducible apply sAlloc HS); infer_instance; (first | exact cells_agg _ | exact cells_one rfl); rfl; intro Bx w' H1; clear HS; have HS := H1; clear H1)
                  (try simp only [Act.put, List.setIfInBounds_toArray, List.set_cons_zero, List.set_cons_succ])
                  refine wpList_nil (then_normal (HK.out _ _ ⟨.inr (HS.hd (by (repeat (first | exact subNil | (refine subCons ?_ ?_; (repeat (first | exact List.Mem.head _ | apply List.Mem.tail))))))), ?_⟩))
                  clear HK K
                  with_reducible apply wpSch_e_k
                  (simp only [List.getElem?_toArray, List.getElem?_cons_zero, List.getElem?_cons_succ]; rfl)
                  intro K HK
                  ((with_reducible apply sStoreB HS); infer_instance; rfl; rfl; (conv => (lhs; whnf)); (repeat (first | exact Rep.here | apply Rep.there)); rfl; rfl; (intro u hu; simp at hu; rcases hu with rfl | rfl <;> rfl); intro w' H1; clear HS; have HS := H1; clear H1)
                  (try simp only [Act.put])
                  refine wpList_nil (then_normal (HK.out _ _ ⟨.inl rfl, ?_⟩))
                  clear HK K
                  refine wpSch_nil ?_
                  go_wp2
                  (try simp only [Act.put])
                  refine wp_region_quietF (by kernel_rfl) (by kernel_rfl) ?_
                  repeat (first | go_big_quiet_skip | (((with_reducible apply qLoadB HS); infer_instance; rfl; rfl; (repeat (first | exact List.Mem.head _ | apply List.Mem.tail)); with_reducible exact hz.out); (try simp only [Act.put, List.setIfInBounds_toArray, List.set_cons_zero, List.set_cons_succ])) | (((with_reducible apply qLoad1 HS); infer_instance; rfl; rfl; (repeat (first | exact List.Mem.head _ | apply List.Mem.tail)); rfl); (try simp only [Act.put, List.setIfInBounds_toArray, List.set_cons_zero, List.set_cons_succ])) | (((with_reducible apply qLoadO1 HS); infer_instance; rfl; rfl; (repeat (first | exact List.Mem.head _ | apply List.Mem.tail)); exact hv0.out); (try simp only [Act.put, List.setIfInBounds_toArray, List.set_cons_zero, List.set_cons_succ])) | (go_big_quiet_want; go_big_quiet_op; first | go_big_quiet_on | (refine ⟨_, fun _ _ => rfl, ?_⟩; go_big_quiet_on) | (apply Exists.intro; refine ⟨fun wc hfr => ?_, ?_⟩; (· (go_at_call 49; exact fr_call hfr (HAF.out _))); go_big_quiet_on)))
                  refine wpQuiet_nil ?_
                  intro w1 hm1
                  replace HS := HS.fresh hm1
                  clear hm1
                  go_wp2_with (first | ((with_reducible apply sLoadB HS); infer_instance; rfl; rfl; (repeat (first | exact List.Mem.head _ | apply List.Mem.tail)); rfl) | (at_builtin; (have H2 := HS.alloc #[.int .u32 x, .bool (f == 1)] 55); (with_reducible apply sAppend H2 Try.underlying25 infoTag rfl (by decide)); (conv => (lhs; whnf)); (intro v'; (repeat (first | exact Rep.here | apply Rep.there))); rfl; rotate_left; exact H2.newsAll (.head _); rotate_right; rfl; (intro u hu; simp at hu; rcases hu with rfl | rfl <;> rfl); decide; omega; intro v1 w9 H1 hnil; clear HS H2; have HS := H1.tail; clear H1 hnil; rw [HNS.out] at HS))
                  go_roundw
                  case rel => exact ⟨k + 1 + 1, by omega, by go_num, HST.out hyx, HFS.out hf1, HS.tail⟩
                  case measure => simp [intOf]; omega
                · intro K HK
                  ((with_reducible apply sAlloc HS); infer_instance; (first | exact cells_agg _ | exact cells_one rfl); rfl; intro Bx w' H1; clear HS; have HS := H1; clear H1)
                  (try simp only [Act.put, List.setIfInBounds_toArray, List.set_cons_zero, List.set_cons_succ])
                  refine wpList_nil (then_normal (HK.out _ _ ⟨.inr (HS.hd (by (repeat (first | exact subNil | (refine subCons ?_ ?_; (repeat (first | exact List.Mem.head _ | apply List.Mem.tail))))))), ?_⟩))
                  clear HK K
                  with_reducible apply wpSch_e_k
                  (simp only [List.getElem?_toArray, List.getElem?_cons_zero, List.getElem?_cons_succ]; rfl)
                  intro K HK
                  go_wp2_with (go_at_call 49; (with_reducible refine (HAF.out _).mono ?_); rintro e w' ⟨rfl, H1⟩; replace HS := HS.fresh H1; clear H1)
                  refine HK.out _ _ ⟨.inr (HS.hd (by (repeat (first | exact subNil | (refine subCons ?_ ?_; (repeat (first | exact List.Mem.head _ | apply List.Mem.tail))))))), ?_⟩
                  clear HK K
                  repeat (first | ((with_reducible apply cLoadB); (simp only [List.getElem?_toArray, List.getElem?_cons_zero, List.getElem?_cons_succ]; rfl); infer_instance; rfl; rfl; (repeat (first | exact List.Mem.head _ | apply List.Mem.tail)); with_reducible exact hz.out; (try simp only [Act.put, List.setIfInBounds_toArray, List.set_cons_zero, List.set_cons_succ])) | ((with_reducible apply wpSch_nilCheck); (simp only [List.getElem?_toArray, List.getElem?_cons_zero, List.getElem?_cons_succ]; rfl); rfl; rfl; (try simp only [Act.put, List.setIfInBounds_toArray, List.set_cons_zero, List.set_cons_succ])) | ((with_reducible apply wpSch_plain); (simp only [List.getElem?_toArray, List.getElem?_cons_zero, List.getElem?_cons_succ]; rfl); rfl; rfl; (intro K hK; go_big_quiet_op; go_big_quiet_on)) | ((with_reducible apply wpSch_skip); (simp only [List.getElem?_toArray, List.getElem?_cons_zero, List.getElem?_cons_succ]; rfl); rfl; (try simp only [Act.put, List.setIfInBounds_toArray, List.set_cons_zero, List.set_cons_succ])))
                  with_reducible apply wpSch_e_k
                  (simp only [List.getElem?_toArray, List.getElem?_cons_zero, List.getElem?_cons_succ]; rfl)
                  intro K HK
                  ((with_reducible apply sStoreB HS); infer_instance; rfl; rfl; (conv => (lhs; whnf)); (repeat (first | exact Rep.here | apply Rep.there)); rfl; rfl; (intro u hu; simp at hu; rcases hu with rfl | rfl <;> rfl); intro w' H1; clear HS; have HS := H1; clear H1)
                  (try simp only [Act.put])
                  refine wpList_nil (then_normal (HK.out _ _ ⟨.inl rfl, ?_⟩))
                  clear HK K
                  refine wpSch_nil ?_
                  go_wp2
                  (try simp only [Act.put])
                  refine wp_region_quietF (by kernel_rfl) (by kernel_rfl) ?_
                  repeat (first | go_big_quiet_skip | (((with_reducible apply qLoadB HS); infer_instance; rfl; rfl; (repeat (first | exact List.Mem.head _ | apply List.Mem.tail)); with_reducible exact hz.out); (try simp only [Act.put, List.setIfInBounds_toArray, List.set_cons_zero, List.set_cons_succ])) | (((with_reducible apply qLoad1 HS); infer_instance; rfl; rfl; (repeat (first | exact List.Mem.head _ | apply List.Mem.tail)); rfl); (try simp only [Act.put, List.setIfInBounds_toArray, List.set_cons_zero, List.set_cons_succ])) | (((with_reducible apply qLoadO1 HS); infer_instance; rfl; rfl; (repeat (first | exact List.Mem.head _ | apply List.Mem.tail)); exact hv0.out); (try simp only [Act.put, List.setIfInBounds_toArray, List.set_cons_zero, List.set_cons_succ])) | (go_big_quiet_want; go_big_quiet_op; first | go_big_quiet_on | (refine ⟨_, fun _ _ => rfl, ?_⟩; go_big_quiet_on) | (apply Exists.intro; refine ⟨fun wc hfr => ?_, ?_⟩; (· (go_at_call 49; exact fr_call hfr (HAF.out _))); go_big_quiet_on)))
                  refine wpQuiet_nil ?_
                  intro w1 hm1
                  replace HS := HS.fresh hm1
                  clear hm1
                  go_wp2_with (first | ((with_reducible apply sLoadB HS); infer_instance; rfl; rfl; (repeat (first | exact List.Mem.head _ | apply List.Mem.tail)); rfl) | (at_builtin; (have H2 := HS.alloc #[.int .u32 x, .bool (f == 1)] 55); (with_reducible apply sAppend H2 Try.underlying25 infoTag rfl (by decide)); (conv => (lhs; whnf)); (intro v'; (repeat (first | exact Rep.here | apply Rep.there))); rfl; rotate_left; exact H2.newsAll (.head _); rotate_right; rfl; (intro u hu; simp at hu; rcases hu with rfl | rfl <;> rfl); decide; omega; intro v1 w9 H1 hnil; clear HS H2; have HS := H1.tail; clear H1 hnil; rw [HNS.out] at HS))
                  go_roundw
                  case rel => exact ⟨k + 1 + 1, by omega, by go_num, HST.out hyx, HFS.out hf1, HS.tail⟩
                  case measure => simp [intOf]; omega
              · intro K HK
                ((with_reducible apply sAlloc HS); infer_instance; (first | exact cells_agg _ | exact cells_one rfl); rfl; intro Bx w' H1; clear HS; have HS := H1; clear H1)
                (try simp only [Act.put, List.setIfInBounds_toArray, List.set_cons_zero, List.set_cons_succ])
                refine wpList_nil (then_normal (HK.out _ _ ⟨.inr (HS.hd (by (repeat (first | exact subNil | (refine subCons ?_ ?_; (repeat (first | exact List.Mem.head _ | apply List.Mem.tail))))))), ?_⟩))
                clear HK K
                with_reducible apply wpSch_e_k
                (simp only [List.getElem?_toArray, List.getElem?_cons_zero, List.getElem?_cons_succ]; rfl)
                intro K HK
                go_wp2_with (go_at_call 49; (with_reducible refine (HAX.out _).mono ?_); rintro e w' ⟨rfl, H1⟩; replace HS := HS.fresh H1; clear H1)
                refine HK.out _ _ ⟨.inr (HS.hd (by (repeat (first | exact subNil | (refine subCons ?_ ?_; (repeat (first | exact List.Mem.head _ | apply List.Mem.tail))))))), ?_⟩
                clear HK K
                with_reducible apply wpSch_e_k
                (simp only [List.getElem?_toArray, List.getElem?_cons_zero, List.getElem?_cons_succ]; rfl)
                intro K HK
                go_wp2_with (go_at_call 49; (with_reducible refine (HAF.out _).mono ?_); rintro e w' ⟨rfl, H1⟩; replace HS := HS.fresh H1; clear H1)
                refine HK.out _ _ ⟨.inr (HS.hd (by (repeat (first | exact subNil | (refine subCons ?_ ?_; (repeat (first | exact List.Mem.head _ | apply List.Mem.tail))))))), ?_⟩
                clear HK K
                repeat (first | ((with_reducible apply cLoadB); (simp only [List.getElem?_toArray, List.getElem?_cons_zero, List.getElem?_cons_succ]; rfl); infer_instance; rfl; rfl; (repeat (first | exact List.Mem.head _ | apply List.Mem.tail)); with_reducible exact hz.out; (try simp only [Act.put, List.setIfInBounds_toArray, List.set_cons_zero, List.set_cons_succ])) | ((with_reducible apply wpSch_nilCheck); (simp only [List.getElem?_toArray, List.getElem?_cons_zero, List.getElem?_cons_succ]; rfl); rfl; rfl; (try simp only [Act.put, List.setIfInBounds_toArray, List.set_cons_zero, List.set_cons_succ])) | ((with_reducible apply wpSch_plain); (simp only [List.getElem?_toArray, List.getElem?_cons_zero, List.getElem?_cons_succ]; rfl); rfl; rfl; (intro K hK; go_big_quiet_op; go_big_quiet_on)) | ((with_reducible apply wpSch_skip); (simp only [List.getElem?_toArray, List.getElem?_cons_zero, List.getElem?_cons_succ]; rfl); rfl; (try simp only [Act.put, List.setIfInBounds_toArray, List.set_cons_zero, List.set_cons_succ])))
                with_reducible apply wpSch_e_k
                (simp only [List.getElem?_toArray, List.getElem?_cons_zero, List.getElem?_cons_succ]; rfl)
                intro K HK
                ((with_reducible apply sStoreB HS); infer_instance; rfl; rfl; (conv => (lhs; whnf)); (repeat (first | exact Rep.here | apply Rep.there)); rfl; rfl; (intro u hu; simp at hu; rcases hu with rfl | rfl <;> rfl); intro w' H1; clear HS; have HS := H1; clear H1)
                (try simp only [Act.put])
                refine wpList_nil (then_normal (HK.out _ _ ⟨.inl rfl, ?_⟩))
                clear HK K
                refine wpSch_nil ?_
                go_wp2
                (try simp only [Act.put])
                refine wp_region_quietF (by kernel_rfl) (by kernel_rfl) ?_
                repeat (first | go_big_quiet_skip | (((with_reducible apply qLoadB HS); infer_instance; rfl; rfl; (repeat (first | exact List.Mem.head _ | apply List.Mem.tail)); with_reducible exact hz.out); (try simp only [Act.put, List.setIfInBounds_toArray, List.set_cons_zero, List.set_cons_succ])) | (((with_reducible apply qLoad1 HS); infer_instance; rfl; rfl; (repeat (first | exact List.Mem.head _ | apply List.Mem.tail)); rfl); (try simp only [Act.put, List.setIfInBounds_toArray, List.set_cons_zero, List.set_cons_succ])) | (((with_reducible apply qLoadO1 HS); infer_instance; rfl; rfl; (repeat (first | exact List.Mem.head _ | apply List.Mem.tail)); exact hv0.out); (try simp only [Act.put, List.setIfInBounds_toArray, List.set_cons_zero, List.set_cons_succ])) | (go_big_quiet_want; go_big_quiet_op; first | go_big_quiet_on | (refine ⟨_, fun _ _ => rfl, ?_⟩; go_big_quiet_on) | (apply Exists.intro; refine ⟨fun wc hfr => ?_, ?_⟩; (· (go_at_call 49; exact fr_call hfr (HAF.out _))); go_big_quiet_on)))
                refine wpQuiet_nil ?_
                intro w1 hm1
                replace HS := HS.fresh hm1
                clear hm1
                go_wp2_with (first | ((with_reducible apply sLoadB HS); infer_instance; rfl; rfl; (repeat (first | exact List.Mem.head _ | apply List.Mem.tail)); rfl) | (at_builtin; (have H2 := HS.alloc #[.int .u32 x, .bool (f == 1)] 55); (with_reducible apply sAppend H2 Try.underlying25 infoTag rfl (by decide)); (conv => (lhs; whnf)); (intro v'; (repeat (first | exact Rep.here | apply Rep.there))); rfl; rotate_left; exact H2.newsAll (.head _); rotate_right; rfl; (intro u hu; simp at hu; rcases hu with rfl | rfl <;> rfl); decide; omega; intro v1 w9 H1 hnil; clear HS H2; have HS := H1.tail; clear H1 hnil; rw [HNS.out] at HS))
                go_roundw
                case rel => exact ⟨k + 1 + 1, by omega, by go_num, HST.out hyx, HFS.out hf1, HS.tail⟩
                case measure => simp [intOf]; omega
            · have hle : decide (x ≤ y) = true := decide_eq_true (by omega)
              have hle2 : x ≤ y := by omega
              have hrn : r = none := by rw [HR2.out, if_neg (fun h => by rw [HNO.out hyx] at h; exact absurd h.2 (by simp))]
              subst hrn
              go_wp2
              (try simp only [Act.put])
              refine wp_region_sch (.q 0 (.q 1 (.q 2 (.q 3 (.q 5 (.q 6 (.q 7 (.q 8 (.two 4 (.two 9 (.q 10 (.q 11 (.e 12 (.e 13 (.nil))))) 12 (.e 9 (.q 10 (.q 11 (.e 13 (.nil)))))) 12 (.e 4 (.e 9 (.q 10 (.q 11 (.e 13 (.nil))))))))))))))) (Hd [.blk true B1 (encB bs) 28]) (by kernel_rfl) (by kernel_rfl) (fun _ _ d _ _ h => by cases d <;> exact h) ?_
              intro w1 hm1
              replace HS := HS.fresh hm1
              clear hm1
              refine ⟨HS.hd (by (repeat (first | exact subNil | (refine subCons ?_ ?_; (repeat (first | exact List.Mem.head _ | apply List.Mem.tail)))))), ?_⟩
              repeat (first | ((with_reducible apply cLoadB); (simp only [List.getElem?_toArray, List.getElem?_cons_zero, List.getElem?_cons_succ]; rfl); infer_instance; rfl; rfl; (repeat (first | exact List.Mem.head _ | apply List.Mem.tail)); with_reducible exact hz.out; (try simp only [Act.put, List.setIfInBounds_toArray, List.set_cons_zero, List.set_cons_succ])) | ((with_reducible apply wpSch_nilCheck); (simp only [List.getElem?_toArray, List.getElem?_cons_zero, List.getElem?_cons_succ]; rfl); rfl; rfl; (try simp only [Act.put, List.setIfInBounds_toArray, List.set_cons_zero, List.set_cons_succ])) | ((with_reducible apply wpSch_plain); (simp only [List.getElem?_toArray, List.getElem?_cons_zero, List.getElem?_cons_succ]; rfl); rfl; rfl; (intro K hK; go_big_quiet_op; go_big_quiet_on)) | ((with_reducible apply wpSch_skip); (simp only [List.getElem?_toArray, List.getElem?_cons_zero, List.getElem?_cons_succ]; rfl); rfl; (try simp only [Act.put, List.setIfInBounds_toArray, List.set_cons_zero, List.set_cons_succ])))
              with_reducible apply wpSch_two_k
              (simp only [List.getElem?_toArray, List.getElem?_cons_zero, List.getElem?_cons_succ]; rfl)
              (simp only [List.getElem?_toArray, List.getElem?_cons_zero, List.getElem?_cons_succ]; rfl)
              · intro K HK
                go_wp2_with (go_at_call 49; (with_reducible refine (HAX.out _).mono ?_); rintro e w' ⟨rfl, H1⟩; replace HS := HS.fresh H1; clear H1)
                refine HK.out _ _ ⟨.inr (HS.hd (by (repeat (first | exact subNil | (refine subCons ?_ ?_; (repeat (first | exact List.Mem.head _ | apply List.Mem.tail))))))), ?_⟩
                clear HK K
                with_reducible apply wpSch_two_k
                (simp only [List.getElem?_toArray, List.getElem?_cons_zero, List.getElem?_cons_succ]; rfl)
                (simp only [List.getElem?_toArray, List.getElem?_cons_zero, List.getElem?_cons_succ]; rfl)
                · intro K HK
                  go_wp2_with (go_at_call 49; (with_reducible refine (HAF.out _).mono ?_); rintro e w' ⟨rfl, H1⟩; replace HS := HS.fresh H1; clear H1)
                  refine HK.out _ _ ⟨.inr (HS.hd (by (repeat (first | exact subNil | (refine subCons ?_ ?_; (repeat (first | exact List.Mem.head _ | apply List.Mem.tail))))))), ?_⟩
                  clear HK K
                  repeat (first | ((with_reducible apply cLoadB); (simp only [List.getElem?_toArray, List.getElem?_cons_zero, List.getElem?_cons_succ]; rfl); infer_instance; rfl; rfl; (repeat (first | exact List.Mem.head _ | apply List.Mem.tail)); with_reducible exact hz.out; (try simp only [Act.put, List.setIfInBounds_toArray, List.set_cons_zero, List.set_cons_succ])) | ((with_reducible apply wpSch_nilCheck); (simp only [List.getElem?_toArray, List.getElem?_cons_zero, List.getElem?_cons_succ]; rfl); rfl; rfl; (try simp only [Act.put, List.setIfInBounds_toArray, List.set_cons_zero, List.set_cons_succ])) | ((with_reducible apply wpSch_plain); (simp only [List.getElem?_toArray, List.getElem?_cons_zero, List.getElem?_cons_succ]; rfl); rfl; rfl; (intro K hK; go_big_quiet_op; go_big_quiet_on)) | ((with_reducible apply wpSch_skip); (simp only [List.getElem?_toArray, List.getElem?_cons_zero, List.getElem?_cons_succ]; rfl); rfl; (try simp only [Act.put, List.setIfInBounds_toArray, List.set_cons_zero, List.set_cons_succ])))
                  with_reducible apply wpSch_e_k
                  (simp only [List.getElem?_toArray, List.getElem?_cons_zero, List.getElem?_cons_succ]; rfl)
                  intro K HK
                  ((with_reducible apply sAlloc HS); infer_instance; (first | exact cells_agg _ | exact cells_one rfl); rfl; intro Bx w' H1; clear HS; have HS := H1; clear H1)
                  (try simp only [Act.put, List.setIfInBounds_toArray, List.set_cons_zero, List.set_cons_succ])
                  refine wpList_nil (then_normal (HK.out _ _ ⟨.inr (HS.hd (by (repeat (first | exact subNil | (refine subCons ?_ ?_; (repeat (first | exact List.Mem.head _ | apply List.Mem.tail))))))), ?_⟩))
                  clear HK K
                  with_reducible apply wpSch_e_k
                  (simp only [List.getElem?_toArray, List.getElem?_cons_zero, List.getElem?_cons_succ]; rfl)
                  intro K HK
                  ((with_reducible apply sStoreB HS); infer_instance; rfl; rfl; (conv => (lhs; whnf)); (repeat (first | exact Rep.here | apply Rep.there)); rfl; rfl; (intro u hu; simp at hu; rcases hu with rfl | rfl <;> rfl); intro w' H1; clear HS; have HS := H1; clear H1)
                  (try simp only [Act.put])
                  refine wpList_nil (then_normal (HK.out _ _ ⟨.inl rfl, ?_⟩))
                  clear HK K
                  refine wpSch_nil ?_
                  go_wp2
                  (try simp only [Act.put])
                  refine wp_region_quietF (by kernel_rfl) (by kernel_rfl) ?_
                  repeat (first | go_big_quiet_skip | (((with_reducible apply qLoadB HS); infer_instance; rfl; rfl; (repeat (first | exact List.Mem.head _ | apply List.Mem.tail)); with_reducible exact hz.out); (try simp only [Act.put, List.setIfInBounds_toArray, List.set_cons_zero, List.set_cons_succ])) | (((with_reducible apply qLoad1 HS); infer_instance; rfl; rfl; (repeat (first | exact List.Mem.head _ | apply List.Mem.tail)); rfl); (try simp only [Act.put, List.setIfInBounds_toArray, List.set_cons_zero, List.set_cons_succ])) | (((with_reducible apply qLoadO1 HS); infer_instance; rfl; rfl; (repeat (first | exact List.Mem.head _ | apply List.Mem.tail)); exact hv0.out); (try simp only [Act.put, List.setIfInBounds_toArray, List.set_cons_zero, List.set_cons_succ])) | (go_big_quiet_want; go_big_quiet_op; first | go_big_quiet_on | (refine ⟨_, fun _ _ => rfl, ?_⟩; go_big_quiet_on) | (apply Exists.intro; refine ⟨fun wc hfr => ?_, ?_⟩; (· (go_at_call 49; exact fr_call hfr (HAF.out _))); go_big_quiet_on)))
                  refine wpQuiet_nil ?_
                  intro w1 hm1
                  replace HS := HS.fresh hm1
                  clear hm1
                  go_wp2_with (first | ((with_reducible apply sLoadB HS); infer_instance; rfl; rfl; (repeat (first | exact List.Mem.head _ | apply List.Mem.tail)); rfl) | (at_builtin; (have H2 := HS.alloc #[.int .u32 x, .bool (f == 1)] 55); (with_reducible apply sAppend H2 Try.underlying25 infoTag rfl (by decide)); (conv => (lhs; whnf)); (intro v'; (repeat (first | exact Rep.here | apply Rep.there))); rfl; rotate_left; exact H2.newsAll (.head _); rotate_right; rfl; (intro u hu; simp at hu; rcases hu with rfl | rfl <;> rfl); decide; omega; intro v1 w9 H1 hnil; clear HS H2; have HS := H1.tail; clear H1 hnil; rw [HNS.out] at HS))
                  refine bodyPost_ret (res3 rfl (resTmp _ _ _) (resTmp _ _ _) (resTmp _ _ _)) rfl ⟨_, rfl, (by first | exact HS.tail.ownNil _ _ | exact HS.tail.tail.ownNil _ _ | exact HS.tail.tail.tail.ownNil _ _)⟩
                · intro K HK
                  ((with_reducible apply sAlloc HS); infer_instance; (first | exact cells_agg _ | exact cells_one rfl); rfl; intro Bx w' H1; clear HS; have HS := H1; clear H1)
                  (try simp only [Act.put, List.setIfInBounds_toArray, List.set_cons_zero, List.set_cons_succ])
                  refine wpList_nil (then_normal (HK.out _ _ ⟨.inr (HS.hd (by (repeat (first | exact subNil | (refine subCons ?_ ?_; (repeat (first | exact List.Mem.head _ | apply List.Mem.tail))))))), ?_⟩))
                  clear HK K
                  with_reducible apply wpSch_e_k
                  (simp only [List.getElem?_toArray, List.getElem?_cons_zero, List.getElem?_cons_succ]; rfl)
                  intro K HK
                  go_wp2_with (go_at_call 49; (with_reducible refine (HAF.out _).mono ?_); rintro e w' ⟨rfl, H1⟩; replace HS := HS.fresh H1; clear H1)
                  refine HK.out _ _ ⟨.inr (HS.hd (by (repeat (first | exact subNil | (refine subCons ?_ ?_; (repeat (first | exact List.Mem.head _ | apply List.Mem.tail))))))), ?_⟩
                  clear HK K
                  repeat (first | ((with_reducible apply cLoadB); (simp only [List.getElem?_toArray, List.getElem?_cons_zero, List.getElem?_cons_succ]; rfl); infer_instance; rfl; rfl; (repeat (first | exact List.Mem.head _ | apply List.Mem.tail)); with_reducible exact hz.out; (try simp only [Act.put, List.setIfInBounds_toArray, List.set_cons_zero, List.set_cons_succ])) | ((with_reducible apply wpSch_nilCheck); (simp only [List.getElem?_toArray, List.getElem?_cons_zero, List.getElem?_cons_succ]; rfl); rfl; rfl; (try simp only [Act.put, List.setIfInBounds_toArray, List.set_cons_zero, List.set_cons_succ])) | ((with_reducible apply wpSch_plain); (simp only [List.getElem?_toArray, List.getElem?_cons_zero, List.getElem?_cons_succ]; rfl); rfl; rfl; (intro K hK; go_big_quiet_op; go_big_quiet_on)) | ((with_reducible apply wpSch_skip); (simp only [List.getElem?_toArray, List.getElem?_cons_zero, List.getElem?_cons_succ]; rfl); rfl; (try simp only [Act.put, List.setIfInBounds_toArray, List.set_cons_zero, List.set_cons_succ])))
                  with_reducible apply wpSch_e_k
                  (simp only [List.getElem?_toArray, List.getElem?_cons_zero, List.getElem?_cons_succ]; rfl)
                  intro K HK
                  ((with_reducible apply sStoreB HS); infer_instance; rfl; rfl; (conv => (lhs; whnf)); (repeat (first | exact Rep.here | apply Rep.there)); rfl; rfl; (intro u hu; simp at hu; rcases hu with rfl | rfl <;> rfl); intro w' H1; clear HS; have HS := H1; clear H1)
                  (try simp only [Act.put])
                  refine wpList_nil (then_normal (HK.out _ _ ⟨.inl rfl, ?_⟩))
                  clear HK K
                  refine wpSch_nil ?_
                  go_wp2
                  (try simp only [Act.put])
                  refine wp_region_quietF (by kernel_rfl) (by kernel_rfl) ?_
                  repeat (first | go_big_quiet_skip | (((with_reducible apply qLoadB HS); infer_instance; rfl; rfl; (repeat (first | exact List.Mem.head _ | apply List.Mem.tail)); with_reducible exact hz.out); (try simp only [Act.put, List.setIfInBounds_toArray, List.set_cons_zero, List.set_cons_succ])) | (((with_reducible apply qLoad1 HS); infer_instance; rfl; rfl; (repeat (first | exact List.Mem.head _ | apply List.Mem.tail)); rfl); (try simp only [Act.put, List.setIfInBounds_toArray, List.set_cons_zero, List.set_cons_succ])) | (((with_reducible apply qLoadO1 HS); infer_instance; rfl; rfl; (repeat (first | exact List.Mem.head _ | apply List.Mem.tail)); exact hv0.out); (try simp only [Act.put, List.setIfInBounds_toArray, List.set_cons_zero, List.set_cons_succ])) | (go_big_quiet_want; go_big_quiet_op; first | go_big_quiet_on | (refine ⟨_, fun _ _ => rfl, ?_⟩; go_big_quiet_on) | (apply Exists.intro; refine ⟨fun wc hfr => ?_, ?_⟩; (· (go_at_call 49; exact fr_call hfr (HAF.out _))); go_big_quiet_on)))
                  refine wpQuiet_nil ?_
                  intro w1 hm1
                  replace HS := HS.fresh hm1
                  clear hm1
                  go_wp2_with (first | ((with_reducible apply sLoadB HS); infer_instance; rfl; rfl; (repeat (first | exact List.Mem.head _ | apply List.Mem.tail)); rfl) | (at_builtin; (have H2 := HS.alloc #[.int .u32 x, .bool (f == 1)] 55); (with_reducible apply sAppend H2 Try.underlying25 infoTag rfl (by decide)); (conv => (lhs; whnf)); (intro v'; (repeat (first | exact Rep.here | apply Rep.there))); rfl; rotate_left; exact H2.newsAll (.head _); rotate_right; rfl; (intro u hu; simp at hu; rcases hu with rfl | rfl <;> rfl); decide; omega; intro v1 w9 H1 hnil; clear HS H2; have HS := H1.tail; clear H1 hnil; rw [HNS.out] at HS))
                  refine bodyPost_ret (res3 rfl (resTmp _ _ _) (resTmp _ _ _) (resTmp _ _ _)) rfl ⟨_, rfl, (by first | exact HS.tail.ownNil _ _ | exact HS.tail.tail.ownNil _ _ | exact HS.tail.tail.tail.ownNil _ _)⟩
              · intro K HK
                ((with_reducible apply sAlloc HS); infer_instance; (first | exact cells_agg _ | exact cells_one rfl); rfl; intro Bx w' H1; clear HS; have HS := H1; clear H1)
                (try simp only [Act.put, List.setIfInBounds_toArray, List.set_cons_zero, List.set_cons_succ])
                refine wpList_nil (then_normal (HK.out _ _ ⟨.inr (HS.hd (by (repeat (first | exact subNil | (refine subCons ?_ ?_; (repeat (first | exact List.Mem.head _ | apply List.Mem.tail))))))), ?_⟩))
                clear HK K
                with_reducible apply wpSch_e_k
                (simp only [List.getElem?_toArray, List.getElem?_cons_zero, List.getElem?_cons_succ]; rfl)
                intro K HK
                go_wp2_with (go_at_call 49; (with_reducible refine (HAX.out _).mono ?_); rintro e w' ⟨rfl, H1⟩; replace HS := HS.fresh H1; clear H1)
                refine HK.out _ _ ⟨.inr (HS.hd (by (repeat (first | exact subNil | (refine subCons ?_ ?_; (repeat (first | exact List.Mem.head _ | apply List.Mem.tail))))))), ?_⟩
                clear HK K
                with_reducible apply wpSch_e_k
                (simp only [List.getElem?_toArray, List.getElem?_cons_zero, List.getElem?_cons_succ]; rfl)
                intro K HK
                go_wp2_with (go_at_call 49; (with_reducible refine (HAF.out _).mono ?_); rintro e w' ⟨rfl, H1⟩; replace HS := HS.fresh H1; clear H1)
                refine HK.out _ _ ⟨.inr (HS.hd (by (repeat (first | exact subNil | (refine subCons ?_ ?_; (repeat (first | exact List.Mem.head _ | apply List.Mem.tail))))))), ?_⟩
                clear HK K
                repeat (first | ((with_reducible apply cLoadB); (simp only [List.getElem?_toArray, List.getElem?_cons_zero, List.getElem?_cons_succ]; rfl); infer_instance; rfl; rfl; (repeat (first | exact List.Mem.head _ | apply List.Mem.tail)); with_reducible exact hz.out; (try simp only [Act.put, List.setIfInBounds_toArray, List.set_cons_zero, List.set_cons_succ])) | ((with_reducible apply wpSch_nilCheck); (simp only [List.getElem?_toArray, List.getElem?_cons_zero, List.getElem?_cons_succ]; rfl); rfl; rfl; (try simp only [Act.put, List.setIfInBounds_toArray, List.set_cons_zero, List.set_cons_succ])) | ((with_reducible apply wpSch_plain); (simp only [List.getElem?_toArray, List.getElem?_cons_zero, List.getElem?_cons_succ]; rfl); rfl; rfl; (intro K hK; go_big_quiet_op; go_big_quiet_on)) | ((with_reducible apply wpSch_skip); (simp only [List.getElem?_toArray, List.getElem?_cons_zero, List.getElem?_cons_succ]; rfl); rfl; (try simp only [Act.put, List.setIfInBounds_toArray, List.set_cons_zero, List.set_cons_succ])))
                with_reducible apply wpSch_e_k
                (simp only [List.getElem?_toArray, List.getElem?_cons_zero, List.getElem?_cons_succ]; rfl)
                intro K HK
                ((with_reducible apply sStoreB HS); infer_instance; rfl; rfl; (conv => (lhs; whnf)); (repeat (first | exact Rep.here | apply Rep.there)); rfl; rfl; (intro u hu; simp at hu; rcases hu with rfl | rfl <;> rfl); intro w' H1; clear HS; have HS := H1; clear H1)
                (try simp only [Act.put])
                refine wpList_nil (then_normal (HK.out _ _ ⟨.inl rfl, ?_⟩))
                clear HK K
                refine wpSch_nil ?_
                go_wp2
                (try simp only [Act.put])
                refine wp_region_quietF (by kernel_rfl) (by kernel_rfl) ?_
                repeat (first | go_big_quiet_skip | (((with_reducible apply qLoadB HS); infer_instance; rfl; rfl; (repeat (first | exact List.Mem.head _ | apply List.Mem.tail)); with_reducible exact hz.out); (try simp only [Act.put, List.setIfInBounds_toArray, List.set_cons_zero, List.set_cons_succ])) | (((with_reducible apply qLoad1 HS); infer_instance; rfl; rfl; (repeat (first | exact List.Mem.head _ | apply List.Mem.tail)); rfl); (try simp only [Act.put, List.setIfInBounds_toArray, List.set_cons_zero, List.set_cons_succ])) | (((with_reducible apply qLoadO1 HS); infer_instance; rfl; rfl; (repeat (first | exact List.Mem.head _ | apply List.Mem.tail)); exact hv0.out); (try simp only [Act.put, List.setIfInBounds_toArray, List.set_cons_zero, List.set_cons_succ])) | (go_big_quiet_want; go_big_quiet_op; first | go_big_quiet_on | (refine ⟨_, fun _ _ => rfl, ?_⟩; go_big_quiet_on) | (apply Exists.intro; refine ⟨fun wc hfr => ?_, ?_⟩; (· (go_at_call 49; exact fr_call hfr (HAF.out _))); go_big_quiet_on)))
                refine wpQuiet_nil ?_
                intro w1 hm1
                replace HS := HS.fresh hm1
                clear hm1
                go_wp2_with (first | ((with_reducible apply sLoadB HS); infer_instance; rfl; rfl; (repeat (first | exact List.Mem.head _ | apply List.Mem.tail)); rfl) | (at_builtin; (have H2 := HS.alloc #[.int .u32 x, .bool (f == 1)] 55); (with_reducible apply sAppend H2 Try.underlying25 infoTag rfl (by decide)); (conv => (lhs; whnf)); (intro v'; (repeat (first | exact Rep.here | apply Rep.there))); rfl; rotate_left; exact H2.newsAll (.head _); rotate_right; rfl; (intro u hu; simp at hu; rcases hu with rfl | rfl <;> rfl); decide; omega; intro v1 w9 H1 hnil; clear HS H2; have HS := H1.tail; clear H1 hnil; rw [HNS.out] at HS))
                refine bodyPost_ret (res3 rfl (resTmp _ _ _) (resTmp _ _ _) (resTmp _ _ _)) rfl ⟨_, rfl, (by first | exact HS.tail.ownNil _ _ | exact HS.tail.tail.ownNil _ _ | exact HS.tail.tail.tail.ownNil _ _)⟩
          · have hfd : decide ((1 : Int) < f) = true := decide_eq_true (by omega)
            have hfI : (1 : Int) < f := by omega
            have hrn : r = none := by rw [HR2.out, if_neg (fun h => HFK.out hf1 h.1)]
            subst hrn
            go_wp2
            (try simp only [Act.put])
            refine wp_region_sch (.q 0 (.q 1 (.q 2 (.q 3 (.q 5 (.q 6 (.q 7 (.q 8 (.two 4 (.two 9 (.q 10 (.q 11 (.e 12 (.e 13 (.nil))))) 12 (.e 9 (.q 10 (.q 11 (.e 13 (.nil)))))) 12 (.e 4 (.e 9 (.q 10 (.q 11 (.e 13 (.nil))))))))))))))) (Hd [.blk true B1 (encB bs) 28]) (by kernel_rfl) (by kernel_rfl) (fun _ _ d _ _ h => by cases d <;> exact h) ?_
            intro w1 hm1
            replace HS := HS.fresh hm1
            clear hm1
            refine ⟨HS.hd (by (repeat (first | exact subNil | (refine subCons ?_ ?_; (repeat (first | exact List.Mem.head _ | apply List.Mem.tail)))))), ?_⟩
            repeat (first | ((with_reducible apply cLoadB); (simp only [List.getElem?_toArray, List.getElem?_cons_zero, List.getElem?_cons_succ]; rfl); infer_instance; rfl; rfl; (repeat (first | exact List.Mem.head _ | apply List.Mem.tail)); with_reducible exact hz.out; (try simp only [Act.put, List.setIfInBounds_toArray, List.set_cons_zero, List.set_cons_succ])) | ((with_reducible apply wpSch_nilCheck); (simp only [List.getElem?_toArray, List.getElem?_cons_zero, List.getElem?_cons_succ]; rfl); rfl; rfl; (try simp only [Act.put, List.setIfInBounds_toArray, List.set_cons_zero, List.set_cons_succ])) | ((with_reducible apply wpSch_plain); (simp only [List.getElem?_toArray, List.getElem?_cons_zero, List.getElem?_cons_succ]; rfl); rfl; rfl; (intro K hK; go_big_quiet_op; go_big_quiet_on)) | ((with_reducible apply wpSch_skip); (simp only [List.getElem?_toArray, List.getElem?_cons_zero, List.getElem?_cons_succ]; rfl); rfl; (try simp only [Act.put, List.setIfInBounds_toArray, List.set_cons_zero, List.set_cons_succ])))
            with_reducible apply wpSch_two_k
            (simp only [List.getElem?_toArray, List.getElem?_cons_zero, List.getElem?_cons_succ]; rfl)
            (simp only [List.getElem?_toArray, List.getElem?_cons_zero, List.getElem?_cons_succ]; rfl)
            · intro K HK
              go_wp2_with (go_at_call 49; (with_reducible refine (HAX.out _).mono ?_); rintro e w' ⟨rfl, H1⟩; replace HS := HS.fresh H1; clear H1)
              refine HK.out _ _ ⟨.inr (HS.hd (by (repeat (first | exact subNil | (refine subCons ?_ ?_; (repeat (first | exact List.Mem.head _ | apply List.Mem.tail))))))), ?_⟩
              clear HK K
              with_reducible apply wpSch_two_k
              (simp only [List.getElem?_toArray, List.getElem?_cons_zero, List.getElem?_cons_succ]; rfl)
              (simp only [List.getElem?_toArray, List.getElem?_cons_zero, List.getElem?_cons_succ]; rfl)
              · intro K HK
                go_wp2_with (go_at_call 49; (with_reducible refine (HAF.out _).mono ?_); rintro e w' ⟨rfl, H1⟩; replace HS := HS.fresh H1; clear H1)
                refine HK.out _ _ ⟨.inr (HS.hd (by (repeat (first | exact subNil | (refine subCons ?_ ?_; (repeat (first | exact List.Mem.head _ | apply List.Mem.tail))))))), ?_⟩
                clear HK K
                repeat (first | ((with_reducible apply cLoadB); (simp only [List.getElem?_toArray, List.getElem?_cons_zero, List.getElem?_cons_succ]; rfl); infer_instance; rfl; rfl; (repeat (first | exact List.Mem.head _ | apply List.Mem.tail)); with_reducible exact hz.out; (try simp only [Act.put, List.setIfInBounds_toArray, List.set_cons_zero, List.set_cons_succ])) | ((with_reducible apply wpSch_nilCheck); (simp only [List.getElem?_toArray, List.getElem?_cons_zero, List.getElem?_cons_succ]; rfl); rfl; rfl; (try simp only [Act.put, List.setIfInBounds_toArray, List.set_cons_zero, List.set_cons_succ])) | ((with_reducible apply wpSch_plain); (simp only [List.getElem?_toArray, List.getElem?_cons_zero, List.getElem?_cons_succ]; rfl); rfl; rfl; (intro K hK; go_big_quiet_op; go_big_quiet_on)) | ((with_reducible apply wpSch_skip); (simp only [List.getElem?_toArray, List.getElem?_cons_zero, List.getElem?_cons_succ]; rfl); rfl; (try simp only [Act.put, List.setIfInBounds_toArray, List.set_cons_zero, List.set_cons_succ])))
                with_reducible apply wpSch_e_k
                (simp only [List.getElem?_toArray, List.getElem?_cons_zero, List.getElem?_cons_succ]; rfl)
                intro K HK
                ((with_reducible apply sAlloc HS); infer_instance; (first | exact cells_agg _ | exact cells_one rfl); rfl; intro Bx w' H1; clear HS; have HS := H1; clear H1)
                (try simp only [Act.put, List.setIfInBounds_toArray, List.set_cons_zero, List.set_cons_succ])
                refine wpList_nil (then_normal (HK.out _ _ ⟨.inr (HS.hd (by (repeat (first | exact subNil | (refine subCons ?_ ?_; (repeat (first | exact List.Mem.head _ | apply List.Mem.tail))))))), ?_⟩))
                clear HK K
                with_reducible apply wpSch_e_k
                (simp only [List.getElem?_toArray, List.getElem?_cons_zero, List.getElem?_cons_succ]; rfl)
                intro K HK
                ((with_reducible apply sStoreB HS); infer_instance; rfl; rfl; (conv => (lhs; whnf)); (repeat (first | exact Rep.here | apply Rep.there)); rfl; rfl; (intro u hu; simp at hu; rcases hu with rfl | rfl <;> rfl); intro w' H1; clear HS; have HS := H1; clear H1)
                (try simp only [Act.put])
                refine wpList_nil (then_normal (HK.out _ _ ⟨.inl rfl, ?_⟩))
                clear HK K
                refine wpSch_nil ?_
                go_wp2
                (try simp only [Act.put])
                refine wp_region_quietF (by kernel_rfl) (by kernel_rfl) ?_
                repeat (first | go_big_quiet_skip | (((with_reducible apply qLoadB HS); infer_instance; rfl; rfl; (repeat (first | exact List.Mem.head _ | apply List.Mem.tail)); with_reducible exact hz.out); (try simp only [Act.put, List.setIfInBounds_toArray, List.set_cons_zero, List.set_cons_succ])) | (((with_reducible apply qLoad1 HS); infer_instance; rfl; rfl; (repeat (first | exact List.Mem.head _ | apply List.Mem.tail)); rfl); (try simp only [Act.put, List.setIfInBounds_toArray, List.set_cons_zero, List.set_cons_succ])) | (((with_reducible apply qLoadO1 HS); infer_instance; rfl; rfl; (repeat (first | exact List.Mem.head _ | apply List.Mem.tail)); exact hv0.out); (try simp only [Act.put, List.setIfInBounds_toArray, List.set_cons_zero, List.set_cons_succ])) | (go_big_quiet_want; go_big_quiet_op; first | go_big_quiet_on | (refine ⟨_, fun _ _ => rfl, ?_⟩; go_big_quiet_on) | (apply Exists.intro; refine ⟨fun wc hfr => ?_, ?_⟩; (· (go_at_call 49; exact fr_call hfr (HAF.out _))); go_big_quiet_on)))
                refine wpQuiet_nil ?_
                intro w1 hm1
                replace HS := HS.fresh hm1
                clear hm1
                go_wp2_with (first | ((with_reducible apply sLoadB HS); infer_instance; rfl; rfl; (repeat (first | exact List.Mem.head _ | apply List.Mem.tail)); rfl) | (at_builtin; (have H2 := HS.alloc #[.int .u32 x, .bool (f == 1)] 55); (with_reducible apply sAppend H2 Try.underlying25 infoTag rfl (by decide)); (conv => (lhs; whnf)); (intro v'; (repeat (first | exact Rep.here | apply Rep.there))); rfl; rotate_left; exact H2.newsAll (.head _); rotate_right; rfl; (intro u hu; simp at hu; rcases hu with rfl | rfl <;> rfl); decide; omega; intro v1 w9 H1 hnil; clear HS H2; have HS := H1.tail; clear H1 hnil; rw [HNS.out] at HS))
                refine bodyPost_ret (res3 rfl (resTmp _ _ _) (resTmp _ _ _) (resTmp _ _ _)) rfl ⟨_, rfl, (by first | exact HS.tail.ownNil _ _ | exact HS.tail.tail.ownNil _ _ | exact HS.tail.tail.tail.ownNil _ _)⟩
              · intro K HK
                ((with_reducible apply sAlloc HS); infer_instance; (first | exact cells_agg _ | exact cells_one rfl); rfl; intro Bx w' H1; clear HS; have HS := H1; clear H1)
                (try simp only [Act.put, List.setIfInBounds_toArray, List.set_cons_zero, List.set_cons_succ])
                refine wpList_nil (then_normal (HK.out _ _ ⟨.inr (HS.hd (by (repeat (first | exact subNil | (refine subCons ?_ ?_; (repeat (first | exact List.Mem.head _ | apply List.Mem.tail))))))), ?_⟩))
                clear HK K
                with_reducible apply wpSch_e_k
                (simp only [List.getElem?_toArray, List.getElem?_cons_zero, List.getElem?_cons_succ]; rfl)
                intro K HK
                go_wp2_with (go_at_call 49; (with_reducible refine (HAF.out _).mono ?_); rintro e w' ⟨rfl, H1⟩; replace HS := HS.fresh H1; clear H1)
                refine HK.out _ _ ⟨.inr (HS.hd (by (repeat (first | exact subNil | (refine subCons ?_ ?_; (repeat (first | exact List.Mem.head _ | apply List.Mem.tail))))))), ?_⟩
                clear HK K
                repeat (first | ((with_reducible apply cLoadB); (simp only [List.getElem?_toArray, List.getElem?_cons_zero, List.getElem?_cons_succ]; rfl); infer_instance; rfl; rfl; (repeat (first | exact List.Mem.head _ | apply List.Mem.tail)); with_reducible exact hz.out; (try simp only [Act.put, List.setIfInBounds_toArray, List.set_cons_zero, List.set_cons_succ])) | ((with_reducible apply wpSch_nilCheck); (simp only [List.getElem?_toArray, List.getElem?_cons_zero, List.getElem?_cons_succ]; rfl); rfl; rfl; (try simp only [Act.put, List.setIfInBounds_toArray, List.set_cons_zero, List.set_cons_succ])) | ((with_reducible apply wpSch_plain); (simp only [List.getElem?_toArray, List.getElem?_cons_zero, List.getElem?_cons_succ]; rfl); rfl; rfl; (intro K hK; go_big_quiet_op; go_big_quiet_on)) | ((with_reducible apply wpSch_skip); (simp only [List.getElem?_toArray, List.getElem?_cons_zero, List.getElem?_cons_succ]; rfl); rfl; (try simp only [Act.put, List.setIfInBounds_toArray, List.set_cons_zero, List.set_cons_succ])))
                with_reducible apply wpSch_e_k
                (simp only [List.getElem?_toArray, List.getElem?_cons_zero, List.getElem?_cons_succ]; rfl)
                intro K HK
                ((with_reducible apply sStoreB HS); infer_instance; rfl; rfl; (conv => (lhs; whnf)); (repeat (first | exact Rep.here | apply Rep.there)); rfl; rfl; (intro u hu; simp at hu; rcases hu with rfl | rfl <;> rfl); intro w' H1; clear HS; have HS := H1; clear H1)
                (try simp only [Act.put])
                refine wpList_nil (then_normal (HK.out _ _ ⟨.inl rfl, ?_⟩))
                clear HK K
                refine wpSch_nil ?_
                go_wp2
                (try simp only [Act.put])
                refine wp_region_quietF (by kernel_rfl) (by kernel_rfl) ?_
                repeat (first | go_big_quiet_skip | (((with_reducible apply qLoadB HS); infer_instance; rfl; rfl; (repeat (first | exact List.Mem.head _ | apply List.Mem.tail)); with_reducible exact hz.out); (try simp only [Act.put, List.setIfInBounds_toArray, List.set_cons_zero, List.set_cons_succ])) | (((with_reducible apply qLoad1 HS); infer_instance; rfl; rfl; (repeat (first | exact List.Mem.head _ | apply List.Mem.tail)); rfl); (try simp only [Act.put, List.setIfInBounds_toArray, List.set_cons_zero, List.set_cons_succ])) | (((with_reducible apply qLoadO1 HS); infer_instance; rfl; rfl; (repeat (first | exact List.Mem.head _ | apply List.Mem.tail)); exact hv0.out); (try simp only [Act.put, List.setIfInBounds_toArray, List.set_cons_zero, List.set_cons_succ])) | (go_big_quiet_want; go_big_quiet_op; first | go_big_quiet_on | (refine ⟨_, fun _ _ => rfl, ?_⟩; go_big_quiet_on) | (apply Exists.intro; refine ⟨fun wc hfr => ?_, ?_⟩; (· (go_at_call 49; exact fr_call hfr (HAF.out _))); go_big_quiet_on)))
                refine wpQuiet_nil ?_
                intro w1 hm1
                replace HS := HS.fresh hm1
                clear hm1
                go_wp2_with (first | ((with_reducible apply sLoadB HS); infer_instance; rfl; rfl; (repeat (first | exact List.Mem.head _ | apply List.Mem.tail)); rfl) | (at_builtin; (have H2 := HS.alloc #[.int .u32 x, .bool (f == 1)] 55); (with_reducible apply sAppend H2 Try.underlying25 infoTag rfl (by decide)); (conv => (lhs; whnf)); (intro v'; (repeat (first | exact Rep.here | apply Rep.there))); rfl; rotate_left; exact H2.newsAll (.head _); rotate_right; rfl; (intro u hu; simp at hu; rcases hu with rfl | rfl <;> rfl); decide; omega; intro v1 w9 H1 hnil; clear HS H2; have HS := H1.tail; clear H1 hnil; rw [HNS.out] at HS))
                refine bodyPost_ret (res3 rfl (resTmp _ _ _) (resTmp _ _ _) (resTmp _ _ _)) rfl ⟨_, rfl, (by first | exact HS.tail.ownNil _ _ | exact HS.tail.tail.ownNil _ _ | exact HS.tail.tail.tail.ownNil _ _)⟩
            · intro K HK
              ((with_reducible apply sAlloc HS); infer_instance; (first | exact cells_agg _ | exact cells_one rfl); rfl; intro Bx w' H1; clear HS; have HS := H1; clear H1)
              (try simp only [Act.put, List.setIfInBounds_toArray, List.set_cons_zero, List.set_cons_succ])
              refine wpList_nil (then_normal (HK.out _ _ ⟨.inr (HS.hd (by (repeat (first | exact subNil | (refine subCons ?_ ?_; (repeat (first | exact List.Mem.head _ | apply List.Mem.tail))))))), ?_⟩))
              clear HK K
              with_reducible apply wpSch_e_k
              (simp only [List.getElem?_toArray, List.getElem?_cons_zero, List.getElem?_cons_succ]; rfl)
              intro K HK
              go_wp2_with (go_at_call 49; (with_reducible refine (HAX.out _).mono ?_); rintro e w' ⟨rfl, H1⟩; replace HS := HS.fresh H1; clear H1)
              refine HK.out _ _ ⟨.inr (HS.hd (by (repeat (first | exact subNil | (refine subCons ?_ ?_; (repeat (first | exact List.Mem.head _ | apply List.Mem.tail))))))), ?_⟩
              clear HK K
              with_reducible apply wpSch_e_k
              (simp only [List.getElem?_toArray, List.getElem?_cons_zero, List.getElem?_cons_succ]; rfl)
              intro K HK
              go_wp2_with (go_at_call 49; (with_reducible refine (HAF.out _).mono ?_); rintro e w' ⟨rfl, H1⟩; replace HS := HS.fresh H1; clear H1)
              refine HK.out _ _ ⟨.inr (HS.hd (by (repeat (first | exact subNil | (refine subCons ?_ ?_; (repeat (first | exact List.Mem.head _ | apply List.Mem.tail))))))), ?_⟩
              clear HK K
              repeat (first | ((with_reducible apply cLoadB); (simp only [List.getElem?_toArray, List.getElem?_cons_zero, List.getElem?_cons_succ]; rfl); infer_instance; rfl; rfl; (repeat (first | exact List.Mem.head _ | apply List.Mem.tail)); with_reducible exact hz.out; (try simp only [Act.put, List.setIfInBounds_toArray, List.set_cons_zero, List.set_cons_succ])) | ((with_reducible apply wpSch_nilCheck); (simp only [List.getElem?_toArray, List.getElem?_cons_zero, List.getElem?_cons_succ]; rfl); rfl; rfl; (try simp only [Act.put, List.setIfInBounds_toArray, List.set_cons_zero, List.set_cons_succ])) | ((with_reducible apply wpSch_plain); (simp only [List.getElem?_toArray, List.getElem?_cons_zero, List.getElem?_cons_succ]; rfl); rfl; rfl; (intro K hK; go_big_quiet_op; go_big_quiet_on)) | ((with_reducible apply wpSch_skip); (simp only [List.getElem?_toArray, List.getElem?_cons_zero, List.getElem?_cons_succ]; rfl); rfl; (try simp only [Act.put, List.setIfInBounds_toArray, List.set_cons_zero, List.set_cons_succ])))
              with_reducible apply wpSch_e_k
              (simp only [List.getElem?_toArray, List.getElem?_cons_zero, List.getElem?_cons_succ]; rfl)
              intro K HK
              ((with_reducible apply sStoreB HS); infer_instance; rfl; rfl; (conv => (lhs; whnf)); (repeat (first | exact Rep.here | apply Rep.there)); rfl; rfl; (intro u hu; simp at hu; rcases hu with rfl | rfl <;> rfl); intro w' H1; clear HS; have HS := H1; clear H1)
              (try simp only [Act.put])
              refine wpList_nil (then_normal (HK.out _ _ ⟨.inl rfl, ?_⟩))
              clear HK K
              refine wpSch_nil ?_
              go_wp2
              (try simp only [Act.put])
              refine wp_region_quietF (by kernel_rfl) (by kernel_rfl) ?_
              repeat (first | go_big_quiet_skip | (((with_reducible apply qLoadB HS); infer_instance; rfl; rfl; (repeat (first | exact List.Mem.head _ | apply List.Mem.tail)); with_reducible exact hz.out); (try simp only [Act.put, List.setIfInBounds_toArray, List.set_cons_zero, List.set_cons_succ])) | (((with_reducible apply qLoad1 HS); infer_instance; rfl; rfl; (repeat (first | exact List.Mem.head _ | apply List.Mem.tail)); rfl); (try simp only [Act.put, List.setIfInBounds_toArray, List.set_cons_zero, List.set_cons_succ])) | (((with_reducible apply qLoadO1 HS); infer_instance; rfl; rfl; (repeat (first | exact List.Mem.head _ | apply List.Mem.tail)); exact hv0.out); (try simp only [Act.put, List.setIfInBounds_toArray, List.set_cons_zero, List.set_cons_succ])) | (go_big_quiet_want; go_big_quiet_op; first | go_big_quiet_on | (refine ⟨_, fun _ _ => rfl, ?_⟩; go_big_quiet_on) | (apply Exists.intro; refine ⟨fun wc hfr => ?_, ?_⟩; (· (go_at_call 49; exact fr_call hfr (HAF.out _))); go_big_quiet_on)))
              refine wpQuiet_nil ?_
              intro w1 hm1
              replace HS := HS.fresh hm1
              clear hm1
              go_wp2_with (first | ((with_reducible apply sLoadB HS); infer_instance; rfl; rfl; (repeat (first | exact List.Mem.head _ | apply List.Mem.tail)); rfl) | (at_builtin; (have H2 := HS.alloc #[.int .u32 x, .bool (f == 1)] 55); (with_reducible apply sAppend H2 Try.underlying25 infoTag rfl (by decide)); (conv => (lhs; whnf)); (intro v'; (repeat (first | exact Rep.here | apply Rep.there))); rfl; rotate_left; exact H2.newsAll (.head _); rotate_right; rfl; (intro u hu; simp at hu; rcases hu with rfl | rfl <;> rfl); decide; omega; intro v1 w9 H1 hnil; clear HS H2; have HS := H1.tail; clear H1 hnil; rw [HNS.out] at HS))
              refine bodyPost_ret (res3 rfl (resTmp _ _ _) (resTmp _ _ _) (resTmp _ _ _)) rfl ⟨_, rfl, (by first | exact HS.tail.ownNil _ _ | exact HS.tail.tail.ownNil _ _ | exact HS.tail.tail.tail.ownNil _ _)⟩
      · obtain rfl : k = n := by omega
        have hltI : decide ((k : Int) < (k : Int)) = false := decide_eq_false (by omega)
        have hrise : risesT (tagsOf bs k) = true := (riseTt_all _).1 (by rw [tagsOf_len]; exact HRI.out)
        have hrn : r = some (v8, tagsOf bs k) := by rw [HR2.out, if_pos ⟨HFL.out, hrise⟩]
        subst hrn
        have HLK : Hid ((tagsOf bs k).length = k) := tagsOf_len bs k
        clear hrise HR2
        go_wp2_with (first | ((with_reducible apply sBox HS); rfl; (conv => (lhs; whnf)); (first | exact cells_agg _ | exact cells_one rfl); intro B1 w' H1; clear HS; have HS := H1; clear H1) | ((with_reducible apply sLoadB HS); infer_instance; rfl; rfl; (repeat (first | exact List.Mem.head _ | apply List.Mem.tail)); with_reducible exact hz.out) | (go_at_call 48; refine (HBG.out _).mono ?_; rintro e w' ⟨rfl, H1⟩; replace HS := HS.fresh H1; clear H1) | (go_at_call 49; (with_reducible refine (A12.out _).mono ?_); rintro e w' ⟨rfl, H1⟩; replace HS := HS.fresh H1; clear H1) | (go_at_call 49; (with_reducible refine (A8.out _).mono ?_); rintro e w' ⟨rfl, H1⟩; replace HS := HS.fresh H1; clear H1) | (go_at_call 50; (with_reducible refine (HZ.out _ _ ?_).mono ?_); exact (HS.blk (by (repeat (first | exact List.Mem.head _ | apply List.Mem.tail)))); rintro e w' ⟨rfl, rfl⟩) | (go_at_call 50; (with_reducible refine (HZ0.out _ _ ?_).mono ?_); exact (HS.blk (by (repeat (first | exact List.Mem.head _ | apply List.Mem.tail)))); rintro e w' ⟨rfl, rfl⟩))
        refine bodyPost_ret (res3 rfl (resTmp _ _ _) (resTmp _ _ _) (resTmp _ _ _)) rfl ⟨_, rfl, ?_⟩
        show St S w0 _ (.own _ 55 2 (tagsOf bs k).length (encTl (tagsOf bs k)) :: L)
        rw [HLK.out]
        exact HS.swap.tail
end Go.Proofs.Ytckadanghhibhaa
