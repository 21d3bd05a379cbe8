/- The reference's readers of heads and commit blocks; its kinds. -/
import Derived.Test.YtckadanghhibhaaRdp
import Derived.Test.YtckadanghhibhaaJrd
import Derived.Test.YtckadanghhibhaaJwA
namespace Go.Proofs.Ytckadanghhibhaa
open Go Go.RowKit

instance : Zero0 Try.prog 24 (.agg #[.int .u32 0, .int .i64 0]) := ⟨by kernel_rfl⟩
set_option maxRecDepth 100000 in
theorem rat (bs : List UInt8) (hl : bs.length = 256) (w : World) (k : Nat) (q : Int) (hq : q = (k : Int)) (hk : k + 4 ≤ 256) :
    Calls Try.prog 49 #[.agg (encB bs), .int .i64 q] w fun e w' => e = .returned (.int .u32 (get32 bs k)) ∧ Mod none' w w' := by
  subst hq
  have HS := St.nil none' w
  have HL := Lib.hid hl
  have HG := Lib.hid (fun B W (h : W.heap[B]? = some (.cells (encB bs) 28 (0, 0))) => rget_yes B 0 256 256 k bs _ W h (by rw [HL.out]; omega) hk (by omega))
  have hz : Hid ((encB bs).size = 256) := (encB_size _).trans hl
  clear hl
  rw [Nat.zero_add] at HG
  obtain ⟨v, hv⟩ : ∃ v, get32 bs k = v := ⟨_, rfl⟩
  rw [hv] at HG ⊢
  go_enter Try.func49, Try.ntmps49
  go_wp2_with (first | ((with_reducible apply sBox HS); rfl; (conv => (lhs; whnf)); (first | exact cells_agg _ | exact cells_one rfl); intro B1 w' H1; clear HS; have HS := H1; clear H1) | (go_at_call 59; refine (HG.out _ _ (HS.blk (.head _))).mono ?_; rintro e w' ⟨rfl, nd, rfl⟩; replace HS := HS.fresh ((Mod.refl _ _).drewN nd)))
  go_ret
  exact ⟨rfl, HS.mod⟩

set_option maxRecDepth 100000 in
theorem rbeg (bs : List UInt8) (hl : bs.length = 256) (k : Int) (w : World) :
    Calls Try.prog 48 #[.agg (encB bs), .int .u32 k] w fun e w' => e = .returned (.bool (begB bs k)) ∧ Mod none' w w' := by
  have HS := St.nil none' w
  have A0 := Lib.hid (fun W => rat bs hl W 0 0 rfl (by decide))
  have A4 := Lib.hid (fun W => rat bs hl W 4 4 rfl (by decide))
  have A8 := Lib.hid (fun W => rat bs hl W 8 8 rfl (by decide))
  have HQ := Lib.hid (fun W => rseq (get32 bs 8) W)
  have hz : Hid ((encB bs).size = 256) := (encB_size _).trans hl
  obtain ⟨r, hr⟩ : ∃ r, begB bs k = r := ⟨_, rfl⟩
  have HR : Hid (r = (get32 bs 0 == 1280199249 && get32 bs 4 == k && seqB (get32 bs 8))) := hr.symm
  rw [hr]
  clear hr hl
  generalize get32 bs 0 = v0 at *
  generalize get32 bs 4 = v4 at *
  generalize get32 bs 8 = v8 at *
  cases h0 : (v0 == 1280199249)
  · have hrr : r = false := by rw [HR.out, h0]; rfl
    subst hrr
    have h0I := beq_eq_false_iff_ne.1 h0
    clear HR
    go_enter Try.func48, Try.ntmps48
    go_wp2_with (first | ((with_reducible apply sBox HS); rfl; (conv => (lhs; whnf)); (first | exact cells_agg _ | exact cells_one rfl); intro B1 w' H1; clear HS; have HS := H1; clear H1) | ((with_reducible apply sLoadB HS); infer_instance; rfl; rfl; (repeat (first | exact List.Mem.head _ | apply List.Mem.tail)); exact hz.out) | (go_at_call 49; (with_reducible refine (A0.out _).mono ?_); rintro e w' ⟨rfl, H1⟩; replace HS := HS.fresh H1; clear H1) | (go_at_call 49; (with_reducible refine (A4.out _).mono ?_); rintro e w' ⟨rfl, H1⟩; replace HS := HS.fresh H1; clear H1) | (go_at_call 49; (with_reducible refine (A8.out _).mono ?_); rintro e w' ⟨rfl, H1⟩; replace HS := HS.fresh H1; clear H1) | (go_at_call 39; refine (HQ.out _).mono ?_; rintro e w' ⟨rfl, rfl⟩))
    go_ret
    exact ⟨rfl, HS.mod⟩
  · obtain rfl := beq_iff_eq.1 h0
    cases h4 : (v4 == k)
    · have hrr : r = false := by rw [HR.out, h4]; rfl
      subst hrr
      have h4I := beq_eq_false_iff_ne.1 h4
      clear HR h0
      go_enter Try.func48, Try.ntmps48
      go_wp2_with (first | ((with_reducible apply sBox HS); rfl; (conv => (lhs; whnf)); (first | exact cells_agg _ | exact cells_one rfl); intro B1 w' H1; clear HS; have HS := H1; clear H1) | ((with_reducible apply sLoadB HS); infer_instance; rfl; rfl; (repeat (first | exact List.Mem.head _ | apply List.Mem.tail)); exact hz.out) | (go_at_call 49; (with_reducible refine (A0.out _).mono ?_); rintro e w' ⟨rfl, H1⟩; replace HS := HS.fresh H1; clear H1) | (go_at_call 49; (with_reducible refine (A4.out _).mono ?_); rintro e w' ⟨rfl, H1⟩; replace HS := HS.fresh H1; clear H1) | (go_at_call 49; (with_reducible refine (A8.out _).mono ?_); rintro e w' ⟨rfl, H1⟩; replace HS := HS.fresh H1; clear H1) | (go_at_call 39; refine (HQ.out _).mono ?_; rintro e w' ⟨rfl, rfl⟩))
      go_ret
      exact ⟨rfl, HS.mod⟩
    · obtain rfl := beq_iff_eq.1 h4
      have hrr : r = seqB v8 := by rw [HR.out]; simp
      subst hrr
      clear HR h0 h4
      go_enter Try.func48, Try.ntmps48
      go_wp2_with (first | ((with_reducible apply sBox HS); rfl; (conv => (lhs; whnf)); (first | exact cells_agg _ | exact cells_one rfl); intro B1 w' H1; clear HS; have HS := H1; clear H1) | ((with_reducible apply sLoadB HS); infer_instance; rfl; rfl; (repeat (first | exact List.Mem.head _ | apply List.Mem.tail)); exact hz.out) | (go_at_call 49; (with_reducible refine (A0.out _).mono ?_); rintro e w' ⟨rfl, H1⟩; replace HS := HS.fresh H1; clear H1) | (go_at_call 49; (with_reducible refine (A4.out _).mono ?_); rintro e w' ⟨rfl, H1⟩; replace HS := HS.fresh H1; clear H1) | (go_at_call 49; (with_reducible refine (A8.out _).mono ?_); rintro e w' ⟨rfl, H1⟩; replace HS := HS.fresh H1; clear H1) | (go_at_call 39; refine (HQ.out _).mono ?_; rintro e w' ⟨rfl, rfl⟩))
      go_ret
      exact ⟨rfl, HS.mod⟩

theorem zT : (encB ([] : List UInt8)).size = 0 := rfl
set_option maxRecDepth 100000 in
set_option maxHeartbeats 2000000 in
theorem rrhead (bs : List UInt8) (hl : bs.length = 256) (w : World) :
    Calls Try.prog 28 #[.agg (encB bs)] w fun e w' => e = .returned (resRH (rHead bs)) ∧ Mod none' w w' := by
  have HS := St.nil none' w
  have A8 := Lib.hid (fun W => rat bs hl W 8 8 rfl (by decide))
  have A12 := Lib.hid (fun W => rat bs hl W 12 12 rfl (by decide))
  have HBG := Lib.hid (fun W => rbeg bs hl 4 W)
  have HZ := Lib.hid (fun B W (h : W.heap[B]? = some (.cells (encB bs) 28 (0, 0))) => rzero B 16 240 240 bs _ W h (by omega) (by omega))
  have hz : Hid ((encB bs).size = 256) := (encB_size _).trans hl
  have HG := get32_bd bs 12
  have HRR := Lib.hid (rHead_ref hl)
  obtain ⟨r, hr⟩ : ∃ r, rHead bs = r := ⟨_, rfl⟩
  rw [hr] at HRR ⊢
  clear hr hl
  generalize get32 bs 12 = v12 at *
  generalize get32 bs 8 = v8 at *
  cases hb : begB bs 4
  · rw [hb] at HBG HRR
    have hrr : r = none := by rw [HRR.out, if_neg (by simp)]
    subst hrr
    clear HRR hb
    go_enter Try.func28, Try.ntmps28
    go_wp2_with (first | ((with_reducible apply sBox HS); rfl; (conv => (lhs; whnf)); (first | exact cells_agg _ | exact cells_one rfl); intro B1 w' H1; clear HS; have HS := H1; clear H1) | ((with_reducible apply sAlloc HS); infer_instance; (first | exact cells_agg _ | exact cells_one rfl); rfl; intro B2 w' H1; clear HS; have HS := H1; clear H1) | ((with_reducible apply sLoadB HS); infer_instance; rfl; rfl; (repeat (first | exact List.Mem.head _ | apply List.Mem.tail)); exact hz.out) | (go_at_call 48; refine (HBG.out _).mono ?_; rintro e w' ⟨rfl, H1⟩; replace HS := HS.fresh H1; clear H1) | (go_at_call 49; (with_reducible refine (A12.out _).mono ?_); rintro e w' ⟨rfl, H1⟩; replace HS := HS.fresh H1; clear H1) | (go_at_call 50; refine (HZ.out _ _ (HS.blk (by (repeat (first | exact List.Mem.head _ | apply List.Mem.tail))))).mono ?_; rintro e w' ⟨rfl, rfl⟩) | ((with_reducible apply sStoreB HS); infer_instance; rfl; rfl; (conv => (lhs; whnf)); (repeat (first | exact Rep.here | apply Rep.there)); rfl; rfl; (intro u hu; simp at hu; rcases hu with rfl | rfl <;> rfl); intro w' H1; clear HS; have HS := H1; clear H1))
    refine bodyPost_ret (res2 rfl (resCell (n := 2) HS rfl (by (repeat (first | exact List.Mem.head _ | apply List.Mem.tail))) rfl) (resTmp _ _ _)) rfl ⟨rfl, HS.mod⟩
  · rw [hb] at HBG HRR
    by_cases hc : v12 ≤ 255
    rotate_left
    · have hrr : r = none := by rw [HRR.out, if_neg (fun h => hc h.2.1)]
      subst hrr
      have hcd : decide ((255 : Int) < v12) = true := decide_eq_true (by omega)
      clear HRR hb
      go_enter Try.func28, Try.ntmps28
      go_wp2_with (first | ((with_reducible apply sBox HS); rfl; (conv => (lhs; whnf)); (first | exact cells_agg _ | exact cells_one rfl); intro B1 w' H1; clear HS; have HS := H1; clear H1) | ((with_reducible apply sAlloc HS); infer_instance; (first | exact cells_agg _ | exact cells_one rfl); rfl; intro B2 w' H1; clear HS; have HS := H1; clear H1) | ((with_reducible apply sLoadB HS); infer_instance; rfl; rfl; (repeat (first | exact List.Mem.head _ | apply List.Mem.tail)); exact hz.out) | (go_at_call 48; refine (HBG.out _).mono ?_; rintro e w' ⟨rfl, H1⟩; replace HS := HS.fresh H1; clear H1) | (go_at_call 49; (with_reducible refine (A12.out _).mono ?_); rintro e w' ⟨rfl, H1⟩; replace HS := HS.fresh H1; clear H1) | (go_at_call 50; refine (HZ.out _ _ (HS.blk (by (repeat (first | exact List.Mem.head _ | apply List.Mem.tail))))).mono ?_; rintro e w' ⟨rfl, rfl⟩) | ((with_reducible apply sStoreB HS); infer_instance; rfl; rfl; (conv => (lhs; whnf)); (repeat (first | exact Rep.here | apply Rep.there)); rfl; rfl; (intro u hu; simp at hu; rcases hu with rfl | rfl <;> rfl); intro w' H1; clear HS; have HS := H1; clear H1))
      refine bodyPost_ret (res2 rfl (resCell (n := 2) HS rfl (by (repeat (first | exact List.Mem.head _ | apply List.Mem.tail))) rfl) (resTmp _ _ _)) rfl ⟨rfl, HS.mod⟩
    have hcd : decide ((255 : Int) < v12) = false := decide_eq_false (by omega)
    cases hzz : allZ bs 16 240
    · rw [hzz] at HZ HRR
      have hrr : r = none := by rw [HRR.out, if_neg (by simp)]
      subst hrr
      clear HRR hb hzz
      go_enter Try.func28, Try.ntmps28
      go_wp2_with (first | ((with_reducible apply sBox HS); rfl; (conv => (lhs; whnf)); (first | exact cells_agg _ | exact cells_one rfl); intro B1 w' H1; clear HS; have HS := H1; clear H1) | ((with_reducible apply sAlloc HS); infer_instance; (first | exact cells_agg _ | exact cells_one rfl); rfl; intro B2 w' H1; clear HS; have HS := H1; clear H1) | ((with_reducible apply sLoadB HS); infer_instance; rfl; rfl; (repeat (first | exact List.Mem.head _ | apply List.Mem.tail)); exact hz.out) | (go_at_call 48; refine (HBG.out _).mono ?_; rintro e w' ⟨rfl, H1⟩; replace HS := HS.fresh H1; clear H1) | (go_at_call 49; (with_reducible refine (A12.out _).mono ?_); rintro e w' ⟨rfl, H1⟩; replace HS := HS.fresh H1; clear H1) | (go_at_call 50; refine (HZ.out _ _ (HS.blk (by (repeat (first | exact List.Mem.head _ | apply List.Mem.tail))))).mono ?_; rintro e w' ⟨rfl, rfl⟩) | ((with_reducible apply sStoreB HS); infer_instance; rfl; rfl; (conv => (lhs; whnf)); (repeat (first | exact Rep.here | apply Rep.there)); rfl; rfl; (intro u hu; simp at hu; rcases hu with rfl | rfl <;> rfl); intro w' H1; clear HS; have HS := H1; clear H1))
      refine bodyPost_ret (res2 rfl (resCell (n := 2) HS rfl (by (repeat (first | exact List.Mem.head _ | apply List.Mem.tail))) rfl) (resTmp _ _ _)) rfl ⟨rfl, HS.mod⟩
    · rw [hzz] at HZ HRR
      have hrr : r = some (v8, v12) := by rw [HRR.out, if_pos ⟨rfl, hc, rfl⟩]
      subst hrr
      have hw12 : IntKind.i64.wrap v12 = v12 := IntWalk.i64_in _ (by omega)
      clear HRR hb hzz
      go_enter Try.func28, Try.ntmps28
      go_wp2_with (first | ((with_reducible apply sBox HS); rfl; (conv => (lhs; whnf)); (first | exact cells_agg _ | exact cells_one rfl); intro B1 w' H1; clear HS; have HS := H1; clear H1) | ((with_reducible apply sAlloc HS); infer_instance; (first | exact cells_agg _ | exact cells_one rfl); rfl; intro B2 w' H1; clear HS; have HS := H1; clear H1) | ((with_reducible apply sLoadB HS); infer_instance; rfl; rfl; (repeat (first | exact List.Mem.head _ | apply List.Mem.tail)); exact hz.out) | (go_at_call 48; refine (HBG.out _).mono ?_; rintro e w' ⟨rfl, H1⟩; replace HS := HS.fresh H1; clear H1) | (go_at_call 49; (with_reducible refine (A12.out _).mono ?_); rintro e w' ⟨rfl, H1⟩; replace HS := HS.fresh H1; clear H1) | (go_at_call 50; refine (HZ.out _ _ (HS.blk (by (repeat (first | exact List.Mem.head _ | apply List.Mem.tail))))).mono ?_; rintro e w' ⟨rfl, rfl⟩) | ((with_reducible apply sStoreB HS); infer_instance; rfl; rfl; (conv => (lhs; whnf)); (repeat (first | exact Rep.here | apply Rep.there)); rfl; rfl; (intro u hu; simp at hu; rcases hu with rfl | rfl <;> rfl); intro w' H1; clear HS; have HS := H1; clear H1))
      (try simp only [Act.put])
      refine wp_region_sch (.q 0 (.q 2 (.e 1 (.e 3 (.q 4 (.q 5 (.e 6 (.e 7 (.nil))))))))) (Hd [.blk true B1 (encB bs) 28]) (by kernel_rfl) (by kernel_rfl) (fun _ _ d _ _ h => by cases d <;> exact h) ?_
      intro w1 hm1
      replace HS := HS.fresh hm1
      clear hm1
      refine ⟨HS.hd (by (repeat (first | exact subNil | (refine subCons ?_ ?_; (repeat (first | exact List.Mem.head _ | apply List.Mem.tail)))))), ?_⟩
      repeat (first | ((with_reducible apply cLoadB); (simp only [List.getElem?_toArray, List.getElem?_cons_zero, List.getElem?_cons_succ]; rfl); infer_instance; rfl; rfl; (repeat (first | exact List.Mem.head _ | apply List.Mem.tail)); exact hz.out; (try simp only [Act.put, List.setIfInBounds_toArray, List.set_cons_zero, List.set_cons_succ])) | ((with_reducible apply wpSch_nilCheck); (simp only [List.getElem?_toArray, List.getElem?_cons_zero, List.getElem?_cons_succ]; rfl); rfl; rfl; (try simp only [Act.put, List.setIfInBounds_toArray, List.set_cons_zero, List.set_cons_succ])) | ((with_reducible apply wpSch_plain); (simp only [List.getElem?_toArray, List.getElem?_cons_zero, List.getElem?_cons_succ]; rfl); rfl; rfl; (intro K hK; go_big_quiet_op; go_big_quiet_on)) | ((with_reducible apply wpSch_skip); (simp only [List.getElem?_toArray, List.getElem?_cons_zero, List.getElem?_cons_succ]; rfl); rfl; (try simp only [Act.put, List.setIfInBounds_toArray, List.set_cons_zero, List.set_cons_succ])))
      with_reducible apply wpSch_e_k
      (simp only [List.getElem?_toArray, List.getElem?_cons_zero, List.getElem?_cons_succ]; rfl)
      intro K HK
      go_wp2_with (go_at_call 49; (with_reducible refine (A8.out _).mono ?_); rintro e w' ⟨rfl, H1⟩; replace HS := HS.fresh H1; clear H1)
      refine HK.out _ _ ⟨.inr (HS.hd (by (repeat (first | exact subNil | (refine subCons ?_ ?_; (repeat (first | exact List.Mem.head _ | apply List.Mem.tail))))))), ?_⟩
      clear HK K
      with_reducible apply wpSch_e_k
      (simp only [List.getElem?_toArray, List.getElem?_cons_zero, List.getElem?_cons_succ]; rfl)
      intro K HK
      go_wp2_with (go_at_call 49; (with_reducible refine (A12.out _).mono ?_); rintro e w' ⟨rfl, H1⟩; replace HS := HS.fresh H1; clear H1)
      refine HK.out _ _ ⟨.inr (HS.hd (by (repeat (first | exact subNil | (refine subCons ?_ ?_; (repeat (first | exact List.Mem.head _ | apply List.Mem.tail))))))), ?_⟩
      clear HK K
      repeat (first | ((with_reducible apply cLoadB); (simp only [List.getElem?_toArray, List.getElem?_cons_zero, List.getElem?_cons_succ]; rfl); infer_instance; rfl; rfl; (repeat (first | exact List.Mem.head _ | apply List.Mem.tail)); exact hz.out; (try simp only [Act.put, List.setIfInBounds_toArray, List.set_cons_zero, List.set_cons_succ])) | ((with_reducible apply wpSch_nilCheck); (simp only [List.getElem?_toArray, List.getElem?_cons_zero, List.getElem?_cons_succ]; rfl); rfl; rfl; (try simp only [Act.put, List.setIfInBounds_toArray, List.set_cons_zero, List.set_cons_succ])) | ((with_reducible apply wpSch_plain); (simp only [List.getElem?_toArray, List.getElem?_cons_zero, List.getElem?_cons_succ]; rfl); rfl; rfl; (intro K hK; go_big_quiet_op; go_big_quiet_on)) | ((with_reducible apply wpSch_skip); (simp only [List.getElem?_toArray, List.getElem?_cons_zero, List.getElem?_cons_succ]; rfl); rfl; (try simp only [Act.put, List.setIfInBounds_toArray, List.set_cons_zero, List.set_cons_succ])))
      with_reducible apply wpSch_e_k
      (simp only [List.getElem?_toArray, List.getElem?_cons_zero, List.getElem?_cons_succ]; rfl)
      intro K HK
      ((with_reducible apply sStoreB HS); infer_instance; rfl; rfl; (conv => (lhs; whnf)); (repeat (first | exact Rep.here | apply Rep.there)); rfl; rfl; (intro u hu; simp at hu; rcases hu with rfl | rfl <;> rfl); intro w' H1; clear HS; have HS := H1; clear H1)
      (try simp only [Act.put])
      refine wpList_nil (then_normal (HK.out _ _ ⟨.inr (HS.hd (by (repeat (first | exact subNil | (refine subCons ?_ ?_; (repeat (first | exact List.Mem.head _ | apply List.Mem.tail))))))), ?_⟩))
      clear HK K
      with_reducible apply wpSch_e_k
      (simp only [List.getElem?_toArray, List.getElem?_cons_zero, List.getElem?_cons_succ]; rfl)
      intro K HK
      go_wp2_with (fail)
      refine HK.out _ _ ⟨.inl rfl, ?_⟩
      clear HK K
      refine wpSch_nil ?_
      go_wp2
      refine bodyPost_ret (res2 rfl (resCell (n := 2) HS rfl (by (repeat (first | exact List.Mem.head _ | apply List.Mem.tail))) rfl) (resTmp _ _ _)) rfl ⟨rfl, HS.mod⟩

set_option maxRecDepth 100000 in
set_option maxHeartbeats 2000000 in
theorem rrcommit (bs : List UInt8) (hl : bs.length = 256) (w : World) :
    Calls Try.prog 29 #[.agg (encB bs)] w fun e w' => e = .returned (resRC (rCommit bs)) ∧ Mod none' w w' := by
  have HS := St.nil none' w
  have A8 := Lib.hid (fun W => rat bs hl W 8 8 rfl (by decide))
  have A12 := Lib.hid (fun W => rat bs hl W 12 12 rfl (by decide))
  have A16 := Lib.hid (fun W => rat bs hl W 16 16 rfl (by decide))
  have HBG := Lib.hid (fun W => rbeg bs hl 2 W)
  have HZ := Lib.hid (fun B W (h : W.heap[B]? = some (.cells (encB bs) 28 (0, 0))) => rzero B 20 236 236 bs _ W h (by omega) (by omega))
  have hz : Hid ((encB bs).size = 256) := (encB_size _).trans hl
  have HG := get32_bd bs 12
  have HRR := Lib.hid (rCommit_ref hl)
  obtain ⟨r, hr⟩ : ∃ r, rCommit bs = r := ⟨_, rfl⟩
  rw [hr] at HRR ⊢
  clear hr hl
  generalize get32 bs 12 = v12 at *
  generalize get32 bs 8 = v8 at *
  generalize get32 bs 16 = v16 at *
  cases hb : begB bs 2
  · rw [hb] at HBG HRR
    have hrr : r = none := by rw [HRR.out, if_neg (by simp)]
    subst hrr
    clear HRR hb
    go_enter Try.func29, Try.ntmps29
    go_wp2_with (first | ((with_reducible apply sBox HS); rfl; (conv => (lhs; whnf)); (first | exact cells_agg _ | exact cells_one rfl); intro B1 w' H1; clear HS; have HS := H1; clear H1) | ((with_reducible apply sLoadB HS); infer_instance; rfl; rfl; (repeat (first | exact List.Mem.head _ | apply List.Mem.tail)); exact hz.out) | (go_at_call 48; refine (HBG.out _).mono ?_; rintro e w' ⟨rfl, H1⟩; replace HS := HS.fresh H1; clear H1) | (go_at_call 49; (with_reducible refine (A12.out _).mono ?_); rintro e w' ⟨rfl, H1⟩; replace HS := HS.fresh H1; clear H1) | (go_at_call 50; refine (HZ.out _ _ (HS.blk (by (repeat (first | exact List.Mem.head _ | apply List.Mem.tail))))).mono ?_; rintro e w' ⟨rfl, rfl⟩))
    refine bodyPost_ret (results_tmp4 rfl _ _ _) rfl ⟨rfl, HS.mod⟩
  · rw [hb] at HBG HRR
    by_cases hc1 : 1 ≤ v12
    rotate_left
    · have hrr : r = none := by rw [HRR.out, if_neg (fun h => hc1 h.2.1)]
      subst hrr
      have hcd : decide (v12 < (1 : Int)) = true := decide_eq_true (by omega)
      clear HRR hb
      go_enter Try.func29, Try.ntmps29
      go_wp2_with (first | ((with_reducible apply sBox HS); rfl; (conv => (lhs; whnf)); (first | exact cells_agg _ | exact cells_one rfl); intro B1 w' H1; clear HS; have HS := H1; clear H1) | ((with_reducible apply sLoadB HS); infer_instance; rfl; rfl; (repeat (first | exact List.Mem.head _ | apply List.Mem.tail)); exact hz.out) | (go_at_call 48; refine (HBG.out _).mono ?_; rintro e w' ⟨rfl, H1⟩; replace HS := HS.fresh H1; clear H1) | (go_at_call 49; (with_reducible refine (A12.out _).mono ?_); rintro e w' ⟨rfl, H1⟩; replace HS := HS.fresh H1; clear H1) | (go_at_call 50; refine (HZ.out _ _ (HS.blk (by (repeat (first | exact List.Mem.head _ | apply List.Mem.tail))))).mono ?_; rintro e w' ⟨rfl, rfl⟩))
      refine bodyPost_ret (results_tmp4 rfl _ _ _) rfl ⟨rfl, HS.mod⟩
    have hcd1 : decide (v12 < (1 : Int)) = false := decide_eq_false (by omega)
    by_cases hc : v12 ≤ 256
    rotate_left
    · have hrr : r = none := by rw [HRR.out, if_neg (fun h => hc h.2.2.1)]
      subst hrr
      have hcd : decide ((256 : Int) < v12) = true := decide_eq_true (by omega)
      clear HRR hb
      go_enter Try.func29, Try.ntmps29
      go_wp2_with (first | ((with_reducible apply sBox HS); rfl; (conv => (lhs; whnf)); (first | exact cells_agg _ | exact cells_one rfl); intro B1 w' H1; clear HS; have HS := H1; clear H1) | ((with_reducible apply sLoadB HS); infer_instance; rfl; rfl; (repeat (first | exact List.Mem.head _ | apply List.Mem.tail)); exact hz.out) | (go_at_call 48; refine (HBG.out _).mono ?_; rintro e w' ⟨rfl, H1⟩; replace HS := HS.fresh H1; clear H1) | (go_at_call 49; (with_reducible refine (A12.out _).mono ?_); rintro e w' ⟨rfl, H1⟩; replace HS := HS.fresh H1; clear H1) | (go_at_call 50; refine (HZ.out _ _ (HS.blk (by (repeat (first | exact List.Mem.head _ | apply List.Mem.tail))))).mono ?_; rintro e w' ⟨rfl, rfl⟩))
      refine bodyPost_ret (results_tmp4 rfl _ _ _) rfl ⟨rfl, HS.mod⟩
    have hcd : decide ((256 : Int) < v12) = false := decide_eq_false (by omega)
    cases hzz : allZ bs 20 236
    · rw [hzz] at HZ HRR
      have hrr : r = none := by rw [HRR.out, if_neg (by simp)]
      subst hrr
      clear HRR hb hzz
      go_enter Try.func29, Try.ntmps29
      go_wp2_with (first | ((with_reducible apply sBox HS); rfl; (conv => (lhs; whnf)); (first | exact cells_agg _ | exact cells_one rfl); intro B1 w' H1; clear HS; have HS := H1; clear H1) | ((with_reducible apply sLoadB HS); infer_instance; rfl; rfl; (repeat (first | exact List.Mem.head _ | apply List.Mem.tail)); exact hz.out) | (go_at_call 48; refine (HBG.out _).mono ?_; rintro e w' ⟨rfl, H1⟩; replace HS := HS.fresh H1; clear H1) | (go_at_call 49; (with_reducible refine (A12.out _).mono ?_); rintro e w' ⟨rfl, H1⟩; replace HS := HS.fresh H1; clear H1) | (go_at_call 50; refine (HZ.out _ _ (HS.blk (by (repeat (first | exact List.Mem.head _ | apply List.Mem.tail))))).mono ?_; rintro e w' ⟨rfl, rfl⟩))
      refine bodyPost_ret (results_tmp4 rfl _ _ _) rfl ⟨rfl, HS.mod⟩
    · rw [hzz] at HZ HRR
      have hrr : r = some (v8, v12, v16) := by rw [HRR.out, if_pos ⟨rfl, hc1, hc, rfl⟩]
      subst hrr
      have hw12 : IntKind.i64.wrap v12 = v12 := IntWalk.i64_in _ (by omega)
      clear HRR hb hzz
      go_enter Try.func29, Try.ntmps29
      go_wp2_with (first | ((with_reducible apply sBox HS); rfl; (conv => (lhs; whnf)); (first | exact cells_agg _ | exact cells_one rfl); intro B1 w' H1; clear HS; have HS := H1; clear H1) | ((with_reducible apply sLoadB HS); infer_instance; rfl; rfl; (repeat (first | exact List.Mem.head _ | apply List.Mem.tail)); exact hz.out) | (go_at_call 48; refine (HBG.out _).mono ?_; rintro e w' ⟨rfl, H1⟩; replace HS := HS.fresh H1; clear H1) | (go_at_call 49; (with_reducible refine (A12.out _).mono ?_); rintro e w' ⟨rfl, H1⟩; replace HS := HS.fresh H1; clear H1) | (go_at_call 50; refine (HZ.out _ _ (HS.blk (by (repeat (first | exact List.Mem.head _ | apply List.Mem.tail))))).mono ?_; rintro e w' ⟨rfl, rfl⟩))
      (try simp only [Act.put])
      refine wp_region_sch (.q 0 (.q 2 (.q 3 (.q 4 (.e 1 (.e 5 (.e 6 (.e 7 (.e 8 (.e 9 (.nil))))))))))) (Hd [.blk true B1 (encB bs) 28]) (by kernel_rfl) (by kernel_rfl) (fun _ _ d _ _ h => by cases d <;> exact h) ?_
      intro w1 hm1
      replace HS := HS.fresh hm1
      clear hm1
      refine ⟨HS.hd (by (repeat (first | exact subNil | (refine subCons ?_ ?_; (repeat (first | exact List.Mem.head _ | apply List.Mem.tail)))))), ?_⟩
      repeat (first | ((with_reducible apply cLoadB); (simp only [List.getElem?_toArray, List.getElem?_cons_zero, List.getElem?_cons_succ]; rfl); infer_instance; rfl; rfl; (repeat (first | exact List.Mem.head _ | apply List.Mem.tail)); exact hz.out; (try simp only [Act.put, List.setIfInBounds_toArray, List.set_cons_zero, List.set_cons_succ])) | ((with_reducible apply wpSch_nilCheck); (simp only [List.getElem?_toArray, List.getElem?_cons_zero, List.getElem?_cons_succ]; rfl); rfl; rfl; (try simp only [Act.put, List.setIfInBounds_toArray, List.set_cons_zero, List.set_cons_succ])) | ((with_reducible apply wpSch_plain); (simp only [List.getElem?_toArray, List.getElem?_cons_zero, List.getElem?_cons_succ]; rfl); rfl; rfl; (intro K hK; go_big_quiet_op; go_big_quiet_on)) | ((with_reducible apply wpSch_skip); (simp only [List.getElem?_toArray, List.getElem?_cons_zero, List.getElem?_cons_succ]; rfl); rfl; (try simp only [Act.put, List.setIfInBounds_toArray, List.set_cons_zero, List.set_cons_succ])))
      with_reducible apply wpSch_e_k
      (simp only [List.getElem?_toArray, List.getElem?_cons_zero, List.getElem?_cons_succ]; rfl)
      intro K HK
      go_wp2_with (go_at_call 49; (with_reducible refine (A8.out _).mono ?_); rintro e w' ⟨rfl, H1⟩; replace HS := HS.fresh H1; clear H1)
      refine HK.out _ _ ⟨.inr (HS.hd (by (repeat (first | exact subNil | (refine subCons ?_ ?_; (repeat (first | exact List.Mem.head _ | apply List.Mem.tail))))))), ?_⟩
      clear HK K
      with_reducible apply wpSch_e_k
      (simp only [List.getElem?_toArray, List.getElem?_cons_zero, List.getElem?_cons_succ]; rfl)
      intro K HK
      go_wp2_with (go_at_call 49; (with_reducible refine (A16.out _).mono ?_); rintro e w' ⟨rfl, H1⟩; replace HS := HS.fresh H1; clear H1)
      refine HK.out _ _ ⟨.inr (HS.hd (by (repeat (first | exact subNil | (refine subCons ?_ ?_; (repeat (first | exact List.Mem.head _ | apply List.Mem.tail))))))), ?_⟩
      clear HK K
      with_reducible apply wpSch_e_k
      (simp only [List.getElem?_toArray, List.getElem?_cons_zero, List.getElem?_cons_succ]; rfl)
      intro K HK
      go_wp2_with (fail)
      refine HK.out _ _ ⟨.inr (HS.hd (by (repeat (first | exact subNil | (refine subCons ?_ ?_; (repeat (first | exact List.Mem.head _ | apply List.Mem.tail))))))), ?_⟩
      clear HK K
      with_reducible apply wpSch_e_k
      (simp only [List.getElem?_toArray, List.getElem?_cons_zero, List.getElem?_cons_succ]; rfl)
      intro K HK
      go_wp2_with (fail)
      refine HK.out _ _ ⟨.inr (HS.hd (by (repeat (first | exact subNil | (refine subCons ?_ ?_; (repeat (first | exact List.Mem.head _ | apply List.Mem.tail))))))), ?_⟩
      clear HK K
      with_reducible apply wpSch_e_k
      (simp only [List.getElem?_toArray, List.getElem?_cons_zero, List.getElem?_cons_succ]; rfl)
      intro K HK
      go_wp2_with (fail)
      refine HK.out _ _ ⟨.inr (HS.hd (by (repeat (first | exact subNil | (refine subCons ?_ ?_; (repeat (first | exact List.Mem.head _ | apply List.Mem.tail))))))), ?_⟩
      clear HK K
      with_reducible apply wpSch_e_k
      (simp only [List.getElem?_toArray, List.getElem?_cons_zero, List.getElem?_cons_succ]; rfl)
      intro K HK
      go_wp2_with (fail)
      refine HK.out _ _ ⟨.inl rfl, ?_⟩
      clear HK K
      refine wpSch_nil ?_
      go_wp2
      refine bodyPost_ret (results_tmp4 rfl _ _ _) rfl ⟨rfl, HS.mod⟩
end Go.Proofs.Ytckadanghhibhaa
