/- Behind a crash each block has what was safe of it, or what a write that waited had for it. -/
import Derived.Test.YtfdomknagcdpeaaDCr
namespace Go.Proofs.Ytfdomknagcdpeaa.diskCrashes
open Go Go.RowKit Go.ChangeShapes Go.WideShapes Go.ChangeAt

theorem own : ownKnob Try.prog.godebug = none := by kernel_rfl
theorem laidOut : laidOutB Try.prog = true := by kernel_rfl

instance : Two Try.prog 52 1 256 := two_mk Try.underlying52 (by kernel_rfl) (by kernel_rfl)
instance : Row Try.prog 52 257 := row_mk Try.underlying52 rfl (by kernel_rfl)
instance : Zero0 Try.prog 52 zW := ⟨by kernel_rfl⟩
instance : Plain Try.prog 34 := plain_mk Try.underlying34 rfl (by kernel_rfl)
theorem infoQ : (Try.prog.info? 52).map (fun i => (i.zero, i.size, i.bytes)) = some (some zW, 257, 264) := by kernel_rfl
theorem infoQ2 : (Try.prog.info? 52).map (fun i => (i.zero, i.size)) = some (some zW, 257) := by kernel_rfl
abbrev waitA (vq : Value) (W : List (Int × List UInt8)) : Ass := .own vq 52 257 W.length (encWs W)
set_option maxRecDepth 100000 in
set_option maxHeartbeats 40000000 in
theorem walk (n : Int) (ad : Option Addr) (cap : Nat) (l : List ActV) (ak : Option Addr) (kc : Nat) (keep : List Bool) (w : World) (L : List Ass) (HS : St none' w w L) (hm : l.length ≤ maxLen) (hp : ∀ p ∈ l, actOk p) (hl : l = [] ∨ ∃ A o, ad = some ⟨A, o, none⟩ ∧ Ass.ro A o (encAs l) ∈ L)
    (hkm : keep.length ≤ maxLen) (hkeep : keep = [] ∨ ∃ K o, ak = some ⟨K, o, none⟩ ∧ Ass.ro K o (keep.map Value.bool) ∈ L) :
    Calls Try.prog 6 #[.int .i64 n, .slice ad l.length cap, .slice ak keep.length kc] w fun e w' => e = .returned (.bool true) ∧ Below w.heap.size w w' := by
  have HKK := Lib.hid hkeep
  have HKM := Lib.hid hkm
  have HP := Lib.hid hp
  have HLL := Lib.hid hl
  unfold maxLen at hm
  clear hp hl hkm hkeep
  rcases Bool.eq_false_or_eq_true (decide (n < 1)) with hn1 | hn1
  · go_enter Try.func6, Try.ntmps6
    go_wp2_with (first | (go_at_call 22; refine (awake_any HS).mono ?_; rintro e w' ⟨rfl, H1'⟩; clear HS; have HS := H1'; clear H1'))
    go_ret
    exact ⟨rfl, HS.below⟩
  rcases Bool.eq_false_or_eq_true (decide (64 < n)) with hn2 | hn2
  · go_enter Try.func6, Try.ntmps6
    go_wp2_with (first | (go_at_call 22; refine (awake_any HS).mono ?_; rintro e w' ⟨rfl, H1'⟩; clear HS; have HS := H1'; clear H1'))
    go_ret
    exact ⟨rfl, HS.below⟩
  rcases Bool.eq_false_or_eq_true (decide (100 < (l.length : Int))) with hlong | hlong
  · go_enter Try.func6, Try.ntmps6
    go_wp2_with (first | (go_at_call 22; refine (awake_any HS).mono ?_; rintro e w' ⟨rfl, H1'⟩; clear HS; have HS := H1'; clear H1'))
    go_ret
    exact ⟨rfl, HS.below⟩
  obtain ⟨N, rfl⟩ : ∃ N : Nat, n = N := ⟨n.toNat, by simp at hn1; omega⟩
  have N0 : 1 ≤ N := by simp at hn1; omega
  have N1 : N ≤ 64 := by simp at hn2; omega
  have hl1 : l.length ≤ 100 := by simp at hlong; omega
  have hall : ∀ k, k ≤ l.length → COk N (playC N (l.take k)) k := fun k hk => cOk_all N0 (by omega) l k hk (by omega)
  have HALL := Lib.hid hall
  clear hall
  go_enter Try.func6, Try.ntmps6
  go_wp2_with (fail)
  refine (dk_new HS (n := N) N0 (by omega)).mono ?_
  rintro e w' ⟨B, g1, c1, g2, c2, rfl, H1'⟩
  clear HS; have HS := H1'; clear H1'
  go_wp2_with (fail)
  go_loopw [9, 10] (fun q i wr => ∃ (k : Nat) (vw : Value) (aq : Option Addr) (cq : Nat), k ≤ l.length ∧ i = .int .i64 k ∧ q = .slice aq (playC N (l.take k)).wait.length cq ∧ St none' w wr (diskA (playC N (l.take k)) N B g1 c1 g2 c2 vw ++ waitA (.slice aq (playC N (l.take k)).wait.length cq) (playC N (l.take k)).wait :: L)) (fun _ i _ => l.length - (intOf i).toNat)
  case atStart => exact ⟨0, .slice none 0 0, none, 0, by omega, rfl, rfl, (HS.ownNil 52 257).back1⟩
  case round =>
    obtain ⟨k, vw, aq, cq, hk, rfl, rfl, HS⟩ := hrel
    by_cases hlt : k < l.length
    · obtain ⟨p, hp⟩ : ∃ p, l[k]? = some p := ⟨_, List.getElem?_eq_getElem hlt⟩
      obtain ⟨k0, k1, p0, p1, p2, p3, _⟩ := HP.out p (List.mem_of_getElem? hp)
      obtain ⟨AA, o, rfl, hmem⟩ := HLL.out.resolve_left (fun e => by rw [e] at hlt; simp at hlt)
      have HM := Lib.hid hmem
      obtain ⟨e0, e1, e2, _⟩ := encAs_at hp
      have HP0 := Lib.hid e0
      have HP1 := Lib.hid e1
      have HP2 := Lib.hid e2
      have hok := HALL.out k hk
      have HST : Hid (playC N (l.take (k + 1)) = crS N (playC N (l.take k)) p) := by
        show _ = _
        rw [List.take_add_one, hp, Option.toList_some, playC_snoc]
      obtain ⟨q, b, f, x⟩ := p
      simp only [] at k0 k1 p0 p1 p2 p3 HP0 HP1 HP2
      have HWY := Lib.hid (hok.why b)
      have HW0 := Lib.hid (hok.why 0)
      have HOK := Lib.hid hok
      obtain ⟨D, hD⟩ : ∃ D, playC N (l.take k) = D := ⟨_, rfl⟩
      rw [hD] at HOK HST HWY HW0 HS ⊢
      have hwn := hok.few
      rw [hD] at hwn
      clear hD hmem hp hok e0 e1 e2
      have z0 : (0 : Int) ≤ (k : Int) := by omega
      have z1 : (k : Int) < (l.length : Int) := by omega
      obtain ⟨r, hr⟩ : ∃ r, q.tmod 8 = r := ⟨_, rfl⟩
      have hr0 : 0 ≤ r ∧ r < 8 := by rw [← hr, Int.tmod_eq_emod_of_nonneg k0]; omega
      by_cases h4 : r = 4
      · subst h4
        have HC : Hid (crS N D (q, b, f, x) = D.flush) := by show _ = _; unfold crS; rw [if_pos hr]
        have HY0 : Hid (D.why N 0 = 0) := by show _ = _; rw [HW0.out, if_pos ⟨by omega, by omega⟩]
        clear HWY HW0
        go_wp2_with (first | ((with_reducible apply sLoadRo1 (j := k * 4) HS); infer_instance; rfl; rfl; exact List.mem_append_right _ (.tail _ HM.out); rfl; exact HP0.out) | (go_at_call 20; refine (dk_flush (D := D) (n := N) HS HOK.out.ok).mono ?_; rintro e w' ⟨vw2, rfl, H1'⟩; clear HS; have HS := H1'; clear H1'; rw [HY0.out] at *; rw [if_pos rfl] at HS))
        have HS2 := ((HS.fore1 (D := diskA D.flush N B g1 c1 g2 c2 vw2)).tail.ownNil 52 257).back1 (D := diskA D.flush N B g1 c1 g2 c2 vw2)
        go_roundw
        case rel => exact ⟨k + 1, vw2, none, 0, by omega, by go_num, by rw [HST.out, HC.out]; rfl, by rw [HST.out, HC.out]; exact HS2⟩
        case measure => simp [intOf]; omega
      by_cases h567 : r = 5 ∨ r = 6 ∨ r = 7
      · have HC : Hid (crS N D (q, b, f, x) = D) := by show _ = _; unfold crS; rw [if_neg (by show ¬ q.tmod 8 = 4; omega), if_pos (by show q.tmod 8 = 5 ∨ q.tmod 8 = 6 ∨ q.tmod 8 = 7; omega)]
        clear HWY HW0
        rcases h567 with rfl | rfl | rfl
        all_goals
          go_wp2_with (first | ((with_reducible apply sLoadRo1 (j := k * 4) HS); infer_instance; rfl; rfl; exact List.mem_append_right _ (.tail _ HM.out); rfl; exact HP0.out))
          go_roundw
          case rel => exact ⟨k + 1, vw, aq, cq, by omega, by go_num, by rw [HST.out, HC.out], by rw [HST.out, HC.out]; exact HS⟩
          case measure => simp [intOf]; omega
      have hrw : IntKind.u8.wrap r = r := by rw [IntKind.wrap_u8]; omega
      have b4 : (r == 4) = false := by rw [beq_eq_false_iff_ne]; omega
      have b5 : (r == 5) = false := by rw [beq_eq_false_iff_ne]; omega
      have b6 : (r == 6) = false := by rw [beq_eq_false_iff_ne]; omega
      have b7 : (r == 7) = false := by rw [beq_eq_false_iff_ne]; omega
      have h5 : ¬ r = 5 := by omega
      have h6 : ¬ r = 6 := by omega
      have h7 : ¬ r = 7 := by omega
      by_cases hb : 0 ≤ b ∧ b < N
      · have HC : Hid (crS N D (q, b, f, x) = D.write b (fillB f)) := by show _ = _; unfold crS; rw [if_neg (by show ¬ q.tmod 8 = 4; omega), if_neg (by show ¬ (q.tmod 8 = 5 ∨ q.tmod 8 = 6 ∨ q.tmod 8 = 7); omega), if_pos hb]
        have HY : Hid (D.why N b = 0) := by show _ = _; rw [HWY.out, if_pos hb]
        clear HWY HW0 h567 hb
        go_wp2_with (first | ((with_reducible apply sLoadRo1 (j := k * 4) HS); infer_instance; rfl; rfl; exact List.mem_append_right _ (.tail _ HM.out); rfl; exact HP0.out))
        clear hr hrw b4 b5 b6 b7 h4 h5 h6 h7
        (try simp only [Act.put])
        refine wp_region_sch (.q 0 (.q 1 (.q 2 (.q 3 (.q 4 (.q 5 (.q 6 (.q 7 (.q 8 (.q 9 (.q 10 (.e 11 (.e 12 (.e 13 (.nil))))))))))))))) (Hd [.ro AA o (encAs l)]) (by kernel_rfl) (by kernel_rfl) (fun _ _ d _ _ h => by cases d <;> exact h) ?_
        intro w1 hm1
        replace HS := HS.fresh hm1
        clear hm1
        refine ⟨HS.hd (by (refine subCons ?_ subNil; exact List.mem_append_right _ (.tail _ HM.out))), ?_⟩
        repeat (first | ((with_reducible apply cLoadRo1 (j := k * 4 + 1)); (simp only [List.getElem?_toArray, List.getElem?_cons_zero, List.getElem?_cons_succ]; rfl); infer_instance; rfl; rfl; (repeat (first | exact List.Mem.head _ | apply List.Mem.tail)); rfl; exact HP1.out; (try simp only [Act.put, List.setIfInBounds_toArray, List.set_cons_zero, List.set_cons_succ])) | ((with_reducible apply cLoadRo1 (j := k * 4 + 2)); (simp only [List.getElem?_toArray, List.getElem?_cons_zero, List.getElem?_cons_succ]; rfl); infer_instance; rfl; rfl; (repeat (first | exact List.Mem.head _ | apply List.Mem.tail)); rfl; exact HP2.out; (try simp only [Act.put, List.setIfInBounds_toArray, List.set_cons_zero, List.set_cons_succ])) | ((with_reducible apply wpSch_nilCheck); (simp only [List.getElem?_toArray, List.getElem?_cons_zero, List.getElem?_cons_succ]; rfl); rfl; rfl; (try simp only [Act.put, List.setIfInBounds_toArray, List.set_cons_zero, List.set_cons_succ])) | ((with_reducible apply wpSch_plain); (simp only [List.getElem?_toArray, List.getElem?_cons_zero, List.getElem?_cons_succ]; rfl); rfl; rfl; (intro K hK; go_big_quiet_op; go_big_quiet_on)) | ((with_reducible apply wpSch_skip); (simp only [List.getElem?_toArray, List.getElem?_cons_zero, List.getElem?_cons_succ]; rfl); rfl; (try simp only [Act.put, List.setIfInBounds_toArray, List.set_cons_zero, List.set_cons_succ])))
        with_reducible apply wpSch_e_k
        (simp only [List.getElem?_toArray, List.getElem?_cons_zero, List.getElem?_cons_succ]; rfl)
        intro K HK
        go_wp2_with (first | (go_at_call 14; refine (fill_any _ _ (by omega) (by omega)).mono ?_; rintro e w' ⟨rfl, H1'⟩; replace HS := HS.fresh H1'; clear H1'))
        refine HK.out _ _ ⟨.inr (HS.hd (by (refine subCons ?_ subNil; exact List.mem_append_right _ (.tail _ HM.out)))), ?_⟩
        clear HK K
        with_reducible apply wpSch_e_k
        (simp only [List.getElem?_toArray, List.getElem?_cons_zero, List.getElem?_cons_succ]; rfl)
        intro K HK
        go_wp2_with (first | (go_at_call 24; refine (dk_write (D := D) (n := N) HS HOK.out.ok b (fillB f) (fillB_len f)).mono ?_; rintro e w' ⟨vw', rfl, H1'⟩; clear HS; have HS := H1'; clear H1'; rw [HY.out]))
        refine HK.out _ _ ⟨.inr (HS.hd (by (refine subCons ?_ subNil; exact List.mem_append_right _ (.tail _ HM.out)))), ?_⟩
        clear HK K
        with_reducible apply wpSch_e_k
        (simp only [List.getElem?_toArray, List.getElem?_cons_zero, List.getElem?_cons_succ]; rfl)
        intro K HK
        go_wp2_with (fail)
        refine HK.out _ _ ⟨.inl rfl, ?_⟩
        clear HK K
        refine wpSch_nil ?_
        rw [if_pos HY.out] at HS
        go_wp2
        (try simp only [Act.put])
        refine wp_region_sch (.q 0 (.q 1 (.q 2 (.q 3 (.q 4 (.q 5 (.q 6 (.q 7 (.q 8 (.q 9 (.q 10 (.e 11 (.q 12 (.e 13 (.e 14 (.e 15 (.nil))))))))))))))))) (Hd [.ro AA o (encAs l)]) (by kernel_rfl) (by kernel_rfl) (fun _ _ d _ _ h => by cases d <;> exact h) ?_
        intro w1 hm1
        replace HS := HS.fresh hm1
        clear hm1
        refine ⟨HS.hd (by (refine subCons ?_ subNil; repeat (first | exact HM.out | apply List.Mem.tail))), ?_⟩
        repeat (first | ((with_reducible apply cLoadRo1 (j := k * 4 + 1)); (simp only [List.getElem?_toArray, List.getElem?_cons_zero, List.getElem?_cons_succ]; rfl); infer_instance; rfl; rfl; (repeat (first | exact List.Mem.head _ | apply List.Mem.tail)); rfl; exact HP1.out; (try simp only [Act.put, List.setIfInBounds_toArray, List.set_cons_zero, List.set_cons_succ])) | ((with_reducible apply cLoadRo1 (j := k * 4 + 2)); (simp only [List.getElem?_toArray, List.getElem?_cons_zero, List.getElem?_cons_succ]; rfl); infer_instance; rfl; rfl; (repeat (first | exact List.Mem.head _ | apply List.Mem.tail)); rfl; exact HP2.out; (try simp only [Act.put, List.setIfInBounds_toArray, List.set_cons_zero, List.set_cons_succ])) | ((with_reducible apply cTwo); (simp only [List.getElem?_toArray, List.getElem?_cons_zero, List.getElem?_cons_succ]; rfl); rfl; infer_instance; (conv => (lhs; whnf)); (conv => (lhs; whnf)); exact cells1; exact cellsB _; rfl; (rw [List.length_map]; exact fillB_len f); (try simp only [Act.put, List.setIfInBounds_toArray, List.set_cons_zero, List.set_cons_succ])) | ((with_reducible apply wpSch_nilCheck); (simp only [List.getElem?_toArray, List.getElem?_cons_zero, List.getElem?_cons_succ]; rfl); rfl; rfl; (try simp only [Act.put, List.setIfInBounds_toArray, List.set_cons_zero, List.set_cons_succ])) | ((with_reducible apply wpSch_plain); (simp only [List.getElem?_toArray, List.getElem?_cons_zero, List.getElem?_cons_succ]; rfl); rfl; rfl; (intro K hK; go_big_quiet_op; go_big_quiet_on)) | ((with_reducible apply wpSch_skip); (simp only [List.getElem?_toArray, List.getElem?_cons_zero, List.getElem?_cons_succ]; rfl); rfl; (try simp only [Act.put, List.setIfInBounds_toArray, List.set_cons_zero, List.set_cons_succ])))
        with_reducible apply wpSch_e_k
        (simp only [List.getElem?_toArray, List.getElem?_cons_zero, List.getElem?_cons_succ]; rfl)
        intro K HK
        go_wp2_with (first | (go_at_call 14; refine (fill_any _ _ (by omega) (by omega)).mono ?_; rintro e w' ⟨rfl, H1'⟩; replace HS := HS.fresh H1'; clear H1'))
        refine HK.out _ _ ⟨.inr (HS.hd (by (refine subCons ?_ subNil; repeat (first | exact HM.out | apply List.Mem.tail)))), ?_⟩
        clear HK K
        repeat (first | ((with_reducible apply cLoadRo1 (j := k * 4 + 1)); (simp only [List.getElem?_toArray, List.getElem?_cons_zero, List.getElem?_cons_succ]; rfl); infer_instance; rfl; rfl; (repeat (first | exact List.Mem.head _ | apply List.Mem.tail)); rfl; exact HP1.out; (try simp only [Act.put, List.setIfInBounds_toArray, List.set_cons_zero, List.set_cons_succ])) | ((with_reducible apply cLoadRo1 (j := k * 4 + 2)); (simp only [List.getElem?_toArray, List.getElem?_cons_zero, List.getElem?_cons_succ]; rfl); infer_instance; rfl; rfl; (repeat (first | exact List.Mem.head _ | apply List.Mem.tail)); rfl; exact HP2.out; (try simp only [Act.put, List.setIfInBounds_toArray, List.set_cons_zero, List.set_cons_succ])) | ((with_reducible apply cTwo); (simp only [List.getElem?_toArray, List.getElem?_cons_zero, List.getElem?_cons_succ]; rfl); rfl; infer_instance; (conv => (lhs; whnf)); (conv => (lhs; whnf)); exact cells1; exact cellsB _; rfl; (rw [List.length_map]; exact fillB_len f); (try simp only [Act.put, List.setIfInBounds_toArray, List.set_cons_zero, List.set_cons_succ])) | ((with_reducible apply wpSch_nilCheck); (simp only [List.getElem?_toArray, List.getElem?_cons_zero, List.getElem?_cons_succ]; rfl); rfl; rfl; (try simp only [Act.put, List.setIfInBounds_toArray, List.set_cons_zero, List.set_cons_succ])) | ((with_reducible apply wpSch_plain); (simp only [List.getElem?_toArray, List.getElem?_cons_zero, List.getElem?_cons_succ]; rfl); rfl; rfl; (intro K hK; go_big_quiet_op; go_big_quiet_on)) | ((with_reducible apply wpSch_skip); (simp only [List.getElem?_toArray, List.getElem?_cons_zero, List.getElem?_cons_succ]; rfl); rfl; (try simp only [Act.put, List.setIfInBounds_toArray, List.set_cons_zero, List.set_cons_succ])))
        with_reducible apply wpSch_e_k
        (simp only [List.getElem?_toArray, List.getElem?_cons_zero, List.getElem?_cons_succ]; rfl)
        intro K HK
        ((with_reducible apply sOne HS Try.underlying47 infoQ2 zW_size (by decide) (by decide)); rfl; (conv => (lhs; whnf)); (first | exact cells_agg _ | exact cells_one rfl); (simp [fillB_len]); intro B2 w' H1; clear HS; have HS := H1; clear H1)
        (try simp only [Act.put, List.setIfInBounds_toArray, List.set_cons_zero, List.set_cons_succ])
        refine wpList_nil (then_normal (HK.out _ _ ⟨.inr (HS.hd (by (refine subCons ?_ subNil; repeat (first | exact HM.out | apply List.Mem.tail)))), ?_⟩))
        clear HK K
        with_reducible apply wpSch_e_k
        (simp only [List.getElem?_toArray, List.getElem?_cons_zero, List.getElem?_cons_succ]; rfl)
        intro K HK
        ((with_reducible apply sAppend HS Try.underlying47 infoQ zW_size (by decide)); (conv => (lhs; whnf)); (intro v'; (repeat (first | exact Rep.here | apply Rep.there))); rfl; rotate_left; exact HS.newsAll (by (repeat (first | exact List.Mem.head _ | apply List.Mem.tail))); rotate_right; (simp [fillB_len]); exact wcell_one _ _; decide; omega; intro v1 w' H1 hnil; clear HS; have HS := H1; clear H1)
        (try simp only [Act.put, List.setIfInBounds_toArray, List.set_cons_zero, List.set_cons_succ])
        refine wpList_nil (then_normal (HK.out _ _ ⟨.inr (HS.hd (by (refine subCons ?_ subNil; repeat (first | exact HM.out | apply List.Mem.tail)))), ?_⟩))
        clear HK K
        with_reducible apply wpSch_e_k
        (simp only [List.getElem?_toArray, List.getElem?_cons_zero, List.getElem?_cons_succ]; rfl)
        intro K HK
        go_wp2_with (fail)
        refine HK.out _ _ ⟨.inl rfl, ?_⟩
        clear HK K
        refine wpSch_nil ?_
        go_wp2
        go_roundw
        case rel =>
          have e1 : encWs D.wait ++ ([Value.int .i64 b] ++ (fillB f).map bv).toArray.toList = encWs (D.write b (fillB f)).wait := by
            show _ = encWs (D.wait ++ [(b, fillB f)])
            simp [encWs]
          have e2 : D.wait.length + 1 = (D.write b (fillB f)).wait.length := by
            show _ = (D.wait ++ [_]).length
            simp
          have HS2 := HS.tail
          rw [e1, e2] at HS2
          obtain ⟨a1, q1, rfl⟩ := own_slice (HS2.own (v := v1) (List.mem_append_right (diskA (D.write b (fillB f)) N B g1 c1 g2 c2 vw') (.head _)))
          exact ⟨k + 1, vw', a1, q1, by omega, by go_num, by rw [HST.out, HC.out], by rw [HST.out, HC.out]; exact HS2⟩
        case measure => simp [intOf]; omega
      · have HC : Hid (crS N D (q, b, f, x) = D) := by show _ = _; unfold crS; rw [if_neg (by show ¬ q.tmod 8 = 4; omega), if_neg (by show ¬ (q.tmod 8 = 5 ∨ q.tmod 8 = 6 ∨ q.tmod 8 = 7); omega), if_neg hb]
        have HY : Hid (D.why N b = 2) := by show _ = _; rw [HWY.out, if_neg hb]
        clear HWY HW0 h567 hb
        go_wp2_with (first | ((with_reducible apply sLoadRo1 (j := k * 4) HS); infer_instance; rfl; rfl; exact List.mem_append_right _ (.tail _ HM.out); rfl; exact HP0.out))
        clear hr hrw b4 b5 b6 b7 h4 h5 h6 h7
        (try simp only [Act.put])
        refine wp_region_sch (.q 0 (.q 1 (.q 2 (.q 3 (.q 4 (.q 5 (.q 6 (.q 7 (.q 8 (.q 9 (.q 10 (.e 11 (.e 12 (.e 13 (.nil))))))))))))))) (Hd [.ro AA o (encAs l)]) (by kernel_rfl) (by kernel_rfl) (fun _ _ d _ _ h => by cases d <;> exact h) ?_
        intro w1 hm1
        replace HS := HS.fresh hm1
        clear hm1
        refine ⟨HS.hd (by (refine subCons ?_ subNil; exact List.mem_append_right _ (.tail _ HM.out))), ?_⟩
        repeat (first | ((with_reducible apply cLoadRo1 (j := k * 4 + 1)); (simp only [List.getElem?_toArray, List.getElem?_cons_zero, List.getElem?_cons_succ]; rfl); infer_instance; rfl; rfl; (repeat (first | exact List.Mem.head _ | apply List.Mem.tail)); rfl; exact HP1.out; (try simp only [Act.put, List.setIfInBounds_toArray, List.set_cons_zero, List.set_cons_succ])) | ((with_reducible apply cLoadRo1 (j := k * 4 + 2)); (simp only [List.getElem?_toArray, List.getElem?_cons_zero, List.getElem?_cons_succ]; rfl); infer_instance; rfl; rfl; (repeat (first | exact List.Mem.head _ | apply List.Mem.tail)); rfl; exact HP2.out; (try simp only [Act.put, List.setIfInBounds_toArray, List.set_cons_zero, List.set_cons_succ])) | ((with_reducible apply wpSch_nilCheck); (simp only [List.getElem?_toArray, List.getElem?_cons_zero, List.getElem?_cons_succ]; rfl); rfl; rfl; (try simp only [Act.put, List.setIfInBounds_toArray, List.set_cons_zero, List.set_cons_succ])) | ((with_reducible apply wpSch_plain); (simp only [List.getElem?_toArray, List.getElem?_cons_zero, List.getElem?_cons_succ]; rfl); rfl; rfl; (intro K hK; go_big_quiet_op; go_big_quiet_on)) | ((with_reducible apply wpSch_skip); (simp only [List.getElem?_toArray, List.getElem?_cons_zero, List.getElem?_cons_succ]; rfl); rfl; (try simp only [Act.put, List.setIfInBounds_toArray, List.set_cons_zero, List.set_cons_succ])))
        with_reducible apply wpSch_e_k
        (simp only [List.getElem?_toArray, List.getElem?_cons_zero, List.getElem?_cons_succ]; rfl)
        intro K HK
        go_wp2_with (first | (go_at_call 14; refine (fill_any _ _ (by omega) (by omega)).mono ?_; rintro e w' ⟨rfl, H1'⟩; replace HS := HS.fresh H1'; clear H1'))
        refine HK.out _ _ ⟨.inr (HS.hd (by (refine subCons ?_ subNil; exact List.mem_append_right _ (.tail _ HM.out)))), ?_⟩
        clear HK K
        with_reducible apply wpSch_e_k
        (simp only [List.getElem?_toArray, List.getElem?_cons_zero, List.getElem?_cons_succ]; rfl)
        intro K HK
        go_wp2_with (first | (go_at_call 24; refine (dk_write (D := D) (n := N) HS HOK.out.ok b (fillB f) (fillB_len f)).mono ?_; rintro e w' ⟨vw', rfl, H1'⟩; clear HS; have HS := H1'; clear H1'; rw [HY.out]))
        refine HK.out _ _ ⟨.inr (HS.hd (by (refine subCons ?_ subNil; exact List.mem_append_right _ (.tail _ HM.out)))), ?_⟩
        clear HK K
        with_reducible apply wpSch_e_k
        (simp only [List.getElem?_toArray, List.getElem?_cons_zero, List.getElem?_cons_succ]; rfl)
        intro K HK
        go_wp2_with (fail)
        refine HK.out _ _ ⟨.inl rfl, ?_⟩
        clear HK K
        refine wpSch_nil ?_
        rw [if_neg (by rw [HY.out]; decide)] at HS
        go_wp2
        go_roundw
        case rel => exact ⟨k + 1, vw', aq, cq, by omega, by go_num, by rw [HST.out, HC.out], by rw [HST.out, HC.out]; exact HS⟩
        case measure => simp [intOf]; omega
    · obtain rfl : k = l.length := by omega
      rw [List.take_length] at HS ⊢
      have hok := HALL.out l.length (Nat.le_refl _)
      rw [List.take_length] at hok
      obtain ⟨D, hD⟩ : ∃ D, playC N l = D := ⟨_, rfl⟩
      rw [hD] at HS hok ⊢
      clear hD HALL HLL HP
      have hq : D.wait = [] ∨ ∃ gq, aq = some ⟨gq, 0, none⟩ := by
        rcases (HS.own (v := .slice aq D.wait.length cq) (List.mem_append_right (diskA D N B g1 c1 g2 c2 vw) (.head _))).2 with ⟨_, h2⟩ | ⟨g, c, cur, h1, _⟩
        · exact .inl (List.eq_nil_of_length_eq_zero h2)
        · exact .inr ⟨g, by injection h1⟩
      have HQ := Lib.hid hq
      have HOK := Lib.hid hok
      have hokC := hok.ok.crash keep
      have HOC := Lib.hid hokC
      have hfew := hok.few
      have HA : ∀ k, Hid (all256 (applyW (through keep (D.wait.take k)) D.safe)) := fun k => applyW_256 _ (fun p hp => (hok.ok.waitB p (List.mem_of_mem_take (through_mem hp))).2.2) _ hok.ok.safeB
      have HAL : ∀ k, Hid ((applyW (through keep (D.wait.take k)) D.safe).length = N) := fun k => (applyW_len _ _).trans hok.ok.safe
      have HKL : Hid (∀ i, keep.getD i false = true → i < keep.length) := fun i h => by
        rcases Nat.lt_or_ge i keep.length with h1 | h1
        · exact h1
        · rw [getD_ge h1] at h; cases h
      have hkl := HKM.out
      unfold maxLen at hkl
      clear hq hok hokC hm
      go_wp2_with (fail)
      refine (dk_safe (D := D) (n := N) HS HOK.out.ok).mono ?_
      rintro e w2 ⟨gs, cs, rfl, H1'⟩
      clear HS; have HS := H1'.back1 (D := diskA D N B g1 c1 g2 c2 vw); clear H1'
      go_wp2_with (fail)
      refine (dk_image (D := D) (n := N) HS HOK.out.ok).mono ?_
      rintro e w3 ⟨gi, ci, rfl, H1'⟩
      clear HS; have HS := H1'.back1 (D := diskA D N B g1 c1 g2 c2 vw); clear H1'
      go_wp2_with (fail)
      refine (dk_waiting (D := D) (n := N) HS).mono ?_
      rintro e w4 ⟨rfl, rfl⟩
      go_wp2_with (fail)
      refine (dk_crash (D := D) (n := N) HS HOK.out.ok keep ak kc (by omega) (HKK.out.imp id (fun ⟨K, o, h1, h2⟩ => ⟨K, o, h1, fun w' hC => hC (.ro K o _) (.tail _ (.tail _ (.tail _ h2)))⟩))).mono ?_
      rintro e w5 ⟨vw3, rfl, H1'⟩
      clear HS; have HS := H1'; clear H1'
      go_wp2_with (fail)
      refine (dk_image (D := D.crash keep) (n := N) HS HOC.out).mono ?_
      rintro e w6 ⟨gj, cj, rfl, H1'⟩
      clear HS; have HS := H1'; clear H1'
      go_wp2_with (fail)
      go_loopw [15, 16] (fun t i wr => ∃ (k : Nat), k ≤ D.wait.length ∧ i = .int .i64 k ∧ t = .bool (allT keep D.wait.length k) ∧ St none' w wr (.own (.slice (some ⟨gj, 0, none⟩) N cj) 32 256 N (encBs (D.crash keep).now) :: (diskA (D.crash keep) N B g1 c1 g2 c2 vw3 ++ .own (.slice (some ⟨gi, 0, none⟩) N ci) 32 256 N (encBs D.now) :: .own (.slice (some ⟨gs, 0, none⟩) N cs) 32 256 N (encBs (applyW (through keep (D.wait.take k)) D.safe)) :: waitA (.slice aq D.wait.length cq) D.wait :: L))) (fun _ i _ => D.wait.length - (intOf i).toNat)
      case atStart =>
        refine ⟨0, by omega, rfl, ?_, HS⟩
        first | rfl | (simp [allT]; done) | skip
      case round =>
        obtain ⟨k, hk, rfl, rfl, HS⟩ := hrel
        by_cases hlt : k < D.wait.length
        · obtain ⟨gq, rfl⟩ : ∃ gq, aq = some ⟨gq, 0, none⟩ := HQ.out.resolve_left (fun e => by rw [e] at hlt; simp at hlt)
          obtain ⟨p, hp⟩ : ∃ p, D.wait[k]? = some p := ⟨_, List.getElem?_eq_getElem hlt⟩
          obtain ⟨hp0, hp1, hx⟩ := HOK.out.ok.waitB p (List.mem_of_getElem? hp)
          have HV0 := Lib.hid (encWs_cell (fun p hp => (HOK.out.ok.waitB p hp).2.2) hp)
          have HV1 := Lib.hid (encWs_block (fun p hp => (HOK.out.ok.waitB p hp).2.2) hp)
          have HTS := Lib.hid (through_succ keep D.wait k p hp)
          obtain ⟨b, x⟩ := p
          obtain ⟨b, rfl⟩ : ∃ b' : Nat, b = b' := ⟨b.toNat, by have : 0 ≤ b := hp0; omega⟩
          have hb0 : (0 : Int) ≤ (b : Int) := hp0
          have hb1 : (b : Int) < (N : Int) := hp1
          have hx' : x.length = 256 := hx
          have HL := Lib.hid (encBs_len (HA k).out)
          have z0 : (0 : Int) ≤ (k : Int) := by omega
          have z1 : (k : Int) < (D.wait.length : Int) := by omega
          rcases Bool.eq_false_or_eq_true (keep.getD k false) with hkk | hkk
          · have hkl2 : k < keep.length := HKL.out k hkk
            obtain ⟨K, o, rfl, hmk⟩ := HKK.out.resolve_left (fun e => by rw [e] at hkl2; simp at hkl2)
            have HMK := Lib.hid hmk
            have HKV : Hid ((keep.map Value.bool)[k]? = some (.bool true)) := by
              show _ = _
              rw [List.getElem?_map, getD_some (d := false) hkl2, hkk]; rfl
            have HE : Hid (spl (encBs (applyW (through keep (D.wait.take k)) D.safe)) (b * 256) (x.map bv) = encBs (applyW (through keep (D.wait.take (k + 1))) D.safe)) := by
              show _ = _
              rw [encBs_set (HA k).out hx' (by have := (HAL k).out; omega), HTS.out, if_pos hkk, applyW_snoc]
              rfl
            have HAT : Hid (allT keep D.wait.length (k + 1) = allT keep D.wait.length k) := by show _ = _; rw [allT, hkk, Bool.and_true]
            have hkd : decide ((k : Int) < (keep.length : Int)) = true := by simpa using hkl2
            have hkd2 : (k : Int) < (keep.length : Int) := by omega
            clear hp0 hp1 hp hx hkk hmk
            go_wp2_with (first | ((with_reducible apply sLoadRo1 (j := k) HS); infer_instance; rfl; rfl; (repeat (first | exact HMK.out | apply List.Mem.tail)); (first | rfl | omega); exact HKV.out))
            (try simp only [Act.put])
            refine wp_region_sch (.q 0 (.q 1 (.q 2 (.q 3 (.q 4 (.q 5 (.q 6 (.q 7 (.q 8 (.q 9 (.q 10 (.q 11 (.e 12 (.nil)))))))))))))) (Hd [.own (.slice (some ⟨gq, 0, none⟩) D.wait.length cq) 52 257 D.wait.length (encWs D.wait)]) (by kernel_rfl) (by kernel_rfl) (fun _ _ d _ _ h => by cases d <;> exact h) ?_
            intro w1 hm1
            replace HS := HS.fresh hm1
            clear hm1
            refine ⟨HS.hd (by (repeat (first | exact subNil | (refine subCons ?_ ?_; (repeat (first | exact List.Mem.head _ | apply List.Mem.tail)))))), ?_⟩
            repeat (first | ((with_reducible apply cLoadO1); (simp only [List.getElem?_toArray, List.getElem?_cons_zero, List.getElem?_cons_succ]; rfl); infer_instance; rfl; rfl; (repeat (first | exact List.Mem.head _ | apply List.Mem.tail)); exact HV0.out; (try simp only [Act.put, List.setIfInBounds_toArray, List.set_cons_zero, List.set_cons_succ])) | ((with_reducible apply cLoadO); (simp only [List.getElem?_toArray, List.getElem?_cons_zero, List.getElem?_cons_succ]; rfl); infer_instance; rfl; rfl; (repeat (first | exact List.Mem.head _ | apply List.Mem.tail)); exact HV1.out; (rw [List.length_map]; exact hx'); (try simp only [Act.put, List.setIfInBounds_toArray, List.set_cons_zero, List.set_cons_succ])) | ((with_reducible apply wpSch_nilCheck); (simp only [List.getElem?_toArray, List.getElem?_cons_zero, List.getElem?_cons_succ]; rfl); rfl; rfl; (try simp only [Act.put, List.setIfInBounds_toArray, List.set_cons_zero, List.set_cons_succ])) | ((with_reducible apply wpSch_plain); (simp only [List.getElem?_toArray, List.getElem?_cons_zero, List.getElem?_cons_succ]; rfl); rfl; rfl; (intro K hK; go_big_quiet_op; go_big_quiet_on)) | ((with_reducible apply wpSch_skip); (simp only [List.getElem?_toArray, List.getElem?_cons_zero, List.getElem?_cons_succ]; rfl); rfl; (try simp only [Act.put, List.setIfInBounds_toArray, List.set_cons_zero, List.set_cons_succ])))
            with_reducible apply wpSch_e_k
            (simp only [List.getElem?_toArray, List.getElem?_cons_zero, List.getElem?_cons_succ]; rfl)
            intro K HK
            ((with_reducible apply sStoreO HS); infer_instance; rfl; rfl; (conv => (lhs; whnf)); (repeat (first | exact Rep.here | apply Rep.there)); (simp [hx']); (rw [HL.out, (HAL k).out]; simp [hx']; omega); exact map_one' _; intro w' H1; clear HS; have HS := H1; clear H1)
            (try simp only [Act.put])
            refine wpList_nil (then_normal (HK.out _ _ ⟨.inl rfl, ?_⟩))
            clear HK K
            refine wpSch_nil ?_
            go_wp2
            go_roundw
            case rel =>
              simp only [HE.out] at HS
              exact ⟨k + 1, by omega, by go_num, by rw [HAT.out], HS⟩
            case measure => simp [intOf]; omega
          · have HE : Hid (through keep (D.wait.take (k + 1)) = through keep (D.wait.take k)) := by
              show _ = _
              rw [HTS.out, if_neg (by rw [hkk]; simp), List.append_nil]
            have HAT : Hid (allT keep D.wait.length (k + 1) = false) := by show _ = _; rw [allT, hkk, Bool.and_false]
            by_cases hkl2 : k < keep.length
            · obtain ⟨K, o, rfl, hmk⟩ := HKK.out.resolve_left (fun e => by rw [e] at hkl2; simp at hkl2)
              have HMK := Lib.hid hmk
              have HKV : Hid ((keep.map Value.bool)[k]? = some (.bool false)) := by
                show _ = _
                rw [List.getElem?_map, getD_some (d := false) hkl2, hkk]; rfl
              have hkd : decide ((k : Int) < (keep.length : Int)) = true := by simpa using hkl2
              have hkd2 : (k : Int) < (keep.length : Int) := by omega
              clear hp0 hp1 hp hx hkk hmk
              go_wp2_with (first | ((with_reducible apply sLoadRo1 (j := k) HS); infer_instance; rfl; rfl; (repeat (first | exact HMK.out | apply List.Mem.tail)); (first | rfl | omega); exact HKV.out))
              go_roundw
              case rel => exact ⟨k + 1, by omega, by go_num, by rw [HAT.out], by rw [HE.out]; exact HS⟩
              case measure => simp [intOf]; omega
            · have hkd : decide ((k : Int) < (keep.length : Int)) = false := by simpa using hkl2
              clear hp0 hp1 hp hx hkk
              go_wp2
              go_roundw
              case rel => exact ⟨k + 1, by omega, by go_num, by rw [HAT.out], by rw [HE.out]; exact HS⟩
              case measure => simp [intOf]; omega
        · obtain rfl : k = D.wait.length := by omega
          have HAW := HA D.wait.length
          have HALW := HAL D.wait.length
          have HAN : Hid (allT keep D.wait.length D.wait.length = true → (D.crash keep).now = D.now) := fun h => by
            show applyW (through keep D.wait) D.safe = D.now
            rw [through_all (allT_mem h), ← HOK.out.now]
          rw [List.take_length] at HS HAW HALW
          obtain ⟨t, ht⟩ : ∃ t, allT keep D.wait.length D.wait.length = t := ⟨_, rfl⟩
          rw [ht] at HAN ⊢
          have hok1 := HOC.out.write (b := 0) (by omega) (by omega) (fillB_len 77) (by show ([] : List (Int × List UInt8)).length < _; simp) (by show D.acts < _; have := HOK.out.acts; omega)
          have hok2 := hok1.flush (by show D.acts + 1 < _; have := HOK.out.acts; omega)
          have hok3 := hok2.crash []
          have HO1 := Lib.hid hok1
          have HO2 := Lib.hid hok2
          have HO3 := Lib.hid hok3
          have HY0 : Hid ((D.crash keep).why N 0 = 0) := by show Dk.why _ _ _ = _; unfold Dk.why; rw [if_neg (by show ¬ (-1 : Int) = 0; omega), if_neg (by omega)]
          have HY1 : Hid (((D.crash keep).write 0 (fillB 77)).why N 0 = 0) := by show Dk.why _ _ _ = _; unfold Dk.why; rw [if_neg (by show ¬ (-1 : Int) = 0; omega), if_neg (by omega)]
          have HY3 : Hid (((((D.crash keep).write 0 (fillB 77)).flush).crash []).why N 0 = 0) := by show Dk.why _ _ _ = _; unfold Dk.why; rw [if_neg (by show ¬ (-1 : Int) = 0; omega), if_neg (by omega)]
          have HG3 : Hid (((((D.crash keep).write 0 (fillB 77)).flush).crash []).now.getD (0 : Int).toNat Z256 = fillB 77) := (after_now HOC.out (fillB 77)).resolve_right (fun h => h rfl)
          clear hok1 hok2 hok3 ht
          go_wp2_with (fail)
          refine (same_n HS (D.crash keep).now (applyW (through keep D.wait) D.safe) HOC.out.nowB HAW.out HOC.out.now HALW.out (by omega) (fun w' hC => hd_own (g := gj) (n := N) (e := 32) (sz := 256) hC (by (repeat (first | exact List.Mem.head _ | apply List.Mem.tail)))) (fun w' hC => hd_own (g := gs) (n := N) (e := 32) (sz := 256) hC (by (repeat (first | exact List.Mem.head _ | apply List.Mem.tail))))).mono ?_
          rintro e w7 ⟨rfl, H1'⟩
          clear HS; have HS := H1'; clear H1'
          rw [show ((D.crash keep).now == applyW (through keep D.wait) D.safe) = true from by simp [Dk.crash]]
          go_wp2_with (fail)
          refine (dk_safe (D := D.crash keep) (n := N) (HS.back1 (D := diskA (D.crash keep) N B g1 c1 g2 c2 vw3)) HOC.out).mono ?_
          rintro e w8 ⟨gt, ct, rfl, H1'⟩
          clear HS; have HS := H1'; clear H1'
          go_wp2_with (fail)
          refine (same_n HS (D.crash keep).safe (D.crash keep).now HOC.out.safeB HOC.out.nowB HOC.out.safe HOC.out.now (by omega) (fun w' hC => hd_own (g := gt) (n := N) (e := 32) (sz := 256) hC (by (repeat (first | exact List.Mem.head _ | apply List.Mem.tail)))) (fun w' hC => hd_own (g := gj) (n := N) (e := 32) (sz := 256) hC (by (repeat (first | exact List.Mem.head _ | apply List.Mem.tail))))).mono ?_
          rintro e w9 ⟨rfl, H1'⟩
          clear HS; have HS := H1'.back1 (D := diskA (D.crash keep) N B g1 c1 g2 c2 vw3); clear H1'
          rw [show ((D.crash keep).safe == (D.crash keep).now) = true from by simp [Dk.crash]]
          rcases t with _ | _
          · skip
            clear HAN
            go_wp2_with (first | (go_at_call 14; refine (fill_any _ _ (by omega) (by omega)).mono ?_; rintro e w' ⟨rfl, H1'⟩; replace HS := HS.fresh H1'; clear H1'))
            refine (dk_write_ok HS HOC.out 0 (fillB 77) (fillB_len 77) HY0.out).mono ?_
            rintro e w11 ⟨vw4, rfl, H1'⟩
            clear HS; have HS := H1'; clear H1'
            go_wp2_with (fail)
            refine (dk_flush (D := (D.crash keep).write 0 (fillB 77)) (n := N) HS HO1.out).mono ?_
            rintro e w12 ⟨vw5, rfl, H1'⟩
            rw [HY1.out, if_pos rfl] at H1'
            rw [HY1.out]
            clear HS; have HS := H1'; clear H1'
            go_wp2_with (fail)
            refine (dk_crash (D := ((D.crash keep).write 0 (fillB 77)).flush) (n := N) HS HO2.out [] none 0 (by simp) (.inl rfl)).mono ?_
            rintro e w13 ⟨vw6, rfl, H1'⟩
            clear HS; have HS := H1'; clear H1'
            go_wp2_with (fail)
            refine (dk_read_ok HS HO3.out 0 HY3.out HG3.out).mono ?_
            rintro e w14 ⟨rfl, H1'⟩
            clear HS; have HS := H1'; clear H1'
            go_wp2_with (first | ((with_reducible apply sAlloc HS); infer_instance; (first | exact cells_agg _ | exact cells_one rfl); rfl; intro BY w' H1; clear HS; have HS := H1; clear H1) | ((with_reducible apply sStoreB HS); infer_instance; rfl; rfl; (conv => (lhs; whnf)); (repeat (first | exact Rep.here | apply Rep.there)); exact encF _; exact zB_size; exact encB_one _; intro w' H1; clear HS; have HS := H1; clear H1))
            (try simp only [Act.put])
            refine wp_region_quietF (by kernel_rfl) (by kernel_rfl) ?_
            repeat (first | go_big_quiet_skip | (((with_reducible apply qLoadB HS); infer_instance; rfl; rfl; (repeat (first | exact List.Mem.head _ | apply List.Mem.tail)); exact encF _); (try simp only [Act.put, List.setIfInBounds_toArray, List.set_cons_zero, List.set_cons_succ])) | (((with_reducible apply qEqB blkT); rfl; rfl; rfl; exact fillB_len _; exact fillB_len _; rw [show (fillB _ == fillB _) = true by simp]); (try simp only [Act.put, List.setIfInBounds_toArray, List.set_cons_zero, List.set_cons_succ])) | (go_big_quiet_want; go_big_quiet_op; first | go_big_quiet_on | (refine ⟨_, fun _ _ => rfl, ?_⟩; go_big_quiet_on) | (apply Exists.intro; refine ⟨fun wc hfr => ?_, ?_⟩; (· first | (go_at_call 14; exact fr_call hfr (fill_any _ _ (by omega) (by omega))) | (go_at_call 22; exact fr_call hfr (awake_mod _))); go_big_quiet_on)))
            refine wpQuiet_nil ?_
            intro w1 hm1
            replace HS := HS.fresh hm1
            clear hm1
            go_wp2
            go_ret
            exact ⟨rfl, HS.below⟩
          · go_wp2_with (fail)
            refine (same_n HS (D.crash keep).now D.now HOC.out.nowB HOK.out.ok.nowB HOC.out.now HOK.out.ok.now (by omega) (fun w' hC => hd_own (g := gj) (n := N) (e := 32) (sz := 256) hC (by (repeat (first | exact List.Mem.head _ | apply List.Mem.tail)))) (fun w' hC => hd_own (g := gi) (n := N) (e := 32) (sz := 256) hC (by (repeat (first | exact List.Mem.head _ | apply List.Mem.tail))))).mono ?_
            rintro e w10 ⟨rfl, H1'⟩
            clear HS; have HS := H1'; clear H1'
            rw [show ((D.crash keep).now == D.now) = true by rw [HAN.out (by first | rfl | trivial)]; simp]
            clear HAN
            go_wp2_with (first | (go_at_call 14; refine (fill_any _ _ (by omega) (by omega)).mono ?_; rintro e w' ⟨rfl, H1'⟩; replace HS := HS.fresh H1'; clear H1'))
            refine (dk_write_ok HS HOC.out 0 (fillB 77) (fillB_len 77) HY0.out).mono ?_
            rintro e w11 ⟨vw4, rfl, H1'⟩
            clear HS; have HS := H1'; clear H1'
            go_wp2_with (fail)
            refine (dk_flush (D := (D.crash keep).write 0 (fillB 77)) (n := N) HS HO1.out).mono ?_
            rintro e w12 ⟨vw5, rfl, H1'⟩
            rw [HY1.out, if_pos rfl] at H1'
            rw [HY1.out]
            clear HS; have HS := H1'; clear H1'
            go_wp2_with (fail)
            refine (dk_crash (D := ((D.crash keep).write 0 (fillB 77)).flush) (n := N) HS HO2.out [] none 0 (by simp) (.inl rfl)).mono ?_
            rintro e w13 ⟨vw6, rfl, H1'⟩
            clear HS; have HS := H1'; clear H1'
            go_wp2_with (fail)
            refine (dk_read_ok HS HO3.out 0 HY3.out HG3.out).mono ?_
            rintro e w14 ⟨rfl, H1'⟩
            clear HS; have HS := H1'; clear H1'
            go_wp2_with (first | ((with_reducible apply sAlloc HS); infer_instance; (first | exact cells_agg _ | exact cells_one rfl); rfl; intro BY w' H1; clear HS; have HS := H1; clear H1) | ((with_reducible apply sStoreB HS); infer_instance; rfl; rfl; (conv => (lhs; whnf)); (repeat (first | exact Rep.here | apply Rep.there)); exact encF _; exact zB_size; exact encB_one _; intro w' H1; clear HS; have HS := H1; clear H1))
            (try simp only [Act.put])
            refine wp_region_quietF (by kernel_rfl) (by kernel_rfl) ?_
            repeat (first | go_big_quiet_skip | (((with_reducible apply qLoadB HS); infer_instance; rfl; rfl; (repeat (first | exact List.Mem.head _ | apply List.Mem.tail)); exact encF _); (try simp only [Act.put, List.setIfInBounds_toArray, List.set_cons_zero, List.set_cons_succ])) | (((with_reducible apply qEqB blkT); rfl; rfl; rfl; exact fillB_len _; exact fillB_len _; rw [show (fillB _ == fillB _) = true by simp]); (try simp only [Act.put, List.setIfInBounds_toArray, List.set_cons_zero, List.set_cons_succ])) | (go_big_quiet_want; go_big_quiet_op; first | go_big_quiet_on | (refine ⟨_, fun _ _ => rfl, ?_⟩; go_big_quiet_on) | (apply Exists.intro; refine ⟨fun wc hfr => ?_, ?_⟩; (· first | (go_at_call 14; exact fr_call hfr (fill_any _ _ (by omega) (by omega))) | (go_at_call 22; exact fr_call hfr (awake_mod _))); go_big_quiet_on)))
            refine wpQuiet_nil ?_
            intro w1 hm1
            replace HS := HS.fresh hm1
            clear hm1
            go_wp2
            go_ret
            exact ⟨rfl, HS.below⟩

set_option maxRecDepth 100000 in
theorem lifted (os : Os) (started : os.Started) (H : Type) (enc : TypeId × Value → H) :
    ReturnsInHanded {} Try.checked os 6 .any (Rows.diskCrashesSpec.pre6 enc Try.prog Try.f6 Rows.diskCrashesRow.domain false) (Rows.diskCrashesSpec.post enc Try.prog Try.f6 false true false false) := by
  refine law_lift (C := Try.checked) own started (by kernel_rfl) Try.func6 laidOut rfl Try.underlying4 rfl ?hs (by kernel_rfl)
    (ChangeSpec.witness6 (enc := enc) (C := Try.checked) false ⟨#[], #[.int .i64 0, .slice none 0 0, .slice none 0 0], []⟩ 8 (by kernel_rfl) (by kernel_rfl) (by kernel_rfl) (by kernel_rfl)) ?hwalk
  case hs =>
    intro ds h
    match ds, h with
    | [d0, d1, d2], _ => rfl
  case hwalk =>
    intro W args hn ha
    obtain ⟨l⟩ := args
    match l, hn with
    | [v0, v1, v2], _ =>
      obtain ⟨n, rfl, _⟩ := (ha 0 _ _ rfl rfl).int Try.underlying3
      obtain ⟨ad, cap, l, rfl, hm, _, _, hp, hl⟩ := acts_arg (ha 1 _ _ rfl rfl)
      obtain ⟨ak, kc, keep, rfl, hkm, hk⟩ := bools_arg (ha 2 _ _ rfl rfl)
      obtain ⟨L1, HS1, hro1, hl1⟩ := (St.nil none' W).arg (by simp) hl
      obtain ⟨L2, HS, _, hl2⟩ := HS1.arg hro1 hk
      exact walk n ad cap l ak kc keep W _ HS hm hp (hl1.imp id (fun ⟨A, o, h1, h2⟩ => ⟨A, o, h1, List.mem_append_right _ (List.mem_append_left _ h2)⟩)) hkm (hl2.imp id (fun ⟨A, o, h1, h2⟩ => ⟨A, o, h1, List.mem_append_left _ h2⟩))

theorem over : Rows.diskCrashesRow.holds Try.pinned (OpenSpec.ofChange Rows.diskCrashesSpec) :=
  OpenClaim.holds_of_wide 6 Try.f6 rfl rfl rfl rfl rfl rfl rfl ⟨rfl, rfl, rfl, rfl, rfl⟩ rfl rfl rfl rfl rfl (by kernel_rfl) Try.func6 (by kernel_rfl)
    (of_decide_eq_true (by kernel_rfl)) (by unfold Func.isWrapper; first | (rw [if_pos (by decide +kernel)]; kernel_rfl) | (rw [if_neg (by decide +kernel)]; exact ⟨rfl, rfl⟩))
    (fun os started H enc _ => lifted os started H enc)

theorem proved : Rows.DiskCrashesSaid := over
#print axioms proved
end Go.Proofs.Ytfdomknagcdpeaa.diskCrashes
