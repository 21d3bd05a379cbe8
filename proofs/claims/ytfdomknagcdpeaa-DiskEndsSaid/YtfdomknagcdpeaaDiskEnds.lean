/- Behind Power just so many acts are done, and then nothing, till a crash: then the disk is there again. -/
import Derived.Test.YtfdomknagcdpeaaDEnd
namespace Go.Proofs.Ytfdomknagcdpeaa.diskEnds
open Go Go.RowKit Go.ChangeShapes Go.WideShapes Go.ChangeAt

theorem own : ownKnob Try.prog.godebug = none := by kernel_rfl
theorem laidOut : laidOutB Try.prog = true := by kernel_rfl

theorem valZ' {P : Program} {d : Option Tmp} {ty : TypeId} {pos : String} {af : Array Edge} {gd : Option (Nat × Bool)} {a : Act} {T E : TypeId} (hT : BlkT P T E) : Val P a ⟨d, .build T #[], ty, pos, af, gd⟩ (.agg (encB Z256)) := fun w => by
  unfold execOp
  simp only [List.map_toArray, List.map_nil, run_build w T #[] (encB Z256) hT.built, Sem.run_bind, Result.andThen_ok, Sem.run_pure]
theorem through_nil (ws : List (Int × List UInt8)) : through [] ws = [] := by unfold through; simp
set_option maxRecDepth 100000 in
set_option maxHeartbeats 20000000 in
theorem walk (n after : Int) (ad : Option Addr) (cap : Nat) (l : List (Int × Int)) (w : World) (L : List Ass) (HS : St none' w w L) (hm : l.length ≤ maxLen) (hp : ∀ p ∈ l, putOk p) (hl : l = [] ∨ ∃ A o, ad = some ⟨A, o, none⟩ ∧ Ass.ro A o (encPs l) ∈ L) :
    Calls Try.prog 7 #[.int .i64 n, .int .i64 after, .slice ad l.length cap] w fun e w' => e = .returned (.bool true) ∧ Below w.heap.size w w' := by
  have HP := Lib.hid hp
  have HLL := Lib.hid hl
  unfold maxLen at hm
  clear hp hl
  by_cases hlong : 300 < l.length
  · have hI : (300 : Int) < (l.length : Int) := by omega
    go_enter Try.func7, Try.ntmps7
    go_wp2
    go_ret
    exact ⟨rfl, HS.below⟩
  have hI : (l.length : Int) ≤ 300 := by omega
  obtain ⟨u, hu, u0, hN⟩ : ∃ u, IntKind.u64.wrap n = u ∧ 0 ≤ u ∧ 1 + u % 64 = ((many64 n : Nat) : Int) := by
    refine ⟨_, rfl, ?_, ?_⟩
    · rw [IntKind.wrap_u64]; omega
    · rw [IntKind.wrap_u64]; unfold many64; omega
  obtain ⟨A, v, hv, v0, hA, hA50⟩ : ∃ (A : Nat) (v : Int), IntKind.u64.wrap after = v ∧ 0 ≤ v ∧ v % 51 = (A : Int) ∧ A ≤ 50 := by
    refine ⟨((after % 18446744073709551616) % 51).toNat, after % 18446744073709551616, ?_, ?_, ?_, ?_⟩
    · rw [IntKind.wrap_u64]
    · omega
    · omega
    · omega
  have HN := Lib.hid hN
  have HA := Lib.hid hA
  clear hN hA hlong
  obtain ⟨N0, N1⟩ := many64_bd n
  obtain ⟨N, hNn⟩ : ∃ N, many64 n = N := ⟨_, rfl⟩
  rw [hNn] at HN N0 N1
  clear hNn
  have hall : ∀ k, k ≤ l.length → EndOk N A (playE N A (l.take k)) k := fun k hk => endOk_all N0 (by omega) hA50 l k hk (by omega)
  have HALL := Lib.hid hall
  clear hall
  go_enter Try.func7, Try.ntmps7
  go_wp2_with (fail)
  rw [HN.out, HA.out]
  clear HN HA hu hv u0 v0
  refine (dk_new HS (n := N) N0 (by omega)).mono ?_
  rintro e w' ⟨B, g1, c1, g2, c2, rfl, H1'⟩
  clear HS; have HS := H1'; clear H1'
  go_wp2_with (fail)
  refine (dk_power HS (A : Int) (by omega)).mono ?_
  rintro e w' ⟨rfl, H1'⟩
  clear HS; have HS := H1'; clear H1'
  go_wp2_with (fail)
  go_loopw [9, 10] (fun d i wr => ∃ (k : Nat) (vw : Value), k ≤ l.length ∧ i = .int .i64 k ∧ d = .int .i64 ((min k A : Nat) : Int) ∧ St none' w wr (diskA (playE N A (l.take k)) N B g1 c1 g2 c2 vw ++ L)) (fun _ i _ => l.length - (intOf i).toNat)
  case atStart => exact ⟨0, .slice none 0 0, by omega, rfl, by rw [Nat.zero_min]; rfl, HS⟩
  case round =>
    obtain ⟨k, vw, hk, rfl, rfl, HS⟩ := hrel
    by_cases hlt : k < l.length
    · obtain ⟨p, hp⟩ : ∃ p, l[k]? = some p := ⟨_, List.getElem?_eq_getElem hlt⟩
      obtain ⟨p0, p1, p2, p3⟩ := HP.out p (List.mem_of_getElem? hp)
      obtain ⟨AA, o, rfl, hmem⟩ := HLL.out.resolve_left (fun e => by rw [e] at hlt; simp at hlt)
      have HM := Lib.hid hmem
      have HP0 := Lib.hid (encPs_0 hp)
      have HP1 := Lib.hid (encPs_1 hp)
      have hok := HALL.out k hk
      have HST : Hid (playE N A (l.take (k + 1)) = wrE N (playE N A (l.take k)) p) := by
        show _ = _
        rw [List.take_add_one, hp, Option.toList_some, playE_snoc]
      obtain ⟨b, f⟩ := p
      have hbd := endAt_bd N0 b
      have HWY := Lib.hid (hok.why hbd)
      have HOK := Lib.hid hok
      obtain ⟨D, hD⟩ : ∃ D, playE N A (l.take k) = D := ⟨_, rfl⟩
      rw [hD] at HOK HST HWY HS
      have HDL : Hid (D.left = (A : Int) - ((min k A : Nat) : Int)) := HOK.out.left
      clear hD hmem hp hok
      simp only [] at p0 p1 p2 p3 HP0 HP1
      have z0 : (0 : Int) ≤ (k : Int) := by omega
      have z1 : (k : Int) < (l.length : Int) := by omega
      obtain ⟨u, hu, u0, hum⟩ : ∃ u, IntKind.u64.wrap b = u ∧ 0 ≤ u ∧ u.tmod (N : Int) = ((endAt N b : Nat) : Int) := by
        refine ⟨_, rfl, by rw [IntKind.wrap_u64]; omega, ?_⟩
        rw [IntKind.wrap_u64, Int.tmod_eq_emod_of_nonneg (by omega)]
        unfold endAt
        have h1 := Int.emod_nonneg (b % 18446744073709551616) (show (N : Int) ≠ 0 by omega)
        omega
      have hNw : IntKind.u64.wrap (N : Int) = (N : Int) := by rw [IntKind.wrap_u64]; omega
      obtain ⟨q, hq⟩ : ∃ q, endAt N b = q := ⟨_, rfl⟩
      have HEQ := Lib.hid hq
      rw [hq] at hum hbd HWY
      clear hq
      have hqw : IntKind.i64.wrap (q : Int) = (q : Int) := IntWalk.i64_in _ (by omega)
      have hn0 : ((N : Int) == 0) = false := by rw [beq_eq_false_iff_ne]; omega
      have hn1 : ¬ ((N : Int) = 0) := by omega
      by_cases hkA : k < A
      · have e1 : min k A = k := by omega
        have HY : Hid (D.why N q = 0) := by show _ = _; rw [HWY.out, if_neg (by omega)]
        have HIF : Hid ((if D.why N q = 0 then D.write q (fillB f) else D) = wrE N D (b, f)) := by
          show _ = _
          rw [HY.out, if_pos rfl, wrE, if_neg (by rw [HDL.out]; omega), HEQ.out]
        have e2 : Hid (min (k + 1) A = k + 1) := by show _ = _; omega
        rw [e1]
        have z2 : (k : Int) < (A : Int) := by omega
        have z3 : decide ((k : Int) < (A : Int)) = true := by simpa using hkA
        have z4 : decide ((A : Int) ≤ (k : Int)) = false := by simp; omega
        clear e1 HWY
        go_wp2
        (try simp only [Act.put])
        refine wp_region_sch (.q 0 (.q 1 (.q 2 (.q 3 (.q 4 (.q 5 (.q 6 (.q 7 (.q 8 (.q 9 (.q 10 (.q 11 (.q 12 (.q 13 (.q 14 (.q 15 (.e 16 (.e 17 (.e 18 (.nil)))))))))))))))))))) (Hd [.ro AA o (encPs l)]) (by kernel_rfl) (by kernel_rfl) (fun _ _ d _ _ h => by cases d <;> exact h) ?_
        intro w1 hm1
        replace HS := HS.fresh hm1
        clear hm1
        refine ⟨HS.hd (by (refine subCons ?_ subNil; exact List.mem_append_right _ HM.out)), ?_⟩
        repeat (first | ((with_reducible apply cLoadRo1 (j := k * 2)); (simp only [List.getElem?_toArray, List.getElem?_cons_zero, List.getElem?_cons_succ]; rfl); infer_instance; rfl; rfl; (repeat (first | exact List.Mem.head _ | apply List.Mem.tail)); rfl; exact HP0.out; (try simp only [Act.put, List.setIfInBounds_toArray, List.set_cons_zero, List.set_cons_succ])) | ((with_reducible apply cLoadRo1 (j := k * 2 + 1)); (simp only [List.getElem?_toArray, List.getElem?_cons_zero, List.getElem?_cons_succ]; rfl); infer_instance; rfl; rfl; (repeat (first | exact List.Mem.head _ | apply List.Mem.tail)); rfl; exact HP1.out; (try simp only [Act.put, List.setIfInBounds_toArray, List.set_cons_zero, List.set_cons_succ])) | ((with_reducible apply wpSch_nilCheck); (simp only [List.getElem?_toArray, List.getElem?_cons_zero, List.getElem?_cons_succ]; rfl); rfl; rfl; (try simp only [Act.put, List.setIfInBounds_toArray, List.set_cons_zero, List.set_cons_succ])) | ((with_reducible apply wpSch_plain); (simp only [List.getElem?_toArray, List.getElem?_cons_zero, List.getElem?_cons_succ]; rfl); rfl; rfl; (intro K hK; go_big_quiet_op; go_big_quiet_on)) | ((with_reducible apply wpSch_skip); (simp only [List.getElem?_toArray, List.getElem?_cons_zero, List.getElem?_cons_succ]; rfl); rfl; (try simp only [Act.put, List.setIfInBounds_toArray, List.set_cons_zero, List.set_cons_succ])))
        with_reducible apply wpSch_e_k
        (simp only [List.getElem?_toArray, List.getElem?_cons_zero, List.getElem?_cons_succ]; rfl)
        intro K HK
        go_wp2_with (first | (go_at_call 14; refine (fill_any _ _ (by omega) (by omega)).mono ?_; rintro e w' ⟨rfl, H1'⟩; replace HS := HS.fresh H1'; clear H1'))
        refine HK.out _ _ ⟨.inr (HS.hd (by (refine subCons ?_ subNil; exact List.mem_append_right _ HM.out))), ?_⟩
        clear HK K
        with_reducible apply wpSch_e_k
        (simp only [List.getElem?_toArray, List.getElem?_cons_zero, List.getElem?_cons_succ]; rfl)
        intro K HK
        go_wp2_with (first | (go_at_call 24; refine (dk_write (D := D) (n := N) HS HOK.out.ok (q : Int) (fillB f) (fillB_len f)).mono ?_; rintro e w' ⟨vw', rfl, H1'⟩; clear HS; have HS := H1'; clear H1'; rw [HY.out]))
        refine HK.out _ _ ⟨.inr (HS.hd (by (refine subCons ?_ subNil; exact List.mem_append_right _ HM.out))), ?_⟩
        clear HK K
        with_reducible apply wpSch_e_k
        (simp only [List.getElem?_toArray, List.getElem?_cons_zero, List.getElem?_cons_succ]; rfl)
        intro K HK
        go_wp2_with (fail)
        refine HK.out _ _ ⟨.inl rfl, ?_⟩
        clear HK K
        refine wpSch_nil ?_
        rw [HIF.out] at HS
        go_wp2
        go_roundw
        case rel => exact ⟨k + 1, vw', by omega, by go_num, by rw [e2.out]; go_num, by rw [HST.out]; exact HS⟩
        case measure => simp [intOf]; omega
      · have e1 : min k A = A := by omega
        have HY : Hid (D.why N q = 30) := by show _ = _; rw [HWY.out, if_pos (by omega)]
        have HIF : Hid ((if D.why N q = 0 then D.write q (fillB f) else D) = wrE N D (b, f)) := by
          show _ = _
          rw [HY.out, if_neg (by decide), wrE, if_pos (by rw [HDL.out]; omega)]
        have e2 : Hid (min (k + 1) A = A) := by show _ = _; omega
        rw [e1]
        have z3 : decide ((A : Int) < (A : Int)) = false := by simp
        have z4 : decide ((A : Int) ≤ (A : Int)) = true := by simp
        clear e1 HWY
        go_wp2
        (try simp only [Act.put])
        refine wp_region_sch (.q 0 (.q 1 (.q 2 (.q 3 (.q 4 (.q 5 (.q 6 (.q 7 (.q 8 (.q 9 (.q 10 (.q 11 (.q 12 (.q 13 (.q 14 (.q 15 (.e 16 (.e 17 (.e 18 (.nil)))))))))))))))))))) (Hd [.ro AA o (encPs l)]) (by kernel_rfl) (by kernel_rfl) (fun _ _ d _ _ h => by cases d <;> exact h) ?_
        intro w1 hm1
        replace HS := HS.fresh hm1
        clear hm1
        refine ⟨HS.hd (by (refine subCons ?_ subNil; exact List.mem_append_right _ HM.out)), ?_⟩
        repeat (first | ((with_reducible apply cLoadRo1 (j := k * 2)); (simp only [List.getElem?_toArray, List.getElem?_cons_zero, List.getElem?_cons_succ]; rfl); infer_instance; rfl; rfl; (repeat (first | exact List.Mem.head _ | apply List.Mem.tail)); rfl; exact HP0.out; (try simp only [Act.put, List.setIfInBounds_toArray, List.set_cons_zero, List.set_cons_succ])) | ((with_reducible apply cLoadRo1 (j := k * 2 + 1)); (simp only [List.getElem?_toArray, List.getElem?_cons_zero, List.getElem?_cons_succ]; rfl); infer_instance; rfl; rfl; (repeat (first | exact List.Mem.head _ | apply List.Mem.tail)); rfl; exact HP1.out; (try simp only [Act.put, List.setIfInBounds_toArray, List.set_cons_zero, List.set_cons_succ])) | ((with_reducible apply wpSch_nilCheck); (simp only [List.getElem?_toArray, List.getElem?_cons_zero, List.getElem?_cons_succ]; rfl); rfl; rfl; (try simp only [Act.put, List.setIfInBounds_toArray, List.set_cons_zero, List.set_cons_succ])) | ((with_reducible apply wpSch_plain); (simp only [List.getElem?_toArray, List.getElem?_cons_zero, List.getElem?_cons_succ]; rfl); rfl; rfl; (intro K hK; go_big_quiet_op; go_big_quiet_on)) | ((with_reducible apply wpSch_skip); (simp only [List.getElem?_toArray, List.getElem?_cons_zero, List.getElem?_cons_succ]; rfl); rfl; (try simp only [Act.put, List.setIfInBounds_toArray, List.set_cons_zero, List.set_cons_succ])))
        with_reducible apply wpSch_e_k
        (simp only [List.getElem?_toArray, List.getElem?_cons_zero, List.getElem?_cons_succ]; rfl)
        intro K HK
        go_wp2_with (first | (go_at_call 14; refine (fill_any _ _ (by omega) (by omega)).mono ?_; rintro e w' ⟨rfl, H1'⟩; replace HS := HS.fresh H1'; clear H1'))
        refine HK.out _ _ ⟨.inr (HS.hd (by (refine subCons ?_ subNil; exact List.mem_append_right _ HM.out))), ?_⟩
        clear HK K
        with_reducible apply wpSch_e_k
        (simp only [List.getElem?_toArray, List.getElem?_cons_zero, List.getElem?_cons_succ]; rfl)
        intro K HK
        go_wp2_with (first | (go_at_call 24; refine (dk_write (D := D) (n := N) HS HOK.out.ok (q : Int) (fillB f) (fillB_len f)).mono ?_; rintro e w' ⟨vw', rfl, H1'⟩; clear HS; have HS := H1'; clear H1'; rw [HY.out]))
        refine HK.out _ _ ⟨.inr (HS.hd (by (refine subCons ?_ subNil; exact List.mem_append_right _ HM.out))), ?_⟩
        clear HK K
        with_reducible apply wpSch_e_k
        (simp only [List.getElem?_toArray, List.getElem?_cons_zero, List.getElem?_cons_succ]; rfl)
        intro K HK
        go_wp2_with (fail)
        refine HK.out _ _ ⟨.inl rfl, ?_⟩
        clear HK K
        refine wpSch_nil ?_
        rw [HIF.out] at HS
        go_wp2
        go_roundw
        case rel => exact ⟨k + 1, vw', by omega, by go_num, by rw [e2.out], by rw [HST.out]; exact HS⟩
        case measure => simp [intOf]; omega
    · obtain rfl : k = l.length := by omega
      rw [List.take_length] at HS
      have hok := HALL.out l.length (Nat.le_refl _)
      rw [List.take_length] at hok
      obtain ⟨D, hD⟩ : ∃ D, playE N A l = D := ⟨_, rfl⟩
      rw [hD] at HS hok
      have HOK := Lib.hid hok
      have HAC : Hid (D.acts = ((min l.length A : Nat) : Int)) := hok.acts
      have hDL := hok.left
      have hwy := hok.why (b := 0) (by omega)
      simp only [Int.natCast_zero] at hwy
      have hokC : (D.crash []).Ok N := by
        have h := hok.ok
        have e : applyW (through [] D.wait) D.safe = D.safe := by rw [through_nil]; rfl
        exact ⟨by show all256 (applyW _ _); rw [e]; exact h.safeB, by show all256 (applyW _ _); rw [e]; exact h.safeB, by simp [Dk.crash], by simp [Dk.crash], by show (applyW _ _).length = N; rw [e]; exact h.safe, by show (applyW _ _).length = N; rw [e]; exact h.safe, h.n0, h.n1, h.acts0, h.acts1, by simp [Dk.crash], by simp [Dk.crash]⟩
      have HOC := Lib.hid hokC
      have HGC : Hid ((D.crash []).now.getD ((N : Int) - 1).toNat Z256 = Z256) := by
        show (applyW (through [] D.wait) D.safe).getD _ _ = Z256
        rw [through_nil]
        show D.safe.getD _ _ = _
        rw [hok.safe, List.getD_eq_getElem?_getD, List.getElem?_replicate]
        split <;> rfl
      have HWC : Hid ((D.crash []).why N ((N : Int) - 1) = 0) := by
        show Dk.why _ _ _ = _
        unfold Dk.why
        rw [if_neg (by show ¬ (-1 : Int) = 0; omega), if_neg (by omega)]
      clear hD hok hokC
      have hNw1 : IntKind.i64.wrap ((N : Int) - 1) = (N : Int) - 1 := IntWalk.i64_in _ (by omega)
      by_cases hAl : A ≤ l.length
      · have e1 : min l.length A = A := by omega
        have HY0 : Hid (D.why N 0 = 30) := by show _ = _; rw [hwy, if_pos hAl]
        have HDD : Hid ((D.left == 0) = true) := by show _ = _; rw [hDL, e1]; simp
        rw [e1] at HAC ⊢
        have z4 : decide ((A : Int) ≤ (A : Int)) = true := by simp
        clear e1 hwy hDL
        go_wp2_with (first | (go_at_call 19; refine (dk_read (D := D) (n := N) HS HOK.out.ok _).mono ?_; rintro e w' ⟨rfl, H1'⟩; clear HS; have HS := H1'; clear H1'; rw [HY0.out, if_neg (by decide)]) | ((with_reducible apply sAlloc HS); infer_instance; (first | exact cells_agg _ | exact cells_one rfl); rfl; intro BX w' H1; clear HS; have HS := H1; clear H1) | ((with_reducible apply sStoreB HS); infer_instance; rfl; rfl; (conv => (lhs; whnf)); (repeat (first | exact Rep.here | apply Rep.there)); exact zB_size; exact zB_size; exact encB_one _; intro w' H1; clear HS; have HS := H1; clear H1) | (go_at_call 17; refine (dk_acts (D := D) (n := N) HS.tail).mono ?_; rintro e w' ⟨rfl, rfl⟩; rw [HAC.out]) | (go_at_call 26; refine (dk_dead (D := D) (n := N) HS.tail).mono ?_; rintro e w' ⟨rfl, rfl⟩; rw [HDD.out]) | (go_at_call 20; refine (dk_flush (D := D) (n := N) (HS.back1 (D := diskA (D) N B g1 c1 g2 c2 vw)) HOK.out.ok).mono ?_; rintro e w' ⟨vw2, rfl, H1'⟩; clear HS; have HS := H1'; clear H1'; rw [HY0.out] at *; rw [if_neg (by decide)] at HS; have HS2 := HS.fore1 (D := diskA (D) N B g1 c1 g2 c2 vw2); clear HS; have HS := HS2; clear HS2))
        refine (dk_crash (D := D) (n := N) (HS.back1 (D := diskA (D) N B g1 c1 g2 c2 vw2)) HOK.out.ok [] none 0 (by simp) (.inl rfl)).mono ?_
        rintro e w2 ⟨vw3, rfl, H1'⟩
        clear HS; have HS := H1'; clear H1'
        go_wp2_with (first | (go_at_call 19; refine (dk_read (D := (D.crash [])) (n := N) HS HOC.out _).mono ?_; rintro e w' ⟨rfl, H1'⟩; clear HS; have HS := H1'; clear H1'; rw [HWC.out, if_pos rfl, HGC.out]) | ((with_reducible apply sAlloc HS); infer_instance; (first | exact cells_agg _ | exact cells_one rfl); rfl; intro BY w' H1; clear HS; have HS := H1; clear H1) | ((with_reducible apply sStoreB HS); infer_instance; rfl; rfl; (conv => (lhs; whnf)); (repeat (first | exact Rep.here | apply Rep.there)); exact zB_size; exact zB_size; exact encB_one _; intro w' H1; clear HS; have HS := H1; clear H1) | (go_at_call 26; refine (dk_dead (D := D.crash []) (n := N) HS.tail).mono ?_; rintro e w' ⟨rfl, rfl⟩; rw [show ((D.crash []).left == 0) = false from rfl]) | (go_at_call 16; refine (dk_waiting (D := D.crash []) (n := N) HS.tail).mono ?_; rintro e w' ⟨rfl, rfl⟩; rw [show (((D.crash []).wait.length : Nat) : Int) = 0 from rfl]) | ((with_reducible apply sLoadB HS); infer_instance; rfl; rfl; (repeat (first | exact List.Mem.head _ | apply List.Mem.tail)); exact zB_size) | ((with_reducible apply sVal (valZ' blkT)); rfl) | ((with_reducible apply sEqB blkT); rfl; rfl; rfl; exact Z256_len; exact Z256_len; rw [show (Z256 == Z256) = true by simp]))
        go_ret
        exact ⟨rfl, HS.below⟩
      · have e1 : min l.length A = l.length := by omega
        have HY0 : Hid (D.why N 0 = 0) := by show _ = _; rw [hwy, if_neg hAl]
        have HDD : Hid ((D.left == 0) = false) := by show _ = _; rw [hDL, e1]; simp; omega
        obtain ⟨x, hx⟩ : ∃ x, D.now.getD 0 Z256 = x := ⟨_, rfl⟩
        have HGX : Hid (D.now.getD (0 : Int).toNat Z256 = x) := hx
        have hxl : x.length = 256 := by rw [← hx]; exact HOK.out.ok.nowB.getD 0
        have HXL : Hid ((encB x).size = 256) := (encB_size _).trans hxl
        rw [e1] at HAC ⊢
        have z4 : decide ((A : Int) ≤ (l.length : Int)) = false := by simp; omega
        clear e1 hwy hDL hx hxl
        go_wp2_with (first | (go_at_call 19; refine (dk_read (D := D) (n := N) HS HOK.out.ok _).mono ?_; rintro e w' ⟨rfl, H1'⟩; clear HS; have HS := H1'; clear H1'; rw [HY0.out, if_pos rfl, HGX.out]) | ((with_reducible apply sAlloc HS); infer_instance; (first | exact cells_agg _ | exact cells_one rfl); rfl; intro BX w' H1; clear HS; have HS := H1; clear H1) | ((with_reducible apply sStoreB HS); infer_instance; rfl; rfl; (conv => (lhs; whnf)); (repeat (first | exact Rep.here | apply Rep.there)); exact HXL.out; exact zB_size; exact encB_one _; intro w' H1; clear HS; have HS := H1; clear H1) | (go_at_call 17; refine (dk_acts (D := D) (n := N) HS.tail).mono ?_; rintro e w' ⟨rfl, rfl⟩; rw [HAC.out]) | (go_at_call 26; refine (dk_dead (D := D) (n := N) HS.tail).mono ?_; rintro e w' ⟨rfl, rfl⟩; rw [HDD.out]))
        refine (dk_crash (D := D) (n := N) (HS.back1 (D := diskA (D) N B g1 c1 g2 c2 vw)) HOK.out.ok [] none 0 (by simp) (.inl rfl)).mono ?_
        rintro e w2 ⟨vw3, rfl, H1'⟩
        clear HS; have HS := H1'; clear H1'
        go_wp2_with (first | (go_at_call 19; refine (dk_read (D := (D.crash [])) (n := N) HS HOC.out _).mono ?_; rintro e w' ⟨rfl, H1'⟩; clear HS; have HS := H1'; clear H1'; rw [HWC.out, if_pos rfl, HGC.out]) | ((with_reducible apply sAlloc HS); infer_instance; (first | exact cells_agg _ | exact cells_one rfl); rfl; intro BY w' H1; clear HS; have HS := H1; clear H1) | ((with_reducible apply sStoreB HS); infer_instance; rfl; rfl; (conv => (lhs; whnf)); (repeat (first | exact Rep.here | apply Rep.there)); exact zB_size; exact zB_size; exact encB_one _; intro w' H1; clear HS; have HS := H1; clear H1) | (go_at_call 26; refine (dk_dead (D := D.crash []) (n := N) HS.tail).mono ?_; rintro e w' ⟨rfl, rfl⟩; rw [show ((D.crash []).left == 0) = false from rfl]) | (go_at_call 16; refine (dk_waiting (D := D.crash []) (n := N) HS.tail).mono ?_; rintro e w' ⟨rfl, rfl⟩; rw [show (((D.crash []).wait.length : Nat) : Int) = 0 from rfl]) | ((with_reducible apply sLoadB HS); infer_instance; rfl; rfl; (repeat (first | exact List.Mem.head _ | apply List.Mem.tail)); exact zB_size) | ((with_reducible apply sVal (valZ' blkT)); rfl) | ((with_reducible apply sEqB blkT); rfl; rfl; rfl; exact Z256_len; exact Z256_len; rw [show (Z256 == Z256) = true by simp]))
        go_ret
        exact ⟨rfl, HS.below⟩

set_option maxRecDepth 100000 in
theorem lifted (os : Os) (started : os.Started) (H : Type) (enc : TypeId × Value → H) :
    ReturnsInHanded {} Try.checked os 7 .any (Rows.diskEndsSpec.pre6 enc Try.prog Try.f7 Rows.diskEndsRow.domain false) (Rows.diskEndsSpec.post enc Try.prog Try.f7 false true false false) := by
  refine law_lift (C := Try.checked) own started (by kernel_rfl) Try.func7 laidOut rfl Try.underlying4 rfl ?hs (by kernel_rfl)
    (ChangeSpec.witness6 (enc := enc) (C := Try.checked) false ⟨#[], #[.int .i64 0, .int .i64 0, .slice none 0 0], []⟩ 8 (by kernel_rfl) (by kernel_rfl) (by kernel_rfl) (by kernel_rfl)) ?hwalk
  case hs =>
    intro ds h
    match ds, h with
    | [d0, d1, d2], _ => rfl
  case hwalk =>
    intro W args hn ha
    obtain ⟨l⟩ := args
    match l, hn with
    | [v0, v1, v2], _ =>
      obtain ⟨n, rfl, hn1⟩ := (ha 0 _ _ rfl rfl).int Try.underlying3
      obtain ⟨af, rfl, hn2⟩ := (ha 1 _ _ rfl rfl).int Try.underlying3
      obtain ⟨ad, cap, l, rfl, hm, _, _, hp, hl⟩ := puts_arg (ha 2 _ _ rfl rfl)
      obtain ⟨L', HS, _, hl'⟩ := (St.nil none' W).arg (by simp) hl
      exact walk n af ad cap l W _ HS hm hp (hl'.imp id (fun ⟨A, o, h1, h2⟩ => ⟨A, o, h1, List.mem_append_left _ h2⟩))

theorem over : Rows.diskEndsRow.holds Try.pinned (OpenSpec.ofChange Rows.diskEndsSpec) :=
  OpenClaim.holds_of_wide 7 Try.f7 rfl rfl rfl rfl rfl rfl rfl ⟨rfl, rfl, rfl, rfl, rfl⟩ rfl rfl rfl rfl rfl (by kernel_rfl) Try.func7 (by kernel_rfl)
    (of_decide_eq_true (by kernel_rfl)) (by unfold Func.isWrapper; first | (rw [if_pos (by decide +kernel)]; kernel_rfl) | (rw [if_neg (by decide +kernel)]; exact ⟨rfl, rfl⟩))
    (fun os started H enc _ => lifted os started H enc)

theorem proved : Rows.DiskEndsSaid := over
#print axioms proved
end Go.Proofs.Ytfdomknagcdpeaa.diskEnds
