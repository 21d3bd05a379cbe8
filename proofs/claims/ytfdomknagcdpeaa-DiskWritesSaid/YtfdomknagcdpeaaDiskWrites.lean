/- Read tells what was written last, noughts where nothing was; all of it waits, nothing is safe. -/
import Derived.Test.YtfdomknagcdpeaaDArg
namespace Go.Proofs.Ytfdomknagcdpeaa.diskWrites
open Go Go.RowKit Go.ChangeShapes Go.WideShapes Go.ChangeAt

theorem own : ownKnob Try.prog.godebug = none := by kernel_rfl
theorem laidOut : laidOutB Try.prog = true := by kernel_rfl

set_option maxRecDepth 100000 in
set_option maxHeartbeats 20000000 in
theorem walk (n : Int) (ad : Option Addr) (cap : Nat) (l : List (Int × Int)) (w : World) (L : List Ass) (HS : St none' w w L) (n0 : -9223372036854775808 ≤ n) (n1 : n ≤ 9223372036854775807) (hm : l.length ≤ maxLen) (hp : ∀ p ∈ l, putOk p) (hl : l = [] ∨ ∃ A o, ad = some ⟨A, o, none⟩ ∧ Ass.ro A o (encPs l) ∈ L) :
    Calls Try.prog 4 #[.int .i64 n, .slice ad l.length cap] w fun e w' => e = .returned (.bool true) ∧ Below w.heap.size w w' := by
  have HP := Lib.hid hp
  have HLL := Lib.hid hl
  unfold maxLen at hm
  clear hp hl
  by_cases hlong : 300 < l.length
  · have hI : (300 : Int) < (l.length : Int) := by omega
    go_enter Try.func4, Try.ntmps4
    go_wp2
    go_ret
    exact ⟨rfl, HS.below⟩
  have hI : (l.length : Int) ≤ 300 := by omega
  have hpl := playOk_all (many64_bd n).1 (by have := (many64_bd n).2; omega) l l.length (Nat.le_refl _) (by omega)
  rw [List.take_length] at hpl
  have HW := Lib.hid (fun (HS : St none' w w L) => written_any HS n n0 n1 l (by omega) HP.out HLL.out (cap := cap))
  obtain ⟨N0, N1⟩ := many64_bd n
  obtain ⟨N, hN⟩ : ∃ N, many64 n = N := ⟨_, rfl⟩
  rw [hN] at HW hpl N0 N1
  obtain ⟨D, hD⟩ : ∃ D, playW N l = D := ⟨_, rfl⟩
  rw [hD] at HW hpl
  have HPL := Lib.hid hpl
  have HAC : Hid (D.acts = ((D.wait.length : Nat) : Int)) := hpl.acts
  have HSF : Hid (D.safe = List.replicate N Z256) := hpl.safe
  have HWY : Hid (∀ k : Nat, k < N → D.why N k = 0) := fun k hk => by rw [hpl.why, if_pos ⟨by omega, by omega⟩]
  clear hN hD hpl hlong
  go_enter Try.func4, Try.ntmps4
  go_wp2_with (fail)
  refine (HW.out HS).mono ?_
  rintro e w1 ⟨B, g1, c1, g2, c2, vw, Bm, rfl, H1'⟩
  clear HS HW; have HS := H1'; clear H1'
  rw [HAC.out]
  obtain ⟨wl, hwl⟩ : ∃ wl, ((D.wait.length : Nat) : Int) = wl := ⟨_, rfl⟩
  have HWL := Lib.hid hwl
  rw [hwl] at HAC ⊢
  clear hwl
  go_wp2_with (fail)
  (try simp only [Act.put])
  refine wp_region_sch (.q 0 (.q 1 (.q 2 (.q 3 (.q 5 (.e 4 (.q 6 (.q 7 (.q 8 (.q 9 (.q 11 (.e 10 (.q 12 (.q 13 (.q 14 (.q 15 (.q 17 (.q 18 (.e 16 (.q 19 (.q 20 (.q 21 (.q 22 (.q 24 (.e 23 (.e 25 (.q 26 (.q 27 (.q 28 (.q 29 (.q 31 (.q 32 (.two 30 (.e 33 (.e 34 (.q 35 (.e 36 (.nil))))) 33 (.e 30 (.e 34 (.q 35 (.e 36 (.nil)))))))))))))))))))))))))))))))))))))) (Hd []) (by kernel_rfl) (by kernel_rfl) (fun _ _ d _ _ h => by cases d <;> exact h) ?_
  intro w1 hm1
  replace HS := HS.fresh hm1
  clear hm1
  refine ⟨HS.hd (by exact subNil), ?_⟩
  repeat (first | ((with_reducible apply wpSch_nilCheck); (simp only [List.getElem?_toArray, List.getElem?_cons_zero, List.getElem?_cons_succ]; rfl); rfl; rfl; (try simp only [Act.put, List.setIfInBounds_toArray, List.set_cons_zero, List.set_cons_succ])) | ((with_reducible apply wpSch_plain); (simp only [List.getElem?_toArray, List.getElem?_cons_zero, List.getElem?_cons_succ]; rfl); rfl; rfl; (intro K hK; go_big_quiet_op; go_big_quiet_on)) | ((with_reducible apply wpSch_skip); (simp only [List.getElem?_toArray, List.getElem?_cons_zero, List.getElem?_cons_succ]; rfl); rfl; (try simp only [Act.put, List.setIfInBounds_toArray, List.set_cons_zero, List.set_cons_succ])))
  with_reducible apply wpSch_e_k
  (simp only [List.getElem?_toArray, List.getElem?_cons_zero, List.getElem?_cons_succ]; rfl)
  intro K HK
  go_wp2_with (first | (go_at_call 16; refine (dk_waiting (D := D) (n := N) HS).mono ?_; rintro e w' ⟨rfl, rfl⟩; rw [HWL.out]))
  refine HK.out _ _ ⟨.inr (HS.hd subNil), ?_⟩
  clear HK K
  repeat (first | ((with_reducible apply wpSch_nilCheck); (simp only [List.getElem?_toArray, List.getElem?_cons_zero, List.getElem?_cons_succ]; rfl); rfl; rfl; (try simp only [Act.put, List.setIfInBounds_toArray, List.set_cons_zero, List.set_cons_succ])) | ((with_reducible apply wpSch_plain); (simp only [List.getElem?_toArray, List.getElem?_cons_zero, List.getElem?_cons_succ]; rfl); rfl; rfl; (intro K hK; go_big_quiet_op; go_big_quiet_on)) | ((with_reducible apply wpSch_skip); (simp only [List.getElem?_toArray, List.getElem?_cons_zero, List.getElem?_cons_succ]; rfl); rfl; (try simp only [Act.put, List.setIfInBounds_toArray, List.set_cons_zero, List.set_cons_succ])))
  with_reducible apply wpSch_e_k
  (simp only [List.getElem?_toArray, List.getElem?_cons_zero, List.getElem?_cons_succ]; rfl)
  intro K HK
  go_wp2_with (first | (go_at_call 17; refine (dk_acts (D := D) (n := N) HS).mono ?_; rintro e w' ⟨rfl, rfl⟩; rw [HAC.out]))
  refine HK.out _ _ ⟨.inr (HS.hd subNil), ?_⟩
  clear HK K
  repeat (first | ((with_reducible apply wpSch_nilCheck); (simp only [List.getElem?_toArray, List.getElem?_cons_zero, List.getElem?_cons_succ]; rfl); rfl; rfl; (try simp only [Act.put, List.setIfInBounds_toArray, List.set_cons_zero, List.set_cons_succ])) | ((with_reducible apply wpSch_plain); (simp only [List.getElem?_toArray, List.getElem?_cons_zero, List.getElem?_cons_succ]; rfl); rfl; rfl; (intro K hK; go_big_quiet_op; go_big_quiet_on)) | ((with_reducible apply wpSch_skip); (simp only [List.getElem?_toArray, List.getElem?_cons_zero, List.getElem?_cons_succ]; rfl); rfl; (try simp only [Act.put, List.setIfInBounds_toArray, List.set_cons_zero, List.set_cons_succ])))
  with_reducible apply wpSch_e_k
  (simp only [List.getElem?_toArray, List.getElem?_cons_zero, List.getElem?_cons_succ]; rfl)
  intro K HK
  go_wp2_with (first | (go_at_call 18; refine (dk_blocks (D := D) (n := N) HS).mono ?_; rintro e w' ⟨rfl, rfl⟩))
  refine HK.out _ _ ⟨.inr (HS.hd subNil), ?_⟩
  clear HK K
  repeat (first | ((with_reducible apply wpSch_nilCheck); (simp only [List.getElem?_toArray, List.getElem?_cons_zero, List.getElem?_cons_succ]; rfl); rfl; rfl; (try simp only [Act.put, List.setIfInBounds_toArray, List.set_cons_zero, List.set_cons_succ])) | ((with_reducible apply wpSch_plain); (simp only [List.getElem?_toArray, List.getElem?_cons_zero, List.getElem?_cons_succ]; rfl); rfl; rfl; (intro K hK; go_big_quiet_op; go_big_quiet_on)) | ((with_reducible apply wpSch_skip); (simp only [List.getElem?_toArray, List.getElem?_cons_zero, List.getElem?_cons_succ]; rfl); rfl; (try simp only [Act.put, List.setIfInBounds_toArray, List.set_cons_zero, List.set_cons_succ])))
  with_reducible apply wpSch_e_k
  (simp only [List.getElem?_toArray, List.getElem?_cons_zero, List.getElem?_cons_succ]; rfl)
  intro K HK
  go_wp2_with (first | (go_at_call 11; refine (dk_image (D := D) (n := N) HS HPL.out.ok).mono ?_; rintro e w' ⟨gi, ci, rfl, H1'⟩; clear HS; have HS := H1'; clear H1'))
  refine HK.out _ _ ⟨.inr (HS.hd subNil), ?_⟩
  clear HK K
  with_reducible apply wpSch_e_k
  (simp only [List.getElem?_toArray, List.getElem?_cons_zero, List.getElem?_cons_succ]; rfl)
  intro K HK
  go_wp2_with (first | (go_at_call 15; refine (same_n HS (D.now) (D.now) HPL.out.ok.nowB HPL.out.ok.nowB HPL.out.ok.now HPL.out.ok.now (by omega) (fun w' hC => hd_own (g := gi) (n := N) (e := 32) (sz := 256) hC (by (simp only [diskA, newD, List.cons_append, List.nil_append, List.append_assoc]; (repeat (first | exact List.Mem.head _ | apply List.Mem.tail))))) (fun w' hC => hd_own (g := Bm) (cap := N) (n := N) (e := 32) (sz := 256) hC (by (simp only [diskA, newD, List.cons_append, List.nil_append, List.append_assoc]; (repeat (first | exact List.Mem.head _ | apply List.Mem.tail)))))).mono ?_; rintro e w' ⟨rfl, H1'⟩; clear HS; have HS := H1'; clear H1'; rw [show (D.now == D.now) = true by simp]))
  refine HK.out _ _ ⟨.inr (HS.hd subNil), ?_⟩
  clear HK K
  repeat (first | ((with_reducible apply wpSch_nilCheck); (simp only [List.getElem?_toArray, List.getElem?_cons_zero, List.getElem?_cons_succ]; rfl); rfl; rfl; (try simp only [Act.put, List.setIfInBounds_toArray, List.set_cons_zero, List.set_cons_succ])) | ((with_reducible apply wpSch_plain); (simp only [List.getElem?_toArray, List.getElem?_cons_zero, List.getElem?_cons_succ]; rfl); rfl; rfl; (intro K hK; go_big_quiet_op; go_big_quiet_on)) | ((with_reducible apply wpSch_skip); (simp only [List.getElem?_toArray, List.getElem?_cons_zero, List.getElem?_cons_succ]; rfl); rfl; (try simp only [Act.put, List.setIfInBounds_toArray, List.set_cons_zero, List.set_cons_succ])))
  with_reducible apply wpSch_two_k
  (simp only [List.getElem?_toArray, List.getElem?_cons_zero, List.getElem?_cons_succ]; rfl)
  (simp only [List.getElem?_toArray, List.getElem?_cons_zero, List.getElem?_cons_succ]; rfl)
  · intro K HK
    go_wp2_with (first | (go_at_call 12; refine (dk_safe (D := D) (n := N) (HS.back (F := [_]) (D := diskA (D) N B g1 c1 g2 c2 vw)) HPL.out.ok).mono ?_; rintro e w' ⟨gf, cf, rfl, H1'⟩; clear HS; have HS := H1'; clear H1'))
    refine HK.out _ _ ⟨.inr (HS.hd subNil), ?_⟩
    clear HK K
    with_reducible apply wpSch_e_k
    (simp only [List.getElem?_toArray, List.getElem?_cons_zero, List.getElem?_cons_succ]; rfl)
    intro K HK
    ((with_reducible apply sMake HS Try.underlying24 infoB); rfl; rfl; rfl; omega; omega; intro Bz w' H1'; clear HS; have HS := H1'; clear H1')
    (try simp only [Act.put, List.setIfInBounds_toArray, List.set_cons_zero, List.set_cons_succ])
    refine wpList_nil (then_normal (HK.out _ _ ⟨.inr (HS.hd subNil), ?_⟩))
    clear HK K
    with_reducible apply wpSch_e_k
    (simp only [List.getElem?_toArray, List.getElem?_cons_zero, List.getElem?_cons_succ]; rfl)
    intro K HK
    go_wp2_with (first | (go_at_call 15; refine (same_n HS (D.safe) (List.replicate N Z256) HPL.out.ok.safeB (all256.rep N) HPL.out.ok.safe (by simp) (by omega) (fun w' hC => hd_own (g := gf) (n := N) (e := 32) (sz := 256) hC (by (simp only [diskA, newD, List.cons_append, List.nil_append, List.append_assoc]; (repeat (first | exact List.Mem.head _ | apply List.Mem.tail))))) (fun w' hC => (by have h := hd_blk (B := Bz) (rw := true) (cs := madeCells (Value.agg (encB Z256)).cells (N * 256)) (t := 32) hC (by (simp only [diskA, newD, List.cons_append, List.nil_append, List.append_assoc]; (repeat (first | exact List.Mem.head _ | apply List.Mem.tail)))); rwa [cells_agg, made_blocks] at h))).mono ?_; rintro e w' ⟨rfl, H1'⟩; clear HS; have HS := H1'; clear H1'; rw [show (D.safe == List.replicate N Z256) = true by rw [HSF.out]; simp]))
    refine HK.out _ _ ⟨.inr (HS.hd subNil), ?_⟩
    clear HK K
    repeat (first | ((with_reducible apply wpSch_nilCheck); (simp only [List.getElem?_toArray, List.getElem?_cons_zero, List.getElem?_cons_succ]; rfl); rfl; rfl; (try simp only [Act.put, List.setIfInBounds_toArray, List.set_cons_zero, List.set_cons_succ])) | ((with_reducible apply wpSch_plain); (simp only [List.getElem?_toArray, List.getElem?_cons_zero, List.getElem?_cons_succ]; rfl); rfl; rfl; (intro K hK; go_big_quiet_op; go_big_quiet_on)) | ((with_reducible apply wpSch_skip); (simp only [List.getElem?_toArray, List.getElem?_cons_zero, List.getElem?_cons_succ]; rfl); rfl; (try simp only [Act.put, List.setIfInBounds_toArray, List.set_cons_zero, List.set_cons_succ])))
    with_reducible apply wpSch_e_k
    (simp only [List.getElem?_toArray, List.getElem?_cons_zero, List.getElem?_cons_succ]; rfl)
    intro K HK
    go_wp2_with (fail)
    refine HK.out _ _ ⟨.inl rfl, ?_⟩
    clear HK K
    refine wpSch_nil ?_
    go_wp2
    go_loopw [9] (fun i wr => ∃ (k : Nat) (LL : List Ass), k ≤ N ∧ i = .int .i64 k ∧ Ass.own (.slice (some ⟨Bm, 0, none⟩) N N) 32 256 N (encBs D.now) ∈ LL ∧ St none' w wr (diskA (D) N B g1 c1 g2 c2 vw ++ LL)) (fun i _ => N - (intOf i).toNat)
    case atStart => exact ⟨0, _, by omega, rfl, (by simp only [List.cons_append, List.nil_append]; (repeat (first | exact List.Mem.head _ | apply List.Mem.tail))), HS.back (F := [_, _]) (D := diskA (D) N B g1 c1 g2 c2 vw)⟩
    case round =>
      obtain ⟨k, LL, hk, rfl, hmm, HS⟩ := hrel
      by_cases hlt : k < N
      · have HP1 := Lib.hid (encBs_part HPL.out.ok.nowB (i := k) (by have := HPL.out.ok.now; omega))
        have HLX : Hid (((D.now.getD k Z256).map bv).length = 256) := by show _ = _; rw [List.length_map]; exact HPL.out.ok.nowB.getD k
        have HL2 : Hid ((D.now.getD k Z256).length = 256) := HPL.out.ok.nowB.getD k
        have HWK := Lib.hid (HWY.out k hlt)
        have z0 : (0 : Int) ≤ (k : Int) := by omega
        have z1 : (k : Int) < (N : Int) := by omega
        have HM := Lib.hid hmm
        obtain ⟨x, hx⟩ : ∃ x, D.now.getD k Z256 = x := ⟨_, rfl⟩
        have HGX := Lib.hid hx
        rw [hx] at HP1 HLX HL2
        have HZX : Hid ((encB x).size = 256) := (encB_size _).trans HL2.out
        have HNX : Hid ((!(x == x)) = false) := by show _ = _; simp
        clear hx hmm
        go_wp2_with (first | (go_at_call 19; refine (dk_read (D := D) (n := N) HS HPL.out.ok _).mono ?_; rintro e w' ⟨rfl, H1'⟩; clear HS; have HS := H1'; clear H1'; rw [HWK.out, if_pos rfl, Int.toNat_natCast, HGX.out]) | ((with_reducible apply sAlloc HS); infer_instance; (first | exact cells_agg _ | exact cells_one rfl); rfl; intro BX w' H1; clear HS; have HS := H1; clear H1) | ((with_reducible apply sStoreB HS); infer_instance; rfl; rfl; (conv => (lhs; whnf)); (repeat (first | exact Rep.here | apply Rep.there)); exact HZX.out; exact zB_size; exact encB_one _; intro w' H1; clear HS; have HS := H1; clear H1))
        (try simp only [Act.put])
        refine wp_region_quietF (by kernel_rfl) (by kernel_rfl) ?_
        repeat (first | go_big_quiet_skip | (((with_reducible apply qLoadB HS); infer_instance; rfl; rfl; (repeat (first | exact List.Mem.head _ | apply List.Mem.tail)); exact HZX.out); (try simp only [Act.put, List.setIfInBounds_toArray, List.set_cons_zero, List.set_cons_succ])) | (((with_reducible apply qLoadO HS); infer_instance; rfl; rfl; exact .tail _ (List.mem_append_right _ HM.out); exact HP1.out; exact HLX.out); (try simp only [Act.put, List.setIfInBounds_toArray, List.set_cons_zero, List.set_cons_succ])) | (((with_reducible apply qNeB blkT); rfl; rfl; rfl; exact HL2.out; exact HL2.out; rw [HNX.out]); (try simp only [Act.put, List.setIfInBounds_toArray, List.set_cons_zero, List.set_cons_succ])) | (go_big_quiet_want; go_big_quiet_op; first | go_big_quiet_on | (refine ⟨_, fun _ _ => rfl, ?_⟩; go_big_quiet_on) | (apply Exists.intro; refine ⟨fun wc hfr => ?_, ?_⟩; (· fail); go_big_quiet_on)))
        refine wpQuiet_nil ?_
        intro w1 hm1
        replace HS := HS.fresh hm1
        clear hm1
        go_wp2
        go_roundw
        case rel => exact ⟨k + 1, LL, by omega, by go_num, HM.out, HS.tail⟩
        case measure => simp [intOf]; omega
      · obtain rfl : k = N := by omega
        go_wp2
        go_ret
        exact ⟨rfl, HS.below⟩
  · intro K HK
    ((with_reducible apply sMake HS Try.underlying24 infoB); rfl; rfl; rfl; omega; omega; intro Bz w' H1'; clear HS; have HS := H1'; clear H1')
    (try simp only [Act.put, List.setIfInBounds_toArray, List.set_cons_zero, List.set_cons_succ])
    refine wpList_nil (then_normal (HK.out _ _ ⟨.inr (HS.hd subNil), ?_⟩))
    clear HK K
    with_reducible apply wpSch_e_k
    (simp only [List.getElem?_toArray, List.getElem?_cons_zero, List.getElem?_cons_succ]; rfl)
    intro K HK
    go_wp2_with (first | (go_at_call 12; refine (dk_safe (D := D) (n := N) (HS.back (F := [_, _]) (D := diskA (D) N B g1 c1 g2 c2 vw)) HPL.out.ok).mono ?_; rintro e w' ⟨gf, cf, rfl, H1'⟩; clear HS; have HS := H1'; clear H1'))
    refine HK.out _ _ ⟨.inr (HS.hd subNil), ?_⟩
    clear HK K
    with_reducible apply wpSch_e_k
    (simp only [List.getElem?_toArray, List.getElem?_cons_zero, List.getElem?_cons_succ]; rfl)
    intro K HK
    go_wp2_with (first | (go_at_call 15; refine (same_n HS (D.safe) (List.replicate N Z256) HPL.out.ok.safeB (all256.rep N) HPL.out.ok.safe (by simp) (by omega) (fun w' hC => hd_own (g := gf) (n := N) (e := 32) (sz := 256) hC (by (simp only [diskA, newD, List.cons_append, List.nil_append, List.append_assoc]; (repeat (first | exact List.Mem.head _ | apply List.Mem.tail))))) (fun w' hC => (by have h := hd_blk (B := Bz) (rw := true) (cs := madeCells (Value.agg (encB Z256)).cells (N * 256)) (t := 32) hC (by (simp only [diskA, newD, List.cons_append, List.nil_append, List.append_assoc]; (repeat (first | exact List.Mem.head _ | apply List.Mem.tail)))); rwa [cells_agg, made_blocks] at h))).mono ?_; rintro e w' ⟨rfl, H1'⟩; clear HS; have HS := H1'; clear H1'; rw [show (D.safe == List.replicate N Z256) = true by rw [HSF.out]; simp]))
    refine HK.out _ _ ⟨.inr (HS.hd subNil), ?_⟩
    clear HK K
    repeat (first | ((with_reducible apply wpSch_nilCheck); (simp only [List.getElem?_toArray, List.getElem?_cons_zero, List.getElem?_cons_succ]; rfl); rfl; rfl; (try simp only [Act.put, List.setIfInBounds_toArray, List.set_cons_zero, List.set_cons_succ])) | ((with_reducible apply wpSch_plain); (simp only [List.getElem?_toArray, List.getElem?_cons_zero, List.getElem?_cons_succ]; rfl); rfl; rfl; (intro K hK; go_big_quiet_op; go_big_quiet_on)) | ((with_reducible apply wpSch_skip); (simp only [List.getElem?_toArray, List.getElem?_cons_zero, List.getElem?_cons_succ]; rfl); rfl; (try simp only [Act.put, List.setIfInBounds_toArray, List.set_cons_zero, List.set_cons_succ])))
    with_reducible apply wpSch_e_k
    (simp only [List.getElem?_toArray, List.getElem?_cons_zero, List.getElem?_cons_succ]; rfl)
    intro K HK
    go_wp2_with (fail)
    refine HK.out _ _ ⟨.inl rfl, ?_⟩
    clear HK K
    refine wpSch_nil ?_
    go_wp2
    go_loopw [9] (fun i wr => ∃ (k : Nat) (LL : List Ass), k ≤ N ∧ i = .int .i64 k ∧ Ass.own (.slice (some ⟨Bm, 0, none⟩) N N) 32 256 N (encBs D.now) ∈ LL ∧ St none' w wr (diskA (D) N B g1 c1 g2 c2 vw ++ LL)) (fun i _ => N - (intOf i).toNat)
    case atStart => exact ⟨0, _, by omega, rfl, (by simp only [List.cons_append, List.nil_append]; (repeat (first | exact List.Mem.head _ | apply List.Mem.tail))), HS.back (F := [_]) (D := diskA (D) N B g1 c1 g2 c2 vw)⟩
    case round =>
      obtain ⟨k, LL, hk, rfl, hmm, HS⟩ := hrel
      by_cases hlt : k < N
      · have HP1 := Lib.hid (encBs_part HPL.out.ok.nowB (i := k) (by have := HPL.out.ok.now; omega))
        have HLX : Hid (((D.now.getD k Z256).map bv).length = 256) := by show _ = _; rw [List.length_map]; exact HPL.out.ok.nowB.getD k
        have HL2 : Hid ((D.now.getD k Z256).length = 256) := HPL.out.ok.nowB.getD k
        have HWK := Lib.hid (HWY.out k hlt)
        have z0 : (0 : Int) ≤ (k : Int) := by omega
        have z1 : (k : Int) < (N : Int) := by omega
        have HM := Lib.hid hmm
        obtain ⟨x, hx⟩ : ∃ x, D.now.getD k Z256 = x := ⟨_, rfl⟩
        have HGX := Lib.hid hx
        rw [hx] at HP1 HLX HL2
        have HZX : Hid ((encB x).size = 256) := (encB_size _).trans HL2.out
        have HNX : Hid ((!(x == x)) = false) := by show _ = _; simp
        clear hx hmm
        go_wp2_with (first | (go_at_call 19; refine (dk_read (D := D) (n := N) HS HPL.out.ok _).mono ?_; rintro e w' ⟨rfl, H1'⟩; clear HS; have HS := H1'; clear H1'; rw [HWK.out, if_pos rfl, Int.toNat_natCast, HGX.out]) | ((with_reducible apply sAlloc HS); infer_instance; (first | exact cells_agg _ | exact cells_one rfl); rfl; intro BX w' H1; clear HS; have HS := H1; clear H1) | ((with_reducible apply sStoreB HS); infer_instance; rfl; rfl; (conv => (lhs; whnf)); (repeat (first | exact Rep.here | apply Rep.there)); exact HZX.out; exact zB_size; exact encB_one _; intro w' H1; clear HS; have HS := H1; clear H1))
        (try simp only [Act.put])
        refine wp_region_quietF (by kernel_rfl) (by kernel_rfl) ?_
        repeat (first | go_big_quiet_skip | (((with_reducible apply qLoadB HS); infer_instance; rfl; rfl; (repeat (first | exact List.Mem.head _ | apply List.Mem.tail)); exact HZX.out); (try simp only [Act.put, List.setIfInBounds_toArray, List.set_cons_zero, List.set_cons_succ])) | (((with_reducible apply qLoadO HS); infer_instance; rfl; rfl; exact .tail _ (List.mem_append_right _ HM.out); exact HP1.out; exact HLX.out); (try simp only [Act.put, List.setIfInBounds_toArray, List.set_cons_zero, List.set_cons_succ])) | (((with_reducible apply qNeB blkT); rfl; rfl; rfl; exact HL2.out; exact HL2.out; rw [HNX.out]); (try simp only [Act.put, List.setIfInBounds_toArray, List.set_cons_zero, List.set_cons_succ])) | (go_big_quiet_want; go_big_quiet_op; first | go_big_quiet_on | (refine ⟨_, fun _ _ => rfl, ?_⟩; go_big_quiet_on) | (apply Exists.intro; refine ⟨fun wc hfr => ?_, ?_⟩; (· fail); go_big_quiet_on)))
        refine wpQuiet_nil ?_
        intro w1 hm1
        replace HS := HS.fresh hm1
        clear hm1
        go_wp2
        go_roundw
        case rel => exact ⟨k + 1, LL, by omega, by go_num, HM.out, HS.tail⟩
        case measure => simp [intOf]; omega
      · obtain rfl : k = N := by omega
        go_wp2
        go_ret
        exact ⟨rfl, HS.below⟩

set_option maxRecDepth 100000 in
theorem lifted (os : Os) (started : os.Started) (H : Type) (enc : TypeId × Value → H) :
    ReturnsInHanded {} Try.checked os 4 .any (Rows.diskWritesSpec.pre6 enc Try.prog Try.f4 Rows.diskWritesRow.domain false) (Rows.diskWritesSpec.post enc Try.prog Try.f4 false true false false) := by
  refine law_lift (C := Try.checked) own started (by kernel_rfl) Try.func4 laidOut rfl Try.underlying4 rfl ?hs (by kernel_rfl)
    (ChangeSpec.witness6 (enc := enc) (C := Try.checked) false ⟨#[], #[.int .i64 0, .slice none 0 0], []⟩ 8 (by kernel_rfl) (by kernel_rfl) (by kernel_rfl) (by kernel_rfl)) ?hwalk
  case hs =>
    intro ds h
    match ds, h with
    | [d0, d1], _ => rfl
  case hwalk =>
    intro W args hn ha
    obtain ⟨l⟩ := args
    match l, hn with
    | [v0, v1], _ =>
      obtain ⟨n, rfl, hn1⟩ := (ha 0 _ _ rfl rfl).int Try.underlying3
      obtain ⟨ad, cap, l, rfl, hm, _, _, hp, hl⟩ := puts_arg (ha 1 _ _ rfl rfl)
      obtain ⟨L', HS, _, hl'⟩ := (St.nil none' W).arg (by simp) hl
      exact walk n ad cap l W _ HS (int_wf hn1).1 (int_wf hn1).2 hm hp (hl'.imp id (fun ⟨A, o, h1, h2⟩ => ⟨A, o, h1, List.mem_append_left _ h2⟩))

theorem over : Rows.diskWritesRow.holds Try.pinned (OpenSpec.ofChange Rows.diskWritesSpec) :=
  OpenClaim.holds_of_wide 4 Try.f4 rfl rfl rfl rfl rfl rfl rfl ⟨rfl, rfl, rfl, rfl, rfl⟩ rfl rfl rfl rfl rfl (by kernel_rfl) Try.func4 (by kernel_rfl)
    (of_decide_eq_true (by kernel_rfl)) (by unfold Func.isWrapper; first | (rw [if_pos (by decide +kernel)]; kernel_rfl) | (rw [if_neg (by decide +kernel)]; exact ⟨rfl, rfl⟩))
    (fun os started H enc _ => lifted os started H enc)

theorem proved : Rows.DiskWritesSaid := over
#print axioms proved
end Go.Proofs.Ytfdomknagcdpeaa.diskWrites
