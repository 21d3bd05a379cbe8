/- What a disk tells, and what it was made of, is memory of its own. -/
import Derived.Test.YtfdomknagcdpeaaDArg
namespace Go.Proofs.Ytfdomknagcdpeaa.diskTold
open Go Go.RowKit Go.ChangeShapes Go.WideShapes Go.ChangeAt

theorem own : ownKnob Try.prog.godebug = none := by kernel_rfl
theorem laidOut : laidOutB Try.prog = true := by kernel_rfl

set_option maxRecDepth 100000 in
set_option maxHeartbeats 20000000 in
theorem walk (n : Int) (ad : Option Addr) (cap : Nat) (l : List (Int × Int)) (w : World) (L : List Ass) (HS : St none' w w L) (n0 : -9223372036854775808 ≤ n) (n1 : n ≤ 9223372036854775807) (hm : l.length ≤ maxLen) (hp : ∀ p ∈ l, putOk p) (hl : l = [] ∨ ∃ A o, ad = some ⟨A, o, none⟩ ∧ Ass.ro A o (encPs l) ∈ L) :
    Calls Try.prog 3 #[.int .i64 n, .slice ad l.length cap] w fun e w' => e = .returned (.bool true) ∧ Below w.heap.size w w' := by
  have HP := Lib.hid hp
  have HLL := Lib.hid hl
  unfold maxLen at hm
  clear hp hl
  by_cases hlong : 300 < l.length
  · have hI : (300 : Int) < (l.length : Int) := by omega
    go_enter Try.func3, Try.ntmps3
    go_wp2
    go_ret
    exact ⟨rfl, HS.below⟩
  have hI : (l.length : Int) ≤ 300 := by omega
  have hpl := playOk_all (many64_bd n).1 (by have := (many64_bd n).2; omega) l l.length (Nat.le_refl _) (by omega)
  rw [List.take_length] at hpl
  have HW := Lib.hid (fun (HS : St none' w w L) => written_any HS n n0 n1 l (by omega) HP.out HLL.out (cap := cap))
  obtain ⟨N0, N1⟩ := many64_bd n
  obtain ⟨N, hN⟩ : ∃ N, many64 n = N := ⟨_, rfl⟩
  rw [hN] at HW hpl N0 N1
  obtain ⟨D, hD⟩ : ∃ D, playW N l = D := ⟨_, rfl⟩
  rw [hD] at HW hpl
  have HPL := Lib.hid hpl
  have HNE := Lib.hid ((encBs_len hpl.ok.nowB).trans (by rw [hpl.ok.now]) : (encBs D.now).length = N * 256)
  have HSE := Lib.hid ((encBs_len hpl.ok.safeB).trans (by rw [hpl.ok.safe]) : (encBs D.safe).length = N * 256)
  clear hN hD hpl hlong
  go_enter Try.func3, Try.ntmps3
  go_wp2_with (fail)
  refine (HW.out HS).mono ?_
  rintro e w1 ⟨B, g1, c1, g2, c2, vw, Bm, rfl, H1'⟩
  clear HS HW; have HS := H1'; clear H1'
  go_wp2_with (fail)
  refine (dk_image (D := D) (n := N) HS HPL.out.ok).mono ?_
  rintro e w2 ⟨ga, ca, rfl, H1'⟩
  clear HS; have HS := H1'.back1 (D := diskA D N B g1 c1 g2 c2 vw); clear H1'
  go_wp2_with (fail)
  refine (dk_safe (D := D) (n := N) HS HPL.out.ok).mono ?_
  rintro e w3 ⟨gs, cs, rfl, H1'⟩
  clear HS; have HS := H1'; clear H1'
  go_wp2_with (fail)
  refine (dk_load HS HPL.out.ok.nowB HPL.out.ok.now N0 (by omega) (fun w' hC => hd_own (g := ga) (cap := ca) (sz := 256) (n := N) (e := 32) hC (by (simp only [diskA, newD, List.cons_append, List.nil_append, List.append_assoc]; (repeat (first | exact List.Mem.head _ | apply List.Mem.tail)))))).mono ?_
  rintro e w4 ⟨B2, h1, d1, h2, d2, rfl, H1'⟩
  clear HS; have HS := H1'; clear H1'
  go_wp2_with (fail)
  go_loopw [13] (fun i wr => ∃ (k : Nat) (xs ys : List (List UInt8)), k ≤ N ∧ i = .int .i64 k ∧ all256 xs ∧ xs.length = N ∧ all256 ys ∧ ys.length = N ∧ St none' w wr (diskA (newD D.now) N B2 h1 d1 h2 d2 (.slice none 0 0) ++ (.own (.slice (some ⟨gs, 0, none⟩) N cs) 32 256 N (encBs ys) :: (diskA D N B g1 c1 g2 c2 vw ++ (.own (.slice (some ⟨ga, 0, none⟩) N ca) 32 256 N (encBs xs) :: (.own (.slice (some ⟨Bm, 0, none⟩) N N) 32 256 N (encBs D.now) :: L)))))) (fun i _ => N - (intOf i).toNat)
  case atStart => exact ⟨0, D.now, D.safe, by omega, rfl, HPL.out.ok.nowB, HPL.out.ok.now, HPL.out.ok.safeB, HPL.out.ok.safe, HS⟩
  case round =>
    obtain ⟨k, xs, ys, hk, rfl, hx, hxl, hy, hyl, HS⟩ := hrel
    by_cases hlt : k < N
    · have HX := Lib.hid (encBs_len hx)
      have HY := Lib.hid (encBs_len hy)
      have HX1 := Lib.hid (encBs_set hx (fillB_len 12345) (i := k) (by omega))
      have HY1 := Lib.hid (encBs_set hy (fillB_len 54321) (i := k) (by omega))
      have HX2 := Lib.hid (hx.set (fillB_len 12345) k)
      have HY2 := Lib.hid (hy.set (fillB_len 54321) k)
      have HXL := Lib.hid hxl
      have HYL := Lib.hid hyl
      clear hx hy hxl hyl
      have z0 : (0 : Int) ≤ (k : Int) := by omega
      have z1 : (k : Int) < (N : Int) := by omega
      simp only [diskA, List.cons_append, List.nil_append] at HS
      go_wp2_with (first | (go_at_call 14; refine (fill_any _ _ (by omega) (by omega)).mono ?_; rintro e w' ⟨rfl, H1'⟩; replace HS := HS.fresh H1'; clear H1') | ((with_reducible apply sStoreO HS); infer_instance; rfl; (show _ = Value.pointer (some ⟨ga, _, none⟩); rfl); (conv => (lhs; whnf)); (repeat (first | exact Rep.here | apply Rep.there)); (simp [encB_size, fillB_len]); (rw [HX.out, HXL.out, encB_size, fillB_len]; omega); exact encB_one _; intro w' H1'; clear HS; have HS := H1'; clear H1') | ((with_reducible apply sStoreO HS); infer_instance; rfl; (show _ = Value.pointer (some ⟨gs, _, none⟩); rfl); (conv => (lhs; whnf)); (repeat (first | exact Rep.here | apply Rep.there)); (simp [encB_size, fillB_len]); (rw [HY.out, HYL.out, encB_size, fillB_len]; omega); exact encB_one _; intro w' H1'; clear HS; have HS := H1'; clear H1'))
      go_roundw
      case rel =>
        simp only [encB_toList, HX1.out, HY1.out] at HS
        exact ⟨k + 1, _, _, by omega, by go_num, HX2.out, by rw [List.length_set, HXL.out], HY2.out, by rw [List.length_set, HYL.out], HS⟩
      case measure => simp [intOf]; omega
    · obtain rfl : k = N := by omega
      clear hx hxl hy hyl
      go_wp2_with (fail)
      have HOK := Lib.hid (newD_ok HPL.out.ok.nowB HPL.out.ok.now N0 (by omega))
      (try simp only [Act.put])
      refine wp_region_sch (.q 0 (.q 2 (.e 1 (.e 3 (.q 4 (.q 5 (.q 7 (.e 6 (.e 8 (.q 9 (.q 10 (.q 11 (.q 13 (.q 14 (.two 12 (.e 15 (.e 16 (.q 17 (.e 18 (.nil))))) 15 (.e 12 (.e 16 (.q 17 (.e 18 (.nil)))))))))))))))))))) (Hd []) (by kernel_rfl) (by kernel_rfl) (fun _ _ d _ _ h => by cases d <;> exact h) ?_
      intro w1 hm1
      replace HS := HS.fresh hm1
      clear hm1
      refine ⟨HS.hd (by exact subNil), ?_⟩
      repeat (first | ((with_reducible apply wpSch_nilCheck); (simp only [List.getElem?_toArray, List.getElem?_cons_zero, List.getElem?_cons_succ]; rfl); rfl; rfl; (try simp only [Act.put, List.setIfInBounds_toArray, List.set_cons_zero, List.set_cons_succ])) | ((with_reducible apply wpSch_plain); (simp only [List.getElem?_toArray, List.getElem?_cons_zero, List.getElem?_cons_succ]; rfl); rfl; rfl; (intro K hK; go_big_quiet_op; go_big_quiet_on)) | ((with_reducible apply wpSch_skip); (simp only [List.getElem?_toArray, List.getElem?_cons_zero, List.getElem?_cons_succ]; rfl); rfl; (try simp only [Act.put, List.setIfInBounds_toArray, List.set_cons_zero, List.set_cons_succ])))
      with_reducible apply wpSch_e_k
      (simp only [List.getElem?_toArray, List.getElem?_cons_zero, List.getElem?_cons_succ]; rfl)
      intro K HK
      go_wp2_with (first | (go_at_call 11; refine (dk_image (D := D) (n := k) (HS.back (F := diskA (newD D.now) k B2 h1 d1 h2 d2 (.slice none 0 0) ++ [_]) (D := diskA D k B g1 c1 g2 c2 vw)) HPL.out.ok).mono ?_; rintro e w' ⟨gi, ci, rfl, H1'⟩; clear HS; have HS := H1'; clear H1'))
      refine HK.out _ _ ⟨.inr (HS.hd subNil), ?_⟩
      clear HK K
      with_reducible apply wpSch_e_k
      (simp only [List.getElem?_toArray, List.getElem?_cons_zero, List.getElem?_cons_succ]; rfl)
      intro K HK
      go_wp2_with (first | (go_at_call 15; refine (same_n HS D.now D.now HPL.out.ok.nowB HPL.out.ok.nowB HPL.out.ok.now HPL.out.ok.now (by omega) (fun w' hC => hd_own (g := gi) (n := k) (e := 32) (sz := 256) hC (by (simp only [diskA, newD, List.cons_append, List.nil_append, List.append_assoc]; (repeat (first | exact List.Mem.head _ | apply List.Mem.tail))))) (fun w' hC => hd_own (g := Bm) (cap := k) (n := k) (e := 32) (sz := 256) hC (by (simp only [diskA, newD, List.cons_append, List.nil_append, List.append_assoc]; (repeat (first | exact List.Mem.head _ | apply List.Mem.tail)))))).mono ?_; rintro e w' ⟨rfl, H1'⟩; clear HS; have HS := H1'; clear H1'; rw [show (D.now == D.now) = true by simp]))
      refine HK.out _ _ ⟨.inr (HS.hd subNil), ?_⟩
      clear HK K
      repeat (first | ((with_reducible apply wpSch_nilCheck); (simp only [List.getElem?_toArray, List.getElem?_cons_zero, List.getElem?_cons_succ]; rfl); rfl; rfl; (try simp only [Act.put, List.setIfInBounds_toArray, List.set_cons_zero, List.set_cons_succ])) | ((with_reducible apply wpSch_plain); (simp only [List.getElem?_toArray, List.getElem?_cons_zero, List.getElem?_cons_succ]; rfl); rfl; rfl; (intro K hK; go_big_quiet_op; go_big_quiet_on)) | ((with_reducible apply wpSch_skip); (simp only [List.getElem?_toArray, List.getElem?_cons_zero, List.getElem?_cons_succ]; rfl); rfl; (try simp only [Act.put, List.setIfInBounds_toArray, List.set_cons_zero, List.set_cons_succ])))
      with_reducible apply wpSch_e_k
      (simp only [List.getElem?_toArray, List.getElem?_cons_zero, List.getElem?_cons_succ]; rfl)
      intro K HK
      go_wp2_with (first | (go_at_call 11; refine (dk_image (D := newD D.now) (n := k) (HS.back (F := [_] ++ diskA D k B g1 c1 g2 c2 vw) (D := diskA (newD D.now) k B2 h1 d1 h2 d2 (.slice none 0 0))) HOK.out).mono ?_; rintro e w' ⟨gj, cj, rfl, H1'⟩; clear HS; have HS := H1'; clear H1'))
      refine HK.out _ _ ⟨.inr (HS.hd subNil), ?_⟩
      clear HK K
      with_reducible apply wpSch_e_k
      (simp only [List.getElem?_toArray, List.getElem?_cons_zero, List.getElem?_cons_succ]; rfl)
      intro K HK
      go_wp2_with (first | (go_at_call 15; refine (same_n HS D.now D.now HPL.out.ok.nowB HPL.out.ok.nowB HPL.out.ok.now HPL.out.ok.now (by omega) (fun w' hC => hd_own (g := gj) (n := k) (e := 32) (sz := 256) hC (by (simp only [diskA, newD, List.cons_append, List.nil_append, List.append_assoc]; (repeat (first | exact List.Mem.head _ | apply List.Mem.tail))))) (fun w' hC => hd_own (g := Bm) (cap := k) (n := k) (e := 32) (sz := 256) hC (by (simp only [diskA, newD, List.cons_append, List.nil_append, List.append_assoc]; (repeat (first | exact List.Mem.head _ | apply List.Mem.tail)))))).mono ?_; rintro e w' ⟨rfl, H1'⟩; clear HS; have HS := H1'; clear H1'; rw [show (D.now == D.now) = true by simp]))
      refine HK.out _ _ ⟨.inr (HS.hd subNil), ?_⟩
      clear HK K
      repeat (first | ((with_reducible apply wpSch_nilCheck); (simp only [List.getElem?_toArray, List.getElem?_cons_zero, List.getElem?_cons_succ]; rfl); rfl; rfl; (try simp only [Act.put, List.setIfInBounds_toArray, List.set_cons_zero, List.set_cons_succ])) | ((with_reducible apply wpSch_plain); (simp only [List.getElem?_toArray, List.getElem?_cons_zero, List.getElem?_cons_succ]; rfl); rfl; rfl; (intro K hK; go_big_quiet_op; go_big_quiet_on)) | ((with_reducible apply wpSch_skip); (simp only [List.getElem?_toArray, List.getElem?_cons_zero, List.getElem?_cons_succ]; rfl); rfl; (try simp only [Act.put, List.setIfInBounds_toArray, List.set_cons_zero, List.set_cons_succ])))
      with_reducible apply wpSch_two_k
      (simp only [List.getElem?_toArray, List.getElem?_cons_zero, List.getElem?_cons_succ]; rfl)
      (simp only [List.getElem?_toArray, List.getElem?_cons_zero, List.getElem?_cons_succ]; rfl)
      · intro K HK
        go_wp2_with (first | (go_at_call 12; refine (dk_safe (D := D) (n := k) (HS.back (F := [_] ++ diskA (newD D.now) k B2 h1 d1 h2 d2 (.slice none 0 0) ++ [_]) (D := diskA D k B g1 c1 g2 c2 vw)) HPL.out.ok).mono ?_; rintro e w' ⟨gf, cf, rfl, H1'⟩; clear HS; have HS := H1'; clear H1'))
        refine HK.out _ _ ⟨.inr (HS.hd subNil), ?_⟩
        clear HK K
        with_reducible apply wpSch_e_k
        (simp only [List.getElem?_toArray, List.getElem?_cons_zero, List.getElem?_cons_succ]; rfl)
        intro K HK
        ((with_reducible apply sMake HS Try.underlying24 infoB); rfl; rfl; rfl; omega; omega; intro Bz w' H1'; clear HS; have HS := H1'; clear H1')
        (try simp only [Act.put, List.setIfInBounds_toArray, List.set_cons_zero, List.set_cons_succ])
        refine wpList_nil (then_normal (HK.out _ _ ⟨.inr (HS.hd subNil), ?_⟩))
        clear HK K
        with_reducible apply wpSch_e_k
        (simp only [List.getElem?_toArray, List.getElem?_cons_zero, List.getElem?_cons_succ]; rfl)
        intro K HK
        go_wp2_with (first | (go_at_call 15; refine (same_n HS D.safe (List.replicate k Z256) HPL.out.ok.safeB (all256.rep k) HPL.out.ok.safe (by simp) (by omega) (fun w' hC => hd_own (g := gf) (n := k) (e := 32) (sz := 256) hC (by (simp only [diskA, newD, List.cons_append, List.nil_append, List.append_assoc]; (repeat (first | exact List.Mem.head _ | apply List.Mem.tail))))) (fun w' hC => (by have h := hd_blk (B := Bz) (rw := true) (cs := madeCells (Value.agg (encB Z256)).cells (k * 256)) (t := 32) hC (by (simp only [diskA, newD, List.cons_append, List.nil_append, List.append_assoc]; (repeat (first | exact List.Mem.head _ | apply List.Mem.tail)))); rwa [cells_agg, made_blocks] at h))).mono ?_; rintro e w' ⟨rfl, H1'⟩; clear HS; have HS := H1'; clear H1'; rw [show (D.safe == List.replicate k Z256) = true by rw [HPL.out.safe]; simp]))
        refine HK.out _ _ ⟨.inr (HS.hd subNil), ?_⟩
        clear HK K
        repeat (first | ((with_reducible apply wpSch_nilCheck); (simp only [List.getElem?_toArray, List.getElem?_cons_zero, List.getElem?_cons_succ]; rfl); rfl; rfl; (try simp only [Act.put, List.setIfInBounds_toArray, List.set_cons_zero, List.set_cons_succ])) | ((with_reducible apply wpSch_plain); (simp only [List.getElem?_toArray, List.getElem?_cons_zero, List.getElem?_cons_succ]; rfl); rfl; rfl; (intro K hK; go_big_quiet_op; go_big_quiet_on)) | ((with_reducible apply wpSch_skip); (simp only [List.getElem?_toArray, List.getElem?_cons_zero, List.getElem?_cons_succ]; rfl); rfl; (try simp only [Act.put, List.setIfInBounds_toArray, List.set_cons_zero, List.set_cons_succ])))
        with_reducible apply wpSch_e_k
        (simp only [List.getElem?_toArray, List.getElem?_cons_zero, List.getElem?_cons_succ]; rfl)
        intro K HK
        go_wp2_with (fail)
        refine HK.out _ _ ⟨.inl rfl, ?_⟩
        clear HK K
        refine wpSch_nil ?_
        go_wp2
        go_ret
        exact ⟨rfl, HS.below⟩
      · intro K HK
        ((with_reducible apply sMake HS Try.underlying24 infoB); rfl; rfl; rfl; omega; omega; intro Bz w' H1'; clear HS; have HS := H1'; clear H1')
        (try simp only [Act.put, List.setIfInBounds_toArray, List.set_cons_zero, List.set_cons_succ])
        refine wpList_nil (then_normal (HK.out _ _ ⟨.inr (HS.hd subNil), ?_⟩))
        clear HK K
        with_reducible apply wpSch_e_k
        (simp only [List.getElem?_toArray, List.getElem?_cons_zero, List.getElem?_cons_succ]; rfl)
        intro K HK
        go_wp2_with (first | (go_at_call 12; refine (dk_safe (D := D) (n := k) (HS.back (F := [_, _] ++ diskA (newD D.now) k B2 h1 d1 h2 d2 (.slice none 0 0) ++ [_]) (D := diskA D k B g1 c1 g2 c2 vw)) HPL.out.ok).mono ?_; rintro e w' ⟨gf, cf, rfl, H1'⟩; clear HS; have HS := H1'; clear H1'))
        refine HK.out _ _ ⟨.inr (HS.hd subNil), ?_⟩
        clear HK K
        with_reducible apply wpSch_e_k
        (simp only [List.getElem?_toArray, List.getElem?_cons_zero, List.getElem?_cons_succ]; rfl)
        intro K HK
        go_wp2_with (first | (go_at_call 15; refine (same_n HS D.safe (List.replicate k Z256) HPL.out.ok.safeB (all256.rep k) HPL.out.ok.safe (by simp) (by omega) (fun w' hC => hd_own (g := gf) (n := k) (e := 32) (sz := 256) hC (by (simp only [diskA, newD, List.cons_append, List.nil_append, List.append_assoc]; (repeat (first | exact List.Mem.head _ | apply List.Mem.tail))))) (fun w' hC => (by have h := hd_blk (B := Bz) (rw := true) (cs := madeCells (Value.agg (encB Z256)).cells (k * 256)) (t := 32) hC (by (simp only [diskA, newD, List.cons_append, List.nil_append, List.append_assoc]; (repeat (first | exact List.Mem.head _ | apply List.Mem.tail)))); rwa [cells_agg, made_blocks] at h))).mono ?_; rintro e w' ⟨rfl, H1'⟩; clear HS; have HS := H1'; clear H1'; rw [show (D.safe == List.replicate k Z256) = true by rw [HPL.out.safe]; simp]))
        refine HK.out _ _ ⟨.inr (HS.hd subNil), ?_⟩
        clear HK K
        repeat (first | ((with_reducible apply wpSch_nilCheck); (simp only [List.getElem?_toArray, List.getElem?_cons_zero, List.getElem?_cons_succ]; rfl); rfl; rfl; (try simp only [Act.put, List.setIfInBounds_toArray, List.set_cons_zero, List.set_cons_succ])) | ((with_reducible apply wpSch_plain); (simp only [List.getElem?_toArray, List.getElem?_cons_zero, List.getElem?_cons_succ]; rfl); rfl; rfl; (intro K hK; go_big_quiet_op; go_big_quiet_on)) | ((with_reducible apply wpSch_skip); (simp only [List.getElem?_toArray, List.getElem?_cons_zero, List.getElem?_cons_succ]; rfl); rfl; (try simp only [Act.put, List.setIfInBounds_toArray, List.set_cons_zero, List.set_cons_succ])))
        with_reducible apply wpSch_e_k
        (simp only [List.getElem?_toArray, List.getElem?_cons_zero, List.getElem?_cons_succ]; rfl)
        intro K HK
        go_wp2_with (fail)
        refine HK.out _ _ ⟨.inl rfl, ?_⟩
        clear HK K
        refine wpSch_nil ?_
        go_wp2
        go_ret
        exact ⟨rfl, HS.below⟩

set_option maxRecDepth 100000 in
theorem lifted (os : Os) (started : os.Started) (H : Type) (enc : TypeId × Value → H) :
    ReturnsInHanded {} Try.checked os 3 .any (Rows.diskToldSpec.pre6 enc Try.prog Try.f3 Rows.diskToldRow.domain false) (Rows.diskToldSpec.post enc Try.prog Try.f3 false true false false) := by
  refine law_lift (C := Try.checked) own started (by kernel_rfl) Try.func3 laidOut rfl Try.underlying4 rfl ?hs (by kernel_rfl)
    (ChangeSpec.witness6 (enc := enc) (C := Try.checked) false ⟨#[], #[.int .i64 0, .slice none 0 0], []⟩ 8 (by kernel_rfl) (by kernel_rfl) (by kernel_rfl) (by kernel_rfl)) ?hwalk
  case hs =>
    intro ds h
    match ds, h with
    | [d0, d1], _ => rfl
  case hwalk =>
    intro W args hn ha
    obtain ⟨l⟩ := args
    match l, hn with
    | [v0, v1], _ =>
      obtain ⟨n, rfl, hn1⟩ := (ha 0 _ _ rfl rfl).int Try.underlying3
      obtain ⟨ad, cap, l, rfl, hm, _, _, hp, hl⟩ := puts_arg (ha 1 _ _ rfl rfl)
      obtain ⟨L', HS, _, hl'⟩ := (St.nil none' W).arg (by simp) hl
      exact walk n ad cap l W _ HS (int_wf hn1).1 (int_wf hn1).2 hm hp (hl'.imp id (fun ⟨A, o, h1, h2⟩ => ⟨A, o, h1, List.mem_append_left _ h2⟩))

theorem over : Rows.diskToldRow.holds Try.pinned (OpenSpec.ofChange Rows.diskToldSpec) :=
  OpenClaim.holds_of_wide 3 Try.f3 rfl rfl rfl rfl rfl rfl rfl ⟨rfl, rfl, rfl, rfl, rfl⟩ rfl rfl rfl rfl rfl (by kernel_rfl) Try.func3 (by kernel_rfl)
    (of_decide_eq_true (by kernel_rfl)) (by unfold Func.isWrapper; first | (rw [if_pos (by decide +kernel)]; kernel_rfl) | (rw [if_neg (by decide +kernel)]; exact ⟨rfl, rfl⟩))
    (fun os started H enc _ => lifted os started H enc)

theorem proved : Rows.DiskToldSaid := over
#print axioms proved
end Go.Proofs.Ytfdomknagcdpeaa.diskTold
