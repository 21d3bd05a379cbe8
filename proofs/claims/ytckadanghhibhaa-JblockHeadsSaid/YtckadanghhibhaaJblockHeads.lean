/- A head may be written just if its number is from 1 to 2^31, and its place from 0 to 255; two of them have one block just if they are the same. -/
import Derived.Test.YtckadanghhibhaaJq
namespace Go.Proofs.Ytckadanghhibhaa.jblockHeads
open Go.RowKit Go.ChangeShapes Go.WideShapes Go.ChangeAt

theorem own : ownKnob Try.prog.godebug = none := by kernel_rfl
theorem laidOut : laidOutB Try.prog = true := by kernel_rfl

theorem blocks_same (s st s2 st2 : Int) (hs : 1 ≤ s ∧ s ≤ 2147483648) (ht : 0 ≤ st ∧ st < 256) (hs2 : 1 ≤ s2 ∧ s2 ≤ 2147483648) (ht2 : 0 ≤ st2 ∧ st2 < 256) :
    (blockOf [1280199249, 4, s, st] == blockOf [1280199249, 4, s2, st2]) = (s == s2 && st == st2) := by
  rw [Bool.eq_iff_iff, beq_iff_eq, Bool.and_eq_true, beq_iff_eq, beq_iff_eq]
  constructor
  · intro h
    obtain ⟨h1, h2⟩ := get_block4 1280199249 4 s st (by omega) (by omega)
    obtain ⟨h3, h4⟩ := get_block4 1280199249 4 s2 st2 (by omega) (by omega)
    rw [h] at h1 h2
    exact ⟨h1.symm.trans h3, h2.symm.trans h4⟩
  · rintro ⟨rfl, rfl⟩; rfl

set_option maxRecDepth 100000 in
set_option maxHeartbeats 4000000 in
theorem walk (s st s2 st2 : Int) (w : World) (s0 : 0 ≤ s) (s1 : s < 4294967296) (t0 : 0 ≤ s2) (t1 : s2 < 4294967296) :
    Calls Try.prog 4 #[.agg #[.int .u32 s, .int .i64 st], .agg #[.int .u32 s2, .int .i64 st2]] w fun e w' => e = .returned (.bool true) ∧ Below w.heap.size w w' := by
  obtain ⟨RH, RK, M0⟩ := two_new w (.cells #[.int .u32 s, .int .i64 st] 24) (.cells #[.int .u32 s2, .int .i64 st2] 24)
  have HH := Lib.hid RH
  have HK := Lib.hid RK
  clear RH RK
  obtain ⟨b2, hb2⟩ : ∃ b, blkOf (wHead s2 st2) = b := ⟨_, rfl⟩
  obtain ⟨e2, he2⟩ : ∃ b, errOf (wHead s2 st2) = b := ⟨_, rfl⟩
  have R2 : Hid (resB (wHead s2 st2) = .tuple #[.agg (encB b2), .int .i64 e2]) := by show _ = _; rw [resB_eq, hb2, he2]
  have l2 : b2.length = 256 := by rw [← hb2]; exact wHead_len _ _
  have HB2 := Lib.hid hb2
  have HE2 := Lib.hid he2
  clear hb2 he2
  by_cases c1 : 1 ≤ s
  rotate_left
  · have R1 : Hid (resB (wHead s st) = .tuple #[.agg (encB Z256), .int .i64 2]) := by show _ = _; rw [wHead, if_neg (by simp [seqB]; omega)]; rfl
    obtain ⟨b1, hb1⟩ : ∃ b, Z256 = b := ⟨_, rfl⟩
    have l1 : b1.length = 256 := by rw [← hb1]; exact Z256_len
    rw [hb1] at R1
    clear hb1
    go_enter Try.func4, Try.ntmps4
    go_wp2_with fail
    refine (jawake _).mono ?_
    rintro e w1 ⟨rfl, hm⟩
    have HH := Lib.hid (hm.row (k := w.heap.size) HH.out (fun e => e))
    have HK := Lib.hid (hm.row (k := w.heap.size + 1) HK.out (fun e => e))
    have M1 := M0.trans hm
    have ch0 : w1.cell? ⟨w.heap.size, 0, none⟩ = some (.int .u32 s) := (cell_of_row _ _ 0 _ _ _ HH.out).trans rfl
    have ch1 : w1.cell? ⟨w.heap.size, 1, none⟩ = some (.int .i64 st) := (cell_of_row _ _ 1 _ _ _ HH.out).trans rfl
    clear hm M0
    go_wp2_with fail
    refine (jwhead s st _ (by omega) (by omega)).mono ?_
    rintro e w2 ⟨rfl, hm⟩
    rw [R1.out]
    obtain ⟨n2, m2⟩ := put_new w2 b1
    have hm := hm.trans m2
    have HH := Lib.hid (hm.row (k := w.heap.size) HH.out (fun e => e))
    have HK := Lib.hid (hm.row (k := w.heap.size + 1) HK.out (fun e => e))
    have HN2 := Lib.hid n2
    have HO2 := Lib.hid (heap_alloc_new w2 (.cells (encB Z256) 28))
    have M2 := M1.trans hm
    clear M1 hm m2 n2 ch0 ch1
    have ck0 := (cell_of_row _ _ 0 _ _ _ HK.out).trans (show _ = some (.int .u32 s2) from rfl)
    have ck1 := (cell_of_row _ _ 1 _ _ _ HK.out).trans (show _ = some (.int .i64 st2) from rfl)
    go_wp2_with (first | (with_reducible refine wpList_allocB' blkT ?_) | ((with_reducible refine wpList_storeB' blkT ?_ ?_ l1 Z256_len HO2.out ?_); rfl; rfl))
    refine (jwhead s2 st2 _ (by omega) (by omega)).mono ?_
    rintro e w3 ⟨rfl, hm⟩
    rw [R2.out]
    obtain ⟨n3, m3⟩ := put_new w3 b2
    have hm := hm.trans m3
    have HH := Lib.hid (hm.row (k := w.heap.size) HH.out (fun e => e))
    have HK := Lib.hid (hm.row (k := w.heap.size + 1) HK.out (fun e => e))
    have HN2 := Lib.hid (hm.row (k := w2.heap.size) HN2.out (fun e => e))
    have HN3 := Lib.hid n3
    have HO3 := Lib.hid (heap_alloc_new w3 (.cells (encB Z256) 28))
    have M3 := M2.trans hm
    clear M2 hm m3 n3 ck0 ck1
    have ch0 := (cell_of_row _ _ 0 _ _ _ HH.out).trans (show _ = some (.int .u32 s) from rfl)
    have ch1 := (cell_of_row _ _ 1 _ _ _ HH.out).trans (show _ = some (.int .i64 st) from rfl)
    have ck0 := (cell_of_row _ _ 0 _ _ _ HK.out).trans (show _ = some (.int .u32 s2) from rfl)
    have ck1 := (cell_of_row _ _ 1 _ _ _ HK.out).trans (show _ = some (.int .i64 st2) from rfl)
    go_wp2_with (first | (with_reducible refine wpList_allocB' blkT ?_) | ((with_reducible refine wpList_storeB' blkT ?_ ?_ l2 Z256_len HO3.out ?_); rfl; rfl))
    go_quiet (fail)
    go_wp2
    go_ret
    exact ⟨rfl, (M3.drewN _).new⟩
  by_cases c2 : s ≤ 2147483648
  rotate_left
  · have R1 : Hid (resB (wHead s st) = .tuple #[.agg (encB Z256), .int .i64 2]) := by show _ = _; rw [wHead, if_neg (by simp [seqB]; omega)]; rfl
    obtain ⟨b1, hb1⟩ : ∃ b, Z256 = b := ⟨_, rfl⟩
    have l1 : b1.length = 256 := by rw [← hb1]; exact Z256_len
    rw [hb1] at R1
    clear hb1
    go_enter Try.func4, Try.ntmps4
    go_wp2_with fail
    refine (jawake _).mono ?_
    rintro e w1 ⟨rfl, hm⟩
    have HH := Lib.hid (hm.row (k := w.heap.size) HH.out (fun e => e))
    have HK := Lib.hid (hm.row (k := w.heap.size + 1) HK.out (fun e => e))
    have M1 := M0.trans hm
    have ch0 : w1.cell? ⟨w.heap.size, 0, none⟩ = some (.int .u32 s) := (cell_of_row _ _ 0 _ _ _ HH.out).trans rfl
    have ch1 : w1.cell? ⟨w.heap.size, 1, none⟩ = some (.int .i64 st) := (cell_of_row _ _ 1 _ _ _ HH.out).trans rfl
    clear hm M0
    go_wp2_with fail
    refine (jwhead s st _ (by omega) (by omega)).mono ?_
    rintro e w2 ⟨rfl, hm⟩
    rw [R1.out]
    obtain ⟨n2, m2⟩ := put_new w2 b1
    have hm := hm.trans m2
    have HH := Lib.hid (hm.row (k := w.heap.size) HH.out (fun e => e))
    have HK := Lib.hid (hm.row (k := w.heap.size + 1) HK.out (fun e => e))
    have HN2 := Lib.hid n2
    have HO2 := Lib.hid (heap_alloc_new w2 (.cells (encB Z256) 28))
    have M2 := M1.trans hm
    clear M1 hm m2 n2 ch0 ch1
    have ck0 := (cell_of_row _ _ 0 _ _ _ HK.out).trans (show _ = some (.int .u32 s2) from rfl)
    have ck1 := (cell_of_row _ _ 1 _ _ _ HK.out).trans (show _ = some (.int .i64 st2) from rfl)
    go_wp2_with (first | (with_reducible refine wpList_allocB' blkT ?_) | ((with_reducible refine wpList_storeB' blkT ?_ ?_ l1 Z256_len HO2.out ?_); rfl; rfl))
    refine (jwhead s2 st2 _ (by omega) (by omega)).mono ?_
    rintro e w3 ⟨rfl, hm⟩
    rw [R2.out]
    obtain ⟨n3, m3⟩ := put_new w3 b2
    have hm := hm.trans m3
    have HH := Lib.hid (hm.row (k := w.heap.size) HH.out (fun e => e))
    have HK := Lib.hid (hm.row (k := w.heap.size + 1) HK.out (fun e => e))
    have HN2 := Lib.hid (hm.row (k := w2.heap.size) HN2.out (fun e => e))
    have HN3 := Lib.hid n3
    have HO3 := Lib.hid (heap_alloc_new w3 (.cells (encB Z256) 28))
    have M3 := M2.trans hm
    clear M2 hm m3 n3 ck0 ck1
    have ch0 := (cell_of_row _ _ 0 _ _ _ HH.out).trans (show _ = some (.int .u32 s) from rfl)
    have ch1 := (cell_of_row _ _ 1 _ _ _ HH.out).trans (show _ = some (.int .i64 st) from rfl)
    have ck0 := (cell_of_row _ _ 0 _ _ _ HK.out).trans (show _ = some (.int .u32 s2) from rfl)
    have ck1 := (cell_of_row _ _ 1 _ _ _ HK.out).trans (show _ = some (.int .i64 st2) from rfl)
    go_wp2_with (first | (with_reducible refine wpList_allocB' blkT ?_) | ((with_reducible refine wpList_storeB' blkT ?_ ?_ l2 Z256_len HO3.out ?_); rfl; rfl))
    go_quiet (fail)
    go_wp2
    go_ret
    exact ⟨rfl, (M3.drewN _).new⟩
  by_cases c3 : 0 ≤ st
  rotate_left
  · have R1 : Hid (resB (wHead s st) = .tuple #[.agg (encB Z256), .int .i64 2]) := by show _ = _; rw [wHead, if_neg (by omega)]; rfl
    obtain ⟨b1, hb1⟩ : ∃ b, Z256 = b := ⟨_, rfl⟩
    have l1 : b1.length = 256 := by rw [← hb1]; exact Z256_len
    rw [hb1] at R1
    clear hb1
    go_enter Try.func4, Try.ntmps4
    go_wp2_with fail
    refine (jawake _).mono ?_
    rintro e w1 ⟨rfl, hm⟩
    have HH := Lib.hid (hm.row (k := w.heap.size) HH.out (fun e => e))
    have HK := Lib.hid (hm.row (k := w.heap.size + 1) HK.out (fun e => e))
    have M1 := M0.trans hm
    have ch0 : w1.cell? ⟨w.heap.size, 0, none⟩ = some (.int .u32 s) := (cell_of_row _ _ 0 _ _ _ HH.out).trans rfl
    have ch1 : w1.cell? ⟨w.heap.size, 1, none⟩ = some (.int .i64 st) := (cell_of_row _ _ 1 _ _ _ HH.out).trans rfl
    clear hm M0
    go_wp2_with fail
    refine (jwhead s st _ (by omega) (by omega)).mono ?_
    rintro e w2 ⟨rfl, hm⟩
    rw [R1.out]
    obtain ⟨n2, m2⟩ := put_new w2 b1
    have hm := hm.trans m2
    have HH := Lib.hid (hm.row (k := w.heap.size) HH.out (fun e => e))
    have HK := Lib.hid (hm.row (k := w.heap.size + 1) HK.out (fun e => e))
    have HN2 := Lib.hid n2
    have HO2 := Lib.hid (heap_alloc_new w2 (.cells (encB Z256) 28))
    have M2 := M1.trans hm
    clear M1 hm m2 n2 ch0 ch1
    have ck0 := (cell_of_row _ _ 0 _ _ _ HK.out).trans (show _ = some (.int .u32 s2) from rfl)
    have ck1 := (cell_of_row _ _ 1 _ _ _ HK.out).trans (show _ = some (.int .i64 st2) from rfl)
    go_wp2_with (first | (with_reducible refine wpList_allocB' blkT ?_) | ((with_reducible refine wpList_storeB' blkT ?_ ?_ l1 Z256_len HO2.out ?_); rfl; rfl))
    refine (jwhead s2 st2 _ (by omega) (by omega)).mono ?_
    rintro e w3 ⟨rfl, hm⟩
    rw [R2.out]
    obtain ⟨n3, m3⟩ := put_new w3 b2
    have hm := hm.trans m3
    have HH := Lib.hid (hm.row (k := w.heap.size) HH.out (fun e => e))
    have HK := Lib.hid (hm.row (k := w.heap.size + 1) HK.out (fun e => e))
    have HN2 := Lib.hid (hm.row (k := w2.heap.size) HN2.out (fun e => e))
    have HN3 := Lib.hid n3
    have HO3 := Lib.hid (heap_alloc_new w3 (.cells (encB Z256) 28))
    have M3 := M2.trans hm
    clear M2 hm m3 n3 ck0 ck1
    have ch0 := (cell_of_row _ _ 0 _ _ _ HH.out).trans (show _ = some (.int .u32 s) from rfl)
    have ch1 := (cell_of_row _ _ 1 _ _ _ HH.out).trans (show _ = some (.int .i64 st) from rfl)
    have ck0 := (cell_of_row _ _ 0 _ _ _ HK.out).trans (show _ = some (.int .u32 s2) from rfl)
    have ck1 := (cell_of_row _ _ 1 _ _ _ HK.out).trans (show _ = some (.int .i64 st2) from rfl)
    go_wp2_with (first | (with_reducible refine wpList_allocB' blkT ?_) | ((with_reducible refine wpList_storeB' blkT ?_ ?_ l2 Z256_len HO3.out ?_); rfl; rfl))
    go_quiet (fail)
    go_wp2
    go_ret
    exact ⟨rfl, (M3.drewN _).new⟩
  by_cases c4 : st < 256
  rotate_left
  · have R1 : Hid (resB (wHead s st) = .tuple #[.agg (encB Z256), .int .i64 2]) := by show _ = _; rw [wHead, if_neg (by omega)]; rfl
    obtain ⟨b1, hb1⟩ : ∃ b, Z256 = b := ⟨_, rfl⟩
    have l1 : b1.length = 256 := by rw [← hb1]; exact Z256_len
    rw [hb1] at R1
    clear hb1
    go_enter Try.func4, Try.ntmps4
    go_wp2_with fail
    refine (jawake _).mono ?_
    rintro e w1 ⟨rfl, hm⟩
    have HH := Lib.hid (hm.row (k := w.heap.size) HH.out (fun e => e))
    have HK := Lib.hid (hm.row (k := w.heap.size + 1) HK.out (fun e => e))
    have M1 := M0.trans hm
    have ch0 : w1.cell? ⟨w.heap.size, 0, none⟩ = some (.int .u32 s) := (cell_of_row _ _ 0 _ _ _ HH.out).trans rfl
    have ch1 : w1.cell? ⟨w.heap.size, 1, none⟩ = some (.int .i64 st) := (cell_of_row _ _ 1 _ _ _ HH.out).trans rfl
    clear hm M0
    go_wp2_with fail
    refine (jwhead s st _ (by omega) (by omega)).mono ?_
    rintro e w2 ⟨rfl, hm⟩
    rw [R1.out]
    obtain ⟨n2, m2⟩ := put_new w2 b1
    have hm := hm.trans m2
    have HH := Lib.hid (hm.row (k := w.heap.size) HH.out (fun e => e))
    have HK := Lib.hid (hm.row (k := w.heap.size + 1) HK.out (fun e => e))
    have HN2 := Lib.hid n2
    have HO2 := Lib.hid (heap_alloc_new w2 (.cells (encB Z256) 28))
    have M2 := M1.trans hm
    clear M1 hm m2 n2 ch0 ch1
    have ck0 := (cell_of_row _ _ 0 _ _ _ HK.out).trans (show _ = some (.int .u32 s2) from rfl)
    have ck1 := (cell_of_row _ _ 1 _ _ _ HK.out).trans (show _ = some (.int .i64 st2) from rfl)
    go_wp2_with (first | (with_reducible refine wpList_allocB' blkT ?_) | ((with_reducible refine wpList_storeB' blkT ?_ ?_ l1 Z256_len HO2.out ?_); rfl; rfl))
    refine (jwhead s2 st2 _ (by omega) (by omega)).mono ?_
    rintro e w3 ⟨rfl, hm⟩
    rw [R2.out]
    obtain ⟨n3, m3⟩ := put_new w3 b2
    have hm := hm.trans m3
    have HH := Lib.hid (hm.row (k := w.heap.size) HH.out (fun e => e))
    have HK := Lib.hid (hm.row (k := w.heap.size + 1) HK.out (fun e => e))
    have HN2 := Lib.hid (hm.row (k := w2.heap.size) HN2.out (fun e => e))
    have HN3 := Lib.hid n3
    have HO3 := Lib.hid (heap_alloc_new w3 (.cells (encB Z256) 28))
    have M3 := M2.trans hm
    clear M2 hm m3 n3 ck0 ck1
    have ch0 := (cell_of_row _ _ 0 _ _ _ HH.out).trans (show _ = some (.int .u32 s) from rfl)
    have ch1 := (cell_of_row _ _ 1 _ _ _ HH.out).trans (show _ = some (.int .i64 st) from rfl)
    have ck0 := (cell_of_row _ _ 0 _ _ _ HK.out).trans (show _ = some (.int .u32 s2) from rfl)
    have ck1 := (cell_of_row _ _ 1 _ _ _ HK.out).trans (show _ = some (.int .i64 st2) from rfl)
    go_wp2_with (first | (with_reducible refine wpList_allocB' blkT ?_) | ((with_reducible refine wpList_storeB' blkT ?_ ?_ l2 Z256_len HO3.out ?_); rfl; rfl))
    go_quiet (fail)
    go_wp2
    go_ret
    exact ⟨rfl, (M3.drewN _).new⟩
  obtain ⟨b1, hb1⟩ : ∃ b, blockOf [1280199249, 4, s, st] = b := ⟨_, rfl⟩
  have R1 : Hid (resB (wHead s st) = .tuple #[.agg (encB b1), .int .i64 0]) := by show _ = _; rw [wHead, if_pos ⟨by simp [seqB]; omega, c3, c4⟩, hb1]; rfl
  have l1 : b1.length = 256 := by rw [← hb1]; exact blockOf_len _
  have HB1 := Lib.hid hb1
  clear hb1
  by_cases c5 : seqB s2 = true ∧ 0 ≤ st2 ∧ st2 < 256
  · have e2z : e2 = 0 := by rw [← HE2.out, wHead, if_pos c5]; rfl
    have hbb : Hid ((b1 == b2) = (s == s2 && st == st2)) := by
      show _ = _
      rw [← HB1.out, ← HB2.out, wHead, if_pos c5]
      exact blocks_same s st s2 st2 ⟨c1, c2⟩ ⟨c3, c4⟩ (seqB_bd c5.1) c5.2
    subst e2z
    clear c5 HE2
    go_enter Try.func4, Try.ntmps4
    go_wp2_with fail
    refine (jawake _).mono ?_
    rintro e w1 ⟨rfl, hm⟩
    have HH := Lib.hid (hm.row (k := w.heap.size) HH.out (fun e => e))
    have HK := Lib.hid (hm.row (k := w.heap.size + 1) HK.out (fun e => e))
    have M1 := M0.trans hm
    have ch0 : w1.cell? ⟨w.heap.size, 0, none⟩ = some (.int .u32 s) := (cell_of_row _ _ 0 _ _ _ HH.out).trans rfl
    have ch1 : w1.cell? ⟨w.heap.size, 1, none⟩ = some (.int .i64 st) := (cell_of_row _ _ 1 _ _ _ HH.out).trans rfl
    clear hm M0
    go_wp2_with fail
    refine (jwhead s st _ (by omega) (by omega)).mono ?_
    rintro e w2 ⟨rfl, hm⟩
    rw [R1.out]
    obtain ⟨n2, m2⟩ := put_new w2 b1
    have hm := hm.trans m2
    have HH := Lib.hid (hm.row (k := w.heap.size) HH.out (fun e => e))
    have HK := Lib.hid (hm.row (k := w.heap.size + 1) HK.out (fun e => e))
    have HN2 := Lib.hid n2
    have HO2 := Lib.hid (heap_alloc_new w2 (.cells (encB Z256) 28))
    have M2 := M1.trans hm
    clear M1 hm m2 n2 ch0 ch1
    have ck0 := (cell_of_row _ _ 0 _ _ _ HK.out).trans (show _ = some (.int .u32 s2) from rfl)
    have ck1 := (cell_of_row _ _ 1 _ _ _ HK.out).trans (show _ = some (.int .i64 st2) from rfl)
    go_wp2_with (first | (with_reducible refine wpList_allocB' blkT ?_) | ((with_reducible refine wpList_storeB' blkT ?_ ?_ l1 Z256_len HO2.out ?_); rfl; rfl))
    refine (jwhead s2 st2 _ (by omega) (by omega)).mono ?_
    rintro e w3 ⟨rfl, hm⟩
    rw [R2.out]
    obtain ⟨n3, m3⟩ := put_new w3 b2
    have hm := hm.trans m3
    have HH := Lib.hid (hm.row (k := w.heap.size) HH.out (fun e => e))
    have HK := Lib.hid (hm.row (k := w.heap.size + 1) HK.out (fun e => e))
    have HN2 := Lib.hid (hm.row (k := w2.heap.size) HN2.out (fun e => e))
    have HN3 := Lib.hid n3
    have HO3 := Lib.hid (heap_alloc_new w3 (.cells (encB Z256) 28))
    have M3 := M2.trans hm
    clear M2 hm m3 n3 ck0 ck1
    have ch0 := (cell_of_row _ _ 0 _ _ _ HH.out).trans (show _ = some (.int .u32 s) from rfl)
    have ch1 := (cell_of_row _ _ 1 _ _ _ HH.out).trans (show _ = some (.int .i64 st) from rfl)
    have ck0 := (cell_of_row _ _ 0 _ _ _ HK.out).trans (show _ = some (.int .u32 s2) from rfl)
    have ck1 := (cell_of_row _ _ 1 _ _ _ HK.out).trans (show _ = some (.int .i64 st2) from rfl)
    go_wp2_with (first | (with_reducible refine wpList_allocB' blkT ?_) | ((with_reducible refine wpList_storeB' blkT ?_ ?_ l2 Z256_len HO3.out ?_); rfl; rfl))
    (refine wp_region_quiet_lit (by kernel_rfl) (by kernel_rfl) ?_
     repeat (first
       | go_big_quiet_skip
       | ((first | ((with_reducible refine wpQuiet_loadB blkT ?_ ?_ l1 HN2.out ?_); rfl; rfl) | ((with_reducible refine wpQuiet_loadB blkT ?_ ?_ l2 HN3.out ?_); rfl; rfl) | ((with_reducible refine wpQuiet_eqlB blkT ?_ ?_ ?_ l1 l2 ?_); rfl; rfl; rfl) | ((with_reducible refine wpQuiet_cmp ?_ ?_ ?_ (head_guard _ _ _ _ _) (head_eql s st s2 st2) ?_); rfl; rfl; rfl)); try simp only [Act.put, List.setIfInBounds_toArray, List.set_cons_zero, List.set_cons_succ])
       | (go_big_quiet_want; go_big_quiet_op; first | go_big_quiet_on | (apply Exists.intro; refine ⟨fun _ => ?_, ?_⟩; (· fail); go_big_quiet_on)))
     refine wpQuiet_nil ?_
     intro _ hw'
     obtain ⟨nq, hw''⟩ := hw'
     subst hw'')
    go_wp2
    go_ret
    exact ⟨ret_bool (by rw [hbb.out]; simp), (M3.drewN _).new⟩
  · have e2z : e2 = 2 := by rw [← HE2.out, wHead, if_neg c5]; rfl
    subst e2z
    clear c5 HE2
    go_enter Try.func4, Try.ntmps4
    go_wp2_with fail
    refine (jawake _).mono ?_
    rintro e w1 ⟨rfl, hm⟩
    have HH := Lib.hid (hm.row (k := w.heap.size) HH.out (fun e => e))
    have HK := Lib.hid (hm.row (k := w.heap.size + 1) HK.out (fun e => e))
    have M1 := M0.trans hm
    have ch0 : w1.cell? ⟨w.heap.size, 0, none⟩ = some (.int .u32 s) := (cell_of_row _ _ 0 _ _ _ HH.out).trans rfl
    have ch1 : w1.cell? ⟨w.heap.size, 1, none⟩ = some (.int .i64 st) := (cell_of_row _ _ 1 _ _ _ HH.out).trans rfl
    clear hm M0
    go_wp2_with fail
    refine (jwhead s st _ (by omega) (by omega)).mono ?_
    rintro e w2 ⟨rfl, hm⟩
    rw [R1.out]
    obtain ⟨n2, m2⟩ := put_new w2 b1
    have hm := hm.trans m2
    have HH := Lib.hid (hm.row (k := w.heap.size) HH.out (fun e => e))
    have HK := Lib.hid (hm.row (k := w.heap.size + 1) HK.out (fun e => e))
    have HN2 := Lib.hid n2
    have HO2 := Lib.hid (heap_alloc_new w2 (.cells (encB Z256) 28))
    have M2 := M1.trans hm
    clear M1 hm m2 n2 ch0 ch1
    have ck0 := (cell_of_row _ _ 0 _ _ _ HK.out).trans (show _ = some (.int .u32 s2) from rfl)
    have ck1 := (cell_of_row _ _ 1 _ _ _ HK.out).trans (show _ = some (.int .i64 st2) from rfl)
    go_wp2_with (first | (with_reducible refine wpList_allocB' blkT ?_) | ((with_reducible refine wpList_storeB' blkT ?_ ?_ l1 Z256_len HO2.out ?_); rfl; rfl))
    refine (jwhead s2 st2 _ (by omega) (by omega)).mono ?_
    rintro e w3 ⟨rfl, hm⟩
    rw [R2.out]
    obtain ⟨n3, m3⟩ := put_new w3 b2
    have hm := hm.trans m3
    have HH := Lib.hid (hm.row (k := w.heap.size) HH.out (fun e => e))
    have HK := Lib.hid (hm.row (k := w.heap.size + 1) HK.out (fun e => e))
    have HN2 := Lib.hid (hm.row (k := w2.heap.size) HN2.out (fun e => e))
    have HN3 := Lib.hid n3
    have HO3 := Lib.hid (heap_alloc_new w3 (.cells (encB Z256) 28))
    have M3 := M2.trans hm
    clear M2 hm m3 n3 ck0 ck1
    have ch0 := (cell_of_row _ _ 0 _ _ _ HH.out).trans (show _ = some (.int .u32 s) from rfl)
    have ch1 := (cell_of_row _ _ 1 _ _ _ HH.out).trans (show _ = some (.int .i64 st) from rfl)
    have ck0 := (cell_of_row _ _ 0 _ _ _ HK.out).trans (show _ = some (.int .u32 s2) from rfl)
    have ck1 := (cell_of_row _ _ 1 _ _ _ HK.out).trans (show _ = some (.int .i64 st2) from rfl)
    go_wp2_with (first | (with_reducible refine wpList_allocB' blkT ?_) | ((with_reducible refine wpList_storeB' blkT ?_ ?_ l2 Z256_len HO3.out ?_); rfl; rfl))
    go_quiet (fail)
    go_wp2
    go_ret
    exact ⟨rfl, (M3.drewN _).new⟩

set_option maxRecDepth 100000 in
theorem lifted (os : Os) (started : os.Started) (H : Type) (enc : TypeId × Value → H) :
    ReturnsInHanded {} Try.checked os 4 .any (Rows.jblockHeadsSpec.pre6 enc Try.prog Try.f4 Rows.jblockHeadsRow.domain false) (Rows.jblockHeadsSpec.post enc Try.prog Try.f4 false true false false) := by
  refine law_lift (C := Try.checked) own started (by kernel_rfl) Try.func4 laidOut rfl Try.underlying4 rfl ?hs (by kernel_rfl)
    (ChangeSpec.witness6 (enc := enc) (C := Try.checked) false ⟨#[], #[.agg #[.int .u32 0, .int .i64 0], .agg #[.int .u32 0, .int .i64 0]], []⟩ 8 (by kernel_rfl) (by kernel_rfl) (by kernel_rfl) (by kernel_rfl)) ?hwalk
  case hs =>
    intro ds h
    match ds, h with
    | [d0, d1], _ => rfl
  case hwalk =>
    intro W args hn ha
    obtain ⟨l⟩ := args
    match l, hn with
    | [v0, v1], _ =>
      obtain ⟨s, st, rfl, s0, s1⟩ := head_arg (ha 0 _ _ rfl rfl)
      obtain ⟨s2, st2, rfl, t0, t1⟩ := head_arg (ha 1 _ _ rfl rfl)
      exact walk s st s2 st2 W s0 s1 t0 t1

theorem over : Rows.jblockHeadsRow.holds Try.pinned (OpenSpec.ofChange Rows.jblockHeadsSpec) :=
  OpenClaim.holds_of_wide 4 Try.f4 rfl rfl rfl rfl rfl rfl rfl ⟨rfl, rfl, rfl, rfl, rfl⟩ rfl rfl rfl rfl rfl (by kernel_rfl) Try.func4 (by kernel_rfl)
    (of_decide_eq_true (by kernel_rfl)) (by unfold Func.isWrapper; first | (rw [if_pos (by decide +kernel)]; kernel_rfl) | (rw [if_neg (by decide +kernel)]; exact ⟨rfl, rfl⟩))
    (fun os started H enc _ => lifted os started H enc)

theorem proved : Rows.JblockHeadsSaid := over
#print axioms proved
end Go.Proofs.Ytckadanghhibhaa.jblockHeads
