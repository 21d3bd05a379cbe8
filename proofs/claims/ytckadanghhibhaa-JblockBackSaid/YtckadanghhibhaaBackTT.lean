/- What was written is read: heads True, tags True. -/
import Derived.Test.YtckadanghhibhaaBack
namespace Go.Proofs.Ytckadanghhibhaa.jblockBack
open Go.RowKit Go.ChangeShapes Go.WideShapes Go.ChangeAt

set_option maxRecDepth 100000 in
set_option maxHeartbeats 20000000 in
theorem walk_TTTT (s t c x : Int) (a a2 : Option Addr) (n n2 cap cap2 : Nat) (l : List (Int × Bool)) (m : List Int) (w : World) (s0 : 0 ≤ s) (s1 : s < 4294967296) (x0 : 0 ≤ x) (x1 : x < 4294967296) (hT : TagsAt w a n l) (hN : NumsAt w a2 n2 m) (hn : n ≤ 1000) (hn2 : n2 ≤ 1000) (b1 : List UInt8) (hw1 : wHead s t = some b1) (b2 : List UInt8) (hw2 : wDesc s l = some b2) (b3 : List UInt8) (hw3 : wRevoke s m = some b3) (b4 : List UInt8) (hw4 : wCommit s c x = some b4) :
    Calls Try.prog 9 #[.agg #[.int .u32 s, .int .i64 t], .slice a n cap, .slice a2 n2 cap2, .int .i64 c, .int .u32 x] w fun e w' => e = .returned (.bool true) ∧ Below w.heap.size w w' := by
  have l1 : b1.length = 256 := by have h := wHead_len s t; rw [hw1] at h; exact h
  have RA1 := as_head hw1 ⟨s0, s1⟩
  have E1 : Hid (resB (wHead s t) = .tuple #[.agg (encB b1), .int .i64 0]) := by show _ = _; rw [hw1]; rfl
  have l2 : b2.length = 256 := by have h := wDesc_len s l; rw [hw2] at h; exact h
  have RA2 := as_desc hw2 ⟨s0, s1⟩ hT.2.1
  have E2 : Hid (resB (wDesc s l) = .tuple #[.agg (encB b2), .int .i64 0]) := by show _ = _; rw [hw2]; rfl
  have l3 : b3.length = 256 := by have h := wRevoke_len s m; rw [hw3] at h; exact h
  have RA3 := as_revoke hw3 ⟨s0, s1⟩ hN.2.1
  have E3 : Hid (resB (wRevoke s m) = .tuple #[.agg (encB b3), .int .i64 0]) := by show _ = _; rw [hw3]; rfl
  have l4 : b4.length = 256 := by have h := wCommit_len s c x; rw [hw4] at h; exact h
  have RA4 := as_commit hw4 ⟨s0, s1⟩ ⟨x0, x1⟩
  have E4 : Hid (resB (wCommit s c x) = .tuple #[.agg (encB b4), .int .i64 0]) := by show _ = _; rw [hw4]; rfl
  have EH : Hid (resRH (rHead b1) = .tuple #[.agg #[.int .u32 s, .int .i64 t], .int .i64 0]) := by show _ = _; rw [RA1.head]; rfl
  have ED := Lib.hid RA2.desc
  have ER := Lib.hid RA3.rev
  have EC : Hid (resRC (rCommit b4) = .tuple #[.int .u32 s, .int .i64 c, .int .u32 x, .int .i64 0]) := by show _ = _; rw [RA4.com]; rfl
  have HRA1 := Lib.hid RA1
  have HRA2 := Lib.hid RA2
  have HRA3 := Lib.hid RA3
  have HRA4 := Lib.hid RA4
  have HTT := Lib.hid hT
  have HNN := Lib.hid hN
  have HnL : Hid (n = l.length) := hT.1
  have HnM : Hid (n2 = m.length) := hN.1
  clear hw1 hw2 hw3 hw4 RA1 RA2 RA3 RA4 hT hN
  have hI : (n : Int) ≤ 1000 := by omega
  have hI2 : (n2 : Int) ≤ 1000 := by omega
  have HH := Lib.hid (heap_alloc_new w (.cells #[.int .u32 s, .int .i64 t] 24))
  have M0 : Mod none' w (w.alloc (.cells #[.int .u32 s, .int .i64 t] 24)) := (Mod.refl _ _).alloc _
  go_enter Try.func9, Try.ntmps9
  go_wp2_with fail
  refine (jawake _).mono ?_
  rintro e w1 ⟨rfl, hm⟩
  replace HH := Lib.hid (hm.row (k := w.heap.size) HH.out (fun e => e))
  have M1 := M0.trans hm
  clear hm M0
  have h0 := (cell_of_row _ _ 0 _ _ _ HH.out).trans (show _ = some (.int .u32 s) from rfl)
  have h1 := (cell_of_row _ _ 1 _ _ _ HH.out).trans (show _ = some (.int .i64 t) from rfl)
  go_wp2_with fail
  refine (jwhead s t _ s0 s1).mono ?_
  rintro e w2 ⟨rfl, hm⟩
  rw [E1.out]
  clear h0 h1
  obtain ⟨n1, m1⟩ := put_new w2 b1
  replace hm := hm.trans m1
  clear m1
  replace HH := Lib.hid (hm.row (k := w.heap.size) HH.out (fun e => e))
  have M2 := M1.trans hm
  clear hm M1
  have HB1 := Lib.hid n1
  clear n1
  have HO := Lib.hid (heap_alloc_new w2 (.cells (encB Z256) 28))
  have h0 := (cell_of_row _ _ 0 _ _ _ HH.out).trans (show _ = some (.int .u32 s) from rfl)
  have h1 := (cell_of_row _ _ 1 _ _ _ HH.out).trans (show _ = some (.int .i64 t) from rfl)
  go_wp2_with (first | ((with_reducible refine wpList_storeB' blkT ?_ ?_ l1 Z256_len HO.out ?_); rfl; rfl) | (with_reducible refine wpList_allocB' blkT ?_))
  clear h0 h1
  clear HO
  refine (jwdesc a n cap l s _ (HTT.out.mod M2) (by omega) s0 s1).mono ?_
  rintro e w3 ⟨rfl, hm⟩
  rw [E2.out]
  obtain ⟨n2, m2⟩ := put_new w3 b2
  replace hm := hm.trans m2
  clear m2
  replace HH := Lib.hid (hm.row (k := w.heap.size) HH.out (fun e => e))
  replace HB1 := Lib.hid (hm.row (k := w2.heap.size) HB1.out (fun e => e))
  have M3 := M2.trans hm
  clear hm M2
  have HB2 := Lib.hid n2
  clear n2
  have HO := Lib.hid (heap_alloc_new w3 (.cells (encB Z256) 28))
  have h0 := (cell_of_row _ _ 0 _ _ _ HH.out).trans (show _ = some (.int .u32 s) from rfl)
  have h1 := (cell_of_row _ _ 1 _ _ _ HH.out).trans (show _ = some (.int .i64 t) from rfl)
  go_wp2_with (first | ((with_reducible refine wpList_storeB' blkT ?_ ?_ l2 Z256_len HO.out ?_); rfl; rfl) | (with_reducible refine wpList_allocB' blkT ?_))
  clear h0 h1
  clear HO
  refine (jwrevoke a2 n2 cap2 m s _ (HNN.out.mod M3) (by omega) s0 s1).mono ?_
  rintro e w4 ⟨rfl, hm⟩
  rw [E3.out]
  obtain ⟨n3, m3⟩ := put_new w4 b3
  replace hm := hm.trans m3
  clear m3
  replace HH := Lib.hid (hm.row (k := w.heap.size) HH.out (fun e => e))
  replace HB1 := Lib.hid (hm.row (k := w2.heap.size) HB1.out (fun e => e))
  replace HB2 := Lib.hid (hm.row (k := w3.heap.size) HB2.out (fun e => e))
  have M4 := M3.trans hm
  clear hm M3
  have HB3 := Lib.hid n3
  clear n3
  have HO := Lib.hid (heap_alloc_new w4 (.cells (encB Z256) 28))
  have h0 := (cell_of_row _ _ 0 _ _ _ HH.out).trans (show _ = some (.int .u32 s) from rfl)
  have h1 := (cell_of_row _ _ 1 _ _ _ HH.out).trans (show _ = some (.int .i64 t) from rfl)
  go_wp2_with (first | ((with_reducible refine wpList_storeB' blkT ?_ ?_ l3 Z256_len HO.out ?_); rfl; rfl) | (with_reducible refine wpList_allocB' blkT ?_))
  clear h0 h1
  clear HO
  refine (jwcommit s c x _ s0 s1 x0 x1).mono ?_
  rintro e w5 ⟨rfl, hm⟩
  rw [E4.out]
  obtain ⟨n4, m4⟩ := put_new w5 b4
  replace hm := hm.trans m4
  clear m4
  replace HH := Lib.hid (hm.row (k := w.heap.size) HH.out (fun e => e))
  replace HB1 := Lib.hid (hm.row (k := w2.heap.size) HB1.out (fun e => e))
  replace HB2 := Lib.hid (hm.row (k := w3.heap.size) HB2.out (fun e => e))
  replace HB3 := Lib.hid (hm.row (k := w4.heap.size) HB3.out (fun e => e))
  have M5 := M4.trans hm
  clear hm M4
  have HB4 := Lib.hid n4
  clear n4
  have HO := Lib.hid (heap_alloc_new w5 (.cells (encB Z256) 28))
  have h0 := (cell_of_row _ _ 0 _ _ _ HH.out).trans (show _ = some (.int .u32 s) from rfl)
  have h1 := (cell_of_row _ _ 1 _ _ _ HH.out).trans (show _ = some (.int .i64 t) from rfl)
  go_wp2_with (first | ((with_reducible refine wpList_storeB' blkT ?_ ?_ l4 Z256_len HO.out ?_); rfl; rfl) | (with_reducible refine wpList_allocB' blkT ?_) | ((with_reducible refine wpList_loadBg blkT ?_ ?_ l1 HB1.out ?_); rfl; rfl))
  clear h0 h1
  clear HO
  refine (jrhead b1 l1 _).mono ?_
  rintro e w6 ⟨rfl, hm⟩
  rw [EH.out]
  replace hm := hm.alloc (.cells #[.int .u32 s, .int .i64 t] 24)
  replace HH := Lib.hid (hm.row (k := w.heap.size) HH.out (fun e => e))
  replace HB1 := Lib.hid (hm.row (k := w2.heap.size) HB1.out (fun e => e))
  replace HB2 := Lib.hid (hm.row (k := w3.heap.size) HB2.out (fun e => e))
  replace HB3 := Lib.hid (hm.row (k := w4.heap.size) HB3.out (fun e => e))
  replace HB4 := Lib.hid (hm.row (k := w5.heap.size) HB4.out (fun e => e))
  have M6 := M5.trans hm
  clear hm M5
  have HX := Lib.hid (heap_alloc_new w6 (.cells #[.int .u32 s, .int .i64 t] 24))
  go_wp2_with (first | ((with_reducible refine wpList_loadBg blkT ?_ ?_ l2 HB2.out ?_); rfl; rfl))
  refine (jrdesc b2 l2 _).mono ?_
  rintro e w7 ⟨hg, hm⟩
  rw [ED.out] at hg
  obtain ⟨LT, hLT, hrow, rfl⟩ := hg
  have HLT := Lib.hid hrow
  clear hrow hLT
  replace HH := Lib.hid (hm.row (k := w.heap.size) HH.out (fun e => e))
  replace HB1 := Lib.hid (hm.row (k := w2.heap.size) HB1.out (fun e => e))
  replace HB2 := Lib.hid (hm.row (k := w3.heap.size) HB2.out (fun e => e))
  replace HB3 := Lib.hid (hm.row (k := w4.heap.size) HB3.out (fun e => e))
  replace HB4 := Lib.hid (hm.row (k := w5.heap.size) HB4.out (fun e => e))
  replace HX := Lib.hid (hm.row (k := w6.heap.size) HX.out (fun e => e))
  have M7 := M6.trans hm
  clear hm M6
  go_wp2_with (first | ((with_reducible refine wpList_loadBg blkT ?_ ?_ l3 HB3.out ?_); rfl; rfl))
  refine (jrrevoke b3 l3 _).mono ?_
  rintro e w8 ⟨hg, hm⟩
  rw [ER.out] at hg
  obtain ⟨LN, hLN, hrow, rfl⟩ := hg
  have HLN := Lib.hid hrow
  clear hrow hLN
  replace HH := Lib.hid (hm.row (k := w.heap.size) HH.out (fun e => e))
  replace HB1 := Lib.hid (hm.row (k := w2.heap.size) HB1.out (fun e => e))
  replace HB2 := Lib.hid (hm.row (k := w3.heap.size) HB2.out (fun e => e))
  replace HB3 := Lib.hid (hm.row (k := w4.heap.size) HB3.out (fun e => e))
  replace HB4 := Lib.hid (hm.row (k := w5.heap.size) HB4.out (fun e => e))
  replace HX := Lib.hid (hm.row (k := w6.heap.size) HX.out (fun e => e))
  replace HLT := Lib.hid (hm.row (k := LT) HLT.out (fun e => e))
  have M8 := M7.trans hm
  clear hm M7
  go_wp2_with (first | ((with_reducible refine wpList_loadBg blkT ?_ ?_ l4 HB4.out ?_); rfl; rfl))
  refine (jrcommit b4 l4 _).mono ?_
  rintro e w9 ⟨rfl, hm⟩
  rw [EC.out]
  replace HH := Lib.hid (hm.row (k := w.heap.size) HH.out (fun e => e))
  replace HB1 := Lib.hid (hm.row (k := w2.heap.size) HB1.out (fun e => e))
  replace HB2 := Lib.hid (hm.row (k := w3.heap.size) HB2.out (fun e => e))
  replace HB3 := Lib.hid (hm.row (k := w4.heap.size) HB3.out (fun e => e))
  replace HB4 := Lib.hid (hm.row (k := w5.heap.size) HB4.out (fun e => e))
  replace HX := Lib.hid (hm.row (k := w6.heap.size) HX.out (fun e => e))
  replace HLT := Lib.hid (hm.row (k := LT) HLT.out (fun e => e))
  replace HLN := Lib.hid (hm.row (k := LN) HLN.out (fun e => e))
  have M9 := M8.trans hm
  clear hm M8
  have h0 := (cell_of_row _ _ 0 _ _ _ HH.out).trans (show _ = some (.int .u32 s) from rfl)
  have h1 := (cell_of_row _ _ 1 _ _ _ HH.out).trans (show _ = some (.int .i64 t) from rfl)
  have y0 := (cell_of_row _ _ 0 _ _ _ HX.out).trans (show _ = some (.int .u32 s) from rfl)
  have y1 := (cell_of_row _ _ 1 _ _ _ HX.out).trans (show _ = some (.int .i64 t) from rfl)
  go_wp2_with (first | ((with_reducible refine wpList_cmp ?_ ?_ ?_ (head_guard _ _ _ _ _) (head_neq_same s t) ?_); rfl; rfl; rfl) | ((with_reducible refine wpList_loadBg blkT ?_ ?_ l1 HB1.out ?_); rfl; rfl))
  clear h0 h1
  clear y0 y1
  refine (rsameT (some ⟨LT, 0, none⟩) a l.length n l.length cap l l _ (tagsAt_row HLT.out HTT.out.2.1) (HTT.out.mod M9) (by have := HnL.out; omega)).mono ?_
  rintro e w10 ⟨rfl, hm⟩
  rw [show (l == l) = true by simp]
  replace HH := Lib.hid (hm.row (k := w.heap.size) HH.out (fun e => e))
  replace HB1 := Lib.hid (hm.row (k := w2.heap.size) HB1.out (fun e => e))
  replace HB2 := Lib.hid (hm.row (k := w3.heap.size) HB2.out (fun e => e))
  replace HB3 := Lib.hid (hm.row (k := w4.heap.size) HB3.out (fun e => e))
  replace HB4 := Lib.hid (hm.row (k := w5.heap.size) HB4.out (fun e => e))
  replace HX := Lib.hid (hm.row (k := w6.heap.size) HX.out (fun e => e))
  replace HLT := Lib.hid (hm.row (k := LT) HLT.out (fun e => e))
  replace HLN := Lib.hid (hm.row (k := LN) HLN.out (fun e => e))
  have M10 := M9.trans hm
  clear hm M9
  have h0 := (cell_of_row _ _ 0 _ _ _ HH.out).trans (show _ = some (.int .u32 s) from rfl)
  have h1 := (cell_of_row _ _ 1 _ _ _ HH.out).trans (show _ = some (.int .i64 t) from rfl)
  have y0 := (cell_of_row _ _ 0 _ _ _ HX.out).trans (show _ = some (.int .u32 s) from rfl)
  have y1 := (cell_of_row _ _ 1 _ _ _ HX.out).trans (show _ = some (.int .i64 t) from rfl)
  go_wp2_with (first | ((with_reducible refine wpList_cmp ?_ ?_ ?_ (head_guard _ _ _ _ _) (head_neq_same s t) ?_); rfl; rfl; rfl) | ((with_reducible refine wpList_loadBg blkT ?_ ?_ l1 HB1.out ?_); rfl; rfl))
  clear h0 h1
  clear y0 y1
  refine (rsameN (some ⟨LN, 0, none⟩) a2 m.length n2 m.length cap2 m m _ (numsAt_row HLN.out HNN.out.2.1) (HNN.out.mod M10) (by have := HnM.out; omega)).mono ?_
  rintro e w11 ⟨rfl, hm⟩
  rw [show (m == m) = true by simp]
  replace HH := Lib.hid (hm.row (k := w.heap.size) HH.out (fun e => e))
  replace HB1 := Lib.hid (hm.row (k := w2.heap.size) HB1.out (fun e => e))
  replace HB2 := Lib.hid (hm.row (k := w3.heap.size) HB2.out (fun e => e))
  replace HB3 := Lib.hid (hm.row (k := w4.heap.size) HB3.out (fun e => e))
  replace HB4 := Lib.hid (hm.row (k := w5.heap.size) HB4.out (fun e => e))
  replace HX := Lib.hid (hm.row (k := w6.heap.size) HX.out (fun e => e))
  replace HLT := Lib.hid (hm.row (k := LT) HLT.out (fun e => e))
  replace HLN := Lib.hid (hm.row (k := LN) HLN.out (fun e => e))
  have M11 := M10.trans hm
  clear hm M10
  have h0 := (cell_of_row _ _ 0 _ _ _ HH.out).trans (show _ = some (.int .u32 s) from rfl)
  have h1 := (cell_of_row _ _ 1 _ _ _ HH.out).trans (show _ = some (.int .i64 t) from rfl)
  have y0 := (cell_of_row _ _ 0 _ _ _ HX.out).trans (show _ = some (.int .u32 s) from rfl)
  have y1 := (cell_of_row _ _ 1 _ _ _ HX.out).trans (show _ = some (.int .i64 t) from rfl)
  go_wp2_with (first | ((with_reducible refine wpList_cmp ?_ ?_ ?_ (head_guard _ _ _ _ _) (head_neq_same s t) ?_); rfl; rfl; rfl) | ((with_reducible refine wpList_loadBg blkT ?_ ?_ l1 HB1.out ?_); rfl; rfl))
  clear h0 h1
  clear y0 y1
  refine (jone_head b1 l1 _ s t HRA1.out).mono ?_
  rintro e w12 ⟨rfl, hm⟩
  replace HH := Lib.hid (hm.row (k := w.heap.size) HH.out (fun e => e))
  replace HB1 := Lib.hid (hm.row (k := w2.heap.size) HB1.out (fun e => e))
  replace HB2 := Lib.hid (hm.row (k := w3.heap.size) HB2.out (fun e => e))
  replace HB3 := Lib.hid (hm.row (k := w4.heap.size) HB3.out (fun e => e))
  replace HB4 := Lib.hid (hm.row (k := w5.heap.size) HB4.out (fun e => e))
  replace HX := Lib.hid (hm.row (k := w6.heap.size) HX.out (fun e => e))
  replace HLT := Lib.hid (hm.row (k := LT) HLT.out (fun e => e))
  replace HLN := Lib.hid (hm.row (k := LN) HLN.out (fun e => e))
  have M12 := M11.trans hm
  clear hm M11
  go_wp2_with (first | ((with_reducible refine wpList_loadBg blkT ?_ ?_ l2 HB2.out ?_); rfl; rfl))
  refine (jone_desc b2 l2 _ s l HRA2.out).mono ?_
  rintro e w13 ⟨rfl, hm⟩
  replace HH := Lib.hid (hm.row (k := w.heap.size) HH.out (fun e => e))
  replace HB1 := Lib.hid (hm.row (k := w2.heap.size) HB1.out (fun e => e))
  replace HB2 := Lib.hid (hm.row (k := w3.heap.size) HB2.out (fun e => e))
  replace HB3 := Lib.hid (hm.row (k := w4.heap.size) HB3.out (fun e => e))
  replace HB4 := Lib.hid (hm.row (k := w5.heap.size) HB4.out (fun e => e))
  replace HX := Lib.hid (hm.row (k := w6.heap.size) HX.out (fun e => e))
  replace HLT := Lib.hid (hm.row (k := LT) HLT.out (fun e => e))
  replace HLN := Lib.hid (hm.row (k := LN) HLN.out (fun e => e))
  have M13 := M12.trans hm
  clear hm M12
  go_wp2_with (first | ((with_reducible refine wpList_loadBg blkT ?_ ?_ l3 HB3.out ?_); rfl; rfl))
  refine (jone_revoke b3 l3 _ s m HRA3.out).mono ?_
  rintro e w14 ⟨rfl, hm⟩
  replace HH := Lib.hid (hm.row (k := w.heap.size) HH.out (fun e => e))
  replace HB1 := Lib.hid (hm.row (k := w2.heap.size) HB1.out (fun e => e))
  replace HB2 := Lib.hid (hm.row (k := w3.heap.size) HB2.out (fun e => e))
  replace HB3 := Lib.hid (hm.row (k := w4.heap.size) HB3.out (fun e => e))
  replace HB4 := Lib.hid (hm.row (k := w5.heap.size) HB4.out (fun e => e))
  replace HX := Lib.hid (hm.row (k := w6.heap.size) HX.out (fun e => e))
  replace HLT := Lib.hid (hm.row (k := LT) HLT.out (fun e => e))
  replace HLN := Lib.hid (hm.row (k := LN) HLN.out (fun e => e))
  have M14 := M13.trans hm
  clear hm M13
  go_wp2_with (first | ((with_reducible refine wpList_loadBg blkT ?_ ?_ l4 HB4.out ?_); rfl; rfl))
  refine (jone_commit b4 l4 _ s c x HRA4.out).mono ?_
  rintro e w15 ⟨rfl, hm⟩
  replace HH := Lib.hid (hm.row (k := w.heap.size) HH.out (fun e => e))
  replace HB1 := Lib.hid (hm.row (k := w2.heap.size) HB1.out (fun e => e))
  replace HB2 := Lib.hid (hm.row (k := w3.heap.size) HB2.out (fun e => e))
  replace HB3 := Lib.hid (hm.row (k := w4.heap.size) HB3.out (fun e => e))
  replace HB4 := Lib.hid (hm.row (k := w5.heap.size) HB4.out (fun e => e))
  replace HX := Lib.hid (hm.row (k := w6.heap.size) HX.out (fun e => e))
  replace HLT := Lib.hid (hm.row (k := LT) HLT.out (fun e => e))
  replace HLN := Lib.hid (hm.row (k := LN) HLN.out (fun e => e))
  have M15 := M14.trans hm
  clear hm M14
  go_wp2
  go_ret
  exact ⟨rfl, M15.new⟩

set_option maxRecDepth 100000 in
set_option maxHeartbeats 20000000 in
theorem walk_TTTF (s t c x : Int) (a a2 : Option Addr) (n n2 cap cap2 : Nat) (l : List (Int × Bool)) (m : List Int) (w : World) (s0 : 0 ≤ s) (s1 : s < 4294967296) (x0 : 0 ≤ x) (x1 : x < 4294967296) (hT : TagsAt w a n l) (hN : NumsAt w a2 n2 m) (hn : n ≤ 1000) (hn2 : n2 ≤ 1000) (b1 : List UInt8) (hw1 : wHead s t = some b1) (b2 : List UInt8) (hw2 : wDesc s l = some b2) (b3 : List UInt8) (hw3 : wRevoke s m = some b3) (hw4 : wCommit s c x = none) :
    Calls Try.prog 9 #[.agg #[.int .u32 s, .int .i64 t], .slice a n cap, .slice a2 n2 cap2, .int .i64 c, .int .u32 x] w fun e w' => e = .returned (.bool true) ∧ Below w.heap.size w w' := by
  have l1 : b1.length = 256 := by have h := wHead_len s t; rw [hw1] at h; exact h
  have RA1 := as_head hw1 ⟨s0, s1⟩
  have E1 : Hid (resB (wHead s t) = .tuple #[.agg (encB b1), .int .i64 0]) := by show _ = _; rw [hw1]; rfl
  have l2 : b2.length = 256 := by have h := wDesc_len s l; rw [hw2] at h; exact h
  have RA2 := as_desc hw2 ⟨s0, s1⟩ hT.2.1
  have E2 : Hid (resB (wDesc s l) = .tuple #[.agg (encB b2), .int .i64 0]) := by show _ = _; rw [hw2]; rfl
  have l3 : b3.length = 256 := by have h := wRevoke_len s m; rw [hw3] at h; exact h
  have RA3 := as_revoke hw3 ⟨s0, s1⟩ hN.2.1
  have E3 : Hid (resB (wRevoke s m) = .tuple #[.agg (encB b3), .int .i64 0]) := by show _ = _; rw [hw3]; rfl
  have RA4 := as_none
  have E4 : Hid (resB (wCommit s c x) = .tuple #[.agg (encB Z256), .int .i64 2]) := by show _ = _; rw [hw4]; rfl
  have EH : Hid (resRH (rHead b1) = .tuple #[.agg #[.int .u32 s, .int .i64 t], .int .i64 0]) := by show _ = _; rw [RA1.head]; rfl
  have ED := Lib.hid RA2.desc
  have ER := Lib.hid RA3.rev
  have EC : Hid (resRC (rCommit Z256) = .tuple #[.int .u32 0, .int .i64 0, .int .u32 0, .int .i64 90]) := by show _ = _; rw [RA4.com]; rfl
  have HRA1 := Lib.hid RA1
  have HRA2 := Lib.hid RA2
  have HRA3 := Lib.hid RA3
  have HRA4 := Lib.hid RA4
  have HTT := Lib.hid hT
  have HNN := Lib.hid hN
  have HnL : Hid (n = l.length) := hT.1
  have HnM : Hid (n2 = m.length) := hN.1
  clear hw1 hw2 hw3 hw4 RA1 RA2 RA3 RA4 hT hN
  have hI : (n : Int) ≤ 1000 := by omega
  have hI2 : (n2 : Int) ≤ 1000 := by omega
  have HH := Lib.hid (heap_alloc_new w (.cells #[.int .u32 s, .int .i64 t] 24))
  have M0 : Mod none' w (w.alloc (.cells #[.int .u32 s, .int .i64 t] 24)) := (Mod.refl _ _).alloc _
  go_enter Try.func9, Try.ntmps9
  go_wp2_with fail
  refine (jawake _).mono ?_
  rintro e w1 ⟨rfl, hm⟩
  replace HH := Lib.hid (hm.row (k := w.heap.size) HH.out (fun e => e))
  have M1 := M0.trans hm
  clear hm M0
  have h0 := (cell_of_row _ _ 0 _ _ _ HH.out).trans (show _ = some (.int .u32 s) from rfl)
  have h1 := (cell_of_row _ _ 1 _ _ _ HH.out).trans (show _ = some (.int .i64 t) from rfl)
  go_wp2_with fail
  refine (jwhead s t _ s0 s1).mono ?_
  rintro e w2 ⟨rfl, hm⟩
  rw [E1.out]
  clear h0 h1
  obtain ⟨n1, m1⟩ := put_new w2 b1
  replace hm := hm.trans m1
  clear m1
  replace HH := Lib.hid (hm.row (k := w.heap.size) HH.out (fun e => e))
  have M2 := M1.trans hm
  clear hm M1
  have HB1 := Lib.hid n1
  clear n1
  have HO := Lib.hid (heap_alloc_new w2 (.cells (encB Z256) 28))
  have h0 := (cell_of_row _ _ 0 _ _ _ HH.out).trans (show _ = some (.int .u32 s) from rfl)
  have h1 := (cell_of_row _ _ 1 _ _ _ HH.out).trans (show _ = some (.int .i64 t) from rfl)
  go_wp2_with (first | ((with_reducible refine wpList_storeB' blkT ?_ ?_ l1 Z256_len HO.out ?_); rfl; rfl) | (with_reducible refine wpList_allocB' blkT ?_))
  clear h0 h1
  clear HO
  refine (jwdesc a n cap l s _ (HTT.out.mod M2) (by omega) s0 s1).mono ?_
  rintro e w3 ⟨rfl, hm⟩
  rw [E2.out]
  obtain ⟨n2, m2⟩ := put_new w3 b2
  replace hm := hm.trans m2
  clear m2
  replace HH := Lib.hid (hm.row (k := w.heap.size) HH.out (fun e => e))
  replace HB1 := Lib.hid (hm.row (k := w2.heap.size) HB1.out (fun e => e))
  have M3 := M2.trans hm
  clear hm M2
  have HB2 := Lib.hid n2
  clear n2
  have HO := Lib.hid (heap_alloc_new w3 (.cells (encB Z256) 28))
  have h0 := (cell_of_row _ _ 0 _ _ _ HH.out).trans (show _ = some (.int .u32 s) from rfl)
  have h1 := (cell_of_row _ _ 1 _ _ _ HH.out).trans (show _ = some (.int .i64 t) from rfl)
  go_wp2_with (first | ((with_reducible refine wpList_storeB' blkT ?_ ?_ l2 Z256_len HO.out ?_); rfl; rfl) | (with_reducible refine wpList_allocB' blkT ?_))
  clear h0 h1
  clear HO
  refine (jwrevoke a2 n2 cap2 m s _ (HNN.out.mod M3) (by omega) s0 s1).mono ?_
  rintro e w4 ⟨rfl, hm⟩
  rw [E3.out]
  obtain ⟨n3, m3⟩ := put_new w4 b3
  replace hm := hm.trans m3
  clear m3
  replace HH := Lib.hid (hm.row (k := w.heap.size) HH.out (fun e => e))
  replace HB1 := Lib.hid (hm.row (k := w2.heap.size) HB1.out (fun e => e))
  replace HB2 := Lib.hid (hm.row (k := w3.heap.size) HB2.out (fun e => e))
  have M4 := M3.trans hm
  clear hm M3
  have HB3 := Lib.hid n3
  clear n3
  have HO := Lib.hid (heap_alloc_new w4 (.cells (encB Z256) 28))
  have h0 := (cell_of_row _ _ 0 _ _ _ HH.out).trans (show _ = some (.int .u32 s) from rfl)
  have h1 := (cell_of_row _ _ 1 _ _ _ HH.out).trans (show _ = some (.int .i64 t) from rfl)
  go_wp2_with (first | ((with_reducible refine wpList_storeB' blkT ?_ ?_ l3 Z256_len HO.out ?_); rfl; rfl) | (with_reducible refine wpList_allocB' blkT ?_))
  clear h0 h1
  clear HO
  refine (jwcommit s c x _ s0 s1 x0 x1).mono ?_
  rintro e w5 ⟨rfl, hm⟩
  rw [E4.out]
  obtain ⟨n4, m4⟩ := put_new w5 Z256
  replace hm := hm.trans m4
  clear m4
  replace HH := Lib.hid (hm.row (k := w.heap.size) HH.out (fun e => e))
  replace HB1 := Lib.hid (hm.row (k := w2.heap.size) HB1.out (fun e => e))
  replace HB2 := Lib.hid (hm.row (k := w3.heap.size) HB2.out (fun e => e))
  replace HB3 := Lib.hid (hm.row (k := w4.heap.size) HB3.out (fun e => e))
  have M5 := M4.trans hm
  clear hm M4
  have HB4 := Lib.hid n4
  clear n4
  have HO := Lib.hid (heap_alloc_new w5 (.cells (encB Z256) 28))
  have h0 := (cell_of_row _ _ 0 _ _ _ HH.out).trans (show _ = some (.int .u32 s) from rfl)
  have h1 := (cell_of_row _ _ 1 _ _ _ HH.out).trans (show _ = some (.int .i64 t) from rfl)
  go_wp2_with (first | ((with_reducible refine wpList_storeB' blkT ?_ ?_ Z256_len Z256_len HO.out ?_); rfl; rfl) | (with_reducible refine wpList_allocB' blkT ?_) | ((with_reducible refine wpList_loadBg blkT ?_ ?_ l1 HB1.out ?_); rfl; rfl))
  clear h0 h1
  clear HO
  refine (jrhead b1 l1 _).mono ?_
  rintro e w6 ⟨rfl, hm⟩
  rw [EH.out]
  replace hm := hm.alloc (.cells #[.int .u32 s, .int .i64 t] 24)
  replace HH := Lib.hid (hm.row (k := w.heap.size) HH.out (fun e => e))
  replace HB1 := Lib.hid (hm.row (k := w2.heap.size) HB1.out (fun e => e))
  replace HB2 := Lib.hid (hm.row (k := w3.heap.size) HB2.out (fun e => e))
  replace HB3 := Lib.hid (hm.row (k := w4.heap.size) HB3.out (fun e => e))
  replace HB4 := Lib.hid (hm.row (k := w5.heap.size) HB4.out (fun e => e))
  have M6 := M5.trans hm
  clear hm M5
  have HX := Lib.hid (heap_alloc_new w6 (.cells #[.int .u32 s, .int .i64 t] 24))
  go_wp2_with (first | ((with_reducible refine wpList_loadBg blkT ?_ ?_ l2 HB2.out ?_); rfl; rfl))
  refine (jrdesc b2 l2 _).mono ?_
  rintro e w7 ⟨hg, hm⟩
  rw [ED.out] at hg
  obtain ⟨LT, hLT, hrow, rfl⟩ := hg
  have HLT := Lib.hid hrow
  clear hrow hLT
  replace HH := Lib.hid (hm.row (k := w.heap.size) HH.out (fun e => e))
  replace HB1 := Lib.hid (hm.row (k := w2.heap.size) HB1.out (fun e => e))
  replace HB2 := Lib.hid (hm.row (k := w3.heap.size) HB2.out (fun e => e))
  replace HB3 := Lib.hid (hm.row (k := w4.heap.size) HB3.out (fun e => e))
  replace HB4 := Lib.hid (hm.row (k := w5.heap.size) HB4.out (fun e => e))
  replace HX := Lib.hid (hm.row (k := w6.heap.size) HX.out (fun e => e))
  have M7 := M6.trans hm
  clear hm M6
  go_wp2_with (first | ((with_reducible refine wpList_loadBg blkT ?_ ?_ l3 HB3.out ?_); rfl; rfl))
  refine (jrrevoke b3 l3 _).mono ?_
  rintro e w8 ⟨hg, hm⟩
  rw [ER.out] at hg
  obtain ⟨LN, hLN, hrow, rfl⟩ := hg
  have HLN := Lib.hid hrow
  clear hrow hLN
  replace HH := Lib.hid (hm.row (k := w.heap.size) HH.out (fun e => e))
  replace HB1 := Lib.hid (hm.row (k := w2.heap.size) HB1.out (fun e => e))
  replace HB2 := Lib.hid (hm.row (k := w3.heap.size) HB2.out (fun e => e))
  replace HB3 := Lib.hid (hm.row (k := w4.heap.size) HB3.out (fun e => e))
  replace HB4 := Lib.hid (hm.row (k := w5.heap.size) HB4.out (fun e => e))
  replace HX := Lib.hid (hm.row (k := w6.heap.size) HX.out (fun e => e))
  replace HLT := Lib.hid (hm.row (k := LT) HLT.out (fun e => e))
  have M8 := M7.trans hm
  clear hm M7
  go_wp2_with (first | ((with_reducible refine wpList_loadBg blkT ?_ ?_ Z256_len HB4.out ?_); rfl; rfl))
  refine (jrcommit Z256 Z256_len _).mono ?_
  rintro e w9 ⟨rfl, hm⟩
  rw [EC.out]
  replace HH := Lib.hid (hm.row (k := w.heap.size) HH.out (fun e => e))
  replace HB1 := Lib.hid (hm.row (k := w2.heap.size) HB1.out (fun e => e))
  replace HB2 := Lib.hid (hm.row (k := w3.heap.size) HB2.out (fun e => e))
  replace HB3 := Lib.hid (hm.row (k := w4.heap.size) HB3.out (fun e => e))
  replace HB4 := Lib.hid (hm.row (k := w5.heap.size) HB4.out (fun e => e))
  replace HX := Lib.hid (hm.row (k := w6.heap.size) HX.out (fun e => e))
  replace HLT := Lib.hid (hm.row (k := LT) HLT.out (fun e => e))
  replace HLN := Lib.hid (hm.row (k := LN) HLN.out (fun e => e))
  have M9 := M8.trans hm
  clear hm M8
  have h0 := (cell_of_row _ _ 0 _ _ _ HH.out).trans (show _ = some (.int .u32 s) from rfl)
  have h1 := (cell_of_row _ _ 1 _ _ _ HH.out).trans (show _ = some (.int .i64 t) from rfl)
  have y0 := (cell_of_row _ _ 0 _ _ _ HX.out).trans (show _ = some (.int .u32 s) from rfl)
  have y1 := (cell_of_row _ _ 1 _ _ _ HX.out).trans (show _ = some (.int .i64 t) from rfl)
  go_wp2_with (first | ((with_reducible refine wpList_cmp ?_ ?_ ?_ (head_guard _ _ _ _ _) (head_neq_same s t) ?_); rfl; rfl; rfl) | ((with_reducible refine wpList_loadBg blkT ?_ ?_ l1 HB1.out ?_); rfl; rfl))
  clear h0 h1
  clear y0 y1
  refine (rsameT (some ⟨LT, 0, none⟩) a l.length n l.length cap l l _ (tagsAt_row HLT.out HTT.out.2.1) (HTT.out.mod M9) (by have := HnL.out; omega)).mono ?_
  rintro e w10 ⟨rfl, hm⟩
  rw [show (l == l) = true by simp]
  replace HH := Lib.hid (hm.row (k := w.heap.size) HH.out (fun e => e))
  replace HB1 := Lib.hid (hm.row (k := w2.heap.size) HB1.out (fun e => e))
  replace HB2 := Lib.hid (hm.row (k := w3.heap.size) HB2.out (fun e => e))
  replace HB3 := Lib.hid (hm.row (k := w4.heap.size) HB3.out (fun e => e))
  replace HB4 := Lib.hid (hm.row (k := w5.heap.size) HB4.out (fun e => e))
  replace HX := Lib.hid (hm.row (k := w6.heap.size) HX.out (fun e => e))
  replace HLT := Lib.hid (hm.row (k := LT) HLT.out (fun e => e))
  replace HLN := Lib.hid (hm.row (k := LN) HLN.out (fun e => e))
  have M10 := M9.trans hm
  clear hm M9
  have h0 := (cell_of_row _ _ 0 _ _ _ HH.out).trans (show _ = some (.int .u32 s) from rfl)
  have h1 := (cell_of_row _ _ 1 _ _ _ HH.out).trans (show _ = some (.int .i64 t) from rfl)
  have y0 := (cell_of_row _ _ 0 _ _ _ HX.out).trans (show _ = some (.int .u32 s) from rfl)
  have y1 := (cell_of_row _ _ 1 _ _ _ HX.out).trans (show _ = some (.int .i64 t) from rfl)
  go_wp2_with (first | ((with_reducible refine wpList_cmp ?_ ?_ ?_ (head_guard _ _ _ _ _) (head_neq_same s t) ?_); rfl; rfl; rfl) | ((with_reducible refine wpList_loadBg blkT ?_ ?_ l1 HB1.out ?_); rfl; rfl))
  clear h0 h1
  clear y0 y1
  refine (rsameN (some ⟨LN, 0, none⟩) a2 m.length n2 m.length cap2 m m _ (numsAt_row HLN.out HNN.out.2.1) (HNN.out.mod M10) (by have := HnM.out; omega)).mono ?_
  rintro e w11 ⟨rfl, hm⟩
  rw [show (m == m) = true by simp]
  replace HH := Lib.hid (hm.row (k := w.heap.size) HH.out (fun e => e))
  replace HB1 := Lib.hid (hm.row (k := w2.heap.size) HB1.out (fun e => e))
  replace HB2 := Lib.hid (hm.row (k := w3.heap.size) HB2.out (fun e => e))
  replace HB3 := Lib.hid (hm.row (k := w4.heap.size) HB3.out (fun e => e))
  replace HB4 := Lib.hid (hm.row (k := w5.heap.size) HB4.out (fun e => e))
  replace HX := Lib.hid (hm.row (k := w6.heap.size) HX.out (fun e => e))
  replace HLT := Lib.hid (hm.row (k := LT) HLT.out (fun e => e))
  replace HLN := Lib.hid (hm.row (k := LN) HLN.out (fun e => e))
  have M11 := M10.trans hm
  clear hm M10
  have h0 := (cell_of_row _ _ 0 _ _ _ HH.out).trans (show _ = some (.int .u32 s) from rfl)
  have h1 := (cell_of_row _ _ 1 _ _ _ HH.out).trans (show _ = some (.int .i64 t) from rfl)
  have y0 := (cell_of_row _ _ 0 _ _ _ HX.out).trans (show _ = some (.int .u32 s) from rfl)
  have y1 := (cell_of_row _ _ 1 _ _ _ HX.out).trans (show _ = some (.int .i64 t) from rfl)
  go_wp2_with (first | ((with_reducible refine wpList_cmp ?_ ?_ ?_ (head_guard _ _ _ _ _) (head_neq_same s t) ?_); rfl; rfl; rfl) | ((with_reducible refine wpList_loadBg blkT ?_ ?_ l1 HB1.out ?_); rfl; rfl))
  clear h0 h1
  clear y0 y1
  refine (jone_head b1 l1 _ s t HRA1.out).mono ?_
  rintro e w12 ⟨rfl, hm⟩
  replace HH := Lib.hid (hm.row (k := w.heap.size) HH.out (fun e => e))
  replace HB1 := Lib.hid (hm.row (k := w2.heap.size) HB1.out (fun e => e))
  replace HB2 := Lib.hid (hm.row (k := w3.heap.size) HB2.out (fun e => e))
  replace HB3 := Lib.hid (hm.row (k := w4.heap.size) HB3.out (fun e => e))
  replace HB4 := Lib.hid (hm.row (k := w5.heap.size) HB4.out (fun e => e))
  replace HX := Lib.hid (hm.row (k := w6.heap.size) HX.out (fun e => e))
  replace HLT := Lib.hid (hm.row (k := LT) HLT.out (fun e => e))
  replace HLN := Lib.hid (hm.row (k := LN) HLN.out (fun e => e))
  have M12 := M11.trans hm
  clear hm M11
  go_wp2_with (first | ((with_reducible refine wpList_loadBg blkT ?_ ?_ l2 HB2.out ?_); rfl; rfl))
  refine (jone_desc b2 l2 _ s l HRA2.out).mono ?_
  rintro e w13 ⟨rfl, hm⟩
  replace HH := Lib.hid (hm.row (k := w.heap.size) HH.out (fun e => e))
  replace HB1 := Lib.hid (hm.row (k := w2.heap.size) HB1.out (fun e => e))
  replace HB2 := Lib.hid (hm.row (k := w3.heap.size) HB2.out (fun e => e))
  replace HB3 := Lib.hid (hm.row (k := w4.heap.size) HB3.out (fun e => e))
  replace HB4 := Lib.hid (hm.row (k := w5.heap.size) HB4.out (fun e => e))
  replace HX := Lib.hid (hm.row (k := w6.heap.size) HX.out (fun e => e))
  replace HLT := Lib.hid (hm.row (k := LT) HLT.out (fun e => e))
  replace HLN := Lib.hid (hm.row (k := LN) HLN.out (fun e => e))
  have M13 := M12.trans hm
  clear hm M12
  go_wp2_with (first | ((with_reducible refine wpList_loadBg blkT ?_ ?_ l3 HB3.out ?_); rfl; rfl))
  refine (jone_revoke b3 l3 _ s m HRA3.out).mono ?_
  rintro e w14 ⟨rfl, hm⟩
  replace HH := Lib.hid (hm.row (k := w.heap.size) HH.out (fun e => e))
  replace HB1 := Lib.hid (hm.row (k := w2.heap.size) HB1.out (fun e => e))
  replace HB2 := Lib.hid (hm.row (k := w3.heap.size) HB2.out (fun e => e))
  replace HB3 := Lib.hid (hm.row (k := w4.heap.size) HB3.out (fun e => e))
  replace HB4 := Lib.hid (hm.row (k := w5.heap.size) HB4.out (fun e => e))
  replace HX := Lib.hid (hm.row (k := w6.heap.size) HX.out (fun e => e))
  replace HLT := Lib.hid (hm.row (k := LT) HLT.out (fun e => e))
  replace HLN := Lib.hid (hm.row (k := LN) HLN.out (fun e => e))
  have M14 := M13.trans hm
  clear hm M13
  go_wp2_with (first | ((with_reducible refine wpList_loadBg blkT ?_ ?_ Z256_len HB4.out ?_); rfl; rfl))
  refine (jone_none Z256 Z256_len _ 0 0 2 HRA4.out).mono ?_
  rintro e w15 ⟨rfl, hm⟩
  replace HH := Lib.hid (hm.row (k := w.heap.size) HH.out (fun e => e))
  replace HB1 := Lib.hid (hm.row (k := w2.heap.size) HB1.out (fun e => e))
  replace HB2 := Lib.hid (hm.row (k := w3.heap.size) HB2.out (fun e => e))
  replace HB3 := Lib.hid (hm.row (k := w4.heap.size) HB3.out (fun e => e))
  replace HB4 := Lib.hid (hm.row (k := w5.heap.size) HB4.out (fun e => e))
  replace HX := Lib.hid (hm.row (k := w6.heap.size) HX.out (fun e => e))
  replace HLT := Lib.hid (hm.row (k := LT) HLT.out (fun e => e))
  replace HLN := Lib.hid (hm.row (k := LN) HLN.out (fun e => e))
  have M15 := M14.trans hm
  clear hm M14
  go_wp2
  go_ret
  exact ⟨rfl, M15.new⟩

set_option maxRecDepth 100000 in
set_option maxHeartbeats 20000000 in
theorem walk_TTFT (s t c x : Int) (a a2 : Option Addr) (n n2 cap cap2 : Nat) (l : List (Int × Bool)) (m : List Int) (w : World) (s0 : 0 ≤ s) (s1 : s < 4294967296) (x0 : 0 ≤ x) (x1 : x < 4294967296) (hT : TagsAt w a n l) (hN : NumsAt w a2 n2 m) (hn : n ≤ 1000) (hn2 : n2 ≤ 1000) (b1 : List UInt8) (hw1 : wHead s t = some b1) (b2 : List UInt8) (hw2 : wDesc s l = some b2) (hw3 : wRevoke s m = none) (b4 : List UInt8) (hw4 : wCommit s c x = some b4) :
    Calls Try.prog 9 #[.agg #[.int .u32 s, .int .i64 t], .slice a n cap, .slice a2 n2 cap2, .int .i64 c, .int .u32 x] w fun e w' => e = .returned (.bool true) ∧ Below w.heap.size w w' := by
  have l1 : b1.length = 256 := by have h := wHead_len s t; rw [hw1] at h; exact h
  have RA1 := as_head hw1 ⟨s0, s1⟩
  have E1 : Hid (resB (wHead s t) = .tuple #[.agg (encB b1), .int .i64 0]) := by show _ = _; rw [hw1]; rfl
  have l2 : b2.length = 256 := by have h := wDesc_len s l; rw [hw2] at h; exact h
  have RA2 := as_desc hw2 ⟨s0, s1⟩ hT.2.1
  have E2 : Hid (resB (wDesc s l) = .tuple #[.agg (encB b2), .int .i64 0]) := by show _ = _; rw [hw2]; rfl
  have RA3 := as_none
  have E3 : Hid (resB (wRevoke s m) = .tuple #[.agg (encB Z256), .int .i64 2]) := by show _ = _; rw [hw3]; rfl
  have l4 : b4.length = 256 := by have h := wCommit_len s c x; rw [hw4] at h; exact h
  have RA4 := as_commit hw4 ⟨s0, s1⟩ ⟨x0, x1⟩
  have E4 : Hid (resB (wCommit s c x) = .tuple #[.agg (encB b4), .int .i64 0]) := by show _ = _; rw [hw4]; rfl
  have EH : Hid (resRH (rHead b1) = .tuple #[.agg #[.int .u32 s, .int .i64 t], .int .i64 0]) := by show _ = _; rw [RA1.head]; rfl
  have ED := Lib.hid RA2.desc
  have ER := Lib.hid RA3.rev
  have EC : Hid (resRC (rCommit b4) = .tuple #[.int .u32 s, .int .i64 c, .int .u32 x, .int .i64 0]) := by show _ = _; rw [RA4.com]; rfl
  have HRA1 := Lib.hid RA1
  have HRA2 := Lib.hid RA2
  have HRA3 := Lib.hid RA3
  have HRA4 := Lib.hid RA4
  have HTT := Lib.hid hT
  have HNN := Lib.hid hN
  have HnL : Hid (n = l.length) := hT.1
  have HnM : Hid (n2 = m.length) := hN.1
  clear hw1 hw2 hw3 hw4 RA1 RA2 RA3 RA4 hT hN
  have hI : (n : Int) ≤ 1000 := by omega
  have hI2 : (n2 : Int) ≤ 1000 := by omega
  have HH := Lib.hid (heap_alloc_new w (.cells #[.int .u32 s, .int .i64 t] 24))
  have M0 : Mod none' w (w.alloc (.cells #[.int .u32 s, .int .i64 t] 24)) := (Mod.refl _ _).alloc _
  go_enter Try.func9, Try.ntmps9
  go_wp2_with fail
  refine (jawake _).mono ?_
  rintro e w1 ⟨rfl, hm⟩
  replace HH := Lib.hid (hm.row (k := w.heap.size) HH.out (fun e => e))
  have M1 := M0.trans hm
  clear hm M0
  have h0 := (cell_of_row _ _ 0 _ _ _ HH.out).trans (show _ = some (.int .u32 s) from rfl)
  have h1 := (cell_of_row _ _ 1 _ _ _ HH.out).trans (show _ = some (.int .i64 t) from rfl)
  go_wp2_with fail
  refine (jwhead s t _ s0 s1).mono ?_
  rintro e w2 ⟨rfl, hm⟩
  rw [E1.out]
  clear h0 h1
  obtain ⟨n1, m1⟩ := put_new w2 b1
  replace hm := hm.trans m1
  clear m1
  replace HH := Lib.hid (hm.row (k := w.heap.size) HH.out (fun e => e))
  have M2 := M1.trans hm
  clear hm M1
  have HB1 := Lib.hid n1
  clear n1
  have HO := Lib.hid (heap_alloc_new w2 (.cells (encB Z256) 28))
  have h0 := (cell_of_row _ _ 0 _ _ _ HH.out).trans (show _ = some (.int .u32 s) from rfl)
  have h1 := (cell_of_row _ _ 1 _ _ _ HH.out).trans (show _ = some (.int .i64 t) from rfl)
  go_wp2_with (first | ((with_reducible refine wpList_storeB' blkT ?_ ?_ l1 Z256_len HO.out ?_); rfl; rfl) | (with_reducible refine wpList_allocB' blkT ?_))
  clear h0 h1
  clear HO
  refine (jwdesc a n cap l s _ (HTT.out.mod M2) (by omega) s0 s1).mono ?_
  rintro e w3 ⟨rfl, hm⟩
  rw [E2.out]
  obtain ⟨n2, m2⟩ := put_new w3 b2
  replace hm := hm.trans m2
  clear m2
  replace HH := Lib.hid (hm.row (k := w.heap.size) HH.out (fun e => e))
  replace HB1 := Lib.hid (hm.row (k := w2.heap.size) HB1.out (fun e => e))
  have M3 := M2.trans hm
  clear hm M2
  have HB2 := Lib.hid n2
  clear n2
  have HO := Lib.hid (heap_alloc_new w3 (.cells (encB Z256) 28))
  have h0 := (cell_of_row _ _ 0 _ _ _ HH.out).trans (show _ = some (.int .u32 s) from rfl)
  have h1 := (cell_of_row _ _ 1 _ _ _ HH.out).trans (show _ = some (.int .i64 t) from rfl)
  go_wp2_with (first | ((with_reducible refine wpList_storeB' blkT ?_ ?_ l2 Z256_len HO.out ?_); rfl; rfl) | (with_reducible refine wpList_allocB' blkT ?_))
  clear h0 h1
  clear HO
  refine (jwrevoke a2 n2 cap2 m s _ (HNN.out.mod M3) (by omega) s0 s1).mono ?_
  rintro e w4 ⟨rfl, hm⟩
  rw [E3.out]
  obtain ⟨n3, m3⟩ := put_new w4 Z256
  replace hm := hm.trans m3
  clear m3
  replace HH := Lib.hid (hm.row (k := w.heap.size) HH.out (fun e => e))
  replace HB1 := Lib.hid (hm.row (k := w2.heap.size) HB1.out (fun e => e))
  replace HB2 := Lib.hid (hm.row (k := w3.heap.size) HB2.out (fun e => e))
  have M4 := M3.trans hm
  clear hm M3
  have HB3 := Lib.hid n3
  clear n3
  have HO := Lib.hid (heap_alloc_new w4 (.cells (encB Z256) 28))
  have h0 := (cell_of_row _ _ 0 _ _ _ HH.out).trans (show _ = some (.int .u32 s) from rfl)
  have h1 := (cell_of_row _ _ 1 _ _ _ HH.out).trans (show _ = some (.int .i64 t) from rfl)
  go_wp2_with (first | ((with_reducible refine wpList_storeB' blkT ?_ ?_ Z256_len Z256_len HO.out ?_); rfl; rfl) | (with_reducible refine wpList_allocB' blkT ?_))
  clear h0 h1
  clear HO
  refine (jwcommit s c x _ s0 s1 x0 x1).mono ?_
  rintro e w5 ⟨rfl, hm⟩
  rw [E4.out]
  obtain ⟨n4, m4⟩ := put_new w5 b4
  replace hm := hm.trans m4
  clear m4
  replace HH := Lib.hid (hm.row (k := w.heap.size) HH.out (fun e => e))
  replace HB1 := Lib.hid (hm.row (k := w2.heap.size) HB1.out (fun e => e))
  replace HB2 := Lib.hid (hm.row (k := w3.heap.size) HB2.out (fun e => e))
  replace HB3 := Lib.hid (hm.row (k := w4.heap.size) HB3.out (fun e => e))
  have M5 := M4.trans hm
  clear hm M4
  have HB4 := Lib.hid n4
  clear n4
  have HO := Lib.hid (heap_alloc_new w5 (.cells (encB Z256) 28))
  have h0 := (cell_of_row _ _ 0 _ _ _ HH.out).trans (show _ = some (.int .u32 s) from rfl)
  have h1 := (cell_of_row _ _ 1 _ _ _ HH.out).trans (show _ = some (.int .i64 t) from rfl)
  go_wp2_with (first | ((with_reducible refine wpList_storeB' blkT ?_ ?_ l4 Z256_len HO.out ?_); rfl; rfl) | (with_reducible refine wpList_allocB' blkT ?_) | ((with_reducible refine wpList_loadBg blkT ?_ ?_ l1 HB1.out ?_); rfl; rfl))
  clear h0 h1
  clear HO
  refine (jrhead b1 l1 _).mono ?_
  rintro e w6 ⟨rfl, hm⟩
  rw [EH.out]
  replace hm := hm.alloc (.cells #[.int .u32 s, .int .i64 t] 24)
  replace HH := Lib.hid (hm.row (k := w.heap.size) HH.out (fun e => e))
  replace HB1 := Lib.hid (hm.row (k := w2.heap.size) HB1.out (fun e => e))
  replace HB2 := Lib.hid (hm.row (k := w3.heap.size) HB2.out (fun e => e))
  replace HB3 := Lib.hid (hm.row (k := w4.heap.size) HB3.out (fun e => e))
  replace HB4 := Lib.hid (hm.row (k := w5.heap.size) HB4.out (fun e => e))
  have M6 := M5.trans hm
  clear hm M5
  have HX := Lib.hid (heap_alloc_new w6 (.cells #[.int .u32 s, .int .i64 t] 24))
  go_wp2_with (first | ((with_reducible refine wpList_loadBg blkT ?_ ?_ l2 HB2.out ?_); rfl; rfl))
  refine (jrdesc b2 l2 _).mono ?_
  rintro e w7 ⟨hg, hm⟩
  rw [ED.out] at hg
  obtain ⟨LT, hLT, hrow, rfl⟩ := hg
  have HLT := Lib.hid hrow
  clear hrow hLT
  replace HH := Lib.hid (hm.row (k := w.heap.size) HH.out (fun e => e))
  replace HB1 := Lib.hid (hm.row (k := w2.heap.size) HB1.out (fun e => e))
  replace HB2 := Lib.hid (hm.row (k := w3.heap.size) HB2.out (fun e => e))
  replace HB3 := Lib.hid (hm.row (k := w4.heap.size) HB3.out (fun e => e))
  replace HB4 := Lib.hid (hm.row (k := w5.heap.size) HB4.out (fun e => e))
  replace HX := Lib.hid (hm.row (k := w6.heap.size) HX.out (fun e => e))
  have M7 := M6.trans hm
  clear hm M6
  go_wp2_with (first | ((with_reducible refine wpList_loadBg blkT ?_ ?_ Z256_len HB3.out ?_); rfl; rfl))
  refine (jrrevoke Z256 Z256_len _).mono ?_
  rintro e w8 ⟨hg, hm⟩
  rw [ER.out] at hg
  obtain rfl := (show e = _ from hg)
  replace HH := Lib.hid (hm.row (k := w.heap.size) HH.out (fun e => e))
  replace HB1 := Lib.hid (hm.row (k := w2.heap.size) HB1.out (fun e => e))
  replace HB2 := Lib.hid (hm.row (k := w3.heap.size) HB2.out (fun e => e))
  replace HB3 := Lib.hid (hm.row (k := w4.heap.size) HB3.out (fun e => e))
  replace HB4 := Lib.hid (hm.row (k := w5.heap.size) HB4.out (fun e => e))
  replace HX := Lib.hid (hm.row (k := w6.heap.size) HX.out (fun e => e))
  replace HLT := Lib.hid (hm.row (k := LT) HLT.out (fun e => e))
  have M8 := M7.trans hm
  clear hm M7
  go_wp2_with (first | ((with_reducible refine wpList_loadBg blkT ?_ ?_ l4 HB4.out ?_); rfl; rfl))
  refine (jrcommit b4 l4 _).mono ?_
  rintro e w9 ⟨rfl, hm⟩
  rw [EC.out]
  replace HH := Lib.hid (hm.row (k := w.heap.size) HH.out (fun e => e))
  replace HB1 := Lib.hid (hm.row (k := w2.heap.size) HB1.out (fun e => e))
  replace HB2 := Lib.hid (hm.row (k := w3.heap.size) HB2.out (fun e => e))
  replace HB3 := Lib.hid (hm.row (k := w4.heap.size) HB3.out (fun e => e))
  replace HB4 := Lib.hid (hm.row (k := w5.heap.size) HB4.out (fun e => e))
  replace HX := Lib.hid (hm.row (k := w6.heap.size) HX.out (fun e => e))
  replace HLT := Lib.hid (hm.row (k := LT) HLT.out (fun e => e))
  have M9 := M8.trans hm
  clear hm M8
  have h0 := (cell_of_row _ _ 0 _ _ _ HH.out).trans (show _ = some (.int .u32 s) from rfl)
  have h1 := (cell_of_row _ _ 1 _ _ _ HH.out).trans (show _ = some (.int .i64 t) from rfl)
  have y0 := (cell_of_row _ _ 0 _ _ _ HX.out).trans (show _ = some (.int .u32 s) from rfl)
  have y1 := (cell_of_row _ _ 1 _ _ _ HX.out).trans (show _ = some (.int .i64 t) from rfl)
  go_wp2_with (first | ((with_reducible refine wpList_cmp ?_ ?_ ?_ (head_guard _ _ _ _ _) (head_neq_same s t) ?_); rfl; rfl; rfl) | ((with_reducible refine wpList_loadBg blkT ?_ ?_ l1 HB1.out ?_); rfl; rfl))
  clear h0 h1
  clear y0 y1
  refine (rsameT (some ⟨LT, 0, none⟩) a l.length n l.length cap l l _ (tagsAt_row HLT.out HTT.out.2.1) (HTT.out.mod M9) (by have := HnL.out; omega)).mono ?_
  rintro e w10 ⟨rfl, hm⟩
  rw [show (l == l) = true by simp]
  replace HH := Lib.hid (hm.row (k := w.heap.size) HH.out (fun e => e))
  replace HB1 := Lib.hid (hm.row (k := w2.heap.size) HB1.out (fun e => e))
  replace HB2 := Lib.hid (hm.row (k := w3.heap.size) HB2.out (fun e => e))
  replace HB3 := Lib.hid (hm.row (k := w4.heap.size) HB3.out (fun e => e))
  replace HB4 := Lib.hid (hm.row (k := w5.heap.size) HB4.out (fun e => e))
  replace HX := Lib.hid (hm.row (k := w6.heap.size) HX.out (fun e => e))
  replace HLT := Lib.hid (hm.row (k := LT) HLT.out (fun e => e))
  have M10 := M9.trans hm
  clear hm M9
  have h0 := (cell_of_row _ _ 0 _ _ _ HH.out).trans (show _ = some (.int .u32 s) from rfl)
  have h1 := (cell_of_row _ _ 1 _ _ _ HH.out).trans (show _ = some (.int .i64 t) from rfl)
  have y0 := (cell_of_row _ _ 0 _ _ _ HX.out).trans (show _ = some (.int .u32 s) from rfl)
  have y1 := (cell_of_row _ _ 1 _ _ _ HX.out).trans (show _ = some (.int .i64 t) from rfl)
  go_wp2_with (first | ((with_reducible refine wpList_cmp ?_ ?_ ?_ (head_guard _ _ _ _ _) (head_neq_same s t) ?_); rfl; rfl; rfl) | ((with_reducible refine wpList_loadBg blkT ?_ ?_ l1 HB1.out ?_); rfl; rfl))
  clear h0 h1
  clear y0 y1
  refine (jone_head b1 l1 _ s t HRA1.out).mono ?_
  rintro e w12 ⟨rfl, hm⟩
  replace HH := Lib.hid (hm.row (k := w.heap.size) HH.out (fun e => e))
  replace HB1 := Lib.hid (hm.row (k := w2.heap.size) HB1.out (fun e => e))
  replace HB2 := Lib.hid (hm.row (k := w3.heap.size) HB2.out (fun e => e))
  replace HB3 := Lib.hid (hm.row (k := w4.heap.size) HB3.out (fun e => e))
  replace HB4 := Lib.hid (hm.row (k := w5.heap.size) HB4.out (fun e => e))
  replace HX := Lib.hid (hm.row (k := w6.heap.size) HX.out (fun e => e))
  replace HLT := Lib.hid (hm.row (k := LT) HLT.out (fun e => e))
  have M11 := M10.trans hm
  clear hm M10
  go_wp2_with (first | ((with_reducible refine wpList_loadBg blkT ?_ ?_ l2 HB2.out ?_); rfl; rfl))
  refine (jone_desc b2 l2 _ s l HRA2.out).mono ?_
  rintro e w13 ⟨rfl, hm⟩
  replace HH := Lib.hid (hm.row (k := w.heap.size) HH.out (fun e => e))
  replace HB1 := Lib.hid (hm.row (k := w2.heap.size) HB1.out (fun e => e))
  replace HB2 := Lib.hid (hm.row (k := w3.heap.size) HB2.out (fun e => e))
  replace HB3 := Lib.hid (hm.row (k := w4.heap.size) HB3.out (fun e => e))
  replace HB4 := Lib.hid (hm.row (k := w5.heap.size) HB4.out (fun e => e))
  replace HX := Lib.hid (hm.row (k := w6.heap.size) HX.out (fun e => e))
  replace HLT := Lib.hid (hm.row (k := LT) HLT.out (fun e => e))
  have M12 := M11.trans hm
  clear hm M11
  go_wp2_with (first | ((with_reducible refine wpList_loadBg blkT ?_ ?_ Z256_len HB3.out ?_); rfl; rfl))
  refine (jone_none Z256 Z256_len _ 0 0 3 HRA3.out).mono ?_
  rintro e w14 ⟨rfl, hm⟩
  replace HH := Lib.hid (hm.row (k := w.heap.size) HH.out (fun e => e))
  replace HB1 := Lib.hid (hm.row (k := w2.heap.size) HB1.out (fun e => e))
  replace HB2 := Lib.hid (hm.row (k := w3.heap.size) HB2.out (fun e => e))
  replace HB3 := Lib.hid (hm.row (k := w4.heap.size) HB3.out (fun e => e))
  replace HB4 := Lib.hid (hm.row (k := w5.heap.size) HB4.out (fun e => e))
  replace HX := Lib.hid (hm.row (k := w6.heap.size) HX.out (fun e => e))
  replace HLT := Lib.hid (hm.row (k := LT) HLT.out (fun e => e))
  have M13 := M12.trans hm
  clear hm M12
  go_wp2_with (first | ((with_reducible refine wpList_loadBg blkT ?_ ?_ l4 HB4.out ?_); rfl; rfl))
  refine (jone_commit b4 l4 _ s c x HRA4.out).mono ?_
  rintro e w15 ⟨rfl, hm⟩
  replace HH := Lib.hid (hm.row (k := w.heap.size) HH.out (fun e => e))
  replace HB1 := Lib.hid (hm.row (k := w2.heap.size) HB1.out (fun e => e))
  replace HB2 := Lib.hid (hm.row (k := w3.heap.size) HB2.out (fun e => e))
  replace HB3 := Lib.hid (hm.row (k := w4.heap.size) HB3.out (fun e => e))
  replace HB4 := Lib.hid (hm.row (k := w5.heap.size) HB4.out (fun e => e))
  replace HX := Lib.hid (hm.row (k := w6.heap.size) HX.out (fun e => e))
  replace HLT := Lib.hid (hm.row (k := LT) HLT.out (fun e => e))
  have M14 := M13.trans hm
  clear hm M13
  go_wp2
  go_ret
  exact ⟨rfl, M14.new⟩

set_option maxRecDepth 100000 in
set_option maxHeartbeats 20000000 in
theorem walk_TTFF (s t c x : Int) (a a2 : Option Addr) (n n2 cap cap2 : Nat) (l : List (Int × Bool)) (m : List Int) (w : World) (s0 : 0 ≤ s) (s1 : s < 4294967296) (x0 : 0 ≤ x) (x1 : x < 4294967296) (hT : TagsAt w a n l) (hN : NumsAt w a2 n2 m) (hn : n ≤ 1000) (hn2 : n2 ≤ 1000) (b1 : List UInt8) (hw1 : wHead s t = some b1) (b2 : List UInt8) (hw2 : wDesc s l = some b2) (hw3 : wRevoke s m = none) (hw4 : wCommit s c x = none) :
    Calls Try.prog 9 #[.agg #[.int .u32 s, .int .i64 t], .slice a n cap, .slice a2 n2 cap2, .int .i64 c, .int .u32 x] w fun e w' => e = .returned (.bool true) ∧ Below w.heap.size w w' := by
  have l1 : b1.length = 256 := by have h := wHead_len s t; rw [hw1] at h; exact h
  have RA1 := as_head hw1 ⟨s0, s1⟩
  have E1 : Hid (resB (wHead s t) = .tuple #[.agg (encB b1), .int .i64 0]) := by show _ = _; rw [hw1]; rfl
  have l2 : b2.length = 256 := by have h := wDesc_len s l; rw [hw2] at h; exact h
  have RA2 := as_desc hw2 ⟨s0, s1⟩ hT.2.1
  have E2 : Hid (resB (wDesc s l) = .tuple #[.agg (encB b2), .int .i64 0]) := by show _ = _; rw [hw2]; rfl
  have RA3 := as_none
  have E3 : Hid (resB (wRevoke s m) = .tuple #[.agg (encB Z256), .int .i64 2]) := by show _ = _; rw [hw3]; rfl
  have RA4 := as_none
  have E4 : Hid (resB (wCommit s c x) = .tuple #[.agg (encB Z256), .int .i64 2]) := by show _ = _; rw [hw4]; rfl
  have EH : Hid (resRH (rHead b1) = .tuple #[.agg #[.int .u32 s, .int .i64 t], .int .i64 0]) := by show _ = _; rw [RA1.head]; rfl
  have ED := Lib.hid RA2.desc
  have ER := Lib.hid RA3.rev
  have EC : Hid (resRC (rCommit Z256) = .tuple #[.int .u32 0, .int .i64 0, .int .u32 0, .int .i64 90]) := by show _ = _; rw [RA4.com]; rfl
  have HRA1 := Lib.hid RA1
  have HRA2 := Lib.hid RA2
  have HRA3 := Lib.hid RA3
  have HRA4 := Lib.hid RA4
  have HTT := Lib.hid hT
  have HNN := Lib.hid hN
  have HnL : Hid (n = l.length) := hT.1
  have HnM : Hid (n2 = m.length) := hN.1
  clear hw1 hw2 hw3 hw4 RA1 RA2 RA3 RA4 hT hN
  have hI : (n : Int) ≤ 1000 := by omega
  have hI2 : (n2 : Int) ≤ 1000 := by omega
  have HH := Lib.hid (heap_alloc_new w (.cells #[.int .u32 s, .int .i64 t] 24))
  have M0 : Mod none' w (w.alloc (.cells #[.int .u32 s, .int .i64 t] 24)) := (Mod.refl _ _).alloc _
  go_enter Try.func9, Try.ntmps9
  go_wp2_with fail
  refine (jawake _).mono ?_
  rintro e w1 ⟨rfl, hm⟩
  replace HH := Lib.hid (hm.row (k := w.heap.size) HH.out (fun e => e))
  have M1 := M0.trans hm
  clear hm M0
  have h0 := (cell_of_row _ _ 0 _ _ _ HH.out).trans (show _ = some (.int .u32 s) from rfl)
  have h1 := (cell_of_row _ _ 1 _ _ _ HH.out).trans (show _ = some (.int .i64 t) from rfl)
  go_wp2_with fail
  refine (jwhead s t _ s0 s1).mono ?_
  rintro e w2 ⟨rfl, hm⟩
  rw [E1.out]
  clear h0 h1
  obtain ⟨n1, m1⟩ := put_new w2 b1
  replace hm := hm.trans m1
  clear m1
  replace HH := Lib.hid (hm.row (k := w.heap.size) HH.out (fun e => e))
  have M2 := M1.trans hm
  clear hm M1
  have HB1 := Lib.hid n1
  clear n1
  have HO := Lib.hid (heap_alloc_new w2 (.cells (encB Z256) 28))
  have h0 := (cell_of_row _ _ 0 _ _ _ HH.out).trans (show _ = some (.int .u32 s) from rfl)
  have h1 := (cell_of_row _ _ 1 _ _ _ HH.out).trans (show _ = some (.int .i64 t) from rfl)
  go_wp2_with (first | ((with_reducible refine wpList_storeB' blkT ?_ ?_ l1 Z256_len HO.out ?_); rfl; rfl) | (with_reducible refine wpList_allocB' blkT ?_))
  clear h0 h1
  clear HO
  refine (jwdesc a n cap l s _ (HTT.out.mod M2) (by omega) s0 s1).mono ?_
  rintro e w3 ⟨rfl, hm⟩
  rw [E2.out]
  obtain ⟨n2, m2⟩ := put_new w3 b2
  replace hm := hm.trans m2
  clear m2
  replace HH := Lib.hid (hm.row (k := w.heap.size) HH.out (fun e => e))
  replace HB1 := Lib.hid (hm.row (k := w2.heap.size) HB1.out (fun e => e))
  have M3 := M2.trans hm
  clear hm M2
  have HB2 := Lib.hid n2
  clear n2
  have HO := Lib.hid (heap_alloc_new w3 (.cells (encB Z256) 28))
  have h0 := (cell_of_row _ _ 0 _ _ _ HH.out).trans (show _ = some (.int .u32 s) from rfl)
  have h1 := (cell_of_row _ _ 1 _ _ _ HH.out).trans (show _ = some (.int .i64 t) from rfl)
  go_wp2_with (first | ((with_reducible refine wpList_storeB' blkT ?_ ?_ l2 Z256_len HO.out ?_); rfl; rfl) | (with_reducible refine wpList_allocB' blkT ?_))
  clear h0 h1
  clear HO
  refine (jwrevoke a2 n2 cap2 m s _ (HNN.out.mod M3) (by omega) s0 s1).mono ?_
  rintro e w4 ⟨rfl, hm⟩
  rw [E3.out]
  obtain ⟨n3, m3⟩ := put_new w4 Z256
  replace hm := hm.trans m3
  clear m3
  replace HH := Lib.hid (hm.row (k := w.heap.size) HH.out (fun e => e))
  replace HB1 := Lib.hid (hm.row (k := w2.heap.size) HB1.out (fun e => e))
  replace HB2 := Lib.hid (hm.row (k := w3.heap.size) HB2.out (fun e => e))
  have M4 := M3.trans hm
  clear hm M3
  have HB3 := Lib.hid n3
  clear n3
  have HO := Lib.hid (heap_alloc_new w4 (.cells (encB Z256) 28))
  have h0 := (cell_of_row _ _ 0 _ _ _ HH.out).trans (show _ = some (.int .u32 s) from rfl)
  have h1 := (cell_of_row _ _ 1 _ _ _ HH.out).trans (show _ = some (.int .i64 t) from rfl)
  go_wp2_with (first | ((with_reducible refine wpList_storeB' blkT ?_ ?_ Z256_len Z256_len HO.out ?_); rfl; rfl) | (with_reducible refine wpList_allocB' blkT ?_))
  clear h0 h1
  clear HO
  refine (jwcommit s c x _ s0 s1 x0 x1).mono ?_
  rintro e w5 ⟨rfl, hm⟩
  rw [E4.out]
  obtain ⟨n4, m4⟩ := put_new w5 Z256
  replace hm := hm.trans m4
  clear m4
  replace HH := Lib.hid (hm.row (k := w.heap.size) HH.out (fun e => e))
  replace HB1 := Lib.hid (hm.row (k := w2.heap.size) HB1.out (fun e => e))
  replace HB2 := Lib.hid (hm.row (k := w3.heap.size) HB2.out (fun e => e))
  replace HB3 := Lib.hid (hm.row (k := w4.heap.size) HB3.out (fun e => e))
  have M5 := M4.trans hm
  clear hm M4
  have HB4 := Lib.hid n4
  clear n4
  have HO := Lib.hid (heap_alloc_new w5 (.cells (encB Z256) 28))
  have h0 := (cell_of_row _ _ 0 _ _ _ HH.out).trans (show _ = some (.int .u32 s) from rfl)
  have h1 := (cell_of_row _ _ 1 _ _ _ HH.out).trans (show _ = some (.int .i64 t) from rfl)
  go_wp2_with (first | ((with_reducible refine wpList_storeB' blkT ?_ ?_ Z256_len Z256_len HO.out ?_); rfl; rfl) | (with_reducible refine wpList_allocB' blkT ?_) | ((with_reducible refine wpList_loadBg blkT ?_ ?_ l1 HB1.out ?_); rfl; rfl))
  clear h0 h1
  clear HO
  refine (jrhead b1 l1 _).mono ?_
  rintro e w6 ⟨rfl, hm⟩
  rw [EH.out]
  replace hm := hm.alloc (.cells #[.int .u32 s, .int .i64 t] 24)
  replace HH := Lib.hid (hm.row (k := w.heap.size) HH.out (fun e => e))
  replace HB1 := Lib.hid (hm.row (k := w2.heap.size) HB1.out (fun e => e))
  replace HB2 := Lib.hid (hm.row (k := w3.heap.size) HB2.out (fun e => e))
  replace HB3 := Lib.hid (hm.row (k := w4.heap.size) HB3.out (fun e => e))
  replace HB4 := Lib.hid (hm.row (k := w5.heap.size) HB4.out (fun e => e))
  have M6 := M5.trans hm
  clear hm M5
  have HX := Lib.hid (heap_alloc_new w6 (.cells #[.int .u32 s, .int .i64 t] 24))
  go_wp2_with (first | ((with_reducible refine wpList_loadBg blkT ?_ ?_ l2 HB2.out ?_); rfl; rfl))
  refine (jrdesc b2 l2 _).mono ?_
  rintro e w7 ⟨hg, hm⟩
  rw [ED.out] at hg
  obtain ⟨LT, hLT, hrow, rfl⟩ := hg
  have HLT := Lib.hid hrow
  clear hrow hLT
  replace HH := Lib.hid (hm.row (k := w.heap.size) HH.out (fun e => e))
  replace HB1 := Lib.hid (hm.row (k := w2.heap.size) HB1.out (fun e => e))
  replace HB2 := Lib.hid (hm.row (k := w3.heap.size) HB2.out (fun e => e))
  replace HB3 := Lib.hid (hm.row (k := w4.heap.size) HB3.out (fun e => e))
  replace HB4 := Lib.hid (hm.row (k := w5.heap.size) HB4.out (fun e => e))
  replace HX := Lib.hid (hm.row (k := w6.heap.size) HX.out (fun e => e))
  have M7 := M6.trans hm
  clear hm M6
  go_wp2_with (first | ((with_reducible refine wpList_loadBg blkT ?_ ?_ Z256_len HB3.out ?_); rfl; rfl))
  refine (jrrevoke Z256 Z256_len _).mono ?_
  rintro e w8 ⟨hg, hm⟩
  rw [ER.out] at hg
  obtain rfl := (show e = _ from hg)
  replace HH := Lib.hid (hm.row (k := w.heap.size) HH.out (fun e => e))
  replace HB1 := Lib.hid (hm.row (k := w2.heap.size) HB1.out (fun e => e))
  replace HB2 := Lib.hid (hm.row (k := w3.heap.size) HB2.out (fun e => e))
  replace HB3 := Lib.hid (hm.row (k := w4.heap.size) HB3.out (fun e => e))
  replace HB4 := Lib.hid (hm.row (k := w5.heap.size) HB4.out (fun e => e))
  replace HX := Lib.hid (hm.row (k := w6.heap.size) HX.out (fun e => e))
  replace HLT := Lib.hid (hm.row (k := LT) HLT.out (fun e => e))
  have M8 := M7.trans hm
  clear hm M7
  go_wp2_with (first | ((with_reducible refine wpList_loadBg blkT ?_ ?_ Z256_len HB4.out ?_); rfl; rfl))
  refine (jrcommit Z256 Z256_len _).mono ?_
  rintro e w9 ⟨rfl, hm⟩
  rw [EC.out]
  replace HH := Lib.hid (hm.row (k := w.heap.size) HH.out (fun e => e))
  replace HB1 := Lib.hid (hm.row (k := w2.heap.size) HB1.out (fun e => e))
  replace HB2 := Lib.hid (hm.row (k := w3.heap.size) HB2.out (fun e => e))
  replace HB3 := Lib.hid (hm.row (k := w4.heap.size) HB3.out (fun e => e))
  replace HB4 := Lib.hid (hm.row (k := w5.heap.size) HB4.out (fun e => e))
  replace HX := Lib.hid (hm.row (k := w6.heap.size) HX.out (fun e => e))
  replace HLT := Lib.hid (hm.row (k := LT) HLT.out (fun e => e))
  have M9 := M8.trans hm
  clear hm M8
  have h0 := (cell_of_row _ _ 0 _ _ _ HH.out).trans (show _ = some (.int .u32 s) from rfl)
  have h1 := (cell_of_row _ _ 1 _ _ _ HH.out).trans (show _ = some (.int .i64 t) from rfl)
  have y0 := (cell_of_row _ _ 0 _ _ _ HX.out).trans (show _ = some (.int .u32 s) from rfl)
  have y1 := (cell_of_row _ _ 1 _ _ _ HX.out).trans (show _ = some (.int .i64 t) from rfl)
  go_wp2_with (first | ((with_reducible refine wpList_cmp ?_ ?_ ?_ (head_guard _ _ _ _ _) (head_neq_same s t) ?_); rfl; rfl; rfl) | ((with_reducible refine wpList_loadBg blkT ?_ ?_ l1 HB1.out ?_); rfl; rfl))
  clear h0 h1
  clear y0 y1
  refine (rsameT (some ⟨LT, 0, none⟩) a l.length n l.length cap l l _ (tagsAt_row HLT.out HTT.out.2.1) (HTT.out.mod M9) (by have := HnL.out; omega)).mono ?_
  rintro e w10 ⟨rfl, hm⟩
  rw [show (l == l) = true by simp]
  replace HH := Lib.hid (hm.row (k := w.heap.size) HH.out (fun e => e))
  replace HB1 := Lib.hid (hm.row (k := w2.heap.size) HB1.out (fun e => e))
  replace HB2 := Lib.hid (hm.row (k := w3.heap.size) HB2.out (fun e => e))
  replace HB3 := Lib.hid (hm.row (k := w4.heap.size) HB3.out (fun e => e))
  replace HB4 := Lib.hid (hm.row (k := w5.heap.size) HB4.out (fun e => e))
  replace HX := Lib.hid (hm.row (k := w6.heap.size) HX.out (fun e => e))
  replace HLT := Lib.hid (hm.row (k := LT) HLT.out (fun e => e))
  have M10 := M9.trans hm
  clear hm M9
  have h0 := (cell_of_row _ _ 0 _ _ _ HH.out).trans (show _ = some (.int .u32 s) from rfl)
  have h1 := (cell_of_row _ _ 1 _ _ _ HH.out).trans (show _ = some (.int .i64 t) from rfl)
  have y0 := (cell_of_row _ _ 0 _ _ _ HX.out).trans (show _ = some (.int .u32 s) from rfl)
  have y1 := (cell_of_row _ _ 1 _ _ _ HX.out).trans (show _ = some (.int .i64 t) from rfl)
  go_wp2_with (first | ((with_reducible refine wpList_cmp ?_ ?_ ?_ (head_guard _ _ _ _ _) (head_neq_same s t) ?_); rfl; rfl; rfl) | ((with_reducible refine wpList_loadBg blkT ?_ ?_ l1 HB1.out ?_); rfl; rfl))
  clear h0 h1
  clear y0 y1
  refine (jone_head b1 l1 _ s t HRA1.out).mono ?_
  rintro e w12 ⟨rfl, hm⟩
  replace HH := Lib.hid (hm.row (k := w.heap.size) HH.out (fun e => e))
  replace HB1 := Lib.hid (hm.row (k := w2.heap.size) HB1.out (fun e => e))
  replace HB2 := Lib.hid (hm.row (k := w3.heap.size) HB2.out (fun e => e))
  replace HB3 := Lib.hid (hm.row (k := w4.heap.size) HB3.out (fun e => e))
  replace HB4 := Lib.hid (hm.row (k := w5.heap.size) HB4.out (fun e => e))
  replace HX := Lib.hid (hm.row (k := w6.heap.size) HX.out (fun e => e))
  replace HLT := Lib.hid (hm.row (k := LT) HLT.out (fun e => e))
  have M11 := M10.trans hm
  clear hm M10
  go_wp2_with (first | ((with_reducible refine wpList_loadBg blkT ?_ ?_ l2 HB2.out ?_); rfl; rfl))
  refine (jone_desc b2 l2 _ s l HRA2.out).mono ?_
  rintro e w13 ⟨rfl, hm⟩
  replace HH := Lib.hid (hm.row (k := w.heap.size) HH.out (fun e => e))
  replace HB1 := Lib.hid (hm.row (k := w2.heap.size) HB1.out (fun e => e))
  replace HB2 := Lib.hid (hm.row (k := w3.heap.size) HB2.out (fun e => e))
  replace HB3 := Lib.hid (hm.row (k := w4.heap.size) HB3.out (fun e => e))
  replace HB4 := Lib.hid (hm.row (k := w5.heap.size) HB4.out (fun e => e))
  replace HX := Lib.hid (hm.row (k := w6.heap.size) HX.out (fun e => e))
  replace HLT := Lib.hid (hm.row (k := LT) HLT.out (fun e => e))
  have M12 := M11.trans hm
  clear hm M11
  go_wp2_with (first | ((with_reducible refine wpList_loadBg blkT ?_ ?_ Z256_len HB3.out ?_); rfl; rfl))
  refine (jone_none Z256 Z256_len _ 0 0 3 HRA3.out).mono ?_
  rintro e w14 ⟨rfl, hm⟩
  replace HH := Lib.hid (hm.row (k := w.heap.size) HH.out (fun e => e))
  replace HB1 := Lib.hid (hm.row (k := w2.heap.size) HB1.out (fun e => e))
  replace HB2 := Lib.hid (hm.row (k := w3.heap.size) HB2.out (fun e => e))
  replace HB3 := Lib.hid (hm.row (k := w4.heap.size) HB3.out (fun e => e))
  replace HB4 := Lib.hid (hm.row (k := w5.heap.size) HB4.out (fun e => e))
  replace HX := Lib.hid (hm.row (k := w6.heap.size) HX.out (fun e => e))
  replace HLT := Lib.hid (hm.row (k := LT) HLT.out (fun e => e))
  have M13 := M12.trans hm
  clear hm M12
  go_wp2_with (first | ((with_reducible refine wpList_loadBg blkT ?_ ?_ Z256_len HB4.out ?_); rfl; rfl))
  refine (jone_none Z256 Z256_len _ 0 0 2 HRA4.out).mono ?_
  rintro e w15 ⟨rfl, hm⟩
  replace HH := Lib.hid (hm.row (k := w.heap.size) HH.out (fun e => e))
  replace HB1 := Lib.hid (hm.row (k := w2.heap.size) HB1.out (fun e => e))
  replace HB2 := Lib.hid (hm.row (k := w3.heap.size) HB2.out (fun e => e))
  replace HB3 := Lib.hid (hm.row (k := w4.heap.size) HB3.out (fun e => e))
  replace HB4 := Lib.hid (hm.row (k := w5.heap.size) HB4.out (fun e => e))
  replace HX := Lib.hid (hm.row (k := w6.heap.size) HX.out (fun e => e))
  replace HLT := Lib.hid (hm.row (k := LT) HLT.out (fun e => e))
  have M14 := M13.trans hm
  clear hm M13
  go_wp2
  go_ret
  exact ⟨rfl, M14.new⟩
end Go.Proofs.Ytckadanghhibhaa.jblockBack
