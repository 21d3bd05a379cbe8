/- What a block is read as is written as just that block: read as: head. -/
import Derived.Test.YtckadanghhibhaaJone
namespace Go.Proofs.Ytckadanghhibhaa.jblockBlocks
open Go.RowKit Go.ChangeShapes Go.WideShapes Go.ChangeAt

set_option maxRecDepth 100000 in
set_option maxHeartbeats 8000000 in
theorem walk_head (bs : List UInt8) (hl : bs.length = 256) (w : World) (s t : Int) (s0 : 0 ≤ s) (s1 : s < 4294967296) (hk : kindB bs = (4, s)) (h1 : rHead bs = some (s, t)) (h2 : rDesc bs = none) (h3 : rRevoke bs = none) (h4 : rCommit bs = none) (hw : wHead s t = some bs) :
    Calls Try.prog 10 #[.agg (encB bs)] w fun e w' => e = .returned (.bool true) ∧ Below w.heap.size w w' := by
  have HB := Lib.hid (heap_alloc_new w (.cells (encB bs) 28))
  have M0 : Mod none' w (w.alloc (.cells (encB bs) 28)) := (Mod.refl _ _).alloc _
  have EK : Hid (resK (kindB bs) = .tuple #[.int .u8 4, .int .u32 s]) := by show _ = _; rw [hk]; rfl
  have EH : Hid (resRH (rHead bs) = .tuple #[.agg #[.int .u32 s, .int .i64 t], .int .i64 0]) := by show _ = _; rw [h1]; rfl
  have ED := Lib.hid h2
  have ER := Lib.hid h3
  have EC : Hid (resRC (rCommit bs) = .tuple #[.int .u32 0, .int .i64 0, .int .u32 0, .int .i64 90]) := by show _ = _; rw [h4]; rfl
  have EWH : Hid (resB (wHead s t) = (.tuple #[.agg (encB bs), .int .i64 0])) := by show _ = _; rw [hw]; rfl
  have EWD : Hid (resB (wDesc 0 []) = (.tuple #[.agg (encB Z256), .int .i64 2])) := by show _ = _; rfl
  have EWR : Hid (resB (wRevoke 0 []) = (.tuple #[.agg (encB Z256), .int .i64 2])) := by show _ = _; rfl
  have EWC : Hid (resB (wCommit 0 0 0) = (.tuple #[.agg (encB Z256), .int .i64 2])) := by show _ = _; rfl
  clear hk h1 h2 h3 h4 hw
  go_enter Try.func10, Try.ntmps10
  go_wp2_with fail
  refine (jawake _).mono ?_
  rintro e w1 ⟨rfl, hm⟩
  have M1 := M0.trans hm
  have HB := Lib.hid (hm.row (k := w.heap.size) HB.out (fun e => e))
  clear hm M0
  go_wp2_with (first | ((with_reducible refine wpList_loadBg blkT ?_ ?_ hl HB.out ?_); rfl; rfl))
  refine (jkind bs hl _).mono ?_
  rintro e w2 ⟨rfl, hm⟩
  rw [EK.out]
  have M2 := M1.trans hm
  have HB := Lib.hid (hm.row (k := w.heap.size) HB.out (fun e => e))
  clear hm M1
  go_wp2_with (first | ((with_reducible refine wpList_loadBg blkT ?_ ?_ hl HB.out ?_); rfl; rfl))
  refine (jrhead bs hl _).mono ?_
  rintro e w3 ⟨rfl, hm⟩
  rw [EH.out]
  have hm := hm.alloc (.cells #[.int .u32 s, .int .i64 t] 24)
  have M3 := M2.trans hm
  have HB := Lib.hid (hm.row (k := w.heap.size) HB.out (fun e => e))
  have HH := Lib.hid (heap_alloc_new w3 (.cells #[.int .u32 s, .int .i64 t] 24))
  clear hm M2
  go_wp2_with (first | ((with_reducible refine wpList_loadBg blkT ?_ ?_ hl HB.out ?_); rfl; rfl))
  refine (jrdesc bs hl _).mono ?_
  rintro e w4 ⟨hg, hm⟩
  rw [ED.out] at hg
  obtain rfl := (show e = _ from hg)
  have M4 := M3.trans hm
  have HB := Lib.hid (hm.row (k := w.heap.size) HB.out (fun e => e))
  have HH := Lib.hid (hm.row (k := w3.heap.size) HH.out (fun e => e))
  clear hm M3
  go_wp2_with (first | ((with_reducible refine wpList_loadBg blkT ?_ ?_ hl HB.out ?_); rfl; rfl))
  refine (jrrevoke bs hl _).mono ?_
  rintro e w5 ⟨hg, hm⟩
  rw [ER.out] at hg
  obtain rfl := (show e = _ from hg)
  have M5 := M4.trans hm
  have HB := Lib.hid (hm.row (k := w.heap.size) HB.out (fun e => e))
  have HH := Lib.hid (hm.row (k := w3.heap.size) HH.out (fun e => e))
  clear hm M4
  go_wp2_with (first | ((with_reducible refine wpList_loadBg blkT ?_ ?_ hl HB.out ?_); rfl; rfl))
  refine (jrcommit bs hl _).mono ?_
  rintro e w6 ⟨rfl, hm⟩
  rw [EC.out]
  have M6 := M5.trans hm
  have HB := Lib.hid (hm.row (k := w.heap.size) HB.out (fun e => e))
  have HH := Lib.hid (hm.row (k := w3.heap.size) HH.out (fun e => e))
  clear hm M5
  have h0 := (cell_of_row _ _ 0 _ _ _ HH.out).trans (show _ = some (.int .u32 s) from rfl)
  have h1 := (cell_of_row _ _ 1 _ _ _ HH.out).trans (show _ = some (.int .i64 t) from rfl)
  go_wp2_with fail
  refine (jwhead s t _ (by omega) (by omega)).mono ?_
  rintro e w7 ⟨rfl, hm⟩
  have HB7 : Hid (w.heap.size < w7.heap.size) := (show _ < _ from lt_of_row (hm.row (k := w.heap.size) HB.out (fun e => e)))
  rw [EWH.out]
  clear h0 h1
  obtain ⟨n7, m7⟩ := put_new w7 bs
  have hm := hm.trans m7
  have M7 := M6.trans hm
  have HB := Lib.hid (hm.row (k := w.heap.size) HB.out (fun e => e))
  have HH := Lib.hid (hm.row (k := w3.heap.size) HH.out (fun e => e))
  have HX := Lib.hid n7
  have HO := Lib.hid (heap_alloc_new w7 (.cells (encB Z256) 28))
  clear hm m7 n7 M6
  have h0 := (cell_of_row _ _ 0 _ _ _ HH.out).trans (show _ = some (.int .u32 s) from rfl)
  go_wp2_with (first | ((with_reducible refine wpList_storeB' blkT ?_ ?_ hl Z256_len HO.out ?_); rfl; rfl) | (with_reducible refine wpList_allocB' blkT ?_) | ((with_reducible refine wpList_loadBg blkT ?_ ?_ hl HX.out ?_); rfl; rfl) | ((with_reducible refine wpList_loadBg blkT ?_ ?_ hl HB.out ?_); rfl; rfl) | ((with_reducible refine wpList_neqBg blkT ?_ ?_ ?_ hl hl ?_); rfl; rfl; rfl))
  refine (jwdesc none _ _ [] 0 _ tagsAt_nil (by omega) (by omega) (by omega)).mono ?_
  rintro e w8 ⟨rfl, hm⟩
  rw [EWD.out]
  clear h0
  have HX := Lib.hid (hm.row (k := w7.heap.size) HX.out (fun e => e))
  have HB := Lib.hid (hm.row (k := w.heap.size) HB.out (fun e => e))
  have hlt7 : w.heap.size < w7.heap.size := HB7.out
  have M8 := (M7.trans hm).setRow (g := w7.heap.size) (.inr (by omega)) (encB Z256)
  clear hm M7
  have HX8 := Lib.hid (setRow_heap _ _ _ (encB Z256) _ _ HX.out)
  have HB := Lib.hid ((setRow_other w8 w7.heap.size w.heap.size (encB Z256) (by omega)).trans HB.out)
  go_wp2_with (first | ((with_reducible refine wpList_storeB' blkT ?_ ?_ Z256_len hl HX.out ?_); rfl; rfl) | ((with_reducible refine wpList_loadBg blkT ?_ ?_ Z256_len HX8.out ?_); rfl; rfl) | ((with_reducible refine wpList_loadBg blkT ?_ ?_ hl HB.out ?_); rfl; rfl) | ((with_reducible refine wpList_neqBg blkT ?_ ?_ ?_ hl hl ?_); rfl; rfl; rfl))
  refine (jwrevoke none _ _ [] 0 _ numsAt_nil (by omega) (by omega) (by omega)).mono ?_
  rintro e w9 ⟨rfl, hm⟩
  rw [EWR.out]
  have HX := Lib.hid (hm.row (k := w7.heap.size) HX8.out (fun e => e))
  have HB := Lib.hid (hm.row (k := w.heap.size) HB.out (fun e => e))
  have M9 := (M8.trans hm).setRow (g := w7.heap.size) (.inr (by omega)) (encB Z256)
  clear hm M8 HX8
  have HX9 := Lib.hid (setRow_heap _ _ _ (encB Z256) _ _ HX.out)
  have HB := Lib.hid ((setRow_other w9 w7.heap.size w.heap.size (encB Z256) (by omega)).trans HB.out)
  go_wp2_with (first | ((with_reducible refine wpList_storeB' blkT ?_ ?_ Z256_len Z256_len HX.out ?_); rfl; rfl) | ((with_reducible refine wpList_loadBg blkT ?_ ?_ Z256_len HX9.out ?_); rfl; rfl) | ((with_reducible refine wpList_loadBg blkT ?_ ?_ hl HB.out ?_); rfl; rfl) | ((with_reducible refine wpList_neqBg blkT ?_ ?_ ?_ hl hl ?_); rfl; rfl; rfl))
  refine (jwcommit 0 0 0 _ (by omega) (by omega) (by omega) (by omega)).mono ?_
  rintro e w10 ⟨rfl, hm⟩
  rw [EWC.out]
  have HX := Lib.hid (hm.row (k := w7.heap.size) HX9.out (fun e => e))
  have HB := Lib.hid (hm.row (k := w.heap.size) HB.out (fun e => e))
  have M10 := (M9.trans hm).setRow (g := w7.heap.size) (.inr (by omega)) (encB Z256)
  clear hm M9 HX9
  have HX10 := Lib.hid (setRow_heap _ _ _ (encB Z256) _ _ HX.out)
  have HB := Lib.hid ((setRow_other w10 w7.heap.size w.heap.size (encB Z256) (by omega)).trans HB.out)
  go_wp2_with (first | ((with_reducible refine wpList_storeB' blkT ?_ ?_ Z256_len Z256_len HX.out ?_); rfl; rfl) | ((with_reducible refine wpList_loadBg blkT ?_ ?_ Z256_len HX10.out ?_); rfl; rfl) | ((with_reducible refine wpList_loadBg blkT ?_ ?_ hl HB.out ?_); rfl; rfl) | ((with_reducible refine wpList_eqlBg blkT ?_ ?_ ?_ hl hl ?_); rfl; rfl; rfl))
  go_ret
  exact ⟨rfl, M10.new⟩
end Go.Proofs.Ytckadanghhibhaa.jblockBlocks
