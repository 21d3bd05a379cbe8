/- Is a block read as one kind, and as no other one? -/
import Derived.Test.YtckadanghhibhaaJback1
namespace Go.Proofs.Ytckadanghhibhaa
open Go.RowKit

set_option maxRecDepth 100000 in
set_option maxHeartbeats 4000000 in
theorem jone_none (bs : List UInt8) (hl : bs.length = 256) (w : World) (k s kk : Int) (R : ReadAs bs k s none none none none) :
    Calls Try.prog 36 #[.agg (encB bs), .bool false, .int .u8 kk] w fun e w' => e = .returned (.bool true) ∧ Mod none' w w' := by
  have HB := Lib.hid (heap_alloc_new w (.cells (encB bs) 28))
  have M0 : Mod none' w (w.alloc (.cells (encB bs) 28)) := (Mod.refl _ _).alloc _
  have EK : Hid (resK (kindB bs) = .tuple #[.int .u8 k, .int .u32 s]) := by show _ = _; rw [R.kind]; rfl
  have EH : Hid (resRH (rHead bs) = .tuple #[.agg #[.int .u32 0, .int .i64 0], .int .i64 90]) := by show _ = _; rw [R.head]; rfl
  have ED := Lib.hid R.desc
  have ER := Lib.hid R.rev
  have EC : Hid (resRC (rCommit bs) = .tuple #[.int .u32 0, .int .i64 0, .int .u32 0, .int .i64 90]) := by show _ = _; rw [R.com]; rfl
  clear R
  go_enter Try.func36, Try.ntmps36
  go_wp2_with (first | ((with_reducible refine wpList_loadBg blkT ?_ ?_ hl HB.out ?_); rfl; rfl))
  refine (jrhead bs hl _).mono ?_
  rintro e w3 ⟨rfl, hm⟩
  rw [EH.out]
  have hm := hm.alloc (.cells #[.int .u32 0, .int .i64 0] 24)
  have M3 := M0.trans hm
  have HB := Lib.hid (hm.row (k := w.heap.size) HB.out (fun e => e))
  clear hm M0
  go_wp2_with (first | ((with_reducible refine wpList_loadBg blkT ?_ ?_ hl HB.out ?_); rfl; rfl))
  refine (jrdesc bs hl _).mono ?_
  rintro e w4 ⟨hg, hm⟩
  rw [ED.out] at hg
  obtain rfl := (show e = _ from hg)
  have M4 := M3.trans hm
  have HB := Lib.hid (hm.row (k := w.heap.size) HB.out (fun e => e))
  clear hm M3
  go_wp2_with (first | ((with_reducible refine wpList_loadBg blkT ?_ ?_ hl HB.out ?_); rfl; rfl))
  refine (jrrevoke bs hl _).mono ?_
  rintro e w5 ⟨hg, hm⟩
  rw [ER.out] at hg
  obtain rfl := (show e = _ from hg)
  have M5 := M4.trans hm
  have HB := Lib.hid (hm.row (k := w.heap.size) HB.out (fun e => e))
  clear hm M4
  go_wp2_with (first | ((with_reducible refine wpList_loadBg blkT ?_ ?_ hl HB.out ?_); rfl; rfl))
  refine (jrcommit bs hl _).mono ?_
  rintro e w6 ⟨rfl, hm⟩
  rw [EC.out]
  have hm := hm.alloc (.cells #[.bool false, .bool false, .bool false, .bool false, .bool false] 4)
  have M6 := M5.trans hm
  have HB := Lib.hid (hm.row (k := w.heap.size) HB.out (fun e => e))
  have HS := Lib.hid (heap_alloc_new w6 (.cells #[.bool false, .bool false, .bool false, .bool false, .bool false] 4))
  clear hm M5
  go_wp2_with (first | ((with_reducible refine wpList_loadBg blkT ?_ ?_ hl HB.out ?_); rfl; rfl))
  refine (jkind bs hl _).mono ?_
  rintro e w7 ⟨rfl, hm⟩
  rw [EK.out]
  have M7 := M6.trans hm
  have HS := Lib.hid (hm.row (k := w6.heap.size) HS.out (fun e => e))
  have b1 := (cell_of_row _ _ 1 _ _ _ HS.out).trans (show _ = some (.bool false) from rfl)
  have b2 := (cell_of_row _ _ 2 _ _ _ HS.out).trans (show _ = some (.bool false) from rfl)
  have b3 := (cell_of_row _ _ 3 _ _ _ HS.out).trans (show _ = some (.bool false) from rfl)
  have b4 := (cell_of_row _ _ 4 _ _ _ HS.out).trans (show _ = some (.bool false) from rfl)
  clear hm M6
  go_wp2
  refine wp_loop_rounds 5 ?_
  rw [rounds_succ]
  go_wp2
  rw [rounds_succ]
  go_wp2
  rw [rounds_succ]
  go_wp2
  rw [rounds_succ]
  go_wp2
  rw [rounds_succ]
  go_wp2
  go_ret
  exact ⟨rfl, M7⟩

set_option maxRecDepth 100000 in
set_option maxHeartbeats 4000000 in
theorem jone_head (bs : List UInt8) (hl : bs.length = 256) (w : World) (s t : Int) (R : ReadAs bs 4 s (some (s, t)) none none none) :
    Calls Try.prog 36 #[.agg (encB bs), .bool true, .int .u8 4] w fun e w' => e = .returned (.bool true) ∧ Mod none' w w' := by
  have HB := Lib.hid (heap_alloc_new w (.cells (encB bs) 28))
  have M0 : Mod none' w (w.alloc (.cells (encB bs) 28)) := (Mod.refl _ _).alloc _
  have EK : Hid (resK (kindB bs) = .tuple #[.int .u8 4, .int .u32 s]) := by show _ = _; rw [R.kind]; rfl
  have EH : Hid (resRH (rHead bs) = .tuple #[.agg #[.int .u32 s, .int .i64 t], .int .i64 0]) := by show _ = _; rw [R.head]; rfl
  have ED := Lib.hid R.desc
  have ER := Lib.hid R.rev
  have EC : Hid (resRC (rCommit bs) = .tuple #[.int .u32 0, .int .i64 0, .int .u32 0, .int .i64 90]) := by show _ = _; rw [R.com]; rfl
  clear R
  go_enter Try.func36, Try.ntmps36
  go_wp2_with (first | ((with_reducible refine wpList_loadBg blkT ?_ ?_ hl HB.out ?_); rfl; rfl))
  refine (jrhead bs hl _).mono ?_
  rintro e w3 ⟨rfl, hm⟩
  rw [EH.out]
  have hm := hm.alloc (.cells #[.int .u32 s, .int .i64 t] 24)
  have M3 := M0.trans hm
  have HB := Lib.hid (hm.row (k := w.heap.size) HB.out (fun e => e))
  clear hm M0
  go_wp2_with (first | ((with_reducible refine wpList_loadBg blkT ?_ ?_ hl HB.out ?_); rfl; rfl))
  refine (jrdesc bs hl _).mono ?_
  rintro e w4 ⟨hg, hm⟩
  rw [ED.out] at hg
  obtain rfl := (show e = _ from hg)
  have M4 := M3.trans hm
  have HB := Lib.hid (hm.row (k := w.heap.size) HB.out (fun e => e))
  clear hm M3
  go_wp2_with (first | ((with_reducible refine wpList_loadBg blkT ?_ ?_ hl HB.out ?_); rfl; rfl))
  refine (jrrevoke bs hl _).mono ?_
  rintro e w5 ⟨hg, hm⟩
  rw [ER.out] at hg
  obtain rfl := (show e = _ from hg)
  have M5 := M4.trans hm
  have HB := Lib.hid (hm.row (k := w.heap.size) HB.out (fun e => e))
  clear hm M4
  go_wp2_with (first | ((with_reducible refine wpList_loadBg blkT ?_ ?_ hl HB.out ?_); rfl; rfl))
  refine (jrcommit bs hl _).mono ?_
  rintro e w6 ⟨rfl, hm⟩
  rw [EC.out]
  have hm := hm.alloc (.cells #[.bool false, .bool false, .bool false, .bool false, .bool true] 4)
  have M6 := M5.trans hm
  have HB := Lib.hid (hm.row (k := w.heap.size) HB.out (fun e => e))
  have HS := Lib.hid (heap_alloc_new w6 (.cells #[.bool false, .bool false, .bool false, .bool false, .bool true] 4))
  clear hm M5
  go_wp2_with (first | ((with_reducible refine wpList_loadBg blkT ?_ ?_ hl HB.out ?_); rfl; rfl))
  refine (jkind bs hl _).mono ?_
  rintro e w7 ⟨rfl, hm⟩
  rw [EK.out]
  have M7 := M6.trans hm
  have HS := Lib.hid (hm.row (k := w6.heap.size) HS.out (fun e => e))
  have b1 := (cell_of_row _ _ 1 _ _ _ HS.out).trans (show _ = some (.bool false) from rfl)
  have b2 := (cell_of_row _ _ 2 _ _ _ HS.out).trans (show _ = some (.bool false) from rfl)
  have b3 := (cell_of_row _ _ 3 _ _ _ HS.out).trans (show _ = some (.bool false) from rfl)
  have b4 := (cell_of_row _ _ 4 _ _ _ HS.out).trans (show _ = some (.bool true) from rfl)
  clear hm M6
  go_wp2
  refine wp_loop_rounds 5 ?_
  rw [rounds_succ]
  go_wp2
  rw [rounds_succ]
  go_wp2
  rw [rounds_succ]
  go_wp2
  rw [rounds_succ]
  go_wp2
  rw [rounds_succ]
  go_wp2
  go_ret
  exact ⟨rfl, M7⟩

set_option maxRecDepth 100000 in
set_option maxHeartbeats 4000000 in
theorem jone_desc (bs : List UInt8) (hl : bs.length = 256) (w : World) (s : Int) (l : List (Int × Bool)) (R : ReadAs bs 1 s none (some (s, l)) none none) :
    Calls Try.prog 36 #[.agg (encB bs), .bool true, .int .u8 1] w fun e w' => e = .returned (.bool true) ∧ Mod none' w w' := by
  have HB := Lib.hid (heap_alloc_new w (.cells (encB bs) 28))
  have M0 : Mod none' w (w.alloc (.cells (encB bs) 28)) := (Mod.refl _ _).alloc _
  have EK : Hid (resK (kindB bs) = .tuple #[.int .u8 1, .int .u32 s]) := by show _ = _; rw [R.kind]; rfl
  have EH : Hid (resRH (rHead bs) = .tuple #[.agg #[.int .u32 0, .int .i64 0], .int .i64 90]) := by show _ = _; rw [R.head]; rfl
  have ED := Lib.hid R.desc
  have ER := Lib.hid R.rev
  have EC : Hid (resRC (rCommit bs) = .tuple #[.int .u32 0, .int .i64 0, .int .u32 0, .int .i64 90]) := by show _ = _; rw [R.com]; rfl
  clear R
  go_enter Try.func36, Try.ntmps36
  go_wp2_with (first | ((with_reducible refine wpList_loadBg blkT ?_ ?_ hl HB.out ?_); rfl; rfl))
  refine (jrhead bs hl _).mono ?_
  rintro e w3 ⟨rfl, hm⟩
  rw [EH.out]
  have hm := hm.alloc (.cells #[.int .u32 0, .int .i64 0] 24)
  have M3 := M0.trans hm
  have HB := Lib.hid (hm.row (k := w.heap.size) HB.out (fun e => e))
  clear hm M0
  go_wp2_with (first | ((with_reducible refine wpList_loadBg blkT ?_ ?_ hl HB.out ?_); rfl; rfl))
  refine (jrdesc bs hl _).mono ?_
  rintro e w4 ⟨hg, hm⟩
  rw [ED.out] at hg
  obtain ⟨LT, hLT, hrow, rfl⟩ := hg
  clear hrow hLT
  have M4 := M3.trans hm
  have HB := Lib.hid (hm.row (k := w.heap.size) HB.out (fun e => e))
  clear hm M3
  go_wp2_with (first | ((with_reducible refine wpList_loadBg blkT ?_ ?_ hl HB.out ?_); rfl; rfl))
  refine (jrrevoke bs hl _).mono ?_
  rintro e w5 ⟨hg, hm⟩
  rw [ER.out] at hg
  obtain rfl := (show e = _ from hg)
  have M5 := M4.trans hm
  have HB := Lib.hid (hm.row (k := w.heap.size) HB.out (fun e => e))
  clear hm M4
  go_wp2_with (first | ((with_reducible refine wpList_loadBg blkT ?_ ?_ hl HB.out ?_); rfl; rfl))
  refine (jrcommit bs hl _).mono ?_
  rintro e w6 ⟨rfl, hm⟩
  rw [EC.out]
  have hm := hm.alloc (.cells #[.bool false, .bool true, .bool false, .bool false, .bool false] 4)
  have M6 := M5.trans hm
  have HB := Lib.hid (hm.row (k := w.heap.size) HB.out (fun e => e))
  have HS := Lib.hid (heap_alloc_new w6 (.cells #[.bool false, .bool true, .bool false, .bool false, .bool false] 4))
  clear hm M5
  go_wp2_with (first | ((with_reducible refine wpList_loadBg blkT ?_ ?_ hl HB.out ?_); rfl; rfl))
  refine (jkind bs hl _).mono ?_
  rintro e w7 ⟨rfl, hm⟩
  rw [EK.out]
  have M7 := M6.trans hm
  have HS := Lib.hid (hm.row (k := w6.heap.size) HS.out (fun e => e))
  have b1 := (cell_of_row _ _ 1 _ _ _ HS.out).trans (show _ = some (.bool true) from rfl)
  have b2 := (cell_of_row _ _ 2 _ _ _ HS.out).trans (show _ = some (.bool false) from rfl)
  have b3 := (cell_of_row _ _ 3 _ _ _ HS.out).trans (show _ = some (.bool false) from rfl)
  have b4 := (cell_of_row _ _ 4 _ _ _ HS.out).trans (show _ = some (.bool false) from rfl)
  clear hm M6
  go_wp2
  refine wp_loop_rounds 5 ?_
  rw [rounds_succ]
  go_wp2
  rw [rounds_succ]
  go_wp2
  rw [rounds_succ]
  go_wp2
  rw [rounds_succ]
  go_wp2
  rw [rounds_succ]
  go_wp2
  go_ret
  exact ⟨rfl, M7⟩

set_option maxRecDepth 100000 in
set_option maxHeartbeats 4000000 in
theorem jone_revoke (bs : List UInt8) (hl : bs.length = 256) (w : World) (s : Int) (l : List Int) (R : ReadAs bs 3 s none none (some (s, l)) none) :
    Calls Try.prog 36 #[.agg (encB bs), .bool true, .int .u8 3] w fun e w' => e = .returned (.bool true) ∧ Mod none' w w' := by
  have HB := Lib.hid (heap_alloc_new w (.cells (encB bs) 28))
  have M0 : Mod none' w (w.alloc (.cells (encB bs) 28)) := (Mod.refl _ _).alloc _
  have EK : Hid (resK (kindB bs) = .tuple #[.int .u8 3, .int .u32 s]) := by show _ = _; rw [R.kind]; rfl
  have EH : Hid (resRH (rHead bs) = .tuple #[.agg #[.int .u32 0, .int .i64 0], .int .i64 90]) := by show _ = _; rw [R.head]; rfl
  have ED := Lib.hid R.desc
  have ER := Lib.hid R.rev
  have EC : Hid (resRC (rCommit bs) = .tuple #[.int .u32 0, .int .i64 0, .int .u32 0, .int .i64 90]) := by show _ = _; rw [R.com]; rfl
  clear R
  go_enter Try.func36, Try.ntmps36
  go_wp2_with (first | ((with_reducible refine wpList_loadBg blkT ?_ ?_ hl HB.out ?_); rfl; rfl))
  refine (jrhead bs hl _).mono ?_
  rintro e w3 ⟨rfl, hm⟩
  rw [EH.out]
  have hm := hm.alloc (.cells #[.int .u32 0, .int .i64 0] 24)
  have M3 := M0.trans hm
  have HB := Lib.hid (hm.row (k := w.heap.size) HB.out (fun e => e))
  clear hm M0
  go_wp2_with (first | ((with_reducible refine wpList_loadBg blkT ?_ ?_ hl HB.out ?_); rfl; rfl))
  refine (jrdesc bs hl _).mono ?_
  rintro e w4 ⟨hg, hm⟩
  rw [ED.out] at hg
  obtain rfl := (show e = _ from hg)
  have M4 := M3.trans hm
  have HB := Lib.hid (hm.row (k := w.heap.size) HB.out (fun e => e))
  clear hm M3
  go_wp2_with (first | ((with_reducible refine wpList_loadBg blkT ?_ ?_ hl HB.out ?_); rfl; rfl))
  refine (jrrevoke bs hl _).mono ?_
  rintro e w5 ⟨hg, hm⟩
  rw [ER.out] at hg
  obtain ⟨LT, hLT, hrow, rfl⟩ := hg
  clear hrow hLT
  have M5 := M4.trans hm
  have HB := Lib.hid (hm.row (k := w.heap.size) HB.out (fun e => e))
  clear hm M4
  go_wp2_with (first | ((with_reducible refine wpList_loadBg blkT ?_ ?_ hl HB.out ?_); rfl; rfl))
  refine (jrcommit bs hl _).mono ?_
  rintro e w6 ⟨rfl, hm⟩
  rw [EC.out]
  have hm := hm.alloc (.cells #[.bool false, .bool false, .bool false, .bool true, .bool false] 4)
  have M6 := M5.trans hm
  have HB := Lib.hid (hm.row (k := w.heap.size) HB.out (fun e => e))
  have HS := Lib.hid (heap_alloc_new w6 (.cells #[.bool false, .bool false, .bool false, .bool true, .bool false] 4))
  clear hm M5
  go_wp2_with (first | ((with_reducible refine wpList_loadBg blkT ?_ ?_ hl HB.out ?_); rfl; rfl))
  refine (jkind bs hl _).mono ?_
  rintro e w7 ⟨rfl, hm⟩
  rw [EK.out]
  have M7 := M6.trans hm
  have HS := Lib.hid (hm.row (k := w6.heap.size) HS.out (fun e => e))
  have b1 := (cell_of_row _ _ 1 _ _ _ HS.out).trans (show _ = some (.bool false) from rfl)
  have b2 := (cell_of_row _ _ 2 _ _ _ HS.out).trans (show _ = some (.bool false) from rfl)
  have b3 := (cell_of_row _ _ 3 _ _ _ HS.out).trans (show _ = some (.bool true) from rfl)
  have b4 := (cell_of_row _ _ 4 _ _ _ HS.out).trans (show _ = some (.bool false) from rfl)
  clear hm M6
  go_wp2
  refine wp_loop_rounds 5 ?_
  rw [rounds_succ]
  go_wp2
  rw [rounds_succ]
  go_wp2
  rw [rounds_succ]
  go_wp2
  rw [rounds_succ]
  go_wp2
  rw [rounds_succ]
  go_wp2
  go_ret
  exact ⟨rfl, M7⟩

set_option maxRecDepth 100000 in
set_option maxHeartbeats 4000000 in
theorem jone_commit (bs : List UInt8) (hl : bs.length = 256) (w : World) (s c m : Int) (R : ReadAs bs 2 s none none none (some (s, c, m))) :
    Calls Try.prog 36 #[.agg (encB bs), .bool true, .int .u8 2] w fun e w' => e = .returned (.bool true) ∧ Mod none' w w' := by
  have HB := Lib.hid (heap_alloc_new w (.cells (encB bs) 28))
  have M0 : Mod none' w (w.alloc (.cells (encB bs) 28)) := (Mod.refl _ _).alloc _
  have EK : Hid (resK (kindB bs) = .tuple #[.int .u8 2, .int .u32 s]) := by show _ = _; rw [R.kind]; rfl
  have EH : Hid (resRH (rHead bs) = .tuple #[.agg #[.int .u32 0, .int .i64 0], .int .i64 90]) := by show _ = _; rw [R.head]; rfl
  have ED := Lib.hid R.desc
  have ER := Lib.hid R.rev
  have EC : Hid (resRC (rCommit bs) = .tuple #[.int .u32 s, .int .i64 c, .int .u32 m, .int .i64 0]) := by show _ = _; rw [R.com]; rfl
  clear R
  go_enter Try.func36, Try.ntmps36
  go_wp2_with (first | ((with_reducible refine wpList_loadBg blkT ?_ ?_ hl HB.out ?_); rfl; rfl))
  refine (jrhead bs hl _).mono ?_
  rintro e w3 ⟨rfl, hm⟩
  rw [EH.out]
  have hm := hm.alloc (.cells #[.int .u32 0, .int .i64 0] 24)
  have M3 := M0.trans hm
  have HB := Lib.hid (hm.row (k := w.heap.size) HB.out (fun e => e))
  clear hm M0
  go_wp2_with (first | ((with_reducible refine wpList_loadBg blkT ?_ ?_ hl HB.out ?_); rfl; rfl))
  refine (jrdesc bs hl _).mono ?_
  rintro e w4 ⟨hg, hm⟩
  rw [ED.out] at hg
  obtain rfl := (show e = _ from hg)
  have M4 := M3.trans hm
  have HB := Lib.hid (hm.row (k := w.heap.size) HB.out (fun e => e))
  clear hm M3
  go_wp2_with (first | ((with_reducible refine wpList_loadBg blkT ?_ ?_ hl HB.out ?_); rfl; rfl))
  refine (jrrevoke bs hl _).mono ?_
  rintro e w5 ⟨hg, hm⟩
  rw [ER.out] at hg
  obtain rfl := (show e = _ from hg)
  have M5 := M4.trans hm
  have HB := Lib.hid (hm.row (k := w.heap.size) HB.out (fun e => e))
  clear hm M4
  go_wp2_with (first | ((with_reducible refine wpList_loadBg blkT ?_ ?_ hl HB.out ?_); rfl; rfl))
  refine (jrcommit bs hl _).mono ?_
  rintro e w6 ⟨rfl, hm⟩
  rw [EC.out]
  have hm := hm.alloc (.cells #[.bool false, .bool false, .bool true, .bool false, .bool false] 4)
  have M6 := M5.trans hm
  have HB := Lib.hid (hm.row (k := w.heap.size) HB.out (fun e => e))
  have HS := Lib.hid (heap_alloc_new w6 (.cells #[.bool false, .bool false, .bool true, .bool false, .bool false] 4))
  clear hm M5
  go_wp2_with (first | ((with_reducible refine wpList_loadBg blkT ?_ ?_ hl HB.out ?_); rfl; rfl))
  refine (jkind bs hl _).mono ?_
  rintro e w7 ⟨rfl, hm⟩
  rw [EK.out]
  have M7 := M6.trans hm
  have HS := Lib.hid (hm.row (k := w6.heap.size) HS.out (fun e => e))
  have b1 := (cell_of_row _ _ 1 _ _ _ HS.out).trans (show _ = some (.bool false) from rfl)
  have b2 := (cell_of_row _ _ 2 _ _ _ HS.out).trans (show _ = some (.bool true) from rfl)
  have b3 := (cell_of_row _ _ 3 _ _ _ HS.out).trans (show _ = some (.bool false) from rfl)
  have b4 := (cell_of_row _ _ 4 _ _ _ HS.out).trans (show _ = some (.bool false) from rfl)
  clear hm M6
  go_wp2
  refine wp_loop_rounds 5 ?_
  rw [rounds_succ]
  go_wp2
  rw [rounds_succ]
  go_wp2
  rw [rounds_succ]
  go_wp2
  rw [rounds_succ]
  go_wp2
  rw [rounds_succ]
  go_wp2
  go_ret
  exact ⟨rfl, M7⟩
end Go.Proofs.Ytckadanghhibhaa
