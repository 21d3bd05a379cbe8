/- The chapter's examples of journal blocks. -/
import Derived.Test.YtckadanghhibhaaJk
namespace Go.Proofs.Ytckadanghhibhaa
open Go.RowKit

/-- A new block that holds bs: what lies, and what stays. -/
theorem put_new (w1 : World) (bs : List UInt8) :
    ((w1.alloc (.cells (encB Z256) 28)).setRow w1.heap.size (encB bs)).heap[w1.heap.size]? = some (.cells (encB bs) 28 (0, 0)) ∧ Mod none' w1 ((w1.alloc (.cells (encB Z256) 28)).setRow w1.heap.size (encB bs)) :=
  ⟨setRow_heap _ _ _ _ _ _ (heap_alloc_new w1 _), ((Mod.refl _ _).alloc _).setRow (.inr (by omega)) _⟩
theorem byte_cell {w : World} {g : Nat} {bs : List UInt8} {E : TypeId} (k : Nat) (v : Int) (h : w.heap[g]? = some (.cells (encB bs) E (0, 0))) (hk : k < bs.length) (hv : gB bs k = v) : w.cell? ⟨g, k, none⟩ = some (.int .u8 v) := by
  rw [cell_of_row _ _ k _ _ _ h, encB_get _ _ hk, ← hv]; rfl

theorem tags_new (w : World) (a b : Int) (x y : Bool) (N : Nat) (hN : w.heap.size = N) (a0 : 0 ≤ a ∧ a < 4294967296) (b0 : 0 ≤ b ∧ b < 4294967296) :
    TagsAt (w.alloc (.cells #[.int .u32 a, .bool x, .int .u32 b, .bool y] 55)) (some ⟨N, 0, none⟩) 2 [(a, x), (b, y)] := by
  subst hN
  have hr := heap_alloc_new w (.cells #[.int .u32 a, .bool x, .int .u32 b, .bool y] 55)
  refine ⟨rfl, fun k => ?_, w.heap.size, 0, .inr ⟨rfl, by simp⟩, fun k hk => ?_⟩
  · match k with
    | 0 => exact a0
    | 1 => exact b0
    | k + 2 => exact ⟨by simp, by simp⟩
  · match k, hk with
    | 0, _ => exact ⟨(cell_of_row _ _ 0 _ _ _ hr).trans rfl, (cell_of_row _ _ 1 _ _ _ hr).trans rfl⟩
    | 1, _ => exact ⟨(cell_of_row _ _ 2 _ _ _ hr).trans rfl, (cell_of_row _ _ 3 _ _ _ hr).trans rfl⟩

set_option maxRecDepth 100000 in
set_option maxHeartbeats 2000000 in
theorem jawake (w : World) :
    Calls Try.prog 21 #[] w fun e w' => e = .returned (.bool true) ∧ Mod none' w w' := by
  obtain ⟨b1, hb1⟩ : ∃ b, blkOf (wHead 7 3) = b := ⟨_, rfl⟩
  have R1 : Hid (resB (wHead 7 3) = .tuple #[.agg (encB b1), .int .i64 0]) := by show _ = _; rw [resB_eq, hb1]; rfl
  have l1 : b1.length = 256 := by rw [← hb1]; exact wHead_len _ _
  have R2 : Hid (resB (wHead 7 256) = .tuple #[.agg (encB Z256), .int .i64 2]) := by show _ = _; rfl
  obtain ⟨b3, hb3⟩ : ∃ b, blkOf (wDesc 2 [(5, false), (9, true)]) = b := ⟨_, rfl⟩
  have R3 : Hid (resB (wDesc 2 [(5, false), (9, true)]) = .tuple #[.agg (encB b3), .int .i64 0]) := by show _ = _; rw [resB_eq, hb3]; rfl
  have l3 : b3.length = 256 := by rw [← hb3]; exact wDesc_len _ _
  have R4 : Hid (resB (wDesc 2 [(9, false), (5, false)]) = .tuple #[.agg (encB Z256), .int .i64 2]) := by show _ = _; rfl
  obtain ⟨b6, hb6⟩ : ∃ b, escB b1 = b := ⟨_, rfl⟩
  have l6 : b6.length = 256 := by rw [← hb6]; exact escB_len _ l1
  have R5 : Hid (resK (kindB b1) = .tuple #[.int .u8 4, .int .u32 7]) := by
    have e : kindB b1 = (4, 7) := by rw [← hb1]; decide +kernel
    show _ = _; rw [e]; rfl
  have R6 : Hid (isB b1 = true) := by show _ = _; rw [← hb1]; decide +kernel
  have g1 : gB b1 0 = 81 ∧ gB b1 3 = 76 ∧ gB b1 4 = 4 ∧ gB b1 8 = 7 ∧ gB b1 12 = 3 := by rw [← hb1]; decide +kernel
  have g3 : gB b3 4 = 1 ∧ gB b3 12 = 2 ∧ gB b3 16 = 5 ∧ gB b3 24 = 9 ∧ gB b3 28 = 1 := by rw [← hb3]; decide +kernel
  have g6 : gB b6 0 = 0 ∧ gB b6 4 = 4 := by rw [← hb6, ← hb1]; decide +kernel
  have G1 := Lib.hid g1
  have G3 := Lib.hid g3
  have G6 := Lib.hid g6
  have HB6 := Lib.hid hb6
  clear g1 g3 g6 hb1 hb3 hb6
  go_enter Try.func21, Try.ntmps21
  go_wp2_with fail
  refine (jwhead 7 3 _ (by omega) (by omega)).mono ?_
  rintro e w1 ⟨rfl, hm⟩
  rw [R1.out]
  obtain ⟨n1, m1⟩ := put_new w1 b1
  have HN1 := Lib.hid n1
  have HO1 := Lib.hid (heap_alloc_new w1 (.cells (encB Z256) 28))
  have M1 := hm.trans m1
  clear n1 m1 hm
  go_wp2_with (first | (with_reducible refine wpList_allocB' blkT ?_) | ((with_reducible refine wpList_storeB' blkT ?_ ?_ l1 Z256_len HO1.out ?_); rfl; rfl))
  refine (jwhead 7 256 _ (by omega) (by omega)).mono ?_
  rintro e w2 ⟨rfl, hm⟩
  rw [R2.out]
  obtain ⟨n2, m2⟩ := put_new w2 Z256
  have M2 := (M1.trans hm).trans m2
  have HN1 := Lib.hid (m2.row (k := w1.heap.size) (hm.row (k := w1.heap.size) HN1.out (fun e => e)) (fun e => e))
  have HN2 := Lib.hid n2
  have HO2 := Lib.hid (heap_alloc_new w2 (.cells (encB Z256) 28))
  clear n2 m2 hm M1
  go_wp2_with (first | (with_reducible refine wpList_allocB' blkT ?_) | ((with_reducible refine wpList_storeB' blkT ?_ ?_ Z256_len Z256_len HO2.out ?_); rfl; rfl))
  have ha := (Mod.refl none' ((w2.alloc (.cells (encB Z256) 28)).setRow w2.heap.size (encB Z256))).alloc (.cells #[.int .u32 5, .bool false, .int .u32 9, .bool true] 55)
  refine (jwdesc (some ⟨w2.heap.size + 1, 0, none⟩) 2 2 [(5, false), (9, true)] 2 _ (tags_new _ _ _ _ _ _ (by simp) (by omega) (by omega)) (by omega) (by omega) (by omega)).mono ?_
  rintro e w3 ⟨rfl, hm⟩
  rw [R3.out]
  replace hm := ha.trans hm
  clear ha
  obtain ⟨n3, m3⟩ := put_new w3 b3
  have M3 := (M2.trans hm).trans m3
  have HN1 := Lib.hid (m3.row (k := w1.heap.size) (hm.row (k := w1.heap.size) HN1.out (fun e => e)) (fun e => e))
  have HN3 := Lib.hid n3
  have HO3 := Lib.hid (heap_alloc_new w3 (.cells (encB Z256) 28))
  clear n3 m3 hm M2
  go_wp2_with (first | (with_reducible refine wpList_allocB' blkT ?_) | ((with_reducible refine wpList_storeB' blkT ?_ ?_ l3 Z256_len HO3.out ?_); rfl; rfl))
  have ha := (Mod.refl none' ((w3.alloc (.cells (encB Z256) 28)).setRow w3.heap.size (encB b3))).alloc (.cells #[.int .u32 9, .bool false, .int .u32 5, .bool false] 55)
  refine (jwdesc (some ⟨w3.heap.size + 1, 0, none⟩) 2 2 [(9, false), (5, false)] 2 _ (tags_new _ _ _ _ _ _ (by simp) (by omega) (by omega)) (by omega) (by omega) (by omega)).mono ?_
  rintro e w4 ⟨rfl, hm⟩
  rw [R4.out]
  replace hm := ha.trans hm
  clear ha
  obtain ⟨n4, m4⟩ := put_new w4 Z256
  have M4 := (M3.trans hm).trans m4
  have HN1 := Lib.hid (m4.row (k := w1.heap.size) (hm.row (k := w1.heap.size) HN1.out (fun e => e)) (fun e => e))
  have HN3 := Lib.hid (m4.row (k := w3.heap.size) (hm.row (k := w3.heap.size) HN3.out (fun e => e)) (fun e => e))
  have HN4 := Lib.hid n4
  have HO4 := Lib.hid (heap_alloc_new w4 (.cells (encB Z256) 28))
  clear n4 m4 hm M3
  go_wp2_with (first | ((with_reducible refine wpList_loadB' blkT ?_ l1 HN1.out ?_); rfl) | (with_reducible refine wpList_allocB' blkT ?_) | ((with_reducible refine wpList_storeB' blkT ?_ ?_ Z256_len Z256_len HO4.out ?_); rfl; rfl))
  refine (jkind b1 l1 _).mono ?_
  rintro e w5 ⟨rfl, hm⟩
  rw [R5.out]
  have M5 := M4.trans hm
  have HN1 := Lib.hid (hm.row (k := w1.heap.size) HN1.out (fun e => e))
  have HN3 := Lib.hid (hm.row (k := w3.heap.size) HN3.out (fun e => e))
  clear hm M4
  go_wp2_with (first | ((with_reducible refine wpList_loadB' blkT ?_ l1 HN1.out ?_); rfl))
  refine (jesc b1 l1 _).mono ?_
  rintro e w6 ⟨rfl, hm⟩
  rw [R6.out, HB6.out]
  obtain ⟨n6, m6⟩ := put_new w6 b6
  have M6 := (M5.trans hm).trans m6
  have HN1 := Lib.hid (m6.row (k := w1.heap.size) (hm.row (k := w1.heap.size) HN1.out (fun e => e)) (fun e => e))
  have HN3 := Lib.hid (m6.row (k := w3.heap.size) (hm.row (k := w3.heap.size) HN3.out (fun e => e)) (fun e => e))
  have HN6 := Lib.hid n6
  have HO6 := Lib.hid (heap_alloc_new w6 (.cells (encB Z256) 28))
  clear n6 m6 hm M5
  have c1_0 := byte_cell 0 _ HN1.out (by omega) G1.out.1
  have c1_3 := byte_cell 3 _ HN1.out (by omega) G1.out.2.1
  have c1_4 := byte_cell 4 _ HN1.out (by omega) G1.out.2.2.1
  have c1_8 := byte_cell 8 _ HN1.out (by omega) G1.out.2.2.2.1
  have c1_12 := byte_cell 12 _ HN1.out (by omega) G1.out.2.2.2.2
  have c3_4 := byte_cell 4 _ HN3.out (by omega) G3.out.1
  have c3_12 := byte_cell 12 _ HN3.out (by omega) G3.out.2.1
  have c3_16 := byte_cell 16 _ HN3.out (by omega) G3.out.2.2.1
  have c3_24 := byte_cell 24 _ HN3.out (by omega) G3.out.2.2.2.1
  have c3_28 := byte_cell 28 _ HN3.out (by omega) G3.out.2.2.2.2
  have c6_0 := byte_cell 0 _ HN6.out (by omega) G6.out.1
  have c6_4 := byte_cell 4 _ HN6.out (by omega) G6.out.2
  go_wp2_with (first | (with_reducible refine wpList_allocB' blkT ?_) | ((with_reducible refine wpList_storeB' blkT ?_ ?_ l6 Z256_len HO6.out ?_); rfl; rfl))
  go_ret
  exact ⟨rfl, M6⟩
end Go.Proofs.Ytckadanghhibhaa
