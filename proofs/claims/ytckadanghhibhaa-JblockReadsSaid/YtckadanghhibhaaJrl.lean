/- Lists are read. -/
import Derived.Test.YtckadanghhibhaaJrt
import Derived.Deep.RegionHeld3
import Derived.Deep.MidRow
namespace Go.Proofs.Ytckadanghhibhaa
open Go.RowKit

theorem range_row {w : World} {g : Nat} {bs : List UInt8} {t : TypeId} (h : w.heap[g]? = some (.cells (encB bs) t (0, 0))) : w.rangeAt g 0 (bs.map bv) := by
  intro j v hv
  rw [Nat.zero_add, cell_of_row _ _ j _ _ _ h, encB]
  simpa using hv
theorem keepS {w w' : World} {g : Nat} {bs : List UInt8} {t : TypeId} (h : w.heap[g]? = some (.cells (encB bs) t (0, 0))) (hm : Mod none' w w') :
    w'.heap[g]? = some (.cells (encB bs) t (0, 0)) ∧ w'.rangeAt g 0 (bs.map bv) := ⟨hm.row h (fun e => e), range_row (hm.row h (fun e => e))⟩

set_option maxRecDepth 100000 in
set_option maxHeartbeats 4000000 in
theorem jrrevoke (bs : List UInt8) (hl : bs.length = 256) (w : World) :
    Calls Try.prog 26 #[.agg (encB bs)] w fun e w' => GotN e w w' (rRevoke bs) ∧ Mod none' w w' := by
  have HB := Lib.hid (heap_alloc_new w (.cells (encB bs) 28))
  have M0 : Mod none' w (w.alloc (.cells (encB bs) 28)) := (Mod.refl _ _).alloc _
  have hu := Try.underlying28
  have hi : (Try.prog.info? 28).map (·.size) = some (bs.map bv).length := by rw [List.length_map, hl]; exact blkT.size
  obtain ⟨r, hr⟩ : ∃ r, rRevoke bs = r := ⟨_, rfl⟩
  have HR := Lib.hid hr
  rw [hr]
  clear hr
  cases r with
  | none =>
    go_enter Try.func26, Try.ntmps26
    go_wp2
    go_region_held3 (fun w' => w'.heap[w.heap.size]? = some (.cells (encB bs) 28 (0, 0)) ∧ w'.rangeAt w.heap.size 0 (bs.map bv)) (first | exact keepS HB.out (Mod.refl _ _).drew | (go_split_ands; first | exact keepS (by assumption) (by assumption) | exact keepS (by assumption) (Mod.refl _ _).drew)) (first | (go_at_call 44; refine (jnums _).mono ?_; rintro e w1 ⟨rfl, hm1⟩) | (go_at_call 47; refine (jreadN bs hl _).mono ?_; rintro e w2 ⟨hg, hm2⟩; rw [HR.out] at hg; obtain rfl := (show e = _ from hg)))
    go_wp2
    go_ret3
    exact ⟨rfl, (M0.trans hm1.drew0).trans hm2⟩
  | some r =>
    obtain ⟨s, l⟩ := r
    go_enter Try.func26, Try.ntmps26
    go_wp2
    go_region_held3 (fun w' => w'.heap[w.heap.size]? = some (.cells (encB bs) 28 (0, 0)) ∧ w'.rangeAt w.heap.size 0 (bs.map bv)) (first | exact keepS HB.out (Mod.refl _ _).drew | (go_split_ands; first | exact keepS (by assumption) (by assumption) | exact keepS (by assumption) (Mod.refl _ _).drew)) (first | (go_at_call 44; refine (jnums _).mono ?_; rintro e w1 ⟨rfl, hm1⟩) | (go_at_call 47; refine (jreadN bs hl _).mono ?_; rintro e w2 ⟨hg, hm2⟩; rw [HR.out] at hg; obtain ⟨LB, hLB, hrow, rfl⟩ := hg))
    have HROW := Lib.hid hrow
    clear hrow
    go_wp2
    go_ret3
    exact ⟨⟨LB, by have := (M0.trans hm1.drew0).size; omega, HROW.out, rfl⟩, (M0.trans hm1.drew0).trans hm2⟩

set_option maxRecDepth 100000 in
set_option maxHeartbeats 4000000 in
theorem jrdesc (bs : List UInt8) (hl : bs.length = 256) (w : World) :
    Calls Try.prog 33 #[.agg (encB bs)] w fun e w' => GotT e w w' (rDesc bs) ∧ Mod none' w w' := by
  have HB := Lib.hid (heap_alloc_new w (.cells (encB bs) 28))
  have M0 : Mod none' w (w.alloc (.cells (encB bs) 28)) := (Mod.refl _ _).alloc _
  have hu := Try.underlying28
  have hi : (Try.prog.info? 28).map (·.size) = some (bs.map bv).length := by rw [List.length_map, hl]; exact blkT.size
  obtain ⟨r, hr⟩ : ∃ r, rDesc bs = r := ⟨_, rfl⟩
  have HR := Lib.hid hr
  rw [hr]
  clear hr
  cases r with
  | none =>
    go_enter Try.func33, Try.ntmps33
    go_wp2
    go_region_held3 (fun w' => w'.heap[w.heap.size]? = some (.cells (encB bs) 28 (0, 0)) ∧ w'.rangeAt w.heap.size 0 (bs.map bv)) (first | exact keepS HB.out (Mod.refl _ _).drew | (go_split_ands; first | exact keepS (by assumption) (by assumption) | exact keepS (by assumption) (Mod.refl _ _).drew)) (first | (go_at_call 42; refine (jtags _).mono ?_; rintro e w1 ⟨rfl, hm1⟩) | (go_at_call 51; refine (jreadT bs hl _).mono ?_; rintro e w2 ⟨hg, hm2⟩; rw [HR.out] at hg; obtain rfl := (show e = _ from hg)))
    go_wp2
    go_ret3
    exact ⟨rfl, (M0.trans hm1.drew0).trans hm2⟩
  | some r =>
    obtain ⟨s, l⟩ := r
    go_enter Try.func33, Try.ntmps33
    go_wp2
    go_region_held3 (fun w' => w'.heap[w.heap.size]? = some (.cells (encB bs) 28 (0, 0)) ∧ w'.rangeAt w.heap.size 0 (bs.map bv)) (first | exact keepS HB.out (Mod.refl _ _).drew | (go_split_ands; first | exact keepS (by assumption) (by assumption) | exact keepS (by assumption) (Mod.refl _ _).drew)) (first | (go_at_call 42; refine (jtags _).mono ?_; rintro e w1 ⟨rfl, hm1⟩) | (go_at_call 51; refine (jreadT bs hl _).mono ?_; rintro e w2 ⟨hg, hm2⟩; rw [HR.out] at hg; obtain ⟨LB, hLB, hrow, rfl⟩ := hg))
    have HROW := Lib.hid hrow
    clear hrow
    go_wp2
    go_ret3
    exact ⟨⟨LB, by have := (M0.trans hm1.drew0).size; omega, HROW.out, rfl⟩, (M0.trans hm1.drew0).trans hm2⟩
end Go.Proofs.Ytckadanghhibhaa
