/- The layer of numbers in bytes: what its functions compute, over any row of bytes. -/
import Derived.Test.YtckadanghhibhaaBytes
namespace Go.Proofs.Ytckadanghhibhaa
open Go.RowKit

theorem lies_yes (a : Option Addr) (len cap : Nat) (at_ many : Int) (w : World) (h0 : 0 ≤ at_) (h1 : at_ + many ≤ len) (h2 : 0 ≤ many) (h3 : many ≤ 4) (hl : len ≤ 9223372036854775807) :
    Calls Try.prog 62 #[.slice a len cap, .int .i64 at_, .int .i64 many] w fun e w' => e = .returned (.bool true) ∧ w = w' := by
  go_enter Try.func62, Try.ntmps62
  go_wp2
  go_ret
  exact ⟨by simp; omega, rfl⟩
theorem lies_no (a : Option Addr) (len cap : Nat) (at_ many : Int) (w : World) (h : at_ < 0 ∨ len < at_ + many) (h2 : 0 ≤ many) (h3 : many ≤ 4) (hl : len ≤ 9223372036854775807) :
    Calls Try.prog 62 #[.slice a len cap, .int .i64 at_, .int .i64 many] w fun e w' => e = .returned (.bool false) ∧ w = w' := by
  by_cases h0 : at_ < 0
  · go_enter Try.func62, Try.ntmps62
    go_wp2
    go_ret
    exact ⟨by simp, rfl⟩
  · have h4 : len < at_ + many := by omega
    go_enter Try.func62, Try.ntmps62
    go_wp2
    go_ret
    exact ⟨by simp; omega, rfl⟩

/-- The cells of a row of bytes. -/
theorem row_cell {w : World} {B : Nat} {bs : List UInt8} {E : TypeId} {fr : Nat × Nat} (hB : w.heap[B]? = some (.cells (encB bs) E fr)) (k : Nat) (h : k < bs.length) : w.cell? ⟨B, k, none⟩ = some (.int .u8 (gB bs k)) := by
  rw [cell_of_row w B k _ _ _ hB]
  exact encB_get bs k h

set_option maxHeartbeats 400000 in
theorem ngetk_yes (B o len cap at_ : Nat) (bs : List UInt8) (E : TypeId) (w : World) (hB : w.heap[B]? = some (.cells (encB bs) E (0, 0))) (ho : o + len ≤ bs.length) (h1 : at_ + 4 ≤ len) (hl : len ≤ 9223372036854775807) :
    Calls Try.prog 61 #[.slice (some ⟨B, o, none⟩) len cap, .int .i64 at_, .int .i64 4] w fun e w' => e = .returned (.tuple #[.int .u32 (get32 bs (o + at_)), .bool true]) ∧ w = w' := by
  have c0 := row_cell hB (o + at_) (by omega)
  have c1 := row_cell hB (o + (at_ + 1)) (by omega)
  have c2 := row_cell hB (o + (at_ + 2)) (by omega)
  have c3 := row_cell hB (o + (at_ + 3)) (by omega)
  obtain ⟨p0, p0'⟩ := gB_bd bs (o + at_)
  obtain ⟨p1, p1'⟩ := gB_bd bs (o + (at_ + 1))
  obtain ⟨p2, p2'⟩ := gB_bd bs (o + (at_ + 2))
  obtain ⟨p3, p3'⟩ := gB_bd bs (o + (at_ + 3))
  have HG : Hid (get32 bs (o + at_) = gB bs (o + at_) + 256 * gB bs (o + (at_ + 1)) + 65536 * gB bs (o + (at_ + 2)) + 16777216 * gB bs (o + (at_ + 3))) := by show _ = _; unfold get32; simp only [Nat.add_assoc]
  generalize gB bs (o + at_) = b0 at *
  generalize gB bs (o + (at_ + 1)) = b1 at *
  generalize gB bs (o + (at_ + 2)) = b2 at *
  generalize gB bs (o + (at_ + 3)) = b3 at *
  generalize get32 bs (o + at_) = r at *
  clear hB ho
  go_enter Try.func61, Try.ntmps61
  go_wp2_with (go_at_call 62; refine (lies_yes _ _ _ _ _ _ (by omega) (by omega) (by omega) (by omega) hl).mono ?_; rintro e w' ⟨rfl, rfl⟩)
  refine wp_loop_rounds 5 ?_
  rw [rounds_succ]
  go_wp2
  rw [rounds_succ]
  go_wp2
  rw [rounds_succ]
  go_wp2
  rw [rounds_succ]
  go_wp2
  rw [rounds_succ]
  go_wp2
  go_ret2
  refine ⟨?_, rfl⟩
  rw [HG.out, ← or4 ⟨p0, p0'⟩ ⟨p1, p1'⟩ ⟨p2, p2'⟩ ⟨p3, p3'⟩]
  rfl

theorem ngetk_no (a : Option Addr) (len cap : Nat) (at_ : Int) (w : World) (h : at_ < 0 ∨ len < at_ + 4) (hl : len ≤ 9223372036854775807) :
    Calls Try.prog 61 #[.slice a len cap, .int .i64 at_, .int .i64 4] w fun e w' => e = .returned (.tuple #[.int .u32 0, .bool false]) ∧ w = w' := by
  go_enter Try.func61, Try.ntmps61
  go_wp2_with (go_at_call 62; refine (lies_no _ _ _ _ _ _ h (by omega) (by omega) hl).mono ?_; rintro e w' ⟨rfl, rfl⟩)
  go_ret2
  exact ⟨rfl, rfl⟩

theorem nget_yes (B o len cap at_ : Nat) (bs : List UInt8) (E : TypeId) (w : World) (hB : w.heap[B]? = some (.cells (encB bs) E (0, 0))) (ho : o + len ≤ bs.length) (h1 : at_ + 4 ≤ len) (hl : len ≤ 9223372036854775807) :
    Calls Try.prog 58 #[.slice (some ⟨B, o, none⟩) len cap, .int .i64 at_] w fun e w' => e = .returned (.tuple #[.int .u32 (get32 bs (o + at_)), .bool true]) ∧ w = w' := by
  have HB := Lib.hid hB
  clear hB
  go_enter Try.func58, Try.ntmps58
  go_wp2_with (go_at_call 61; refine (ngetk_yes _ _ _ _ _ _ _ _ HB.out ho h1 hl).mono ?_; rintro e w' ⟨rfl, rfl⟩)
  go_ret2
  exact ⟨rfl, rfl⟩

theorem nget_no (a : Option Addr) (len cap : Nat) (at_ : Int) (w : World) (h : at_ < 0 ∨ len < at_ + 4) (hl : len ≤ 9223372036854775807) :
    Calls Try.prog 58 #[.slice a len cap, .int .i64 at_] w fun e w' => e = .returned (.tuple #[.int .u32 0, .bool false]) ∧ w = w' := by
  go_enter Try.func58, Try.ntmps58
  go_wp2_with (go_at_call 61; refine (ngetk_no _ _ _ _ _ h hl).mono ?_; rintro e w' ⟨rfl, rfl⟩)
  go_ret2
  exact ⟨rfl, rfl⟩

/-- One byte more is stored. -/
theorem row_put {w : World} {B : Nat} {bs : List UInt8} {E : TypeId} (hB : w.heap[B]? = some (.cells (encB bs) E (0, 0))) (k : Nat) (n : Int) : w.setCell ⟨B, k, none⟩ (.int .u8 (n % 256)) = w.setRow B (encB (bs.set k (u8 n))) := by
  rw [setCell_eq_setRow w B k _ _ _ _ hB, encB_set]

theorem four_sets {w : World} {B : Nat} {bs : List UInt8} {E : TypeId} (hB : w.heap[B]? = some (.cells (encB bs) E (0, 0))) (p : Nat) (v : Int) :
    (((w.setCell ⟨B, p, none⟩ (.int .u8 (v % 256))).setCell ⟨B, p + 1, none⟩ (.int .u8 (v / 256 % 256))).setCell ⟨B, p + 2, none⟩ (.int .u8 (v / 65536 % 256))).setCell ⟨B, p + 3, none⟩ (.int .u8 (v / 16777216 % 256)) = w.setRow B (encB (put32 bs p v)) := by
  rw [row_put hB, row_put (setRow_heap w B _ _ _ _ hB), setRow_setRow, row_put (setRow_heap w B _ _ _ _ hB), setRow_setRow, row_put (setRow_heap w B _ _ _ _ hB), setRow_setRow]
  rfl

set_option maxHeartbeats 400000 in
theorem nputk_yes (B o len cap at_ : Nat) (v : Int) (bs : List UInt8) (E : TypeId) (w : World) (hB : w.heap[B]? = some (.cells (encB bs) E (0, 0))) (ho : o + len ≤ bs.length) (h1 : at_ + 4 ≤ len) (hl : len ≤ 9223372036854775807)
    (v0 : 0 ≤ v) (v1 : v < 4294967296) :
    Calls Try.prog 60 #[.slice (some ⟨B, o, none⟩) len cap, .int .i64 at_, .int .i64 4, .int .u32 v] w fun e w' => e = .returned (.bool true) ∧ w' = w.setRow B (encB (put32 bs (o + at_) v)) := by
  have c0 := row_cell hB (o + at_) (by omega)
  have c1 := row_cell hB (o + (at_ + 1)) (by omega)
  have c2 := row_cell hB (o + (at_ + 2)) (by omega)
  have c3 := row_cell hB (o + (at_ + 3)) (by omega)
  have f0 : ∀ k, w.frozen? ⟨B, k, none⟩ = false := fun k => frozen_of_row w B k _ _ hB
  have HB := Lib.hid (four_sets hB (o + at_) v)
  generalize gB bs (o + at_) = b0 at *
  generalize gB bs (o + (at_ + 1)) = b1 at *
  generalize gB bs (o + (at_ + 2)) = b2 at *
  generalize gB bs (o + (at_ + 3)) = b3 at *
  clear hB ho
  go_enter Try.func60, Try.ntmps60
  go_wp2_with (go_at_call 62; refine (lies_yes _ _ _ _ _ _ (by omega) (by omega) (by omega) (by omega) hl).mono ?_; rintro e w' ⟨rfl, rfl⟩)
  refine wp_loop_rounds 5 ?_
  rw [rounds_succ]
  go_wp2
  rw [rounds_succ]
  go_wp2
  rw [rounds_succ]
  go_wp2
  rw [rounds_succ]
  go_wp2
  rw [rounds_succ]
  go_wp2
  go_ret
  refine ⟨rfl, ?_⟩
  rw [← HB.out, show v / 16777216 % 256 = v / 16777216 by omega]
  rfl

theorem nputk_no (a : Option Addr) (len cap : Nat) (at_ v : Int) (w : World) (h : at_ < 0 ∨ len < at_ + 4) (hl : len ≤ 9223372036854775807) :
    Calls Try.prog 60 #[.slice a len cap, .int .i64 at_, .int .i64 4, .int .u32 v] w fun e w' => e = .returned (.bool false) ∧ w = w' := by
  go_enter Try.func60, Try.ntmps60
  go_wp2_with (go_at_call 62; refine (lies_no _ _ _ _ _ _ h (by omega) (by omega) hl).mono ?_; rintro e w' ⟨rfl, rfl⟩)
  go_ret
  exact ⟨rfl, rfl⟩

theorem nput_yes (B o len cap at_ : Nat) (v : Int) (bs : List UInt8) (E : TypeId) (w : World) (hB : w.heap[B]? = some (.cells (encB bs) E (0, 0))) (ho : o + len ≤ bs.length) (h1 : at_ + 4 ≤ len) (hl : len ≤ 9223372036854775807)
    (v0 : 0 ≤ v) (v1 : v < 4294967296) :
    Calls Try.prog 57 #[.slice (some ⟨B, o, none⟩) len cap, .int .i64 at_, .int .u32 v] w fun e w' => e = .returned (.bool true) ∧ w' = w.setRow B (encB (put32 bs (o + at_) v)) := by
  have HB := Lib.hid hB
  clear hB
  go_enter Try.func57, Try.ntmps57
  go_wp2_with (go_at_call 60; refine (nputk_yes _ _ _ _ _ _ _ _ _ HB.out ho h1 hl v0 v1).mono ?_; rintro e w' ⟨rfl, rfl⟩)
  go_ret
  exact ⟨rfl, rfl⟩

theorem nput_no (a : Option Addr) (len cap : Nat) (at_ v : Int) (w : World) (h : at_ < 0 ∨ len < at_ + 4) (hl : len ≤ 9223372036854775807) :
    Calls Try.prog 57 #[.slice a len cap, .int .i64 at_, .int .u32 v] w fun e w' => e = .returned (.bool false) ∧ w = w' := by
  go_enter Try.func57, Try.ntmps57
  go_wp2_with (go_at_call 60; refine (nputk_no _ _ _ _ _ _ h hl).mono ?_; rintro e w' ⟨rfl, rfl⟩)
  go_ret
  exact ⟨rfl, rfl⟩
end Go.Proofs.Ytckadanghhibhaa
