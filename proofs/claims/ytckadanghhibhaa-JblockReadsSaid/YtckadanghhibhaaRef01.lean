/- The reference's numbers in bytes, over any row of bytes. -/
import Derived.Test.YtckadanghhibhaaNums
import Derived.Deep.QuietTactic
import Derived.BigQuiet
import Derived.Deep.RegionHeld3
namespace Go.Proofs.Ytckadanghhibhaa
open Go.RowKit

theorem w32 {n : Int} (h0 : 0 ≤ n) (h1 : n < 4294967296) : IntKind.u32.wrap n = n := by rw [IntKind.wrap_u32]; omega

set_option maxHeartbeats 800000 in
theorem rget_yes (B o len cap at_ : Nat) (bs : List UInt8) (E : TypeId) (w : World) (hB : w.heap[B]? = some (.cells (encB bs) E (0, 0))) (ho : o + len ≤ bs.length) (h1 : at_ + 4 ≤ len) (hl : len ≤ 9223372036854775807) :
    Calls Try.prog 59 #[.slice (some ⟨B, o, none⟩) len cap, .int .i64 at_] w fun e w' => e = .returned (.tuple #[.int .u32 (get32 bs (o + at_)), .bool true]) ∧ ∃ n, w' = w.drewN n := by
  have c0 := row_cell hB (o + at_) (by omega)
  have c1 := row_cell hB (o + (at_ + 1)) (by omega)
  have c2 := row_cell hB (o + (at_ + 2)) (by omega)
  have c3 := row_cell hB (o + (at_ + 3)) (by omega)
  obtain ⟨p0, p0'⟩ := gB_bd bs (o + at_)
  obtain ⟨p1, p1'⟩ := gB_bd bs (o + (at_ + 1))
  obtain ⟨p2, p2'⟩ := gB_bd bs (o + (at_ + 2))
  obtain ⟨p3, p3'⟩ := gB_bd bs (o + (at_ + 3))
  have HG : Hid (get32 bs (o + at_) = gB bs (o + at_) + 256 * gB bs (o + (at_ + 1)) + 65536 * gB bs (o + (at_ + 2)) + 16777216 * gB bs (o + (at_ + 3))) := by show _ = _; unfold get32; simp only [Nat.add_assoc]
  generalize gB bs (o + at_) = b0 at *
  generalize gB bs (o + (at_ + 1)) = b1 at *
  generalize gB bs (o + (at_ + 2)) = b2 at *
  generalize gB bs (o + (at_ + 3)) = b3 at *
  generalize get32 bs (o + at_) = r at *
  have q1 : IntKind.i64.wrap ((at_ : Int) + 1) = (at_ : Int) + 1 := IntWalk.i64_in _ (by omega)
  have q2 : IntKind.i64.wrap ((at_ : Int) + 2) = (at_ : Int) + 2 := IntWalk.i64_in _ (by omega)
  have q3 : IntKind.i64.wrap ((at_ : Int) + 3) = (at_ : Int) + 3 := IntWalk.i64_in _ (by omega)
  have t1 : ((at_ : Int) + 1).toNat = at_ + 1 := by omega
  have t2 : ((at_ : Int) + 2).toNat = at_ + 2 := by omega
  have t3 : ((at_ : Int) + 3).toNat = at_ + 3 := by omega
  have l0 : (at_ : Int) < (len : Int) := by omega
  have l1 : (at_ : Int) + 1 < (len : Int) := by omega
  have l2 : (at_ : Int) + 2 < (len : Int) := by omega
  have l3 : (at_ : Int) + 3 < (len : Int) := by omega
  have z0 : (0 : Int) ≤ (at_ : Int) := by omega
  have z1 : (0 : Int) ≤ (at_ : Int) + 1 := by omega
  have z2 : (0 : Int) ≤ (at_ : Int) + 2 := by omega
  have z3 : (0 : Int) ≤ (at_ : Int) + 3 := by omega
  have u1 : IntKind.u32.wrap (256 * b1) = 256 * b1 := w32 (by omega) (by omega)
  have u2 : IntKind.u32.wrap (b0 + 256 * b1) = b0 + 256 * b1 := w32 (by omega) (by omega)
  have u3 : IntKind.u32.wrap (65536 * b2) = 65536 * b2 := w32 (by omega) (by omega)
  have u4 : IntKind.u32.wrap (b0 + 256 * b1 + 65536 * b2) = b0 + 256 * b1 + 65536 * b2 := w32 (by omega) (by omega)
  have u5 : IntKind.u32.wrap (16777216 * b3) = 16777216 * b3 := w32 (by omega) (by omega)
  have u6 : IntKind.u32.wrap (b0 + 256 * b1 + 65536 * b2 + 16777216 * b3) = b0 + 256 * b1 + 65536 * b2 + 16777216 * b3 := w32 (by omega) (by omega)
  clear hB ho
  go_enter Try.func59, Try.ntmps59
  go_wp2
  go_quiet (fail)
  go_wp2
  go_ret2
  exact ⟨by rw [HG.out]; rfl, _, rfl⟩

theorem rget_no (a : Option Addr) (len cap : Nat) (at_ : Int) (w : World) (h : at_ < 0 ∨ len < at_ + 4) (hl : len ≤ 9223372036854775807) (_ha : -9223372036854775808 ≤ at_) :
    Calls Try.prog 59 #[.slice a len cap, .int .i64 at_] w fun e w' => e = .returned (.tuple #[.int .u32 0, .bool false]) ∧ w = w' := by
  by_cases h0 : at_ < 0
  · go_enter Try.func59, Try.ntmps59
    go_wp2
    go_ret2
    exact ⟨rfl, rfl⟩
  · by_cases h1 : len < 4
    · go_enter Try.func59, Try.ntmps59
      go_wp2
      go_ret2
      exact ⟨rfl, rfl⟩
    · have h2 : (len : Int) - 4 < at_ := by omega
      go_enter Try.func59, Try.ntmps59
      go_wp2
      go_ret2
      exact ⟨rfl, rfl⟩

set_option maxHeartbeats 400000 in
theorem rput_yes (B o len cap at_ : Nat) (v : Int) (bs : List UInt8) (E : TypeId) (w : World) (hB : w.heap[B]? = some (.cells (encB bs) E (0, 0))) (ho : o + len ≤ bs.length) (h1 : at_ + 4 ≤ len) (hl : len ≤ 9223372036854775807)
    (v0 : 0 ≤ v) (v1 : v < 4294967296) :
    Calls Try.prog 52 #[.slice (some ⟨B, o, none⟩) len cap, .int .i64 at_, .int .u32 v] w fun e w' => e = .returned (.bool true) ∧ Mod (one' B) w w' ∧ w'.heap[B]? = some (.cells (encB (put32 bs (o + at_) v)) E (0, 0)) := by
  have c0 := row_cell hB (o + at_) (by omega)
  have c1 := row_cell hB (o + (at_ + 1)) (by omega)
  have c2 := row_cell hB (o + (at_ + 2)) (by omega)
  have c3 := row_cell hB (o + (at_ + 3)) (by omega)
  have f0 : ∀ k, w.frozen? ⟨B, k, none⟩ = false := fun k => frozen_of_row w B k _ _ hB
  have HB0 := Lib.hid hB
  have HB := Lib.hid (four_sets hB (o + at_) v)
  generalize gB bs (o + at_) = b0 at *
  generalize gB bs (o + (at_ + 1)) = b1 at *
  generalize gB bs (o + (at_ + 2)) = b2 at *
  generalize gB bs (o + (at_ + 3)) = b3 at *
  clear hB
  go_enter Try.func52, Try.ntmps52
  go_wp2_with fail
  refine (rget_yes _ _ _ _ _ _ _ _ HB0.out ho h1 hl).mono ?_
  rintro e w1 ⟨rfl, n, rfl⟩
  go_wp2
  refine wp_loop_rounds 5 ?_
  rw [rounds_succ]
  go_wp2
  rw [rounds_succ]
  go_wp2
  rw [rounds_succ]
  go_wp2
  rw [rounds_succ]
  go_wp2
  rw [rounds_succ]
  go_wp2
  go_ret
  refine ⟨rfl, ?_⟩
  have hB' : (w.drewN n).heap[B]? = some (.cells (encB bs) E (0, 0)) := HB0.out
  rw [show v / 256 / 256 = v / 65536 by omega, show v / 65536 / 256 = v / 16777216 by omega, show o + (at_ + 1) = o + at_ + 1 from rfl, show o + (at_ + 2) = o + at_ + 2 from rfl, show o + (at_ + 3) = o + at_ + 3 from rfl, four_sets hB' (o + at_) v]
  exact ⟨Mod.setRow (S := one' B) ((Mod.refl _ _).drewN n) (.inl rfl) _, setRow_heap _ _ _ _ _ _ hB'⟩

/-- Are so many bytes of a row, from a place on, all 0? -/
def allZ (bs : List UInt8) (o len : Nat) : Bool := (List.range len).all fun k => gB bs (o + k) == 0
theorem allZ_iff (bs : List UInt8) (o len : Nat) : allZ bs o len = true ↔ ∀ k, k < len → gB bs (o + k) = 0 := by
  simp [allZ]

end Go.Proofs.Ytckadanghhibhaa
