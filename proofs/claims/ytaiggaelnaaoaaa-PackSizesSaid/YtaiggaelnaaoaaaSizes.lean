/- The pack layer's count of blocks and the reference's own count agree. -/
import Derived.Test.YtaiggaelnaaoaaaRows
import Derived.WalkKit
import Derived.ProofKit
namespace Go.Proofs.Ytaiggaelnaaoaaa
open Go.RowKit

theorem ret_int {k : IntKind} {a b : Int} (h : a = b) : Ending.returned (.int k a) = .returned (.int k b) := by rw [h]

theorem rows_any (n by_ : Int) (w : World) (h0 : 0 ≤ n) (h1 : n ≤ 2048) (h2 : 1 ≤ by_) (h3 : by_ ≤ 60) :
    Calls Try.prog 9 #[.int .i64 n, .int .i64 by_] w fun e w' => e = .returned (.int .i64 ((n + by_ - 1) / by_)) ∧ w = w' := by
  go_enter Try.func9, Try.ntmps9
  go_wp2
  go_ret
  exact ⟨rfl, rfl⟩

theorem size_yes (c r : Int) (w : World) (h0 : 0 ≤ c) (h1 : 0 ≤ r) (h2 : c ≤ 2048) (h3 : r ≤ 2048) (h4 : ((c + r) == 0) = false) :
    Calls Try.prog 5 #[.int .i64 c, .int .i64 r] w fun e w' => e = .returned (.int .i64 ((c + 29) / 30 + c + (r + 59) / 60 + 1)) ∧ w = w' := by
  go_enter Try.func5, Try.ntmps5
  go_wp2_with (go_at_call 9; refine (rows_any _ _ _ (by omega) (by omega) (by omega) (by omega)).mono ?_; rintro e w' ⟨rfl, rfl⟩)
  go_ret
  refine ⟨ret_int ?_, rfl⟩
  omega

theorem size_no (c r : Int) (w : World) (h : c < 0 ∨ (0 ≤ c ∧ r < 0) ∨ (0 ≤ c ∧ 0 ≤ r ∧ 2048 < c) ∨ (0 ≤ c ∧ 0 ≤ r ∧ c ≤ 2048 ∧ 2048 < r) ∨ (c = 0 ∧ r = 0)) :
    Calls Try.prog 5 #[.int .i64 c, .int .i64 r] w fun e w' => e = .returned (.int .i64 0) ∧ w = w' := by
  rcases h with h | ⟨h, h'⟩ | ⟨h, h', h''⟩ | ⟨h, h', h'', h'''⟩ | ⟨rfl, rfl⟩ <;>
  · go_enter Try.func5, Try.ntmps5
    go_wp2
    go_ret
    exact ⟨rfl, rfl⟩

theorem ref_no (c r : Int) (w : World) (h : c < 0 ∨ (0 ≤ c ∧ r < 0) ∨ (0 ≤ c ∧ 0 ≤ r ∧ 2048 < c) ∨ (0 ≤ c ∧ 0 ≤ r ∧ c ≤ 2048 ∧ 2048 < r) ∨ (c = 0 ∧ r = 0)) :
    Calls Try.prog 6 #[.int .i64 c, .int .i64 r] w fun e w' => e = .returned (.int .i64 0) ∧ w = w' := by
  rcases h with h | ⟨h, h'⟩ | ⟨h, h', h''⟩ | ⟨h, h', h'', h'''⟩ | ⟨rfl, rfl⟩ <;>
  · go_enter Try.func6, Try.ntmps6
    go_wp2
    go_ret
    exact ⟨rfl, rfl⟩

theorem ref_yes (c r : Int) (w : World) (h0 : 0 ≤ c) (h1 : 0 ≤ r) (h2 : c ≤ 2048) (h3 : r ≤ 2048) (h4 : ((c == 0) = false) ∨ ((c == 0) = true ∧ (r == 0) = false)) :
    Calls Try.prog 6 #[.int .i64 c, .int .i64 r] w fun e w' => e = .returned (.int .i64 ((c + 29) / 30 + c + (r + 59) / 60 + 1)) ∧ w = w' := by
  rcases h4 with h4 | ⟨h4, h5⟩ <;>
  · go_enter Try.func6, Try.ntmps6
    go_wp2
    go_loop [5, 6] (fun n k => ∃ i : Nat, (30 * (i : Int) ≤ c + 29) ∧ k = .int .i64 (30 * i) ∧ n = .int .i64 (1 + c + i)) (fun _ k => (c - intOf k).toNat)
    case atStart => exact ⟨0, by omega, rfl, by simp⟩
    case round =>
      obtain ⟨i, hi, rfl, rfl⟩ := hrel
      by_cases hlt : 30 * (i : Int) < c
      · go_wp2
        go_round
        case rel => exact ⟨i + 1, by omega, by simp; omega, by simp; omega⟩
        case measure => simp [intOf]; omega
      · go_wp2
        go_loop [5, 7] (fun n k => ∃ j : Nat, (60 * (j : Int) ≤ r + 59) ∧ k = .int .i64 (60 * j) ∧ n = .int .i64 (1 + c + i + j)) (fun _ k => (r - intOf k).toNat)
        case atStart => exact ⟨0, by omega, rfl, by simp⟩
        case round =>
          obtain ⟨j, hj, rfl, rfl⟩ := hrel
          by_cases hlt2 : 60 * (j : Int) < r
          · go_wp2
            go_round
            case rel => exact ⟨j + 1, by omega, by simp; omega, by simp; omega⟩
            case measure => simp [intOf]; omega
          · go_wp2
            go_ret
            exact ⟨ret_int (by omega), rfl⟩
end Go.Proofs.Ytaiggaelnaaoaaa
