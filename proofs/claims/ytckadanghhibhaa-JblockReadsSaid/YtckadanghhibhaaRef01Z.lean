/- Are all bytes 0, as the reference asks it. -/
import Derived.Test.YtckadanghhibhaaRef01
namespace Go.Proofs.Ytckadanghhibhaa
open Go.RowKit

theorem rzero (B o len cap : Nat) (bs : List UInt8) (E : TypeId) (w : World) (hB : w.heap[B]? = some (.cells (encB bs) E (0, 0))) (ho : o + len ≤ bs.length) (hl : len ≤ 9223372036854775807) :
    Calls Try.prog 50 #[.slice (some ⟨B, o, none⟩) len cap] w fun e w' => e = .returned (.bool (allZ bs o len)) ∧ w = w' := by
  have hc : ∀ k, k < len → w.cell? ⟨B, o + k, none⟩ = some (.int .u8 (gB bs (o + k))) := fun k hk => row_cell hB (o + k) (by omega)
  have Hc := Lib.hid hc
  clear hc hB
  go_enter Try.func50, Try.ntmps50
  go_wp2
  go_loop [3] (fun i => ∃ k : Nat, k ≤ len ∧ i = .int .i64 k ∧ ∀ j, j < k → gB bs (o + j) = 0) (fun i => len - (intOf i).toNat)
  case atStart => exact ⟨0, by omega, rfl, fun j hj => by omega⟩
  case round =>
    obtain ⟨k, hk, rfl, hz⟩ := hrel
    have HZ := Lib.hid hz
    clear hz
    by_cases hlt : k < len
    · have ck := Hc.out k hlt
      by_cases h0 : gB bs (o + k) = 0
      · rw [h0] at ck
        have H0 := Lib.hid h0
        clear h0
        go_wp2
        go_round
        case rel => exact ⟨k + 1, by omega, by go_num, fun j hj => by
          by_cases e : j < k
          · exact HZ.out j e
          · obtain rfl : j = k := by omega
            exact H0.out⟩
        case measure => simp [intOf]; omega
      · have HF : Hid (allZ bs o len = false) := by
          show _ = _
          rw [Bool.eq_false_iff]
          intro e
          exact h0 ((allZ_iff _ _ _).1 e k hlt)
        have hb : (gB bs (o + k) != 0) = true := by simp [h0]
        clear h0
        go_wp2
        go_ret
        exact ⟨ret_bool HF.out.symm, rfl⟩
    · obtain rfl : k = len := by omega
      go_wp2
      go_ret
      exact ⟨ret_bool ((allZ_iff _ _ _).2 HZ.out).symm, rfl⟩
end Go.Proofs.Ytckadanghhibhaa
