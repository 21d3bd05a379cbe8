/- A block that comes in. -/
import Derived.Test.YtdpbdmbgdcdmaaaSep3
import Derived.Test.YtdpbdmbgdcdmaaaFrame
namespace Go.Proofs.Ytdpbdmbgdcdmaaa
open Go Go.RowKit

theorem bytes_of : ∀ l : List Value, (∀ v ∈ l, ∃ n, v = .int .u8 n ∧ (Lit.int .u8 n).wf = true) → ∃ bs : List UInt8, l = bs.map bv
  | [], _ => ⟨[], rfl⟩
  | v :: l, h => by
    obtain ⟨bs, rfl⟩ := bytes_of l (fun u hu => h u (List.mem_cons_of_mem _ hu))
    obtain ⟨n, rfl, hn⟩ := h v (List.mem_cons_self ..)
    simp [Lit.wf] at hn
    have h1 : IntKind.u8.min = 0 := rfl
    have h2 : IntKind.u8.max = 255 := rfl
    refine ⟨u8 n :: bs, ?_⟩
    rw [List.map_cons, ← u8_cell, show n % 256 = n by omega]
theorem cellsBlk : Try.prog.cellsOf 23 = 256 := by kernel_rfl
theorem cellsU8 : Try.prog.cellsOf 5 = 1 := by kernel_rfl
theorem blk_arg {w : World} {v : Value} (h : ArgIs Try.prog w 23 v) : ∃ bs : List UInt8, bs.length = 256 ∧ v = .agg (encB bs) := by
  obtain ⟨cs, rfl, hr⟩ := h.array Try.underlying23
  obtain ⟨hlen, hall⟩ := hr.array Try.underlying23
  rw [cellsBlk] at hlen
  obtain ⟨bs, hbs⟩ := bytes_of cs.toList (fun v hv => by
    obtain ⟨i, hi, rfl⟩ := List.getElem_of_mem hv
    obtain ⟨n, e, hn⟩ := (hall i (by omega)).int Try.underlying5
    rw [cellsU8, Nat.mul_one] at e
    rw [List.drop_eq_getElem_cons hi, List.take_succ_cons] at e
    simp at e
    exact ⟨n, by simpa using e, hn⟩)
  refine ⟨bs, by rw [← hlen, hbs, List.length_map], ?_⟩
  congr 1
  apply Array.ext'
  rw [hbs, encB_toList]
end Go.Proofs.Ytdpbdmbgdcdmaaa
