/- How a disk is made; blocks told by a number; images compared. -/
import Derived.Test.YtfdomknagcdpeaaDk3
namespace Go.Proofs.Ytfdomknagcdpeaa
open Go Go.RowKit

def newD (im : List (List UInt8)) : Dk := { safe := im, now := im, wait := [], acts := 0, left := -1 }
theorem newD_ok {im : List (List UInt8)} {n : Nat} (h : all256 im) (hl : im.length = n) (h0 : 1 ≤ n) (h1 : n ≤ 2048) : (newD im).Ok n :=
  ⟨h, h, by simp [newD], by simp [newD], hl, hl, h0, h1, by simp [newD], by simp [newD], by simp [newD], by simp [newD]⟩

theorem made_blocks (n : Nat) : (madeCells (encB Z256) (n * 256)).toList = encBs (List.replicate n Z256) := by
  have hl : (encBs (List.replicate n Z256)).length = n * 256 := by rw [encBs_len (all256.rep n), List.length_replicate]
  have hs : (encB Z256).size = 256 := (encB_size _).trans Z256_len
  apply List.ext_getElem?
  intro i
  by_cases hi : i < n * 256
  · have h1 : i / 256 < n := Nat.div_lt_of_lt_mul (by omega)
    have h2 := encBs_part (all256.rep n) (i := i / 256) (by simpa using h1) (i % 256)
    have hg : (List.replicate n Z256).getD (i / 256) Z256 = Z256 := by
      rw [List.getD_eq_getElem?_getD, List.getElem?_replicate]; split <;> rfl
    rw [hg, show i / 256 * 256 + i % 256 = i by omega] at h2
    have h3 : (Z256.map bv)[i % 256]? = some (.int .u8 0) := by
      rw [List.getElem?_map, Z256, List.getElem?_replicate, if_pos (by omega)]; rfl
    rw [h2 _ h3]
    have h4 : (encB Z256)[i % 256]? = some (.int .u8 0) := by rw [encB, List.getElem?_toArray]; exact h3
    obtain ⟨h5, h6⟩ := Array.getElem?_eq_some_iff.1 h4
    rw [Array.getElem?_toList, madeCells]
    simp only [Array.getElem?_map, Array.getElem?_range, hi, if_true, Option.map_some, hs]
    rw [Array.getElem!_eq_getD, Array.getD_eq_getD_getElem?, h4]; rfl
  · rw [List.getElem?_eq_none (l := encBs _) (by rw [hl]; omega), List.getElem?_eq_none (by rw [Array.length_toList, size_madeCells]; omega)]

section
variable {S : Nat → Prop} {w0 w : World} {L : List Ass}

set_option maxHeartbeats 1000000 in
theorem dk_load (HS : St S w0 w L) {K o m cap : Nat} {im : List (List UInt8)} (h : all256 im) (hm : im.length = m) (h0 : 1 ≤ m) (h1 : m ≤ 2048) (hr : ∀ w', Hd L w' → w'.rangeAt K o (encBs im)) :
    Calls Try.prog 13 #[.slice (some ⟨K, o, none⟩) m cap] w fun e w' => ∃ B g1 c1 g2 c2, e = .returned (.tuple #[.pointer (some ⟨B, 0, none⟩), .int .i64 0]) ∧ St S w0 w' (diskA (newD im) m B g1 c1 g2 c2 (.slice none 0 0) ++ L) := by
  have HL := Lib.hid ((encBs_len h).trans (by rw [hm]) : (encBs im).length = m * 256)
  have HR := Lib.hid hr
  have hd : decide ((m : Int) < 1) = false := by simp; omega
  clear hr h hm
  go_enter Try.func13, Try.ntmps13
  go_wp2_with (first | (go_at_call 31; refine (clone_any HS (fun w' hC => HR.out w' hC) HL.out (encBs_one _) (by omega)).mono ?_; rintro e w' ⟨v1, rfl, hv1, H1'⟩; clear HS; have HS := H1'; clear H1'; obtain ⟨g1, c1, rfl, _, _⟩ := own_row (HS.own (by (repeat (first | exact List.Mem.head _ | apply List.Mem.tail)))) (by omega); clear hv1))
  go_wp2_with (first | (go_at_call 31; refine (clone_any HS (fun w' hC => HR.out w' (fun A hA => hC A (List.mem_cons_of_mem _ hA))) HL.out (encBs_one _) (by omega)).mono ?_; rintro e w' ⟨v1, rfl, hv1, H1'⟩; clear HS; have HS := H1'; clear H1'; obtain ⟨g2, c2, rfl, _, _⟩ := own_row (HS.own (by (repeat (first | exact List.Mem.head _ | apply List.Mem.tail)))) (by omega); clear hv1) | ((with_reducible apply sBox HS); rfl; (conv => (lhs; whnf)); (first | exact cells_agg _ | exact cells_one rfl); intro BD w' H1; clear HS; have HS := H1; clear H1))
  go_ret2
  have H2 := ((((HS.ownNil 75 257).pick (.there (.there .here))).pick (.there (.there (.there .here)))).pick (.there (.there (.there .here))))
  exact ⟨_, _, _, _, _, rfl, H2⟩
end
end Go.Proofs.Ytfdomknagcdpeaa
