/- The disk: what it tells, and how it is made. -/
import Derived.Test.YtfdomknagcdpeaaDk
namespace Go.Proofs.Ytfdomknagcdpeaa
open Go Go.RowKit

section
variable {S : Nat → Prop} {w0 w : World} {R : List Ass} {D : Dk} {n B g1 c1 g2 c2 : Nat} {vw : Value}

theorem dk_blocks (HS : St S w0 w (diskA D n B g1 c1 g2 c2 vw ++ R)) :
    Calls Try.prog 18 #[.pointer (some ⟨B, 0, none⟩)] w fun e w' => e = .returned (.int .i64 n) ∧ w = w' := by
  have HS0 := HS
  simp only [diskA, List.cons_append, List.nil_append] at HS
  go_enter Try.func18, Try.ntmps18
  go_wp2_with (first | (go_at_call 30; refine (dk_none (D := D) (n := n) (B := B) (g1 := g1) (c1 := c1) (g2 := g2) (c2 := c2) (vw := vw) (R := R) HS).mono ?_; rintro e w' ⟨rfl, rfl⟩) | ((with_reducible apply sLoad1 HS); infer_instance; rfl; rfl; (repeat (first | exact List.Mem.head _ | apply List.Mem.tail)); rfl))
  go_ret
  exact ⟨rfl, rfl⟩

theorem dk_acts (HS : St S w0 w (diskA D n B g1 c1 g2 c2 vw ++ R)) :
    Calls Try.prog 17 #[.pointer (some ⟨B, 0, none⟩)] w fun e w' => e = .returned (.int .i64 D.acts) ∧ w = w' := by
  have HS0 := HS
  simp only [diskA, List.cons_append, List.nil_append] at HS
  go_enter Try.func17, Try.ntmps17
  go_wp2_with (first | (go_at_call 30; refine (dk_none (D := D) (n := n) (B := B) (g1 := g1) (c1 := c1) (g2 := g2) (c2 := c2) (vw := vw) (R := R) HS).mono ?_; rintro e w' ⟨rfl, rfl⟩) | ((with_reducible apply sLoad1 HS); infer_instance; rfl; rfl; (repeat (first | exact List.Mem.head _ | apply List.Mem.tail)); rfl))
  go_ret
  exact ⟨rfl, rfl⟩

theorem dk_waiting (HS : St S w0 w (diskA D n B g1 c1 g2 c2 vw ++ R)) :
    Calls Try.prog 16 #[.pointer (some ⟨B, 0, none⟩)] w fun e w' => e = .returned (.int .i64 D.wait.length) ∧ w = w' := by
  obtain ⟨aw, cw, rfl⟩ : ∃ ad cap, vw = .slice ad D.wait.length cap := by
    have h := HS
    simp only [diskA, List.cons_append, List.nil_append] at h
    exact own_slice (h.own (by (repeat (first | exact List.Mem.head _ | apply List.Mem.tail))))
  have HS0 := HS
  simp only [diskA, List.cons_append, List.nil_append] at HS
  go_enter Try.func16, Try.ntmps16
  go_wp2_with (first | (go_at_call 30; refine (dk_none (D := D) (n := n) (B := B) (g1 := g1) (c1 := c1) (g2 := g2) (c2 := c2) (vw := .slice aw D.wait.length cw) (R := R) HS).mono ?_; rintro e w' ⟨rfl, rfl⟩) | ((with_reducible apply sLoad1 HS); infer_instance; rfl; rfl; (repeat (first | exact List.Mem.head _ | apply List.Mem.tail)); rfl))
  go_ret
  exact ⟨rfl, rfl⟩

theorem dk_dead (HS : St S w0 w (diskA D n B g1 c1 g2 c2 vw ++ R)) :
    Calls Try.prog 26 #[.pointer (some ⟨B, 0, none⟩)] w fun e w' => e = .returned (.bool (D.left == 0)) ∧ w = w' := by
  have HS0 := HS
  simp only [diskA, List.cons_append, List.nil_append] at HS
  go_enter Try.func26, Try.ntmps26
  go_wp2_with (first | (go_at_call 30; refine (dk_none (D := D) (n := n) (B := B) (g1 := g1) (c1 := c1) (g2 := g2) (c2 := c2) (vw := vw) (R := R) HS).mono ?_; rintro e w' ⟨rfl, rfl⟩) | ((with_reducible apply sLoad1 HS); infer_instance; rfl; rfl; (repeat (first | exact List.Mem.head _ | apply List.Mem.tail)); rfl))
  go_ret
  exact ⟨rfl, rfl⟩

def Dk.power (D : Dk) (a : Int) : Dk := { D with left := if a < -1 then -1 else a }
theorem dk_power (HS : St S w0 w (diskA D n B g1 c1 g2 c2 vw ++ R)) (a : Int) (h1 : a ≤ 9223372036854775807) :
    Calls Try.prog 25 #[.pointer (some ⟨B, 0, none⟩), .int .i64 a] w fun e w' => e = .returned (.tuple #[]) ∧ St S w0 w' (diskA (D.power a) n B g1 c1 g2 c2 vw ++ R) := by
  simp only [diskA, List.cons_append, List.nil_append] at HS
  by_cases ha : a < -1
  all_goals
    go_enter Try.func25, Try.ntmps25
    go_wp2_with (first | (go_at_call 30; refine (dk_none (D := D) (n := n) (B := B) (g1 := g1) (c1 := c1) (g2 := g2) (c2 := c2) (vw := vw) (R := R) HS).mono ?_; rintro e w' ⟨rfl, rfl⟩) | ((with_reducible apply sLoad1 HS); infer_instance; rfl; rfl; (repeat (first | exact List.Mem.head _ | apply List.Mem.tail)); rfl) | ((with_reducible apply sStore1 HS); infer_instance; rfl; rfl; (conv => (lhs; whnf)); (repeat (first | exact Rep.here | apply Rep.there)); exact of_decide_eq_true rfl; (first | rfl | exact HS.ownOne (by (repeat (first | exact List.Mem.head _ | apply List.Mem.tail)))); intro w' H1; clear HS; have HS := H1; clear H1; simp only [List.setIfInBounds_toArray, List.set_cons_zero, List.set_cons_succ] at HS))
    go_end0
    exact ⟨rfl, by unfold Dk.power; (first | rw [if_pos ha] | rw [if_neg (by omega)]); exact HS⟩

/-- Clone: a row of the call's own. -/
theorem clone_any {L : List Ass} {B o n cap : Nat} {xs : List Value} (HS : St S w0 w L) (hr : ∀ w', Hd L w' → w'.rangeAt B o xs) (hl : xs.length = n * 256) (h1 : ∀ v ∈ xs, v.oneCell' = true) (hn : n ≤ 100000) :
    Calls Try.prog 31 #[.slice (some ⟨B, o, none⟩) n cap] w fun e w' => ∃ v, e = .returned v ∧ v ≠ .slice none 0 0 ∧ St S w0 w' (.own v 32 256 n xs :: L) := by
  have HR := Lib.hid hr
  have HL := Lib.hid hl
  have H1 := Lib.hid h1
  clear hr hl h1
  go_enter Try.func31, Try.ntmps31
  go_wp2_with (first | ((with_reducible apply sEqNil (P := Try.prog) (t := 24) Try.underlying24); rfl; rfl) | ((with_reducible apply sEmpty HS Try.underlying24 infoB1); rfl; intro B2 w' H1'; clear HS; have HS := H1'; clear H1') | ((with_reducible apply sAppend HS Try.underlying24 infoB zB_size (by decide)); (conv => (lhs; whnf)); (intro v'; (repeat (first | exact Rep.here | apply Rep.there))); rfl; rotate_left; exact news_range (HR.out _ (HS.hd (fun A hA => .tail _ hA))); rotate_right; exact HL.out; exact H1.out; decide; omega; intro v1 w' H1' hnil; clear HS; have HS := H1'; clear H1'))
  go_ret
  simp only [Nat.zero_add, List.nil_append] at HS
  exact ⟨_, rfl, fun e => by have := hnil.1 e; simp at this, HS⟩

theorem dk_image (HS : St S w0 w (diskA D n B g1 c1 g2 c2 vw ++ R)) (hok : D.Ok n) :
    Calls Try.prog 11 #[.pointer (some ⟨B, 0, none⟩)] w fun e w' => ∃ g c, e = .returned (.slice (some ⟨g, 0, none⟩) n c) ∧ St S w0 w' (.own (.slice (some ⟨g, 0, none⟩) n c) 32 256 n (encBs D.now) :: (diskA D n B g1 c1 g2 c2 vw ++ R)) := by
  have HL := Lib.hid ((encBs_len hok.nowB).trans (by rw [hok.now]) : (encBs D.now).length = n * 256)
  have h0 := hok.n0
  have h1 := hok.n1
  simp only [diskA, List.cons_append, List.nil_append] at HS
  go_enter Try.func11, Try.ntmps11
  go_wp2_with (first | (go_at_call 30; refine (dk_none (D := D) (n := n) (B := B) (g1 := g1) (c1 := c1) (g2 := g2) (c2 := c2) (vw := vw) (R := R) HS).mono ?_; rintro e w' ⟨rfl, rfl⟩) | ((with_reducible apply sLoad1 HS); infer_instance; rfl; rfl; (repeat (first | exact List.Mem.head _ | apply List.Mem.tail)); rfl) | (go_at_call 31; refine (clone_any HS (fun w' hC => hd_own hC (by (repeat (first | exact List.Mem.head _ | apply List.Mem.tail)))) HL.out (encBs_one _) (by omega)).mono ?_; rintro e w' ⟨v1, rfl, hv1, H1'⟩; clear HS; have HS := H1'; clear H1'))
  go_ret
  obtain ⟨g, c, rfl, _⟩ := own_row (HS.own (by (repeat (first | exact List.Mem.head _ | apply List.Mem.tail)))) (by omega)
  exact ⟨g, c, rfl, HS⟩

theorem dk_safe (HS : St S w0 w (diskA D n B g1 c1 g2 c2 vw ++ R)) (hok : D.Ok n) :
    Calls Try.prog 12 #[.pointer (some ⟨B, 0, none⟩)] w fun e w' => ∃ g c, e = .returned (.slice (some ⟨g, 0, none⟩) n c) ∧ St S w0 w' (.own (.slice (some ⟨g, 0, none⟩) n c) 32 256 n (encBs D.safe) :: (diskA D n B g1 c1 g2 c2 vw ++ R)) := by
  have HL := Lib.hid ((encBs_len hok.safeB).trans (by rw [hok.safe]) : (encBs D.safe).length = n * 256)
  have h0 := hok.n0
  have h1 := hok.n1
  simp only [diskA, List.cons_append, List.nil_append] at HS
  go_enter Try.func12, Try.ntmps12
  go_wp2_with (first | (go_at_call 30; refine (dk_none (D := D) (n := n) (B := B) (g1 := g1) (c1 := c1) (g2 := g2) (c2 := c2) (vw := vw) (R := R) HS).mono ?_; rintro e w' ⟨rfl, rfl⟩) | ((with_reducible apply sLoad1 HS); infer_instance; rfl; rfl; (repeat (first | exact List.Mem.head _ | apply List.Mem.tail)); rfl) | (go_at_call 31; refine (clone_any HS (fun w' hC => hd_own hC (by (repeat (first | exact List.Mem.head _ | apply List.Mem.tail)))) HL.out (encBs_one _) (by omega)).mono ?_; rintro e w' ⟨v1, rfl, hv1, H1'⟩; clear HS; have HS := H1'; clear H1'))
  go_ret
  obtain ⟨g, c, rfl, _⟩ := own_row (HS.own (by (repeat (first | exact List.Mem.head _ | apply List.Mem.tail)))) (by omega)
  exact ⟨g, c, rfl, HS⟩

end
end Go.Proofs.Ytfdomknagcdpeaa
