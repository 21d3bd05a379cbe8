/- The geometry layer: what its small functions compute. -/
import Derived.Test.YtaiggaelnaaoaaaBase
namespace Go.Proofs.Ytaiggaelnaaoaaa
open Go.RowKit

/-- May a geometry be? -/
def gMay (G S I J : Int) : Bool := decide (1 ≤ G ∧ G ≤ 4 ∧ 16 ≤ S ∧ S ≤ 512 ∧ 4 ≤ I ∧ I ≤ 64 ∧ I % 4 = 0 ∧ 40 ≤ J ∧ J ≤ 256 ∧ 3 + I / 4 ≤ S ∧ 2 + J + G * S ≤ 2048)

theorem gMay_iff (G S I J : Int) : gMay G S I J = true ↔ (1 ≤ G ∧ G ≤ 4 ∧ 16 ≤ S ∧ S ≤ 512 ∧ 4 ≤ I ∧ I ≤ 64 ∧ I % 4 = 0 ∧ 40 ≤ J ∧ J ≤ 256 ∧ 3 + I / 4 ≤ S ∧ 2 + J + G * S ≤ 2048) := by
  unfold gMay; exact decide_eq_true_iff

theorem mul_bd (G S : Int) (h1 : 1 ≤ G) (h2 : G ≤ 4) (h3 : 16 ≤ S) (h4 : S ≤ 512) : 16 ≤ G * S ∧ G * S ≤ 2048 := by
  obtain rfl | rfl | rfl | rfl : G = 1 ∨ G = 2 ∨ G = 3 ∨ G = 4 := by omega
  all_goals omega

theorem among_yes (n a b : Int) (w : World) (h1 : a ≤ n) (h2 : n ≤ b) :
    Calls Try.prog 13 #[.int .i64 n, .int .i64 a, .int .i64 b] w fun e w' => e = .returned (.bool true) ∧ w = w' := by
  go_enter Try.func13, Try.ntmps13
  go_wp2
  go_ret
  exact ⟨by simp, rfl⟩

theorem among_no (n a b : Int) (w : World) (h : n < a ∨ b < n) :
    Calls Try.prog 13 #[.int .i64 n, .int .i64 a, .int .i64 b] w fun e w' => e = .returned (.bool false) ∧ w = w' := by
  by_cases h1 : n < a
  · go_enter Try.func13, Try.ntmps13
    go_wp2
    go_ret
    exact ⟨rfl, rfl⟩
  · have h2 : b < n := by omega
    go_enter Try.func13, Try.ntmps13
    go_wp2
    go_ret
    exact ⟨by simp; omega, rfl⟩

theorem geo_all (G S I J : Int) (w : World) (h1 : 1 ≤ G) (h2 : G ≤ 4) (h3 : 16 ≤ S) (h4 : S ≤ 512) (h5 : 40 ≤ J) (h6 : J ≤ 256) :
    Calls Try.prog 14 #[.agg #[.int .i64 G, .int .i64 S, .int .i64 I, .int .i64 J]] w fun e w' => e = .returned (.int .i64 (2 + J + G * S)) ∧ Below w.heap.size w w' := by
  obtain ⟨hm0, hm1⟩ := mul_bd G S h1 h2 h3 h4
  go_enter Try.func14, Try.ntmps14
  go_wp2
  go_ret
  exact ⟨rfl, (Below.refl _ _).alloc (Nat.le_refl _) _⟩

theorem geo_may_yes (G S I J : Int) (w : World) (h : gMay G S I J = true) :
    Calls Try.prog 12 #[.agg #[.int .i64 G, .int .i64 S, .int .i64 I, .int .i64 J]] w fun e w' => e = .returned (.bool true) ∧ Below w.heap.size w w' := by
  obtain ⟨h1, h2, h3, h4, h5, h6, h7, h8, h9, h10, h11⟩ := (gMay_iff G S I J).1 h
  obtain ⟨hm0, hm1⟩ := mul_bd G S h1 h2 h3 h4
  have h7' : (I % 4 == 0) = true := by simp [h7]
  clear h h7
  go_enter Try.func12, Try.ntmps12
  go_wp2_with (first | (go_at_call 13; refine (among_yes _ _ _ _ (by omega) (by omega)).mono ?_; rintro e w' ⟨rfl, rfl⟩) | (go_at_call 14; refine (geo_all _ _ _ _ _ (by omega) (by omega) (by omega) (by omega) (by omega) (by omega)).mono ?_; rintro e w' ⟨rfl, hb⟩))
  go_ret
  exact ⟨by simp, ((Below.refl _ _).alloc (Nat.le_refl _) _).trans (hb.mono (by simp))⟩

theorem gMay_no (G S I J : Int) (h : gMay G S I J = false) : G < 1 ∨ (1 ≤ G ∧ 4 < G) ∨ (1 ≤ G ∧ G ≤ 4 ∧ S < 16) ∨ (1 ≤ G ∧ G ≤ 4 ∧ 16 ≤ S ∧ 512 < S) ∨ (1 ≤ G ∧ G ≤ 4 ∧ 16 ≤ S ∧ S ≤ 512 ∧ I < 4) ∨ (1 ≤ G ∧ G ≤ 4 ∧ 16 ≤ S ∧ S ≤ 512 ∧ 4 ≤ I ∧ 64 < I)
    ∨ (1 ≤ G ∧ G ≤ 4 ∧ 16 ≤ S ∧ S ≤ 512 ∧ 4 ≤ I ∧ I ≤ 64 ∧ I % 4 ≠ 0) ∨ (1 ≤ G ∧ G ≤ 4 ∧ 16 ≤ S ∧ S ≤ 512 ∧ 4 ≤ I ∧ I ≤ 64 ∧ I % 4 = 0 ∧ J < 40) ∨ (1 ≤ G ∧ G ≤ 4 ∧ 16 ≤ S ∧ S ≤ 512 ∧ 4 ≤ I ∧ I ≤ 64 ∧ I % 4 = 0 ∧ 40 ≤ J ∧ 256 < J)
    ∨ (1 ≤ G ∧ G ≤ 4 ∧ 16 ≤ S ∧ S ≤ 512 ∧ 4 ≤ I ∧ I ≤ 64 ∧ I % 4 = 0 ∧ 40 ≤ J ∧ J ≤ 256 ∧ S < 3 + I / 4) ∨ (1 ≤ G ∧ G ≤ 4 ∧ 16 ≤ S ∧ S ≤ 512 ∧ 4 ≤ I ∧ I ≤ 64 ∧ I % 4 = 0 ∧ 40 ≤ J ∧ J ≤ 256 ∧ 3 + I / 4 ≤ S ∧ 2048 < 2 + J + G * S) := by
  have h' : ¬ (gMay G S I J = true) := by simp [h]
  rw [gMay_iff] at h'
  by_cases c1 : 1 ≤ G
  rotate_left
  · exact .inl (by omega)
  by_cases c2 : G ≤ 4
  rotate_left
  · exact .inr (.inl ⟨c1, by omega⟩)
  by_cases c3 : 16 ≤ S
  rotate_left
  · exact .inr (.inr (.inl ⟨c1, c2, by omega⟩))
  by_cases c4 : S ≤ 512
  rotate_left
  · exact .inr (.inr (.inr (.inl ⟨c1, c2, c3, by omega⟩)))
  by_cases c5 : 4 ≤ I
  rotate_left
  · exact .inr (.inr (.inr (.inr (.inl ⟨c1, c2, c3, c4, by omega⟩))))
  by_cases c6 : I ≤ 64
  rotate_left
  · exact .inr (.inr (.inr (.inr (.inr (.inl ⟨c1, c2, c3, c4, c5, by omega⟩)))))
  by_cases c7 : I % 4 = 0
  rotate_left
  · exact .inr (.inr (.inr (.inr (.inr (.inr (.inl ⟨c1, c2, c3, c4, c5, c6, by omega⟩))))))
  by_cases c8 : 40 ≤ J
  rotate_left
  · exact .inr (.inr (.inr (.inr (.inr (.inr (.inr (.inl ⟨c1, c2, c3, c4, c5, c6, c7, by omega⟩)))))))
  by_cases c9 : J ≤ 256
  rotate_left
  · exact .inr (.inr (.inr (.inr (.inr (.inr (.inr (.inr (.inl ⟨c1, c2, c3, c4, c5, c6, c7, c8, by omega⟩))))))))
  by_cases c10 : 3 + I / 4 ≤ S
  rotate_left
  · exact .inr (.inr (.inr (.inr (.inr (.inr (.inr (.inr (.inr (.inl ⟨c1, c2, c3, c4, c5, c6, c7, c8, c9, by omega⟩)))))))))
  exact .inr (.inr (.inr (.inr (.inr (.inr (.inr (.inr (.inr (.inr ⟨c1, c2, c3, c4, c5, c6, c7, c8, c9, c10, Int.not_le.1 (fun hl => h' ⟨c1, c2, c3, c4, c5, c6, c7, c8, c9, c10, hl⟩)⟩)))))))))

theorem geo_may_no (G S I J : Int) (w : World) (h : gMay G S I J = false) :
    Calls Try.prog 12 #[.agg #[.int .i64 G, .int .i64 S, .int .i64 I, .int .i64 J]] w fun e w' => e = .returned (.bool false) ∧ Below w.heap.size w w' := by
  have hc := gMay_no G S I J h
  clear h
  rcases hc with h | ⟨g1, h⟩ | ⟨g1, g2, h⟩ | ⟨g1, g2, g3, h⟩ | ⟨g1, g2, g3, g4, h⟩ | ⟨g1, g2, g3, g4, g5, h⟩ | ⟨g1, g2, g3, g4, g5, g6, h⟩ | ⟨g1, g2, g3, g4, g5, g6, g7, h⟩ | ⟨g1, g2, g3, g4, g5, g6, g7, g8, h⟩ | ⟨g1, g2, g3, g4, g5, g6, g7, g8, g9, h⟩ | ⟨g1, g2, g3, g4, g5, g6, g7, g8, g9, g10, h⟩
  case inr.inr.inr.inr.inr.inr.inr.inr.inr.inr =>
    have h7' : (I % 4 == 0) = true := by simp [g7]
    obtain ⟨hm0, hm1⟩ := mul_bd G S g1 g2 g3 g4
    clear g7
    go_enter Try.func12, Try.ntmps12
    go_wp2_with (first | (go_at_call 13; refine (among_yes _ _ _ _ (by omega) (by omega)).mono ?_; rintro e w' ⟨rfl, rfl⟩) | (go_at_call 13; refine (among_no _ _ _ _ (by omega)).mono ?_; rintro e w' ⟨rfl, rfl⟩) | (go_at_call 14; refine (geo_all _ _ _ _ _ (by omega) (by omega) (by omega) (by omega) (by omega) (by omega)).mono ?_; rintro e w' ⟨rfl, hb⟩))
    go_ret
    exact ⟨by simp; omega, ((Below.refl _ _).alloc (Nat.le_refl _) _).trans (hb.mono (by simp))⟩
  case inr.inr.inr.inr.inr.inr.inl =>
    have h7' : (I % 4 == 0) = false := by simp [h]
    clear h
    go_enter Try.func12, Try.ntmps12
    go_wp2_with (first | (go_at_call 13; refine (among_yes _ _ _ _ (by omega) (by omega)).mono ?_; rintro e w' ⟨rfl, rfl⟩) | (go_at_call 13; refine (among_no _ _ _ _ (by omega)).mono ?_; rintro e w' ⟨rfl, rfl⟩))
    go_ret
    exact ⟨rfl, ((Below.refl _ _).alloc (Nat.le_refl _) _)⟩
  all_goals
    try have h7' : (I % 4 == 0) = true := by simp [g7]
    try clear g7
    go_enter Try.func12, Try.ntmps12
    go_wp2_with (first | (go_at_call 13; refine (among_yes _ _ _ _ (by omega) (by omega)).mono ?_; rintro e w' ⟨rfl, rfl⟩) | (go_at_call 13; refine (among_no _ _ _ _ (by omega)).mono ?_; rintro e w' ⟨rfl, rfl⟩))
    go_ret
    exact ⟨by first | rfl | (simp; done) | (simp; omega), ((Below.refl _ _).alloc (Nat.le_refl _) _)⟩
end Go.Proofs.Ytaiggaelnaaoaaa
