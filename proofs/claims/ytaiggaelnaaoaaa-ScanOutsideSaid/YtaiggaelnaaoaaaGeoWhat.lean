/- What a block is, by a geometry: the parts of a group, one by one. -/
import Derived.Test.YtaiggaelnaaoaaaGeo
import Derived.Test.YtaiggaelnaaoaaaRange
namespace Go.Proofs.Ytaiggaelnaaoaaa
open Go.RowKit Go.Shelf
attribute [local go_sem] Oper.semAt_some

/-- The stretches of a group of S blocks, q of them for inodes: the i-th one. -/
def prt (q S : Int) (i : Nat) : Int × Int × Int := match i with
  | 0 => (0, 1, 4)
  | 1 => (1, 2, 5)
  | 2 => (2, 2 + q, 6)
  | _ => (2 + q, S, 7)
def prtV (q S : Int) (i : Nat) : Array Value := #[.agg #[.int .i64 (prt q S i).1, .int .i64 (prt q S i).2.1, .int .u8 (prt q S i).2.2]]

set_option maxHeartbeats 1000000 in
theorem parts_iter (Bg : Nat) (G S q J : Int) (h1 : 0 ≤ q) (h2 : q ≤ 16) (h3 : 16 ≤ S) (h4 : S ≤ 512) :
    Iter Try.prog 17 #[.pointer (some ⟨Bg, 0, none⟩)] (prtV q S) 4 (SameC Bg) (fun X Y => X = Y)
      (fun W => W.heap[Bg]? = some (.cells #[.int .i64 G, .int .i64 S, .int .i64 (4 * q), .int .i64 J] 25 (0, 0))) := by
  intro l Jv Jx W m hW _ _ hY h0
  refine callsIn_of_wp Try.func17 rfl trivial ?_ rfl
  simp only [Try.ntmps17, List.size_toArray, List.length_cons, List.length_nil, Nat.reduceAdd, Nat.reduceSub, Array.replicate_succ, Array.replicate_zero, List.push_toArray, List.append_toArray, List.nil_append, List.cons_append]
  gi_wp2
  gi_loopw [3, 4, 5, 12] (fun at_ kind _ _ wr => ∃ (i : Nat) (k x : Int), (i = 0 ∧ k = 4 ∧ x = 0 ∨ i = 1 ∧ k = 5 ∧ x = 1 ∨ i = 2 ∧ k = 6 ∧ x = 2 ∨ i = 3 ∧ k = 7 ∧ x = 2 + q ∨ i = 4 ∧ k = 8 ∧ x = S) ∧ kind = .int .u8 k ∧ at_ = .int .i64 x ∧ Jv i wr ∧ wr.heap[Bg]? = some (.cells #[.int .i64 G, .int .i64 S, .int .i64 (4 * q), .int .i64 J] 25 (0, 0))) (fun _ kind _ _ _ => (8 - intOf kind).toNat)
  case atStart => exact ⟨0, 4, 0, by simp, rfl, rfl, h0, hW⟩
  case round =>
    obtain ⟨i, k, x, hc, rfl, rfl, hJ, hg⟩ := hrel
    have c1 := (cell_of_row wr Bg 1 _ _ _ hg).trans (show _ = some (.int .i64 S) from rfl)
    have c2 := (cell_of_row wr Bg 2 _ _ _ hg).trans (show _ = some (.int .i64 (4 * q)) from rfl)
    have HG := Lib.hid hg
    clear hg
    rcases hc with ⟨rfl, rfl, rfl⟩ | ⟨rfl, rfl, rfl⟩ | ⟨rfl, rfl, rfl⟩ | ⟨rfl, rfl, rfl⟩ | ⟨rfl, rfl, rfl⟩
    · obtain ⟨fn, tmps, assign, body, hy, hR⟩ := hY 0 wr (m - 1) (by omega) hJ
      simp only [prtV, prt] at hy
      gi_wp2
      refine ⟨fun hw => by simp [Fence.wide] at hw, hR.mono ?_⟩
      rintro e W3 (⟨rfl, hJ3, hk3⟩ | ⟨rfl, hJx3⟩)
      · have hg3 := hk3 _ _ _ HG.out
        clear hk3
        have HG3 := Lib.hid hg3
        clear hg3
        gi_wp2
        go_roundw
        case rel => exact ⟨1, _, _, by simp, rfl, rfl, hJ3, HG3.out⟩
        case measure => simp [intOf]
      · gi_wp2
        refine bodyPost_ret (results_none rfl _ _ _) rfl ?_
        exact ⟨⟨_, rfl⟩, .inr ⟨1, by omega, hJx3⟩⟩
    · obtain ⟨fn, tmps, assign, body, hy, hR⟩ := hY 1 wr (m - 1) (by omega) hJ
      simp only [prtV, prt] at hy
      gi_wp2
      refine ⟨fun hw => by simp [Fence.wide] at hw, hR.mono ?_⟩
      rintro e W3 (⟨rfl, hJ3, hk3⟩ | ⟨rfl, hJx3⟩)
      · have hg3 := hk3 _ _ _ HG.out
        clear hk3
        have HG3 := Lib.hid hg3
        clear hg3
        gi_wp2
        go_roundw
        case rel => exact ⟨2, _, _, by simp, rfl, rfl, hJ3, HG3.out⟩
        case measure => simp [intOf]
      · gi_wp2
        refine bodyPost_ret (results_none rfl _ _ _) rfl ?_
        exact ⟨⟨_, rfl⟩, .inr ⟨2, by omega, hJx3⟩⟩
    · obtain ⟨fn, tmps, assign, body, hy, hR⟩ := hY 2 wr (m - 1) (by omega) hJ
      simp only [prtV, prt] at hy
      gi_wp2
      refine ⟨fun hw => by simp [Fence.wide] at hw, hR.mono ?_⟩
      rintro e W3 (⟨rfl, hJ3, hk3⟩ | ⟨rfl, hJx3⟩)
      · have hg3 := hk3 _ _ _ HG.out
        clear hk3
        have HG3 := Lib.hid hg3
        clear hg3
        gi_wp2
        go_roundw
        case rel => exact ⟨3, _, _, by simp, rfl, rfl, hJ3, HG3.out⟩
        case measure => simp [intOf]
      · gi_wp2
        refine bodyPost_ret (results_none rfl _ _ _) rfl ?_
        exact ⟨⟨_, rfl⟩, .inr ⟨3, by omega, hJx3⟩⟩
    · obtain ⟨fn, tmps, assign, body, hy, hR⟩ := hY 3 wr (m - 1) (by omega) hJ
      simp only [prtV, prt] at hy
      gi_wp2
      refine ⟨fun hw => by simp [Fence.wide] at hw, hR.mono ?_⟩
      rintro e W3 (⟨rfl, hJ3, hk3⟩ | ⟨rfl, hJx3⟩)
      · have hg3 := hk3 _ _ _ HG.out
        clear hk3
        have HG3 := Lib.hid hg3
        clear hg3
        gi_wp2
        go_roundw
        case rel => exact ⟨4, _, _, by simp, rfl, rfl, hJ3, HG3.out⟩
        case measure => simp [intOf]
      · gi_wp2
        refine bodyPost_ret (results_none rfl _ _ _) rfl ?_
        exact ⟨⟨_, rfl⟩, .inr ⟨4, by omega, hJx3⟩⟩
    · gi_wp2
      go_end0
      exact ⟨⟨_, rfl⟩, .inl hJ⟩
end Go.Proofs.Ytaiggaelnaaoaaa
