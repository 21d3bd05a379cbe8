/- Heads and commit blocks: the reference's writers, and the layer's writer of commit blocks. -/
import Derived.Test.YtckadanghhibhaaJr
namespace Go.Proofs.Ytckadanghhibhaa
open Go.RowKit

theorem new_u32 {w : World} {l : List Int} {T : TypeId} {C : Array Value} {N : Nat} (hC : C = (l.map (Value.int .u32)).toArray) (hN : w.heap.size = N) : ∀ k, k < l.length → (w.alloc (.cells C T)).cell? ⟨N, k, none⟩ = some (.int .u32 (l.getD k 0)) := by
  intro k hk
  rw [World.cell?_alloc_at _ _ _ _ hN.symm, hC]
  simp [hk]
theorem one_new (w : World) (o : Obj) : (w.alloc o).heap[w.heap.size]? = some o := heap_alloc_new _ _

theorem rwhead (s st : Int) (w : World) (s0 : 0 ≤ s) (s1 : s < 4294967296) :
    Calls Try.prog 12 #[.agg #[.int .u32 s, .int .i64 st]] w fun e w' => e = .returned (resB (wHead s st)) ∧ Mod none' w w' := by
  have HC := Lib.hid (head_new w (.cells #[.int .u32 s, .int .i64 st] 24) (.cells (encB Z256) 28))
  have M0 : Mod none' w ((w.alloc (.cells #[.int .u32 s, .int .i64 st] 24)).alloc (.cells (encB Z256) 28)) := ((Mod.refl _ _).alloc _).alloc _
  rcases Bool.eq_false_or_eq_true (seqB s) with h1 | h1
  rotate_left
  · skip
    have HR : Hid (wHead s st = none) := by show _ = _; rw [wHead, if_neg (by simp [h1])]
    have H1 := Lib.hid h1
    clear h1
    go_enter Try.func12, Try.ntmps12
    go_wp2_with (first | (with_reducible refine wpList_allocB' blkT ?_) | (with_reducible refine wpList_buildZ' blkT ?_) | ((with_reducible refine wpList_storeB' blkT ?_ ?_ Z256_len Z256_len HC.out ?_); rfl; rfl) | (go_at_call 39; refine (rseq _ _).mono ?_; rintro e w' ⟨rfl, rfl⟩; rw [H1.out]))
    refine bodyPost_ret (results_blk2 blkT rfl _ _ _ _ _ Z256_len rfl (setRow_heap _ _ _ _ _ _ HC.out)) rfl ⟨?_, M0.setRow (.inr (by simp)) _⟩
    rw [HR.out]; rfl
  by_cases c0 : 0 ≤ st
  rotate_left
  · skip
    have HR : Hid (wHead s st = none) := by show _ = _; rw [wHead, if_neg (by omega)]
    have H1 := Lib.hid h1
    clear h1
    go_enter Try.func12, Try.ntmps12
    go_wp2_with (first | (with_reducible refine wpList_allocB' blkT ?_) | (with_reducible refine wpList_buildZ' blkT ?_) | ((with_reducible refine wpList_storeB' blkT ?_ ?_ Z256_len Z256_len HC.out ?_); rfl; rfl) | (go_at_call 39; refine (rseq _ _).mono ?_; rintro e w' ⟨rfl, rfl⟩; rw [H1.out]))
    refine bodyPost_ret (results_blk2 blkT rfl _ _ _ _ _ Z256_len rfl (setRow_heap _ _ _ _ _ _ HC.out)) rfl ⟨?_, M0.setRow (.inr (by simp)) _⟩
    rw [HR.out]; rfl
  by_cases c1 : st < 256
  rotate_left
  · skip
    have HR : Hid (wHead s st = none) := by show _ = _; rw [wHead, if_neg (by omega)]
    have H1 := Lib.hid h1
    clear h1
    go_enter Try.func12, Try.ntmps12
    go_wp2_with (first | (with_reducible refine wpList_allocB' blkT ?_) | (with_reducible refine wpList_buildZ' blkT ?_) | ((with_reducible refine wpList_storeB' blkT ?_ ?_ Z256_len Z256_len HC.out ?_); rfl; rfl) | (go_at_call 39; refine (rseq _ _).mono ?_; rintro e w' ⟨rfl, rfl⟩; rw [H1.out]))
    refine bodyPost_ret (results_blk2 blkT rfl _ _ _ _ _ Z256_len rfl (setRow_heap _ _ _ _ _ _ HC.out)) rfl ⟨?_, M0.setRow (.inr (by simp)) _⟩
    rw [HR.out]; rfl
  have HR : Hid (wHead s st = some (blockOf [1280199249, 4, s, st])) := by show _ = _; rw [wHead, if_pos ⟨h1, by omega⟩]
  obtain ⟨hb1, hb2⟩ := seqB_bd h1
  have H1 := Lib.hid h1
  clear h1
  have hl4 : (blockOf [1280199249, 4, s, st]).length = 256 := blockOf_len _
  have hnn : ∀ k, 0 ≤ List.getD [1280199249, 4, s, st] k 0 ∧ List.getD [1280199249, 4, s, st] k 0 < 4294967296 := by
    intro k
    match k with
    | 0 => exact ⟨show (0 : Int) ≤ 1280199249 by omega, show (1280199249 : Int) < 4294967296 by omega⟩
    | 1 => exact ⟨show (0 : Int) ≤ 4 by omega, show (4 : Int) < 4294967296 by omega⟩
    | 2 => exact ⟨show (0 : Int) ≤ s by omega, show (s : Int) < 4294967296 by omega⟩
    | 3 => exact ⟨show (0 : Int) ≤ st by omega, show (st : Int) < 4294967296 by omega⟩
    | (n + 4) => exact ⟨by simp, by simp⟩
  have HNN := Lib.hid hnn
  clear hnn
  go_enter Try.func12, Try.ntmps12
  go_wp2_with (first | (with_reducible refine wpList_allocB' blkT ?_) | (go_at_call 39; refine (rseq _ _).mono ?_; rintro e w' ⟨rfl, rfl⟩; rw [H1.out]))
  refine (rblock _ _ _ [1280199249, 4, s, st] _ (by rfl) (by simp) (by exact new_u32 (by rfl) (by simp)) HNN.out (by simp)).mono ?_
  rintro e w1 ⟨rfl, hm⟩
  have HC1 := Lib.hid (hm.row ((Below.heap_alloc _ _ _ (by simp)).trans HC.out) (fun e => e))
  have M1 := (M0.alloc _).trans hm
  clear hm M0
  go_wp2_with ((with_reducible refine wpList_storeB' blkT ?_ ?_ hl4 Z256_len HC1.out ?_); rfl; rfl)
  refine bodyPost_ret (results_blk2 blkT rfl _ _ _ _ _ hl4 rfl (setRow_heap _ _ _ _ _ _ HC1.out)) rfl ⟨?_, M1.setRow (.inr (by simp)) _⟩
  rw [HR.out]; rfl

theorem rwcommit (s c m : Int) (w : World) (s0 : 0 ≤ s) (s1 : s < 4294967296) (m0 : 0 ≤ m) (m1 : m < 4294967296) :
    Calls Try.prog 18 #[.int .u32 s, .int .i64 c, .int .u32 m] w fun e w' => e = .returned (resB (wCommit s c m)) ∧ Mod none' w w' := by
  have HC := Lib.hid (one_new w (.cells (encB Z256) 28))
  have M0 : Mod none' w (w.alloc (.cells (encB Z256) 28)) := (Mod.refl _ _).alloc _
  rcases Bool.eq_false_or_eq_true (seqB s) with h1 | h1
  rotate_left
  · skip
    have HR : Hid (wCommit s c m = none) := by show _ = _; rw [wCommit, if_neg (by simp [h1])]
    have H1 := Lib.hid h1
    clear h1
    go_enter Try.func18, Try.ntmps18
    go_wp2_with (first | (with_reducible refine wpList_allocB' blkT ?_) | (with_reducible refine wpList_buildZ' blkT ?_) | ((with_reducible refine wpList_storeB' blkT ?_ ?_ Z256_len Z256_len HC.out ?_); rfl; rfl) | (go_at_call 39; refine (rseq _ _).mono ?_; rintro e w' ⟨rfl, rfl⟩; rw [H1.out]))
    refine bodyPost_ret (results_blk2 blkT rfl _ _ _ _ _ Z256_len rfl (setRow_heap _ _ _ _ _ _ HC.out)) rfl ⟨?_, M0.setRow (.inr (by simp)) _⟩
    rw [HR.out]; rfl
  by_cases c0 : 1 ≤ c
  rotate_left
  · skip
    have HR : Hid (wCommit s c m = none) := by show _ = _; rw [wCommit, if_neg (by omega)]
    have H1 := Lib.hid h1
    clear h1
    go_enter Try.func18, Try.ntmps18
    go_wp2_with (first | (with_reducible refine wpList_allocB' blkT ?_) | (with_reducible refine wpList_buildZ' blkT ?_) | ((with_reducible refine wpList_storeB' blkT ?_ ?_ Z256_len Z256_len HC.out ?_); rfl; rfl) | (go_at_call 39; refine (rseq _ _).mono ?_; rintro e w' ⟨rfl, rfl⟩; rw [H1.out]))
    refine bodyPost_ret (results_blk2 blkT rfl _ _ _ _ _ Z256_len rfl (setRow_heap _ _ _ _ _ _ HC.out)) rfl ⟨?_, M0.setRow (.inr (by simp)) _⟩
    rw [HR.out]; rfl
  by_cases c1 : c ≤ 256
  rotate_left
  · skip
    have HR : Hid (wCommit s c m = none) := by show _ = _; rw [wCommit, if_neg (by omega)]
    have H1 := Lib.hid h1
    clear h1
    go_enter Try.func18, Try.ntmps18
    go_wp2_with (first | (with_reducible refine wpList_allocB' blkT ?_) | (with_reducible refine wpList_buildZ' blkT ?_) | ((with_reducible refine wpList_storeB' blkT ?_ ?_ Z256_len Z256_len HC.out ?_); rfl; rfl) | (go_at_call 39; refine (rseq _ _).mono ?_; rintro e w' ⟨rfl, rfl⟩; rw [H1.out]))
    refine bodyPost_ret (results_blk2 blkT rfl _ _ _ _ _ Z256_len rfl (setRow_heap _ _ _ _ _ _ HC.out)) rfl ⟨?_, M0.setRow (.inr (by simp)) _⟩
    rw [HR.out]; rfl
  have HR : Hid (wCommit s c m = some (blockOf [1280199249, 2, s, c, m])) := by show _ = _; rw [wCommit, if_pos ⟨h1, by omega⟩]
  obtain ⟨hb1, hb2⟩ := seqB_bd h1
  have H1 := Lib.hid h1
  clear h1
  have hl4 : (blockOf [1280199249, 2, s, c, m]).length = 256 := blockOf_len _
  have hnn : ∀ k, 0 ≤ List.getD [1280199249, 2, s, c, m] k 0 ∧ List.getD [1280199249, 2, s, c, m] k 0 < 4294967296 := by
    intro k
    match k with
    | 0 => exact ⟨show (0 : Int) ≤ 1280199249 by omega, show (1280199249 : Int) < 4294967296 by omega⟩
    | 1 => exact ⟨show (0 : Int) ≤ 2 by omega, show (2 : Int) < 4294967296 by omega⟩
    | 2 => exact ⟨show (0 : Int) ≤ s by omega, show (s : Int) < 4294967296 by omega⟩
    | 3 => exact ⟨show (0 : Int) ≤ c by omega, show (c : Int) < 4294967296 by omega⟩
    | 4 => exact ⟨show (0 : Int) ≤ m by omega, show (m : Int) < 4294967296 by omega⟩
    | (n + 5) => exact ⟨by simp, by simp⟩
  have HNN := Lib.hid hnn
  clear hnn
  go_enter Try.func18, Try.ntmps18
  go_wp2_with (first | (with_reducible refine wpList_allocB' blkT ?_) | (go_at_call 39; refine (rseq _ _).mono ?_; rintro e w' ⟨rfl, rfl⟩; rw [H1.out]))
  refine (rblock _ _ _ [1280199249, 2, s, c, m] _ (by rfl) (by simp) (by exact new_u32 (by rfl) (by simp)) HNN.out (by simp)).mono ?_
  rintro e w1 ⟨rfl, hm⟩
  have HC1 := Lib.hid (hm.row ((Below.heap_alloc _ _ _ (by simp)).trans HC.out) (fun e => e))
  have M1 := (M0.alloc _).trans hm
  clear hm M0
  go_wp2_with ((with_reducible refine wpList_storeB' blkT ?_ ?_ hl4 Z256_len HC1.out ?_); rfl; rfl)
  refine bodyPost_ret (results_blk2 blkT rfl _ _ _ _ _ hl4 rfl (setRow_heap _ _ _ _ _ _ HC1.out)) rfl ⟨?_, M1.setRow (.inr (by simp)) _⟩
  rw [HR.out]; rfl

theorem jwcommit (s c m : Int) (w : World) (s0 : 0 ≤ s) (s1 : s < 4294967296) (m0 : 0 ≤ m) (m1 : m < 4294967296) :
    Calls Try.prog 17 #[.int .u32 s, .int .i64 c, .int .u32 m] w fun e w' => e = .returned (resB (wCommit s c m)) ∧ Mod none' w w' := by
  have HC := Lib.hid (one_new w (.cells (encB Z256) 28))
  have M0 : Mod none' w (w.alloc (.cells (encB Z256) 28)) := (Mod.refl _ _).alloc _
  rcases Bool.eq_false_or_eq_true (seqB s) with h1 | h1
  rotate_left
  · skip
    have HR : Hid (wCommit s c m = none) := by show _ = _; rw [wCommit, if_neg (by simp [h1])]
    have H1 := Lib.hid h1
    clear h1
    go_enter Try.func17, Try.ntmps17
    go_wp2_with (first | (with_reducible refine wpList_allocB' blkT ?_) | (with_reducible refine wpList_buildZ' blkT ?_) | ((with_reducible refine wpList_storeB' blkT ?_ ?_ Z256_len Z256_len HC.out ?_); rfl; rfl) | (go_at_call 37; refine (jnumbered _ _).mono ?_; rintro e w' ⟨rfl, rfl⟩; rw [H1.out]))
    refine bodyPost_ret (results_blk2 blkT rfl _ _ _ _ _ Z256_len rfl (setRow_heap _ _ _ _ _ _ HC.out)) rfl ⟨?_, M0.setRow (.inr (by simp)) _⟩
    rw [HR.out]; rfl
  by_cases c0 : 1 ≤ c
  rotate_left
  · skip
    have HR : Hid (wCommit s c m = none) := by show _ = _; rw [wCommit, if_neg (by omega)]
    have H1 := Lib.hid h1
    clear h1
    go_enter Try.func17, Try.ntmps17
    go_wp2_with (first | (with_reducible refine wpList_allocB' blkT ?_) | (with_reducible refine wpList_buildZ' blkT ?_) | ((with_reducible refine wpList_storeB' blkT ?_ ?_ Z256_len Z256_len HC.out ?_); rfl; rfl) | (go_at_call 37; refine (jnumbered _ _).mono ?_; rintro e w' ⟨rfl, rfl⟩; rw [H1.out]))
    refine bodyPost_ret (results_blk2 blkT rfl _ _ _ _ _ Z256_len rfl (setRow_heap _ _ _ _ _ _ HC.out)) rfl ⟨?_, M0.setRow (.inr (by simp)) _⟩
    rw [HR.out]; rfl
  by_cases c1 : c ≤ 256
  rotate_left
  · skip
    have HR : Hid (wCommit s c m = none) := by show _ = _; rw [wCommit, if_neg (by omega)]
    have H1 := Lib.hid h1
    clear h1
    go_enter Try.func17, Try.ntmps17
    go_wp2_with (first | (with_reducible refine wpList_allocB' blkT ?_) | (with_reducible refine wpList_buildZ' blkT ?_) | ((with_reducible refine wpList_storeB' blkT ?_ ?_ Z256_len Z256_len HC.out ?_); rfl; rfl) | (go_at_call 37; refine (jnumbered _ _).mono ?_; rintro e w' ⟨rfl, rfl⟩; rw [H1.out]))
    refine bodyPost_ret (results_blk2 blkT rfl _ _ _ _ _ Z256_len rfl (setRow_heap _ _ _ _ _ _ HC.out)) rfl ⟨?_, M0.setRow (.inr (by simp)) _⟩
    rw [HR.out]; rfl
  have HR : Hid (wCommit s c m = some (blockOf [1280199249, 2, s, c, m])) := by show _ = _; rw [wCommit, if_pos ⟨h1, by omega⟩]
  obtain ⟨hb1, hb2⟩ := seqB_bd h1
  have H1 := Lib.hid h1
  clear h1
  have hl4 : (begunB 2 s c).length = 256 := begunB_len 2 s c
  have hl5 : (blockOf [1280199249, 2, s, c, m]).length = 256 := blockOf_len _
  go_enter Try.func17, Try.ntmps17
  go_wp2_with (first | (with_reducible refine wpList_allocB' blkT ?_) | (go_at_call 37; refine (jnumbered _ _).mono ?_; rintro e w' ⟨rfl, rfl⟩; rw [H1.out]))
  refine (jbegun _ _ _ _ (by omega) (by omega) (by omega) (by omega) (by omega) (by omega)).mono ?_
  rintro e w1 ⟨rfl, hm⟩
  have HC1 := Lib.hid (hm.row HC.out (fun e => e))
  have M1 := M0.trans hm
  have hz : w.heap.size < w1.heap.size := by have := M1.size; have := lt_of_row HC1.out; omega
  clear hm M0
  have HN1 := Lib.hid (heap_alloc_new w1 (.cells (encB Z256) 28))
  go_wp2_with (first | (with_reducible refine wpList_allocB' blkT ?_) | ((with_reducible refine wpList_storeB' blkT ?_ ?_ hl4 Z256_len HN1.out ?_); rfl; rfl))
  refine (jput _ 16 _ (begunB 2 s c) 28 _ (setRow_heap _ _ _ _ _ _ HN1.out) hl4 (by omega) m0 m1).mono ?_
  rintro e w2 ⟨rfl, rfl⟩
  have HN2 := Lib.hid (setRow_heap _ _ _ (encB (blockOf [1280199249, 2, s, c, m])) _ _ (setRow_heap _ _ _ (encB (begunB 2 s c)) _ _ HN1.out))
  have HC2 := Lib.hid ((setRow_other ((w1.alloc (.cells (encB Z256) 28)).setRow w1.heap.size (encB (begunB 2 s c))) w1.heap.size w.heap.size (encB (blockOf [1280199249, 2, s, c, m])) (by omega)).trans ((setRow_other _ _ _ (encB (begunB 2 s c)) (by omega)).trans ((Below.heap_alloc _ (.cells (encB Z256) 28) _ hz).trans HC1.out)))
  have M2 : Mod none' w (((w1.alloc (.cells (encB Z256) 28)).setRow w1.heap.size (encB (begunB 2 s c))).setRow w1.heap.size (encB (blockOf [1280199249, 2, s, c, m]))) := ((M1.alloc _).setRow (.inr (by omega)) _).setRow (.inr (by omega)) _
  have hpb : put32 (begunB 2 s c) 16 m = blockOf [1280199249, 2, s, c, m] := rfl
  rw [hpb]
  generalize ((w1.alloc (.cells (encB Z256) 28)).setRow w1.heap.size (encB (begunB 2 s c))).setRow w1.heap.size (encB (blockOf [1280199249, 2, s, c, m])) = w3 at *
  clear hpb
  go_wp2_with (first | ((with_reducible refine wpList_loadB' blkT ?_ hl5 HN2.out ?_); rfl) | ((with_reducible refine wpList_storeB' blkT ?_ ?_ hl5 Z256_len HC2.out ?_); rfl; rfl))
  refine bodyPost_ret (results_blk2 blkT rfl _ _ _ _ _ hl5 rfl (setRow_heap _ _ _ _ _ _ HC2.out)) rfl ⟨?_, M2.setRow (.inr (by omega)) _⟩
  rw [HR.out]; rfl

end Go.Proofs.Ytckadanghhibhaa
