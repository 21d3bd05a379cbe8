/- The layer of journal blocks: heads and commit blocks are written. -/
import Derived.Test.YtckadanghhibhaaJb
namespace Go.Proofs.Ytckadanghhibhaa
open Go.RowKit

/-- A block that may not be: its value beside the error 2. -/
def resB : Option (List UInt8) → Value
  | some b => .tuple #[.agg (encB b), .int .i64 0]
  | none => .tuple #[.agg (encB Z256), .int .i64 2]

def wHead (s st : Int) : Option (List UInt8) := if seqB s = true ∧ 0 ≤ st ∧ st < 256 then some (blockOf [1280199249, 4, s, st]) else none
def wCommit (s c m : Int) : Option (List UInt8) := if seqB s = true ∧ 1 ≤ c ∧ c ≤ 256 then some (blockOf [1280199249, 2, s, c, m]) else none

theorem head_new (w : World) (o p : Obj) : ((w.alloc o).alloc p).heap[w.heap.size + 1]? = some p := (two_new w o p).2.1
theorem seqB_bd {s : Int} (h : seqB s = true) : 1 ≤ s ∧ s ≤ 2147483648 := by simpa [seqB] using h

theorem jwhead (s st : Int) (w : World) (s0 : 0 ≤ s) (s1 : s < 4294967296) :
    Calls Try.prog 11 #[.agg #[.int .u32 s, .int .i64 st]] w fun e w' => e = .returned (resB (wHead s st)) ∧ Mod none' w w' := by
  have HC := Lib.hid (head_new w (.cells #[.int .u32 s, .int .i64 st] 24) (.cells (encB Z256) 28))
  have M0 : Mod none' w ((w.alloc (.cells #[.int .u32 s, .int .i64 st] 24)).alloc (.cells (encB Z256) 28)) := ((Mod.refl _ _).alloc _).alloc _
  by_cases h1 : seqB s = true
  · by_cases h2 : st < 0
    · have HR : Hid (wHead s st = none) := by show _ = _; rw [wHead, if_neg (by omega)]
      have H1 := Lib.hid h1
      clear h1
      go_enter Try.func11, Try.ntmps11
      go_wp2_with (first | (with_reducible refine wpList_allocB' blkT ?_) | (with_reducible refine wpList_buildZ' blkT ?_) | ((with_reducible refine wpList_storeB' blkT ?_ ?_ Z256_len Z256_len HC.out ?_); rfl; rfl) | (go_at_call 37; refine (jnumbered _ _).mono ?_; rintro e w' ⟨rfl, rfl⟩; rw [H1.out]))
      refine bodyPost_ret (results_blk2 blkT rfl _ _ _ _ _ Z256_len rfl (setRow_heap _ _ _ _ _ _ HC.out)) rfl ⟨?_, M0.setRow (.inr (by simp)) _⟩
      rw [HR.out]; rfl
    · by_cases h3 : st < 256
      · have HR : Hid (wHead s st = some (blockOf [1280199249, 4, s, st])) := by show _ = _; rw [wHead, if_pos ⟨h1, by omega, h3⟩]
        have H1 := Lib.hid h1
        have hb := seqB_bd h1
        obtain ⟨hb1, hb2⟩ := hb
        have hl4 : (begunB 4 s st).length = 256 := begunB_len 4 s st
        clear h1
        go_enter Try.func11, Try.ntmps11
        go_wp2_with (first | (with_reducible refine wpList_allocB' blkT ?_) | (go_at_call 37; refine (jnumbered _ _).mono ?_; rintro e w' ⟨rfl, rfl⟩; rw [H1.out]))
        refine (jbegun _ _ _ _ (by omega) (by omega) (by omega) (by omega) (by omega) (by omega)).mono ?_
        rintro e w1 ⟨rfl, hm⟩
        have HC1 := Lib.hid (hm.row HC.out (fun e => e))
        have M1 := M0.trans hm
        clear hm M0
        go_wp2_with ((with_reducible refine wpList_storeB' blkT ?_ ?_ hl4 Z256_len HC1.out ?_); rfl; rfl)
        refine bodyPost_ret (results_blk2 blkT rfl _ _ _ _ _ hl4 rfl (setRow_heap _ _ _ _ _ _ HC1.out)) rfl ⟨?_, M1.setRow (.inr (by omega)) _⟩
        rw [HR.out]; rfl
      · have HR : Hid (wHead s st = none) := by show _ = _; rw [wHead, if_neg (by omega)]
        have H1 := Lib.hid h1
        clear h1
        go_enter Try.func11, Try.ntmps11
        go_wp2_with (first | (with_reducible refine wpList_allocB' blkT ?_) | (with_reducible refine wpList_buildZ' blkT ?_) | ((with_reducible refine wpList_storeB' blkT ?_ ?_ Z256_len Z256_len HC.out ?_); rfl; rfl) | (go_at_call 37; refine (jnumbered _ _).mono ?_; rintro e w' ⟨rfl, rfl⟩; rw [H1.out]))
        refine bodyPost_ret (results_blk2 blkT rfl _ _ _ _ _ Z256_len rfl (setRow_heap _ _ _ _ _ _ HC.out)) rfl ⟨?_, M0.setRow (.inr (by simp)) _⟩
        rw [HR.out]; rfl
  · have h1' : seqB s = false := by simpa using h1
    have HR : Hid (wHead s st = none) := by show _ = _; rw [wHead, if_neg (by simp [h1'])]
    have H1 := Lib.hid h1'
    clear h1 h1'
    go_enter Try.func11, Try.ntmps11
    go_wp2_with (first | (with_reducible refine wpList_allocB' blkT ?_) | (with_reducible refine wpList_buildZ' blkT ?_) | ((with_reducible refine wpList_storeB' blkT ?_ ?_ Z256_len Z256_len HC.out ?_); rfl; rfl) | (go_at_call 37; refine (jnumbered _ _).mono ?_; rintro e w' ⟨rfl, rfl⟩; rw [H1.out]))
    refine bodyPost_ret (results_blk2 blkT rfl _ _ _ _ _ Z256_len rfl (setRow_heap _ _ _ _ _ _ HC.out)) rfl ⟨?_, M0.setRow (.inr (by simp)) _⟩
    rw [HR.out]; rfl
end Go.Proofs.Ytckadanghhibhaa
