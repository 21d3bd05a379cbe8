/- The layer of journal blocks: its small functions. -/
import Derived.Test.YtckadanghhibhaaBlk
import Derived.Test.YtckadanghhibhaaRef01Z
namespace Go.Proofs.Ytckadanghhibhaa
open Go.RowKit

theorem blkT : BlkT Try.prog 28 5 :=
  ⟨Try.underlying28, Try.underlying5, by kernel_rfl, by kernel_rfl, by kernel_rfl, by kernel_rfl, by kernel_rfl, by kernel_rfl⟩

theorem jget (B at_ : Nat) (bs : List UInt8) (E : TypeId) (w : World) (hB : w.heap[B]? = some (.cells (encB bs) E (0, 0))) (hl : bs.length = 256) (h1 : at_ + 4 ≤ 256) :
    Calls Try.prog 46 #[.pointer (some ⟨B, 0, none⟩), .int .i64 at_] w fun e w' => e = .returned (.int .u32 (get32 bs at_)) ∧ w = w' := by
  have HB := Lib.hid hB
  clear hB
  go_enter Try.func46, Try.ntmps46
  go_wp2_with (go_at_call 58; refine (nget_yes _ _ _ _ _ _ _ _ HB.out (by omega) (by omega) (by omega)).mono ?_; rintro e w' ⟨rfl, rfl⟩)
  go_ret
  exact ⟨rfl, rfl⟩

theorem jput (B at_ : Nat) (v : Int) (bs : List UInt8) (E : TypeId) (w : World) (hB : w.heap[B]? = some (.cells (encB bs) E (0, 0))) (hl : bs.length = 256) (h1 : at_ + 4 ≤ 256) (v0 : 0 ≤ v) (v1 : v < 4294967296) :
    Calls Try.prog 45 #[.pointer (some ⟨B, 0, none⟩), .int .i64 at_, .int .u32 v] w fun e w' => e = .returned (.tuple #[]) ∧ w' = w.setRow B (encB (put32 bs at_ v)) := by
  have HB := Lib.hid hB
  clear hB
  go_enter Try.func45, Try.ntmps45
  go_wp2_with (go_at_call 57; refine (nput_yes _ _ _ _ _ _ _ _ _ HB.out (by omega) (by omega) (by omega) v0 v1).mono ?_; rintro e w' ⟨rfl, rfl⟩)
  go_end0
  exact ⟨rfl, rfl⟩

/-- May a number be? -/
def seqB (s : Int) : Bool := decide (1 ≤ s ∧ s ≤ 2147483648)
theorem jnumbered (s : Int) (w : World) : Calls Try.prog 37 #[.int .u32 s] w fun e w' => e = .returned (.bool (seqB s)) ∧ w = w' := by
  by_cases h : 1 ≤ s
  · go_enter Try.func37, Try.ntmps37
    go_wp2
    go_ret
    exact ⟨ret_bool (by simp [seqB, h]), rfl⟩
  · go_enter Try.func37, Try.ntmps37
    go_wp2
    go_ret
    exact ⟨ret_bool (by simp [seqB]; omega), rfl⟩
theorem rseq (s : Int) (w : World) : Calls Try.prog 39 #[.int .u32 s] w fun e w' => e = .returned (.bool (seqB s)) ∧ w = w' := by
  by_cases h : 1 ≤ s
  · go_enter Try.func39, Try.ntmps39
    go_wp2
    go_ret
    exact ⟨ret_bool (by simp [seqB, h]), rfl⟩
  · go_enter Try.func39, Try.ntmps39
    go_wp2
    go_ret
    exact ⟨ret_bool (by simp [seqB]; omega), rfl⟩

/-- Numbers, one behind the other. -/
def putL (bs : List UInt8) (p : Nat) : List Int → List UInt8
  | [] => bs
  | x :: l => putL (put32 bs p x) (p + 4) l
def blockOf (l : List Int) : List UInt8 := putL Z256 0 l
theorem putL_len : ∀ (l : List Int) (bs : List UInt8) (p : Nat), (putL bs p l).length = bs.length
  | [], _, _ => rfl
  | x :: l, bs, p => by rw [putL, putL_len l, put32_len]
theorem blockOf_len (l : List Int) : (blockOf l).length = 256 := by rw [blockOf, putL_len, Z256_len]
theorem putL_app : ∀ (l m : List Int) (bs : List UInt8) (p : Nat), putL bs p (l ++ m) = putL (putL bs p l) (p + 4 * l.length) m
  | [], m, bs, p => by simp [putL]
  | x :: l, m, bs, p => by
    rw [List.cons_append, putL, putL_app l m, putL, List.length_cons]
    congr 1
    omega
def begunB (k s v : Int) : List UInt8 := blockOf [1280199249, k, s, v]
theorem begunB_len (k s v : Int) : (begunB k s v).length = 256 := blockOf_len _
/-- What a fresh world of two blocks holds. -/
theorem two_new (w : World) (o p : Obj) : ((w.alloc o).alloc p).heap[w.heap.size]? = some o ∧ ((w.alloc o).alloc p).heap[w.heap.size + 1]? = some p ∧ Mod none' w ((w.alloc o).alloc p) := by
  refine ⟨(Below.heap_alloc _ _ _ (by simp)).trans (heap_alloc_new _ _), ?_, ((Mod.refl _ _).alloc _).alloc _⟩
  have := heap_alloc_new (w.alloc o) p
  rwa [World.size_alloc] at this

theorem row_step {w W w1 : World} {g h : Nat} {old cs : Array Value} {t : TypeId} {o : Obj} (e : w1 = W.setRow g cs) (hg : W.heap[g]? = some (.cells old t (0, 0))) (hh : W.heap[h]? = some o) (hne : h ≠ g) (hm : Mod none' w W) (hge : w.heap.size ≤ g) :
    w1.heap[g]? = some (.cells cs t (0, 0)) ∧ w1.heap[h]? = some o ∧ Mod none' w w1 := by
  subst e
  exact ⟨setRow_heap _ _ _ _ _ _ hg, (setRow_other _ _ _ _ hne).trans hh, hm.setRow (.inr hge) _⟩

set_option maxHeartbeats 800000 in
theorem jbegun (k s v : Int) (w : World) (k0 : 0 ≤ k) (k1 : k < 256) (s0 : 0 ≤ s) (s1 : s < 4294967296) (v0 : 0 ≤ v) (v1 : v < 4294967296) :
    Calls Try.prog 38 #[.int .u8 k, .int .u32 s, .int .u32 v] w fun e w' => e = .returned (.agg (encB (begunB k s v))) ∧ Mod none' w w' := by
  obtain ⟨R0, H0, M0⟩ := two_new w (.cells (encB Z256) 28) (.cells (encB Z256) 28)
  have HR0 := Lib.hid R0
  have HH0 := Lib.hid H0
  clear R0 H0
  have hl4 : (begunB k s v).length = 256 := begunB_len k s v
  go_enter Try.func38, Try.ntmps38
  go_wp2_with (with_reducible refine wpList_allocB' blkT ?_)
  refine (jput _ 0 _ (Z256) _ _ HH0.out (by first | exact Z256_len | simp only [put32_len, Z256_len]) (by omega) (by omega) (by omega)).mono ?_
  rintro e w1 ⟨rfl, hw⟩
  obtain ⟨H1, R1, M1⟩ := row_step hw HH0.out HR0.out (by omega) M0 (by omega)
  have HR1 := Lib.hid R1
  have HH1 := Lib.hid H1
  clear hw R1 H1 HR0 HH0 M0
  go_wp2_with fail
  refine (jput _ 4 _ (put32 (Z256) 0 1280199249) _ _ HH1.out (by first | exact Z256_len | simp only [put32_len, Z256_len]) (by omega) (by omega) (by omega)).mono ?_
  rintro e w2 ⟨rfl, hw⟩
  obtain ⟨H2, R2, M2⟩ := row_step hw HH1.out HR1.out (by omega) M1 (by omega)
  have HR2 := Lib.hid R2
  have HH2 := Lib.hid H2
  clear hw R2 H2 HR1 HH1 M1
  go_wp2_with fail
  refine (jput _ 8 _ (put32 (put32 (Z256) 0 1280199249) 4 k) _ _ HH2.out (by first | exact Z256_len | simp only [put32_len, Z256_len]) (by omega) (by omega) (by omega)).mono ?_
  rintro e w3 ⟨rfl, hw⟩
  obtain ⟨H3, R3, M3⟩ := row_step hw HH2.out HR2.out (by omega) M2 (by omega)
  have HR3 := Lib.hid R3
  have HH3 := Lib.hid H3
  clear hw R3 H3 HR2 HH2 M2
  go_wp2_with fail
  refine (jput _ 12 _ (put32 (put32 (put32 (Z256) 0 1280199249) 4 k) 8 s) _ _ HH3.out (by first | exact Z256_len | simp only [put32_len, Z256_len]) (by omega) (by omega) (by omega)).mono ?_
  rintro e w4 ⟨rfl, hw⟩
  obtain ⟨H4, R4, M4⟩ := row_step hw HH3.out HR3.out (by omega) M3 (by omega)
  have HR4 := Lib.hid R4
  have HH4 := Lib.hid H4
  clear hw R4 H4 HR3 HH3 M3
  have HH5 : Hid (w4.heap[w.heap.size + 1]? = some (.cells (encB (begunB k s v)) 28 (0, 0))) := HH4
  go_wp2_with (first | ((with_reducible refine wpList_loadB' blkT ?_ hl4 HH5.out ?_); rfl) | ((with_reducible refine wpList_storeB' blkT ?_ ?_ hl4 Z256_len HR4.out ?_); rfl; rfl))
  have e5 := setRow_heap _ _ _ (encB (begunB k s v)) _ _ HR4.out
  refine bodyPost_ret (v := .agg (encB (begunB k s v))) (results_cell_row rfl _ _ _ _ _ (0, 0) _ rfl e5 Try.underlying28 rfl (by rw [blkT.size, encB_size, hl4])) rfl ⟨rfl, M4.setRow (.inr (by omega)) _⟩
end Go.Proofs.Ytckadanghhibhaa
