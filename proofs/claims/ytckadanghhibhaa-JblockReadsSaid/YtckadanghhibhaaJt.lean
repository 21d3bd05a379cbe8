/- Rows of lists in journal blocks: tags and numbers. -/
import Derived.Test.YtckadanghhibhaaJrw
import Derived.Laws.EntriesVeiled
namespace Go.Proofs.Ytckadanghhibhaa
open Go.RowKit

theorem gB_put32_out (bs : List UInt8) (p j : Nat) (v : Int) (h : j < p ∨ p + 4 ≤ j) : gB (put32 bs p v) j = gB bs j := by
  unfold put32
  simp only [gB_set, List.length_set]
  rw [if_neg (by omega), if_neg (by omega), if_neg (by omega), if_neg (by omega)]
theorem gB_putL_out : ∀ (l : List Int) (bs : List UInt8) (p j : Nat), (j < p ∨ p + 4 * l.length ≤ j) → gB (putL bs p l) j = gB bs j
  | [], _, _, _, _ => rfl
  | x :: l, bs, p, j, h => by
    rw [List.length_cons] at h
    rw [putL, gB_putL_out l _ _ _ (by omega), gB_put32_out _ _ _ _ (by omega)]
theorem bytes_ext {a b : List UInt8} (hl : a.length = b.length) (h : ∀ j, j < a.length → gB a j = gB b j) : a = b := by
  apply List.ext_getElem hl
  intro i h1 h2
  have e := h i h1
  unfold gB at e
  apply UInt8.toNat_inj.1
  simp [h1, h2] at e
  omega
theorem gB_put32_in (bs : List UInt8) (p i : Nat) (v : Int) (hi : i < 4) (h : p + 4 ≤ bs.length) : gB (put32 bs p v) (p + i) = v / 256 ^ i % 256 := by
  unfold put32
  simp only [gB_set, List.length_set]
  obtain rfl | rfl | rfl | rfl : i = 0 ∨ i = 1 ∨ i = 2 ∨ i = 3 := by omega
  · rw [if_neg (by omega), if_neg (by omega), if_neg (by omega), if_pos ⟨by omega, by omega⟩]; simp
  · rw [if_neg (by omega), if_neg (by omega), if_pos ⟨by omega, by omega⟩]; simp
  · rw [if_neg (by omega), if_pos ⟨by omega, by omega⟩]
    congr 1
  · rw [if_pos ⟨by omega, by omega⟩]
    congr 1
theorem put32_zero (bs : List UInt8) (p : Nat) (h : p + 4 ≤ bs.length) (hz : ∀ i, i < 4 → gB bs (p + i) = 0) : put32 bs p 0 = bs := by
  apply bytes_ext (put32_len _ _ _)
  intro j _
  by_cases hj : p ≤ j ∧ j < p + 4
  · obtain ⟨i, rfl⟩ : ∃ i, j = p + i := ⟨j - p, by omega⟩
    rw [gB_put32_in _ _ _ _ (by omega) h, hz i (by omega)]
    simp
  · exact gB_put32_out _ _ _ _ (by omega)
theorem blockOf_zero (l : List Int) (j : Nat) (h : 4 * l.length ≤ j) : gB (blockOf l) j = 0 := by
  rw [blockOf, gB_putL_out _ _ _ _ (by omega), Z256_get]
theorem blockOf_snoc (l : List Int) (x : Int) : blockOf (l ++ [x]) = put32 (blockOf l) (4 * l.length) x := by
  rw [blockOf, putL_app, putL, putL, Nat.zero_add]; rfl
theorem blockOf_snoc0 (l : List Int) (h : 4 * l.length + 4 ≤ 256) : blockOf (l ++ [0]) = blockOf l := by
  rw [blockOf_snoc, put32_zero _ _ (by rw [blockOf_len]; omega) (fun i _ => blockOf_zero _ _ (by omega))]

/-- A flag as a number. -/
def fl (e : Bool) : Int := if e then 1 else 0
def flatT (l : List (Int × Bool)) : List Int := l.flatMap fun x => [x.1, fl x.2]
theorem flatT_len (l : List (Int × Bool)) : (flatT l).length = 2 * l.length := by
  induction l with
  | nil => rfl
  | cons a l ih => simp only [flatT, List.flatMap_cons, List.length_append, List.length_cons, List.length_nil] at *; omega
theorem flatT_snoc (l : List (Int × Bool)) (x : Int × Bool) : flatT (l ++ [x]) = flatT l ++ [x.1] ++ [fl x.2] := by simp [flatT]

def risesT (l : List (Int × Bool)) : Bool := (List.range (l.length - 1)).all fun i => decide ((l.getD i (0, false)).1 < (l.getD (i + 1) (0, false)).1)
def risesN (l : List Int) : Bool := (List.range (l.length - 1)).all fun i => decide (l.getD i 0 < l.getD (i + 1) 0)
theorem risesT_iff (l : List (Int × Bool)) : risesT l = true ↔ ∀ i, i + 1 < l.length → (l.getD i (0, false)).1 < (l.getD (i + 1) (0, false)).1 := by
  simp only [risesT, List.all_eq_true, List.mem_range, decide_eq_true_eq]
  exact ⟨fun h i hi => h i (by omega), fun h i hi => h i (by omega)⟩
theorem risesN_iff (l : List Int) : risesN l = true ↔ ∀ i, i + 1 < l.length → l.getD i 0 < l.getD (i + 1) 0 := by
  simp only [risesN, List.all_eq_true, List.mem_range, decide_eq_true_eq]
  exact ⟨fun h i hi => h i (by omega), fun h i hi => h i (by omega)⟩

def wDesc (s : Int) (l : List (Int × Bool)) : Option (List UInt8) := if seqB s = true ∧ 1 ≤ l.length ∧ l.length ≤ 30 ∧ risesT l = true then some (blockOf ([1280199249, 1, s, (l.length : Int)] ++ flatT l)) else none
def wRevoke (s : Int) (l : List Int) : Option (List UInt8) := if seqB s = true ∧ 1 ≤ l.length ∧ l.length ≤ 60 ∧ risesN l = true then some (blockOf ([1280199249, 3, s, (l.length : Int)] ++ l)) else none

theorem jput_at (B p : Nat) (at_ v : Int) (bs : List UInt8) (E : TypeId) (w : World) (hB : w.heap[B]? = some (.cells (encB bs) E (0, 0))) (he : at_ = (p : Int)) (hl : bs.length = 256) (h1 : p + 4 ≤ 256) (v0 : 0 ≤ v) (v1 : v < 4294967296) :
    Calls Try.prog 45 #[.pointer (some ⟨B, 0, none⟩), .int .i64 at_, .int .u32 v] w fun e w' => e = .returned (.tuple #[]) ∧ w' = w.setRow B (encB (put32 bs p v)) := by
  subst he
  exact jput B p v bs E w hB hl h1 v0 v1

theorem tags1 (B p : Nat) (at_ b : Int) (e : Bool) (bs : List UInt8) (E : TypeId) (w : World) (hB : w.heap[B]? = some (.cells (encB bs) E (0, 0))) (he : at_ = (p : Int)) (hl : bs.length = 256) (h1 : p + 8 ≤ 256) (b0 : 0 ≤ b) (b1 : b < 4294967296) :
    Calls Try.prog 53 #[.pointer (some ⟨B, 0, none⟩), .int .i64 at_, .agg #[.int .u32 b, .bool e]] w fun e' w' => e' = .returned (.tuple #[]) ∧ Mod (one' B) w w' ∧
      w'.heap[B]? = some (.cells (encB (if e then put32 (put32 bs p b) (p + 4) 1 else put32 bs p b)) E (0, 0)) := by
  subst he
  have hBs := lt_of_row hB
  have H0 : (w.alloc (.cells #[.int .u32 b, .bool e] 55)).heap[B]? = some (.cells (encB bs) E (0, 0)) := (Below.heap_alloc _ _ _ hBs).trans hB
  have HB := Lib.hid H0
  have HN := Lib.hid (heap_alloc_new w (.cells #[.int .u32 b, .bool e] 55))
  have M0 : Mod (one' B) w (w.alloc (.cells #[.int .u32 b, .bool e] 55)) := (Mod.refl _ _).alloc _
  clear hB H0
  go_enter Try.func53, Try.ntmps53
  go_wp2_with fail
  refine (jput_at _ p _ _ bs _ _ HB.out rfl hl (by omega) b0 b1).mono ?_
  rintro e' w1 ⟨rfl, rfl⟩
  have e1 := (setRow_other (w.alloc (.cells #[.int .u32 b, .bool e] 55)) B w.heap.size (encB (put32 bs p b)) (by omega)).trans HN.out
  have c1 := (cell_of_row _ _ 1 _ _ _ e1).trans (show _ = some (.bool e) from rfl)
  have HB1 := Lib.hid (setRow_heap _ _ _ (encB (put32 bs p b)) _ _ HB.out)
  have M1 := M0.setRow (g := B) (.inl rfl) (encB (put32 bs p b))
  generalize (w.alloc (.cells #[.int .u32 b, .bool e] 55)).setRow B (encB (put32 bs p b)) = w2 at *
  clear e1
  cases e
  · go_wp2
    go_end0
    exact ⟨rfl, M1, HB1.out⟩
  · go_wp2_with fail
    refine (jput_at _ (p + 4) _ _ (put32 bs p b) _ _ HB1.out (by simp) (by rw [put32_len]; exact hl) (by omega) (by omega) (by omega)).mono ?_
    rintro e' w3 ⟨rfl, rfl⟩
    go_wp2
    go_end0
    exact ⟨rfl, M1.setRow (.inl rfl) _, setRow_heap _ _ _ _ _ _ HB1.out⟩

theorem tags3 (a b : Int) (x y : Bool) (w : World) :
    Calls Try.prog 55 #[.agg #[.int .u32 a, .bool x], .agg #[.int .u32 b, .bool y]] w fun e' w' => e' = .returned (.bool (decide (a < b))) ∧ Mod none' w w' := by
  go_enter Try.func55, Try.ntmps55
  go_wp2
  go_ret
  exact ⟨rfl, ((Mod.refl _ _).alloc _).alloc _⟩
theorem nums1 (a b : Int) (w : World) :
    Calls Try.prog 56 #[.int .u32 a, .int .u32 b] w fun e' w' => e' = .returned (.bool (decide (a < b))) ∧ w = w' := by
  go_enter Try.func56, Try.ntmps56
  go_wp2
  go_ret
  exact ⟨rfl, rfl⟩

def tagsV : Array Value := #[.int .i64 8, .int .i64 30, .func (.func 53) #[] #[], .func (.func 54) #[] #[], .func (.func 55) #[] #[]]
def numsV : Array Value := #[.int .i64 4, .int .i64 60, .func (.func 45) #[] #[], .func (.func 46) #[] #[], .func (.func 56) #[] #[]]
theorem jtags (w : World) : Calls Try.prog 42 #[] w fun e' w' => e' = .returned (.agg tagsV) ∧ Mod none' w w' := by
  go_enter Try.func42, Try.ntmps42
  go_wp2
  exact bodyPost_ret (v := .agg tagsV) (by simp [results, Try.results42, go_sem, tagsV]) rfl ⟨rfl, (Mod.refl _ _).alloc _⟩

theorem jnums (w : World) : Calls Try.prog 44 #[] w fun e' w' => e' = .returned (.agg numsV) ∧ Mod none' w w' := by
  go_enter Try.func44, Try.ntmps44
  go_wp2
  exact bodyPost_ret (v := .agg numsV) (by simp [results, Try.results44, go_sem, numsV]) rfl ⟨rfl, (Mod.refl _ _).alloc _⟩
end Go.Proofs.Ytckadanghhibhaa
