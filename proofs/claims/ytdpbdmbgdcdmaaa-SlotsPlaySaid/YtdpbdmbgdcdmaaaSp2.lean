/- A block's slots: what is known of them without a program. -/
import Derived.Test.YtdpbdmbgdcdmaaaSp
namespace Go.Proofs.Ytdpbdmbgdcdmaaa
open Go Go.RowKit

structure IsSl (bs : List UInt8) (n : Nat) (l : List Sl) : Prop where
  len : l.length = n
  rd : ∀ (i : Nat) (x : Sl), l[i]? = some x → rdSlot bs (32 * i) = some x
  apart : ∀ (i j : Nat) (x y : Sl), i < j → l[i]? = some x → l[j]? = some y → y.1 ≠ 0 → (x.2 == y.2) = false
theorem isSl_step {bs : List UInt8} {n : Nat} {l : List Sl} {x : Sl} (h : IsSl bs n l) (hr : rdSlot bs (32 * n) = some x) (hx : x.1 ≠ 0 → (l.any fun y => y.2 == x.2) = false) : IsSl bs (n + 1) (l ++ [x]) := by
  obtain ⟨h1, h2, h3⟩ := h
  refine ⟨by simp [h1], fun i y hy => ?_, fun i j y z hij hy hz hz0 => ?_⟩
  · by_cases hi : i < l.length
    · rw [List.getElem?_append_left hi] at hy; exact h2 i y hy
    · have hlt := (List.getElem?_eq_some_iff.1 hy).1
      simp at hlt
      obtain rfl : i = n := by omega
      rw [List.getElem?_append_right (by omega), h1, Nat.sub_self] at hy
      cases hy
      exact hr
  · by_cases hj : j < l.length
    · rw [List.getElem?_append_left hj] at hz
      rw [List.getElem?_append_left (by omega)] at hy
      exact h3 i j y z hij hy hz hz0
    · have hlt := (List.getElem?_eq_some_iff.1 hz).1
      simp at hlt
      obtain rfl : j = n := by omega
      rw [List.getElem?_append_right (by omega), h1, Nat.sub_self] at hz
      cases hz
      rw [List.getElem?_append_left (by omega)] at hy
      cases hq : y.2 == x.2
      · rfl
      · rw [List.any_eq_true.2 ⟨y, List.mem_of_getElem? hy, hq⟩] at hx
        exact absurd (hx hz0) (by decide)
theorem isSl_of {bs : List UInt8} : ∀ {n : Nat} {l : List Sl}, slotsTo bs n = some l → IsSl bs n l
  | 0, l, h => by cases h; exact ⟨rfl, fun i x hx => by simp at hx, fun i j x y _ hx => by simp at hx⟩
  | n + 1, l, h => by
    obtain ⟨l1, h1, h2⟩ := Option.bind_eq_some_iff.1 h
    have ih := isSl_of h1
    unfold slotStep at h2
    split at h2
    · cases h2
    · rename_i x hx
      split at h2
      · cases h2
      · rename_i hc
        cases h2
        refine isSl_step ih hx (fun h0 => ?_)
        cases hq : l1.any fun y => y.2 == x.2
        · rfl
        · exact absurd ⟨h0, hq⟩ hc
theorem of_isSl {bs : List UInt8} : ∀ {n : Nat} {l : List Sl}, IsSl bs n l → slotsTo bs n = some l
  | 0, l, h => by rw [List.eq_nil_of_length_eq_zero h.len]; rfl
  | n + 1, l, h => by
    obtain ⟨h1, h2, h3⟩ := h
    have hn : n < l.length := by omega
    have hl : l = l.take n ++ [l[n]] := by
      have := List.take_append_drop n l
      rw [List.drop_eq_getElem_cons hn, List.drop_of_length_le (by omega)] at this
      exact this.symm
    have ih : slotsTo bs n = some (l.take n) := of_isSl (by
      refine ⟨by rw [List.length_take]; omega, fun i x hx => ?_, fun i j x y hij hx hy h0 => ?_⟩
      · rw [List.getElem?_take] at hx; split at hx
        · exact h2 i x hx
        · cases hx
      · rw [List.getElem?_take] at hx hy; split at hx
        · split at hy
          · exact h3 i j x y hij hx hy h0
          · cases hy
        · cases hx)
    rw [slotsTo_succ ih]
    unfold slotStep
    rw [h2 n l[n] (List.getElem?_eq_getElem hn)]
    simp only
    rw [if_neg, ← hl]
    rintro ⟨h0, ha⟩
    obtain ⟨y, hy, hq⟩ := List.any_eq_true.1 ha
    obtain ⟨i, hi, rfl⟩ := List.getElem_of_mem hy
    rw [List.length_take] at hi
    have := h3 i n l[i] l[n] (by omega) (List.getElem?_eq_getElem (by omega)) (List.getElem?_eq_getElem hn) h0
    rw [List.getElem_take] at hq
    rw [hq] at this; cases this
theorem slotsOf_iff {bs : List UInt8} {l : List Sl} : slotsOf bs = some l ↔ IsSl bs 8 l := ⟨isSl_of, of_isSl⟩

/-- A block with a slot otherwise. -/
def setSlot (bs : List UInt8) (i : Nat) (x : Sl) : List UInt8 := setB bs (32 * i) (slotBytes x)
theorem fine_size {x : Sl} (h : Fine x) : x.1 = 0 ∨ x.2.size ≤ 27 := h.elim (fun h => .inl h.1) (fun h => .inr (okName_size h.2.2).2)
theorem setSlot_len {bs : List UInt8} (hl : bs.length = 256) {i : Nat} (hi : i < 8) {x : Sl} (hx : Fine x) : (setSlot bs i x).length = 256 := by
  unfold setSlot
  rw [setB_len _ _ _ (by rw [slotBytes_len (fine_size hx)]; omega), hl]
theorem gB_setSlot {bs : List UInt8} (hl : bs.length = 256) {i : Nat} (hi : i < 8) {x : Sl} (hx : Fine x) (k : Nat) : gB (setSlot bs i x) k = if 32 * i ≤ k ∧ k < 32 * i + 32 then gB (slotBytes x) (k - 32 * i) else gB bs k := by
  have h := slotBytes_len (fine_size hx)
  unfold setSlot
  rw [gB_setB _ _ _ (by rw [h]; omega), h]
theorem rd_set {bs : List UInt8} (hl : bs.length = 256) {i j : Nat} (hi : i < 8) (hj : j < 8) {x : Sl} (hx : Fine x) : rdSlot (setSlot bs i x) (32 * j) = if j = i then some x else rdSlot bs (32 * j) := by
  have hs := setSlot_len hl hi hx
  have hb := slotBytes_len (fine_size hx)
  split
  · subst_vars
    rw [rdSlot_eq (bs' := slotBytes x) (o' := 0) (by omega) (by omega) (fun k hk => by rw [gB_setSlot hl hi hx, if_pos (by omega)]; congr 1; omega)]
    exact rdSlot_bytes hx
  · exact rdSlot_eq (by omega) (by omega) (fun k hk => by rw [gB_setSlot hl hi hx, if_neg (by omega)])
theorem slots_set {bs : List UInt8} (hl : bs.length = 256) {l : List Sl} (h : slotsOf bs = some l) {i : Nat} (hi : i < 8) {x : Sl} (hx : Fine x)
    (ha : x.1 ≠ 0 → ∀ j y, j ≠ i → l[j]? = some y → (y.2 == x.2) = false) : slotsOf (setSlot bs i x) = some (l.set i x) := by
  obtain ⟨h1, h2, h3⟩ := slotsOf_iff.1 h
  refine slotsOf_iff.2 ⟨by rw [List.length_set, h1], fun j y hy => ?_, fun j k y z hjk hy hz hz0 => ?_⟩
  · have hj := (List.getElem?_eq_some_iff.1 hy).1
    rw [List.length_set] at hj
    rw [rd_set hl hi (by omega) hx]
    rw [List.getElem?_set] at hy
    split at hy
    · rename_i e; subst e
      rw [if_pos (by omega)] at hy
      rw [if_pos rfl]; exact hy
    · rename_i e
      rw [if_neg (fun e' => e e'.symm)]; exact h2 j y hy
  · rw [List.getElem?_set] at hy hz
    split at hz
    · rename_i e; subst e
      rw [if_pos (by omega)] at hz
      cases hz
      rw [if_neg (by omega)] at hy
      exact ha hz0 j y (by omega) hy
    · rename_i e
      split at hy
      · rename_i e2; subst e2
        rw [if_pos (by omega)] at hy
        cases hy
        rcases hx with ⟨x1, x2⟩ | ⟨x1, _, _⟩
        · rw [x2]
          have hf := rdSlot_fine (h2 k z hz)
          rcases hf with ⟨z1, _⟩ | ⟨_, _, z3⟩
          · exact absurd z1 hz0
          · have := (okName_size z3).1
            rw [beq_eq_false_iff_ne]
            intro e3; rw [← e3] at this; exact absurd this (by decide)
        · have := ha (by omega) k z (fun e3 => e e3.symm) hz
          rw [beq_eq_false_iff_ne] at this ⊢
          exact fun e3 => this e3.symm
      · exact h3 j k y z hjk hy hz hz0

theorem idxS_void {bs : List UInt8} {l : List Sl} (h : slotsOf bs = some l) {i : Nat} (hi : idxS l ByteArray.empty = some i) : i < 8 ∧ l[i]? = some zSl ∧ rdSlot bs (32 * i) = some zSl := by
  obtain ⟨h1, h2, h3⟩ := slotsOf_iff.1 h
  obtain ⟨y, hy, hq⟩ := idxS_get hi
  have hlt := (List.getElem?_eq_some_iff.1 hy).1
  have hr := h2 i y hy
  have hz : y = zSl := by
    obtain ⟨v, nm⟩ := y
    rcases rdSlot_fine hr with ⟨a, b⟩ | ⟨_, _, c⟩
    · simp only at a b
      rw [a, b]
    · have := (okName_size c).1
      have he := beq_iff_eq.1 hq
      simp only at he this
      rw [he] at this; exact absurd this (by decide)
  subst hz
  exact ⟨by omega, hy, hr⟩
theorem free_zero {bs : List UInt8} {i : Nat} (hr : rdSlot bs (32 * i) = some zSl) : allZ bs (32 * i) 32 = true := by
  unfold rdSlot at hr
  split at hr
  · split at hr
    · assumption
    · cases hr
  · rename_i h
    split at hr
    · simp only [Option.some.injEq, Prod.mk.injEq] at hr
      exact absurd hr.1 h
    · cases hr
theorem putName_eq {bs : List UInt8} (hl : bs.length = 256) {i : Nat} (hi : i < 8) (hr : rdSlot bs (32 * i) = some zSl) {ino : Int} {name : ByteArray} (h0 : ino ≠ 0) (hn : name.size ≤ 27) : putName bs i ino name = setSlot bs i (ino, name) := by
  have hz := (allZ_iff _ _ _).1 (free_zero hr)
  have hb := slotBytes_len (x := (ino, name)) (.inr hn)
  have hp : (put32 bs (32 * i) ino).length = 256 := (put32_len _ _ _).trans hl
  have hnl : name.data.toList.length = name.size := (Lib.size_eq name).symm
  unfold putName setSlot
  apply gB_ext
  · rw [setB_len _ _ _ (by rw [List.length_set, hp, hnl]; omega), setB_len _ _ _ (by rw [hb]; omega), List.length_set, hp, hl]
  · intro k hk
    rw [gB_setB _ _ _ (by rw [List.length_set, hp, hnl]; omega), gB_setB _ _ _ (by rw [hb]; omega), gB_set, gB_put32 _ _ _ (by omega), hb, hnl, hp]
    have g := gB_slot (x := (ino, name)) h0 (k - 32 * i)
    simp only at g
    rw [g]
    by_cases h1 : 32 * i ≤ k ∧ k < 32 * i + 32
    · rw [if_pos h1]
      have hzk := hz (k - 32 * i) (by omega)
      rw [show 32 * i + (k - 32 * i) = k by omega] at hzk
      by_cases h2 : 32 * i + 5 ≤ k ∧ k < 32 * i + 5 + name.size
      · rw [if_pos h2]
        rw [if_neg (by omega), if_neg (by omega), if_neg (by omega), if_neg (by omega), if_neg (by omega), if_pos (by omega)]
        rw [show k - (32 * i + 5) = k - 32 * i - 5 by omega]
      · rw [if_neg h2]
        repeat' split
        all_goals first | rfl | omega
    · rw [if_neg h1, if_neg (by omega)]
      repeat' split
      all_goals first | rfl | omega
theorem addOf_done {bs : List UInt8} (hl : bs.length = 256) {l : List Sl} (h : slotsOf bs = some l) {ino : Int} {name : ByteArray} (hok : okName name = true) (h0 : 0 < ino) (h1 : ino < 4294967296) (hno : idxS l name = none) {i : Nat} (hi : idxS l ByteArray.empty = some i) :
    addOf bs name ino = (setSlot bs i (ino, name), 0) ∧ slotsOf (setSlot bs i (ino, name)) = some (l.set i (ino, name)) := by
  obtain ⟨hi8, hli, hri⟩ := idxS_void h hi
  constructor
  · unfold addOf
    rw [h]
    simp only
    rw [if_neg (by rw [hok, hno]; simp; omega), hi]
    simp only
    rw [putName_eq hl hi8 hri (by omega) (okName_size hok).2]
  · refine slots_set hl h hi8 (.inr ⟨h0, h1, hok⟩) (fun _ j y hj hy => ?_)
    cases hq : y.2 == name
    · rfl
    · unfold idxS at hno
      rw [List.findIdx?_eq_none_iff] at hno
      have := hno y (List.mem_of_getElem? hy)
      rw [hq] at this; cases this
theorem remOf_done {bs : List UInt8} (hl : bs.length = 256) {l : List Sl} (h : slotsOf bs = some l) {name : ByteArray} (hn : name.size ≠ 0) {i : Nat} (hi : idxS l name = some i) :
    remOf bs name = (setSlot bs i zSl, true) ∧ slotsOf (setSlot bs i zSl) = some (l.set i zSl) := by
  obtain ⟨y, hy, _⟩ := idxS_get hi
  have h8 : i < 8 := by have := (List.getElem?_eq_some_iff.1 hy).1; have := slotsTo_len h; omega
  constructor
  · unfold remOf findOf
    rw [h]
    simp only
    rw [if_neg hn, hi]
    rfl
  · exact slots_set hl h h8 (.inl ⟨rfl, rfl⟩) (fun h0 => absurd rfl h0)
end Go.Proofs.Ytdpbdmbgdcdmaaa
