/- Slots: what is known of them without a program. -/
import Derived.Test.YtdpbdmbgdcdmaaaSl4
namespace Go.Proofs.Ytdpbdmbgdcdmaaa
open Go Go.RowKit

theorem ba_eq {a b : ByteArray} : (a == b) = true ↔ a = b := by
  rw [beq_toListBytes, Lib.toList_data, Lib.toList_data, beq_iff_eq]
  exact ⟨fun h => ByteArray.ext (Array.toList_inj.1 h), fun h => by rw [h]⟩
instance : LawfulBEq ByteArray where
  eq_of_beq h := ba_eq.1 h
  rfl := ba_eq.2 rfl
theorem gB_ext {a b : List UInt8} (hl : a.length = b.length) (h : ∀ k, k < a.length → gB a k = gB b k) : a = b := by
  apply List.ext_getElem hl
  intro k h1 h2
  have := h k h1
  unfold gB at this
  rw [List.getD_eq_getElem?_getD, List.getD_eq_getElem?_getD, List.getElem?_eq_getElem h1, List.getElem?_eq_getElem h2] at this
  exact UInt8.toNat_inj.1 (by simp at this; omega)
theorem gB_out (bs : List UInt8) (k : Nat) (h : bs.length ≤ k) : gB bs k = 0 := by
  unfold gB
  rw [List.getD_eq_getElem?_getD, List.getElem?_eq_none h]; rfl
theorem gB_append (a b : List UInt8) (k : Nat) : gB (a ++ b) k = if k < a.length then gB a k else gB b (k - a.length) := by
  unfold gB
  simp only [List.getD_eq_getElem?_getD, List.getElem?_append]
  split <;> rfl
theorem gB_take (a : List UInt8) (n k : Nat) : gB (a.take n) k = if k < n then gB a k else 0 := by
  unfold gB
  simp only [List.getD_eq_getElem?_getD, List.getElem?_take]
  split <;> rfl
theorem gB_drop (a : List UInt8) (n k : Nat) : gB (a.drop n) k = gB a (n + k) := by
  unfold gB
  simp only [List.getD_eq_getElem?_getD, List.getElem?_drop]
theorem gB_rep (n k : Nat) : gB (List.replicate n (0 : UInt8)) k = 0 := by
  unfold gB
  simp only [List.getD_eq_getElem?_getD, List.getElem?_replicate]
  split <;> rfl
theorem gB_setB (bs : List UInt8) (o : Nat) (p : List UInt8) (h : o + p.length ≤ bs.length) (k : Nat) : gB (setB bs o p) k = if o ≤ k ∧ k < o + p.length then gB p (k - o) else gB bs k := by
  unfold setB
  rw [gB_append, gB_append, gB_take, gB_drop, List.length_append, List.length_take]
  have hm : min o bs.length = o := by omega
  rw [hm]
  by_cases h1 : k < o
  · rw [if_pos (by omega), if_pos h1, if_pos h1, if_neg (by omega)]
  · by_cases h2 : k < o + p.length
    · rw [if_pos h2, if_neg h1, if_pos ⟨by omega, h2⟩]
    · rw [if_neg h2, if_neg (by omega)]
      congr 1; omega
theorem gB_put32 (bs : List UInt8) (p : Nat) (v : Int) (h : p + 4 ≤ bs.length) (k : Nat) : gB (put32 bs p v) k = if k = p then v % 256 else if k = p + 1 then v / 256 % 256 else if k = p + 2 then v / 65536 % 256 else if k = p + 3 then v / 16777216 % 256 else gB bs k := by
  unfold put32
  simp only [gB_set, List.length_set]
  repeat' split
  all_goals first | rfl | omega

/-- A slot's bytes. -/
def slotBytes (x : Sl) : List UInt8 := if x.1 = 0 then List.replicate 32 0 else [u8 x.1, u8 (x.1 / 256), u8 (x.1 / 65536), u8 (x.1 / 16777216), u8 x.2.size] ++ x.2.data.toList ++ List.replicate (27 - x.2.size) 0
def Fine (x : Sl) : Prop := (x.1 = 0 ∧ x.2 = ByteArray.empty) ∨ (0 < x.1 ∧ x.1 < 4294967296 ∧ okName x.2 = true)
theorem slotBytes_zero (s : ByteArray) : slotBytes (0, s) = List.replicate 32 0 := rfl
theorem slotBytes_len {x : Sl} (h : x.1 = 0 ∨ x.2.size ≤ 27) : (slotBytes x).length = 32 := by
  unfold slotBytes
  split
  · exact List.length_replicate
  · have h1 := h.resolve_left (by assumption)
    simp only [List.length_append, List.length_cons, List.length_nil, List.length_replicate, ← Lib.size_eq]
    omega
theorem gB_u8 (n : Int) : gB [u8 n] 0 = n % 256 := u8_toNat n
theorem gB_slot {x : Sl} (h0 : x.1 ≠ 0) (k : Nat) : gB (slotBytes x) k = if k = 0 then x.1 % 256 else if k = 1 then x.1 / 256 % 256 else if k = 2 then x.1 / 65536 % 256 else if k = 3 then x.1 / 16777216 % 256 else if k = 4 then (x.2.size : Int) % 256 else if k < 5 + x.2.size then gB x.2.data.toList (k - 5) else 0 := by
  unfold slotBytes
  rw [if_neg h0, List.append_assoc, gB_append, gB_append, gB_rep]
  simp only [List.length_cons, List.length_nil, ← Lib.size_eq]
  match k with
  | 0 => rw [if_pos (by omega), if_pos rfl]; exact u8_toNat _
  | 1 => rw [if_pos (by omega), if_neg (by omega), if_pos rfl]; exact u8_toNat _
  | 2 => rw [if_pos (by omega), if_neg (by omega), if_neg (by omega), if_pos rfl]; exact u8_toNat _
  | 3 => rw [if_pos (by omega), if_neg (by omega), if_neg (by omega), if_neg (by omega), if_pos rfl]; exact u8_toNat _
  | 4 => rw [if_pos (by omega), if_neg (by omega), if_neg (by omega), if_neg (by omega), if_neg (by omega), if_pos rfl]; exact u8_toNat _
  | k + 5 =>
    have e1 : ¬ k + 5 < 0 + 1 + 1 + 1 + 1 + 1 := by omega
    have e2 : k + 5 - (0 + 1 + 1 + 1 + 1 + 1) = k := by omega
    have e3 : k + 5 - 5 = k := by omega
    have e4 : ¬ k + 5 = 0 := by omega
    have e5 : ¬ k + 5 = 1 := by omega
    have e6 : ¬ k + 5 = 2 := by omega
    have e7 : ¬ k + 5 = 3 := by omega
    have e8 : ¬ k + 5 = 4 := by omega
    rw [if_neg e1, if_neg e4, if_neg e5, if_neg e6, if_neg e7, if_neg e8, e2]
    by_cases hk : k < x.2.size
    · rw [if_pos hk, if_pos (by omega)]
    · rw [if_neg hk, if_neg (by omega)]

theorem allZ_eq {bs bs' : List UInt8} {o o' n : Nat} (h : ∀ k, k < n → gB bs (o + k) = gB bs' (o' + k)) : allZ bs o n = allZ bs' o' n := by
  rw [Bool.eq_iff_iff, allZ_iff, allZ_iff]
  exact ⟨fun h1 k hk => by rw [← h k hk]; exact h1 k hk, fun h1 k hk => by rw [h k hk]; exact h1 k hk⟩
theorem strB_eq {bs bs' : List UInt8} {o o' n : Nat} (h1 : o + n ≤ bs.length) (h2 : o' + n ≤ bs'.length) (h : ∀ k, k < n → gB bs (o + k) = gB bs' (o' + k)) : strB bs o n = strB bs' o' n := by
  unfold strB
  congr 2
  apply gB_ext
  · rw [List.length_take, List.length_take, List.length_drop, List.length_drop]; omega
  · intro k hk
    rw [List.length_take, List.length_drop] at hk
    rw [gB_take, gB_take, if_pos (by omega), if_pos (by omega), gB_drop, gB_drop]
    exact h k (by omega)
/-- A slot is told by its 32 bytes. -/
theorem rdSlot_eq {bs bs' : List UInt8} {o o' : Nat} (h1 : o + 32 ≤ bs.length) (h2 : o' + 32 ≤ bs'.length) (h : ∀ k, k < 32 → gB bs (o + k) = gB bs' (o' + k)) : rdSlot bs o = rdSlot bs' o' := by
  have hg : get32 bs o = get32 bs' o' := by
    unfold get32
    have a0 := h 0 (by omega); have a1 := h 1 (by omega); have a2 := h 2 (by omega); have a3 := h 3 (by omega)
    simp only [Nat.add_zero] at a0
    rw [a0, a1, a2, a3]
  have hz := allZ_eq h
  have h4 := h 4 (by omega)
  unfold rdSlot
  rw [hg, hz, h4]
  by_cases hn : (gB bs' (o' + 4)).toNat ≤ 27
  · have hs : strB bs (o + 5) (gB bs' (o' + 4)).toNat = strB bs' (o' + 5) (gB bs' (o' + 4)).toNat := strB_eq (by omega) (by omega) (fun k hk => by rw [Nat.add_assoc, Nat.add_assoc]; exact h (5 + k) (by omega))
    have ha : allZ bs (o + 5 + (gB bs' (o' + 4)).toNat) (27 - (gB bs' (o' + 4)).toNat) = allZ bs' (o' + 5 + (gB bs' (o' + 4)).toNat) (27 - (gB bs' (o' + 4)).toNat) := allZ_eq (fun k hk => by
      rw [show o + 5 + (gB bs' (o' + 4)).toNat + k = o + (5 + (gB bs' (o' + 4)).toNat + k) by omega, show o' + 5 + (gB bs' (o' + 4)).toNat + k = o' + (5 + (gB bs' (o' + 4)).toNat + k) by omega]
      exact h _ (by omega))
    rw [hs, ha]
  · simp only [hn, false_and, if_false]
/-- What is written is read. -/
theorem rdSlot_bytes {x : Sl} (h : Fine x) : rdSlot (slotBytes x) 0 = some x := by
  obtain ⟨v, nm⟩ := x
  rcases h with ⟨h1, h2⟩ | ⟨h1, h2, h3⟩
  · simp only at h1 h2
    subst h1 h2
    decide
  · simp only at h1 h2 h3
    have h0 : ((v, nm) : Sl).1 ≠ 0 := by simp; omega
    obtain ⟨s1, s27⟩ := okName_size h3
    have hl := slotBytes_len (x := (v, nm)) (.inr s27)
    have g := gB_slot h0
    simp only at g
    have hv : get32 (slotBytes (v, nm)) 0 = v := by
      unfold get32
      rw [g, g, g, g]
      simp
      omega
    have h4 : (gB (slotBytes (v, nm)) (0 + 4)).toNat = nm.size := by
      rw [g]
      simp
      omega
    have hs : strB (slotBytes (v, nm)) (0 + 5) nm.size = nm := by
      apply ByteArray.ext
      apply Array.toList_inj.1
      rw [strB_list]
      apply gB_ext
      · rw [List.length_take, List.length_drop, hl, ← Lib.size_eq]; omega
      · intro k hk
        rw [List.length_take, List.length_drop, hl] at hk
        rw [gB_take, if_pos (by omega), gB_drop, g]
        rw [if_neg (by omega), if_neg (by omega), if_neg (by omega), if_neg (by omega), if_neg (by omega), if_pos (by omega)]
        rw [show 0 + 5 + k - 5 = k by omega]
    unfold rdSlot
    have hz : allZ (slotBytes (v, nm)) (0 + 5 + nm.size) (27 - nm.size) = true := by
      rw [allZ_iff]
      intro k hk
      rw [g]
      rw [if_neg (by omega), if_neg (by omega), if_neg (by omega), if_neg (by omega), if_neg (by omega), if_neg (by omega)]
    rw [hv, if_neg (by omega), h4, hs, if_pos ⟨s27, h3, hz⟩]
theorem rdSlot_fine {bs : List UInt8} {o : Nat} {x : Sl} (h : rdSlot bs o = some x) : Fine x := by
  unfold rdSlot at h
  obtain ⟨v0, v1⟩ := get32_bd bs o
  split at h
  · split at h
    · cases h; exact .inl ⟨rfl, rfl⟩
    · cases h
  · split at h
    · rename_i h1 h2
      cases h
      exact .inr ⟨by simp only; omega, v1, h2.2.1⟩
    · cases h
/-- .. as just the bytes that were there. -/
theorem rdSlot_back {bs : List UInt8} {o : Nat} {x : Sl} (hl : o + 32 ≤ bs.length) (h : rdSlot bs o = some x) : ∀ k, k < 32 → gB (slotBytes x) k = gB bs (o + k) := by
  unfold rdSlot at h
  split at h
  · split at h
    · rename_i h1 h2
      cases h
      intro k hk
      rw [slotBytes_zero, gB_rep]
      exact (((allZ_iff _ _ _).1 h2) k hk).symm
    · cases h
  · split at h
    · rename_i h1 h2
      obtain ⟨h3, h4, h5⟩ := h2
      cases h
      obtain ⟨n, hn⟩ : ∃ n, (gB bs (o + 4)).toNat = n := ⟨_, rfl⟩
      obtain ⟨c0, c1⟩ := gB_bd bs (o + 4)
      rw [hn] at h3 h4 h5 ⊢
      have hz := strB_size bs (o + 5) n (by omega)
      have g := gB_slot (x := (get32 bs o, strB bs (o + 5) n)) h1
      simp only [hz] at g
      have b0 := gB_bd bs o; have b1 := gB_bd bs (o + 1); have b2 := gB_bd bs (o + 2); have b3 := gB_bd bs (o + 3)
      intro k hk
      rw [g]
      have hget : get32 bs o = gB bs o + 256 * gB bs (o + 1) + 65536 * gB bs (o + 2) + 16777216 * gB bs (o + 3) := rfl
      split
      · subst_vars; rw [Nat.add_zero]; omega
      · split
        · subst_vars; omega
        · split
          · subst_vars; omega
          · split
            · subst_vars; omega
            · split
              · subst_vars; omega
              · split
                · rw [strB_list, gB_take, if_pos (by omega), gB_drop]
                  congr 1; omega
                · have := ((allZ_iff _ _ _).1 h5) (k - 5 - n) (by omega)
                  rw [show o + 5 + n + (k - 5 - n) = o + k by omega] at this
                  exact this.symm
    · cases h
end Go.Proofs.Ytdpbdmbgdcdmaaa
