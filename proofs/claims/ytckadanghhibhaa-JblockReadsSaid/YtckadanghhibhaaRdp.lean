/- What the reference's readers ask of a block, and what the layer's ask, is the same: plain. -/
import Derived.Test.YtckadanghhibhaaJback1
import Derived.Test.YtckadanghhibhaaRwd
namespace Go.Proofs.Ytckadanghhibhaa
open Go Go.RowKit

theorem get32_inj {a b : List UInt8} {p : Nat} (h : get32 a p = get32 b p) : ∀ i, i < 4 → gB a (p + i) = gB b (p + i) := by
  obtain ⟨a0, a1⟩ := gB_bd a p
  obtain ⟨a2, a3⟩ := gB_bd a (p + 1)
  obtain ⟨a4, a5⟩ := gB_bd a (p + 2)
  obtain ⟨a6, a7⟩ := gB_bd a (p + 3)
  obtain ⟨b0, b1⟩ := gB_bd b p
  obtain ⟨b2, b3⟩ := gB_bd b (p + 1)
  obtain ⟨b4, b5⟩ := gB_bd b (p + 2)
  obtain ⟨b6, b7⟩ := gB_bd b (p + 3)
  unfold get32 at h
  intro i hi
  rcases (by omega : i = 0 ∨ i = 1 ∨ i = 2 ∨ i = 3) with rfl | rfl | rfl | rfl
  · rw [Nat.add_zero]; omega
  · omega
  · omega
  · omega
theorem getD_mem {l : List Int} {k : Nat} (hk : k < l.length) : l.getD k 0 ∈ l := by
  rw [List.getD_eq_getElem?_getD, List.getElem?_eq_getElem hk]; exact List.getElem_mem hk
/-- A block that begins with these numbers, and then noughts. -/
theorem blockOf_iff {l : List Int} {bs : List UInt8} (hl : bs.length = 256) (h : l.length ≤ 64) (hb : ∀ x ∈ l, 0 ≤ x ∧ x < 4294967296) :
    blockOf l = bs ↔ (∀ k, k < l.length → get32 bs (4 * k) = l.getD k 0) ∧ allZ bs (4 * l.length) (256 - 4 * l.length) = true := by
  constructor
  · rintro rfl
    refine ⟨fun k hk => get32_blockOf l (4 * k) k rfl hk h hb, ?_⟩
    rw [allZ_iff]
    intro k _
    exact blockOf_zero l _ (by omega)
  · rintro ⟨h1, h2⟩
    apply bytes_ext (by rw [blockOf_len, hl])
    intro j hj
    rw [blockOf_len] at hj
    by_cases hjl : j < 4 * l.length
    · have e1 : get32 (blockOf l) (4 * (j / 4)) = get32 bs (4 * (j / 4)) := by
        rw [h1 _ (by omega)]; exact get32_blockOf l _ _ rfl (by omega) h hb
      have := get32_inj e1 (j % 4) (by omega)
      rwa [show 4 * (j / 4) + j % 4 = j by omega] at this
    · rw [blockOf_zero l j (by omega)]
      rw [allZ_iff] at h2
      have := h2 (j - 4 * l.length) (by omega)
      rw [show 4 * l.length + (j - 4 * l.length) = j by omega] at this
      exact this.symm
/-- Does a block begin as one of a kind? -/
def begB (bs : List UInt8) (k : Int) : Bool := get32 bs 0 == 1280199249 && get32 bs 4 == k && seqB (get32 bs 8)
theorem begB_iff (bs : List UInt8) (k : Int) : begB bs k = true ↔ get32 bs 0 = 1280199249 ∧ get32 bs 4 = k ∧ seqB (get32 bs 8) = true := by
  simp [begB, Bool.and_eq_true, and_assoc]
theorem begB_kind {bs : List UInt8} {k : Int} (h : begB bs k = true) (k1 : 1 ≤ k) (k4 : k ≤ 4) : kindB bs = (k, get32 bs 8) := by
  obtain ⟨h1, h2, h3⟩ := (begB_iff bs k).1 h
  unfold kindB
  rw [if_pos ⟨h1, by omega, by omega, h3⟩, h2]
theorem kind_begB (bs : List UInt8) : kindB bs = if begB bs 1 then (1, get32 bs 8) else if begB bs 2 then (2, get32 bs 8) else if begB bs 3 then (3, get32 bs 8) else if begB bs 4 then (4, get32 bs 8) else (0, 0) := by
  by_cases h1 : begB bs 1 = true
  · rw [if_pos h1]; exact begB_kind h1 (by decide) (by decide)
  rw [if_neg h1]
  by_cases h2 : begB bs 2 = true
  · rw [if_pos h2]; exact begB_kind h2 (by decide) (by decide)
  rw [if_neg h2]
  by_cases h3 : begB bs 3 = true
  · rw [if_pos h3]; exact begB_kind h3 (by decide) (by decide)
  rw [if_neg h3]
  by_cases h4 : begB bs 4 = true
  · rw [if_pos h4]; exact begB_kind h4 (by decide) (by decide)
  rw [if_neg h4]
  unfold kindB
  rw [if_neg]
  rintro ⟨a, b, c, d⟩
  rw [begB_iff] at h1 h2 h3 h4
  have e1 : get32 bs 4 ≠ 1 := fun e => h1 ⟨a, e, d⟩
  have e2 : get32 bs 4 ≠ 2 := fun e => h2 ⟨a, e, d⟩
  have e3 : get32 bs 4 ≠ 3 := fun e => h3 ⟨a, e, d⟩
  have e4 : get32 bs 4 ≠ 4 := fun e => h4 ⟨a, e, d⟩
  omega
theorem four_iff {bs : List UInt8} (hl : bs.length = 256) {a b c d : Int} (ha : 0 ≤ a ∧ a < 4294967296) (hb : 0 ≤ b ∧ b < 4294967296) (hc : 0 ≤ c ∧ c < 4294967296) (hd : 0 ≤ d ∧ d < 4294967296) (m : List Int) (hm : ∀ x ∈ m, 0 ≤ x ∧ x < 4294967296) (hml : m.length ≤ 60) :
    blockOf ([a, b, c, d] ++ m) = bs ↔ get32 bs 0 = a ∧ get32 bs 4 = b ∧ get32 bs 8 = c ∧ get32 bs 12 = d ∧ (∀ k, k < m.length → get32 bs (16 + 4 * k) = m.getD k 0) ∧ allZ bs (16 + 4 * m.length) (240 - 4 * m.length) = true := by
  have hlen : ([a, b, c, d] ++ m).length = 4 + m.length := by simp; omega
  rw [blockOf_iff hl (by rw [hlen]; omega) (by
    intro x hx
    rcases List.mem_append.1 hx with hx | hx
    · simp at hx
      rcases hx with rfl | rfl | rfl | rfl
      · exact ha
      · exact hb
      · exact hc
      · exact hd
    · exact hm x hx), hlen]
  constructor
  · rintro ⟨h1, h2⟩
    refine ⟨h1 0 (by omega), h1 1 (by omega), h1 2 (by omega), h1 3 (by omega), fun k hk => ?_, ?_⟩
    · have := h1 (4 + k) (by omega)
      rw [show 4 * (4 + k) = 16 + 4 * k by omega] at this
      rw [this]
      show ([a, b, c, d] ++ m).getD (4 + k) 0 = _
      rw [List.getD_eq_getElem?_getD, List.getElem?_append_right (by simp), List.getD_eq_getElem?_getD]
      simp
    · rwa [show 4 * (4 + m.length) = 16 + 4 * m.length by omega, show 256 - (16 + 4 * m.length) = 240 - 4 * m.length by omega] at h2
  · rintro ⟨h0, h1, h2, h3, h4, h5⟩
    refine ⟨fun k hk => ?_, ?_⟩
    · match k with
      | 0 => exact h0
      | 1 => exact h1
      | 2 => exact h2
      | 3 => exact h3
      | (k + 4) =>
        rw [show 4 * (k + 4) = 16 + 4 * k by omega, h4 k (by omega), List.getD_eq_getElem?_getD, List.getD_eq_getElem?_getD, List.getElem?_append_right (by simp)]
        simp
    · rwa [show 4 * (4 + m.length) = 16 + 4 * m.length by omega, show 256 - (16 + 4 * m.length) = 240 - 4 * m.length by omega]
theorem seq_bd {s : Int} (h : seqB s = true) : 0 ≤ s ∧ s < 4294967296 := by have := seqB_bd h; omega

theorem rHead_ref {bs : List UInt8} (hl : bs.length = 256) : rHead bs = if begB bs 4 = true ∧ get32 bs 12 ≤ 255 ∧ allZ bs 16 240 = true then some (get32 bs 8, get32 bs 12) else none := by
  have hg := get32_bd bs 12
  by_cases h : begB bs 4 = true ∧ get32 bs 12 ≤ 255 ∧ allZ bs 16 240 = true
  · obtain ⟨h1, h2, h3⟩ := h
    rw [if_pos ⟨h1, h2, h3⟩]
    unfold rHead
    rw [begB_kind h1 (by decide) (by decide)]
    obtain ⟨b1, b2, b3⟩ := (begB_iff bs 4).1 h1
    rw [if_pos]
    unfold wHead
    rw [if_pos ⟨b3, by omega, by omega⟩]
    exact congrArg some ((four_iff hl (by decide) (by decide) (seq_bd b3) (by omega) [] (by simp) (by simp)).2 ⟨b1, b2, rfl, rfl, fun k hk => by simp at hk, h3⟩)
  · rw [if_neg h]
    unfold rHead
    rw [if_neg]
    intro e
    apply h
    unfold wHead at e
    split at e
    · rename_i hc
      have e2 := (four_iff hl (by decide) (by decide) (seq_bd hc.1) (by omega) [] (by simp) (by simp)).1 (Option.some.inj e)
      exact ⟨(begB_iff bs 4).2 ⟨e2.1, e2.2.1, by rw [e2.2.2.1]; exact hc.1⟩, by omega, e2.2.2.2.2.2⟩
    · cases e
theorem rCommit_ref {bs : List UInt8} (hl : bs.length = 256) : rCommit bs = if begB bs 2 = true ∧ 1 ≤ get32 bs 12 ∧ get32 bs 12 ≤ 256 ∧ allZ bs 20 236 = true then some (get32 bs 8, get32 bs 12, get32 bs 16) else none := by
  have hg := get32_bd bs 12
  have hg2 := get32_bd bs 16
  by_cases h : begB bs 2 = true ∧ 1 ≤ get32 bs 12 ∧ get32 bs 12 ≤ 256 ∧ allZ bs 20 236 = true
  · obtain ⟨h1, h2, h3, h4⟩ := h
    rw [if_pos ⟨h1, h2, h3, h4⟩]
    unfold rCommit
    rw [begB_kind h1 (by decide) (by decide)]
    obtain ⟨b1, b2, b3⟩ := (begB_iff bs 2).1 h1
    rw [if_pos]
    unfold wCommit
    rw [if_pos ⟨b3, by omega, by omega⟩]
    exact congrArg some ((four_iff hl (by decide) (by decide) (seq_bd b3) (by omega) [get32 bs 16] (by simpa using hg2) (by simp)).2 ⟨b1, b2, rfl, rfl, fun k hk => by
      obtain rfl : k = 0 := by simpa using hk
      rfl, h4⟩)
  · rw [if_neg h]
    unfold rCommit
    rw [if_neg]
    intro e
    apply h
    unfold wCommit at e
    split at e
    · rename_i hc
      have e2 := (four_iff hl (by decide) (by decide) (seq_bd hc.1) (by omega) [get32 bs 16] (by simpa using hg2) (by simp)).1 (Option.some.inj e)
      exact ⟨(begB_iff bs 2).2 ⟨e2.1, e2.2.1, by rw [e2.2.2.1]; exact hc.1⟩, by omega, by omega, e2.2.2.2.2.2⟩
    · cases e
theorem numsOf_mem {bs : List UInt8} {n : Nat} : ∀ x ∈ numsOf bs n, 0 ≤ x ∧ x < 4294967296 := by
  intro x hx
  obtain ⟨k, _, rfl⟩ := List.mem_map.1 hx
  exact get32_bd bs _
theorem rRevoke_ref {bs : List UInt8} (hl : bs.length = 256) : rRevoke bs = if begB bs 3 = true ∧ 1 ≤ get32 bs 12 ∧ get32 bs 12 ≤ 60 ∧ allZ bs (16 + 4 * (get32 bs 12).toNat) (240 - 4 * (get32 bs 12).toNat) = true ∧ risesN (numsOf bs (get32 bs 12).toNat) = true then some (get32 bs 8, numsOf bs (get32 bs 12).toNat) else none := by
  have hg := get32_bd bs 12
  obtain ⟨n, hn⟩ : ∃ n : Nat, get32 bs 12 = n := ⟨(get32 bs 12).toNat, by omega⟩
  have hln := numsOf_len bs n
  unfold rRevoke
  rw [hn, Int.toNat_natCast]
  by_cases h : begB bs 3 = true ∧ 1 ≤ (n : Int) ∧ (n : Int) ≤ 60 ∧ allZ bs (16 + 4 * n) (240 - 4 * n) = true ∧ risesN (numsOf bs n) = true
  · obtain ⟨h1, h2, h3, h4, h5⟩ := h
    rw [if_pos (⟨h1, h2, h3, h4, h5⟩ : begB bs 3 = true ∧ _)]
    rw [begB_kind h1 (by decide) (by decide)]
    obtain ⟨b1, b2, b3⟩ := (begB_iff bs 3).1 h1
    rw [if_pos]
    refine ⟨rfl, h3, ?_⟩
    unfold wRevoke
    rw [if_pos ⟨b3, by omega, by omega, h5⟩]
    exact congrArg some ((four_iff hl (by decide) (by decide) (seq_bd b3) (by omega) _ numsOf_mem (by omega)).2 ⟨b1, b2, rfl, by rw [hn, hln], fun k hk => (numsOf_get bs n k (by omega)).symm, by rw [hln]; exact h4⟩)
  · rw [if_neg h, if_neg]
    rintro ⟨e0, e1, e⟩
    apply h
    unfold wRevoke at e
    split at e
    · rename_i hc
      obtain ⟨c1, c2, c3, c4⟩ := hc
      have e2 := (four_iff hl (by decide) (by decide) (seq_bd c1) (by omega) _ numsOf_mem (by omega)).1 (Option.some.inj e)
      exact ⟨(begB_iff bs 3).2 ⟨e2.1, e2.2.1, by rw [e2.2.2.1]; exact c1⟩, by omega, e1, by have := e2.2.2.2.2.2; rwa [hln] at this, c4⟩
    · cases e
theorem flatT_get2 : ∀ (l : List (Int × Bool)) (i : Nat), i < l.length → (flatT l).getD (2 * i) 0 = (l.getD i (0, false)).1 ∧ (flatT l).getD (2 * i + 1) 0 = fl (l.getD i (0, false)).2
  | [], i, h => by simp at h
  | a :: l, 0, _ => ⟨rfl, rfl⟩
  | a :: l, i + 1, h => by
    obtain ⟨h1, h2⟩ := flatT_get2 l i (by simpa using h)
    rw [show flatT (a :: l) = a.1 :: fl a.2 :: flatT l from rfl, show 2 * (i + 1) = 2 * i + 1 + 1 by omega]
    simp only [List.getD_cons_succ]
    exact ⟨h1, h2⟩
theorem flatT_mem {bs : List UInt8} {n : Nat} : ∀ x ∈ flatT (tagsOf bs n), 0 ≤ x ∧ x < 4294967296 := flatT_bd (fun k => tagsOf_bd bs n k)
theorem fl_one {v : Int} (h0 : 0 ≤ v) : v = fl (decide (v = 1)) ↔ v ≤ 1 := by
  unfold fl
  by_cases h : v = 1
  · subst h; simp
  · rw [if_neg (by simpa using h)]; omega
theorem tags_iff (bs : List UInt8) (n : Nat) : (∀ k, k < (flatT (tagsOf bs n)).length → get32 bs (16 + 4 * k) = (flatT (tagsOf bs n)).getD k 0) ↔ ∀ i, i < n → get32 bs (20 + 8 * i) ≤ 1 := by
  have hl : (flatT (tagsOf bs n)).length = 2 * n := by rw [flatT_len, tagsOf_len]
  rw [hl]
  constructor
  · intro h i hi
    have h1 := h (2 * i + 1) (by omega)
    rw [(flatT_get2 _ i (by rw [tagsOf_len]; exact hi)).2, tagsOf_get bs n i hi, show 16 + 4 * (2 * i + 1) = 16 + 8 * i + 4 by omega] at h1
    have := (fl_one (get32_bd bs (16 + 8 * i + 4)).1).1 h1
    rwa [show 20 + 8 * i = 16 + 8 * i + 4 by omega]
  · intro h k hk
    rcases Nat.mod_two_eq_zero_or_one k with h0 | h0
    · obtain ⟨i, rfl⟩ : ∃ i, k = 2 * i := ⟨k / 2, by omega⟩
      rw [(flatT_get2 _ i (by rw [tagsOf_len]; omega)).1, tagsOf_get bs n i (by omega), show 16 + 4 * (2 * i) = 16 + 8 * i by omega]
      rfl
    · obtain ⟨i, rfl⟩ : ∃ i, k = 2 * i + 1 := ⟨k / 2, by omega⟩
      rw [(flatT_get2 _ i (by rw [tagsOf_len]; omega)).2, tagsOf_get bs n i (by omega), show 16 + 4 * (2 * i + 1) = 16 + 8 * i + 4 by omega]
      refine (fl_one (get32_bd bs (16 + 8 * i + 4)).1).2 ?_
      have := h i (by omega)
      rwa [show 20 + 8 * i = 16 + 8 * i + 4 by omega] at this
theorem rDesc_ref {bs : List UInt8} (hl : bs.length = 256) : rDesc bs = if begB bs 1 = true ∧ 1 ≤ get32 bs 12 ∧ get32 bs 12 ≤ 30 ∧ allZ bs (16 + 8 * (get32 bs 12).toNat) (240 - 8 * (get32 bs 12).toNat) = true ∧ (∀ i, i < (get32 bs 12).toNat → get32 bs (20 + 8 * i) ≤ 1) ∧ risesT (tagsOf bs (get32 bs 12).toNat) = true then some (get32 bs 8, tagsOf bs (get32 bs 12).toNat) else none := by
  have hg := get32_bd bs 12
  obtain ⟨n, hn⟩ : ∃ n : Nat, get32 bs 12 = n := ⟨(get32 bs 12).toNat, by omega⟩
  have hln := tagsOf_len bs n
  have hlf : (flatT (tagsOf bs n)).length = 2 * n := by rw [flatT_len, hln]
  unfold rDesc
  rw [hn, Int.toNat_natCast]
  by_cases h : begB bs 1 = true ∧ 1 ≤ (n : Int) ∧ (n : Int) ≤ 30 ∧ allZ bs (16 + 8 * n) (240 - 8 * n) = true ∧ (∀ i, i < n → get32 bs (20 + 8 * i) ≤ 1) ∧ risesT (tagsOf bs n) = true
  · rw [if_pos h]
    obtain ⟨h1, h2, h3, h4, h6, h5⟩ := h
    rw [begB_kind h1 (by decide) (by decide)]
    obtain ⟨b1, b2, b3⟩ := (begB_iff bs 1).1 h1
    rw [if_pos]
    refine ⟨rfl, h3, ?_⟩
    unfold wDesc
    rw [if_pos ⟨b3, by omega, by omega, h5⟩]
    exact congrArg some ((four_iff hl (by decide) (by decide) (seq_bd b3) (by omega) _ flatT_mem (by omega)).2 ⟨b1, b2, rfl, by rw [hn, hln], (tags_iff bs n).2 h6, by rw [hlf, show 16 + 4 * (2 * n) = 16 + 8 * n by omega, show 240 - 4 * (2 * n) = 240 - 8 * n by omega]; exact h4⟩)
  · rw [if_neg h, if_neg]
    rintro ⟨e0, e1, e⟩
    apply h
    unfold wDesc at e
    split at e
    · rename_i hc
      obtain ⟨c1, c2, c3, c4⟩ := hc
      have e2 := (four_iff hl (by decide) (by decide) (seq_bd c1) (by omega) _ flatT_mem (by omega)).1 (Option.some.inj e)
      exact ⟨(begB_iff bs 1).2 ⟨e2.1, e2.2.1, by rw [e2.2.2.1]; exact c1⟩, by omega, e1, by have := e2.2.2.2.2.2; rwa [hlf, show 16 + 4 * (2 * n) = 16 + 8 * n by omega, show 240 - 4 * (2 * n) = 240 - 8 * n by omega] at this, (tags_iff bs n).1 e2.2.2.2.2.1, c4⟩
    · cases e
end Go.Proofs.Ytckadanghhibhaa
