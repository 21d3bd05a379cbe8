/- What a list of names says of a block, turn after turn. -/
import Derived.Test.YtdpbdmbgdcdmaaaEi
namespace Go.Proofs.Ytdpbdmbgdcdmaaa
open Go Go.RowKit
open Go.Proofs.Ytdpbdmbgdcdmaaa.slotsBack (find_done)
open Go.Proofs.Ytdpbdmbgdcdmaaa.slotsGone (find_idx idx_none none_idx empty_ne idx_apart)

abbrev En := ByteArray × Int
def taken (l : List Sl) : Nat := l.countP fun y => decide (0 < y.1)
structure Play (bs : List UInt8) (l : List Sl) (el : List En) : Prop where
  len : bs.length = 256
  sl : slotsOf bs = some l
  ok : ∀ p ∈ el, okName p.1 = true ∧ 0 < p.2 ∧ p.2 < 4294967296
  nd : ∀ (i j : Nat) (p q : En), el[i]? = some p → el[j]? = some q → p.1 = q.1 → i = j
  into : ∀ p ∈ el, ∃ j : Nat, l[j]? = some (p.2, p.1)
  back : ∀ (j : Nat) (y : Sl), l[j]? = some y → y.1 ≠ 0 → (y.2, y.1) ∈ el
  cnt : taken l = el.length

/-- Where a name lies in the first m of a list: -1, or there. -/
def AtR (el : List En) (name : ByteArray) (m : Nat) (a : Int) : Prop :=
  (a = -1 ∧ ∀ (j : Nat) (p : En), j < m → el[j]? = some p → p.1 ≠ name) ∨ ∃ (j : Nat) (p : En), j < m ∧ a = (j : Int) ∧ el[j]? = some p ∧ p.1 = name

section
variable {bs : List UInt8} {l : List Sl} {el : List En}
theorem Play.eight (h : Play bs l el) : l.length = 8 := slotsTo_len h.sl
theorem Play.most (h : Play bs l el) : el.length ≤ 8 := by
  rw [← h.cnt, ← h.eight]; exact List.countP_le_length
theorem Play.fine (h : Play bs l el) {j : Nat} {y : Sl} (hy : l[j]? = some y) : Fine y := rdSlot_fine ((slotsOf_iff.1 h.sl).rd j y hy)
theorem Play.found (h : Play bs l el) {p : En} (hp : p ∈ el) : ∃ i : Nat, findOf bs p.1 = some (i, p.2) ∧ l[i]? = some (p.2, p.1) ∧ idxS l p.1 = some i := by
  obtain ⟨j, hj⟩ := h.into p hp
  have hn := (okName_size (h.ok p hp).1).1
  have hn0 : p.1.size ≠ 0 := by omega
  obtain ⟨k, hk⟩ := Option.isSome_iff_exists.1 (idx_has hj rfl)
  have hjk : j = k := by
    apply Classical.byContradiction
    intro hne
    have := idx_apart h.sl hn0 hk j _ hne hj
    rw [beq_self_eq_true] at this; cases this
  subst hjk
  refine ⟨j, ?_, hj, hk⟩
  unfold findOf
  rw [h.sl]
  simp only
  rw [if_neg hn0, hk, Option.map_some, List.getD_eq_getElem?_getD, hj]; rfl
theorem Play.lost (h : Play bs l el) {name : ByteArray} (hn : name.size ≠ 0) (ha : ∀ p ∈ el, p.1 ≠ name) : idxS l name = none := by
  refine none_idx fun j y hy => ?_
  rw [beq_eq_false_iff_ne]
  intro e
  rcases h.fine hy with ⟨_, h2⟩ | ⟨h1, _, _⟩
  · rw [h2] at e; rw [← e] at hn; exact hn rfl
  · exact ha _ (h.back j y hy (by omega)) e
theorem AtR.none {name : ByteArray} (h : ∀ (j : Nat) (p : En), j < el.length → el[j]? = some p → p.1 ≠ name) : ∀ p ∈ el, p.1 ≠ name := by
  intro p hp
  obtain ⟨j, hj, rfl⟩ := List.getElem_of_mem hp
  exact h j _ hj (List.getElem?_eq_getElem hj)

theorem Play.rem (h : Play bs l el) {name : ByteArray} {a : Int} (hat : AtR el name el.length a) :
    (a = -1 ∧ remOf bs name = (bs, false)) ∨ ∃ (j : Nat) (bs' : List UInt8) (l' : List Sl), j < el.length ∧ a = (j : Int) ∧ remOf bs name = (bs', true) ∧ Play bs' l' (el.take j ++ el.drop (j + 1)) := by
  rcases hat with ⟨ha, hno⟩ | ⟨j, p, hj, ha, hp, rfl⟩
  · left
    refine ⟨ha, ?_⟩
    have hf : findOf bs name = none := by
      by_cases hn : name.size = 0
      · unfold findOf; rw [h.sl]; simp only; rw [if_pos hn]
      · unfold findOf; rw [h.sl]; simp only; rw [if_neg hn, h.lost hn (AtR.none hno)]; rfl
    rw [remOf_set, hf]
  · right
    have hpm := List.mem_of_getElem? hp
    obtain ⟨i, hf, hi, hx⟩ := h.found hpm
    have hn0 : p.1.size ≠ 0 := by have := (okName_size (h.ok p hpm).1).1; omega
    have h8 : i < 8 := by have := (List.getElem?_eq_some_iff.1 hi).1; have := h.eight; omega
    obtain ⟨hR, hs1⟩ := remOf_done h.len h.sl hn0 hx
    have hz0 : Fine zSl := .inl ⟨rfl, rfl⟩
    have ne : ∀ k, k ≠ i → (l.set i zSl)[k]? = l[k]? := fun k hk => List.getElem?_set_ne (fun e => hk e.symm)
    have at_ : (l.set i zSl)[i]? = some zSl := List.getElem?_set_self (by rw [h.eight]; exact h8)
    refine ⟨j, _, l.set i zSl, hj, ha, hR, ?_⟩
    rw [← List.eraseIdx_eq_take_drop_succ]
    have sub : ∀ q ∈ el.eraseIdx j, ∃ k, k ≠ j ∧ el[k]? = some q := by
      intro q hq
      obtain ⟨k, hk⟩ := List.mem_iff_getElem?.1 hq
      rw [List.getElem?_eraseIdx] at hk
      split at hk
      · exact ⟨k, by omega, hk⟩
      · exact ⟨k + 1, by omega, hk⟩
    refine ⟨setSlot_len h.len h8 hz0, hs1, fun q hq => ?_, fun i1 i2 q1 q2 h1 h2 e => ?_, fun q hq => ?_, fun k y hy hy0 => ?_, ?_⟩
    · obtain ⟨k, _, hk⟩ := sub q hq
      exact h.ok q (List.mem_of_getElem? hk)
    · rw [List.getElem?_eraseIdx] at h1 h2
      split at h1 <;> split at h2
      · exact h.nd i1 i2 q1 q2 h1 h2 e
      · have := h.nd i1 (i2 + 1) q1 q2 h1 h2 e; omega
      · have := h.nd (i1 + 1) i2 q1 q2 h1 h2 e; omega
      · have := h.nd (i1 + 1) (i2 + 1) q1 q2 h1 h2 e; omega
    · obtain ⟨k, hkj, hk⟩ := sub q hq
      obtain ⟨m, hm⟩ := h.into q (List.mem_of_getElem? hk)
      refine ⟨m, ?_⟩
      rw [ne m (fun e => ?_)]
      · exact hm
      · subst e
        rw [hi] at hm
        simp only [Option.some.injEq, Prod.mk.injEq] at hm
        exact hkj (h.nd k j q p hk hp hm.2.symm)
    · by_cases hki : k = i
      · subst hki
        rw [at_] at hy; cases hy
        exact absurd rfl hy0
      · rw [ne k hki] at hy
        have hb := h.back k y hy hy0
        obtain ⟨m, hm⟩ := List.mem_iff_getElem?.1 hb
        have hmj : m ≠ j := by
          rintro rfl
          rw [hp] at hm
          cases hm
          have := idx_apart h.sl hn0 hx k y hki hy
          rw [beq_self_eq_true] at this; cases this
        rw [List.mem_iff_getElem?]
        rcases Nat.lt_or_ge m j with h1 | h1
        · exact ⟨m, by rw [List.getElem?_eraseIdx, if_pos h1]; exact hm⟩
        · exact ⟨m - 1, by rw [List.getElem?_eraseIdx, if_neg (by omega), show m - 1 + 1 = m by omega]; exact hm⟩
    · unfold taken
      have hil : i < l.length := by rw [h.eight]; exact h8
      rw [List.countP_set hil, show l[i] = (p.2, p.1) from (List.getElem?_eq_some_iff.1 hi).2, List.length_eraseIdx, if_pos hj, if_pos (by simpa using (h.ok p hpm).2.1), if_neg (by decide)]
      have := h.cnt
      unfold taken at this
      omega

theorem Play.free (h : Play bs l el) (hlt : el.length < 8) : ∃ f, idxS l ByteArray.empty = some f := by
  cases hq : idxS l ByteArray.empty with
  | some f => exact ⟨f, rfl⟩
  | none =>
    have hall : taken l = l.length := by
      unfold taken
      rw [List.countP_eq_length]
      intro y hy
      obtain ⟨j, hj, rfl⟩ := List.getElem_of_mem hy
      have h1 := idx_none hq j _ (List.getElem?_eq_getElem hj)
      rcases h.fine (List.getElem?_eq_getElem hj) with ⟨_, h2⟩ | ⟨h2, _, _⟩
      · rw [h2] at h1; exact absurd h1 (by decide)
      · exact decide_eq_true h2
    rw [h.cnt, h.eight] at hall
    omega
theorem Play.full (h : Play bs l el) (h8 : el.length = 8) : idxS l ByteArray.empty = none := by
  refine none_idx fun j y hy => ?_
  have hall : taken l = l.length := by rw [h.cnt, h.eight, h8]
  unfold taken at hall
  rw [List.countP_eq_length] at hall
  have h1 := of_decide_eq_true (hall y (List.mem_of_getElem? hy))
  rw [void_iff (h.fine hy), beq_eq_false_iff_ne]
  omega

theorem Play.add (h : Play bs l el) {name : ByteArray} {ino : Int} (i0 : 0 < ino) (i1 : ino < 4294967296) {a : Int} (hat : AtR el name el.length a) :
    ((okName name && decide (a < 0)) = false ∧ addOf bs name ino = (bs, 2)) ∨ ((okName name && decide (a < 0)) = true ∧ el.length = 8 ∧ addOf bs name ino = (bs, 4)) ∨
    ((okName name && decide (a < 0)) = true ∧ el.length < 8 ∧ ∃ (bs' : List UInt8) (l' : List Sl), addOf bs name ino = (bs', 0) ∧ Play bs' l' (el ++ [(name, ino)])) := by
  cases hok : okName name
  · left
    refine ⟨rfl, ?_⟩
    unfold addOf; rw [h.sl]; simp only; rw [if_pos (.inl hok)]
  · rcases hat with ⟨rfl, hno⟩ | ⟨j, p, hj, rfl, hp, rfl⟩
    · right
      have hn0 : name.size ≠ 0 := by have := (okName_size hok).1; omega
      have hx := h.lost hn0 (AtR.none hno)
      have hnone := AtR.none hno
      rcases Nat.lt_or_ge el.length 8 with h8 | h8
      · right
        obtain ⟨f, hf⟩ := h.free h8
        obtain ⟨hA, hs2⟩ := addOf_done h.len h.sl hok i0 i1 hx hf
        obtain ⟨hf8, hfz, _⟩ := idxS_void h.sl hf
        have hfx : Fine (ino, name) := .inr ⟨i0, i1, hok⟩
        have ne : ∀ k, k ≠ f → (l.set f (ino, name))[k]? = l[k]? := fun k hk => List.getElem?_set_ne (fun e => hk e.symm)
        have at_ : (l.set f (ino, name))[f]? = some (ino, name) := List.getElem?_set_self (by rw [h.eight]; exact hf8)
        refine ⟨rfl, h8, _, _, hA, setSlot_len h.len hf8 hfx, hs2, fun q hq => ?_, fun j1 j2 q1 q2 h1 h2 e => ?_, fun q hq => ?_, fun k y hy hy0 => ?_, ?_⟩
        · rcases List.mem_append.1 hq with hq | hq
          · exact h.ok q hq
          · rw [List.mem_singleton] at hq; subst hq; exact ⟨hok, i0, i1⟩
        · rw [List.getElem?_append] at h1 h2
          split at h1 <;> split at h2
          · exact h.nd j1 j2 q1 q2 h1 h2 e
          · rename_i g1 g2
            rw [List.getElem?_singleton] at h2
            split at h2
            · cases h2; exact absurd e (hnone q1 (List.mem_of_getElem? h1))
            · cases h2
          · rename_i g1 g2
            rw [List.getElem?_singleton] at h1
            split at h1
            · cases h1; exact absurd e.symm (hnone q2 (List.mem_of_getElem? h2))
            · cases h1
          · rw [List.getElem?_singleton] at h1 h2
            split at h1 <;> split at h2
            · omega
            · cases h2
            · cases h1
            · cases h1
        · rcases List.mem_append.1 hq with hq | hq
          · obtain ⟨m, hm⟩ := h.into q hq
            refine ⟨m, ?_⟩
            rw [ne m (fun e => ?_)]
            · exact hm
            · subst e
              rw [hfz] at hm
              have hq2 : q.2 = 0 := by
                simp only [Option.some.injEq] at hm
                exact (congrArg Prod.fst hm).symm
              have := (h.ok q hq).2.1
              omega
          · rw [List.mem_singleton] at hq; subst hq; exact ⟨f, at_⟩
        · by_cases hkf : k = f
          · subst hkf
            rw [at_] at hy; cases hy
            exact List.mem_append_right _ (List.mem_singleton.2 rfl)
          · rw [ne k hkf] at hy
            exact List.mem_append_left _ (h.back k y hy hy0)
        · unfold taken
          have hil : f < l.length := by rw [h.eight]; exact hf8
          rw [List.countP_set hil, show l[f] = zSl from (List.getElem?_eq_some_iff.1 hfz).2, List.length_append, if_neg (by decide), if_pos (by simpa using i0)]
          have := h.cnt
          unfold taken at this
          rw [this]; rfl
      · left
        have h8' : el.length = 8 := by have := h.most; omega
        refine ⟨rfl, h8', ?_⟩
        unfold addOf; rw [h.sl]; simp only
        rw [if_neg (by rw [hok, hx]; simp; omega), h.full h8']
    · left
      obtain ⟨i, _, _, hx⟩ := h.found (List.mem_of_getElem? hp)
      refine ⟨by rw [Bool.true_and]; exact decide_eq_false (by omega), ?_⟩
      unfold addOf; rw [h.sl]; simp only; rw [if_pos (.inr (.inr (by rw [hx]; rfl)))]
end
theorem play0 : Play Z256 (List.replicate 8 zSl) [] where
  len := Z256_len
  sl := by decide +kernel
  ok := fun p hp => absurd hp (List.not_mem_nil)
  nd := fun i j p q h => by simp at h
  into := fun p hp => absurd hp (List.not_mem_nil)
  back := fun j y hy h0 => by
    rw [List.getElem?_replicate] at hy
    split at hy
    · cases hy; exact absurd rfl h0
    · cases hy
  cnt := by decide
end Go.Proofs.Ytdpbdmbgdcdmaaa
