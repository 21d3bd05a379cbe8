/- Paths and names, in plain Lean: a path is cut at each /, names are joined by it; both ways lead to one another. -/
import Derived.Test.YtaponmniedjkiaaNMay
import Derived.Lib.Join
namespace Go.Proofs.Ytaponmniedjkiaa
open Go

/-- A list of names, the first one with some bytes ahead. -/
def pre (n : List UInt8) : List (List UInt8) → List (List UInt8)
  | [] => [n]
  | h :: t => (n ++ h) :: t
/-- Bytes, cut at each /. -/
def segs : List UInt8 → List (List UInt8)
  | [] => [[]]
  | b :: l => if b = 47 then [] :: segs l else pre [b] (segs l)
theorem pre_ne (n : List UInt8) (l : List (List UInt8)) : pre n l ≠ [] := by cases l <;> simp [pre]
theorem segs_ne : ∀ l, segs l ≠ []
  | [] => by simp [segs]
  | b :: l => by
    unfold segs
    split
    · simp
    · exact pre_ne _ _
theorem pre_nil {l : List (List UInt8)} (h : l ≠ []) : pre [] l = l := by cases l with
  | nil => exact absurd rfl h
  | cons a t => rfl
theorem pre_pre (a b : List UInt8) (l : List (List UInt8)) : pre a (pre b l) = pre (a ++ b) l := by cases l <;> simp [pre]
theorem segs_pre : ∀ (h l : List UInt8), (47 : UInt8) ∉ h → segs (h ++ l) = pre h (segs l)
  | [], l, _ => (pre_nil (segs_ne l)).symm
  | b :: h, l, hn => by
    rw [List.cons_append, segs, if_neg (fun e : b = 47 => hn (by rw [e]; exact List.Mem.head _)), segs_pre h l (fun e => hn (.tail _ e)), pre_pre]; rfl
theorem segs_no {h : List UInt8} (hn : (47 : UInt8) ∉ h) : segs h = [h] := by
  have := segs_pre h [] hn
  rw [List.append_nil] at this
  rw [this]; simp [segs, pre]
theorem segs_at {h : List UInt8} (t : List UInt8) (hn : (47 : UInt8) ∉ h) : segs (h ++ 47 :: t) = h :: segs t := by
  rw [segs_pre h _ hn, segs, if_pos rfl]; simp [pre]
theorem segs_mem : ∀ (l x : List UInt8), x ∈ segs l → (47 : UInt8) ∉ x
  | [], x, h => by simp [segs] at h; subst h; simp
  | b :: l, x, h => by
    unfold segs at h
    split at h
    · rcases List.mem_cons.1 h with rfl | h
      · simp
      · exact segs_mem l x h
    · rename_i hb
      cases hs : segs l with
      | nil => exact absurd hs (segs_ne l)
      | cons a t =>
        rw [hs] at h
        simp only [pre, List.mem_cons] at h
        rcases h with rfl | h
        · have := segs_mem l a (by rw [hs]; exact .head _)
          simp only [List.singleton_append, List.mem_cons, not_or]
          exact ⟨fun e => hb e.symm, this⟩
        · exact segs_mem l x (by rw [hs]; exact .tail _ h)
theorem join_cons2 (x y : List UInt8) (r : List (List UInt8)) : Lib.join (x :: y :: r) [47] = x ++ 47 :: Lib.join (y :: r) [47] := by
  rw [Lib.join_cons, Lib.join_cons]
  simp [Lib.joinTail]
theorem join_pre (b : UInt8) (l : List (List UInt8)) (h : l ≠ []) : Lib.join (pre [b] l) [47] = b :: Lib.join l [47] := by
  cases l with
  | nil => exact absurd rfl h
  | cons a t => simp only [pre]; rw [Lib.join_cons, Lib.join_cons]; rfl
theorem join_segs : ∀ l, Lib.join (segs l) [47] = l
  | [] => rfl
  | b :: l => by
    unfold segs
    split
    · rename_i hb
      subst hb
      have ih := join_segs l
      cases hs : segs l with
      | nil => exact absurd hs (segs_ne l)
      | cons a t => rw [join_cons2, ← hs, ih]; rfl
    · rw [join_pre _ _ (segs_ne l), join_segs l]
theorem segs_join : ∀ (l : List (List UInt8)), l ≠ [] → (∀ x ∈ l, (47 : UInt8) ∉ x) → segs (Lib.join l [47]) = l
  | [], h, _ => absurd rfl h
  | [x], _, h => by rw [Lib.join_one]; exact segs_no (h x (.head _))
  | x :: y :: r, _, h => by
    rw [join_cons2, segs_at _ (h x (.head _)), segs_join (y :: r) (by simp) (fun z hz => h z (.tail _ hz))]
theorem segs_len : ∀ l : List UInt8, (segs l).length ≤ l.length + 1
  | [] => by simp [segs]
  | b :: l => by
    have := segs_len l
    unfold segs
    split
    · simp; omega
    · cases hs : segs l with
      | nil => exact absurd hs (segs_ne l)
      | cons a t => rw [hs] at this; simp [pre] at this ⊢; omega
theorem segs_mem_len : ∀ (l x : List UInt8), x ∈ segs l → x.length ≤ l.length
  | [], x, h => by simp [segs] at h; subst h; simp
  | b :: l, x, h => by
    unfold segs at h
    split at h
    · rcases List.mem_cons.1 h with rfl | h
      · simp
      · have := segs_mem_len l x h
        simp; omega
    · cases hs : segs l with
      | nil => exact absurd hs (segs_ne l)
      | cons a t =>
        rw [hs] at h
        simp only [pre, List.mem_cons] at h
        rcases h with rfl | h
        · have := segs_mem_len l a (by rw [hs]; exact .head _)
          simp; omega
        · have := segs_mem_len l x (by rw [hs]; exact .tail _ h)
          simp; omega
theorem okN_bare {x : List UInt8} (h : okN x = true) : (47 : UInt8) ∉ x := by
  intro hm
  have h1 : x.any badB = true := List.any_eq_true.2 ⟨47, hm, rfl⟩
  unfold okN at h
  rw [h1] at h
  simp at h
theorem okN_nil : okN [] = false := rfl
theorem okN_pos {x : List UInt8} (h : okN x = true) : 1 ≤ x.length ∧ x.length ≤ 27 := by
  unfold okN at h
  simp only [Bool.and_eq_true, decide_eq_true_eq] at h
  exact h.1.1.1
/-- What stands behind each / of a path; of / alone nothing. -/
def rowP (p : List UInt8) : List (List UInt8) := if p = [] ∨ p = [47] then [] else segs (p.drop 1)
theorem rowP_nil : rowP [] = [] := if_pos (.inl rfl)
theorem rowP_root : rowP [47] = [] := if_pos (.inr rfl)
theorem rowP_cons {b : UInt8} {l : List UInt8} (h : b :: l ≠ [47]) : rowP (b :: l) = segs l := by
  unfold rowP; rw [if_neg (by simp only [reduceCtorEq, false_or]; exact h)]; rfl
theorem rowP_len (p : List UInt8) : (rowP p).length ≤ p.length := by
  unfold rowP
  split
  · exact Nat.zero_le _
  · rename_i h
    have := segs_len (p.drop 1)
    rw [List.length_drop] at this
    have : p.length ≠ 0 := fun e => h (.inl (List.eq_nil_of_length_eq_zero e))
    omega
theorem rowP_mem_len {p x : List UInt8} (h : x ∈ rowP p) : x.length ≤ p.length := by
  unfold rowP at h
  split at h
  · cases h
  · have := segs_mem_len _ _ h
    rw [List.length_drop] at this
    omega
def splitN (p : List UInt8) : Int × List (List UInt8) :=
  if 512 < p.length then (3, []) else if p.head? ≠ some 47 then (290, []) else if (rowP p).all okN = false then (290, []) else if 16 < (rowP p).length then (4, []) else (0, rowP p)
def pathOf (l : List (List UInt8)) : List UInt8 := 47 :: Lib.join l [47]
def joinN (l : List (List UInt8)) : Int × List UInt8 :=
  if 512 < (pathOf l).length then (3, []) else if l.all okN = false then (290, []) else if 16 < l.length then (4, []) else (0, pathOf l)
theorem splitN_bad {p : List UInt8} (h : (splitN p).1 ≠ 0) : (splitN p).2 = [] := by
  unfold splitN at *
  by_cases h1 : 512 < p.length
  · rw [if_pos h1]
  rw [if_neg h1] at h ⊢
  by_cases h2 : p.head? ≠ some 47
  · rw [if_pos h2]
  rw [if_neg h2] at h ⊢
  by_cases h3 : (rowP p).all okN = false
  · rw [if_pos h3]
  rw [if_neg h3] at h ⊢
  by_cases h4 : 16 < (rowP p).length
  · rw [if_pos h4]
  rw [if_neg h4] at h
  exact absurd rfl h
theorem joinN_bad {l : List (List UInt8)} (h : (joinN l).1 ≠ 0) : (joinN l).2 = [] := by
  unfold joinN at *
  by_cases h1 : 512 < (pathOf l).length
  · rw [if_pos h1]
  rw [if_neg h1] at h ⊢
  by_cases h3 : l.all okN = false
  · rw [if_pos h3]
  rw [if_neg h3] at h ⊢
  by_cases h4 : 16 < l.length
  · rw [if_pos h4]
  rw [if_neg h4] at h
  exact absurd rfl h
theorem splitN_ok {p : List UInt8} (h : (splitN p).1 = 0) : p.length ≤ 512 ∧ p.head? = some 47 ∧ (rowP p).all okN = true ∧ (rowP p).length ≤ 16 ∧ splitN p = (0, rowP p) := by
  unfold splitN at *
  by_cases h1 : 512 < p.length
  · rw [if_pos h1] at h; cases h
  rw [if_neg h1] at h ⊢
  by_cases h2 : p.head? ≠ some 47
  · rw [if_pos h2] at h; cases h
  rw [if_neg h2] at h ⊢
  by_cases h3 : (rowP p).all okN = false
  · rw [if_pos h3] at h; cases h
  rw [if_neg h3] at h ⊢
  by_cases h4 : 16 < (rowP p).length
  · rw [if_pos h4] at h; cases h
  rw [if_neg h4]
  exact ⟨by omega, by simpa using h2, by simpa using h3, by omega, rfl⟩
theorem splitN_mk {p : List UInt8} (h1 : p.length ≤ 512) (h2 : p.head? = some 47) (h3 : (rowP p).all okN = true) (h4 : (rowP p).length ≤ 16) : splitN p = (0, rowP p) := by
  unfold splitN
  rw [if_neg (by omega), if_neg (by simpa using h2), if_neg (by simpa using h3), if_neg (by omega)]
theorem joinN_ok {l : List (List UInt8)} (h : (joinN l).1 = 0) : (pathOf l).length ≤ 512 ∧ l.all okN = true ∧ l.length ≤ 16 ∧ joinN l = (0, pathOf l) := by
  unfold joinN at *
  by_cases h1 : 512 < (pathOf l).length
  · rw [if_pos h1] at h; cases h
  rw [if_neg h1] at h ⊢
  by_cases h3 : l.all okN = false
  · rw [if_pos h3] at h; cases h
  rw [if_neg h3] at h ⊢
  by_cases h4 : 16 < l.length
  · rw [if_pos h4] at h; cases h
  rw [if_neg h4]
  exact ⟨by omega, by simpa using h3, by omega, rfl⟩
theorem joinN_mk {l : List (List UInt8)} (h1 : (pathOf l).length ≤ 512) (h3 : l.all okN = true) (h4 : l.length ≤ 16) : joinN l = (0, pathOf l) := by
  unfold joinN
  rw [if_neg (by omega), if_neg (by simpa using h3), if_neg (by omega)]
/-- A path's names lead back to it. -/
theorem pathOf_rowP {p : List UInt8} (h : p.head? = some 47) : pathOf (rowP p) = p := by
  cases p with
  | nil => cases h
  | cons b l =>
    simp at h
    subst h
    by_cases hl : (47 : UInt8) :: l = [47]
    · rw [hl, rowP_root]; rfl
    · rw [rowP_cons hl, pathOf, join_segs]
theorem rowP_pathOf {l : List (List UInt8)} (h : l.all okN = true) : rowP (pathOf l) = l := by
  cases l with
  | nil => exact rowP_root
  | cons x r =>
    have hall := List.all_eq_true.1 h
    have hn : pathOf (x :: r) ≠ [47] := by
      intro e
      have h1 : Lib.join (x :: r) [47] = [] := by simpa [pathOf] using e
      rw [Lib.join_cons] at h1
      have h2 := (okN_pos (hall x (.head _))).1
      have h3 := congrArg List.length h1
      simp at h3
      rw [h3.1] at h2
      simp at h2
    unfold pathOf at hn ⊢
    rw [rowP_cons hn]
    exact segs_join _ (by simp) (fun y hy => okN_bare (hall y hy))
theorem split_join {p : List UInt8} (h : (splitN p).1 = 0) : joinN (splitN p).2 = (0, p) := by
  obtain ⟨h1, h2, h3, h4, h5⟩ := splitN_ok h
  rw [h5]
  have := pathOf_rowP h2
  rw [joinN_mk (by rw [this]; exact h1) h3 h4, this]
theorem join_split {l : List (List UInt8)} (h : (joinN l).1 = 0) : splitN (joinN l).2 = (0, l) := by
  obtain ⟨h1, h2, h3, h4⟩ := joinN_ok h
  rw [h4]
  have := rowP_pathOf h2
  rw [splitN_mk h1 rfl (by rw [this]; exact h2) (by rw [this]; exact h3), this]

def parentN (p : List UInt8) : Int × List UInt8 × List UInt8 :=
  if (splitN p).1 ≠ 0 then ((splitN p).1, [], []) else if (splitN p).2 = [] then (290, [], []) else (0, (joinN (splitN p).2.dropLast).2, (splitN p).2.getLastD [])
theorem joinTail_sub (l : List (List UInt8)) (x : List UInt8) : Lib.joinTail [47] (l ++ [x]) = Lib.joinTail [47] l ++ 47 :: x := by
  simp [Lib.joinTail]
theorem pathOf_snoc {l : List (List UInt8)} (x : List UInt8) (h : l ≠ []) : pathOf (l ++ [x]) = pathOf l ++ 47 :: x := by
  cases l with
  | nil => exact absurd rfl h
  | cons y r => rw [pathOf, pathOf, List.cons_append, Lib.join_cons, Lib.join_cons, joinTail_sub]; simp
theorem pathOf_one (x : List UInt8) : pathOf [x] = 47 :: x := by rw [pathOf, Lib.join_one]
theorem joinN_init {l : List (List UInt8)} {x : List UInt8} (h : (joinN (l ++ [x])).1 = 0) : (joinN l).1 = 0 := by
  obtain ⟨h1, h2, h3, _⟩ := joinN_ok h
  rw [joinN_mk]
  · cases l with
    | nil => show ([47] : List UInt8).length ≤ 512; decide
    | cons y r => rw [pathOf_snoc x (by simp), List.length_append] at h1; omega
  · rw [List.all_append] at h2; exact (Bool.and_eq_true _ _ ▸ h2).1
  · simp at h3; omega
/-- A path with names: its parent is a path of all but the last, and with the last one joined it is the path. -/
theorem parent_ok {p : List UInt8} (h : (splitN p).1 = 0) (hn : (splitN p).2 ≠ []) : ∃ up x, (splitN p).2 = up ++ [x] ∧ parentN p = (0, (joinN up).2, x) ∧ splitN (joinN up).2 = (0, up) ∧ joinN (up ++ [x]) = (0, p) := by
  obtain ⟨up, x, hux⟩ : ∃ up x, (splitN p).2 = up ++ [x] := ⟨_, _, (List.dropLast_concat_getLast hn).symm⟩
  have hj := split_join h
  rw [hux] at hj
  have h0 : (joinN up).1 = 0 := joinN_init (x := x) (by rw [hj])
  refine ⟨up, x, hux, ?_, join_split h0, hj⟩
  unfold parentN
  rw [if_neg (by simpa using h), if_neg hn, hux]
  simp
theorem parent_none {p : List UInt8} (h : (splitN p).1 ≠ 0 ∨ (splitN p).2 = []) : (parentN p).1 ≠ 0 ∧ ((splitN p).1 = 0 ∨ (parentN p).1 = (splitN p).1) ∧ (parentN p).2 = ([], []) := by
  unfold parentN
  by_cases h1 : (splitN p).1 ≠ 0
  · rw [if_pos h1]; exact ⟨h1, .inr rfl, rfl⟩
  · rw [if_neg h1, if_pos (h.resolve_left h1)]
    exact ⟨by simp, .inl (by simpa using h1), rfl⟩
end Go.Proofs.Ytaponmniedjkiaa
