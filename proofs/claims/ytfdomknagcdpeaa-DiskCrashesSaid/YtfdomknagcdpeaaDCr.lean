/- A disk on which so much was done: what a crash leaves; what came in: acts. -/
import Derived.Test.YtfdomknagcdpeaaDAw
namespace Go.Proofs.Ytfdomknagcdpeaa
open Go Go.RowKit Go.ChangeShapes Go.WideShapes Go.ChangeAt

/-- An act: its kind, its place, its number, what is kept (a slot). -/
abbrev ActV := Int × Int × Int × Value
def encAs (l : List ActV) : List Value := l.flatMap fun p => [Value.int .u8 p.1, Value.int .i64 p.2.1, Value.int .u32 p.2.2.1, p.2.2.2]
theorem encAs_at {l : List ActV} {i : Nat} {p : ActV} (hi : l[i]? = some p) : (encAs l)[i * 4]? = some (.int .u8 p.1) ∧ (encAs l)[i * 4 + 1]? = some (.int .i64 p.2.1) ∧ (encAs l)[i * 4 + 2]? = some (.int .u32 p.2.2.1) ∧ (encAs l)[i * 4 + 3]? = some p.2.2.2 := by
  have h := flat_part (f := fun p : ActV => [Value.int .u8 p.1, Value.int .i64 p.2.1, Value.int .u32 p.2.2.1, p.2.2.2]) (n := 4) l (fun _ _ => rfl) i p hi
  exact ⟨h 0 _ rfl, h 1 _ rfl, h 2 _ rfl, h 3 _ rfl⟩
def actOk (p : ActV) : Prop := 0 ≤ p.1 ∧ p.1 < 256 ∧ -9223372036854775808 ≤ p.2.1 ∧ p.2.1 ≤ 9223372036854775807 ∧ 0 ≤ p.2.2.1 ∧ p.2.2.1 < 4294967296 ∧ p.2.2.2.oneCell' = true
theorem cellsU8 : Try.prog.cellsOf 5 = 1 := by kernel_rfl
theorem cellsBs : Try.prog.cellsOf 40 = 1 := by kernel_rfl
theorem cellsAct : Try.prog.cellsOf 49 = 4 := by kernel_rfl
theorem u8_wf {n : Int} (h : (Lit.int .u8 n).wf = true) : 0 ≤ n ∧ n < 256 := by
  simp [Lit.wf] at h
  have h1 : IntKind.u8.min = 0 := rfl
  have h2 : IntKind.u8.max = 255 := rfl
  omega
theorem act_cells {w : World} {ecs : List Value} (he : ecs.length = 4) (hr : Rd Try.prog w 49 ecs) : ∃ p : ActV, actOk p ∧ ecs = [Value.int .u8 p.1, Value.int .i64 p.2.1, Value.int .u32 p.2.2.1, p.2.2.2] := by
  obtain ⟨_, hall⟩ := hr.struct Try.underlying49
  obtain ⟨a, b, c, d, rfl⟩ : ∃ a b c d, ecs = [a, b, c, d] := by
    match ecs, he with
    | [a, b, c, d], _ => exact ⟨a, b, c, d, rfl⟩
  obtain ⟨k, e0, hk⟩ := (hall 0 _ rfl).int Try.underlying5
  obtain ⟨n, e1, hn⟩ := (hall 1 _ rfl).int Try.underlying3
  obtain ⟨f, e2, hf⟩ := (hall 2 _ rfl).int Try.underlying34
  have e3 : d.oneCell' = true := by
    rcases (hall 3 _ rfl).slice Try.underlying40 with h | ⟨ad, len, cap, h, _⟩
    · simp [cellsBs] at h; rw [h]; rfl
    · simp [cellsBs] at h; rw [h]; rfl
  simp [cellsU8, cellsInt, cellsU32] at e0 e1 e2
  subst e0 e1 e2
  exact ⟨(k, n, f, d), ⟨(u8_wf hk).1, (u8_wf hk).2, (int_wf hn).1, (int_wf hn).2, (u32_wf hf).1, (u32_wf hf).2, e3⟩, rfl⟩
theorem acts_arg {w : World} {v : Value} (h : ArgIs Try.prog w 44 v) :
    ∃ (ad : Option Addr) (cap : Nat) (l : List ActV), v = .slice ad l.length cap ∧ l.length ≤ maxLen ∧ l.length ≤ cap ∧ cap ≤ maxLen ∧ (∀ p ∈ l, actOk p) ∧ (l = [] ∨ ∃ A o, ad = some ⟨A, o, none⟩ ∧ w.rangeAt A o (encAs l)) :=
  slice_arg Try.underlying44 cellsAct (by omega) h (fun p : ActV => [Value.int .u8 p.1, Value.int .i64 p.2.1, Value.int .u32 p.2.2.1, p.2.2.2]) actOk (fun _ => rfl) (fun _ he hr => act_cells he hr)

/-- What was done: a flush, nothing, or a write. -/
def crS (N : Nat) (D : Dk) (p : ActV) : Dk := if p.1.tmod 8 = 4 then D.flush else if p.1.tmod 8 = 5 ∨ p.1.tmod 8 = 6 ∨ p.1.tmod 8 = 7 then D else if 0 ≤ p.2.1 ∧ p.2.1 < N then D.write p.2.1 (fillB p.2.2.1) else D
def playC (N : Nat) (l : List ActV) : Dk := l.foldl (crS N) (newD (List.replicate N Z256))
theorem playC_snoc (N : Nat) (l : List ActV) (p : ActV) : playC N (l ++ [p]) = crS N (playC N l) p := by simp [playC]
structure COk (N : Nat) (D : Dk) (k : Nat) : Prop where
  ok : D.Ok N
  left : D.left = -1
  acts : D.acts ≤ k
  few : D.wait.length ≤ k
  now : D.now = applyW D.wait D.safe
theorem COk.start {N : Nat} (h0 : 1 ≤ N) (h1 : N ≤ 2048) : COk N (newD (List.replicate N Z256)) 0 :=
  ⟨newD_ok (all256.rep N) (by simp) h0 h1, rfl, by show (0 : Int) ≤ _; omega, by show ([] : List (Int × List UInt8)).length ≤ _; simp, rfl⟩
theorem COk.why {N : Nat} {D : Dk} {k : Nat} (h : COk N D k) (b : Int) : D.why N b = if 0 ≤ b ∧ b < N then 0 else 2 := by
  unfold Dk.why
  rw [if_neg (by rw [h.left]; omega)]
  by_cases hb : 0 ≤ b ∧ b < N
  · rw [if_pos hb, if_neg (by omega)]
  · rw [if_neg hb, if_pos (by omega)]
theorem act_left {D : Dk} (h : D.left = -1) : D.act.left = -1 := by unfold Dk.act; rw [if_neg (by omega)]; exact h
theorem COk.flush {N : Nat} {D : Dk} {k : Nat} (h : COk N D k) (hk : k ≤ 300) : COk N D.flush (k + 1) := by
  have ha := h.acts
  exact ⟨h.ok.flush (by omega), act_left h.left, by show D.acts + 1 ≤ _; omega, by show ([] : List (Int × List UInt8)).length ≤ _; simp, h.now⟩
theorem COk.write {N : Nat} {D : Dk} {k : Nat} (h : COk N D k) (hk : k ≤ 300) {b : Int} (hb0 : 0 ≤ b) (hb1 : b < N) {x : List UInt8} (hx : x.length = 256) : COk N (D.write b x) (k + 1) := by
  have ha := h.acts
  have hf := h.few
  refine ⟨h.ok.write hb0 hb1 hx (by omega) (by omega), act_left h.left, by show D.acts + 1 ≤ _; omega, by show (D.wait ++ _).length ≤ _; simp; omega, ?_⟩
  show D.now.set _ _ = applyW (D.wait ++ [(b, x)]) D.safe
  rw [applyW_snoc, ← h.now]
theorem COk.same {N : Nat} {D : Dk} {k : Nat} (h : COk N D k) : COk N D (k + 1) := by
  have ha := h.acts
  have hf := h.few
  exact ⟨h.ok, h.left, by omega, by omega, h.now⟩
theorem COk.step {N : Nat} {D : Dk} {k : Nat} (h : COk N D k) (hk : k ≤ 300) (p : ActV) : COk N (crS N D p) (k + 1) := by
  unfold crS
  split
  · exact h.flush hk
  · split
    · exact h.same
    · split
      · rename_i hb; exact h.write hk hb.1 hb.2 (fillB_len _)
      · exact h.same
theorem cOk_all {N : Nat} (h0 : 1 ≤ N) (h1 : N ≤ 2048) (l : List ActV) : ∀ k, k ≤ l.length → k ≤ 300 → COk N (playC N (l.take k)) k := by
  intro k
  induction k with
  | zero => intro _ _; rw [List.take_zero]; exact .start h0 h1
  | succ k ih =>
    intro hk h3
    rw [List.take_add_one, List.getElem?_eq_getElem (by omega), Option.toList_some, playC_snoc]
    exact (ih (by omega) (by omega)).step (by omega) _
/-- Do all come through? -/
def allT (keep : List Bool) (n : Nat) : Nat → Bool
  | 0 => decide (n ≤ keep.length)
  | k + 1 => allT keep n k && keep.getD k false
theorem allT_mem {keep : List Bool} {n : Nat} : ∀ {k : Nat}, allT keep n k = true → ∀ i, i < k → keep.getD i false = true
  | 0, _, i, hi => by omega
  | k + 1, h, i, hi => by
    rw [allT, Bool.and_eq_true] at h
    rcases Nat.lt_or_ge i k with h1 | h1
    · exact allT_mem h.1 i h1
    · obtain rfl : i = k := by omega
      exact h.2
theorem through_all {keep : List Bool} {ws : List (Int × List UInt8)} (h : ∀ i, i < ws.length → keep.getD i false = true) : through keep ws = ws := by
  have e : ∀ k, k ≤ ws.length → through keep (ws.take k) = ws.take k := by
    intro k
    induction k with
    | zero => intro _; rw [List.take_zero]; rfl
    | succ k ih =>
      intro hk
      have hp := List.getElem?_eq_getElem (l := ws) (i := k) (by omega)
      rw [through_succ keep ws k _ hp, ih (by omega), if_pos (h k (by omega)), List.take_add_one, hp, Option.toList_some]
  have := e ws.length (Nat.le_refl _)
  rwa [List.take_length] at this
theorem awake_mod (w : World) : Calls Try.prog 22 #[] w fun e w' => e = .returned (.bool true) ∧ Mod none' w w' :=
  (awake_any (St.nil none' w)).mono fun _ _ ⟨h1, h2⟩ => ⟨h1, h2.mod⟩
/-- Behind the crash: a write, a flush, a crash: it is there. -/
theorem after_now {D : Dk} {N : Nat} (h : D.Ok N) (x : List UInt8) : (((D.write 0 x).flush).crash []).now.getD (0 : Int).toNat Z256 = x ∨ D.wait ≠ [] := by
  by_cases hw : D.wait = []
  · left
    show (applyW (through [] []) (applyW (D.wait ++ [(0, x)]) D.safe)).getD 0 Z256 = x
    rw [hw]
    show (D.safe.set 0 x).getD 0 Z256 = x
    have h0 := h.n0
    have h1 := h.safe
    rw [List.getD_eq_getElem?_getD, List.getElem?_set_self (by omega)]; rfl
  · exact .inr hw
end Go.Proofs.Ytfdomknagcdpeaa
