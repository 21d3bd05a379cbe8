/- A drawn region walked in ONE order that the prover names: what is quiet while a condition S on the memory holds is taken first; what turns the memory is carried out where nothing else can come up. Over any program. -/
import Derived.Test.YtckadanghhibhaaBase
import Derived.Deep.Quiet
import Derived.OrdersHeld
import Derived.BigFrame
namespace Go.Proofs.Ytckadanghhibhaa
open Go Go.RowKit

section
variable {P : Program} {ops : Array Oper} {md : Region.Mode} {S : World → Prop} {Q : Exit → Act → World → Prop}

/-- In this very world the operation hands back v and leaves the world as it is. -/
def heldAt (P : Program) (o : Oper) (a : Act) (w : World) (v : Value) : Prop := Oper.quietUpon P (fun x => x = w) w v ((execOp a.eval o).run P w)
/-- .. in every world that meets S; or its guard says no. -/
def YieldsH (P : Program) (ops : Array Oper) (S : World → Prop) (o : Oper) (v : Value) (a : Act) : Prop :=
  (Region.wanted o (yielded ops a.tmps) = true ∧ ∀ w, S w → heldAt P o a w v) ∨ (Region.wanted o (yielded ops a.tmps) = false ∧ v = undef)

theorem YieldsH.wpOp {i : Nat} {o : Oper} {v : Value} {a : Act} {w : World} (hi : ops[i]? = some o) (hy : YieldsH P ops S o v a) (hS : S w) {K : Act → World → Prop} (h : K (a.put o.dst v) w) : wpOp P ops Q i K a w := by
  unfold Go.wpOp
  simp only [hi]
  rcases hy with ⟨hw, hv⟩ | ⟨hw, rfl⟩
  · rw [if_pos hw]
    exact .inl (Oper.wp_of_quiet (C := fun x => x = w) (K := fun a' => K a' w) rfl (fun _ _ e hk => by rw [e]; exact hk) ⟨v, fun w' e => by subst e; exact hv _ hS, h⟩)
  · rw [if_neg (by simp [hw])]; exact h

theorem YieldsH.same {o : Oper} {v : Value} {a a' : Act} (hy : YieldsH P ops S o v a) (he : execOp a'.eval o = execOp a.eval o) (hw : Region.wanted o (yielded ops a'.tmps) = Region.wanted o (yielded ops a.tmps)) : YieldsH P ops S o v a' := by
  unfold YieldsH heldAt at *
  rw [he, hw]
  exact hy

theorem wpOp_swap {j : Nat} {oi oj : Oper} {v : Value} (hj : ops[j]? = some oj) (hap : oi.apart ops oj = true) (hsi : ∀ cs b, oi.op ≠ .select cs b) (hsj : ∀ cs b, oj.op ≠ .select cs b)
    (hQ : ∀ c (a : Act) d v w, Q (.panic c) (a.put d v) w → Q (.panic c) a w) {K : Act → World → Prop} {a : Act} {w : World} (hy : YieldsH P ops S oi v a) (h : wpOp P ops Q j K (a.put oi.dst v) w) :
    wpOp P ops Q j (fun a' w' => YieldsH P ops S oi v a' ∧ K (a'.put oi.dst v) w') a w := by
  obtain ⟨h1, h2, h3⟩ := Oper.apart_spec hap
  have keep : ∀ b u, YieldsH P ops S oi v b → YieldsH P ops S oi v (b.put oj.dst u) := fun b u hb => hb.same (execOp_put oi hsi b oj.dst u h3) (wanted_put oi b oj.dst u h3)
  have he : execOp (a.put oi.dst v).eval oj = execOp a.eval oj := execOp_put oj hsj a oi.dst v h1
  unfold wpOp at *
  simp only [hj] at *
  rw [wanted_put oj a oi.dst v h1] at h
  by_cases hw : Region.wanted oj (yielded ops a.tmps) = true
  · rw [if_pos hw] at h ⊢
    refine h.imp (fun h => ?_) (fun ⟨hA, hL⟩ => ⟨by unfold Oper.asks at *; rwa [he] at hA, hL⟩)
    unfold Oper.wp at *
    rw [he] at h
    revert h
    generalize (execOp a.eval oj).run P w = r
    intro h
    cases r with
    | ok n w' =>
      cases n
      case value u => exact ⟨keep a u hy, by rw [← Act.put_comm a v u h2]; exact h⟩
      case skip => exact ⟨keep a undef hy, by rw [← Act.put_comm a v undef h2]; exact h⟩
      case defer d =>
        refine ⟨keep _ _ (hy.same rfl rfl), ?_⟩
        rw [← Act.put_comm _ v undef h2, ← Act.put_defers]
        exact h
      case enter f args =>
        refine Calls.mono h fun e w'' he => ?_
        cases e with
        | returned u => exact ⟨keep a u hy, by rw [← Act.put_comm a v u h2]; exact he⟩
        | panicked c => exact hQ _ _ _ _ _ he
        | outgrown => exact he
      case row row args => exact Rows.mono h fun u w'' he => ⟨keep a u hy, by rw [← Act.put_comm a v u h2]; exact he⟩
      all_goals exact h
    | halt x w' =>
      cases x
      case panic u => exact hQ _ _ _ _ _ h
      all_goals exact h
  · rw [if_neg hw] at h ⊢
    exact ⟨keep a undef hy, by rw [← Act.put_comm a v undef h2]; exact h⟩

/-- Whoever stands in the list has all that it waits for in the list. -/
def Shut (md : Region.Mode) (ops : Array Oper) (listed : Array Bool) : Prop := ∀ j oj, ops[j]? = some oj → listed.getD j false = true → ∀ e ∈ oj.after, Region.binds md e = true → listed.getD e.on false = true
/-- Every operation leads to the last one. -/
def sinkAll (md : Region.Mode) (ops : Array Oper) : Bool := (List.range (ops.size - 1)).all fun i => (List.range ops.size).any fun j => decide (i < j) && (match ops[j]? with | some oj => oj.after.any fun e => Region.binds md e && e.on == i | none => false)

theorem shut_start : Shut md ops (Array.replicate ops.size false) := fun j _ _ h => by
  by_cases hj : j < ops.size <;> simp [hj] at h
theorem Shut.set {listed : Array Bool} (h : Shut md ops listed) {i : Nat} (hi : i ∈ Region.ready md ops listed) : Shut md ops (listed.setIfInBounds i true) := fun j oj hj hl e he hb => by
  obtain ⟨_, oi, hoi, hall⟩ := mem_ready.1 hi
  by_cases hij : i = j
  · subst hij
    have : oj = oi := Option.some.inj (hj.symm.trans hoi)
    subst this
    exact getD_set_true (hall e he hb)
  · rw [getD_set_ne false hij] at hl
    exact getD_set_true (h j oj hj hl e he hb)
theorem getD_listed {listed : Array Bool} {i : Nat} (h : listed.getD i true = false) : listed.getD i false = false := by
  by_cases h' : i < listed.size
  · simp [h'] at h ⊢; exact h
  · simp [h'] at h
theorem Shut.last {listed : Array Bool} (h : Shut md ops listed) (hs : sinkAll md ops = true) {n : Nat} (hn : ops.size = n + 1) (hr : n ∈ Region.ready md ops listed) : ∀ d i, i + d = n → i < n → listed.getD i false = true := by
  obtain ⟨_, on, hon, hall⟩ := mem_ready.1 hr
  intro d
  induction d using Nat.strongRecOn with
  | _ d ih =>
    intro i hi hlt
    unfold sinkAll at hs
    rw [hn] at hs
    have h1 := List.all_eq_true.1 hs i (List.mem_range.2 (by omega))
    obtain ⟨j, hj, h2⟩ := List.any_eq_true.1 h1
    rw [List.mem_range] at hj
    simp only [Bool.and_eq_true, decide_eq_true_eq] at h2
    obtain ⟨hij, h3⟩ := h2
    cases hoj : ops[j]? with
    | none => rw [hoj] at h3; cases h3
    | some oj =>
      rw [hoj] at h3
      obtain ⟨e, he, h4⟩ := Array.any_eq_true'.1 h3
      simp only [Bool.and_eq_true, beq_iff_eq] at h4
      obtain ⟨hb, rfl⟩ := h4
      by_cases hjn : j = n
      · subst hjn
        have : oj = on := Option.some.inj (hoj.symm.trans hon)
        subst this
        exact hall e he hb
      · exact h j oj hoj (ih (n - j) (by omega) j (by omega) (by omega)) e he hb

/-- Whatever order is picked, and S holds behind every operation but the last one of the text. -/
def wpAnyE (P : Program) (md : Region.Mode) (ops : Array Oper) (Q : Exit → Act → World → Prop) (S : World → Prop) : Nat → Array Bool → Act → World → Prop
  | 0, listed, a, w => Region.ready md ops listed = [] ∧ Q .normal a w
  | fuel + 1, listed, a, w => (Region.ready md ops listed = [] → Q .normal a w) ∧
    ∀ i ∈ Region.ready md ops listed, wpOp P ops Q i (fun a' w' => (i + 1 = ops.size ∨ S w') ∧ wpAnyE P md ops Q S fuel (listed.setIfInBounds i true) a' w') a w

theorem wpAny_of_E : ∀ (fuel : Nat) (listed : Array Bool) (a : Act) (w : World), wpAnyE P md ops Q S fuel listed a w → wpAny P md ops Q fuel listed a w
  | 0, _, _, _, h => h
  | fuel + 1, _, _, _, h => ⟨h.1, fun i hi => wpOp_mono (fun a' w' h' => wpAny_of_E fuel _ a' w' h'.2) (h.2 i hi)⟩

theorem wpAnyE_first {i : Nat} {oi : Oper} {v : Value} (hi : ops[i]? = some oi) (hil : i + 1 ≠ ops.size) (hsel : ∀ (j : Nat) (o : Oper) cs b, ops[j]? = some o → o.op ≠ .select cs b) (hQ : ∀ c (a : Act) d v w, Q (.panic c) (a.put d v) w → Q (.panic c) a w) (hs : sinkAll md ops = true) :
    ∀ (fuel : Nat) (listed : Array Bool) (a : Act) (w : World), Shut md ops listed →
      (∀ j oj, ops[j]? = some oj → j ≠ i → listed.getD j true = false → (∀ e ∈ oj.after, Region.binds md e = true → e.on ≠ i) → oi.apart ops oj = true) →
      i ∈ Region.ready md ops listed → YieldsH P ops S oi v a → S w →
      wpAnyE P md ops Q S fuel (listed.setIfInBounds i true) (a.put oi.dst v) w → wpAnyE P md ops Q S (fuel + 1) listed a w := by
  intro fuel
  induction fuel with
  | zero =>
    intro listed a w _ _ hr hy hS H
    refine ⟨fun h => (by rw [h] at hr; cases hr), fun j hj => ?_⟩
    by_cases hji : j = i
    · subst hji; exact hy.wpOp hi hS ⟨.inr hS, H⟩
    · have := ready_mono hj hji
      rw [H.1] at this
      cases this
  | succ fuel ih =>
    intro listed a w hsh hfree hr hy hS H
    refine ⟨fun h => (by rw [h] at hr; cases hr), fun j hj => ?_⟩
    by_cases hji : j = i
    · subst hji; exact hy.wpOp hi hS ⟨.inr hS, H⟩
    obtain ⟨hjun, oj, hoj, hall⟩ := mem_ready.1 hj
    have hiun := (mem_ready.1 hr).1
    have hnot : ∀ e ∈ oj.after, Region.binds md e = true → e.on ≠ i := fun e he hb heq => by
      have h1 := hall e he hb
      rw [heq, getD_listed hiun] at h1
      cases h1
    have hilt : i < ops.size := (Array.getElem?_eq_some_iff.1 hi).1
    have hjlast : j + 1 ≠ ops.size := fun e => by
      have h1 := hsh.last hs (n := j) e.symm hj (j - i) i (by omega) (by omega)
      rw [getD_listed hiun] at h1
      cases h1
    have h2 := wpOp_swap hoj (hfree j oj hoj hji hjun hnot) (fun cs b => hsel i oi cs b hi) (fun cs b => hsel j oj cs b hoj) hQ hy (H.2 j (ready_mono hj hji))
    refine wpOp_mono (fun a' w' h3 => ?_) h2
    obtain ⟨hy', hs', h4⟩ := h3
    have hS' := hs'.resolve_left hjlast
    refine ⟨.inr hS', ih (listed.setIfInBounds j true) a' w' (hsh.set hj) (fun k ok hk hki hun hno => ?_) (ready_mono hr (Ne.symm hji)) hy' hS' ?_⟩
    · refine hfree k ok hk hki ?_ hno
      by_cases hjk : j = k
      · subst hjk; exact hjun
      · rw [getD_set_ne true hjk] at hun; exact hun
    · rw [Array.setIfInBounds_comm _ _ hji]; exact h4

/-- The order that the prover names: 'q i': quiet, taken first; 'e i': carried out, nothing else can come up; 'two i r j s': one of two comes up, either way is walked. -/
inductive Sc where
  | nil
  | q (i : Nat) (r : Sc)
  | e (i : Nat) (r : Sc)
  | two (i : Nat) (r : Sc) (j : Nat) (s : Sc)
def Sc.len : Sc → Nat
  | .nil => 0
  | .q _ r => r.len + 1
  | .e _ r => r.len + 1
  | .two _ r _ _ => r.len + 1
def schB (md : Region.Mode) (ops : Array Oper) : Sc → Array Bool → Bool
  | .nil, listed => (Region.ready md ops listed).isEmpty
  | .q i r, listed => (Region.ready md ops listed).contains i && Region.free md ops listed i && decide (i + 1 ≠ ops.size) && schB md ops r (listed.setIfInBounds i true)
  | .e i r, listed => decide (Region.ready md ops listed = [i]) && schB md ops r (listed.setIfInBounds i true)
  | .two i r j s, listed => decide (Region.ready md ops listed = [i, j]) && decide (r.len = s.len) && schB md ops r (listed.setIfInBounds i true) && schB md ops s (listed.setIfInBounds j true)

def wpSch (P : Program) (ops : Array Oper) (Q : Exit → Act → World → Prop) (S : World → Prop) : Sc → Act → World → Prop
  | .nil, a, w => Q .normal a w
  | .q i r, a, w => ∀ o, ops[i]? = some o → ∃ v, YieldsH P ops S o v a ∧ wpSch P ops Q S r (a.put o.dst v) w
  | .e i r, a, w => ∀ o, ops[i]? = some o → wpList P ops (Exit.then (fun a' w' => (i + 1 = ops.size ∨ S w') ∧ wpSch P ops Q S r a' w') Q) [o] a w
  | .two i r j s, a, w => (∀ o, ops[i]? = some o → wpList P ops (Exit.then (fun a' w' => (i + 1 = ops.size ∨ S w') ∧ wpSch P ops Q S r a' w') Q) [o] a w) ∧
    ∀ o, ops[j]? = some o → wpList P ops (Exit.then (fun a' w' => (j + 1 = ops.size ∨ S w') ∧ wpSch P ops Q S s a' w') Q) [o] a w

/-- Behind the last operation of the text nothing is left. -/
theorem sch_end {sch : Sc} {j : Nat} {listed : Array Bool} (hsh : Shut md ops listed) (hs : sinkAll md ops = true) (hj' : j ∈ Region.ready md ops listed) (h2 : j + 1 = ops.size) (hB' : schB md ops sch (listed.setIfInBounds j true) = true) : sch = .nil := by
  have hall := hsh.last hs h2.symm hj'
  have key : ∀ k, k ∈ Region.ready md ops (listed.setIfInBounds j true) → False := fun k hk => by
    obtain ⟨hun, ok, hok, _⟩ := mem_ready.1 hk
    have hkl : k < ops.size := (Array.getElem?_eq_some_iff.1 hok).1
    by_cases hkj : k = j
    · have h3 := getD_listed hun
      rw [hkj] at h3
      have hsz : j < listed.size := by
        by_cases h' : j < listed.size
        · exact h'
        · rw [hkj] at hun; simp [h'] at hun
      simp [hsz] at h3
    · have h3 := getD_set_true (i := j) (hall (j - k) k (by omega) (by omega))
      rw [getD_listed hun] at h3
      cases h3
  cases sch with
  | nil => rfl
  | q k r =>
    simp only [schB, Bool.and_eq_true, decide_eq_true_eq] at hB'
    exact (key k (by simpa using hB'.1.1.1)).elim
  | e k r =>
    simp only [schB, Bool.and_eq_true, decide_eq_true_eq] at hB'
    exact (key k (by rw [hB'.1]; simp)).elim
  | two k r l s =>
    simp only [schB, Bool.and_eq_true, decide_eq_true_eq] at hB'
    exact (key k (by rw [hB'.1.1.1]; simp)).elim

theorem wpOp_of_list {j : Nat} {o : Oper} (ho : ops[j]? = some o) {K : Act → World → Prop} {a : Act} {w : World} (h1 : wpList P ops (Exit.then K Q) [o] a w) : wpOp P ops Q j K a w := by
  unfold wpOp
  simp only [ho]
  unfold wpList at h1
  by_cases hw : Region.wanted o (yielded ops a.tmps) = true
  · rw [if_pos hw] at h1 ⊢
    rcases h1 with h1 | ⟨h1, h2⟩
    · left
      unfold Oper.wp at *
      revert h1
      generalize (execOp a.eval o).run P w = x
      intro h1
      cases x with
      | ok n w' =>
        cases n
        case enter f args =>
          refine Calls.mono h1 fun e w'' he => ?_
          cases e with
          | returned u => exact he
          | panicked c => exact he
          | outgrown => exact he
        all_goals exact h1
      | halt x w' =>
        cases x
        all_goals exact h1
    · exact .inr ⟨h1, h2⟩
  · rw [if_neg hw] at h1 ⊢
    exact h1

theorem wpAnyE_sch (hsel : Region.noSelect ops = true) (hQ : ∀ c (a : Act) d v w, Q (.panic c) (a.put d v) w → Q (.panic c) a w) (hs : sinkAll md ops = true) : ∀ (sch : Sc) (listed : Array Bool) (a : Act) (w : World), Shut md ops listed → (sch = .nil ∨ S w) →
    schB md ops sch listed = true → wpSch P ops Q S sch a w → wpAnyE P md ops Q S sch.len listed a w
  | .nil, listed, a, w, _, _, hB, h => ⟨by simpa [schB] using hB, h⟩
  | .q i r, listed, a, w, hsh, hS, hB, h => by
    simp only [schB, Bool.and_eq_true, decide_eq_true_eq] at hB
    obtain ⟨⟨⟨hr, hf⟩, hil⟩, hB'⟩ := hB
    have hr' : i ∈ Region.ready md ops listed := by simpa using hr
    obtain ⟨_, o, ho, _⟩ := mem_ready.1 hr'
    obtain ⟨v, hy, hK⟩ := h o ho
    have hSw := hS.resolve_left (by simp)
    exact wpAnyE_first ho hil (Region.noSelect_spec hsel) hQ hs r.len listed a w hsh (Region.free_spec ho hf) hr' hy hSw
      (wpAnyE_sch hsel hQ hs r _ _ w (hsh.set hr') (.inr hSw) hB' hK)
  | .e i r, listed, a, w, hsh, hS, hB, h => by
    simp only [schB, Bool.and_eq_true, decide_eq_true_eq] at hB
    obtain ⟨hr, hB'⟩ := hB
    refine ⟨fun e => by rw [e] at hr; simp at hr, fun j hj => ?_⟩
    have hj' := hj
    rw [hr] at hj
    have hji : j = i := by simpa using hj
    subst hji
    obtain ⟨_, o, ho, _⟩ := mem_ready.1 hj'
    exact wpOp_mono (fun a' w' ⟨h2, h3⟩ => ⟨h2, wpAnyE_sch hsel hQ hs r _ a' w' (hsh.set hj') (h2.imp (fun h2 => sch_end hsh hs hj' h2 hB') id) hB' h3⟩) (wpOp_of_list ho (h o ho))
  | .two i r k s, listed, a, w, hsh, hS, hB, h => by
    simp only [schB, Bool.and_eq_true, decide_eq_true_eq] at hB
    obtain ⟨⟨⟨hr, hlen⟩, hB1⟩, hB2⟩ := hB
    obtain ⟨hi, hk⟩ := h
    refine ⟨fun e => by rw [e] at hr; simp at hr, fun j hj => ?_⟩
    have hj' := hj
    rw [hr] at hj
    obtain ⟨_, o, ho, _⟩ := mem_ready.1 hj'
    rcases (by simpa using hj : j = i ∨ j = k) with hji | hji
    · subst hji
      exact wpOp_mono (fun a' w' ⟨h2, h3⟩ => ⟨h2, wpAnyE_sch hsel hQ hs r _ a' w' (hsh.set hj') (h2.imp (fun h2 => sch_end hsh hs hj' h2 hB1) id) hB1 h3⟩) (wpOp_of_list ho (hi o ho))
    · subst hji
      exact wpOp_mono (fun a' w' ⟨h2, h3⟩ => ⟨h2, by have := wpAnyE_sch hsel hQ hs s _ a' w' (hsh.set hj') (h2.imp (fun h2 => sch_end hsh hs hj' h2 hB2) id) hB2 h3; rwa [← hlen] at this⟩) (wpOp_of_list ho (hk o ho))

/-- **THE LAW.** -/
theorem wp_region_sch {id : Nat} {a : Act} {w : World} {l : List Oper} (sch : Sc) (S : World → Prop) (hm : P.follows .mixedOrders = true)
    (hB : (Region.noSelect l.toArray && sinkAll .any l.toArray && decide (sch.len = l.length) && schB .any l.toArray sch (Array.replicate l.length false)) = true)
    (hQ : ∀ c (a : Act) d v w, Q (.panic c) (a.put d v) w → Q (.panic c) a w) (h : ∀ w1, Mod none' w w1 → S w1 ∧ wpSch P l.toArray Q S sch a w1) : (Code.region id l.toArray true).wp P Q a w := by
  obtain ⟨hS, h⟩ := h w.drew ((Mod.refl _ _).drew)
  simp only [Bool.and_eq_true, decide_eq_true_eq] at hB
  obtain ⟨⟨⟨h1, h2⟩, h3⟩, h4⟩ := hB
  refine wp_region_any hm (wpAny_of_E (S := S) _ _ _ _ ?_)
  have h5 := wpAnyE_sch (md := .any) h1 hQ h2 sch (Array.replicate l.length false) a w.drew (by have := shut_start (md := .any) (ops := l.toArray); simpa using this) (.inr hS) h4 h
  rw [h3] at h5
  simpa using h5

/-! The steps. -/
theorem wpSch_q {i : Nat} {r : Sc} {a : Act} {w : World} {o : Oper} (ho : ops[i]? = some o) (hw : Region.wanted o (yielded ops a.tmps) = true) (v : Value) (hv : ∀ w', S w' → heldAt P o a w' v)
    (h : wpSch P ops Q S r (a.put o.dst v) w) : wpSch P ops Q S (.q i r) a w := fun o' ho' => by
  have : o' = o := Option.some.inj (ho'.symm.trans ho)
  subst this
  exact ⟨v, .inl ⟨hw, hv⟩, h⟩
theorem wpSch_skip {i : Nat} {r : Sc} {a : Act} {w : World} {o : Oper} (ho : ops[i]? = some o) (hw : Region.wanted o (yielded ops a.tmps) = false) (h : wpSch P ops Q S r (a.put o.dst undef) w) :
    wpSch P ops Q S (.q i r) a w := fun o' ho' => by
  have : o' = o := Option.some.inj (ho'.symm.trans ho)
  subst this
  exact ⟨undef, .inr ⟨hw, rfl⟩, h⟩
theorem wpSch_e {i : Nat} {r : Sc} {a : Act} {w : World} {o : Oper} (ho : ops[i]? = some o) (h : wpList P ops (Exit.then (fun a' w' => (i + 1 = ops.size ∨ S w') ∧ wpSch P ops Q S r a' w') Q) [o] a w) :
    wpSch P ops Q S (.e i r) a w := fun o' ho' => by
  have : o' = o := Option.some.inj (ho'.symm.trans ho)
  subst this
  exact h
theorem wpSch_e_k {i : Nat} {r : Sc} {a : Act} {w : World} {o : Oper} (ho : ops[i]? = some o) (h : ∀ K : Act → World → Prop, Hid (∀ a' w', ((i + 1 = ops.size ∨ S w') ∧ wpSch P ops Q S r a' w') → K a' w') → wpList P ops (Exit.then K Q) [o] a w) :
    wpSch P ops Q S (.e i r) a w := wpSch_e ho (h _ (fun _ _ h => h))
theorem wpSch_two {i j : Nat} {r s : Sc} {a : Act} {w : World} {o o' : Oper} (ho : ops[i]? = some o) (ho' : ops[j]? = some o') (h : wpList P ops (Exit.then (fun a' w' => (i + 1 = ops.size ∨ S w') ∧ wpSch P ops Q S r a' w') Q) [o] a w) (h' : wpList P ops (Exit.then (fun a' w' => (j + 1 = ops.size ∨ S w') ∧ wpSch P ops Q S s a' w') Q) [o'] a w) :
    wpSch P ops Q S (.two i r j s) a w :=
  ⟨fun x hx => by
    have : x = o := Option.some.inj (hx.symm.trans ho)
    subst this
    exact h, fun x hx => by
    have : x = o' := Option.some.inj (hx.symm.trans ho')
    subst this
    exact h'⟩
theorem wpSch_two_k {i j : Nat} {r s : Sc} {a : Act} {w : World} {o o' : Oper} (ho : ops[i]? = some o) (ho' : ops[j]? = some o') (h : ∀ K : Act → World → Prop, Hid (∀ a' w', ((i + 1 = ops.size ∨ S w') ∧ wpSch P ops Q S r a' w') → K a' w') → wpList P ops (Exit.then K Q) [o] a w)
    (h' : ∀ K : Act → World → Prop, Hid (∀ a' w', ((j + 1 = ops.size ∨ S w') ∧ wpSch P ops Q S s a' w') → K a' w') → wpList P ops (Exit.then K Q) [o'] a w) :
    wpSch P ops Q S (.two i r j s) a w := wpSch_two ho ho' (h _ (fun _ _ h => h)) (h' _ (fun _ _ h => h))
theorem wpSch_nil {a : Act} {w : World} (h : Q .normal a w) : wpSch P ops Q S .nil a w := h
end
/-- Operations that hand back a value, and call nobody. -/
def plainOp (o : Oper) : Bool := match o.op with
  | .move _ | .assign _ | .load .. | .binOp .. | .unOp .. | .convert .. | .fieldAddr .. | .field .. | .indexAddr .. | .index .. | .slice .. | .extract .. | .build .. | .makeInterface .. | .makeFunc .. | .lookup .. | .pick .. => true
  | .call c => (match c.callee with | .builtin .len | .builtin .cap | .builtin .min | .builtin .max => true | _ => false)
  | _ => false

theorem andThen_value {P : Program} (s : Sem Value) (w : World) : (∃ v w', ((do pure (.value (← s)) : Sem Next)).run P w = .ok (.value v) w') ∨ ∃ h w', ((do pure (.value (← s)) : Sem Next)).run P w = .halt h w' := by
  simp only [Sem.run_bind, Sem.run_pure]
  cases (s.run P w) with
  | ok v w' => exact .inl ⟨v, w', rfl⟩
  | halt h w' => exact .inr ⟨h, w', rfl⟩

theorem plain_value {P : Program} {o : Oper} (h : plainOp o = true) (ρ : Operand → Value) (w : World) : (∃ v w', (execOp ρ o).run P w = .ok (.value v) w') ∨ ∃ h w', (execOp ρ o).run P w = .halt h w' := by
  obtain ⟨dst, op, ty, pos, after, guard⟩ := o
  cases op
  case call c =>
    obtain ⟨callee, cargs, ats⟩ := c
    cases callee
    case builtin b =>
      rw [BigFrame.execOp_builtin]
      cases b
      case len => rw [BigFrame.builtin_len]; exact andThen_value _ _
      case cap => rw [BigFrame.builtin_cap]; exact andThen_value _ _
      case min => rw [BigFrame.builtin_min]; exact andThen_value _ _
      case max => rw [BigFrame.builtin_max]; exact andThen_value _ _
      all_goals (simp [plainOp] at h)
    all_goals (simp [plainOp] at h)
  case pick c x y =>
    show (∃ v w', (Sem.bind (asBool (ρ c)) _).run P w = _) ∨ ∃ h w', (Sem.bind (asBool (ρ c)) _).run P w = _
    cases hq : (asBool (ρ c)).run P w with
    | ok b w' => exact .inl ⟨_, w', by rw [show (Sem.bind (asBool (ρ c)) fun b => pure (Next.value (if b = true then ρ x else ρ y))) = (asBool (ρ c) >>= fun b => pure (Next.value (if b = true then ρ x else ρ y))) from rfl, Sem.run_bind, hq]; rfl⟩
    | halt h w' => exact .inr ⟨h, w', by rw [show (Sem.bind (asBool (ρ c)) fun b => pure (Next.value (if b = true then ρ x else ρ y))) = (asBool (ρ c) >>= fun b => pure (Next.value (if b = true then ρ x else ρ y))) from rfl, Sem.run_bind, hq]; rfl⟩
  all_goals first
    | exact andThen_value _ _
    | exact .inl ⟨_, _, rfl⟩
    | (simp [plainOp] at h; done)

theorem held_of_quiet {P : Program} {o : Oper} (h : plainOp o = true) {a : Act} {C : World → Prop} {w : World} {v : Value} (hq : o.quietAt P a C w v) : heldAt P o a w v := by
  unfold Oper.quietAt at hq
  unfold heldAt
  rcases plain_value (P := P) h a.eval w with ⟨u, w', e⟩ | ⟨u, w', e⟩
  · rw [e] at hq ⊢; exact hq
  · rw [e] at hq; exact hq.elim

theorem wpSch_plain {P : Program} {ops : Array Oper} {S : World → Prop} {Q : Exit → Act → World → Prop} {i : Nat} {r : Sc} {a : Act} {w : World} {o : Oper} (ho : ops[i]? = some o) (hp : plainOp o = true) (hw : Region.wanted o (yielded ops a.tmps) = true)
    (h : ∀ K : Act → Prop, (∀ a, wpSch P ops Q S r a w → K a) → o.quiet P a (fun _ => True) K) : wpSch P ops Q S (.q i r) a w := by
  obtain ⟨v, hv, hk⟩ := h (fun a' => wpSch P ops Q S r a' w) (fun _ h => h)
  exact wpSch_q ho hw v (fun w' _ => held_of_quiet hp (hv w' trivial)) hk
theorem wpSch_nilCheck {P : Program} {ops : Array Oper} {S : World → Prop} {Q : Exit → Act → World → Prop} {i : Nat} {r : Sc} {a : Act} {w : World} {d : Option Tmp} {x : Operand} {ty : TypeId} {pos : String} {af : Array Edge} {g : Option (Nat × Bool)} (ho : ops[i]? = some ⟨d, .nilCheck x, ty, pos, af, g⟩) (hw : Region.wanted ⟨d, .nilCheck x, ty, pos, af, g⟩ (yielded ops a.tmps) = true) {ad : Addr} (hx : a.eval x = .pointer (some ad))
    (h : wpSch P ops Q S r (a.put d (.pointer (some ad))) w) : wpSch P ops Q S (.q i r) a w :=
  wpSch_q ho hw (.pointer (some ad)) (fun w' _ => by unfold heldAt execOp; simp only [hx, Sem.run_pure, Oper.quietUpon, and_self]) h
theorem wpSch_call {P : Program} {ops : Array Oper} {S : World → Prop} {Q : Exit → Act → World → Prop} {i : Nat} {r : Sc} {a : Act} {w : World} {o : Oper} (ho : ops[i]? = some o) (hw : Region.wanted o (yielded ops a.tmps) = true) {f : FuncId} {args : Array Value} {v : Value}
    (hr : ∀ w', (execOp a.eval o).run P w' = .ok (.enter f args) w') (hc : ∀ w', S w' → Calls P f args w' fun e w'' => e = .returned v ∧ w' = w'')
    (h : wpSch P ops Q S r (a.put o.dst v) w) : wpSch P ops Q S (.q i r) a w :=
  wpSch_q ho hw v (fun w' hS => by
    unfold heldAt
    rw [hr w']
    exact ⟨rfl, (hc w' hS).mono fun e w'' ⟨h1, h2⟩ => ⟨h1, h2.symm⟩⟩) h
end Go.Proofs.Ytckadanghhibhaa
