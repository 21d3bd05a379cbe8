/- A range over a function whose elements are known by their places: one law for the caller, one shape for the iterator. Over any program. -/
import Derived.Test.YtaponmniedjkiaaBase
import Derived.RangeFuncNested
import Derived.RangeFuncBound
import Derived.RangeFuncCalls
import Derived.RangeFuncLeaves
import Derived.RangeFuncWrites
import Derived.Shelf.Abstract
import Derived.Shelf.RegionOpen
import Derived.OwnWalkIn
import Derived.TacticsInMore
import Derived.LoopNIn
import Derived.LoopIn
namespace Go.Proofs.Ytaponmniedjkiaa
open Go.RowKit

/-- Blocks that are no cells and lie at or beyond B may turn; new blocks may come; all else lies as it lay. -/
structure Bk (B : Nat) (W W' : World) : Prop where
  os : W'.os = W.os
  tape : W'.tape = W.tape
  output : W'.output = W.output
  size : W.heap.size ≤ W'.heap.size
  same : ∀ k, k < W.heap.size → W'.heap[k]? = W.heap[k]? ∨ (B ≤ k ∧ ∃ o : Obj, W.heap[k]? = some o ∧ o.isCells = false)

theorem Bk.alloc {B : Nat} (W : World) (o : Obj) : Bk B W (W.alloc o) :=
  ⟨rfl, rfl, rfl, by simp, fun k hk => .inl (Below.heap_alloc W o k hk)⟩

theorem Bk.putObj {B : Nat} {W : World} {l : Nat} {o : Obj} (o' : Obj) (hB : B ≤ l) (hl : W.heap[l]? = some o) (ho : o.isCells = false) : Bk B W (W.putObj l o') :=
  ⟨rfl, rfl, rfl, by simp, fun k _ => by
    by_cases e : k = l
    · subst e; exact .inr ⟨hB, o, hl, ho⟩
    · exact .inl (World.putObj_heap_other e)⟩

theorem Bk.cells {B : Nat} {W W' : World} (h : Bk B W W') {b : Nat} {c : Array Value} {t : TypeId} {fr : Nat × Nat} (hb : W.heap[b]? = some (.cells c t fr)) : W'.heap[b]? = some (.cells c t fr) := by
  rcases h.same b (Array.getElem?_eq_some_iff.1 hb).1 with e | ⟨_, o, ho, hc⟩
  · rw [e]; exact hb
  · rw [hb] at ho; cases ho; simp [Obj.isCells] at hc

theorem Bk.below {B n₀ : Nat} {w W W' : World} (h : Bk B W W') (hn : n₀ ≤ w.heap.size) (hB : n₀ ≤ B) (hb : Below n₀ w W) : Below n₀ w W' :=
  hb.trans ⟨h.os, h.tape, h.output, h.size, fun k hk => by
    rcases h.same k (by have := hb.size; omega) with e | ⟨hBk, _⟩
    · exact e
    · omega⟩

theorem Bk.owns {B : Nat} {W W' : World} (h : Bk B W W') {base : Nat} {e : TypeId} {size : Nat} {v : Value} {n : Nat} {xs : List Value} (ho : W.ownsRow base e size v n xs) : W'.ownsRow base e size v n xs := by
  refine ⟨ho.1, ho.2.imp id ?_⟩
  rintro ⟨g, cap, cur, hv, hb, hg, hr⟩
  exact ⟨g, cap, cur, hv, hb, h.cells hg, hr⟩

/-- The block b, where it is cells, is as it was. -/
def SameC (b : Nat) (X Y : World) : Prop := ∀ c t fr, X.heap[b]? = some (.cells c t fr) → Y.heap[b]? = some (.cells c t fr)
theorem SameC.refl (b : Nat) (X : World) : SameC b X X := fun _ _ _ h => h
theorem SameC.trans {b : Nat} {X Y Z : World} (h : SameC b X Y) (k : SameC b Y Z) : SameC b X Z := fun c t fr e => k c t fr (h c t fr e)
theorem Bk.sameC {B : Nat} {X Y : World} (h : Bk B X Y) (b : Nat) : SameC b X Y := fun _ _ _ e => h.cells e
theorem SameC.below {n b : Nat} {X Y : World} (h : Below n X Y) (hb : b < n) : SameC b X Y := fun _ _ _ e => (h.block b hb).trans e
theorem SameC.setCell {b : Nat} {X Y : World} (h : SameC b X Y) {a : Addr} (v : Value) (hne : b ≠ a.block) : SameC b X (Y.setCell a v) :=
  fun c t fr e => (Below.heap_setCell Y a v b hne).trans (h c t fr e)
theorem SameC.alloc {b : Nat} {X Y : World} (h : SameC b X Y) (o : Obj) : SameC b X (Y.alloc o) :=
  fun c t fr e => (Below.heap_alloc Y o b (Array.getElem?_eq_some_iff.1 (h c t fr e)).1).trans (h c t fr e)
theorem SameC.drew {b : Nat} {X Y : World} (h : SameC b X Y) : SameC b X Y.drew := h

/-- The contract of an iterator that hands out N things, one behind the other: Kp: what a round must keep for it; St: its own steps on memory; W0: what it needs at its start. -/
def Iter (P : Program) (gf : Nat) (lb : Array Value) (encs : Nat → Array Value) (N : Nat) (Kp St : World → World → Prop) (W0 : World → Prop) : Prop :=
  ∀ (l : Nat) (J Jx : Nat → World → Prop) (W : World) (m : Nat), W0 W →
    (∀ i A B, J i A → St A B → J i B) → (∀ i A B, Jx i A → St A B → Jx i B) →
    (∀ i A m', i < N → J i A → YieldAt Fence.wide m' P l (encs i) A fun e B =>
      (e = .returned (.bool true) ∧ J (i + 1) B ∧ Kp A B) ∨ (e = .returned (.bool false) ∧ Jx (i + 1) B)) →
    J 0 W →
    CallsIn Fence.wide m P gf (#[.func (.yield l) #[] #[]] ++ lb) W fun e B => (∃ v, e = .returned v) ∧ (J N B ∨ ∃ i, i ≤ N ∧ Jx i B)

/-- How the body of a round may be left. -/
def rngPost (B : Nat) (Kp : World → World → Prop) (I : Nat → World → Prop) (Ix : Code → Nat → World → Prop) (i : Nat) (W : World) : Exit → Act → World → Prop
  | .normal, _, W' => KeepsFrom B W W' ∧ Kp W W' ∧ I i W'
  | .ret, _, W' => KeepsFrom B W W' ∧ Ix .ret i W'
  | .exit id, _, W' => KeepsFrom B W W' ∧ Ix (.exit id) i W'
  | .goto t, _, W' => KeepsFrom B W W' ∧ Ix (.goto t) i W'
  | .panic _, _, _ => False
  | .outgrown, _, _ => False

theorem inW {P : Program} {n : Nat} {f : FuncId} {args : Array Value} {w : World} {R R' : Ending → World → Prop} (h : Calls P f args w R) (hr : ∀ e w', R e w' → R' e w') :
    Fence.wide.fn f ∧ CallsIn Fence.wide n P f args w R' := ⟨trivial, (callsIn_wide.2 h).mono hr⟩
theorem inR {P : Program} {n l : Nat} {f : FuncId} {args : Array Value} {w : World} {R R' : Ending → World → Prop} (h : Calls P f args w R) (hr : ∀ e w', R e w' → R' e w') :
    (Fence.wide.inRound l).fn f ∧ CallsIn (Fence.wide.inRound l) n P f args w R' := ⟨trivial, CallsIn.inRound l ((callsIn_wide.2 h).mono hr)⟩

section
variable {P : Program} {ps : Array Tmp} {assign body : Code} {gf : Nat} {lb : Array Value} {encs : Nat → Array Value} {N : Nat} {Kp St : World → World → Prop} {W0 : World → Prop}
  {I : Nat → World → Prop} {Ix : Code → Nat → World → Prop} {B : Nat}

/-- The iterator's call, at a record that lies in L. -/
theorem rng_core (hit : Iter P gf lb encs N Kp St W0) (hps : ∀ i, (encs i).size = ps.size)
    (hK : ∀ X Y, Bk B X Y → Kp X Y) (hKt : ∀ X Y Z, Kp X Y → Kp Y Z → Kp X Z)
    (hI : ∀ i X Y, I i X → Bk B X Y → I i Y) (hIs : ∀ i X Y, I i X → St X Y → I i Y)
    (hIx : ∀ c i X Y, Ix c i X → Bk B X Y → Ix c i Y) (hIxs : ∀ c i X Y, Ix c i X → St X Y → Ix c i Y)
    (hSt : ∀ X Y, St X Y → KeepsFrom B X Y)
    (L : Nat) (hL : B ≤ L) (rec : LoopState → Option Code → Loop) (fn : FuncId) (tmps : Array Value) (dl : Nat)
    (hrec : rec = fun st pe => { state := st, pending := pe, fn, tmps, params := ps, assign, body, defers := dl })
    (E : World → Prop) (hE : ∀ X Y, E X → KeepsFrom B X Y → E Y)
    (hround : ∀ i X m, i < N → I i X → assign.wpIn (Fence.wide.inRound L) m P (Exit.then (fun a₁ Y => KeepsFrom B X Y ∧ Kp X Y ∧ ∀ Z, Bk B Y Z → body.wpIn (Fence.wide.inRound L) m P (rngPost B Kp I Ix (i + 1) Z) a₁ Z) (fun _ _ _ => False))
      { tmps := (ps.zip (encs i)).foldl (fun t (p, v) => t.setIfInBounds p v) tmps, defers := [] } X)
    (W1 : World) (m : Nat) (hW0 : W0 W1) (h0 : I 0 W1) (hrL : W1.heap[L]? = some (.loop (rec .ready none))) (hE1 : E W1)
    (hEp : ∀ X o', E X → E (X.putObj L o')) :
    CallsIn Fence.wide m P gf (#[.func (.yield L) #[] #[]] ++ lb) W1 fun e Y => (∃ v, e = .returned v) ∧
      ((I N Y ∧ Y.heap[L]? = some (.loop (rec .ready none)) ∧ E Y) ∨ ∃ c i, i ≤ N ∧ Ix c i Y ∧ Y.heap[L]? = some (.loop (rec .done (some c))) ∧ E Y) := by
  have keepL : ∀ {X Y : World} {st pe}, KeepsFrom B X Y → X.heap[L]? = some (.loop (rec st pe)) → Y.heap[L]? = some (.loop (rec st pe)) :=
    fun hk h => hk.same L _ hL h rfl
  refine (hit L (fun i X => I i X ∧ X.heap[L]? = some (.loop (rec .ready none)) ∧ E X) (fun i X => ∃ c, Ix c i X ∧ X.heap[L]? = some (.loop (rec .done (some c))) ∧ E X) W1 m hW0
    (fun i X Y ⟨h1, h2, h3⟩ hs => ⟨hIs i X Y h1 hs, keepL (hSt X Y hs) h2, hE X Y h3 (hSt X Y hs)⟩)
    (fun i X Y ⟨c, h1, h2, h3⟩ hs => ⟨c, hIxs c i X Y h1 hs, keepL (hSt X Y hs) h2, hE X Y h3 (hSt X Y hs)⟩)
    ?_ ⟨h0, hrL, hE1⟩).mono ?_
  · rintro i X m' hiN ⟨hi, hl, he⟩
    have hy := run_yield (P := P) (args := encs i) hl (by rw [hrec]; exact hps i)
    rw [hrec] at hy
    refine ⟨fn, _, assign, body, hy, roundIn_of_wpIn trivial (wpIn_mono (hround i X m' hiN hi) ?_)⟩
    rintro e a₁ Y hq
    cases e with
    | normal =>
      obtain ⟨hk1, hkp1, hbd⟩ := hq
      have hl1 := keepL hk1 hl
      have hlt : L < Y.heap.size := (Array.getElem?_eq_some_iff.1 hl1).1
      refine ⟨_, run_beginRound hl1 (by rw [hrec]), ?_⟩
      have hbk : Bk B Y (Y.putObj L (.loop { rec .ready none with state := .busy })) := Bk.putObj _ hL hl1 rfl
      have hl2 : (Y.putObj L (.loop { rec .ready none with state := .busy })).heap[L]? = some (.loop { rec .ready none with state := .busy }) := World.putObj_heap_same hlt
      have he2 := hEp _ (.loop { rec .ready none with state := .busy }) (hE X Y he hk1)
      refine wpIn_mono (hbd _ hbk) ?_
      have fin : ∀ (jump : Option Code) (Z : World), KeepsFrom B (Y.putObj L (.loop { rec .ready none with state := .busy })) Z →
          (Instr.endRound L jump).run P Z = .ok (.bool jump.isNone) (Z.putObj L (.loop (rec (if jump.isNone then .ready else .done) jump))) ∧
          (Z.putObj L (.loop (rec (if jump.isNone then .ready else .done) jump))).heap[L]? = some (.loop (rec (if jump.isNone then .ready else .done) jump)) ∧
          E (Z.putObj L (.loop (rec (if jump.isNone then .ready else .done) jump))) ∧
          Bk B Z (Z.putObj L (.loop (rec (if jump.isNone then .ready else .done) jump))) := fun jump Z hk3 => by
        have hl3 := hk3.same L _ hL hl2 rfl
        have hr := run_endRound (P := P) jump hl3
        rw [hrec] at hr ⊢
        rw [hrec] at hl3
        exact ⟨hr, World.putObj_heap_same (Array.getElem?_eq_some_iff.1 hl3).1, hEp _ _ (hE _ _ (by rw [hrec] at he2; exact he2) (by rw [hrec] at hk3; exact hk3)), Bk.putObj _ hL hl3 rfl⟩
      rintro e a3 Z hp
      cases e with
      | normal =>
        obtain ⟨hk3, hkp3, hi3⟩ := hp
        obtain ⟨hr, hl4, he4, hbk4⟩ := fin none Z hk3
        exact ⟨_, _, hr, .inl ⟨rfl, ⟨hI _ _ _ hi3 hbk4, hl4, he4⟩, hKt _ _ _ (hKt _ _ _ (hKt _ _ _ hkp1 (hK _ _ hbk)) hkp3) (hK _ _ hbk4)⟩⟩
      | ret =>
        obtain ⟨hk3, hi3⟩ := hp
        obtain ⟨hr, hl4, he4, hbk4⟩ := fin (some .ret) Z hk3
        exact ⟨_, _, hr, .inr ⟨rfl, .ret, hIx _ _ _ _ hi3 hbk4, hl4, he4⟩⟩
      | exit id =>
        obtain ⟨hk3, hi3⟩ := hp
        obtain ⟨hr, hl4, he4, hbk4⟩ := fin (some (.exit id)) Z hk3
        exact ⟨_, _, hr, .inr ⟨rfl, .exit id, hIx _ _ _ _ hi3 hbk4, hl4, he4⟩⟩
      | goto t =>
        obtain ⟨hk3, hi3⟩ := hp
        obtain ⟨hr, hl4, he4, hbk4⟩ := fin (some (.goto t)) Z hk3
        exact ⟨_, _, hr, .inr ⟨rfl, .goto t, hIx _ _ _ _ hi3 hbk4, hl4, he4⟩⟩
      | panic ch => exact hp.elim
      | outgrown => exact hp.elim
    | ret => exact hq.elim
    | exit id => exact hq.elim
    | goto t => exact hq.elim
    | panic ch => exact hq.elim
    | outgrown => exact hq.elim
  · rintro e Y ⟨hv, h | ⟨i, hi, c, h1, h2, h3⟩⟩
    · exact ⟨hv, .inl h⟩
    · exact ⟨hv, .inr ⟨c, i, hi, h1, h2, h3⟩⟩

/-- The caller's law, at a loop that stands in no other one over a function. -/
theorem wp_range {g : Operand} {Q : Exit → Act → World → Prop} {a : Act} {w : World}
    (hg : a.eval g = .func (.func gf) #[] lb) (eg : ∀ args w, (callFunc gf args).run P w = .ok (.enter gf args) w)
    (hit : Iter P gf lb encs N Kp St W0) (hps : ∀ i, (encs i).size = ps.size) (hB : B ≤ w.heap.size)
    (hK : ∀ X Y, Bk B X Y → Kp X Y) (hKt : ∀ X Y Z, Kp X Y → Kp Y Z → Kp X Z)
    (hW0 : ∀ Y, Bk B w Y → W0 Y)
    (hI : ∀ i X Y, I i X → Bk B X Y → I i Y) (hIs : ∀ i X Y, I i X → St X Y → I i Y)
    (hIx : ∀ c i X Y, Ix c i X → Bk B X Y → Ix c i Y) (hIxs : ∀ c i X Y, Ix c i X → St X Y → Ix c i Y)
    (hSt : ∀ X Y, St X Y → KeepsFrom B X Y)
    (h0 : I 0 w)
    (hround : ∀ L i X m, i < N → I i X → assign.wpIn (Fence.wide.inRound L) m P (Exit.then (fun a₁ Y => KeepsFrom B X Y ∧ Kp X Y ∧ ∀ Z, Bk B Y Z → body.wpIn (Fence.wide.inRound L) m P (rngPost B Kp I Ix (i + 1) Z) a₁ Z) (fun _ _ _ => False))
      { tmps := (ps.zip (encs i)).foldl (fun t (p, v) => t.setIfInBounds p v) a.tmps, defers := [] } X)
    (hdone : ∀ (D : Nat) (Y : World), w.heap.size ≤ D → I N Y → Y.heap[D]? = some (.deferred (some [])) → Q .normal { a with defers := { target := .collected D, args := #[] } :: a.defers } Y)
    (hstop : ∀ (D : Nat) (c : Code) (i : Nat) (Y : World), w.heap.size ≤ D → i ≤ N → Ix c i Y → Y.heap[D]? = some (.deferred (some [])) → c.wp P Q { a with defers := { target := .collected D, args := #[] } :: a.defers } Y) :
    (Code.rangeFunc g ps assign body).wp P Q a w := by
  refine (wpIn_wide (n := 3)).1 (wpIn_rangeFunc ?_)
  intro fn _
  obtain ⟨rec, hrec⟩ : ∃ rec : LoopState → Option Code → Loop, rec = fun st pe => { state := st, pending := pe, fn, tmps := a.tmps, params := ps, assign, body, defers := w.heap.size } := ⟨_, rfl⟩
  obtain ⟨W1, hW1⟩ : ∃ W1, (w.alloc (.deferred (some []))).alloc (.loop (rec .ready none)) = W1 := ⟨_, rfl⟩
  have hL1 : W1.heap[w.heap.size + 1]? = some (.loop (rec .ready none)) := by
    rw [← hW1]; have := World.alloc_heap_new (w.alloc (.deferred (some []))) (.loop (rec .ready none)); rwa [World.size_alloc] at this
  have hD1 : W1.heap[w.heap.size]? = some (.deferred (some [])) := by
    rw [← hW1]; exact (Below.heap_alloc _ _ _ (by simp)).trans (World.alloc_heap_new w _)
  have hb1 : Bk B w W1 := by
    rw [← hW1]
    exact ⟨rfl, rfl, rfl, by simp; omega, fun k hk => .inl ((Below.heap_alloc _ _ _ (by simp; omega)).trans (Below.heap_alloc _ _ _ hk))⟩
  refine ⟨w.heap.size + 1, [{ target := .collected w.heap.size, args := #[] }], W1, { target := .fn (.func gf) lb, args := #[.func (.yield (w.heap.size + 1)) #[] #[]] }, W1, gf,
    #[.func (.yield (w.heap.size + 1)) #[] #[]] ++ lb, W1, ?_, ?_, ?_, ?_, fun h => by simp [Fence.wide] at h, ?_⟩
  · rw [← hW1, hrec]; exact run_enterLoop_outer _ _ _ _ _
  · simp only [resolve, hg]
    simp [go_sem]
  · intro f' _; trivial
  · simp [invoke, go_sem, eg]
  · refine (rng_core hit hps hK hKt hI hIs hIx hIxs hSt (w.heap.size + 1) (by omega) rec fn a.tmps w.heap.size hrec (fun Y => Y.heap[w.heap.size]? = some (.deferred (some [])))
      (fun X Y h hk => hk.same _ _ hB h rfl) (fun i X m => hround _ i X m) W1 (3 - 1) (hW0 _ hb1) (hI _ _ _ h0 hb1) hL1 hD1
      (fun X o' h => (World.putObj_heap_other (by omega)).trans h)).mono ?_
    rintro e Y ⟨⟨v, rfl⟩, (⟨hi, hl, hd⟩ | ⟨c, i, hiN, hi, hl, hd⟩)⟩
    · have hr := run_endLoop (P := P) hl (by rw [hrec]; simp)
      rw [hrec] at hr
      refine ⟨none, _, hr, ?_⟩
      exact hdone _ _ (Nat.le_refl _) (hI _ _ _ hi (Bk.putObj _ (by omega) hl rfl)) ((World.putObj_heap_other (by omega)).trans hd)
    · have hr := run_endLoop (P := P) hl (by rw [hrec]; simp)
      rw [hrec] at hr
      refine ⟨some c, _, hr, ?_⟩
      exact wpIn_wide.2 (hstop _ c i _ (Nat.le_refl _) hiN (hIx _ _ _ _ hi (Bk.putObj _ (by omega) hl rfl)) ((World.putObj_heap_other (by omega)).trans hd))
end

/-- A function that holds a range over a function is entered. -/
theorem calls_marks {P : Program} {f : FuncId} {fn : Func} {c : Code} {args : Array Value} {w : World} {R : Ending → World → Prop} (hf : P.funcs[f]? = some fn) (hb : fn.body = some c)
    (h : c.wp P (bodyPostM Fence.wide 3 P fn R) { tmps := args ++ Array.replicate (fn.ntmps - args.size) undef, defers := [] } w) : Calls P f args w R :=
  (callsIn_wide (n := 3)).1 (callsIn_of_wp_marks hf hb trivial (wpIn_wide.2 h) rfl)

theorem leaves_mark {P : Program} {fn : Func} {R : Ending → World → Prop} {a : Act} {W : World} {D : Nat} {v : Value} (hd : a.defers = [{ target := .collected D, args := #[] }]) (hD : W.heap[D]? = some (.deferred (some [])))
    (hr : (results fn a.tmps).run P (W.putObj D (.deferred none)) = .ok v (W.putObj D (.deferred none))) (hR : R (.returned v) (W.putObj D (.deferred none))) :
    bodyPostM Fence.wide 3 P fn R .ret a W := by
  show LeavesInM Fence.wide 3 P fn a.tmps R a.defers .returning W
  rw [hd]
  refine ⟨by simp, .inl ⟨_, _, rfl, run_takeDeferred hD, ?_⟩⟩
  exact ⟨_, hr, hR⟩
end Go.Proofs.Ytaponmniedjkiaa
