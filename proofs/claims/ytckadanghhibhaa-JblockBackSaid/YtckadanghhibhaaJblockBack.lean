/- What was written is read, as its own kind, and as no other one. -/
import Derived.Test.YtckadanghhibhaaBackTT
import Derived.Test.YtckadanghhibhaaBackTF
import Derived.Test.YtckadanghhibhaaBackFT
import Derived.Test.YtckadanghhibhaaBackFF
namespace Go.Proofs.Ytckadanghhibhaa.jblockBack
open Go.RowKit Go.ChangeShapes Go.WideShapes Go.ChangeAt

theorem own : ownKnob Try.prog.godebug = none := by kernel_rfl
theorem laidOut : laidOutB Try.prog = true := by kernel_rfl

set_option maxRecDepth 100000 in
set_option maxHeartbeats 4000000 in
theorem walk_long (s t c x : Int) (a a2 : Option Addr) (n n2 cap cap2 : Nat) (l : List (Int × Bool)) (m : List Int) (w : World) (s0 : 0 ≤ s) (s1 : s < 4294967296) (x0 : 0 ≤ x) (x1 : x < 4294967296) (hT : TagsAt w a n l) (hN : NumsAt w a2 n2 m) (h : 1000 < n ∨ 1000 < n2) :
    Calls Try.prog 9 #[.agg #[.int .u32 s, .int .i64 t], .slice a n cap, .slice a2 n2 cap2, .int .i64 c, .int .u32 x] w fun e w' => e = .returned (.bool true) ∧ Below w.heap.size w w' := by
  have M0 : Mod none' w (w.alloc (.cells #[.int .u32 s, .int .i64 t] 24)) := (Mod.refl _ _).alloc _
  by_cases h1 : 1000 < n
  · have hI : (1000 : Int) < (n : Int) := by omega
    clear h h1 hT hN
    go_enter Try.func9, Try.ntmps9
    go_wp2_with fail
    refine (jawake _).mono ?_
    rintro e w1 ⟨rfl, hm⟩
    go_wp2
    go_ret
    exact ⟨rfl, (M0.trans hm).new⟩
  · have hI : (n : Int) ≤ 1000 := by omega
    have hI2 : (1000 : Int) < (n2 : Int) := by omega
    clear h h1 hT hN
    go_enter Try.func9, Try.ntmps9
    go_wp2_with fail
    refine (jawake _).mono ?_
    rintro e w1 ⟨rfl, hm⟩
    go_wp2
    go_ret
    exact ⟨rfl, (M0.trans hm).new⟩

theorem walk (s t c x : Int) (a a2 : Option Addr) (n n2 cap cap2 : Nat) (l : List (Int × Bool)) (m : List Int) (w : World) (s0 : 0 ≤ s) (s1 : s < 4294967296) (x0 : 0 ≤ x) (x1 : x < 4294967296) (hT : TagsAt w a n l) (hN : NumsAt w a2 n2 m) :
    Calls Try.prog 9 #[.agg #[.int .u32 s, .int .i64 t], .slice a n cap, .slice a2 n2 cap2, .int .i64 c, .int .u32 x] w fun e w' => e = .returned (.bool true) ∧ Below w.heap.size w w' := by
  by_cases h : 1000 < n ∨ 1000 < n2
  · exact walk_long s t c x a a2 n n2 cap cap2 l m w s0 s1 x0 x1 hT hN h
  have hn : n ≤ 1000 := by omega
  have hn2 : n2 ≤ 1000 := by omega
  cases h1 : wHead s t with
  | some b1 =>
    cases h2 : wDesc s l with
    | some b2 =>
      cases h3 : wRevoke s m with
      | some b3 =>
        cases h4 : wCommit s c x with
        | some b4 =>
          exact walk_TTTT s t c x a a2 n n2 cap cap2 l m w s0 s1 x0 x1 hT hN hn hn2 b1 h1 b2 h2 b3 h3 b4 h4
        | none =>
          exact walk_TTTF s t c x a a2 n n2 cap cap2 l m w s0 s1 x0 x1 hT hN hn hn2 b1 h1 b2 h2 b3 h3 h4
      | none =>
        cases h4 : wCommit s c x with
        | some b4 =>
          exact walk_TTFT s t c x a a2 n n2 cap cap2 l m w s0 s1 x0 x1 hT hN hn hn2 b1 h1 b2 h2 h3 b4 h4
        | none =>
          exact walk_TTFF s t c x a a2 n n2 cap cap2 l m w s0 s1 x0 x1 hT hN hn hn2 b1 h1 b2 h2 h3 h4
    | none =>
      cases h3 : wRevoke s m with
      | some b3 =>
        cases h4 : wCommit s c x with
        | some b4 =>
          exact walk_TFTT s t c x a a2 n n2 cap cap2 l m w s0 s1 x0 x1 hT hN hn hn2 b1 h1 h2 b3 h3 b4 h4
        | none =>
          exact walk_TFTF s t c x a a2 n n2 cap cap2 l m w s0 s1 x0 x1 hT hN hn hn2 b1 h1 h2 b3 h3 h4
      | none =>
        cases h4 : wCommit s c x with
        | some b4 =>
          exact walk_TFFT s t c x a a2 n n2 cap cap2 l m w s0 s1 x0 x1 hT hN hn hn2 b1 h1 h2 h3 b4 h4
        | none =>
          exact walk_TFFF s t c x a a2 n n2 cap cap2 l m w s0 s1 x0 x1 hT hN hn hn2 b1 h1 h2 h3 h4
  | none =>
    cases h2 : wDesc s l with
    | some b2 =>
      cases h3 : wRevoke s m with
      | some b3 =>
        cases h4 : wCommit s c x with
        | some b4 =>
          exact walk_FTTT s t c x a a2 n n2 cap cap2 l m w s0 s1 x0 x1 hT hN hn hn2 h1 b2 h2 b3 h3 b4 h4
        | none =>
          exact walk_FTTF s t c x a a2 n n2 cap cap2 l m w s0 s1 x0 x1 hT hN hn hn2 h1 b2 h2 b3 h3 h4
      | none =>
        cases h4 : wCommit s c x with
        | some b4 =>
          exact walk_FTFT s t c x a a2 n n2 cap cap2 l m w s0 s1 x0 x1 hT hN hn hn2 h1 b2 h2 h3 b4 h4
        | none =>
          exact walk_FTFF s t c x a a2 n n2 cap cap2 l m w s0 s1 x0 x1 hT hN hn hn2 h1 b2 h2 h3 h4
    | none =>
      cases h3 : wRevoke s m with
      | some b3 =>
        cases h4 : wCommit s c x with
        | some b4 =>
          exact walk_FFTT s t c x a a2 n n2 cap cap2 l m w s0 s1 x0 x1 hT hN hn hn2 h1 h2 b3 h3 b4 h4
        | none =>
          exact walk_FFTF s t c x a a2 n n2 cap cap2 l m w s0 s1 x0 x1 hT hN hn hn2 h1 h2 b3 h3 h4
      | none =>
        cases h4 : wCommit s c x with
        | some b4 =>
          exact walk_FFFT s t c x a a2 n n2 cap cap2 l m w s0 s1 x0 x1 hT hN hn hn2 h1 h2 h3 b4 h4
        | none =>
          exact walk_FFFF s t c x a a2 n n2 cap cap2 l m w s0 s1 x0 x1 hT hN hn hn2 h1 h2 h3 h4

set_option maxRecDepth 100000 in
theorem lifted (os : Os) (started : os.Started) (H : Type) (enc : TypeId × Value → H) :
    ReturnsInHanded {} Try.checked os 9 .any (Rows.jblockBackSpec.pre6 enc Try.prog Try.f9 Rows.jblockBackRow.domain false) (Rows.jblockBackSpec.post enc Try.prog Try.f9 false true false false) := by
  refine law_lift (C := Try.checked) own started (by kernel_rfl) Try.func9 laidOut rfl Try.underlying4 rfl ?hs (by kernel_rfl)
    (ChangeSpec.witness6 (enc := enc) (C := Try.checked) false ⟨#[], #[.agg #[.int .u32 0, .int .i64 0], .slice none 0 0, .slice none 0 0, .int .i64 0, .int .u32 0], []⟩ 8 (by kernel_rfl) (by kernel_rfl) (by kernel_rfl) (by kernel_rfl)) ?hwalk
  case hs =>
    intro ds h
    match ds, h with
    | [d0, d1, d2, d3, d4], _ => rfl
  case hwalk =>
    intro W args hn ha
    obtain ⟨l⟩ := args
    match l, hn with
    | [v0, v1, v2, v3, v4], _ =>
      obtain ⟨s, t, rfl, s0, s1⟩ := head_arg (ha 0 _ _ rfl rfl)
      obtain ⟨a, n, cap, l, rfl, _, hT⟩ := tags_arg (ha 1 _ _ rfl rfl)
      obtain ⟨a2, n2, cap2, m, rfl, _, hN⟩ := nums_arg (ha 2 _ _ rfl rfl)
      obtain ⟨c, rfl, _⟩ := (ha 3 _ _ rfl rfl).int Try.underlying3
      obtain ⟨x, rfl, hx⟩ := (ha 4 _ _ rfl rfl).int Try.underlying22
      simp [Lit.wf] at hx
      have e1 : IntKind.u32.min = 0 := rfl
      have e2 : IntKind.u32.max = 4294967295 := rfl
      exact walk s t c x a a2 n n2 cap cap2 l m W s0 s1 (by omega) (by omega) hT hN

theorem over : Rows.jblockBackRow.holds Try.pinned (OpenSpec.ofChange Rows.jblockBackSpec) :=
  OpenClaim.holds_of_wide 9 Try.f9 rfl rfl rfl rfl rfl rfl rfl ⟨rfl, rfl, rfl, rfl, rfl⟩ rfl rfl rfl rfl rfl (by kernel_rfl) Try.func9 (by kernel_rfl)
    (of_decide_eq_true (by kernel_rfl)) (by unfold Func.isWrapper; first | (rw [if_pos (by decide +kernel)]; kernel_rfl) | (rw [if_neg (by decide +kernel)]; exact ⟨rfl, rfl⟩))
    (fun os started H enc _ => lifted os started H enc)

theorem proved : Rows.JblockBackSaid := over
#print axioms proved
end Go.Proofs.Ytckadanghhibhaa.jblockBack
