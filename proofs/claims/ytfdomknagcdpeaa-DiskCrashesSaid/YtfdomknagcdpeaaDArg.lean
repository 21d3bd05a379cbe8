/- What came in, of the disk's statements. -/
import Derived.Test.YtfdomknagcdpeaaDk6
import Derived.Test.YtfdomknagcdpeaaArg
namespace Go.Proofs.Ytfdomknagcdpeaa
open Go Go.RowKit Go.ChangeShapes Go.WideShapes Go.ChangeAt

theorem cellsInt : Try.prog.cellsOf 3 = 1 := by kernel_rfl
theorem cellsU32 : Try.prog.cellsOf 34 = 1 := by kernel_rfl
theorem cellsPut : Try.prog.cellsOf 57 = 2 := by kernel_rfl
theorem u32_wf {n : Int} (h : (Lit.int .u32 n).wf = true) : 0 ≤ n ∧ n < 4294967296 := by
  simp [Lit.wf] at h
  have h1 : IntKind.u32.min = 0 := rfl
  have h2 : IntKind.u32.max = 4294967295 := rfl
  omega
theorem int_wf {n : Int} (h : (Lit.int .i64 n).wf = true) : -9223372036854775808 ≤ n ∧ n ≤ 9223372036854775807 := by
  simp [Lit.wf] at h
  have h1 : IntKind.i64.min = -9223372036854775808 := rfl
  have h2 : IntKind.i64.max = 9223372036854775807 := rfl
  omega
/-- A number and what it is filled with, in bounds. -/
def putOk (p : Int × Int) : Prop := -9223372036854775808 ≤ p.1 ∧ p.1 ≤ 9223372036854775807 ∧ 0 ≤ p.2 ∧ p.2 < 4294967296
theorem puts_arg {w : World} {v : Value} (h : ArgIs Try.prog w 22 v) :
    ∃ (ad : Option Addr) (cap : Nat) (l : List (Int × Int)), v = .slice ad l.length cap ∧ l.length ≤ maxLen ∧ l.length ≤ cap ∧ cap ≤ maxLen ∧ (∀ p ∈ l, putOk p) ∧ (l = [] ∨ ∃ A o, ad = some ⟨A, o, none⟩ ∧ w.rangeAt A o (encPs l)) := by
  refine slice_arg Try.underlying22 cellsPut (by omega) h (fun p : Int × Int => [Value.int .i64 p.1, Value.int .u32 p.2]) putOk (fun _ => rfl) (fun ecs he hr => ?_)
  obtain ⟨_, hall⟩ := hr.struct Try.underlying57
  have r0 : Rd Try.prog w 3 ((ecs.drop 0).take (Try.prog.cellsOf 3)) := hall 0 _ rfl
  have r1 : Rd Try.prog w 34 ((ecs.drop 1).take (Try.prog.cellsOf 34)) := hall 1 _ rfl
  obtain ⟨b, hb, hbw⟩ := r0.int Try.underlying3
  obtain ⟨f, hf, hfw⟩ := r1.int Try.underlying34
  rw [cellsInt] at hb
  rw [cellsU32] at hf
  match ecs, he with
  | [c0, c1], _ =>
    simp at hb hf
    subst hb hf
    exact ⟨(b, f), ⟨(int_wf hbw).1, (int_wf hbw).2, u32_wf hfw⟩, rfl⟩
theorem cellsBool : Try.prog.cellsOf 4 = 1 := by kernel_rfl
theorem bools_arg {w : World} {v : Value} (h : ArgIs Try.prog w 40 v) :
    ∃ (ad : Option Addr) (cap : Nat) (l : List Bool), v = .slice ad l.length cap ∧ l.length ≤ maxLen ∧ (l = [] ∨ ∃ A o, ad = some ⟨A, o, none⟩ ∧ w.rangeAt A o (l.map Value.bool)) := by
  obtain ⟨ad, cap, l, h1, h2, _, _, _, h3⟩ := slice_arg Try.underlying40 cellsBool (by omega) h (fun b : Bool => [Value.bool b]) (fun _ => True) (fun _ => rfl) (fun ecs he hr => by
    obtain ⟨b, hb⟩ := hr.bool Try.underlying4
    exact ⟨b, trivial, hb⟩)
  have e : ∀ l : List Bool, l.flatMap (fun b : Bool => [Value.bool b]) = l.map Value.bool := by
    intro l
    induction l with
    | nil => rfl
    | cons b l ih => rw [List.flatMap_cons, ih]; rfl
  rw [e] at h3
  exact ⟨ad, cap, l, h1, h2, h3⟩
end Go.Proofs.Ytfdomknagcdpeaa
