/- Which blocks a transaction may name is what the chapter says: of any geometry and any number. No condition. -/
import Derived.Test.YtaiggaelnaaoaaaFrame
import Derived.Test.YtaiggaelnaaoaaaScanOut
import Derived.Deep.RegionHeld3
namespace Go.Proofs.Ytaiggaelnaaoaaa.scanOutside
open Go.RowKit Go.ChangeShapes Go.WideShapes Go.ChangeAt

theorem own : ownKnob Try.prog.godebug = none := by kernel_rfl
theorem laidOut : laidOutB Try.prog = true := by kernel_rfl
theorem cellsInt : Try.prog.cellsOf 3 = 1 := by kernel_rfl
theorem cellsGeo : Try.prog.cellsOf 25 = 4 := by kernel_rfl

theorem geo_arg {w : World} {v : Value} (h : ArgIs Try.prog w 25 v) : ∃ G S I J : Int, v = .agg #[.int .i64 G, .int .i64 S, .int .i64 I, .int .i64 J] := by
  obtain ⟨cs, rfl, hr⟩ := h.struct Try.underlying25
  obtain ⟨hlen, hall⟩ := hr.struct Try.underlying25
  rw [cellsGeo] at hlen
  obtain ⟨l⟩ := cs
  obtain ⟨a, b, c, d, rfl⟩ : ∃ a b c d, l = [a, b, c, d] := by
    match l, hlen with
    | [a, b, c, d], _ => exact ⟨a, b, c, d, rfl⟩
  obtain ⟨G, e0, _⟩ := (hall 0 _ rfl).int Try.underlying3
  obtain ⟨S, e1, _⟩ := (hall 1 _ rfl).int Try.underlying3
  obtain ⟨I, e2, _⟩ := (hall 2 _ rfl).int Try.underlying3
  obtain ⟨J, e3, _⟩ := (hall 3 _ rfl).int Try.underlying3
  simp [cellsInt] at e0 e1 e2 e3
  subst e0 e1 e2 e3
  exact ⟨G, S, I, J, rfl⟩

theorem keep {w X Y : World} {G S I J : Int} (h : Below (w.heap.size + 1) (w.alloc (.cells #[.int .i64 G, .int .i64 S, .int .i64 I, .int .i64 J] 25)) X) (hb : Below X.heap.size X Y) :
    Below (w.heap.size + 1) (w.alloc (.cells #[.int .i64 G, .int .i64 S, .int .i64 I, .int .i64 J] 25)) Y ∧ Y.cell? ⟨w.heap.size, 0, none⟩ = some (.int .i64 G) ∧ Y.cell? ⟨w.heap.size, 1, none⟩ = some (.int .i64 S) ∧ Y.cell? ⟨w.heap.size, 2, none⟩ = some (.int .i64 I) ∧ Y.cell? ⟨w.heap.size, 3, none⟩ = some (.int .i64 J) := by
  have h' := h.trans (hb.mono (by have := h.size; simpa using this))
  obtain ⟨c0, c1, c2, c3⟩ := gcells h'
  exact ⟨h', c0, c1, c2, c3⟩

theorem start (w : World) (G S I J : Int) : Below (w.heap.size + 1) (w.alloc (.cells #[.int .i64 G, .int .i64 S, .int .i64 I, .int .i64 J] 25)) (w.alloc (.cells #[.int .i64 G, .int .i64 S, .int .i64 I, .int .i64 J] 25)) := Below.refl _ _

theorem walk (G S I J b : Int) (w : World) :
    Calls Try.prog 4 #[.agg #[.int .i64 G, .int .i64 S, .int .i64 I, .int .i64 J], .int .i64 b] w fun e w' => e = .returned (.bool true) ∧ Below w.heap.size w w' := by
  go_enter Try.func4, Try.ntmps4
  go_wp2
  go_region_held3 (fun w' => Below (w.heap.size + 1) (w.alloc (.cells #[.int .i64 G, .int .i64 S, .int .i64 I, .int .i64 J] 25)) w' ∧ w'.cell? ⟨w.heap.size, 0, none⟩ = some (.int .i64 G) ∧ w'.cell? ⟨w.heap.size, 1, none⟩ = some (.int .i64 S) ∧ w'.cell? ⟨w.heap.size, 2, none⟩ = some (.int .i64 I) ∧ w'.cell? ⟨w.heap.size, 3, none⟩ = some (.int .i64 J)) (first | exact keep (start _ _ _ _ _) (Below.refl _ _).drew | (go_split_ands; exact keep (by assumption) (by assumption))) (first | (go_at_call 7; refine (scan_out _ _ _ _ _ _).mono ?_; rintro e w1 ⟨rfl, hb⟩) | (go_at_call 8; refine (ref_out _ _ _ _ _ _).mono ?_; rintro e w2 ⟨rfl, hb2⟩))
  go_wp2
  go_ret
  go_split_ands
  exact ⟨by simp, ((Below.refl _ _).alloc (Nat.le_refl _) _).trans (Below.mono (by assumption) (by omega))⟩

set_option maxRecDepth 100000 in
theorem lifted (os : Os) (started : os.Started) (H : Type) (enc : TypeId × Value → H) :
    ReturnsInHanded {} Try.checked os 4 .any (Rows.scanOutsideSpec.pre6 enc Try.prog Try.f4 Rows.scanOutsideRow.domain false) (Rows.scanOutsideSpec.post enc Try.prog Try.f4 false true false false) := by
  refine law_lift (C := Try.checked) own started (by kernel_rfl) Try.func4 laidOut rfl Try.underlying4 rfl ?hs (by kernel_rfl)
    (ChangeSpec.witness6 (enc := enc) (C := Try.checked) false ⟨#[], #[.agg #[.int .i64 0, .int .i64 0, .int .i64 0, .int .i64 0], .int .i64 0], []⟩ 8 (by kernel_rfl) (by kernel_rfl) (by kernel_rfl) (by kernel_rfl)) ?hwalk
  case hs =>
    intro ds h
    match ds, h with
    | [d0, d1], _ => rfl
  case hwalk =>
    intro W args hn ha
    obtain ⟨l⟩ := args
    match l, hn with
    | [v0, v1], _ =>
      obtain ⟨G, S, I, J, rfl⟩ := geo_arg (ha 0 _ _ rfl rfl)
      obtain ⟨b, rfl, _⟩ := (ha 1 _ _ rfl rfl).int Try.underlying3
      exact walk G S I J b W

theorem over : Rows.scanOutsideRow.holds Try.pinned (OpenSpec.ofChange Rows.scanOutsideSpec) :=
  OpenClaim.holds_of_wide 4 Try.f4 rfl rfl rfl rfl rfl rfl rfl ⟨rfl, rfl, rfl, rfl, rfl⟩ rfl rfl rfl rfl rfl (by kernel_rfl) Try.func4 (by kernel_rfl)
    (of_decide_eq_true (by kernel_rfl)) (by unfold Func.isWrapper; first | (rw [if_pos (by decide +kernel)]; kernel_rfl) | (rw [if_neg (by decide +kernel)]; exact ⟨rfl, rfl⟩))
    (fun os started H enc _ => lifted os started H enc)

theorem proved : Rows.ScanOutsideSaid := over
#print axioms proved
end Go.Proofs.Ytaiggaelnaaoaaa.scanOutside
