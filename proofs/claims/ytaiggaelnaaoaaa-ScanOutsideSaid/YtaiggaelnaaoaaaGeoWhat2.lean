/- What a block is, by a geometry: the function. -/
import Derived.Test.YtaiggaelnaaoaaaGeoWhat
import Derived.Deep.RegionHeld3
import Derived.Deep.RegionHeld3
import Derived.Deep.RegionHeld3
import Derived.Deep.RegionHeld3
import Derived.Deep.RegionHeld3
import Derived.Deep.RegionHeld3
import Derived.Deep.RegionHeld3
import Derived.Deep.RegionHeld3
import Derived.Deep.RegionHeld3
import Derived.Deep.RegionHeld3
import Derived.Deep.RegionHeld3
import Derived.Deep.RegionHeld3
import Derived.Deep.RegionHeld3
namespace Go.Proofs.Ytaiggaelnaaoaaa
open Go.RowKit Go.Shelf
attribute [local go_sem] Oper.semAt_some

theorem parts_any (v : Array Value) (w : World) :
    Calls Try.prog 15 #[.agg v] w fun e w' => e = .returned (.func (.func 17) #[] #[.pointer (some ⟨w.heap.size, 0, none⟩)]) ∧ w' = w.alloc (.cells v 25) := by
  go_enter Try.func15, Try.ntmps15
  go_wp2
  go_ret
  exact ⟨rfl, rfl⟩

/-- What a block is: the kind, the group, the place. -/
def gWhat (G S I J b : Int) : Int × Int × Int :=
  if gMay G S I J = false ∨ b < 0 ∨ 2 + J + G * S ≤ b then (0, 0, 0)
  else if b = 0 then (1, 0, 0) else if b = 1 then (2, 0, 0) else if b < 2 + J then (3, 0, b - 2)
  else (if (b - (2 + J)) % S < 1 then 4 else if (b - (2 + J)) % S < 2 then 5 else if (b - (2 + J)) % S < 2 + I / 4 then 6 else 7, (b - (2 + J)) / S, (b - (2 + J)) % S)
def trip (x : Int × Int × Int) : Value := .tuple #[.int .u8 x.1, .int .i64 x.2.1, .int .i64 x.2.2]

theorem below_sets {w w1 : World} {o1 o2 o3 o4 : Obj} (hb : Below ((((w.alloc o1).alloc o2).alloc o3).alloc o4).heap.size ((((w.alloc o1).alloc o2).alloc o3).alloc o4) w1) (a b c : Value) :
    Below w.heap.size w (((w1.setCell ⟨w.heap.size + 1, 0, none⟩ a).setCell ⟨w.heap.size + 2, 0, none⟩ b).setCell ⟨w.heap.size + 3, 0, none⟩ c) := by
  have h0 : Below w.heap.size w w1 := (((((Below.refl _ _).alloc (Nat.le_refl _) _).alloc (by simp) _).alloc (by simp; omega) _).alloc (by simp; omega) _).trans (hb.mono (by simp; omega))
  exact ((h0.setCell (by simp) _).setCell (by simp) _).setCell (by simp) _

set_option maxHeartbeats 1000000 in
theorem what_no (G S I J b : Int) (w : World) (h : gMay G S I J = false) :
    Calls Try.prog 10 #[.agg #[.int .i64 G, .int .i64 S, .int .i64 I, .int .i64 J], .int .i64 b] w fun e w' => e = .returned (trip (0, 0, 0)) ∧ Below w.heap.size w w' := by
  have H := Lib.hid h
  clear h
  go_enter Try.func10, Try.ntmps10
  go_wp2_with fail
  refine (geo_may_no _ _ _ _ _ H.out).mono ?_
  rintro e w1 ⟨rfl, hb⟩
  have HB := Lib.hid (below_sets hb (.int .u8 0) (.int .i64 0) (.int .i64 0))
  obtain ⟨hc, hf⟩ := bcell hb
  have hz := hb.size
  simp only [World.size_alloc] at hz hc hf
  have hz' : w.heap.size + 3 < w1.heap.size := by omega
  go_wp2
  exact bodyPost_ret (v := trip (0, 0, 0)) (by simp [results, Try.results10, go_sem, hc, trip]) rfl ⟨rfl, HB.out⟩
set_option maxHeartbeats 1000000 in
theorem what_out (G S I J b : Int) (w : World) (h : gMay G S I J = true) (hb0 : b < 0 ∨ 2 + J + G * S ≤ b) :
    Calls Try.prog 10 #[.agg #[.int .i64 G, .int .i64 S, .int .i64 I, .int .i64 J], .int .i64 b] w fun e w' => e = .returned (trip (0, 0, 0)) ∧ Below w.heap.size w w' := by
  obtain ⟨h1, h2, h3, h4, h5, h6, h7, h8, h9, h10, h11⟩ := (gMay_iff G S I J).1 h
  obtain ⟨hm0, hm1⟩ := mul_bd G S h1 h2 h3 h4
  have H := Lib.hid h
  clear h h7
  go_enter Try.func10, Try.ntmps10
  go_wp2_with fail
  refine (geo_may_yes _ _ _ _ _ H.out).mono ?_
  rintro e w1 ⟨rfl, hb1⟩
  obtain ⟨hc1, hf1⟩ := bcell hb1
  simp only [World.size_alloc] at hc1 hf1
  go_wp2_with fail
  refine (geo_all _ _ _ _ _ h1 h2 h3 h4 h8 h9).mono ?_
  rintro e w2 ⟨rfl, hb2⟩
  have hb := hb1.trans (hb2.mono hb1.size)
  clear hb1 hb2 hc1 hf1
  go_wp2_with fail
  refine (among_no _ _ _ _ (by omega)).mono ?_
  rintro e w3 ⟨rfl, rfl⟩
  have HB := Lib.hid (below_sets hb (.int .u8 0) (.int .i64 0) (.int .i64 (0)))
  obtain ⟨hc, hf⟩ := bcell hb
  have hz := hb.size
  simp only [World.size_alloc] at hz hc hf
  have hz' : w.heap.size + 3 < w2.heap.size := by omega
  go_wp2
  exact bodyPost_ret (v := trip (0, 0, 0)) (by simp [results, Try.results10, go_sem, hc, trip]) rfl ⟨rfl, HB.out⟩

set_option maxHeartbeats 1000000 in
theorem what_0 (G S I J b : Int) (w : World) (h : gMay G S I J = true) (hb0 : b = 0) :
    Calls Try.prog 10 #[.agg #[.int .i64 G, .int .i64 S, .int .i64 I, .int .i64 J], .int .i64 b] w fun e w' => e = .returned (trip (1, 0, 0)) ∧ Below w.heap.size w w' := by
  obtain ⟨h1, h2, h3, h4, h5, h6, h7, h8, h9, h10, h11⟩ := (gMay_iff G S I J).1 h
  obtain ⟨hm0, hm1⟩ := mul_bd G S h1 h2 h3 h4
  have H := Lib.hid h
  subst hb0
  clear h h7
  go_enter Try.func10, Try.ntmps10
  go_wp2_with fail
  refine (geo_may_yes _ _ _ _ _ H.out).mono ?_
  rintro e w1 ⟨rfl, hb1⟩
  obtain ⟨hc1, hf1⟩ := bcell hb1
  simp only [World.size_alloc] at hc1 hf1
  go_wp2_with fail
  refine (geo_all _ _ _ _ _ h1 h2 h3 h4 h8 h9).mono ?_
  rintro e w2 ⟨rfl, hb2⟩
  have hb := hb1.trans (hb2.mono hb1.size)
  clear hb1 hb2 hc1 hf1
  go_wp2_with fail
  refine (among_yes _ _ _ _ (by omega) (by omega)).mono ?_
  rintro e w3 ⟨rfl, rfl⟩
  have HB := Lib.hid (below_sets hb (.int .u8 1) (.int .i64 0) (.int .i64 (0)))
  obtain ⟨hc, hf⟩ := bcell hb
  have hz := hb.size
  simp only [World.size_alloc] at hz hc hf
  have hz' : w.heap.size + 3 < w2.heap.size := by omega
  go_wp2
  exact bodyPost_ret (v := trip (1, 0, 0)) (by simp [results, Try.results10, go_sem, hc, trip]) rfl ⟨rfl, HB.out⟩

set_option maxHeartbeats 1000000 in
theorem what_1 (G S I J b : Int) (w : World) (h : gMay G S I J = true) (hb0 : b = 1) :
    Calls Try.prog 10 #[.agg #[.int .i64 G, .int .i64 S, .int .i64 I, .int .i64 J], .int .i64 b] w fun e w' => e = .returned (trip (2, 0, 0)) ∧ Below w.heap.size w w' := by
  obtain ⟨h1, h2, h3, h4, h5, h6, h7, h8, h9, h10, h11⟩ := (gMay_iff G S I J).1 h
  obtain ⟨hm0, hm1⟩ := mul_bd G S h1 h2 h3 h4
  have H := Lib.hid h
  subst hb0
  clear h h7
  go_enter Try.func10, Try.ntmps10
  go_wp2_with fail
  refine (geo_may_yes _ _ _ _ _ H.out).mono ?_
  rintro e w1 ⟨rfl, hb1⟩
  obtain ⟨hc1, hf1⟩ := bcell hb1
  simp only [World.size_alloc] at hc1 hf1
  go_wp2_with fail
  refine (geo_all _ _ _ _ _ h1 h2 h3 h4 h8 h9).mono ?_
  rintro e w2 ⟨rfl, hb2⟩
  have hb := hb1.trans (hb2.mono hb1.size)
  clear hb1 hb2 hc1 hf1
  go_wp2_with fail
  refine (among_yes _ _ _ _ (by omega) (by omega)).mono ?_
  rintro e w3 ⟨rfl, rfl⟩
  have HB := Lib.hid (below_sets hb (.int .u8 2) (.int .i64 0) (.int .i64 (0)))
  obtain ⟨hc, hf⟩ := bcell hb
  have hz := hb.size
  simp only [World.size_alloc] at hz hc hf
  have hz' : w.heap.size + 3 < w2.heap.size := by omega
  go_wp2
  exact bodyPost_ret (v := trip (2, 0, 0)) (by simp [results, Try.results10, go_sem, hc, trip]) rfl ⟨rfl, HB.out⟩

set_option maxHeartbeats 1000000 in
theorem what_j (G S I J b : Int) (w : World) (h : gMay G S I J = true) (hb0 : 2 ≤ b) (hb1 : b < 2 + J) :
    Calls Try.prog 10 #[.agg #[.int .i64 G, .int .i64 S, .int .i64 I, .int .i64 J], .int .i64 b] w fun e w' => e = .returned (trip (3, 0, b - 2)) ∧ Below w.heap.size w w' := by
  obtain ⟨h1, h2, h3, h4, h5, h6, h7, h8, h9, h10, h11⟩ := (gMay_iff G S I J).1 h
  obtain ⟨hm0, hm1⟩ := mul_bd G S h1 h2 h3 h4
  have H := Lib.hid h
  have ha : (b == 0) = false := by simp; omega
  have hb' : (b == 1) = false := by simp; omega
  clear h h7
  go_enter Try.func10, Try.ntmps10
  go_wp2_with fail
  refine (geo_may_yes _ _ _ _ _ H.out).mono ?_
  rintro e w1 ⟨rfl, hb1⟩
  obtain ⟨hc1, hf1⟩ := bcell hb1
  simp only [World.size_alloc] at hc1 hf1
  go_wp2_with fail
  refine (geo_all _ _ _ _ _ h1 h2 h3 h4 h8 h9).mono ?_
  rintro e w2 ⟨rfl, hb2⟩
  have hb := hb1.trans (hb2.mono hb1.size)
  clear hb1 hb2 hc1 hf1
  go_wp2_with fail
  refine (among_yes _ _ _ _ (by omega) (by omega)).mono ?_
  rintro e w3 ⟨rfl, rfl⟩
  have HB := Lib.hid (below_sets hb (.int .u8 3) (.int .i64 0) (.int .i64 (b - 2)))
  obtain ⟨hc, hf⟩ := bcell hb
  have hz := hb.size
  simp only [World.size_alloc] at hz hc hf
  have hz' : w.heap.size + 3 < w2.heap.size := by omega
  go_wp2
  exact bodyPost_ret (v := trip (3, 0, b - 2)) (by simp [results, Try.results10, go_sem, hc, trip]) rfl ⟨rfl, HB.out⟩

theorem wp_gen {P : Program} {c : Code} {Q : Exit → Act → World → Prop} {a : Act} {w : World} (Fx : World → Prop) (hf : Fx w) (h : ∀ W, Fx W → c.wp P Q a W) : c.wp P Q a w := h _ hf

theorem what_facts {w w2 : World} {p1 p2 p3 p4 : Obj} (hb : Below ((((w.alloc p1).alloc p2).alloc p3).alloc p4).heap.size ((((w.alloc p1).alloc p2).alloc p3).alloc p4) w2) (o1 o2 o3 : Obj) :
    (((w2.alloc o1).alloc o2).alloc o3).drew.heap[w2.heap.size]? = some o1 ∧ (((w2.alloc o1).alloc o2).alloc o3).drew.heap[w2.heap.size + 1]? = some o2 ∧ (((w2.alloc o1).alloc o2).alloc o3).drew.heap[w2.heap.size + 2]? = some o3 ∧
    (∀ (k : Nat), k < w2.heap.size → (((w2.alloc o1).alloc o2).alloc o3).drew.heap[k]? = w2.heap[k]?) ∧ (((w2.alloc o1).alloc o2).alloc o3).drew.heap.size = w2.heap.size + 3 ∧ Below w.heap.size w (((w2.alloc o1).alloc o2).alloc o3).drew := by
  have h0 : Below w.heap.size w w2 := (((((Below.refl _ _).alloc (Nat.le_refl _) _).alloc (by simp) _).alloc (by simp; omega) _).alloc (by simp; omega) _).trans (hb.mono (by simp; omega))
  have hz := h0.size
  have s1 : (w2.alloc o1).heap.size = w2.heap.size + 1 := by simp
  have s2 : ((w2.alloc o1).alloc o2).heap.size = w2.heap.size + 2 := by simp
  refine ⟨?_, ?_, ?_, ?_, ?_, ?_⟩
  · exact (Below.heap_alloc _ _ _ (by omega)).trans ((Below.heap_alloc _ _ _ (by omega)).trans (heap_alloc_new _ _))
  · exact (Below.heap_alloc _ _ _ (by omega)).trans (by have := heap_alloc_new (w2.alloc o1) o2; rwa [s1] at this)
  · have := heap_alloc_new ((w2.alloc o1).alloc o2) o3; rwa [s2] at this
  · intro k hk; exact (Below.heap_alloc _ _ _ (by omega)).trans ((Below.heap_alloc _ _ _ (by omega)).trans (Below.heap_alloc _ _ _ hk))
  · show (((w2.heap.push o1).push o2).push o3).size = _; simp
  · exact (((h0.alloc (by omega) _).alloc (by simp; omega) _).alloc (by simp; omega) _).drew

theorem what_val (G S q J c : Int) (j : Nat) (h : gMay G S (4 * q) J = true) (hj : j ≤ 3) (hb0 : 2 + J ≤ c + (2 + J)) (hb1 : c + (2 + J) < 2 + J + G * S) (_hq0 : 0 ≤ q) (hJ : 0 ≤ J)
    (h3 : ∀ j', j' < j → (prt q S j').2.1 ≤ c % S) (h4 : c % S < (prt q S j).2.1) : gWhat G S (4 * q) J (c + (2 + J)) = ((prt q S j).2.2, c / S, c % S) := by
  have e : c + (2 + J) - (2 + J) = c := by omega
  have eq4 : 4 * q / 4 = q := by omega
  unfold gWhat
  rw [if_neg (by rw [h]; simp; omega), if_neg (by omega), if_neg (by omega), if_neg (by omega), e, eq4]
  have hr0 : 0 ≤ c % S ∨ S = 0 := by
    by_cases e : S = 0
    · exact .inr e
    · exact .inl (Int.emod_nonneg _ e)
  obtain rfl | rfl | rfl | rfl : j = 0 ∨ j = 1 ∨ j = 2 ∨ j = 3 := by omega
  · simp only [prt] at h4 ⊢; rw [if_pos (by omega)]
  · have a := h3 0 (by omega); simp only [prt] at a h4 ⊢; rw [if_neg (by omega), if_pos (by omega)]
  · have a := h3 0 (by omega); have b := h3 1 (by omega); simp only [prt] at a b h4 ⊢; rw [if_neg (by omega), if_neg (by omega), if_pos (by omega)]
  · have a := h3 0 (by omega); have b := h3 1 (by omega); have d := h3 2 (by omega); simp only [prt] at a b d h4 ⊢; rw [if_neg (by omega), if_neg (by omega), if_neg (by omega)]

theorem what_keep1 {Z : World} {B : Nat} (a b c : Nat) (x y z : Value) :
    KeepsFrom B Z (((Z.setCell ⟨a, 0, none⟩ x).setCell ⟨b, 0, none⟩ y).setCell ⟨c, 0, none⟩ z).drew :=
  ((((KeepsOthers.setCell _ _ _).trans (KeepsOthers.setCell _ _ _)).trans (KeepsOthers.setCell _ _ _)).trans (KeepsOthers.drew _)).from _

theorem what_keep2 {w Z : World} {x y z x' y' z' : Value} {t u v : TypeId} (h1 : Z.heap[w.heap.size + 1]? = some (.cells #[x] t (0, 0))) (h2 : Z.heap[w.heap.size + 2]? = some (.cells #[y] u (0, 0))) (h3 : Z.heap[w.heap.size + 3]? = some (.cells #[z] v (0, 0)))
    (hb : Below w.heap.size w Z) :
    (((Z.setCell ⟨w.heap.size + 1, 0, none⟩ x').setCell ⟨w.heap.size + 2, 0, none⟩ y').setCell ⟨w.heap.size + 3, 0, none⟩ z').drew.heap[w.heap.size + 1]? = some (.cells #[x'] t (0, 0)) ∧
    (((Z.setCell ⟨w.heap.size + 1, 0, none⟩ x').setCell ⟨w.heap.size + 2, 0, none⟩ y').setCell ⟨w.heap.size + 3, 0, none⟩ z').drew.heap[w.heap.size + 2]? = some (.cells #[y'] u (0, 0)) ∧
    (((Z.setCell ⟨w.heap.size + 1, 0, none⟩ x').setCell ⟨w.heap.size + 2, 0, none⟩ y').setCell ⟨w.heap.size + 3, 0, none⟩ z').drew.heap[w.heap.size + 3]? = some (.cells #[z'] v (0, 0)) ∧
    Below w.heap.size w (((Z.setCell ⟨w.heap.size + 1, 0, none⟩ x').setCell ⟨w.heap.size + 2, 0, none⟩ y').setCell ⟨w.heap.size + 3, 0, none⟩ z').drew := by
  refine ⟨?_, ?_, ?_, ((((hb.setCell (by simp) _).setCell (by simp) _).setCell (by simp) _)).drew⟩
  · show ((((Z.setCell _ _).setCell _ _).setCell _ _).heap[_]?) = _
    rw [Below.heap_setCell _ _ _ _ (by simp), Below.heap_setCell _ _ _ _ (by simp)]
    exact heap_setCell_same _ _ 0 _ _ _ h1
  · show ((((Z.setCell _ _).setCell _ _).setCell _ _).heap[_]?) = _
    rw [Below.heap_setCell _ _ _ _ (by simp)]
    exact heap_setCell_same _ _ 0 _ _ _ ((Below.heap_setCell _ _ _ _ (by simp)).trans h2)
  · exact heap_setCell_same _ _ 0 _ _ _ ((Below.heap_setCell _ _ _ _ (by simp)).trans ((Below.heap_setCell _ _ _ _ (by simp)).trans h3))

theorem what_old {w w2 : World} {p1 p2 p3 p4 : Obj} (hb : Below ((((w.alloc p1).alloc p2).alloc p3).alloc p4).heap.size ((((w.alloc p1).alloc p2).alloc p3).alloc p4) w2) :
    w2.heap[w.heap.size + 1]? = some p2 ∧ w2.heap[w.heap.size + 2]? = some p3 ∧ w2.heap[w.heap.size + 3]? = some p4 := by
  have e : ∀ (k : Nat), k < w.heap.size + 4 → w2.heap[k]? = ((((w.heap.push p1).push p2).push p3).push p4)[k]? := fun k hk => hb.block k (by simp; omega)
  refine ⟨?_, ?_, ?_⟩
  · rw [e _ (by omega)]; simp only [Array.getElem?_push, Array.size_push]; rw [if_neg (by omega), if_neg (by omega), if_pos trivial]
  · rw [e _ (by omega)]; simp only [Array.getElem?_push, Array.size_push]; rw [if_neg (by omega), if_pos trivial]
  · rw [e _ (by omega)]; simp only [Array.getElem?_push, Array.size_push]; rw [if_pos trivial]

set_option maxHeartbeats 1000000 in
theorem what_g (G S I J b : Int) (w : World) (h : gMay G S I J = true) (hb0 : 2 + J ≤ b) (hb1 : b < 2 + J + G * S) :
    Calls Try.prog 10 #[.agg #[.int .i64 G, .int .i64 S, .int .i64 I, .int .i64 J], .int .i64 b] w fun e w' => e = .returned (trip (gWhat G S I J b)) ∧ Below w.heap.size w w' := by
  obtain ⟨h1, h2, h3, h4, h5, h6, h7, h8, h9, h10, h11⟩ := (gMay_iff G S I J).1 h
  obtain ⟨hm0, hm1⟩ := mul_bd G S h1 h2 h3 h4
  have H := Lib.hid h
  have ha : (b == 0) = false := by simp; omega
  have hb' : (b == 1) = false := by simp; omega
  obtain ⟨q, rfl⟩ : ∃ q : Int, I = 4 * q := ⟨I / 4, by omega⟩
  clear h h7
  refine calls_marks Try.func10 rfl ?_
  simp only [Try.ntmps10, List.size_toArray, List.length_cons, List.length_nil, Nat.reduceAdd, Nat.reduceSub, Array.replicate_succ, Array.replicate_zero, List.push_toArray, List.append_toArray, List.nil_append, List.cons_append]
  go_wp2_with fail
  refine (geo_may_yes _ _ _ _ _ H.out).mono ?_
  rintro e w1 ⟨rfl, hb1⟩
  obtain ⟨hc1, hf1⟩ := bcell hb1
  simp only [World.size_alloc] at hc1 hf1
  go_wp2_with fail
  refine (geo_all _ _ _ _ _ h1 h2 h3 h4 h8 h9).mono ?_
  rintro e w2 ⟨rfl, hb2⟩
  have hb := hb1.trans (hb2.mono hb1.size)
  clear hb1 hb2 hc1 hf1
  go_wp2_with fail
  refine (among_yes _ _ _ _ (by omega) (by omega)).mono ?_
  rintro e w3 ⟨rfl, rfl⟩
  obtain ⟨hc, hf⟩ := bcell hb
  have hz := hb.size
  simp only [World.size_alloc] at hz hc hf
  have hz' : w.heap.size + 3 < w2.heap.size := by omega
  obtain ⟨c, rfl⟩ : ∃ c, b = c + (2 + J) := ⟨b - (2 + J), by omega⟩
  have hc0 : 0 ≤ c := by omega
  have hq1 : 1 ≤ S := by omega
  have cg0 : w2.cell? ⟨w.heap.size, 0, none⟩ = some (.int .i64 G) := by simp [hc, go_sem]
  have cg2 : w2.cell? ⟨w.heap.size, 2, none⟩ = some (.int .i64 (4 * q)) := by simp [hc, go_sem]
  have cg3 : w2.cell? ⟨w.heap.size, 3, none⟩ = some (.int .i64 J) := by simp [hc, go_sem]
  have cg1 : w2.cell? ⟨w.heap.size, 1, none⟩ = some (.int .i64 S) := by simp [hc, go_sem]
  have hz0 : w.heap.size < w2.heap.size := by omega
  have hnn := World.new_ne w2 ⟨w.heap.size, 1, none⟩ cg1
  have hS0 : ¬ S = 0 := by omega
  have hS1 : (S == 0) = false := by simp; omega
  have hwq : c.tdiv S = c / S := Int.tdiv_eq_ediv_of_nonneg hc0
  have hwr : c.tmod S = c % S := Int.tmod_eq_emod_of_nonneg hc0
  have hqb : 0 ≤ c / S ∧ c / S ≤ c := ⟨Int.ediv_nonneg hc0 (by omega), Int.ediv_le_self _ hc0⟩
  have hrb : 0 ≤ c % S ∧ c % S < S := ⟨Int.emod_nonneg _ hS0, Int.emod_lt_of_pos _ (by omega)⟩
  have hww : IntKind.i64.wrap (c / S) = c / S := IntWalk.i64_in _ (by omega)
  have hwr2 : IntKind.i64.wrap (c % S) = c % S := IntWalk.i64_in _ (by omega)
  have HQR := Lib.hid (And.intro hqb hrb)
  have HB := Lib.hid hb
  have HR := Lib.hid (what_old hb)
  have Hz := Lib.hid hz'
  have HS16 := Lib.hid h3
  have HM := Lib.hid (And.intro h1 (And.intro h2 (And.intro h4 (And.intro h8 (And.intro h9 (And.intro h11 (And.intro hm0 (And.intro hm1 (And.intro h5 (And.intro h6 (And.intro h10 (And.intro hb0 hb1))))))))))))
  go_wp2
  clear hb hc hf h1 h2 h4 h8 h9 h11 hm0 hm1 h5 h6 h10 hb0 hb1 ha hb' hz hz' h3 hqb hrb
  go_region_held3 (fun w' => w'.cell? ⟨w.heap.size, 1, none⟩ = some (.int .i64 S)) (first | go_keep) (fail)
  all_goals
    go_wp2_with fail
    refine (parts_any _ _).mono ?_
    rintro e w4 ⟨rfl, rfl⟩
    go_wp2_with fail
    first
      | (refine wp_gen (fun W => W.heap[w2.heap.size]? = some (.cells #[.int .i64 (c / S)] 3 (0, 0)) ∧ W.heap[w2.heap.size + 1]? = some (.cells #[.int .i64 (c % S)] 3 (0, 0)) ∧ W.heap[w2.heap.size + 2]? = some (.cells #[.int .i64 G, .int .i64 S, .int .i64 (4 * q), .int .i64 J] 25 (0, 0)) ∧ (∀ k, k < w2.heap.size → W.heap[k]? = w2.heap[k]?) ∧ W.heap.size = w2.heap.size + 3 ∧ Below w.heap.size w W) (what_facts HB.out _ _ _) ?_)
      | (refine wp_gen (fun W => W.heap[w2.heap.size + 1]? = some (.cells #[.int .i64 (c / S)] 3 (0, 0)) ∧ W.heap[w2.heap.size]? = some (.cells #[.int .i64 (c % S)] 3 (0, 0)) ∧ W.heap[w2.heap.size + 2]? = some (.cells #[.int .i64 G, .int .i64 S, .int .i64 (4 * q), .int .i64 J] 25 (0, 0)) ∧ (∀ k, k < w2.heap.size → W.heap[k]? = w2.heap[k]?) ∧ W.heap.size = w2.heap.size + 3 ∧ Below w.heap.size w W) (by obtain ⟨x1, x2, x3⟩ := what_facts HB.out (.cells #[.int .i64 (c % S)] 3 (0, 0)) (.cells #[.int .i64 (c / S)] 3 (0, 0)) (.cells #[.int .i64 G, .int .i64 S, .int .i64 (4 * q), .int .i64 J] 25 (0, 0)); exact ⟨x2, x1, x3⟩) ?_)
    rintro W ⟨F7, F8, Fg, Fold, Fsz, FB⟩
    have hz4 : w.heap.size + 3 < w2.heap.size := Hz.out
    have R1 : W.heap[w.heap.size + 1]? = some (.cells #[.int .u8 0] 5 (0, 0)) := by rw [Fold _ (by omega)]; exact HR.out.1
    have R2 : W.heap[w.heap.size + 2]? = some (.cells #[.int .i64 0] 3 (0, 0)) := by rw [Fold _ (by omega)]; exact HR.out.2.1
    have R3 : W.heap[w.heap.size + 3]? = some (.cells #[.int .i64 0] 3 (0, 0)) := by rw [Fold _ (by omega)]; exact HR.out.2.2
    obtain ⟨⟨q0, q1⟩, r0, r1⟩ := HQR.out
    obtain ⟨m1, m2, m4, m8, m9, m11, mm0, mm1, m5, m6, m10, mb0, mb1⟩ := HM.out
    have hq0 : 0 ≤ q := by omega
    have hq16 : q ≤ 16 := by omega
    have hS16 : 16 ≤ S := HS16.out
    clear cg0 cg1 cg2 cg3 hnn hz0
    refine wp_range (gf := 17) (lb := #[.pointer (some ⟨w2.heap.size + 2, 0, none⟩)]) (encs := prtV q S) (N := 4) (B := W.heap.size)
      (I := fun i Y => (∀ j, j < i → (prt q S j).2.1 ≤ c % S) ∧ (W.heap.size ≤ Y.heap.size ∧ ∀ k, k < W.heap.size → Y.heap[k]? = W.heap[k]?) ∧ Below w.heap.size w Y)
      (Ix := fun cd i Y => cd = .ret ∧ ∃ j, i = j + 1 ∧ (∀ j', j' < j → (prt q S j').2.1 ≤ c % S) ∧ c % S < (prt q S j).2.1 ∧ Y.heap[w.heap.size + 1]? = some (.cells #[.int .u8 (prt q S j).2.2] 5 (0, 0)) ∧
        Y.heap[w.heap.size + 2]? = some (.cells #[.int .i64 (c / S)] 3 (0, 0)) ∧ Y.heap[w.heap.size + 3]? = some (.cells #[.int .i64 (c % S)] 3 (0, 0)) ∧ Below w.heap.size w Y)
      rfl (enters_of Try.func17 (by kernel_rfl) rfl) (parts_iter (w2.heap.size + 2) G S q J hq0 hq16 hS16 m4) (fun _ => rfl) (Nat.le_refl _) (fun X Y h => h.sameC _) (fun X Y Z h k => h.trans k)
      (fun Y h => h.cells Fg) ?_ ?_ ?_ ?_ ?_ ?_ ?_ ?_ ?_
    · skip
      rintro i X Y ⟨h1, ⟨hz5, h2⟩, h3⟩ hbk
      refine ⟨h1, ⟨Nat.le_trans hz5 hbk.size, ?_⟩, hbk.below (Nat.le_refl _) (by omega) h3⟩
      intro k hk
      have hlt : k < X.heap.size := by omega
      rcases hbk.same k hlt with e | ⟨e, _⟩
      · rw [e]; exact h2 k hk
      · omega
    · rintro i X Y h rfl; exact h
    · skip
      rintro cd i X Y ⟨h1, j, h2, h3, h4, h5, h6, h7, h8⟩ hbk
      exact ⟨h1, j, h2, h3, h4, hbk.cells h5, hbk.cells h6, hbk.cells h7, hbk.below (Nat.le_refl _) (by omega) h8⟩
    · rintro cd i X Y h rfl; exact h
    · rintro X Y rfl; exact KeepsFrom.refl _ _
    · exact ⟨fun j hj => by omega, ⟨Nat.le_refl _, fun _ _ => rfl⟩, FB⟩
    · intro L i X m hi ⟨h1, ⟨hz5, h2⟩, h3⟩
      simp only [prtV]
      gi_wp2
      refine ⟨(KeepsOthers.alloc _ _).from _, (SameC.refl _ _).alloc _, ?_⟩
      intro Z hbk
      have old : ∀ k, k < W.heap.size → ∀ cs t fr, W.heap[k]? = some (.cells cs t fr) → Z.heap[k]? = some (.cells cs t fr) := fun k hk cs t fr e => hbk.cells ((Below.heap_alloc _ _ _ (by omega)).trans ((h2 k hk).trans e))
      have zp := hbk.cells (heap_alloc_new X (.cells #[.int .i64 (prt q S i).1, .int .i64 (prt q S i).2.1, .int .u8 (prt q S i).2.2] 36))
      have p1 := (cell_of_row Z _ 1 _ _ _ zp).trans (show _ = some (.int .i64 (prt q S i).2.1) from rfl)
      have p2 := (cell_of_row Z _ 2 _ _ _ zp).trans (show _ = some (.int .u8 (prt q S i).2.2) from rfl)
      have c7 := (cell_of_row Z _ 0 _ _ _ (old _ (by omega) _ _ _ F7)).trans (show _ = some (.int .i64 (c / S)) from rfl)
      have c8 := (cell_of_row Z _ 0 _ _ _ (old _ (by omega) _ _ _ F8)).trans (show _ = some (.int .i64 (c % S)) from rfl)
      have z1 := old _ (by omega) _ _ _ R1
      have z2 := old _ (by omega) _ _ _ R2
      have z3 := old _ (by omega) _ _ _ R3
      have k1 := (cell_of_row Z _ 0 _ _ _ z1).trans (show _ = some (.int .u8 0) from rfl)
      have k2 := (cell_of_row Z _ 0 _ _ _ z2).trans (show _ = some (.int .i64 0) from rfl)
      have k3 := (cell_of_row Z _ 0 _ _ _ z3).trans (show _ = some (.int .i64 0) from rfl)
      have f1 := frozen_of_row Z _ 0 _ _ z1
      have f2 := frozen_of_row Z _ 0 _ _ z2
      have f3 := frozen_of_row Z _ 0 _ _ z3
      have hZ : Below w.heap.size w Z := hbk.below (Nat.le_refl _) (by omega) (h3.alloc (by omega) _)
      have Z1 := Lib.hid z1
      have Z2 := Lib.hid z2
      have Z3 := Lib.hid z3
      have HZ := Lib.hid hZ
      have HX := Lib.hid (And.intro hz5 h2)
      have Hbk := Lib.hid hbk
      clear zp z1 z2 z3 hZ old F7 F8 Fg Fold FB R1 R2 R3 h2 h3 hbk HB HR hwq hwr hww hwr2
      by_cases hlt : c % S < (prt q S i).2.1
      · gi_wp2
        gi_region
        all_goals gi_wp2
        all_goals exact ⟨what_keep1 _ _ _ _ _ _, rfl, i, rfl, h1, hlt, what_keep2 Z1.out Z2.out Z3.out HZ.out⟩
      · gi_wp2
        exact ⟨KeepsFrom.refl _ _, SameC.refl _ _, fun j hj => by
            by_cases e : j < i
            · exact h1 j e
            · obtain rfl : j = i := by omega
              omega, ⟨(by have := Hbk.out.size; have := HX.out.1; simp at *; omega), fun k hk => by
            rcases Hbk.out.same k (by have := HX.out.1; simp; omega) with e | ⟨e, _⟩
            · rw [e, Below.heap_alloc _ _ _ (by have := HX.out.1; omega)]; exact HX.out.2 k (by omega)
            · omega⟩, HZ.out⟩
    · rintro D Y hD ⟨h1, _⟩ hdef
      have := h1 3 (by omega)
      simp only [prt] at this
      omega
    · rintro D cd i Y hD hi ⟨rfl, j, rfl, h3, h4, h5, h6, h7, h8⟩ hdef
      have hlt3 : w.heap.size + 3 < D := by omega
      have e1 : (Y.putObj D (.deferred none)).heap[w.heap.size + 1]? = _ := (World.putObj_heap_other (by omega)).trans h5
      have e2 : (Y.putObj D (.deferred none)).heap[w.heap.size + 2]? = _ := (World.putObj_heap_other (by omega)).trans h6
      have e3 : (Y.putObj D (.deferred none)).heap[w.heap.size + 3]? = _ := (World.putObj_heap_other (by omega)).trans h7
      have k1 := (cell_of_row _ _ 0 _ _ _ e1).trans (show _ = some (.int .u8 (prt q S j).2.2) from rfl)
      have k2 := (cell_of_row _ _ 0 _ _ _ e2).trans (show _ = some (.int .i64 (c / S)) from rfl)
      have k3 := (cell_of_row _ _ 0 _ _ _ e3).trans (show _ = some (.int .i64 (c % S)) from rfl)
      have hw := what_val G S q J c j H.out (by omega) mb0 mb1 hq0 (by omega) h3 h4
      refine wp_ret ?_
      refine leaves_mark rfl hdef (v := trip (gWhat G S (4 * q) J (c + (2 + J)))) ?_ ⟨rfl, ?_⟩
      · rw [hw]
        simp [results, Try.results10, go_sem, k1, k2, k3, trip]
      · exact h8.trans ⟨rfl, rfl, rfl, by simp, fun k hk => World.putObj_heap_other (by omega)⟩
end Go.Proofs.Ytaiggaelnaaoaaa
