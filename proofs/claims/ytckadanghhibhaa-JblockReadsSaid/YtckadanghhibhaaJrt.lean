/- Lists are read: tags. -/
import Derived.Test.YtckadanghhibhaaJrn
namespace Go.Proofs.Ytckadanghhibhaa
open Go.RowKit

def encT (l : List (Int × Bool)) : Array Value := (l.flatMap fun x => [Value.int .u32 x.1, .bool x.2]).toArray
def tagAt (bs : List UInt8) (i : Nat) : Int × Bool := (get32 bs (16 + 8 * i), decide (get32 bs (16 + 8 * i + 4) = 1))
def tagsOf (bs : List UInt8) (n : Nat) : List (Int × Bool) := (List.range n).map (tagAt bs)
theorem tagsOf_len (bs : List UInt8) (n : Nat) : (tagsOf bs n).length = n := by simp [tagsOf]
theorem tagsOf_get (bs : List UInt8) (n k : Nat) (h : k < n) : (tagsOf bs n).getD k (0, false) = tagAt bs k := by simp [tagsOf, h]
theorem tagsOf_bd (bs : List UInt8) (n k : Nat) : 0 ≤ ((tagsOf bs n).getD k (0, false)).1 ∧ ((tagsOf bs n).getD k (0, false)).1 < 4294967296 := by
  by_cases h : k < n
  · rw [tagsOf_get _ _ _ h]; exact get32_bd _ _
  · simp [tagsOf, h]

def rDesc (bs : List UInt8) : Option (Int × List (Int × Bool)) :=
  if (kindB bs).1 = 1 ∧ get32 bs 12 ≤ 30 ∧ wDesc (kindB bs).2 (tagsOf bs (get32 bs 12).toNat) = some bs then some ((kindB bs).2, tagsOf bs (get32 bs 12).toNat) else none
def GotT (e : Ending) (w w' : World) : Option (Int × List (Int × Bool)) → Prop
  | none => e = .returned (.tuple #[.int .u32 0, .slice none 0 0, .int .i64 90])
  | some (s, l) => ∃ L, w.heap.size ≤ L ∧ w'.heap[L]? = some (.cells (encT l) 55 (0, 0)) ∧ e = .returned (.tuple #[.int .u32 s, .slice (some ⟨L, 0, none⟩) l.length l.length, .int .i64 0])

theorem encT_size (l : List (Int × Bool)) : (encT l).size = l.length * 2 := by
  unfold encT
  rw [List.size_toArray]
  induction l with
  | nil => rfl
  | cons a l ih => rw [List.flatMap_cons, List.length_append, ih]; simp; omega
theorem encT_get : ∀ (l : List (Int × Bool)) (j : Nat), j < l.length → (encT l)[j * 2]? = some (.int .u32 (l.getD j (0, false)).1) ∧ (encT l)[j * 2 + 1]? = some (.bool (l.getD j (0, false)).2)
  | [], j, h => by simp at h
  | a :: l, 0, _ => ⟨rfl, rfl⟩
  | a :: l, j + 1, h => by
    obtain ⟨e1, e2⟩ := encT_get l j (by simpa using h)
    unfold encT at e1 e2 ⊢
    simp only [List.getElem?_toArray, List.flatMap_cons] at e1 e2 ⊢
    rw [show (j + 1) * 2 = j * 2 + 2 by omega]
    exact ⟨e1, e2⟩
theorem row_encT {w : World} {L n : Nat} {t : TypeId} {f : Nat → Value} {l : List (Int × Bool)} (h : w.rowIs L t (n * 2) f) (hn : l.length = n) (hf : ∀ j, j < n → f (j * 2) = .int .u32 (l.getD j (0, false)).1 ∧ f (j * 2 + 1) = .bool (l.getD j (0, false)).2) : w.heap[L]? = some (.cells (encT l) t (0, 0)) := by
  obtain ⟨c, hb, hs, hc⟩ := h
  rw [hb]
  congr 2
  apply Array.ext
  · rw [hs, encT_size, hn]
  · intro i h1 h2
    have e := hc i (by omega)
    have hj : i / 2 < n := by omega
    obtain ⟨f1, f2⟩ := hf (i / 2) hj
    obtain ⟨g1, g2⟩ := encT_get l (i / 2) (by omega)
    rw [Array.getElem?_eq_getElem h1] at e
    rcases Nat.mod_two_eq_zero_or_one i with hm | hm
    · rw [show i / 2 * 2 = i by omega] at f1 g1
      rw [f1, ← g1, Array.getElem?_eq_getElem h2] at e
      exact Option.some.inj e
    · rw [show i / 2 * 2 + 1 = i by omega] at f2 g2
      rw [f2, ← g2, Array.getElem?_eq_getElem h2] at e
      exact Option.some.inj e

theorem tags2 (B p : Nat) (at_ : Int) (bs : List UInt8) (E : TypeId) (w : World) (hB : w.heap[B]? = some (.cells (encB bs) E (0, 0))) (hl : bs.length = 256) (he : at_ = (p : Int)) (h1 : p + 8 ≤ 256) :
    Calls Try.prog 54 #[.pointer (some ⟨B, 0, none⟩), .int .i64 at_] w fun e' w' => e' = .returned (.agg #[.int .u32 (get32 bs p), .bool (decide (get32 bs (p + 4) = 1))]) ∧ Mod none' w w' := by
  subst he
  have hBs := lt_of_row hB
  have hadd : IntKind.i64.wrap ((p : Int) + 4) = (p : Int) + 4 := IntWalk.i64_in _ (by omega)
  have HE : Hid ((p : Int) + 4 = ((p + 4 : Nat) : Int)) := by show _ = _; omega
  obtain ⟨x, hx⟩ : ∃ x, get32 bs p = x := ⟨_, rfl⟩
  obtain ⟨y, hy⟩ : ∃ x, get32 bs (p + 4) = x := ⟨_, rfl⟩
  have HX := Lib.hid hx
  have HY := Lib.hid hy
  have HB := Lib.hid ((Below.heap_alloc w (.cells #[.int .u32 0, .bool false] 55) _ hBs).trans hB)
  have M0 : Mod none' w (w.alloc (.cells #[.int .u32 0, .bool false] 55)) := (Mod.refl _ _).alloc _
  rw [hx, hy]
  clear hx hy hB
  go_enter Try.func54, Try.ntmps54
  go_wp2_with fail
  refine (jget_at _ p _ bs _ _ HB.out hl rfl (by omega)).mono ?_
  rintro e w2 ⟨rfl, rfl⟩
  rw [HX.out]
  go_wp2_with fail
  refine (jget_at _ (p + 4) _ bs _ _ HB.out hl HE.out (by omega)).mono ?_
  rintro e w2 ⟨rfl, rfl⟩
  rw [HY.out]
  go_wp2
  refine bodyPost_ret (results_cell_row rfl _ _ w.heap.size _ _ _ _ rfl (heap_alloc_new w _) Try.underlying55 rfl (by kernel_rfl)) rfl ⟨?_, (Mod.refl _ _).alloc _⟩
  rw [show (y == 1) = decide (y = 1) by rw [Bool.eq_iff_iff]; simp]

theorem infoTag : (Try.prog.info? 55 ).map (fun i => (i.zero, i.size, i.bytes)) = some (some (.agg #[.int .u32 0, .bool false]), 2, 8) := by kernel_rfl

set_option maxRecDepth 100000 in
set_option maxHeartbeats 4000000 in
theorem jreadT (bs : List UInt8) (hl : bs.length = 256) (w : World) :
    Calls Try.prog 51 #[.int .u8 1, .agg (encB bs), .agg tagsV] w fun e w' => GotT e w w' (rDesc bs) ∧ Mod none' w w' := by
  obtain ⟨RB, RR, M0⟩ := two_new w (.cells (encB bs) 28) (.cells tagsV 80)
  have HB := Lib.hid RB
  have HRr := Lib.hid RR
  clear RB RR
  have q0 : tagsV[0]? = some (.int .i64 8) := rfl
  have q1 : tagsV[1]? = some (.int .i64 30) := rfl
  have q2 : tagsV[2]? = some (.func (.func 53) #[] #[]) := rfl
  have q3 : tagsV[3]? = some (.func (.func 54) #[] #[]) := rfl
  have q4 : tagsV[4]? = some (.func (.func 55) #[] #[]) := rfl
  obtain ⟨kp, hk⟩ : ∃ k, kindB bs = k := ⟨_, rfl⟩
  obtain ⟨s0, s1⟩ := kindB_bd bs
  obtain ⟨c0, c1⟩ := get32_bd bs 12
  have HR : Hid (rDesc bs = if (kindB bs).1 = 1 ∧ get32 bs 12 ≤ 30 ∧ wDesc (kindB bs).2 (tagsOf bs (get32 bs 12).toNat) = some bs then some ((kindB bs).2, tagsOf bs (get32 bs 12).toNat) else none) := rfl
  rw [hk] at s0 s1 HR
  obtain ⟨k, s⟩ := kp
  obtain ⟨c, hc⟩ : ∃ c, get32 bs 12 = c := ⟨_, rfl⟩
  simp only at s0 s1 HR
  rw [hc] at c0 c1 HR
  have E1 : Hid (resK (kindB bs) = .tuple #[.int .u8 k, .int .u32 s]) := by show _ = _; rw [hk]; rfl
  have E2 := Lib.hid hc
  clear hk hc
  obtain ⟨n, rfl⟩ : ∃ n : Nat, c = n := ⟨c.toNat, by omega⟩
  have hwc : IntKind.i64.wrap (n : Int) = (n : Int) := IntWalk.i64_in _ (by omega)
  rw [Int.toNat_natCast] at HR
  by_cases hk3 : k = 1
  rotate_left
  · have HR2 : Hid (rDesc bs = none) := by show _ = _; rw [HR.out, if_neg (fun h => hk3 h.1)]
    go_enter Try.func51, Try.ntmps51
    go_wp2_with (first | ((with_reducible refine wpList_loadBg blkT ?_ ?_ hl HB.out ?_); rfl; rfl))
    refine (jkind bs hl _).mono ?_
    rintro e w1 ⟨rfl, hm⟩
    rw [E1.out]
    have M1 := M0.trans hm
    have HB := Lib.hid (hm.row (k := w.heap.size) HB.out (fun e => e))
    have HRr := Lib.hid (hm.row (k := w.heap.size + 1) HRr.out (fun e => e))
    have r1 := (cell_of_row _ _ 1 _ _ _ HRr.out).trans q1
    clear hm M0
    go_wp2_with (first | (go_at_call 46; refine (jget_at _ 12 _ bs _ _ HB.out hl (by decide) (by decide)).mono ?_; rintro e w' ⟨rfl, rfl⟩; rw [E2.out]))
    go_ret3
    exact ⟨by rw [HR2.out]; rfl, M1⟩
  subst hk3
  by_cases hn60 : n ≤ 30
  rotate_left
  · have HR2 : Hid (rDesc bs = none) := by show _ = _; rw [HR.out, if_neg (fun h => by omega)]
    have hI : (30 : Int) < (n : Int) := by omega
    go_enter Try.func51, Try.ntmps51
    go_wp2_with (first | ((with_reducible refine wpList_loadBg blkT ?_ ?_ hl HB.out ?_); rfl; rfl))
    refine (jkind bs hl _).mono ?_
    rintro e w1 ⟨rfl, hm⟩
    rw [E1.out]
    have M1 := M0.trans hm
    have HB := Lib.hid (hm.row (k := w.heap.size) HB.out (fun e => e))
    have HRr := Lib.hid (hm.row (k := w.heap.size + 1) HRr.out (fun e => e))
    have r1 := (cell_of_row _ _ 1 _ _ _ HRr.out).trans q1
    clear hm M0
    go_wp2_with (first | (go_at_call 46; refine (jget_at _ 12 _ bs _ _ HB.out hl (by decide) (by decide)).mono ?_; rintro e w' ⟨rfl, rfl⟩; rw [E2.out]))
    go_ret3
    exact ⟨by rw [HR2.out]; rfl, M1⟩
  go_enter Try.func51, Try.ntmps51
  go_wp2_with (first | ((with_reducible refine wpList_loadBg blkT ?_ ?_ hl HB.out ?_); rfl; rfl))
  refine (jkind bs hl _).mono ?_
  rintro e w1 ⟨rfl, hm⟩
  rw [E1.out]
  have M1 := M0.trans hm
  have HB := Lib.hid (hm.row (k := w.heap.size) HB.out (fun e => e))
  have HRr := Lib.hid (hm.row (k := w.heap.size + 1) HRr.out (fun e => e))
  have r1 := (cell_of_row _ _ 1 _ _ _ HRr.out).trans q1
  clear hm M0
  go_wp2_with fail
  refine (jget_at _ 12 _ bs _ _ HB.out hl (by decide) (by decide)).mono ?_
  rintro e w' ⟨rfl, rfl⟩
  rw [E2.out]
  have hdd : decide ((30 : Int) < (n : Int)) = false := decide_eq_false (by omega)
  have HN60 := Lib.hid hn60
  clear hn60
  go_wp2_with (first | (at_make; (refine wpList_makeC _ rfl _ _ 25 rfl 55 (.agg #[.int .u32 0, .bool false]) 2 8 Try.underlying25 infoTag .i64 .i64 n rfl rfl (by have := HN60.out; omega) (by have := HN60.out; omega) ?_)))
  have hz1 : w.heap.size + 1 < w1.heap.size := lt_of_row HRr.out
  clear r1
  go_loopw [13, 36] (fun v13 i wr => ∃ k : Nat, k ≤ n ∧ i = .int .i64 k ∧ Mod none' w wr ∧ wr.heap[w.heap.size]? = some (.cells (encB bs) 28 (0, 0)) ∧ wr.heap[w.heap.size + 1]? = some (.cells tagsV 80 (0, 0)) ∧ ∃ f, wr.rowIs w1.heap.size 55 (n * 2) f ∧ ∀ j, j < k → f (j * 2) = .int .u32 (tagAt bs j).1 ∧ f (j * 2 + 1) = .bool (tagAt bs j).2) (fun _ i _ => n - (intOf i).toNat)
  case atStart =>
    exact ⟨0, by omega, rfl, M1.alloc _, (Below.heap_alloc _ _ _ (by omega)).trans HB.out, (Below.heap_alloc _ _ _ (by omega)).trans HRr.out, (fun i => (madeCells #[.int .u32 0, .bool false] (n * 2)).getD i undef), by have h := World.rowIs_alloc w1 (madeCells #[.int .u32 0, .bool false] (n * 2)) 55 (fun i => (madeCells #[.int .u32 0, .bool false] (n * 2)).getD i undef) (fun i hi => by simp [Array.getD, hi]); rwa [size_madeCells] at h, fun j hj => by omega⟩
  case round =>
    obtain ⟨k, hk, rfl, hm, hb, hr, f, hf, hfk⟩ := hrel
    have HB := Lib.hid hb
    have HRr := Lib.hid hr
    have HF := Lib.hid hf
    have HFK := Lib.hid hfk
    clear hb hr hf hfk M1
    have hsz : w1.heap.size < wr.heap.size := HF.out.lt
    by_cases hlt : k < n
    · have r3 := (cell_of_row _ _ 3 _ _ _ HRr.out).trans q3
      have r0 := (cell_of_row _ _ 0 _ _ _ HRr.out).trans q0
      have hk2 : k * 2 + 1 < n * 2 := by omega
      have hn' : n ≤ 30 := HN60.out
      have hmul : IntKind.i64.wrap ((k : Int) * 8) = (k : Int) * 8 := IntWalk.i64_in _ (by omega)
      have hadd : IntKind.i64.wrap (16 + (k : Int) * 8) = 16 + (k : Int) * 8 := IntWalk.i64_in _ (by omega)
      have he : 16 + (k : Int) * 8 = ((16 + 8 * k : Nat) : Int) := by omega
      have hp : 16 + 8 * k + 8 ≤ 256 := by omega
      have HE := Lib.hid he
      have z0 : (0 : Int) ≤ (k : Int) := by omega
      have z1 : (k : Int) < (n : Int) := by omega
      clear he hn'
      have HT : Hid (tagAt bs k = (get32 bs (16 + 8 * k), decide (get32 bs (16 + 8 * k + 4) = 1))) := rfl
      obtain ⟨x, hx⟩ : ∃ v, get32 bs (16 + 8 * k) = v := ⟨_, rfl⟩
      obtain ⟨y, hy⟩ : ∃ v, decide (get32 bs (16 + 8 * k + 4) = 1) = v := ⟨_, rfl⟩
      rw [hx, hy] at HT
      have HV : Hid ((Value.agg #[.int .u32 (get32 bs (16 + 8 * k)), .bool (decide (get32 bs (16 + 8 * k + 4) = 1))]) = .agg #[.int .u32 x, .bool y]) := by show _ = _; rw [hx, hy]
      clear hx hy
      obtain ⟨wq, rfl⟩ : ∃ wo : World, wo = wr := ⟨_, rfl⟩
      go_wp2_with fail
      refine (tags2 _ (16 + 8 * k) _ bs _ _ HB.out hl HE.out hp).mono ?_
      rintro e w2 ⟨rfl, hm2⟩
      rw [HV.out]
      have HB2 := Lib.hid (hm2.row (k := w.heap.size) HB.out (fun e => e))
      have HR2 := Lib.hid (hm2.row (k := w.heap.size + 1) HRr.out (fun e => e))
      have HF2 := Lib.hid (HF.out.of_block (hm2.same _ hsz (fun e => e)))
      have M2 := hm.trans hm2
      have rk := HF2.out.cell (i := k * 2) (by omega)
      have rk' := HF2.out.cell (i := k * 2 + 1) (by omega)
      have rz := HF2.out.frozen (k * 2)
      have rz' := HF2.out.frozen (k * 2 + 1)
      clear hm hm2 HB HRr HF r0 r3
      go_wp2
      go_roundw
      case rel =>
        refine ⟨k + 1, by omega, by go_num, (M2.setCell (p := ⟨w1.heap.size, k * 2, none⟩) (.inr (by show w.heap.size ≤ w1.heap.size; omega)) _).setCell (p := ⟨w1.heap.size, k * 2 + 1, none⟩) (.inr (by show w.heap.size ≤ w1.heap.size; omega)) _, ?_, ?_, _, (HF2.out.set (k * 2) _).set (k * 2 + 1) _, fun j hj => ?_⟩
        · exact (Below.heap_setCell _ _ _ _ (by show _ ≠ w1.heap.size; omega)).trans ((Below.heap_setCell _ _ _ _ (by show _ ≠ w1.heap.size; omega)).trans HB2.out)
        · exact (Below.heap_setCell _ _ _ _ (by show _ ≠ w1.heap.size; omega)).trans ((Below.heap_setCell _ _ _ _ (by show _ ≠ w1.heap.size; omega)).trans HR2.out)
        · by_cases e : j = k
          · subst e
            rw [if_neg (by omega), if_pos rfl, if_pos rfl, HT.out]
            exact ⟨rfl, rfl⟩
          · rw [if_neg (by omega), if_neg (by omega), if_neg (by omega), if_neg (by omega)]; exact HFK.out j (by omega)
      case measure => simp [intOf]; omega
    · have ek : k = n := by omega
      subst ek
      have hrow := row_encT HF.out (tagsOf_len bs k) (fun j hj => by rw [tagsOf_get _ _ _ hj]; exact HFK.out j hj)
      have HL := Lib.hid hrow
      have hcell : ∀ j, j < (tagsOf bs k).length → wr.cell? ⟨w1.heap.size, 0 + j * 2, none⟩ = some (.int .u32 ((tagsOf bs k).getD j (0, false)).1) ∧ wr.cell? ⟨w1.heap.size, 0 + j * 2 + 1, none⟩ = some (.bool ((tagsOf bs k).getD j (0, false)).2) := fun j hj => by
        rw [tagsOf_len] at hj
        obtain ⟨f1, f2⟩ := HFK.out j hj
        rw [Nat.zero_add, HF.out.cell (i := j * 2) (by omega), HF.out.cell (i := j * 2 + 1) (by omega), f1, f2, tagsOf_get _ _ _ hj]
        exact ⟨rfl, rfl⟩
      have HC := Lib.hid hcell
      have r0 := (cell_of_row _ _ 0 _ _ _ HRr.out).trans q0
      have r1 := (cell_of_row _ _ 1 _ _ _ HRr.out).trans q1
      have r2 := (cell_of_row _ _ 2 _ _ _ HRr.out).trans q2
      have r3 := (cell_of_row _ _ 3 _ _ _ HRr.out).trans q3
      have r4 := (cell_of_row _ _ 4 _ _ _ HRr.out).trans q4
      have hI : (k : Int) ≤ 30 := by have := HN60.out; omega
      clear hrow hcell
      obtain ⟨r, hr⟩ : ∃ r, wDesc s (tagsOf bs k) = r := ⟨_, rfl⟩
      have E4 : Hid (resB (wDesc s (tagsOf bs k)) = resB r) := by show _ = _; rw [hr]
      have hlr : (blkOf r).length = 256 := by rw [← hr]; exact wDesc_len _ _
      have HR' : Hid (rDesc bs = if r = some bs then some (s, tagsOf bs k) else none) := by
        show _ = _
        rw [HR.out, hr]
        by_cases e : r = some bs
        · rw [if_pos ⟨by simp, hI, e⟩, if_pos e]
        · rw [if_neg (fun h => e h.2.2), if_neg e]
      clear hr HR
      obtain ⟨wq, rfl⟩ : ∃ wo : World, wo = wr := ⟨_, rfl⟩
      cases r with
      | none =>
        have HR2 : Hid (rDesc bs = none) := by show _ = _; rw [HR'.out, if_neg (by simp)]
        have hlr : Z256.length = 256 := Z256_len
        have E4 : Hid (resB (wDesc s (tagsOf bs k)) = .tuple #[.agg (encB Z256), .int .i64 2]) := E4
        go_wp2_with fail
        refine (jwriteT w1.heap.size 0 k k (tagsOf bs k) s _ (tagsOf_len bs k).symm (by have := HN60.out; omega) s0 s1 HC.out (tagsOf_bd bs k) _ (.inr ⟨rfl, hsz⟩)).mono ?_
        rintro e w4 ⟨rfl, hx⟩
        rw [E4.out]
        obtain ⟨n4, m4⟩ := put_new w4 Z256
        have hx := hx.trans m4
        have HB := Lib.hid (hx.row (k := w.heap.size) HB.out (fun e => e))
        have HL := Lib.hid (hx.row (k := w1.heap.size) HL.out (fun e => e))
        have HX := Lib.hid n4
        have HO4 := Lib.hid (heap_alloc_new w4 (.cells (encB Z256) 28))
        have M4 := hm.trans hx
        clear hm hx m4 n4
        go_wp2_with (first | ((with_reducible refine wpList_storeB' blkT ?_ ?_ hlr Z256_len HO4.out ?_); rfl; rfl) | (with_reducible refine wpList_allocB' blkT ?_) | ((with_reducible refine wpList_loadBg blkT ?_ ?_ hlr HX.out ?_); rfl; rfl) | ((with_reducible refine wpList_loadBg blkT ?_ ?_ hl HB.out ?_); rfl; rfl) | ((with_reducible refine wpList_neqBg blkT ?_ ?_ ?_ hlr hl ?_); rfl; rfl; rfl))
        go_ret3
        exact ⟨by rw [HR2.out]; rfl, M4⟩
      | some b =>
        have hlr : b.length = 256 := hlr
        have E4 : Hid (resB (wDesc s (tagsOf bs k)) = .tuple #[.agg (encB b), .int .i64 0]) := E4
        by_cases hb : b = bs
        · have HR2 : Hid (rDesc bs = some (s, tagsOf bs k)) := by show _ = _; rw [HR'.out, if_pos (by rw [hb])]
          replace hb := hb.symm
          subst hb
          go_wp2_with fail
          refine (jwriteT w1.heap.size 0 k k (tagsOf bs k) s _ (tagsOf_len bs k).symm (by have := HN60.out; omega) s0 s1 HC.out (tagsOf_bd bs k) _ (.inr ⟨rfl, hsz⟩)).mono ?_
          rintro e w4 ⟨rfl, hx⟩
          rw [E4.out]
          obtain ⟨n4, m4⟩ := put_new w4 bs
          have hx := hx.trans m4
          have HB := Lib.hid (hx.row (k := w.heap.size) HB.out (fun e => e))
          have HL := Lib.hid (hx.row (k := w1.heap.size) HL.out (fun e => e))
          have HX := Lib.hid n4
          have HO4 := Lib.hid (heap_alloc_new w4 (.cells (encB Z256) 28))
          have M4 := hm.trans hx
          clear hm hx m4 n4
          go_wp2_with (first | ((with_reducible refine wpList_storeB' blkT ?_ ?_ hlr Z256_len HO4.out ?_); rfl; rfl) | (with_reducible refine wpList_allocB' blkT ?_) | ((with_reducible refine wpList_loadBg blkT ?_ ?_ hlr HX.out ?_); rfl; rfl) | ((with_reducible refine wpList_loadBg blkT ?_ ?_ hl HB.out ?_); rfl; rfl) | ((with_reducible refine wpList_neqBg blkT ?_ ?_ ?_ hlr hl ?_); rfl; rfl; rfl))
          go_ret3
          exact ⟨by rw [HR2.out]; exact ⟨w1.heap.size, by omega, HL.out, by rw [tagsOf_len]; rfl⟩, M4⟩
        · have HR2 : Hid (rDesc bs = none) := by show _ = _; rw [HR'.out, if_neg (by simpa using hb)]
          have hbb : (b == bs) = false := by simp [hb]
          clear hb
          go_wp2_with fail
          refine (jwriteT w1.heap.size 0 k k (tagsOf bs k) s _ (tagsOf_len bs k).symm (by have := HN60.out; omega) s0 s1 HC.out (tagsOf_bd bs k) _ (.inr ⟨rfl, hsz⟩)).mono ?_
          rintro e w4 ⟨rfl, hx⟩
          rw [E4.out]
          obtain ⟨n4, m4⟩ := put_new w4 b
          have hx := hx.trans m4
          have HB := Lib.hid (hx.row (k := w.heap.size) HB.out (fun e => e))
          have HL := Lib.hid (hx.row (k := w1.heap.size) HL.out (fun e => e))
          have HX := Lib.hid n4
          have HO4 := Lib.hid (heap_alloc_new w4 (.cells (encB Z256) 28))
          have M4 := hm.trans hx
          clear hm hx m4 n4
          go_wp2_with (first | ((with_reducible refine wpList_storeB' blkT ?_ ?_ hlr Z256_len HO4.out ?_); rfl; rfl) | (with_reducible refine wpList_allocB' blkT ?_) | ((with_reducible refine wpList_loadBg blkT ?_ ?_ hlr HX.out ?_); rfl; rfl) | ((with_reducible refine wpList_loadBg blkT ?_ ?_ hl HB.out ?_); rfl; rfl) | ((with_reducible refine wpList_neqBg blkT ?_ ?_ ?_ hlr hl ?_); rfl; rfl; rfl))
          go_ret3
          exact ⟨by rw [HR2.out]; rfl, M4⟩
end Go.Proofs.Ytckadanghhibhaa
