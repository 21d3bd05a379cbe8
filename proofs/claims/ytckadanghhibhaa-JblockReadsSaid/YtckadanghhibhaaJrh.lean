/- Heads are read. -/
import Derived.Test.YtckadanghhibhaaJrl
namespace Go.Proofs.Ytckadanghhibhaa
open Go.RowKit

theorem results_row2 {P : Program} {fn : Func} {p q : Tmp} {ty : TypeId} (h : fn.results = #[.cell p ty, .tmp q]) (tmps : Array Value) (w : World) (g : Nat) (t : TypeId) (cs : Array Value) (fr : Nat × Nat) (d : TypeDesc)
    (hp : tmps.getD p undef = .pointer (some ⟨g, 0, none⟩)) (hg : w.heap[g]? = some (.cells cs t fr))
    (hu : P.underlying ty = some d) (hd : (match d with | .struct _ | .array _ _ => true | _ => false) = true) (hi : (P.info? ty).map (·.size) = some cs.size) :
    (results fn tmps).run P w = .ok (.tuple #[.agg cs, tmps.getD q undef]) w := by
  have hp' : tmps[p]?.getD undef = .pointer (some ⟨g, 0, none⟩) := by simpa using hp
  simp [results, h, hp', asAddr, run_loadVar_row w g t ty cs fr d hg hu hd hi]
theorem set_two {w : World} {g : Nat} {a b x y : Value} {t : TypeId} (h : w.heap[g]? = some (.cells #[a, b] t (0, 0))) : ((w.setCell ⟨g, 0, none⟩ x).setCell ⟨g, 1, none⟩ y).heap[g]? = some (.cells #[x, y] t (0, 0)) := by
  simp [World.setCell, Array.getElem?_modify, h]

theorem frozen_row {w : World} {g : Nat} {cs : Array Value} {t : TypeId} (h : w.heap[g]? = some (.cells cs t (0, 0))) (i : Nat) : w.frozen? ⟨g, i, none⟩ = false := by simp [World.frozen?, h]

set_option maxRecDepth 100000 in
set_option maxHeartbeats 4000000 in
theorem jrhead (bs : List UInt8) (hl : bs.length = 256) (w : World) :
    Calls Try.prog 27 #[.agg (encB bs)] w fun e w' => e = .returned (resRH (rHead bs)) ∧ Mod none' w w' := by
  obtain ⟨RB, RH, M0⟩ := two_new w (.cells (encB bs) 28) (.cells #[.int .u32 0, .int .i64 0] 24)
  have HB := Lib.hid RB
  have HH := Lib.hid RH
  clear RB RH
  obtain ⟨kp, hk⟩ : ∃ k, kindB bs = k := ⟨_, rfl⟩
  obtain ⟨s0, s1⟩ := kindB_bd bs
  obtain ⟨c0, c1⟩ := get32_bd bs 12
  have HR : Hid (rHead bs = if wHead (kindB bs).2 (get32 bs 12) = some bs then some ((kindB bs).2, get32 bs 12) else none) := rfl
  rw [hk] at s0 s1 HR
  obtain ⟨k, s⟩ := kp
  obtain ⟨c, hc⟩ : ∃ c, get32 bs 12 = c := ⟨_, rfl⟩
  simp only at s0 s1 HR
  rw [hc] at c0 c1 HR
  have E1 : Hid (resK (kindB bs) = .tuple #[.int .u8 k, .int .u32 s]) := by show _ = _; rw [hk]; rfl
  have E2 := Lib.hid hc
  clear hk hc
  have hwc : IntKind.i64.wrap c = c := IntWalk.i64_in _ (by omega)
  obtain ⟨r, hr⟩ : ∃ r, wHead s c = r := ⟨_, rfl⟩
  have E4 : Hid (resB (wHead s c) = resB r) := by show _ = _; rw [hr]
  have hlr : (blkOf r).length = 256 := by rw [← hr]; exact wHead_len _ _
  rw [hr] at HR
  clear hr
  cases r with
  | none =>
    have HR2 : Hid (rHead bs = none) := by show _ = _; rw [HR.out, if_neg (by simp)]
    have hlr : Z256.length = 256 := Z256_len
    have E4 : Hid (resB (wHead s c) = .tuple #[.agg (encB Z256), .int .i64 2]) := E4
    go_enter Try.func27, Try.ntmps27
    go_wp2_with (first | ((with_reducible refine wpList_loadBg blkT ?_ ?_ hl HB.out ?_); rfl; rfl))
    refine (jkind bs hl _).mono ?_
    rintro e w1 ⟨rfl, hm⟩
    rw [E1.out]
    have M1 := M0.trans hm
    have HB := Lib.hid (hm.row (k := w.heap.size) HB.out (fun e => e))
    have HH := Lib.hid (hm.row (k := w.heap.size + 1) HH.out (fun e => e))
    clear hm M0
    go_wp2_with (first | (go_at_call 46; refine (jget_at _ 12 _ bs _ _ HB.out hl (by decide) (by decide)).mono ?_; rintro e w' ⟨rfl, rfl⟩; rw [E2.out]))
    refine (jwhead s c _ s0 s1).mono ?_
    rintro e w4 ⟨rfl, hm⟩
    rw [E4.out]
    have hm6 := hm
    have hm := (show Mod none' w1 _ from (Mod.refl none' w1).alloc (.cells #[.int .u32 s, .int .i64 c] 24)).trans hm
    have hg6 := (heap_alloc_new w1 (.cells #[.int .u32 s, .int .i64 c] 24))
    obtain ⟨n4, m4⟩ := put_new w4 Z256
    have g6 := m4.row (k := w1.heap.size) (hm6.row (k := w1.heap.size) hg6 (fun e => e)) (fun e => e)
    have g60 := (cell_of_row _ _ 0 _ _ _ g6).trans (show _ = some (.int .u32 s) from rfl)
    have g61 := (cell_of_row _ _ 1 _ _ _ g6).trans (show _ = some (.int .i64 c) from rfl)
    clear g6 hg6 hm6
    have hm := hm.trans m4
    have HB := Lib.hid (hm.row (k := w.heap.size) HB.out (fun e => e))
    have HH := Lib.hid (hm.row (k := w.heap.size + 1) HH.out (fun e => e))
    have HX := Lib.hid n4
    have HO4 := Lib.hid (heap_alloc_new w4 (.cells (encB Z256) 28))
    have M4 := M1.trans hm
    clear M1 hm m4 n4
    have h0 := (cell_of_row _ _ 0 _ _ _ HH.out).trans (show _ = some (.int .u32 0) from rfl)
    have h1 := (cell_of_row _ _ 1 _ _ _ HH.out).trans (show _ = some (.int .i64 0) from rfl)
    have f0 := frozen_row HH.out 0
    have f1 := frozen_row HH.out 1
    go_wp2_with (first | ((with_reducible refine wpList_storeB' blkT ?_ ?_ hlr Z256_len HO4.out ?_); rfl; rfl) | (with_reducible refine wpList_allocB' blkT ?_) | ((with_reducible refine wpList_loadBg blkT ?_ ?_ hlr HX.out ?_); rfl; rfl) | ((with_reducible refine wpList_loadBg blkT ?_ ?_ hl HB.out ?_); rfl; rfl) | ((with_reducible refine wpList_neqBg blkT ?_ ?_ ?_ hlr hl ?_); rfl; rfl; rfl))
    (try simp only [Exit.inBlock, Exit.then])
    refine bodyPost_ret (results_row2 rfl _ _ (w.heap.size + 1) _ _ _ _ rfl (set_two HH.out) Try.underlying24 rfl (by kernel_rfl)) rfl ⟨by rw [HR2.out]; rfl, (M4.setCell (p := ⟨w.heap.size + 1, 0, none⟩) (.inr (by show w.heap.size ≤ w.heap.size + 1; omega)) _).setCell (p := ⟨w.heap.size + 1, 1, none⟩) (.inr (by show w.heap.size ≤ w.heap.size + 1; omega)) _⟩
  | some b =>
    have hlr : b.length = 256 := hlr
    have E4 : Hid (resB (wHead s c) = .tuple #[.agg (encB b), .int .i64 0]) := E4
    by_cases hb : b = bs
    · have HR2 : Hid (rHead bs = some (s, c)) := by show _ = _; rw [HR.out, if_pos (by rw [hb])]
      replace hb := hb.symm
      subst hb
      go_enter Try.func27, Try.ntmps27
      go_wp2_with (first | ((with_reducible refine wpList_loadBg blkT ?_ ?_ hl HB.out ?_); rfl; rfl))
      refine (jkind bs hl _).mono ?_
      rintro e w1 ⟨rfl, hm⟩
      rw [E1.out]
      have M1 := M0.trans hm
      have HB := Lib.hid (hm.row (k := w.heap.size) HB.out (fun e => e))
      have HH := Lib.hid (hm.row (k := w.heap.size + 1) HH.out (fun e => e))
      clear hm M0
      go_wp2_with (first | (go_at_call 46; refine (jget_at _ 12 _ bs _ _ HB.out hl (by decide) (by decide)).mono ?_; rintro e w' ⟨rfl, rfl⟩; rw [E2.out]))
      refine (jwhead s c _ s0 s1).mono ?_
      rintro e w4 ⟨rfl, hm⟩
      rw [E4.out]
      have hm6 := hm
      have hm := (show Mod none' w1 _ from (Mod.refl none' w1).alloc (.cells #[.int .u32 s, .int .i64 c] 24)).trans hm
      have hg6 := (heap_alloc_new w1 (.cells #[.int .u32 s, .int .i64 c] 24))
      obtain ⟨n4, m4⟩ := put_new w4 bs
      have g6 := m4.row (k := w1.heap.size) (hm6.row (k := w1.heap.size) hg6 (fun e => e)) (fun e => e)
      have g60 := (cell_of_row _ _ 0 _ _ _ g6).trans (show _ = some (.int .u32 s) from rfl)
      have g61 := (cell_of_row _ _ 1 _ _ _ g6).trans (show _ = some (.int .i64 c) from rfl)
      clear g6 hg6 hm6
      have hm := hm.trans m4
      have HB := Lib.hid (hm.row (k := w.heap.size) HB.out (fun e => e))
      have HH := Lib.hid (hm.row (k := w.heap.size + 1) HH.out (fun e => e))
      have HX := Lib.hid n4
      have HO4 := Lib.hid (heap_alloc_new w4 (.cells (encB Z256) 28))
      have M4 := M1.trans hm
      clear M1 hm m4 n4
      have h0 := (cell_of_row _ _ 0 _ _ _ HH.out).trans (show _ = some (.int .u32 0) from rfl)
      have h1 := (cell_of_row _ _ 1 _ _ _ HH.out).trans (show _ = some (.int .i64 0) from rfl)
      have f0 := frozen_row HH.out 0
      have f1 := frozen_row HH.out 1
      go_wp2_with (first | ((with_reducible refine wpList_storeB' blkT ?_ ?_ hlr Z256_len HO4.out ?_); rfl; rfl) | (with_reducible refine wpList_allocB' blkT ?_) | ((with_reducible refine wpList_loadBg blkT ?_ ?_ hlr HX.out ?_); rfl; rfl) | ((with_reducible refine wpList_loadBg blkT ?_ ?_ hl HB.out ?_); rfl; rfl) | ((with_reducible refine wpList_neqBg blkT ?_ ?_ ?_ hlr hl ?_); rfl; rfl; rfl))
      (try simp only [Exit.inBlock, Exit.then])
      refine bodyPost_ret (results_row2 rfl _ _ (w.heap.size + 1) _ _ _ _ rfl (set_two HH.out) Try.underlying24 rfl (by kernel_rfl)) rfl ⟨by rw [HR2.out]; rfl, (M4.setCell (p := ⟨w.heap.size + 1, 0, none⟩) (.inr (by show w.heap.size ≤ w.heap.size + 1; omega)) _).setCell (p := ⟨w.heap.size + 1, 1, none⟩) (.inr (by show w.heap.size ≤ w.heap.size + 1; omega)) _⟩
    · have HR2 : Hid (rHead bs = none) := by show _ = _; rw [HR.out, if_neg (by simpa using hb)]
      have hbb : (b == bs) = false := by simp [hb]
      clear hb
      go_enter Try.func27, Try.ntmps27
      go_wp2_with (first | ((with_reducible refine wpList_loadBg blkT ?_ ?_ hl HB.out ?_); rfl; rfl))
      refine (jkind bs hl _).mono ?_
      rintro e w1 ⟨rfl, hm⟩
      rw [E1.out]
      have M1 := M0.trans hm
      have HB := Lib.hid (hm.row (k := w.heap.size) HB.out (fun e => e))
      have HH := Lib.hid (hm.row (k := w.heap.size + 1) HH.out (fun e => e))
      clear hm M0
      go_wp2_with (first | (go_at_call 46; refine (jget_at _ 12 _ bs _ _ HB.out hl (by decide) (by decide)).mono ?_; rintro e w' ⟨rfl, rfl⟩; rw [E2.out]))
      refine (jwhead s c _ s0 s1).mono ?_
      rintro e w4 ⟨rfl, hm⟩
      rw [E4.out]
      have hm6 := hm
      have hm := (show Mod none' w1 _ from (Mod.refl none' w1).alloc (.cells #[.int .u32 s, .int .i64 c] 24)).trans hm
      have hg6 := (heap_alloc_new w1 (.cells #[.int .u32 s, .int .i64 c] 24))
      obtain ⟨n4, m4⟩ := put_new w4 b
      have g6 := m4.row (k := w1.heap.size) (hm6.row (k := w1.heap.size) hg6 (fun e => e)) (fun e => e)
      have g60 := (cell_of_row _ _ 0 _ _ _ g6).trans (show _ = some (.int .u32 s) from rfl)
      have g61 := (cell_of_row _ _ 1 _ _ _ g6).trans (show _ = some (.int .i64 c) from rfl)
      clear g6 hg6 hm6
      have hm := hm.trans m4
      have HB := Lib.hid (hm.row (k := w.heap.size) HB.out (fun e => e))
      have HH := Lib.hid (hm.row (k := w.heap.size + 1) HH.out (fun e => e))
      have HX := Lib.hid n4
      have HO4 := Lib.hid (heap_alloc_new w4 (.cells (encB Z256) 28))
      have M4 := M1.trans hm
      clear M1 hm m4 n4
      have h0 := (cell_of_row _ _ 0 _ _ _ HH.out).trans (show _ = some (.int .u32 0) from rfl)
      have h1 := (cell_of_row _ _ 1 _ _ _ HH.out).trans (show _ = some (.int .i64 0) from rfl)
      have f0 := frozen_row HH.out 0
      have f1 := frozen_row HH.out 1
      go_wp2_with (first | ((with_reducible refine wpList_storeB' blkT ?_ ?_ hlr Z256_len HO4.out ?_); rfl; rfl) | (with_reducible refine wpList_allocB' blkT ?_) | ((with_reducible refine wpList_loadBg blkT ?_ ?_ hlr HX.out ?_); rfl; rfl) | ((with_reducible refine wpList_loadBg blkT ?_ ?_ hl HB.out ?_); rfl; rfl) | ((with_reducible refine wpList_neqBg blkT ?_ ?_ ?_ hlr hl ?_); rfl; rfl; rfl))
      (try simp only [Exit.inBlock, Exit.then])
      refine bodyPost_ret (results_row2 rfl _ _ (w.heap.size + 1) _ _ _ _ rfl (set_two HH.out) Try.underlying24 rfl (by kernel_rfl)) rfl ⟨by rw [HR2.out]; rfl, (M4.setCell (p := ⟨w.heap.size + 1, 0, none⟩) (.inr (by show w.heap.size ≤ w.heap.size + 1; omega)) _).setCell (p := ⟨w.heap.size + 1, 1, none⟩) (.inr (by show w.heap.size ≤ w.heap.size + 1; omega)) _⟩
end Go.Proofs.Ytckadanghhibhaa
