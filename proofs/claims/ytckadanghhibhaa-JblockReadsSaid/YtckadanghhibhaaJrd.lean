/- Heads and commit blocks are read. -/
import Derived.Test.YtckadanghhibhaaQr
namespace Go.Proofs.Ytckadanghhibhaa
open Go.RowKit Go.Sort

theorem results_tmp4 {fn : Func} {t u v x : Tmp} (h : fn.results = #[.tmp t, .tmp u, .tmp v, .tmp x]) (tmps : Array Value) (P : Program) (w : World) :
    (results fn tmps).run P w = .ok (.tuple #[tmps.getD t undef, tmps.getD u undef, tmps.getD v undef, tmps.getD x undef]) w := by
  simp [results, h]

/-- What a head block tells: its number and place, if it is one. -/
def rHead (bs : List UInt8) : Option (Int × Int) := if wHead (kindB bs).2 (get32 bs 12) = some bs then some ((kindB bs).2, get32 bs 12) else none
def rCommit (bs : List UInt8) : Option (Int × Int × Int) := if wCommit (kindB bs).2 (get32 bs 12) (get32 bs 16) = some bs then some ((kindB bs).2, get32 bs 12, get32 bs 16) else none
def resRH : Option (Int × Int) → Value
  | some (s, t) => .tuple #[.agg #[.int .u32 s, .int .i64 t], .int .i64 0]
  | none => .tuple #[.agg #[.int .u32 0, .int .i64 0], .int .i64 90]
def resRC : Option (Int × Int × Int) → Value
  | some (s, c, m) => .tuple #[.int .u32 s, .int .i64 c, .int .u32 m, .int .i64 0]
  | none => .tuple #[.int .u32 0, .int .i64 0, .int .u32 0, .int .i64 90]

theorem kindB_bd (bs : List UInt8) : 0 ≤ (kindB bs).2 ∧ (kindB bs).2 < 4294967296 := by
  unfold kindB
  split
  · exact get32_bd bs 8
  · exact ⟨by omega, by omega⟩

set_option maxRecDepth 100000 in
set_option maxHeartbeats 2000000 in
theorem jrcommit (bs : List UInt8) (hl : bs.length = 256) (w : World) :
    Calls Try.prog 25 #[.agg (encB bs)] w fun e w' => e = .returned (resRC (rCommit bs)) ∧ Mod none' w w' := by
  have HB := Lib.hid (heap_alloc_new w (.cells (encB bs) 28))
  have M0 : Mod none' w (w.alloc (.cells (encB bs) 28)) := (Mod.refl _ _).alloc _
  obtain ⟨k, hk⟩ : ∃ k, kindB bs = k := ⟨_, rfl⟩
  obtain ⟨s0, s1⟩ := kindB_bd bs
  obtain ⟨c0, c1⟩ := get32_bd bs 12
  obtain ⟨m0, m1⟩ := get32_bd bs 16
  have HR : Hid (rCommit bs = if wCommit (kindB bs).2 (get32 bs 12) (get32 bs 16) = some bs then some ((kindB bs).2, get32 bs 12, get32 bs 16) else none) := rfl
  rw [hk] at s0 s1 HR
  obtain ⟨k, s⟩ := k
  obtain ⟨c, hc⟩ : ∃ c, get32 bs 12 = c := ⟨_, rfl⟩
  obtain ⟨m, hm⟩ : ∃ c, get32 bs 16 = c := ⟨_, rfl⟩
  simp only at s0 s1 HR
  rw [hc] at c0 c1 HR
  rw [hm] at m0 m1 HR
  have E1 : Hid (resK (kindB bs) = .tuple #[.int .u8 k, .int .u32 s]) := by show _ = _; rw [hk]; rfl
  have E2 := Lib.hid hc
  have E3 := Lib.hid hm
  clear hk hc hm
  have hwc : IntKind.i64.wrap c = c := IntWalk.i64_in _ (by omega)
  obtain ⟨r, hr⟩ : ∃ r, wCommit s c m = r := ⟨_, rfl⟩
  have E4 : Hid (resB (wCommit s c m) = resB r) := by show _ = _; rw [hr]
  have hlr : (blkOf r).length = 256 := by rw [← hr]; exact wCommit_len _ _ _
  rw [hr] at HR
  clear hr
  cases r with
  | none =>
    have HR2 : Hid (rCommit bs = none) := by show _ = _; rw [HR.out, if_neg (by simp)]
    have hlr : Z256.length = 256 := Z256_len
    have E4 : Hid (resB (wCommit s c m) = .tuple #[.agg (encB Z256), .int .i64 2]) := E4
    go_enter Try.func25, Try.ntmps25
    go_wp2_with (first | ((with_reducible refine wpList_loadBg blkT ?_ ?_ hl HB.out ?_); rfl; rfl))
    refine (jkind bs hl _).mono ?_
    rintro e w1 ⟨rfl, hm⟩
    rw [E1.out]
    have M1 := M0.trans hm
    have HB := Lib.hid (hm.row (k := w.heap.size) HB.out (fun e => e))
    clear hm M0
    go_wp2_with (first | (go_at_call 46; refine (jget_at _ 12 _ bs _ _ HB.out hl (by decide) (by decide)).mono ?_; rintro e w' ⟨rfl, rfl⟩; rw [E2.out]) | (go_at_call 46; refine (jget_at _ 16 _ bs _ _ HB.out hl (by decide) (by decide)).mono ?_; rintro e w' ⟨rfl, rfl⟩; rw [E3.out]))
    refine (jwcommit s c m _ s0 s1 m0 m1).mono ?_
    rintro e w4 ⟨rfl, hm⟩
    rw [E4.out]
    obtain ⟨n4, m4⟩ := put_new w4 Z256
    have hm := hm.trans m4
    have HB := Lib.hid (hm.row (k := w.heap.size) HB.out (fun e => e))
    have HX := Lib.hid n4
    have HO4 := Lib.hid (heap_alloc_new w4 (.cells (encB Z256) 28))
    have M4 := M1.trans hm
    clear M1 hm m4 n4
    go_wp2_with (first | ((with_reducible refine wpList_storeB' blkT ?_ ?_ hlr Z256_len HO4.out ?_); rfl; rfl) | (with_reducible refine wpList_allocB' blkT ?_) | ((with_reducible refine wpList_loadBg blkT ?_ ?_ hlr HX.out ?_); rfl; rfl) | ((with_reducible refine wpList_loadBg blkT ?_ ?_ hl HB.out ?_); rfl; rfl) | ((with_reducible refine wpList_neqBg blkT ?_ ?_ ?_ hlr hl ?_); rfl; rfl; rfl))
    (try simp only [Exit.inBlock, Exit.then])
    refine bodyPost_ret (results_tmp4 rfl _ _ _) rfl ⟨by rw [HR2.out]; rfl, M4⟩
  | some b =>
    have hlr : b.length = 256 := hlr
    have E4 : Hid (resB (wCommit s c m) = .tuple #[.agg (encB b), .int .i64 0]) := E4
    by_cases hb : b = bs
    · have HR2 : Hid (rCommit bs = some (s, c, m)) := by show _ = _; rw [HR.out, if_pos (by rw [hb])]
      replace hb := hb.symm
      subst hb
      go_enter Try.func25, Try.ntmps25
      go_wp2_with (first | ((with_reducible refine wpList_loadBg blkT ?_ ?_ hl HB.out ?_); rfl; rfl))
      refine (jkind bs hl _).mono ?_
      rintro e w1 ⟨rfl, hm⟩
      rw [E1.out]
      have M1 := M0.trans hm
      have HB := Lib.hid (hm.row (k := w.heap.size) HB.out (fun e => e))
      clear hm M0
      go_wp2_with (first | (go_at_call 46; refine (jget_at _ 12 _ bs _ _ HB.out hl (by decide) (by decide)).mono ?_; rintro e w' ⟨rfl, rfl⟩; rw [E2.out]) | (go_at_call 46; refine (jget_at _ 16 _ bs _ _ HB.out hl (by decide) (by decide)).mono ?_; rintro e w' ⟨rfl, rfl⟩; rw [E3.out]))
      refine (jwcommit s c m _ s0 s1 m0 m1).mono ?_
      rintro e w4 ⟨rfl, hm⟩
      rw [E4.out]
      obtain ⟨n4, m4⟩ := put_new w4 bs
      have hm := hm.trans m4
      have HB := Lib.hid (hm.row (k := w.heap.size) HB.out (fun e => e))
      have HX := Lib.hid n4
      have HO4 := Lib.hid (heap_alloc_new w4 (.cells (encB Z256) 28))
      have M4 := M1.trans hm
      clear M1 hm m4 n4
      go_wp2_with (first | ((with_reducible refine wpList_storeB' blkT ?_ ?_ hlr Z256_len HO4.out ?_); rfl; rfl) | (with_reducible refine wpList_allocB' blkT ?_) | ((with_reducible refine wpList_loadBg blkT ?_ ?_ hlr HX.out ?_); rfl; rfl) | ((with_reducible refine wpList_loadBg blkT ?_ ?_ hl HB.out ?_); rfl; rfl) | ((with_reducible refine wpList_neqBg blkT ?_ ?_ ?_ hlr hl ?_); rfl; rfl; rfl))
      (try simp only [Exit.inBlock, Exit.then])
      refine bodyPost_ret (results_tmp4 rfl _ _ _) rfl ⟨by rw [HR2.out]; rfl, M4⟩
    · have HR2 : Hid (rCommit bs = none) := by show _ = _; rw [HR.out, if_neg (by simpa using hb)]
      have hbb : (b == bs) = false := by simp [hb]
      clear hb
      go_enter Try.func25, Try.ntmps25
      go_wp2_with (first | ((with_reducible refine wpList_loadBg blkT ?_ ?_ hl HB.out ?_); rfl; rfl))
      refine (jkind bs hl _).mono ?_
      rintro e w1 ⟨rfl, hm⟩
      rw [E1.out]
      have M1 := M0.trans hm
      have HB := Lib.hid (hm.row (k := w.heap.size) HB.out (fun e => e))
      clear hm M0
      go_wp2_with (first | (go_at_call 46; refine (jget_at _ 12 _ bs _ _ HB.out hl (by decide) (by decide)).mono ?_; rintro e w' ⟨rfl, rfl⟩; rw [E2.out]) | (go_at_call 46; refine (jget_at _ 16 _ bs _ _ HB.out hl (by decide) (by decide)).mono ?_; rintro e w' ⟨rfl, rfl⟩; rw [E3.out]))
      refine (jwcommit s c m _ s0 s1 m0 m1).mono ?_
      rintro e w4 ⟨rfl, hm⟩
      rw [E4.out]
      obtain ⟨n4, m4⟩ := put_new w4 b
      have hm := hm.trans m4
      have HB := Lib.hid (hm.row (k := w.heap.size) HB.out (fun e => e))
      have HX := Lib.hid n4
      have HO4 := Lib.hid (heap_alloc_new w4 (.cells (encB Z256) 28))
      have M4 := M1.trans hm
      clear M1 hm m4 n4
      go_wp2_with (first | ((with_reducible refine wpList_storeB' blkT ?_ ?_ hlr Z256_len HO4.out ?_); rfl; rfl) | (with_reducible refine wpList_allocB' blkT ?_) | ((with_reducible refine wpList_loadBg blkT ?_ ?_ hlr HX.out ?_); rfl; rfl) | ((with_reducible refine wpList_loadBg blkT ?_ ?_ hl HB.out ?_); rfl; rfl) | ((with_reducible refine wpList_neqBg blkT ?_ ?_ ?_ hlr hl ?_); rfl; rfl; rfl))
      (try simp only [Exit.inBlock, Exit.then])
      refine bodyPost_ret (results_tmp4 rfl _ _ _) rfl ⟨by rw [HR2.out]; rfl, M4⟩
end Go.Proofs.Ytckadanghhibhaa
