/- Lists written into journal blocks: tags. -/
import Derived.Test.YtckadanghhibhaaJwn
namespace Go.Proofs.Ytckadanghhibhaa
open Go.RowKit

set_option maxHeartbeats 2000000 in
theorem jwriteT (L o n cap : Nat) (l : List (Int × Bool)) (s : Int) (w : World) (hn : n = l.length) (hcap : n ≤ 1000000) (s0 : 0 ≤ s) (s1 : s < 4294967296) (hL : ∀ k, k < l.length → w.cell? ⟨L, o + k * 2, none⟩ = some (.int .u32 (l.getD k (0, false)).1) ∧ w.cell? ⟨L, o + k * 2 + 1, none⟩ = some (.bool (l.getD k (0, false)).2)) (hb : ∀ k, 0 ≤ (l.getD k (0, false)).1 ∧ (l.getD k (0, false)).1 < 4294967296)
    (a : Option Addr) (ha : n = 0 ∨ (a = some ⟨L, o, none⟩ ∧ L < w.heap.size)) :
    Calls Try.prog 41 #[.int .u8 1, .int .u32 s, .slice a n cap, .agg tagsV] w fun e w' => e = .returned (resB (wDesc s l)) ∧ Mod none' w w' := by
  obtain ⟨R0, H0, M0⟩ := two_new w (.cells tagsV 80) (.cells (encB Z256) 28)
  have q0 : tagsV[0]? = some (.int .i64 8) := rfl
  have q1 : tagsV[1]? = some (.int .i64 30) := rfl
  have q2 : tagsV[2]? = some (.func (.func 53) #[] #[]) := rfl
  have q4 : tagsV[4]? = some (.func (.func 55) #[] #[]) := rfl
  have HC := Lib.hid H0
  have HRr := Lib.hid R0
  have HLL := Lib.hid hL
  have HBD := Lib.hid hb
  have HN := Lib.hid hn
  clear R0 H0 hL hb hn
  rcases Bool.eq_false_or_eq_true (seqB s) with h1 | h1
  rotate_left
  · skip
    have HR : Hid (wDesc s l = none) := by show _ = _; rw [wDesc, if_neg (by simp [h1])]
    have H1 := Lib.hid h1
    clear h1
    go_enter Try.func41, Try.ntmps41
    go_wp2_with (first | (with_reducible refine wpList_allocB' blkT ?_) | (with_reducible refine wpList_buildZ' blkT ?_) | ((with_reducible refine wpList_storeB' blkT ?_ ?_ Z256_len Z256_len HC.out ?_); rfl; rfl) | (go_at_call 37; refine (jnumbered _ _).mono ?_; rintro e w' ⟨rfl, rfl⟩; rw [H1.out]))
    refine bodyPost_ret (results_blk2 blkT rfl _ _ _ _ _ Z256_len rfl (setRow_heap _ _ _ _ _ _ HC.out)) rfl ⟨?_, M0.setRow (.inr (by simp)) _⟩
    rw [HR.out]; rfl
  by_cases c1 : 1 ≤ n
  rotate_left
  · have HR : Hid (wDesc s l = none) := by show _ = _; rw [wDesc, if_neg (by have := HN.out; omega)]
    have H1 := Lib.hid h1
    clear h1
    go_enter Try.func41, Try.ntmps41
    go_wp2_with (first | (with_reducible refine wpList_allocB' blkT ?_) | (with_reducible refine wpList_buildZ' blkT ?_) | ((with_reducible refine wpList_storeB' blkT ?_ ?_ Z256_len Z256_len HC.out ?_); rfl; rfl) | (go_at_call 37; refine (jnumbered _ _).mono ?_; rintro e w' ⟨rfl, rfl⟩; rw [H1.out]))
    refine bodyPost_ret (results_blk2 blkT rfl _ _ _ _ _ Z256_len rfl (setRow_heap _ _ _ _ _ _ HC.out)) rfl ⟨?_, M0.setRow (.inr (by simp)) _⟩
    rw [HR.out]; rfl
  by_cases c2 : n ≤ 30
  rotate_left
  · skip
    have HR : Hid (wDesc s l = none) := by show _ = _; rw [wDesc, if_neg (by have := HN.out; omega)]
    have H1 := Lib.hid h1
    clear h1
    go_enter Try.func41, Try.ntmps41
    go_wp2_with (first | (with_reducible refine wpList_allocB' blkT ?_) | (with_reducible refine wpList_buildZ' blkT ?_) | ((with_reducible refine wpList_storeB' blkT ?_ ?_ Z256_len Z256_len HC.out ?_); rfl; rfl) | (go_at_call 37; refine (jnumbered _ _).mono ?_; rintro e w' ⟨rfl, rfl⟩; rw [H1.out]))
    refine bodyPost_ret (results_blk2 blkT rfl _ _ _ _ _ Z256_len rfl (setRow_heap _ _ _ _ _ _ HC.out)) rfl ⟨?_, M0.setRow (.inr (by simp)) _⟩
    rw [HR.out]; rfl
  obtain ⟨hb1, hb2⟩ := seqB_bd h1
  have H1 := Lib.hid h1
  obtain ⟨rfl, hLs⟩ : a = some ⟨L, o, none⟩ ∧ L < w.heap.size := Or.resolve_left ha (by omega)
  have hl4 : (begunB 1 s n).length = 256 := begunB_len 3 s n
  clear ha h1
  go_enter Try.func41, Try.ntmps41
  go_wp2_with (first | (with_reducible refine wpList_allocB' blkT ?_) | (go_at_call 37; refine (jnumbered _ _).mono ?_; rintro e w' ⟨rfl, rfl⟩; rw [H1.out]))
  refine (jbegun _ _ _ _ (by omega) (by omega) (by omega) (by omega) (by omega) (by omega)).mono ?_
  rintro e w1 ⟨rfl, hm⟩
  have HC1 := Lib.hid (hm.row HC.out (fun e => e))
  have HR1 := Lib.hid (hm.row HRr.out (fun e => e))
  have M1 := M0.trans hm
  have hz1 : w.heap.size + 2 ≤ w1.heap.size := by have := hm.size; rw [sizes2] at this; exact this
  have HN1 := Lib.hid (heap_alloc_new w1 (.cells (encB Z256) 28))
  clear hm M0
  go_wp2_with (first | (with_reducible refine wpList_allocB' blkT ?_) | ((with_reducible refine wpList_storeB' blkT ?_ ?_ hl4 Z256_len HN1.out ?_); rfl; rfl))
  clear HN1
  have q3 : Hid (tagsV.size = 5) := rfl
  go_loopw [11, 12, 37] (fun v11 v12 i wr => ∃ k : Nat, k ≤ n ∧ i = .int .i64 k ∧ Mod none' w wr ∧ wr.heap[w.heap.size]? = some (.cells tagsV 80 (0, 0)) ∧ wr.heap[w.heap.size + 1]? = some (.cells (encB Z256) 28 (0, 0)) ∧ w1.heap.size < wr.heap.size ∧ wr.heap[w1.heap.size]? = some (.cells (encB (blockOf ([1280199249, 1, s, (n : Int)] ++ flatT (l.take k)))) 28 (0, 0)) ∧ (∀ i, i + 1 < k → (l.getD i (0, false)).1 < (l.getD (i + 1) (0, false)).1)) (fun _ _ i _ => n - (intOf i).toNat)
  case atStart =>
    refine ⟨0, by omega, rfl, (M1.alloc _).setRow (.inr (by omega)) _, ?_, ?_, by simp, ?_, fun i hi => by omega⟩
    · exact (setRow_other _ _ _ _ (by omega)).trans ((Below.heap_alloc _ _ _ (by omega)).trans HR1.out)
    · exact (setRow_other _ _ _ _ (by omega)).trans ((Below.heap_alloc _ _ _ (by omega)).trans HC1.out)
    · exact setRow_heap _ _ _ _ _ _ (heap_alloc_new w1 _)
  case round =>
    obtain ⟨k, hk, rfl, hm, hr, hh, hsz, hB, hri⟩ := hrel
    have HR := Lib.hid hr
    have HH := Lib.hid hh
    have HB := Lib.hid hB
    have HRI := Lib.hid hri
    clear hr hh hB hri HC1 HR1 M1
    by_cases hlt : k < n
    · have hLr : ∀ j, j < n → wr.cell? ⟨L, o + j * 2, none⟩ = some (.int .u32 (l.getD j (0, false)).1) ∧ wr.cell? ⟨L, o + j * 2 + 1, none⟩ = some (.bool (l.getD j (0, false)).2) := fun j hj =>
        ⟨(World.cell?_of_block (hm.same L hLs (fun e => e))).trans (HLL.out j (by rw [← HN.out]; exact hj)).1, (World.cell?_of_block (hm.same L hLs (fun e => e))).trans (HLL.out j (by rw [← HN.out]; exact hj)).2⟩
      obtain ⟨ck, ck'⟩ := hLr k hlt
      obtain ⟨v0, v1⟩ := HBD.out k
      have hlB : (blockOf ([1280199249, 1, s, (n : Int)] ++ flatT (l.take k))).length = 256 := blockOf_len _
      have hpk : Hid ((if (l.getD k (0, false)).2 = true then put32 (put32 (blockOf ([1280199249, 1, s, (n : Int)] ++ flatT (l.take k))) (16 + 8 * k) (l.getD k (0, false)).1) (16 + 8 * k + 4) 1 else put32 (blockOf ([1280199249, 1, s, (n : Int)] ++ flatT (l.take k))) (16 + 8 * k) (l.getD k (0, false)).1) = blockOf ([1280199249, 1, s, (n : Int)] ++ flatT (l.take (k + 1)))) := by
        show _ = _
        have hkl : k < l.length := by have := HN.out; omega
        have hlk : (l.take k).length = k := by rw [List.length_take]; omega
        have hg : l.getD k (0, false) = l[k] := by rw [List.getD_eq_getElem?_getD, List.getElem?_eq_getElem hkl]; rfl
        rw [hg, List.take_succ_eq_append_getElem hkl, flatT_snoc, ← List.append_assoc, ← List.append_assoc]
        have e1 : 4 * (([1280199249, 1, s, (n : Int)] ++ flatT (l.take k)) : List Int).length = 16 + 8 * k := by rw [List.length_append, flatT_len, hlk]; simp; omega
        have e2 : 4 * (([1280199249, 1, s, (n : Int)] ++ flatT (l.take k) ++ [l[k].1]) : List Int).length = 16 + 8 * k + 4 := by rw [List.length_append, Nat.mul_add, e1]; rfl
        cases he : l[k].2
        · rw [if_neg (by simp), show fl false = 0 from rfl, blockOf_snoc0 _ (by rw [e2]; omega), blockOf_snoc, e1]
        · rw [if_pos rfl, show fl true = 1 from rfl, blockOf_snoc, blockOf_snoc, e1, e2]
      have hmul : IntKind.i64.wrap ((k : Int) * 8) = (k : Int) * 8 := IntWalk.i64_in _ (by omega)
      have hadd : IntKind.i64.wrap (16 + (k : Int) * 8) = 16 + (k : Int) * 8 := IntWalk.i64_in _ (by omega)
      obtain ⟨xe, hx⟩ : ∃ x, l.getD k (0, false) = x := ⟨_, rfl⟩
      rw [hx] at ck ck' v0 v1 hpk
      obtain ⟨x, e⟩ := xe
      simp only at ck ck' v0 v1 hpk
      have HX := Lib.hid hx
      clear hx
      obtain ⟨bs, hbs⟩ : ∃ b, blockOf ([1280199249, 1, s, (n : Int)] ++ flatT (l.take k)) = b := ⟨_, rfl⟩
      rw [hbs] at hlB hpk HB
      have HBS := Lib.hid hbs
      clear hbs
      obtain ⟨wq, rfl⟩ : ∃ wo : World, wo = wr := ⟨_, rfl⟩
      rcases k with _ | k
      · have hlr : Hid (∀ i, i + 1 < 0 + 1 → (l.getD i (0, false)).1 < (l.getD (i + 1) (0, false)).1) := fun i hi => by omega
        clear hLr HRI
        simp only [Nat.add_zero, Int.natCast_zero, Nat.zero_add, Nat.zero_mul] at *
        have x0 : (wq.alloc (.cells #[.int .u32 x, .bool e] 55)).cell? ⟨wq.heap.size, 0, none⟩ = some (.int .u32 x) := (cell_of_row _ _ 0 _ _ _ (heap_alloc_new wq _)).trans rfl
        have x1 : (wq.alloc (.cells #[.int .u32 x, .bool e] 55)).cell? ⟨wq.heap.size, 1, none⟩ = some (.bool e) := (cell_of_row _ _ 1 _ _ _ (heap_alloc_new wq _)).trans rfl
        have HRW := Lib.hid ((Below.heap_alloc wq (.cells #[.int .u32 x, .bool e] 55) _ (lt_of_row HR.out)).trans HR.out)
        have HHW := Lib.hid ((Below.heap_alloc wq (.cells #[.int .u32 x, .bool e] 55) _ (lt_of_row HH.out)).trans HH.out)
        have HBW := Lib.hid ((Below.heap_alloc wq (.cells #[.int .u32 x, .bool e] 55) _ (lt_of_row HB.out)).trans HB.out)
        have HMW := Lib.hid (hm.alloc (.cells #[.int .u32 x, .bool e] 55))
        have hzW : wq.heap.size < (wq.alloc (.cells #[.int .u32 x, .bool e] 55)).heap.size := by simp
        have c0 := (cell_of_row _ _ 0 _ _ _ HRW.out).trans q0
        have c2 := (cell_of_row _ _ 2 _ _ _ HRW.out).trans q2
        have c4 := (cell_of_row _ _ 4 _ _ _ HRW.out).trans q4
        go_wp2
        generalize (wq.alloc (.cells #[.int .u32 x, .bool e] 55)) = wz at *
        clear HR HH HB ck ck' hm
        go_quiet (fail)
        go_wp2_with fail
        refine (tags1 w1.heap.size (16 + 8 * (0)) _ _ _ bs _ (wz.drewN nq) HBW.out (by omega) hlB (by omega) v0 v1).mono ?_
        rintro e' w2 ⟨rfl, hmx, hbx⟩
        have hm2 := HMW.out.after (show Mod (one' w1.heap.size) wz w2 from ⟨hmx.os, hmx.tape, hmx.output, hmx.size, hmx.same⟩) (fun i hi e' => by simp only [one'] at e'; omega)
        have hr2 := hmx.row (k := w.heap.size) (o := .cells tagsV 80 (0, 0)) HRW.out (by simp only [one']; omega)
        have hh2 := hmx.row (k := w.heap.size + 1) (o := .cells (encB Z256) 28 (0, 0)) HHW.out (by simp only [one']; omega)
        have hs2 : w1.heap.size < w2.heap.size := by have := hmx.size; simp at this; omega
        rw [hpk.out] at hbx
        have HM2 := Lib.hid hm2
        have HR2 := Lib.hid hr2
        have HH2 := Lib.hid hh2
        have HB2 := Lib.hid hbx
        clear hm2 hr2 hh2 hbx hmx
        go_wp2
        go_roundw
        case rel => exact ⟨0 + 1, by omega, by go_num, HM2.out, HR2.out, HH2.out, hs2, HB2.out, hlr.out⟩
        case measure => simp [intOf]; omega
      · skip
        have HLR := Lib.hid hLr
        obtain ⟨cp, cp'⟩ := hLr k (by omega)
        obtain ⟨p0, p1⟩ := HBD.out k
        obtain ⟨yf, hy⟩ : ∃ x, l.getD k (0, false) = x := ⟨_, rfl⟩
        rw [hy] at cp cp' p0 p1
        obtain ⟨y, f⟩ := yf
        simp only at cp cp' p0 p1
        have hLq : L < wq.heap.size := by have := hm.size; omega
        have cp : (wq.alloc (.cells #[.int .u32 x, .bool e] 55)).cell? ⟨L, o + k * 2, none⟩ = some (.int .u32 y) := (World.cell?_of_block (Below.heap_alloc wq _ L hLq)).trans cp
        have cp' : (wq.alloc (.cells #[.int .u32 x, .bool e] 55)).cell? ⟨L, o + k * 2 + 1, none⟩ = some (.bool f) := (World.cell?_of_block (Below.heap_alloc wq _ L hLq)).trans cp'
        have hw1 : IntKind.i64.wrap (k : Int) = (k : Int) := by rw [IntWalk.i64_in _ (by omega)]
        have hw2 : IntKind.i64.wrap ((k : Int) + 1 - 1) = (k : Int) := by rw [IntWalk.i64_in _ (by omega)]; omega
        have z0 : (0 : Int) ≤ (k : Int) := by omega
        have z1 : (k : Int) < (n : Int) := by omega
        have z2 : (0 : Int) < (k : Int) + 1 := by omega
        have z3 : (k : Int) + 1 < (n : Int) := by omega
        rw [Int.natCast_add] at hmul hadd
        simp only [Int.cast_ofNat_Int] at hmul hadd
        by_cases hyx : y < x
        · have hd : decide (y < x) = true := decide_eq_true hyx
          have hlr : Hid (∀ i, i + 1 < k + 1 + 1 → (l.getD i (0, false)).1 < (l.getD (i + 1) (0, false)).1) := fun i hi => by
            by_cases e' : i = k
            · rw [e', hy, HX.out]; exact hyx
            · exact HRI.out i (by omega)
          have HY := Lib.hid hy
          clear hLr HRI hy
          have x0 : (wq.alloc (.cells #[.int .u32 x, .bool e] 55)).cell? ⟨wq.heap.size, 0, none⟩ = some (.int .u32 x) := (cell_of_row _ _ 0 _ _ _ (heap_alloc_new wq _)).trans rfl
          have x1 : (wq.alloc (.cells #[.int .u32 x, .bool e] 55)).cell? ⟨wq.heap.size, 1, none⟩ = some (.bool e) := (cell_of_row _ _ 1 _ _ _ (heap_alloc_new wq _)).trans rfl
          have HRW := Lib.hid ((Below.heap_alloc wq (.cells #[.int .u32 x, .bool e] 55) _ (lt_of_row HR.out)).trans HR.out)
          have HHW := Lib.hid ((Below.heap_alloc wq (.cells #[.int .u32 x, .bool e] 55) _ (lt_of_row HH.out)).trans HH.out)
          have HBW := Lib.hid ((Below.heap_alloc wq (.cells #[.int .u32 x, .bool e] 55) _ (lt_of_row HB.out)).trans HB.out)
          have HMW := Lib.hid (hm.alloc (.cells #[.int .u32 x, .bool e] 55))
          have hzW : wq.heap.size < (wq.alloc (.cells #[.int .u32 x, .bool e] 55)).heap.size := by simp
          have c0 := (cell_of_row _ _ 0 _ _ _ HRW.out).trans q0
          have c2 := (cell_of_row _ _ 2 _ _ _ HRW.out).trans q2
          have c4 := (cell_of_row _ _ 4 _ _ _ HRW.out).trans q4
          go_wp2
          generalize (wq.alloc (.cells #[.int .u32 x, .bool e] 55)) = wz at *
          clear HLR HR HH HB ck ck' hm
          have hLz : L < wz.heap.size := by omega
          have hwz : w.heap.size < wz.heap.size := lt_of_row HRW.out
          go_region_held3 (fun w' => w'.cell? ⟨w.heap.size, 4, none⟩ = some (.func (.func 55) #[] #[]) ∧ w'.cell? ⟨L, o + k * 2, none⟩ = some (.int .u32 y) ∧ w'.cell? ⟨L, o + k * 2 + 1, none⟩ = some (.bool f) ∧ w'.cell? ⟨wq.heap.size, 0, none⟩ = some (.int .u32 x) ∧ w'.cell? ⟨wq.heap.size, 1, none⟩ = some (.bool e)) (first | go_keep | (go_split_ands; exact ⟨(World.cell?_of_block (hmy.same _ hwz (fun e' => e'))).trans c4, (World.cell?_of_block (hmy.same _ hLz (fun e' => e'))).trans cp, (World.cell?_of_block (hmy.same _ hLz (fun e' => e'))).trans cp', (World.cell?_of_block (hmy.same _ hzW (fun e' => e'))).trans x0, (World.cell?_of_block (hmy.same _ hzW (fun e' => e'))).trans x1⟩)) (first | (go_at_call 55; refine (tags3 y x f e wz.drew).mono ?_; rintro e' w3 ⟨rfl, hmy⟩; rw [hd]))
          have HM3 := Lib.hid (HMW.out.trans hmy.drew0)
          have HR3 := Lib.hid (hmy.row (k := w.heap.size) (o := .cells tagsV 80 (0, 0)) HRW.out (fun e' => e'))
          have HH3 := Lib.hid (hmy.row (k := w.heap.size + 1) (o := .cells (encB Z256) 28 (0, 0)) HHW.out (fun e' => e'))
          have HB3 := Lib.hid (hmy.row (k := w1.heap.size) (o := .cells (encB bs) 28 (0, 0)) HBW.out (fun e' => e'))
          have hz3 : w1.heap.size < w3.heap.size := lt_of_row HB3.out
          have d0 := (cell_of_row _ _ 0 _ _ _ HR3.out).trans q0
          have d2 := (cell_of_row _ _ 2 _ _ _ HR3.out).trans q2
          have y0 : w3.cell? ⟨wq.heap.size, 0, none⟩ = some (.int .u32 x) := (World.cell?_of_block (hmy.same _ hzW (fun e' => e'))).trans x0
          have y1 : w3.cell? ⟨wq.heap.size, 1, none⟩ = some (.bool e) := (World.cell?_of_block (hmy.same _ hzW (fun e' => e'))).trans x1
          clear hmy c0 c2 c4 cp cp' x0 x1 HMW HRW HHW HBW
          go_wp2_with fail
          refine (tags1 w1.heap.size (16 + 8 * (k + 1)) _ _ _ bs _ w3 HB3.out (by omega) hlB (by omega) v0 v1).mono ?_
          rintro e' w2 ⟨rfl, hmx, hbx⟩
          have hm2 := HM3.out.after hmx (fun i hi e' => by simp only [one'] at e'; omega)
          have hr2 := hmx.row (k := w.heap.size) (o := .cells tagsV 80 (0, 0)) HR3.out (by simp only [one']; omega)
          have hh2 := hmx.row (k := w.heap.size + 1) (o := .cells (encB Z256) 28 (0, 0)) HH3.out (by simp only [one']; omega)
          have hs2 : w1.heap.size < w2.heap.size := by have := hmx.size; omega
          rw [hpk.out] at hbx
          have HM2 := Lib.hid hm2
          have HR2 := Lib.hid hr2
          have HH2 := Lib.hid hh2
          have HB2 := Lib.hid hbx
          clear hm2 hr2 hh2 hbx hmx
          go_wp2
          go_roundw
          case rel => exact ⟨k + 1 + 1, by omega, by go_num, HM2.out, HR2.out, HH2.out, hs2, HB2.out, hlr.out⟩
          case measure => simp [intOf]; omega
        · have hd : decide (y < x) = false := decide_eq_false hyx
          have HRR : Hid (wDesc s l = none) := by
            show _ = _
            rw [wDesc, if_neg]
            intro hh
            have := (risesT_iff l).1 hh.2.2.2 k (by have := HN.out; omega)
            rw [hy, HX.out] at this
            exact hyx this
          clear hLr HRI hy
          have x0 : (wq.alloc (.cells #[.int .u32 x, .bool e] 55)).cell? ⟨wq.heap.size, 0, none⟩ = some (.int .u32 x) := (cell_of_row _ _ 0 _ _ _ (heap_alloc_new wq _)).trans rfl
          have x1 : (wq.alloc (.cells #[.int .u32 x, .bool e] 55)).cell? ⟨wq.heap.size, 1, none⟩ = some (.bool e) := (cell_of_row _ _ 1 _ _ _ (heap_alloc_new wq _)).trans rfl
          have HRW := Lib.hid ((Below.heap_alloc wq (.cells #[.int .u32 x, .bool e] 55) _ (lt_of_row HR.out)).trans HR.out)
          have HHW := Lib.hid ((Below.heap_alloc wq (.cells #[.int .u32 x, .bool e] 55) _ (lt_of_row HH.out)).trans HH.out)
          have HBW := Lib.hid ((Below.heap_alloc wq (.cells #[.int .u32 x, .bool e] 55) _ (lt_of_row HB.out)).trans HB.out)
          have HMW := Lib.hid (hm.alloc (.cells #[.int .u32 x, .bool e] 55))
          have hzW : wq.heap.size < (wq.alloc (.cells #[.int .u32 x, .bool e] 55)).heap.size := by simp
          have c0 := (cell_of_row _ _ 0 _ _ _ HRW.out).trans q0
          have c2 := (cell_of_row _ _ 2 _ _ _ HRW.out).trans q2
          have c4 := (cell_of_row _ _ 4 _ _ _ HRW.out).trans q4
          go_wp2
          generalize (wq.alloc (.cells #[.int .u32 x, .bool e] 55)) = wz at *
          clear HLR HR HH HB ck ck' hm
          have hLz : L < wz.heap.size := by omega
          have hwz : w.heap.size < wz.heap.size := lt_of_row HRW.out
          go_region_held3 (fun w' => w'.cell? ⟨w.heap.size, 4, none⟩ = some (.func (.func 55) #[] #[]) ∧ w'.cell? ⟨L, o + k * 2, none⟩ = some (.int .u32 y) ∧ w'.cell? ⟨L, o + k * 2 + 1, none⟩ = some (.bool f) ∧ w'.cell? ⟨wq.heap.size, 0, none⟩ = some (.int .u32 x) ∧ w'.cell? ⟨wq.heap.size, 1, none⟩ = some (.bool e)) (first | go_keep | (go_split_ands; exact ⟨(World.cell?_of_block (hmy.same _ hwz (fun e' => e'))).trans c4, (World.cell?_of_block (hmy.same _ hLz (fun e' => e'))).trans cp, (World.cell?_of_block (hmy.same _ hLz (fun e' => e'))).trans cp', (World.cell?_of_block (hmy.same _ hzW (fun e' => e'))).trans x0, (World.cell?_of_block (hmy.same _ hzW (fun e' => e'))).trans x1⟩)) (first | (go_at_call 55; refine (tags3 y x f e wz.drew).mono ?_; rintro e' w3 ⟨rfl, hmy⟩; rw [hd]))
          have HM3 := Lib.hid (HMW.out.trans hmy.drew0)
          have HH3 := Lib.hid (hmy.row (k := w.heap.size + 1) (o := .cells (encB Z256) 28 (0, 0)) HHW.out (fun e' => e'))
          clear hmy c0 c2 c4 cp cp' x0 x1 HMW HRW HHW HBW
          go_wp2_with (first | (with_reducible refine wpList_buildZ' blkT ?_) | ((with_reducible refine wpList_storeB' blkT ?_ ?_ Z256_len Z256_len HH3.out ?_); rfl; rfl))
          refine bodyPost_ret (results_blk2 blkT rfl _ _ _ _ _ Z256_len rfl (setRow_heap _ _ _ _ _ _ HH3.out)) rfl ⟨?_, HM3.out.setRow (.inr (by simp)) _⟩
          rw [HRR.out]; rfl
    · have ek : k = n := by omega
      subst ek
      have hkl : l.take k = l := by rw [List.take_of_length_le]; have := HN.out; omega
      have HRR : Hid (wDesc s l = some (blockOf ([1280199249, 1, s, (k : Int)] ++ flatT l))) := by
        show _ = _
        rw [wDesc, if_pos ⟨H1.out, by have := HN.out; omega, by have := HN.out; omega, (risesT_iff l).2 (fun i hi => HRI.out i (by have := HN.out; omega))⟩, ← HN.out]
      rw [hkl] at HB
      have hlB : (blockOf ([1280199249, 1, s, (k : Int)] ++ flatT l)).length = 256 := blockOf_len _
      clear HRI hkl
      go_wp2_with (first | ((with_reducible refine wpList_loadB' blkT ?_ hlB HB.out ?_); rfl) | ((with_reducible refine wpList_storeB' blkT ?_ ?_ hlB Z256_len HH.out ?_); rfl; rfl))
      refine bodyPost_ret (results_blk2 blkT rfl _ _ _ _ _ hlB rfl (setRow_heap _ _ _ _ _ _ HH.out)) rfl ⟨?_, hm.setRow (.inr (by simp)) _⟩
      rw [HRR.out]; rfl
end Go.Proofs.Ytckadanghhibhaa
