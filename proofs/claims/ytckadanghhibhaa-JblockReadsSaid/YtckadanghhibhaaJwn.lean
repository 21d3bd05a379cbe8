/- Lists written into journal blocks: numbers. -/
import Derived.Test.YtckadanghhibhaaJt
namespace Go.Proofs.Ytckadanghhibhaa
open Go.RowKit

theorem sizes2 (w : World) (o p : Obj) : ((w.alloc o).alloc p).heap.size = w.heap.size + 2 := by simp

set_option maxHeartbeats 2000000 in
theorem jwriteN (L o n cap : Nat) (l : List Int) (s : Int) (w : World) (hn : n = l.length) (hcap : n ≤ 1000000) (s0 : 0 ≤ s) (s1 : s < 4294967296) (hL : ∀ k, k < l.length → w.cell? ⟨L, o + k, none⟩ = some (.int .u32 (l.getD k 0))) (hb : ∀ k, 0 ≤ l.getD k 0 ∧ l.getD k 0 < 4294967296)
    (a : Option Addr) (ha : n = 0 ∨ (a = some ⟨L, o, none⟩ ∧ L < w.heap.size)) :
    Calls Try.prog 43 #[.int .u8 3, .int .u32 s, .slice a n cap, .agg numsV] w fun e w' => e = .returned (resB (wRevoke s l)) ∧ Mod none' w w' := by
  obtain ⟨R0, H0, M0⟩ := two_new w (.cells numsV 87) (.cells (encB Z256) 28)
  have q0 : numsV[0]? = some (.int .i64 4) := rfl
  have q1 : numsV[1]? = some (.int .i64 60) := rfl
  have q2 : numsV[2]? = some (.func (.func 45) #[] #[]) := rfl
  have q4 : numsV[4]? = some (.func (.func 56) #[] #[]) := rfl
  have HC := Lib.hid H0
  have HRr := Lib.hid R0
  have HLL := Lib.hid hL
  have HBD := Lib.hid hb
  have HN := Lib.hid hn
  clear R0 H0 hL hb hn
  rcases Bool.eq_false_or_eq_true (seqB s) with h1 | h1
  rotate_left
  · skip
    have HR : Hid (wRevoke s l = none) := by show _ = _; rw [wRevoke, if_neg (by simp [h1])]
    have H1 := Lib.hid h1
    clear h1
    go_enter Try.func43, Try.ntmps43
    go_wp2_with (first | (with_reducible refine wpList_allocB' blkT ?_) | (with_reducible refine wpList_buildZ' blkT ?_) | ((with_reducible refine wpList_storeB' blkT ?_ ?_ Z256_len Z256_len HC.out ?_); rfl; rfl) | (go_at_call 37; refine (jnumbered _ _).mono ?_; rintro e w' ⟨rfl, rfl⟩; rw [H1.out]))
    refine bodyPost_ret (results_blk2 blkT rfl _ _ _ _ _ Z256_len rfl (setRow_heap _ _ _ _ _ _ HC.out)) rfl ⟨?_, M0.setRow (.inr (by simp)) _⟩
    rw [HR.out]; rfl
  by_cases c1 : 1 ≤ n
  rotate_left
  · have HR : Hid (wRevoke s l = none) := by show _ = _; rw [wRevoke, if_neg (by have := HN.out; omega)]
    have H1 := Lib.hid h1
    clear h1
    go_enter Try.func43, Try.ntmps43
    go_wp2_with (first | (with_reducible refine wpList_allocB' blkT ?_) | (with_reducible refine wpList_buildZ' blkT ?_) | ((with_reducible refine wpList_storeB' blkT ?_ ?_ Z256_len Z256_len HC.out ?_); rfl; rfl) | (go_at_call 37; refine (jnumbered _ _).mono ?_; rintro e w' ⟨rfl, rfl⟩; rw [H1.out]))
    refine bodyPost_ret (results_blk2 blkT rfl _ _ _ _ _ Z256_len rfl (setRow_heap _ _ _ _ _ _ HC.out)) rfl ⟨?_, M0.setRow (.inr (by simp)) _⟩
    rw [HR.out]; rfl
  by_cases c2 : n ≤ 60
  rotate_left
  · skip
    have HR : Hid (wRevoke s l = none) := by show _ = _; rw [wRevoke, if_neg (by have := HN.out; omega)]
    have H1 := Lib.hid h1
    clear h1
    go_enter Try.func43, Try.ntmps43
    go_wp2_with (first | (with_reducible refine wpList_allocB' blkT ?_) | (with_reducible refine wpList_buildZ' blkT ?_) | ((with_reducible refine wpList_storeB' blkT ?_ ?_ Z256_len Z256_len HC.out ?_); rfl; rfl) | (go_at_call 37; refine (jnumbered _ _).mono ?_; rintro e w' ⟨rfl, rfl⟩; rw [H1.out]))
    refine bodyPost_ret (results_blk2 blkT rfl _ _ _ _ _ Z256_len rfl (setRow_heap _ _ _ _ _ _ HC.out)) rfl ⟨?_, M0.setRow (.inr (by simp)) _⟩
    rw [HR.out]; rfl
  obtain ⟨hb1, hb2⟩ := seqB_bd h1
  have H1 := Lib.hid h1
  obtain ⟨rfl, hLs⟩ : a = some ⟨L, o, none⟩ ∧ L < w.heap.size := Or.resolve_left ha (by omega)
  have hl4 : (begunB 3 s n).length = 256 := begunB_len 3 s n
  clear ha h1
  go_enter Try.func43, Try.ntmps43
  go_wp2_with (first | (with_reducible refine wpList_allocB' blkT ?_) | (go_at_call 37; refine (jnumbered _ _).mono ?_; rintro e w' ⟨rfl, rfl⟩; rw [H1.out]))
  refine (jbegun _ _ _ _ (by omega) (by omega) (by omega) (by omega) (by omega) (by omega)).mono ?_
  rintro e w1 ⟨rfl, hm⟩
  have HC1 := Lib.hid (hm.row HC.out (fun e => e))
  have HR1 := Lib.hid (hm.row HRr.out (fun e => e))
  have M1 := M0.trans hm
  have hz1 : w.heap.size + 2 ≤ w1.heap.size := by have := hm.size; rw [sizes2] at this; exact this
  have HN1 := Lib.hid (heap_alloc_new w1 (.cells (encB Z256) 28))
  clear hm M0
  go_wp2_with (first | (with_reducible refine wpList_allocB' blkT ?_) | ((with_reducible refine wpList_storeB' blkT ?_ ?_ hl4 Z256_len HN1.out ?_); rfl; rfl))
  clear HN1
  have q3 : Hid (numsV.size = 5) := rfl
  go_loopw [11, 12, 37] (fun v11 v12 i wr => ∃ k : Nat, k ≤ n ∧ i = .int .i64 k ∧ Mod none' w wr ∧ wr.heap[w.heap.size]? = some (.cells numsV 87 (0, 0)) ∧ wr.heap[w.heap.size + 1]? = some (.cells (encB Z256) 28 (0, 0)) ∧ w1.heap.size < wr.heap.size ∧ wr.heap[w1.heap.size]? = some (.cells (encB (blockOf ([1280199249, 3, s, (n : Int)] ++ l.take k))) 28 (0, 0)) ∧ (∀ i, i + 1 < k → l.getD i 0 < l.getD (i + 1) 0)) (fun _ _ i _ => n - (intOf i).toNat)
  case atStart =>
    refine ⟨0, by omega, rfl, (M1.alloc _).setRow (.inr (by omega)) _, ?_, ?_, by simp, ?_, fun i hi => by omega⟩
    · exact (setRow_other _ _ _ _ (by omega)).trans ((Below.heap_alloc _ _ _ (by omega)).trans HR1.out)
    · exact (setRow_other _ _ _ _ (by omega)).trans ((Below.heap_alloc _ _ _ (by omega)).trans HC1.out)
    · exact setRow_heap _ _ _ _ _ _ (heap_alloc_new w1 _)
  case round =>
    obtain ⟨k, hk, rfl, hm, hr, hh, hsz, hB, hri⟩ := hrel
    have HR := Lib.hid hr
    have HH := Lib.hid hh
    have HB := Lib.hid hB
    have HRI := Lib.hid hri
    clear hr hh hB hri HC1 HR1 M1
    by_cases hlt : k < n
    · have hLr : ∀ j, j < n → wr.cell? ⟨L, o + j, none⟩ = some (.int .u32 (l.getD j 0)) := fun j hj => by
        rw [World.cell?_of_block (w := w) (hm.same L hLs (fun e => e))]; exact HLL.out j (by rw [← HN.out]; exact hj)
      have ck := hLr k hlt
      have c0 := (cell_of_row _ _ 0 _ _ _ HR.out).trans q0
      have c2 := (cell_of_row _ _ 2 _ _ _ HR.out).trans q2
      have c4 := (cell_of_row _ _ 4 _ _ _ HR.out).trans q4
      obtain ⟨v0, v1⟩ := HBD.out k
      have hlB : (blockOf ([1280199249, 3, s, (n : Int)] ++ l.take k)).length = 256 := blockOf_len _
      have hpk : Hid (put32 (blockOf ([1280199249, 3, s, (n : Int)] ++ l.take k)) (16 + 4 * k) (l.getD k 0) = blockOf ([1280199249, 3, s, (n : Int)] ++ l.take (k + 1))) := by
        show _ = _
        rw [List.take_succ_eq_append_getElem (by have := HN.out; omega), ← List.append_assoc, blockOf_snoc]
        congr 1
        · simp; have := HN.out; omega
        · have := HN.out; rw [List.getD_eq_getElem?_getD, List.getElem?_eq_getElem (by omega)]; rfl
      have hmul : IntKind.i64.wrap ((k : Int) * 4) = (k : Int) * 4 := IntWalk.i64_in _ (by omega)
      have hadd : IntKind.i64.wrap (16 + (k : Int) * 4) = 16 + (k : Int) * 4 := IntWalk.i64_in _ (by omega)
      obtain ⟨x, hx⟩ : ∃ x, l.getD k 0 = x := ⟨_, rfl⟩
      rw [hx] at ck v0 v1 hpk
      have HX := Lib.hid hx
      clear hx
      obtain ⟨bs, hbs⟩ : ∃ b, blockOf ([1280199249, 3, s, (n : Int)] ++ l.take k) = b := ⟨_, rfl⟩
      rw [hbs] at hlB hpk HB
      have HBS := Lib.hid hbs
      clear hbs
      obtain ⟨wq, rfl⟩ : ∃ wo : World, wo = wr := ⟨_, rfl⟩
      rcases k with _ | k
      · have hlr : Hid (∀ i, i + 1 < 0 + 1 → l.getD i 0 < l.getD (i + 1) 0) := fun i hi => by omega
        clear hLr HRI
        simp only [Nat.add_zero, Int.natCast_zero, Nat.zero_add] at *
        go_wp2
        go_quiet (fail)
        go_wp2_with fail
        refine (jput_at w1.heap.size (16 + 4 * (0)) _ _ bs _ (wq.drewN nq) HB.out (by omega) hlB (by omega) v0 v1).mono ?_
        rintro e w2 ⟨rfl, rfl⟩
        rw [hpk.out]
        have hm2 := (hm.drewN nq).setRow (g := w1.heap.size) (.inr (by omega)) (encB (blockOf ([1280199249, 3, s, (n : Int)] ++ l.take (0 + 1))))
        have hr2 := (setRow_other (wq.drewN nq) w1.heap.size w.heap.size (encB (blockOf ([1280199249, 3, s, (n : Int)] ++ l.take (0 + 1)))) (by omega)).trans HR.out
        have hh2 := (setRow_other (wq.drewN nq) w1.heap.size (w.heap.size + 1) (encB (blockOf ([1280199249, 3, s, (n : Int)] ++ l.take (0 + 1)))) (by omega)).trans HH.out
        have hb2 := setRow_heap (wq.drewN nq) w1.heap.size _ (encB (blockOf ([1280199249, 3, s, (n : Int)] ++ l.take (0 + 1)))) _ _ HB.out
        have HM2 := Lib.hid hm2
        have HR2 := Lib.hid hr2
        have HH2 := Lib.hid hh2
        have HB2 := Lib.hid hb2
        clear hm2 hr2 hh2 hb2 hm
        go_wp2
        go_roundw
        case rel => exact ⟨0 + 1, by omega, by go_num, HM2.out, HR2.out, HH2.out, by simpa using hsz, HB2.out, hlr.out⟩
        case measure => simp [intOf]; omega
      · have cp := hLr k (by omega)
        obtain ⟨p0, p1⟩ := HBD.out k
        obtain ⟨y, hy⟩ : ∃ x, l.getD k 0 = x := ⟨_, rfl⟩
        rw [hy] at cp p0 p1
        have hw1 : IntKind.i64.wrap (k : Int) = (k : Int) := by rw [IntWalk.i64_in _ (by omega)]
        have hw2 : IntKind.i64.wrap ((k : Int) + 1 - 1) = (k : Int) := by rw [IntWalk.i64_in _ (by omega)]; omega
        have z0 : (0 : Int) ≤ (k : Int) := by omega
        have z1 : (k : Int) < (n : Int) := by omega
        have z2 : (0 : Int) < (k : Int) + 1 := by omega
        have z3 : (k : Int) + 1 < (n : Int) := by omega
        rw [Int.natCast_add] at hmul hadd
        simp only [Int.cast_ofNat_Int] at hmul hadd
        by_cases hyx : y < x
        · have hd : decide (y < x) = true := decide_eq_true hyx
          have hlr : Hid (∀ i, i + 1 < k + 1 + 1 → l.getD i 0 < l.getD (i + 1) 0) := fun i hi => by
            by_cases e : i = k
            · rw [e, hy, HX.out]; exact hyx
            · exact HRI.out i (by omega)
          have HY := Lib.hid hy
          clear hLr HRI hy
          go_wp2
          go_quiet ((go_at_call 56; exact Calls.quiet_of_same (v := .bool true) ((nums1 y x _).mono (by rintro e w' ⟨rfl, rfl⟩; exact ⟨ret_bool hd, rfl⟩))))
          go_wp2_with fail
          refine (jput_at w1.heap.size (16 + 4 * (k + 1)) _ _ bs _ (wq.drewN nq) HB.out (by omega) hlB (by omega) v0 v1).mono ?_
          rintro e w2 ⟨rfl, rfl⟩
          rw [hpk.out]
          have hm2 := (hm.drewN nq).setRow (g := w1.heap.size) (.inr (by omega)) (encB (blockOf ([1280199249, 3, s, (n : Int)] ++ l.take (k + 1 + 1))))
          have hr2 := (setRow_other (wq.drewN nq) w1.heap.size w.heap.size (encB (blockOf ([1280199249, 3, s, (n : Int)] ++ l.take (k + 1 + 1)))) (by omega)).trans HR.out
          have hh2 := (setRow_other (wq.drewN nq) w1.heap.size (w.heap.size + 1) (encB (blockOf ([1280199249, 3, s, (n : Int)] ++ l.take (k + 1 + 1)))) (by omega)).trans HH.out
          have hb2 := setRow_heap (wq.drewN nq) w1.heap.size _ (encB (blockOf ([1280199249, 3, s, (n : Int)] ++ l.take (k + 1 + 1)))) _ _ HB.out
          have HM2 := Lib.hid hm2
          have HR2 := Lib.hid hr2
          have HH2 := Lib.hid hh2
          have HB2 := Lib.hid hb2
          clear hm2 hr2 hh2 hb2 hm
          go_wp2
          go_roundw
          case rel => exact ⟨k + 1 + 1, by omega, by go_num, HM2.out, HR2.out, HH2.out, by simpa using hsz, HB2.out, hlr.out⟩
          case measure => simp [intOf]; omega
        · have hd : decide (y < x) = false := decide_eq_false hyx
          have HRR : Hid (wRevoke s l = none) := by
            show _ = _
            rw [wRevoke, if_neg]
            intro hh
            have := (risesN_iff l).1 hh.2.2.2 k (by have := HN.out; omega)
            rw [hy, HX.out] at this
            exact hyx this
          clear hLr HRI hy
          go_wp2
          go_quiet ((go_at_call 56; exact Calls.quiet_of_same (v := .bool false) ((nums1 y x _).mono (by rintro e w' ⟨rfl, rfl⟩; exact ⟨ret_bool hd, rfl⟩))))
          go_wp2_with (first | (with_reducible refine wpList_buildZ' blkT ?_) | ((with_reducible refine wpList_storeB' blkT ?_ ?_ Z256_len Z256_len HH.out ?_); rfl; rfl))
          refine bodyPost_ret (results_blk2 blkT rfl _ _ _ _ _ Z256_len rfl (setRow_heap _ _ _ _ _ _ HH.out)) rfl ⟨?_, (hm.drewN _).setRow (.inr (by simp)) _⟩
          rw [HRR.out]; rfl
    · have ek : k = n := by omega
      subst ek
      have hkl : l.take k = l := by rw [List.take_of_length_le]; have := HN.out; omega
      have HRR : Hid (wRevoke s l = some (blockOf ([1280199249, 3, s, (k : Int)] ++ l))) := by
        show _ = _
        rw [wRevoke, if_pos ⟨H1.out, by have := HN.out; omega, by have := HN.out; omega, (risesN_iff l).2 (fun i hi => HRI.out i (by have := HN.out; omega))⟩, ← HN.out]
      rw [hkl] at HB
      have hlB : (blockOf ([1280199249, 3, s, (k : Int)] ++ l)).length = 256 := blockOf_len _
      clear HRI hkl
      go_wp2_with (first | ((with_reducible refine wpList_loadB' blkT ?_ hlB HB.out ?_); rfl) | ((with_reducible refine wpList_storeB' blkT ?_ ?_ hlB Z256_len HH.out ?_); rfl; rfl))
      refine bodyPost_ret (results_blk2 blkT rfl _ _ _ _ _ hlB rfl (setRow_heap _ _ _ _ _ _ HH.out)) rfl ⟨?_, hm.setRow (.inr (by simp)) _⟩
      rw [HRR.out]; rfl
end Go.Proofs.Ytckadanghhibhaa
