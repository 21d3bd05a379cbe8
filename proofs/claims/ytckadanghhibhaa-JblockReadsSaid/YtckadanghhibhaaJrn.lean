/- Lists are read: numbers. -/
import Derived.Test.YtckadanghhibhaaJg
import Derived.Test.YtckadanghhibhaaMk
namespace Go.Proofs.Ytckadanghhibhaa
open Go.RowKit

def encN (l : List Int) : Array Value := (l.map (Value.int .u32)).toArray
def numsOf (bs : List UInt8) (n : Nat) : List Int := (List.range n).map fun i => get32 bs (16 + 4 * i)
theorem numsOf_len (bs : List UInt8) (n : Nat) : (numsOf bs n).length = n := by simp [numsOf]
theorem numsOf_get (bs : List UInt8) (n k : Nat) (h : k < n) : (numsOf bs n).getD k 0 = get32 bs (16 + 4 * k) := by simp [numsOf, h]
theorem numsOf_bd (bs : List UInt8) (n k : Nat) : 0 ≤ (numsOf bs n).getD k 0 ∧ (numsOf bs n).getD k 0 < 4294967296 := by
  by_cases h : k < n
  · rw [numsOf_get _ _ _ h]; exact get32_bd _ _
  · simp [numsOf, h]

def rRevoke (bs : List UInt8) : Option (Int × List Int) :=
  if (kindB bs).1 = 3 ∧ get32 bs 12 ≤ 60 ∧ wRevoke (kindB bs).2 (numsOf bs (get32 bs 12).toNat) = some bs then some ((kindB bs).2, numsOf bs (get32 bs 12).toNat) else none
def GotN (e : Ending) (w w' : World) : Option (Int × List Int) → Prop
  | none => e = .returned (.tuple #[.int .u32 0, .slice none 0 0, .int .i64 90])
  | some (s, l) => ∃ L, w.heap.size ≤ L ∧ w'.heap[L]? = some (.cells (encN l) 22 (0, 0)) ∧ e = .returned (.tuple #[.int .u32 s, .slice (some ⟨L, 0, none⟩) l.length l.length, .int .i64 0])

theorem row_encN {w : World} {L n : Nat} {t : TypeId} {f : Nat → Value} {l : List Int} (h : w.rowIs L t n f) (hn : l.length = n) (hf : ∀ j, j < n → f j = .int .u32 (l.getD j 0)) : w.heap[L]? = some (.cells (encN l) t (0, 0)) := by
  obtain ⟨c, hb, hs, hc⟩ := h
  rw [hb]
  congr 2
  apply Array.ext
  · simp [encN, hs, hn]
  · intro i h1 h2
    have e := hc i (by omega)
    rw [hf i (by omega), Array.getElem?_eq_getElem h1] at e
    have hi : i < l.length := by omega
    simp [encN, List.getD_eq_getElem?_getD, hi] at e ⊢
    exact e

theorem infoU32 : (Try.prog.info? 22 ).map (fun i => (i.zero, i.size, i.bytes)) = some (some (.int .u32 0), 1, 4) := by kernel_rfl

set_option maxRecDepth 100000 in
set_option maxHeartbeats 4000000 in
theorem jreadN (bs : List UInt8) (hl : bs.length = 256) (w : World) :
    Calls Try.prog 47 #[.int .u8 3, .agg (encB bs), .agg numsV] w fun e w' => GotN e w w' (rRevoke bs) ∧ Mod none' w w' := by
  obtain ⟨RB, RR, M0⟩ := two_new w (.cells (encB bs) 28) (.cells numsV 87)
  have HB := Lib.hid RB
  have HRr := Lib.hid RR
  clear RB RR
  have q0 : numsV[0]? = some (.int .i64 4) := rfl
  have q1 : numsV[1]? = some (.int .i64 60) := rfl
  have q2 : numsV[2]? = some (.func (.func 45) #[] #[]) := rfl
  have q3 : numsV[3]? = some (.func (.func 46) #[] #[]) := rfl
  have q4 : numsV[4]? = some (.func (.func 56) #[] #[]) := rfl
  obtain ⟨kp, hk⟩ : ∃ k, kindB bs = k := ⟨_, rfl⟩
  obtain ⟨s0, s1⟩ := kindB_bd bs
  obtain ⟨c0, c1⟩ := get32_bd bs 12
  have HR : Hid (rRevoke bs = if (kindB bs).1 = 3 ∧ get32 bs 12 ≤ 60 ∧ wRevoke (kindB bs).2 (numsOf bs (get32 bs 12).toNat) = some bs then some ((kindB bs).2, numsOf bs (get32 bs 12).toNat) else none) := rfl
  rw [hk] at s0 s1 HR
  obtain ⟨k, s⟩ := kp
  obtain ⟨c, hc⟩ : ∃ c, get32 bs 12 = c := ⟨_, rfl⟩
  simp only at s0 s1 HR
  rw [hc] at c0 c1 HR
  have E1 : Hid (resK (kindB bs) = .tuple #[.int .u8 k, .int .u32 s]) := by show _ = _; rw [hk]; rfl
  have E2 := Lib.hid hc
  clear hk hc
  obtain ⟨n, rfl⟩ : ∃ n : Nat, c = n := ⟨c.toNat, by omega⟩
  have hwc : IntKind.i64.wrap (n : Int) = (n : Int) := IntWalk.i64_in _ (by omega)
  rw [Int.toNat_natCast] at HR
  by_cases hk3 : k = 3
  rotate_left
  · have HR2 : Hid (rRevoke bs = none) := by show _ = _; rw [HR.out, if_neg (fun h => hk3 h.1)]
    go_enter Try.func47, Try.ntmps47
    go_wp2_with (first | ((with_reducible refine wpList_loadBg blkT ?_ ?_ hl HB.out ?_); rfl; rfl))
    refine (jkind bs hl _).mono ?_
    rintro e w1 ⟨rfl, hm⟩
    rw [E1.out]
    have M1 := M0.trans hm
    have HB := Lib.hid (hm.row (k := w.heap.size) HB.out (fun e => e))
    have HRr := Lib.hid (hm.row (k := w.heap.size + 1) HRr.out (fun e => e))
    have r1 := (cell_of_row _ _ 1 _ _ _ HRr.out).trans q1
    clear hm M0
    go_wp2_with (first | (go_at_call 46; refine (jget_at _ 12 _ bs _ _ HB.out hl (by decide) (by decide)).mono ?_; rintro e w' ⟨rfl, rfl⟩; rw [E2.out]))
    go_ret3
    exact ⟨by rw [HR2.out]; rfl, M1⟩
  subst hk3
  by_cases hn60 : n ≤ 60
  rotate_left
  · have HR2 : Hid (rRevoke bs = none) := by show _ = _; rw [HR.out, if_neg (fun h => by omega)]
    have hI : (60 : Int) < (n : Int) := by omega
    go_enter Try.func47, Try.ntmps47
    go_wp2_with (first | ((with_reducible refine wpList_loadBg blkT ?_ ?_ hl HB.out ?_); rfl; rfl))
    refine (jkind bs hl _).mono ?_
    rintro e w1 ⟨rfl, hm⟩
    rw [E1.out]
    have M1 := M0.trans hm
    have HB := Lib.hid (hm.row (k := w.heap.size) HB.out (fun e => e))
    have HRr := Lib.hid (hm.row (k := w.heap.size + 1) HRr.out (fun e => e))
    have r1 := (cell_of_row _ _ 1 _ _ _ HRr.out).trans q1
    clear hm M0
    go_wp2_with (first | (go_at_call 46; refine (jget_at _ 12 _ bs _ _ HB.out hl (by decide) (by decide)).mono ?_; rintro e w' ⟨rfl, rfl⟩; rw [E2.out]))
    go_ret3
    exact ⟨by rw [HR2.out]; rfl, M1⟩
  go_enter Try.func47, Try.ntmps47
  go_wp2_with (first | ((with_reducible refine wpList_loadBg blkT ?_ ?_ hl HB.out ?_); rfl; rfl))
  refine (jkind bs hl _).mono ?_
  rintro e w1 ⟨rfl, hm⟩
  rw [E1.out]
  have M1 := M0.trans hm
  have HB := Lib.hid (hm.row (k := w.heap.size) HB.out (fun e => e))
  have HRr := Lib.hid (hm.row (k := w.heap.size + 1) HRr.out (fun e => e))
  have r1 := (cell_of_row _ _ 1 _ _ _ HRr.out).trans q1
  clear hm M0
  go_wp2_with fail
  refine (jget_at _ 12 _ bs _ _ HB.out hl (by decide) (by decide)).mono ?_
  rintro e w' ⟨rfl, rfl⟩
  rw [E2.out]
  have hdd : decide ((60 : Int) < (n : Int)) = false := decide_eq_false (by omega)
  have HN60 := Lib.hid hn60
  clear hn60
  go_wp2_with (first | (at_make; (refine wpList_makeC _ rfl _ _ 26 rfl 22 (.int .u32 0) 1 4 Try.underlying26 infoU32 .i64 .i64 n rfl rfl (by have := HN60.out; omega) (by have := HN60.out; omega) ?_)))
  have hz1 : w.heap.size + 1 < w1.heap.size := lt_of_row HRr.out
  clear r1
  go_loopw [13, 36] (fun v13 i wr => ∃ k : Nat, k ≤ n ∧ i = .int .i64 k ∧ Mod none' w wr ∧ wr.heap[w.heap.size]? = some (.cells (encB bs) 28 (0, 0)) ∧ wr.heap[w.heap.size + 1]? = some (.cells numsV 87 (0, 0)) ∧ ∃ f, wr.rowIs w1.heap.size 22 n f ∧ ∀ j, j < k → f j = .int .u32 (get32 bs (16 + 4 * j))) (fun _ i _ => n - (intOf i).toNat)
  case atStart =>
    exact ⟨0, by omega, rfl, M1.alloc _, (Below.heap_alloc _ _ _ (by omega)).trans HB.out, (Below.heap_alloc _ _ _ (by omega)).trans HRr.out, _, World.rowIs_made w1 _ n _, fun j hj => by omega⟩
  case round =>
    obtain ⟨k, hk, rfl, hm, hb, hr, f, hf, hfk⟩ := hrel
    have HB := Lib.hid hb
    have HRr := Lib.hid hr
    have HF := Lib.hid hf
    have HFK := Lib.hid hfk
    clear hb hr hf hfk M1
    have hsz : w1.heap.size < wr.heap.size := HF.out.lt
    by_cases hlt : k < n
    · have r3 := (cell_of_row _ _ 3 _ _ _ HRr.out).trans q3
      have r0 := (cell_of_row _ _ 0 _ _ _ HRr.out).trans q0
      have rk := HF.out.cell hlt
      have rz := HF.out.frozen k
      have hn' : n ≤ 60 := HN60.out
      have hmul : IntKind.i64.wrap ((k : Int) * 4) = (k : Int) * 4 := IntWalk.i64_in _ (by omega)
      have hadd : IntKind.i64.wrap (16 + (k : Int) * 4) = 16 + (k : Int) * 4 := IntWalk.i64_in _ (by omega)
      have he : 16 + (k : Int) * 4 = ((16 + 4 * k : Nat) : Int) := by omega
      have hp : 16 + 4 * k + 4 ≤ 256 := by omega
      have HE := Lib.hid he
      have z0 : (0 : Int) ≤ (k : Int) := by omega
      have z1 : (k : Int) < (n : Int) := by omega
      clear he hn'
      obtain ⟨v, hv⟩ : ∃ v, get32 bs (16 + 4 * k) = v := ⟨_, rfl⟩
      have HV := Lib.hid hv
      clear hv
      obtain ⟨wq, rfl⟩ : ∃ wo : World, wo = wr := ⟨_, rfl⟩
      go_wp2_with fail
      refine (jget_at _ (16 + 4 * k) _ bs _ _ HB.out hl HE.out hp).mono ?_
      rintro e w2 ⟨rfl, rfl⟩
      rw [HV.out]
      go_wp2
      go_roundw
      case rel =>
        refine ⟨k + 1, by omega, by go_num, hm.setCell (p := ⟨w1.heap.size, k, none⟩) (.inr (by show w.heap.size ≤ w1.heap.size; omega)) _, ?_, ?_, _, HF.out.set k _, fun j hj => ?_⟩
        · exact (Below.heap_setCell _ _ _ _ (by show _ ≠ w1.heap.size; omega)).trans HB.out
        · exact (Below.heap_setCell _ _ _ _ (by show _ ≠ w1.heap.size; omega)).trans HRr.out
        · by_cases e : j = k
          · rw [if_pos e, e, HV.out]
          · rw [if_neg e]; exact HFK.out j (by omega)
      case measure => simp [intOf]; omega
    · have ek : k = n := by omega
      subst ek
      have hrow := row_encN HF.out (numsOf_len bs k) (fun j hj => by rw [HFK.out j hj, numsOf_get _ _ _ hj])
      have HL := Lib.hid hrow
      have hcell : ∀ j, j < (numsOf bs k).length → wr.cell? ⟨w1.heap.size, 0 + j, none⟩ = some (.int .u32 ((numsOf bs k).getD j 0)) := fun j hj => by
        rw [numsOf_len] at hj
        rw [Nat.zero_add, HF.out.cell hj, HFK.out j hj, numsOf_get _ _ _ hj]
      have HC := Lib.hid hcell
      have r0 := (cell_of_row _ _ 0 _ _ _ HRr.out).trans q0
      have r1 := (cell_of_row _ _ 1 _ _ _ HRr.out).trans q1
      have r2 := (cell_of_row _ _ 2 _ _ _ HRr.out).trans q2
      have r3 := (cell_of_row _ _ 3 _ _ _ HRr.out).trans q3
      have r4 := (cell_of_row _ _ 4 _ _ _ HRr.out).trans q4
      have hI : (k : Int) ≤ 60 := by have := HN60.out; omega
      clear hrow hcell
      obtain ⟨r, hr⟩ : ∃ r, wRevoke s (numsOf bs k) = r := ⟨_, rfl⟩
      have E4 : Hid (resB (wRevoke s (numsOf bs k)) = resB r) := by show _ = _; rw [hr]
      have hlr : (blkOf r).length = 256 := by rw [← hr]; exact wRevoke_len _ _
      have HR' : Hid (rRevoke bs = if r = some bs then some (s, numsOf bs k) else none) := by
        show _ = _
        rw [HR.out, hr]
        by_cases e : r = some bs
        · rw [if_pos ⟨by simp, hI, e⟩, if_pos e]
        · rw [if_neg (fun h => e h.2.2), if_neg e]
      clear hr HR
      obtain ⟨wq, rfl⟩ : ∃ wo : World, wo = wr := ⟨_, rfl⟩
      cases r with
      | none =>
        have HR2 : Hid (rRevoke bs = none) := by show _ = _; rw [HR'.out, if_neg (by simp)]
        have hlr : Z256.length = 256 := Z256_len
        have E4 : Hid (resB (wRevoke s (numsOf bs k)) = .tuple #[.agg (encB Z256), .int .i64 2]) := E4
        go_wp2_with fail
        refine (jwriteN w1.heap.size 0 k k (numsOf bs k) s _ (numsOf_len bs k).symm (by have := HN60.out; omega) s0 s1 HC.out (numsOf_bd bs k) _ (.inr ⟨rfl, hsz⟩)).mono ?_
        rintro e w4 ⟨rfl, hx⟩
        rw [E4.out]
        obtain ⟨n4, m4⟩ := put_new w4 Z256
        have hx := hx.trans m4
        have HB := Lib.hid (hx.row (k := w.heap.size) HB.out (fun e => e))
        have HL := Lib.hid (hx.row (k := w1.heap.size) HL.out (fun e => e))
        have HX := Lib.hid n4
        have HO4 := Lib.hid (heap_alloc_new w4 (.cells (encB Z256) 28))
        have M4 := hm.trans hx
        clear hm hx m4 n4
        go_wp2_with (first | ((with_reducible refine wpList_storeB' blkT ?_ ?_ hlr Z256_len HO4.out ?_); rfl; rfl) | (with_reducible refine wpList_allocB' blkT ?_) | ((with_reducible refine wpList_loadBg blkT ?_ ?_ hlr HX.out ?_); rfl; rfl) | ((with_reducible refine wpList_loadBg blkT ?_ ?_ hl HB.out ?_); rfl; rfl) | ((with_reducible refine wpList_neqBg blkT ?_ ?_ ?_ hlr hl ?_); rfl; rfl; rfl))
        go_ret3
        exact ⟨by rw [HR2.out]; rfl, M4⟩
      | some b =>
        have hlr : b.length = 256 := hlr
        have E4 : Hid (resB (wRevoke s (numsOf bs k)) = .tuple #[.agg (encB b), .int .i64 0]) := E4
        by_cases hb : b = bs
        · have HR2 : Hid (rRevoke bs = some (s, numsOf bs k)) := by show _ = _; rw [HR'.out, if_pos (by rw [hb])]
          replace hb := hb.symm
          subst hb
          go_wp2_with fail
          refine (jwriteN w1.heap.size 0 k k (numsOf bs k) s _ (numsOf_len bs k).symm (by have := HN60.out; omega) s0 s1 HC.out (numsOf_bd bs k) _ (.inr ⟨rfl, hsz⟩)).mono ?_
          rintro e w4 ⟨rfl, hx⟩
          rw [E4.out]
          obtain ⟨n4, m4⟩ := put_new w4 bs
          have hx := hx.trans m4
          have HB := Lib.hid (hx.row (k := w.heap.size) HB.out (fun e => e))
          have HL := Lib.hid (hx.row (k := w1.heap.size) HL.out (fun e => e))
          have HX := Lib.hid n4
          have HO4 := Lib.hid (heap_alloc_new w4 (.cells (encB Z256) 28))
          have M4 := hm.trans hx
          clear hm hx m4 n4
          go_wp2_with (first | ((with_reducible refine wpList_storeB' blkT ?_ ?_ hlr Z256_len HO4.out ?_); rfl; rfl) | (with_reducible refine wpList_allocB' blkT ?_) | ((with_reducible refine wpList_loadBg blkT ?_ ?_ hlr HX.out ?_); rfl; rfl) | ((with_reducible refine wpList_loadBg blkT ?_ ?_ hl HB.out ?_); rfl; rfl) | ((with_reducible refine wpList_neqBg blkT ?_ ?_ ?_ hlr hl ?_); rfl; rfl; rfl))
          go_ret3
          exact ⟨by rw [HR2.out]; exact ⟨w1.heap.size, by omega, HL.out, by rw [numsOf_len]; rfl⟩, M4⟩
        · have HR2 : Hid (rRevoke bs = none) := by show _ = _; rw [HR'.out, if_neg (by simpa using hb)]
          have hbb : (b == bs) = false := by simp [hb]
          clear hb
          go_wp2_with fail
          refine (jwriteN w1.heap.size 0 k k (numsOf bs k) s _ (numsOf_len bs k).symm (by have := HN60.out; omega) s0 s1 HC.out (numsOf_bd bs k) _ (.inr ⟨rfl, hsz⟩)).mono ?_
          rintro e w4 ⟨rfl, hx⟩
          rw [E4.out]
          obtain ⟨n4, m4⟩ := put_new w4 b
          have hx := hx.trans m4
          have HB := Lib.hid (hx.row (k := w.heap.size) HB.out (fun e => e))
          have HL := Lib.hid (hx.row (k := w1.heap.size) HL.out (fun e => e))
          have HX := Lib.hid n4
          have HO4 := Lib.hid (heap_alloc_new w4 (.cells (encB Z256) 28))
          have M4 := hm.trans hx
          clear hm hx m4 n4
          go_wp2_with (first | ((with_reducible refine wpList_storeB' blkT ?_ ?_ hlr Z256_len HO4.out ?_); rfl; rfl) | (with_reducible refine wpList_allocB' blkT ?_) | ((with_reducible refine wpList_loadBg blkT ?_ ?_ hlr HX.out ?_); rfl; rfl) | ((with_reducible refine wpList_loadBg blkT ?_ ?_ hl HB.out ?_); rfl; rfl) | ((with_reducible refine wpList_neqBg blkT ?_ ?_ ?_ hlr hl ?_); rfl; rfl; rfl))
          go_ret3
          exact ⟨by rw [HR2.out]; rfl, M4⟩
end Go.Proofs.Ytckadanghhibhaa
