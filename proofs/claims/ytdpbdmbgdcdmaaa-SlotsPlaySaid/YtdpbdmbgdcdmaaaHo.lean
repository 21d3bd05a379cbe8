/- Has a block just these names? -/
import Derived.Test.YtdpbdmbgdcdmaaaPl
namespace Go.Proofs.Ytdpbdmbgdcdmaaa
open Go Go.RowKit

def encE (el : List En) : List Value := el.flatMap fun p => [Value.string p.1, .int .u32 p.2]
theorem encE_part {el : List En} {k : Nat} {p : En} (h : el[k]? = some p) : ∀ j v, [Value.string p.1, .int .u32 p.2][j]? = some v → (encE el)[k * 2 + j]? = some v :=
  flat_part (fun p : En => [Value.string p.1, .int .u32 p.2]) 2 el (fun _ _ => rfl) k p h
theorem taken_step {l : List Sl} {m : Nat} {y : Sl} (h : l[m]? = some y) : taken (l.take (m + 1)) = taken (l.take m) + if 0 < y.1 then 1 else 0 := by
  unfold taken
  rw [List.take_add_one, h, Option.toList_some, List.countP_append, List.countP_singleton]
  simp

section
variable {S : Nat → Prop} {w0 w : World} {L : List Ass}
set_option maxRecDepth 100000 in
set_option maxHeartbeats 8000000 in
theorem holds_any (HS : St S w0 w L) {bs : List UInt8} {l : List Sl} {el : List En} (hp : Play bs l el) {v : Value} (hv : Ass.own v 52 2 el.length (encE el) ∈ L) :
    Calls Try.prog 22 #[.agg (encB bs), v] w fun e w' => e = .returned (.bool true) ∧ St S w0 w' L := by
  obtain ⟨ad, cap, rfl⟩ := own_slice (HS.own hv)
  have HV := Lib.hid hv
  have HP := Lib.hid hp
  have HLB := Lib.hid hp.len
  have HSO := Lib.hid hp.sl
  have HLL := Lib.hid hp.eight
  have hzb : Hid ((encB bs).size = 256) := (encB_size _).trans hp.len
  have hmost := hp.most
  clear hv hp
  go_enter Try.func22, Try.ntmps22
  go_wp2_with (first | ((with_reducible apply sBox HS); rfl; (conv => (lhs; whnf)); (first | exact cells_agg _ | exact cells_one rfl); intro Bb w' H1; clear HS; have HS := H1; clear H1) | ((with_reducible apply sLoadB HS); infer_instance; rfl; rfl; (repeat (first | exact List.Mem.head _ | apply List.Mem.tail)); exact hzb.out) | (go_at_call 11; (with_reducible refine (list_any HS bs HLB.out).mono ?_); rintro e w' H1; rw [HSO.out] at H1; obtain ⟨g1, rfl, H2⟩ := H1; clear HS; have HS := H2; clear H2))
  go_loopw [7, 8] (fun nv iv wr => ∃ m c : Nat, m ≤ 8 ∧ c ≤ m ∧ iv = .int .i64 m ∧ nv = .int .i64 c ∧ Hid (taken (l.take m) = c) ∧ St S w0 wr (.blk true g1 (rowS l) 33 :: .blk true Bb (encB bs) 23 :: L)) (fun _ iv _ => 8 - (intOf iv).toNat)
  case atStart => exact ⟨0, 0, by omega, by omega, rfl, rfl, rfl, HS⟩
  case round =>
    obtain ⟨m, c, hm, hc, rfl, rfl, HT, HS⟩ := hrel
    by_cases hm8 : m < 8
    · obtain ⟨y, hy⟩ : ∃ y, l[m]? = some y := ⟨_, List.getElem?_eq_getElem (by have := HLL.out; omega)⟩
      have HC : Hid ((rowS l)[m * 2]? = some (.int .u32 y.1)) := rowS_part l m y hy 0 _ rfl
      have HTS := Lib.hid (taken_step hy)
      clear hy
      by_cases hpos : 0 < y.1
      · go_wp2_with (first | ((with_reducible apply sLoad1 HS); infer_instance; rfl; rfl; (repeat (first | exact List.Mem.head _ | apply List.Mem.tail)); exact HC.out))
        go_roundw
        case rel =>
          refine ⟨m + 1, c + 1, by omega, by omega, by go_num, by go_num, ?_, HS⟩
          show _ = _
          rw [HTS.out, HT.out, if_pos hpos]
        case measure => simp [intOf]; omega
      · go_wp2_with (first | ((with_reducible apply sLoad1 HS); infer_instance; rfl; rfl; (repeat (first | exact List.Mem.head _ | apply List.Mem.tail)); exact HC.out))
        go_roundw
        case rel =>
          refine ⟨m + 1, c, by omega, by omega, by go_num, by go_num, ?_, HS⟩
          show _ = _
          rw [HTS.out, HT.out, if_neg hpos]; rfl
        case measure => simp [intOf]; omega
    · obtain rfl : m = 8 := by omega
      have hce : c = el.length := by
        have h := HT.out
        rw [List.take_of_length_le (by rw [HLL.out]; omega), HP.out.cnt] at h
        exact h.symm
      subst hce
      go_wp2
      go_loopw [9] (fun iv wr => ∃ k : Nat, k ≤ el.length ∧ iv = .int .i64 k ∧ St S w0 wr (.blk true g1 (rowS l) 33 :: .blk true Bb (encB bs) 23 :: L)) (fun iv _ => el.length - (intOf iv).toNat)
      case atStart => exact ⟨0, by omega, rfl, HS⟩
      case round =>
        obtain ⟨k, hk, rfl, HS⟩ := hrel
        by_cases hkl : k < el.length
        · obtain ⟨p, hpk⟩ : ∃ p, el[k]? = some p := ⟨_, List.getElem?_eq_getElem hkl⟩
          obtain ⟨i, hf, hi, _⟩ := HP.out.found (List.mem_of_getElem? hpk)
          have hi8 : i < 8 := by have := (List.getElem?_eq_some_iff.1 hi).1; have := HLL.out; omega
          obtain ⟨g, cap', e⟩ : ∃ g cap', Value.slice ad el.length cap = .slice (some ⟨g, 0, none⟩) el.length cap' := by
            obtain ⟨g, cap', h1, _⟩ := own_row (HS.own (.tail _ (.tail _ HV.out))) (by omega)
            exact ⟨g, cap', h1⟩
          obtain ⟨rfl, rfl⟩ : ad = some ⟨g, 0, none⟩ ∧ cap = cap' := by simpa using e
          have HP0 : Hid ((encE el)[k * 2]? = some (.string p.1)) := encE_part hpk 0 _ rfl
          have HP1 : Hid ((encE el)[k * 2 + 1]? = some (.int .u32 p.2)) := encE_part hpk 1 _ rfl
          have HR0 : Hid ((rowS l)[i * 2]? = some (.int .u32 p.2)) := rowS_part l i (p.2, p.1) hi 0 _ rfl
          have HR1 : Hid ((rowS l)[i * 2 + 1]? = some (.string p.1)) := rowS_part l i (p.2, p.1) hi 1 _ rfl
          have HPF : Hid (∀ W, Calls Try.prog 13 #[.agg (encB bs), .string p.1] W fun e w' => e = .returned (.tuple #[.int .i64 i, .int .u32 p.2]) ∧ Mod none' W w') := fun W => (pfind_any (St.nil none' W) bs HLB.out p.1).mono fun _ _ h => ⟨by have := h.1; rw [hf] at this; exact this, h.2.mod⟩
          have hd0 : decide ((i : Int) < 0) = false := decide_eq_false (by omega)
          have hb1 : (p.2 != p.2) = false := by simp
          have hs1 : (p.1.toList == p.1.toList) = true := by simp
          clear hpk hf hi e
          go_wp2
          (try simp only [Act.put])
          refine wp_region_quietF (by kernel_rfl) (by kernel_rfl) ?_
          repeat (first | go_big_quiet_skip | (((with_reducible apply qLoadO1 HS); infer_instance; rfl; rfl; exact List.Mem.tail _ (List.Mem.tail _ HV.out); first | exact HP0.out | exact HP1.out); (try simp only [Act.put, List.setIfInBounds_toArray, List.set_cons_zero, List.set_cons_succ])) | (((with_reducible apply qLoadB HS); infer_instance; rfl; rfl; (repeat (first | exact List.Mem.head _ | apply List.Mem.tail)); exact hzb.out); (try simp only [Act.put, List.setIfInBounds_toArray, List.set_cons_zero, List.set_cons_succ])) | (go_big_quiet_want; go_big_quiet_op; first | go_big_quiet_on | (refine ⟨_, fun _ _ => rfl, ?_⟩; go_big_quiet_on) | (apply Exists.intro; refine ⟨fun wc hfr => ?_, ?_⟩; (· (go_at_call 13; exact fr_call hfr (HPF.out _))); go_big_quiet_on)))
          refine wpQuiet_nil ?_
          intro w1 hm1
          replace HS := HS.fresh hm1
          clear hm1
          go_wp2
          (try simp only [Act.put])
          refine wp_region_quietF (by kernel_rfl) (by kernel_rfl) ?_
          repeat (first | go_big_quiet_skip | (((with_reducible apply qLoadO1 HS); infer_instance; rfl; rfl; exact List.Mem.tail _ (List.Mem.tail _ HV.out); first | exact HP0.out | exact HP1.out); (try simp only [Act.put, List.setIfInBounds_toArray, List.set_cons_zero, List.set_cons_succ])) | (((with_reducible apply qLoad1 HS); infer_instance; rfl; rfl; (repeat (first | exact List.Mem.head _ | apply List.Mem.tail)); first | exact HR0.out | exact HR1.out); (try simp only [Act.put, List.setIfInBounds_toArray, List.set_cons_zero, List.set_cons_succ])) | (go_big_quiet_want; go_big_quiet_op; first | go_big_quiet_on | (refine ⟨_, fun _ _ => rfl, ?_⟩; go_big_quiet_on) | (apply Exists.intro; refine ⟨fun wc hfr => ?_, ?_⟩; (· fail); go_big_quiet_on)))
          refine wpQuiet_nil ?_
          intro w1 hm1
          replace HS := HS.fresh hm1
          clear hm1
          go_wp2
          go_roundw
          case rel => exact ⟨k + 1, by omega, by go_num, HS⟩
          case measure => simp [intOf]; omega
        · obtain rfl : k = el.length := by omega
          have hbe : ((el.length : Int) == (el.length : Int)) = true := by simp
          go_wp2
          go_ret
          exact ⟨rfl, HS.tail.tail⟩
end
end Go.Proofs.Ytdpbdmbgdcdmaaa
