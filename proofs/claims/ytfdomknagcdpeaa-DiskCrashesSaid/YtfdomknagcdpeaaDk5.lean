/- A new disk; blocks told by a number; images compared. -/
import Derived.Test.YtfdomknagcdpeaaDk4
namespace Go.Proofs.Ytfdomknagcdpeaa
open Go Go.RowKit

theorem hd_blk {L : List Ass} {w' : World} (hC : Hd L w') {rw : Bool} {B : Nat} {cs : Array Value} {t : TypeId} (hm : Ass.blk rw B cs t ∈ L) : w'.rangeAt B 0 cs.toList := by
  have hB : w'.heap[B]? = some (.cells cs t (0, 0)) := hC _ hm
  intro j v hj
  rw [Nat.zero_add, cell_of_row _ _ _ _ _ _ hB]
  simpa using hj
theorem St.blkOwn {S : Nat → Prop} {w0 w : World} {L L' : List Ass} (h : St S w0 w L) {B n sz : Nat} {cs : Array Value} {t : TypeId} (hs : cs.size = n * sz) (hn : n ≤ maxLen) (r : Rep (.blk true B cs t) (.own (.slice (some ⟨B, 0, none⟩) n n) t sz n cs.toList) L L') : St S w0 w L' := by
  refine h.rep r rfl (fun k hk => by simp [Ass.foot, Value.ownBlock] at hk; exact .inl hk.symm) (Mod.refl _ _) ?_
  exact ⟨by simpa using hs, .inr ⟨B, n, cs, rfl, Nat.zero_le _, h.blk r.mem, Nat.le_refl _, hn, hs, by rw [← hs, ← Array.length_toList, List.take_length]⟩⟩

/-- The block told by a number. -/
def fillB (v : Int) : List UInt8 := ((((Z256.set 0 (u8 v)).set 1 (u8 (v / 256))).set 2 (u8 (v / 65536))).set 3 (u8 (v / 16777216))).set 255 (u8 v)
theorem fillB_len (v : Int) : (fillB v).length = 256 := by simp [fillB, Z256_len]
theorem encB_set' {n : Int} (h0 : 0 ≤ n) (h1 : n < 256) (bs : List UInt8) (k : Nat) : (encB bs).setIfInBounds k (.int .u8 n) = encB (bs.set k (u8 n)) := by
  have h := encB_set bs k n
  rwa [Int.emod_eq_of_lt h0 h1] at h
instance : Plain Try.prog 5 := plain_mk Try.underlying5 rfl (by kernel_rfl)
instance : Plain Try.prog 34 := plain_mk Try.underlying34 rfl (by kernel_rfl)

section
variable {S : Nat → Prop} {w0 w : World} {L : List Ass}

theorem dk_new (HS : St S w0 w L) {n : Nat} (h0 : 1 ≤ n) (h1 : n ≤ 2048) :
    Calls Try.prog 23 #[.int .i64 n] w fun e w' => ∃ B g1 c1 g2 c2, e = .returned (.tuple #[.pointer (some ⟨B, 0, none⟩), .int .i64 0]) ∧ St S w0 w' (diskA (newD (List.replicate n Z256)) n B g1 c1 g2 c2 (.slice none 0 0) ++ L) := by
  have hd : decide ((n : Int) < 1) = false := by simp; omega
  go_enter Try.func23, Try.ntmps23
  go_wp2_with (first | ((with_reducible apply sMake HS Try.underlying24 infoB); rfl; rfl; rfl; omega; omega; intro Bz w' H1'; clear HS; have HS := H1'; clear H1') | (go_at_call 13; refine (dk_load HS (all256.rep n) (by simp) h0 h1 (fun w' hC => by have := hd_blk hC (.head _); rwa [cells_agg, made_blocks] at this)).mono ?_; rintro e w' ⟨B, g1, c1, g2, c2, rfl, H1'⟩; clear HS; have HS := H1'; clear H1'))
  go_ret2
  exact ⟨_, _, _, _, _, rfl, HS.fore1.tail⟩
theorem dk_new_no (w : World) (n : Int) (h : n < 1 ∨ 2048 < n) :
    Calls Try.prog 23 #[.int .i64 n] w fun e w' => e = .returned (.tuple #[.pointer none, .int .i64 2]) ∧ w = w' := by
  rcases Bool.eq_false_or_eq_true (decide (n < 1)) with hd | hd
  · go_enter Try.func23, Try.ntmps23
    go_wp2
    go_ret2
    exact ⟨rfl, rfl⟩
  · have h2 : 2048 < n := by simp at hd; omega
    go_enter Try.func23, Try.ntmps23
    go_wp2
    go_ret2
    exact ⟨rfl, rfl⟩

set_option maxRecDepth 100000 in
set_option maxHeartbeats 1000000 in
theorem fill_any (v : Int) (w : World) (v0 : 0 ≤ v) (v1 : v < 4294967296) :
    Calls Try.prog 14 #[.int .u32 v] w fun e w' => e = .returned (.agg (encB (fillB v))) ∧ Mod none' w w' := by
  have HS := St.nil none' w
  have HV4 : Hid (0 ≤ v / 16777216 ∧ v / 16777216 < 256) := by show _ ∧ _; omega
  go_enter Try.func14, Try.ntmps14
  go_wp2_with (first | ((with_reducible apply sAlloc HS); infer_instance; (first | exact cells_agg _ | exact cells_one rfl); rfl; intro B1 w' H1; clear HS; have HS := H1; clear H1) | ((with_reducible apply sStore1 HS); infer_instance; rfl; rfl; (conv => (lhs; whnf)); (repeat (first | exact Rep.here | apply Rep.there)); (simp [encB_size, Z256_len]); rfl; intro w' H1'; clear HS; have HS := H1'; clear H1') | ((with_reducible apply sLoadB HS); infer_instance; rfl; rfl; (repeat (first | exact List.Mem.head _ | apply List.Mem.tail)); (simp [encB_size, Z256_len])) | ((with_reducible apply sStoreB HS); infer_instance; rfl; rfl; (conv => (lhs; whnf)); (repeat (first | exact Rep.here | apply Rep.there)); (simp [encB_size, Z256_len]); (simp [encB_size, Z256_len]); exact (by simp only [encB_set, encB_set' HV4.out.1 HV4.out.2]; exact encB_one _); intro w' H1; clear HS; have HS := H1; clear H1))
  refine wp_loop_rounds 5 ?_
  rw [rounds_succ]
  go_wp2_with (first | ((with_reducible apply sAlloc HS); infer_instance; (first | exact cells_agg _ | exact cells_one rfl); rfl; intro B1 w' H1; clear HS; have HS := H1; clear H1) | ((with_reducible apply sStore1 HS); infer_instance; rfl; rfl; (conv => (lhs; whnf)); (repeat (first | exact Rep.here | apply Rep.there)); (simp [encB_size, Z256_len]); rfl; intro w' H1'; clear HS; have HS := H1'; clear H1') | ((with_reducible apply sLoadB HS); infer_instance; rfl; rfl; (repeat (first | exact List.Mem.head _ | apply List.Mem.tail)); (simp [encB_size, Z256_len])) | ((with_reducible apply sStoreB HS); infer_instance; rfl; rfl; (conv => (lhs; whnf)); (repeat (first | exact Rep.here | apply Rep.there)); (simp [encB_size, Z256_len]); (simp [encB_size, Z256_len]); exact (by simp only [encB_set, encB_set' HV4.out.1 HV4.out.2]; exact encB_one _); intro w' H1; clear HS; have HS := H1; clear H1))
  rw [rounds_succ]
  go_wp2_with (first | ((with_reducible apply sAlloc HS); infer_instance; (first | exact cells_agg _ | exact cells_one rfl); rfl; intro B1 w' H1; clear HS; have HS := H1; clear H1) | ((with_reducible apply sStore1 HS); infer_instance; rfl; rfl; (conv => (lhs; whnf)); (repeat (first | exact Rep.here | apply Rep.there)); (simp [encB_size, Z256_len]); rfl; intro w' H1'; clear HS; have HS := H1'; clear H1') | ((with_reducible apply sLoadB HS); infer_instance; rfl; rfl; (repeat (first | exact List.Mem.head _ | apply List.Mem.tail)); (simp [encB_size, Z256_len])) | ((with_reducible apply sStoreB HS); infer_instance; rfl; rfl; (conv => (lhs; whnf)); (repeat (first | exact Rep.here | apply Rep.there)); (simp [encB_size, Z256_len]); (simp [encB_size, Z256_len]); exact (by simp only [encB_set, encB_set' HV4.out.1 HV4.out.2]; exact encB_one _); intro w' H1; clear HS; have HS := H1; clear H1))
  rw [rounds_succ]
  go_wp2_with (first | ((with_reducible apply sAlloc HS); infer_instance; (first | exact cells_agg _ | exact cells_one rfl); rfl; intro B1 w' H1; clear HS; have HS := H1; clear H1) | ((with_reducible apply sStore1 HS); infer_instance; rfl; rfl; (conv => (lhs; whnf)); (repeat (first | exact Rep.here | apply Rep.there)); (simp [encB_size, Z256_len]); rfl; intro w' H1'; clear HS; have HS := H1'; clear H1') | ((with_reducible apply sLoadB HS); infer_instance; rfl; rfl; (repeat (first | exact List.Mem.head _ | apply List.Mem.tail)); (simp [encB_size, Z256_len])) | ((with_reducible apply sStoreB HS); infer_instance; rfl; rfl; (conv => (lhs; whnf)); (repeat (first | exact Rep.here | apply Rep.there)); (simp [encB_size, Z256_len]); (simp [encB_size, Z256_len]); exact (by simp only [encB_set, encB_set' HV4.out.1 HV4.out.2]; exact encB_one _); intro w' H1; clear HS; have HS := H1; clear H1))
  rw [rounds_succ]
  go_wp2_with (first | ((with_reducible apply sAlloc HS); infer_instance; (first | exact cells_agg _ | exact cells_one rfl); rfl; intro B1 w' H1; clear HS; have HS := H1; clear H1) | ((with_reducible apply sStore1 HS); infer_instance; rfl; rfl; (conv => (lhs; whnf)); (repeat (first | exact Rep.here | apply Rep.there)); (simp [encB_size, Z256_len]); rfl; intro w' H1'; clear HS; have HS := H1'; clear H1') | ((with_reducible apply sLoadB HS); infer_instance; rfl; rfl; (repeat (first | exact List.Mem.head _ | apply List.Mem.tail)); (simp [encB_size, Z256_len])) | ((with_reducible apply sStoreB HS); infer_instance; rfl; rfl; (conv => (lhs; whnf)); (repeat (first | exact Rep.here | apply Rep.there)); (simp [encB_size, Z256_len]); (simp [encB_size, Z256_len]); exact (by simp only [encB_set, encB_set' HV4.out.1 HV4.out.2]; exact encB_one _); intro w' H1; clear HS; have HS := H1; clear H1))
  rw [rounds_succ]
  go_wp2_with (first | ((with_reducible apply sAlloc HS); infer_instance; (first | exact cells_agg _ | exact cells_one rfl); rfl; intro B1 w' H1; clear HS; have HS := H1; clear H1) | ((with_reducible apply sStore1 HS); infer_instance; rfl; rfl; (conv => (lhs; whnf)); (repeat (first | exact Rep.here | apply Rep.there)); (simp [encB_size, Z256_len]); rfl; intro w' H1'; clear HS; have HS := H1'; clear H1') | ((with_reducible apply sLoadB HS); infer_instance; rfl; rfl; (repeat (first | exact List.Mem.head _ | apply List.Mem.tail)); (simp [encB_size, Z256_len])) | ((with_reducible apply sStoreB HS); infer_instance; rfl; rfl; (conv => (lhs; whnf)); (repeat (first | exact Rep.here | apply Rep.there)); (simp [encB_size, Z256_len]); (simp [encB_size, Z256_len]); exact (by simp only [encB_set, encB_set' HV4.out.1 HV4.out.2]; exact encB_one _); intro w' H1; clear HS; have HS := H1; clear H1))
  refine bodyPost_ret (res1 rfl (resCell HS rfl (by (repeat (first | exact List.Mem.head _ | apply List.Mem.tail))) ?_)) rfl ⟨?_, HS.mod⟩
  · simp [encB_size, Z256_len]
  · simp only [encB_set, encB_set' HV4.out.1 HV4.out.2, fillB]

set_option maxHeartbeats 1000000 in
theorem same_any (HS : St S w0 w L) {a b : Option Addr} {c1 c2 : Nat} (xs ys : List (List UInt8)) (hx : all256 xs) (hy : all256 ys) (hb : xs.length ≤ 1000000) (_hb2 : ys.length ≤ 1000000)
    (ha1 : xs = [] ∨ ∃ K o, a = some ⟨K, o, none⟩ ∧ ∀ w', Hd L w' → w'.rangeAt K o (encBs xs)) (ha2 : ys = [] ∨ ∃ K o, b = some ⟨K, o, none⟩ ∧ ∀ w', Hd L w' → w'.rangeAt K o (encBs ys)) :
    Calls Try.prog 15 #[.slice a xs.length c1, .slice b ys.length c2] w fun e w' => e = .returned (.bool (xs == ys)) ∧ St S w0 w' L := by
  by_cases hl : xs.length = ys.length
  rotate_left
  · have hl' : ((xs.length : Int) != (ys.length : Int)) = true := by simp; omega
    have hne : (xs == ys) = false := by
      rw [beq_eq_false_iff_ne]; intro e; rw [e] at hl; exact hl rfl
    rw [hne]
    clear hl
    go_enter Try.func15, Try.ntmps15
    go_wp2
    go_ret
    exact ⟨rfl, HS⟩
  have HX := Lib.hid hx
  have HY := Lib.hid hy
  have H1 := Lib.hid ha1
  have H2 := Lib.hid ha2
  have HLL := Lib.hid hl
  rw [← hl]
  clear hx hy ha1 ha2 hl
  go_enter Try.func15, Try.ntmps15
  go_wp2
  go_loopw [5] (fun i wr => ∃ k : Nat, k ≤ xs.length ∧ i = .int .i64 k ∧ xs.take k = ys.take k ∧ St S w0 wr L) (fun i _ => xs.length - (intOf i).toNat)
  case atStart => exact ⟨0, by omega, rfl, rfl, HS⟩
  case round =>
    obtain ⟨k, hk, rfl, htk, HS⟩ := hrel
    have HTK := Lib.hid htk
    clear htk
    by_cases hlt : k < xs.length
    · obtain ⟨K, o, rfl, hr⟩ := H1.out.resolve_left (fun e => by rw [e] at hlt; simp at hlt)
      obtain ⟨K2, o2, rfl, hr2⟩ := H2.out.resolve_left (fun e => by have := HLL.out; rw [e] at this; rw [this] at hlt; simp at hlt)
      have hk2 : k < ys.length := by have := HLL.out; omega
      have HR1 := Lib.hid (hr _ (fun A hA => HS.hold A hA))
      have HR2 := Lib.hid (hr2 _ (fun A hA => HS.hold A hA))
      have HP1 := Lib.hid (encBs_part HX.out hlt)
      have HP2 := Lib.hid (encBs_part HY.out hk2)
      have hu := HX.out.getD k
      have hv := HY.out.getD k
      have HLu : Hid (((xs.getD k Z256).map bv).length = 256) := by show _ = _; rw [List.length_map]; exact hu
      have HLv : Hid (((ys.getD k Z256).map bv).length = 256) := by show _ = _; rw [List.length_map]; exact hv
      have HE1 : Hid (xs.take (k + 1) = xs.take k ++ [xs.getD k Z256]) := by show _ = _; rw [List.take_add_one, getD_some hlt]; rfl
      have HE2 : Hid (ys.take (k + 1) = ys.take k ++ [ys.getD k Z256]) := by show _ = _; rw [List.take_add_one, getD_some hk2]; rfl
      have z0 : (0 : Int) ≤ (k : Int) := by omega
      have z1 : (k : Int) < (xs.length : Int) := by omega
      generalize xs.getD k Z256 = u at *
      generalize ys.getD k Z256 = v at *
      have HU := Lib.hid hu
      have HV := Lib.hid hv
      clear hr hr2 hu hv hk2
      rcases Bool.eq_false_or_eq_true (!(u == v)) with ht | ht
      · have HT := Lib.hid ht
        have HN : Hid ((xs == ys) = false) := by
          show _ = _
          rw [beq_eq_false_iff_ne]
          intro e
          have h1 := HE1.out
          rw [e, HE2.out] at h1
          have h2 := HTK.out
          rw [e] at h2
          have h3 : v = u := by simpa using List.append_cancel_left h1
          rw [h3] at ht
          simp at ht
        clear ht
        go_wp2
        (try simp only [Act.put])
        refine wp_region_quietF (by kernel_rfl) (by kernel_rfl) ?_
        repeat (first | go_big_quiet_skip | (((with_reducible apply qLoadR (inferInstance : Row Try.prog 32 256) HR1.out); rfl; rfl; exact HP1.out; exact HLu.out); (try simp only [Act.put, List.setIfInBounds_toArray, List.set_cons_zero, List.set_cons_succ])) | (((with_reducible apply qLoadR (inferInstance : Row Try.prog 32 256) HR2.out); rfl; rfl; exact HP2.out; exact HLv.out); (try simp only [Act.put, List.setIfInBounds_toArray, List.set_cons_zero, List.set_cons_succ])) | (((with_reducible apply qNeB blkT); rfl; rfl; rfl; exact HU.out; exact HV.out; rw [HT.out]); (try simp only [Act.put, List.setIfInBounds_toArray, List.set_cons_zero, List.set_cons_succ])) | (go_big_quiet_want; go_big_quiet_op; first | go_big_quiet_on | (refine ⟨_, fun _ _ => rfl, ?_⟩; go_big_quiet_on) | (apply Exists.intro; refine ⟨fun wc hfr => ?_, ?_⟩; (· fail); go_big_quiet_on)))
        refine wpQuiet_nil ?_
        intro w1 hm1
        replace HS := HS.fresh hm1
        clear hm1
        go_wp2
        go_ret
        exact ⟨ret_bool HN.out.symm, HS⟩
      · have HT := Lib.hid ht
        have HUV : Hid (u = v) := by show _ = _; simpa using ht
        clear ht
        go_wp2
        (try simp only [Act.put])
        refine wp_region_quietF (by kernel_rfl) (by kernel_rfl) ?_
        repeat (first | go_big_quiet_skip | (((with_reducible apply qLoadR (inferInstance : Row Try.prog 32 256) HR1.out); rfl; rfl; exact HP1.out; exact HLu.out); (try simp only [Act.put, List.setIfInBounds_toArray, List.set_cons_zero, List.set_cons_succ])) | (((with_reducible apply qLoadR (inferInstance : Row Try.prog 32 256) HR2.out); rfl; rfl; exact HP2.out; exact HLv.out); (try simp only [Act.put, List.setIfInBounds_toArray, List.set_cons_zero, List.set_cons_succ])) | (((with_reducible apply qNeB blkT); rfl; rfl; rfl; exact HU.out; exact HV.out; rw [HT.out]); (try simp only [Act.put, List.setIfInBounds_toArray, List.set_cons_zero, List.set_cons_succ])) | (go_big_quiet_want; go_big_quiet_op; first | go_big_quiet_on | (refine ⟨_, fun _ _ => rfl, ?_⟩; go_big_quiet_on) | (apply Exists.intro; refine ⟨fun wc hfr => ?_, ?_⟩; (· fail); go_big_quiet_on)))
        refine wpQuiet_nil ?_
        intro w1 hm1
        replace HS := HS.fresh hm1
        clear hm1
        go_wp2
        go_roundw
        case rel => exact ⟨k + 1, by omega, by go_num, by rw [HE1.out, HE2.out, HTK.out, HUV.out], HS⟩
        case measure => simp [intOf]; omega
    · obtain rfl : k = xs.length := by omega
      have HN : Hid ((xs == ys) = true) := by
        show _ = _
        have h1 := HTK.out
        rw [List.take_length, HLL.out, List.take_length] at h1
        simp [h1]
      go_wp2
      go_ret
      exact ⟨ret_bool HN.out.symm, HS⟩
theorem same_n (HS : St S w0 w L) {K o K2 o2 c1 c2 n : Nat} (xs ys : List (List UInt8)) (hx : all256 xs) (hy : all256 ys) (hxl : xs.length = n) (hyl : ys.length = n) (hb : n ≤ 1000000)
    (h1 : ∀ w', Hd L w' → w'.rangeAt K o (encBs xs)) (h2 : ∀ w', Hd L w' → w'.rangeAt K2 o2 (encBs ys)) :
    Calls Try.prog 15 #[.slice (some ⟨K, o, none⟩) n c1, .slice (some ⟨K2, o2, none⟩) n c2] w fun e w' => e = .returned (.bool (xs == ys)) ∧ St S w0 w' L := by
  have h := same_any (a := some ⟨K, o, none⟩) (b := some ⟨K2, o2, none⟩) (c1 := c1) (c2 := c2) HS xs ys hx hy (by omega) (by omega) (.inr ⟨K, o, rfl, h1⟩) (.inr ⟨K2, o2, rfl, h2⟩)
  rw [hxl, hyl] at h
  exact h
end
end Go.Proofs.Ytfdomknagcdpeaa
