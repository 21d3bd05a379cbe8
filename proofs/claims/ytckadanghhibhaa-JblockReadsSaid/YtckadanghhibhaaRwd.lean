/- Descriptors: the reference's writer. -/
import Derived.Test.YtckadanghhibhaaRwn
import Derived.Test.YtckadanghhibhaaJrt
namespace Go.Proofs.Ytckadanghhibhaa
open Go Go.RowKit

def encTl (l : List (Int × Bool)) : List Value := (encT l).toList
theorem encTl_get1 {l : List (Int × Bool)} {i : Nat} (h : i < l.length) : (encTl l)[i * 2]? = some (.int .u32 (l.getD i (0, false)).1) := by unfold encTl; rw [Array.getElem?_toList]; exact (encT_get l i h).1
theorem encTl_get2 {l : List (Int × Bool)} {i : Nat} (h : i < l.length) : (encTl l)[i * 2 + 1]? = some (.bool (l.getD i (0, false)).2) := by unfold encTl; rw [Array.getElem?_toList]; exact (encT_get l i h).2
theorem encTl_len (l : List (Int × Bool)) : (encTl l).length = l.length * 2 := by unfold encTl; rw [Array.length_toList, encT_size]
theorem TagsAt.range {w : World} {a : Option Addr} {n : Nat} {l : List (Int × Bool)} (h : TagsAt w a n l) (hn : 0 < n) : ∃ L o, a = some ⟨L, o, none⟩ ∧ w.rangeAt L o (encTl l) := by
  obtain ⟨h1, _, L, o, h3, h4⟩ := h
  refine ⟨L, o, (h3.resolve_left (by omega)).1, fun j v hj => ?_⟩
  have hl : j < l.length * 2 := by have := (List.getElem?_eq_some_iff.1 hj).1; rwa [encTl_len] at this
  obtain ⟨c1, c2⟩ := h4 (j / 2) (by omega)
  rcases Nat.mod_two_eq_zero_or_one j with h0 | h0
  · have e : j = j / 2 * 2 := by omega
    rw [e, encTl_get1 (by omega)] at hj
    rw [e, c1, hj]
  · have e : j = j / 2 * 2 + 1 := by omega
    rw [e, encTl_get2 (by omega)] at hj
    rw [e, ← Nat.add_assoc, c2, hj]
def riseTt (l : List (Int × Bool)) (k : Nat) : Prop := ∀ i, i + 1 < k → (l.getD i (0, false)).1 < (l.getD (i + 1) (0, false)).1
theorem riseTt_all (l : List (Int × Bool)) : riseTt l l.length ↔ risesT l = true := (risesT_iff l).symm
theorem riseTt_succ {l : List (Int × Bool)} {k : Nat} (h : riseTt l (k + 1)) (hk : (l.getD k (0, false)).1 < (l.getD (k + 1) (0, false)).1) : riseTt l (k + 1 + 1) := by
  intro i hi
  by_cases e : i = k
  · subst e; exact hk
  · exact h i (by omega)
theorem riset_not {l : List (Int × Bool)} {k : Nat} (hk : k + 1 < l.length) (h : ¬ (l.getD k (0, false)).1 < (l.getD (k + 1) (0, false)).1) : risesT l = false := by
  rw [← Bool.not_eq_true]
  intro e
  exact h ((risesT_iff l).1 e k hk)
theorem flatT_take {l : List (Int × Bool)} {k : Nat} (h : k < l.length) : flatT (l.take (k + 1)) = flatT (l.take k) ++ [(l.getD k (0, false)).1, fl (l.getD k (0, false)).2] := by
  rw [List.take_succ_eq_append_getElem h, flatT_snoc, List.getD_eq_getElem?_getD, List.getElem?_eq_getElem h]
  simp
theorem flatT_bd {l : List (Int × Bool)} (h : ∀ k, 0 ≤ (l.getD k (0, false)).1 ∧ (l.getD k (0, false)).1 < 4294967296) : ∀ x ∈ flatT l, 0 ≤ x ∧ x < 4294967296 := by
  intro x hx
  obtain ⟨p, hp, hx⟩ := List.mem_flatMap.1 hx
  obtain ⟨i, hi, rfl⟩ := List.getElem_of_mem hp
  have h1 := h i
  rw [List.getD_eq_getElem?_getD, List.getElem?_eq_getElem hi] at h1
  simp at hx
  rcases hx with rfl | rfl
  · exact h1
  · unfold fl; split <;> omega
theorem getD_bd {l : List Int} (h : ∀ x ∈ l, 0 ≤ x ∧ x < 4294967296) (k : Nat) : 0 ≤ l.getD k 0 ∧ l.getD k 0 < 4294967296 := by
  rw [List.getD_eq_getElem?_getD]
  cases e : l[k]? with
  | none => simp
  | some x => exact h x (List.mem_of_getElem? e)

set_option maxRecDepth 100000 in
set_option maxHeartbeats 8000000 in
theorem rwdesc (a : Option Addr) (n cap : Nat) (l : List (Int × Bool)) (s : Int) (w : World) (h : TagsAt w a n l) (hcap : n ≤ 1000000) (s0 : 0 ≤ s) (s1 : s < 4294967296) :
    Calls Try.prog 14 #[.int .u32 s, .slice a n cap] w fun e w' => e = .returned (resB (wDesc s l)) ∧ Mod none' w w' := by
  have HS := St.nil none' w
  have HN := Lib.hid h
  have HnL : Hid (n = l.length) := h.1
  have HRS := Lib.hid (fun W => rseq s W)
  obtain ⟨r, hr⟩ : ∃ r, wDesc s l = r := ⟨_, rfl⟩
  have HR : Hid (r = if seqB s = true ∧ 1 ≤ l.length ∧ l.length ≤ 30 ∧ risesT l = true then some (blockOf ([1280199249, 1, s, (l.length : Int)] ++ flatT l)) else none) := hr.symm
  rw [hr]
  clear h hr
  rcases Bool.eq_false_or_eq_true (seqB s) with hq | hq
  rotate_left
  · have hrn : r = none := by rw [HR.out, if_neg (by rw [hq]; simp)]
    subst hrn
    rw [hq] at HRS
    clear hq
    go_enter Try.func14, Try.ntmps14
    go_wp2_with (first | ((with_reducible apply sAlloc HS); infer_instance; (first | exact cells_agg _ | exact cells_one rfl); rfl; intro B1 w' H1; clear HS; have HS := H1; clear H1) | (with_reducible refine wpList_buildZ' blkT ?_) | ((with_reducible apply sStoreB HS); infer_instance; rfl; rfl; (conv => (lhs; whnf)); (repeat (first | exact Rep.here | apply Rep.there)); exact z256s; exact z256s; exact encB_one _; intro w' H1; clear HS; have HS := H1; clear H1) | (go_at_call 39; refine (HRS.out _).mono ?_; rintro e w' ⟨rfl, rfl⟩))
    refine bodyPost_ret (res2 rfl (resCellB HS Z256_len rfl (by (repeat (first | exact List.Mem.head _ | apply List.Mem.tail)))) (resTmp _ _ _)) rfl ⟨rfl, HS.mod⟩
  rw [hq] at HRS
  by_cases h1 : 1 ≤ n
  rotate_left
  · have hrn : r = none := by rw [HR.out, if_neg (by rw [← HnL.out]; omega)]
    subst hrn
    obtain rfl : n = 0 := by omega
    clear hq h1
    go_enter Try.func14, Try.ntmps14
    go_wp2_with (first | ((with_reducible apply sAlloc HS); infer_instance; (first | exact cells_agg _ | exact cells_one rfl); rfl; intro B1 w' H1; clear HS; have HS := H1; clear H1) | (with_reducible refine wpList_buildZ' blkT ?_) | ((with_reducible apply sStoreB HS); infer_instance; rfl; rfl; (conv => (lhs; whnf)); (repeat (first | exact Rep.here | apply Rep.there)); exact z256s; exact z256s; exact encB_one _; intro w' H1; clear HS; have HS := H1; clear H1) | (go_at_call 39; refine (HRS.out _).mono ?_; rintro e w' ⟨rfl, rfl⟩))
    refine bodyPost_ret (res2 rfl (resCellB HS Z256_len rfl (by (repeat (first | exact List.Mem.head _ | apply List.Mem.tail)))) (resTmp _ _ _)) rfl ⟨rfl, HS.mod⟩
  have h1d : decide ((n : Int) < 1) = false := decide_eq_false (by omega)
  by_cases h30 : n ≤ 30
  rotate_left
  · have hrn : r = none := by rw [HR.out, if_neg (by rw [← HnL.out]; omega)]
    subst hrn
    have h30d : decide ((30 : Int) < (n : Int)) = true := decide_eq_true (by omega)
    clear hq
    go_enter Try.func14, Try.ntmps14
    go_wp2_with (first | ((with_reducible apply sAlloc HS); infer_instance; (first | exact cells_agg _ | exact cells_one rfl); rfl; intro B1 w' H1; clear HS; have HS := H1; clear H1) | (with_reducible refine wpList_buildZ' blkT ?_) | ((with_reducible apply sStoreB HS); infer_instance; rfl; rfl; (conv => (lhs; whnf)); (repeat (first | exact Rep.here | apply Rep.there)); exact z256s; exact z256s; exact encB_one _; intro w' H1; clear HS; have HS := H1; clear H1) | (go_at_call 39; refine (HRS.out _).mono ?_; rintro e w' ⟨rfl, rfl⟩))
    refine bodyPost_ret (res2 rfl (resCellB HS Z256_len rfl (by (repeat (first | exact List.Mem.head _ | apply List.Mem.tail)))) (resTmp _ _ _)) rfl ⟨rfl, HS.mod⟩
  have h30d : decide ((30 : Int) < (n : Int)) = false := decide_eq_false (by omega)
  have HR2 : Hid (r = if risesT l = true then some (blockOf ([1280199249, 1, s, (l.length : Int)] ++ flatT l)) else none) := by
    show _ = _
    rw [HR.out]
    by_cases hx : risesT l = true
    · rw [if_pos ⟨hq, by rw [← HnL.out]; exact h1, by rw [← HnL.out]; exact h30, hx⟩, if_pos hx]
    · rw [if_neg (fun h => hx h.2.2.2), if_neg hx]
  clear hq HR
  have hwn : IntKind.u32.wrap (n : Int) = (n : Int) := IntWalk.u32_in _ (by omega)
  go_enter Try.func14, Try.ntmps14
  go_wp2_with (first | ((with_reducible apply sAlloc HS); infer_instance; (first | exact cells_agg _ | exact cells_one rfl); rfl; intro B1 w' H1; clear HS; have HS := H1; clear H1) | (with_reducible refine wpList_buildZ' blkT ?_) | ((with_reducible apply sStoreB HS); infer_instance; rfl; rfl; (conv => (lhs; whnf)); (repeat (first | exact Rep.here | apply Rep.there)); exact z256s; exact z256s; exact encB_one _; intro w' H1; clear HS; have HS := H1; clear H1) | (go_at_call 39; refine (HRS.out _).mono ?_; rintro e w' ⟨rfl, rfl⟩))
  have H2 : St none' w _ (.own (.slice (some ⟨w'.heap.size, 0, none⟩) 4 4) 22 1 4 (encI ([1280199249, 1, s, (n : Int)] ++ flatT (l.take 0))) :: _) := HS.allocOwn #[.int .u32 1280199249, .int .u32 1, .int .u32 s, .int .u32 (n : Int)] 22 1 4 rfl (by decide)
  clear HS
  have HS := H2
  clear H2
  go_loopw [6, 7] (fun ov iv wr => ∃ k : Nat, k ≤ n ∧ iv = .int .i64 (k : Int) ∧ Hid (riseTt l k) ∧ St none' w wr [.own ov 22 1 (4 + 2 * k) (encI ([1280199249, 1, s, (n : Int)] ++ flatT (l.take k))), .blk true B1 (encB Z256) 28]) (fun _ iv _ => n - (intOf iv).toNat)
  case atStart => exact ⟨0, Nat.zero_le _, rfl, (fun i hi => by omega), HS⟩
  case round =>
    obtain ⟨k, hk, rfl, HRI, HS⟩ := hrel
    have HNW := Lib.hid (HN.out.mod HS.mod)
    obtain ⟨L, o, rfl, hra⟩ := HNW.out.range h1
    obtain ⟨g, oc, rfl, hoc, _⟩ := own_row (HS.own (.head _)) (by omega)
    by_cases hlt : k < n
    · have hltI : decide ((k : Int) < (n : Int)) = true := decide_eq_true (by omega)
      have hv1 : Hid ((encTl l)[k * 2]? = some (.int .u32 (l.getD k (0, false)).1)) := encTl_get1 (by rw [← HnL.out]; exact hlt)
      have hv2 : Hid ((encTl l)[k * 2 + 1]? = some (.bool (l.getD k (0, false)).2)) := encTl_get2 (by rw [← HnL.out]; exact hlt)
      have HFT : Hid (flatT (l.take (k + 1)) = flatT (l.take k) ++ [(l.getD k (0, false)).1, fl (l.getD k (0, false)).2]) := flatT_take (by rw [← HnL.out]; exact hlt)
      obtain ⟨⟨x, b⟩, hx⟩ : ∃ x, l.getD k (0, false) = x := ⟨_, rfl⟩
      rw [hx] at hv1 hv2 HFT
      rcases k with _ | k
      · have HRI1 : Hid (riseTt l 1) := fun i hi => by omega
        clear hx
        go_wp2
        (try simp only [Act.put])
        refine wp_region_quietF (by kernel_rfl) (by kernel_rfl) ?_
        repeat (first | go_big_quiet_skip | (((with_reducible apply qLoadR1 inferInstance hra); rfl; rfl; first | exact hv1.out | exact hv0.out); (try simp only [Act.put, List.setIfInBounds_toArray, List.set_cons_zero, List.set_cons_succ])) | (go_big_quiet_want; go_big_quiet_op; first | go_big_quiet_on | (refine ⟨_, fun _ _ => rfl, ?_⟩; go_big_quiet_on) | (apply Exists.intro; refine ⟨fun wc hfr => ?_, ?_⟩; (· fail); go_big_quiet_on)))
        refine wpQuiet_nil ?_
        intro w1 hm1
        replace HS := HS.fresh hm1
        replace hra := range_fresh hra hm1
        clear hm1
        cases b
        · go_wp2_with (first | ((with_reducible apply sLoadR1 (T := 4) (i := 1) inferInstance hra); rfl; rfl; exact hv2.out) | ((with_reducible apply sLoadR1 (T := 22) (i := 0) inferInstance hra); rfl; rfl; exact hv1.out) | (at_builtin; (have H2 := HS.alloc #[.int .u32 x, .int .u32 0] 22); (with_reducible apply sAppend H2 Try.underlying26 infoN rfl (by decide)); (conv => (lhs; whnf)); (intro v'; (repeat (first | exact Rep.here | apply Rep.there))); rfl; rotate_left; exact H2.newsAll (.head _); rotate_right; rfl; (exact encI_one [x, 0]); decide; omega; intro v1 w9 H1 hnil; clear HS H2; have HS := H1.tail; clear H1 hnil))
          go_roundw
          case rel => exact ⟨0 + 1, by omega, by go_num, HRI1, by (have H3 : St _ _ _ (.own _ _ _ _ (encI ([1280199249, 1, s, (n : Int)] ++ flatT (l.take (0))) ++ encI [x, 0]) :: _) := HS); rw [encI_app, List.append_assoc, show flatT (l.take (0)) ++ [x, 0] = flatT (l.take (0 + 1)) from HFT.out.symm] at H3; exact H3⟩
          case measure => simp [intOf]; omega
        · go_wp2_with (first | ((with_reducible apply sLoadR1 (T := 4) (i := 1) inferInstance hra); rfl; rfl; exact hv2.out) | ((with_reducible apply sLoadR1 (T := 22) (i := 0) inferInstance hra); rfl; rfl; exact hv1.out) | (at_builtin; (have H2 := HS.alloc #[.int .u32 x, .int .u32 1] 22); (with_reducible apply sAppend H2 Try.underlying26 infoN rfl (by decide)); (conv => (lhs; whnf)); (intro v'; (repeat (first | exact Rep.here | apply Rep.there))); rfl; rotate_left; exact H2.newsAll (.head _); rotate_right; rfl; (exact encI_one [x, 1]); decide; omega; intro v1 w9 H1 hnil; clear HS H2; have HS := H1.tail; clear H1 hnil))
          go_roundw
          case rel => exact ⟨0 + 1, by omega, by go_num, HRI1, by (have H3 : St _ _ _ (.own _ _ _ _ (encI ([1280199249, 1, s, (n : Int)] ++ flatT (l.take (0))) ++ encI [x, 1]) :: _) := HS); rw [encI_app, List.append_assoc, show flatT (l.take (0)) ++ [x, 1] = flatT (l.take (0 + 1)) from HFT.out.symm] at H3; exact H3⟩
          case measure => simp [intOf]; omega
      · have hgt : decide ((0 : Int) < (k : Int) + 1) = true := decide_eq_true (by omega)
        have hv0 : Hid ((encTl l)[k * 2]? = some (.int .u32 (l.getD k (0, false)).1)) := encTl_get1 (by rw [← HnL.out]; omega)
        have HST := Lib.hid (fun h => riseTt_succ HRI.out h)
        have HNO := Lib.hid (fun h => riset_not (l := l) (k := k) (by rw [← HnL.out]; exact hlt) h)
        rw [hx] at HST HNO
        obtain ⟨⟨y, c⟩, hy⟩ : ∃ x, l.getD k (0, false) = x := ⟨_, rfl⟩
        rw [hy] at hv0 HST HNO
        simp only at HST HNO hv0 hv1 hv2 HFT
        clear hx hy
        by_cases hyx : y < x
        · have hle : decide (x ≤ y) = false := decide_eq_false (by omega)
          have hle2 : ¬ x ≤ y := by omega
          go_wp2
          (try simp only [Act.put])
          refine wp_region_quietF (by kernel_rfl) (by kernel_rfl) ?_
          repeat (first | go_big_quiet_skip | (((with_reducible apply qLoadR1 inferInstance hra); rfl; rfl; first | exact hv1.out | exact hv0.out); (try simp only [Act.put, List.setIfInBounds_toArray, List.set_cons_zero, List.set_cons_succ])) | (go_big_quiet_want; go_big_quiet_op; first | go_big_quiet_on | (refine ⟨_, fun _ _ => rfl, ?_⟩; go_big_quiet_on) | (apply Exists.intro; refine ⟨fun wc hfr => ?_, ?_⟩; (· fail); go_big_quiet_on)))
          refine wpQuiet_nil ?_
          intro w1 hm1
          replace HS := HS.fresh hm1
          replace hra := range_fresh hra hm1
          clear hm1
          cases b
          · go_wp2_with (first | ((with_reducible apply sLoadR1 (T := 4) (i := (k + 1) * 2 + 1) inferInstance hra); rfl; rfl; exact hv2.out) | ((with_reducible apply sLoadR1 (T := 22) (i := (k + 1) * 2) inferInstance hra); rfl; rfl; exact hv1.out) | (at_builtin; (have H2 := HS.alloc #[.int .u32 x, .int .u32 0] 22); (with_reducible apply sAppend H2 Try.underlying26 infoN rfl (by decide)); (conv => (lhs; whnf)); (intro v'; (repeat (first | exact Rep.here | apply Rep.there))); rfl; rotate_left; exact H2.newsAll (.head _); rotate_right; rfl; (exact encI_one [x, 0]); decide; omega; intro v1 w9 H1 hnil; clear HS H2; have HS := H1.tail; clear H1 hnil))
            go_roundw
            case rel => exact ⟨k + 1 + 1, by omega, by go_num, HST.out hyx, by (have H3 : St _ _ _ (.own _ _ _ _ (encI ([1280199249, 1, s, (n : Int)] ++ flatT (l.take (k + 1))) ++ encI [x, 0]) :: _) := HS); rw [encI_app, List.append_assoc, show flatT (l.take (k + 1)) ++ [x, 0] = flatT (l.take (k + 1 + 1)) from HFT.out.symm] at H3; exact H3⟩
            case measure => simp [intOf]; omega
          · go_wp2_with (first | ((with_reducible apply sLoadR1 (T := 4) (i := (k + 1) * 2 + 1) inferInstance hra); rfl; rfl; exact hv2.out) | ((with_reducible apply sLoadR1 (T := 22) (i := (k + 1) * 2) inferInstance hra); rfl; rfl; exact hv1.out) | (at_builtin; (have H2 := HS.alloc #[.int .u32 x, .int .u32 1] 22); (with_reducible apply sAppend H2 Try.underlying26 infoN rfl (by decide)); (conv => (lhs; whnf)); (intro v'; (repeat (first | exact Rep.here | apply Rep.there))); rfl; rotate_left; exact H2.newsAll (.head _); rotate_right; rfl; (exact encI_one [x, 1]); decide; omega; intro v1 w9 H1 hnil; clear HS H2; have HS := H1.tail; clear H1 hnil))
            go_roundw
            case rel => exact ⟨k + 1 + 1, by omega, by go_num, HST.out hyx, by (have H3 : St _ _ _ (.own _ _ _ _ (encI ([1280199249, 1, s, (n : Int)] ++ flatT (l.take (k + 1))) ++ encI [x, 1]) :: _) := HS); rw [encI_app, List.append_assoc, show flatT (l.take (k + 1)) ++ [x, 1] = flatT (l.take (k + 1 + 1)) from HFT.out.symm] at H3; exact H3⟩
            case measure => simp [intOf]; omega
        · have hle : decide (x ≤ y) = true := decide_eq_true (by omega)
          have hle2 : x ≤ y := by omega
          have hrn : r = none := by rw [HR2.out, HNO.out hyx]; rfl
          subst hrn
          go_wp2
          (try simp only [Act.put])
          refine wp_region_quietF (by kernel_rfl) (by kernel_rfl) ?_
          repeat (first | go_big_quiet_skip | (((with_reducible apply qLoadR1 inferInstance hra); rfl; rfl; first | exact hv1.out | exact hv0.out); (try simp only [Act.put, List.setIfInBounds_toArray, List.set_cons_zero, List.set_cons_succ])) | (go_big_quiet_want; go_big_quiet_op; first | go_big_quiet_on | (refine ⟨_, fun _ _ => rfl, ?_⟩; go_big_quiet_on) | (apply Exists.intro; refine ⟨fun wc hfr => ?_, ?_⟩; (· fail); go_big_quiet_on)))
          refine wpQuiet_nil ?_
          intro w1 hm1
          replace HS := HS.fresh hm1
          replace hra := range_fresh hra hm1
          clear hm1
          go_wp2_with (first | ((with_reducible apply sAlloc HS); infer_instance; (first | exact cells_agg _ | exact cells_one rfl); rfl; intro B1 w' H1; clear HS; have HS := H1; clear H1) | (with_reducible refine wpList_buildZ' blkT ?_) | ((with_reducible apply sStoreB HS); infer_instance; rfl; rfl; (conv => (lhs; whnf)); (repeat (first | exact Rep.here | apply Rep.there)); exact z256s; exact z256s; exact encB_one _; intro w' H1; clear HS; have HS := H1; clear H1) | (go_at_call 39; refine (HRS.out _).mono ?_; rintro e w' ⟨rfl, rfl⟩))
          refine bodyPost_ret (res2 rfl (resCellB HS Z256_len rfl (by (repeat (first | exact List.Mem.head _ | apply List.Mem.tail)))) (resTmp _ _ _)) rfl ⟨rfl, HS.mod⟩
    · obtain rfl : k = n := by omega
      have hltI : decide ((k : Int) < (k : Int)) = false := decide_eq_false (by omega)
      have hnl : Hid (l.length = k) := HnL.out.symm
      have htk : l.take k = l := List.take_of_length_le (by rw [hnl.out]; exact Nat.le_refl _)
      rw [htk] at HS
      have hrise : risesT l = true := (riseTt_all l).1 (by rw [hnl.out]; exact HRI.out)
      have hrn : r = some (blockOf ([1280199249, 1, s, (l.length : Int)] ++ flatT l)) := by rw [HR2.out, if_pos hrise]
      subst hrn
      have HB4 : Hid (∀ j, 0 ≤ ([1280199249, 1, s, (k : Int)] ++ flatT l).getD j 0 ∧ ([1280199249, 1, s, (k : Int)] ++ flatT l).getD j 0 < 4294967296) := fun j => getD_bd (fun x hx => by
        rcases List.mem_append.1 hx with hx | hx
        · simp at hx
          rcases hx with rfl | rfl | rfl | rfl <;> omega
        · exact flatT_bd HN.out.2.1 x hx) j
      have HL4 : Hid (([1280199249, 1, s, (k : Int)] ++ flatT l).length = 4 + 2 * k) := by show _ = _; rw [List.length_append, flatT_len, hnl.out]; rfl
      have zbl : Hid ((encB (blockOf ([1280199249, 1, s, (k : Int)] ++ flatT l))).size = 256) := (encB_size _).trans (blockOf_len _)
      clear hrise HR2 htk
      go_wp2_with (first | (go_at_call 40; refine (rblock g _ _ _ _ HL4.out.symm (by rw [HL4.out]; omega) (fun j hj => ?_) HB4.out (HS.lt (.head _) g rfl)).mono ?_; (have h9 := HS.ownRange (.head _) j _ (encI_get hj)); (rwa [Nat.zero_add] at h9); rintro e w' ⟨rfl, H1⟩; replace HS := HS.fresh H1; clear H1) | ((with_reducible apply sStoreB HS); infer_instance; rfl; rfl; (conv => (lhs; whnf)); (repeat (first | exact Rep.here | apply Rep.there)); exact zbl.out; exact z256s; exact encB_one _; intro w' H1; clear HS; have HS := H1; clear H1))
      refine bodyPost_ret (res2 rfl (resCellB HS (blockOf_len _) rfl (by (repeat (first | exact List.Mem.head _ | apply List.Mem.tail)))) (resTmp _ _ _)) rfl ⟨?_, HS.mod⟩
      show _ = Ending.returned (resB (some (blockOf ([1280199249, 1, s, (l.length : Int)] ++ flatT l))))
      rw [hnl.out]
      rfl
end Go.Proofs.Ytckadanghhibhaa
