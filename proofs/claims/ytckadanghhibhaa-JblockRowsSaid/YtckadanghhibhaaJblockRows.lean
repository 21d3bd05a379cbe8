/- Numbers and tags that don't rise are refused; such that do may stand alone, or without the last one. -/
import Derived.Test.YtckadanghhibhaaJwA
import Derived.Test.YtckadanghhibhaaRises
namespace Go.Proofs.Ytckadanghhibhaa.jblockRows
open Go Go.RowKit Go.ChangeShapes Go.WideShapes Go.ChangeAt
theorem own : ownKnob Try.prog.godebug = none := by kernel_rfl
theorem laidOut : laidOutB Try.prog = true := by kernel_rfl

theorem plain_snoc {l : List Int} {k : Nat} (h : k < l.length) : encTl (plainT (l.take k)) ++ (#[Value.int .u32 (l.getD k 0), .bool false] : Array Value).toList = encTl (plainT (l.take (k + 1))) := by
  have hs : plainT (l.take (k + 1)) = plainT (l.take k) ++ [(l.getD k 0, false)] := by
    rw [List.take_succ_eq_append_getElem h, List.getD_eq_getElem?_getD, List.getElem?_eq_getElem h, plainT, List.map_append]
    rfl
  unfold encTl
  rw [hs, encT_snoc]

set_option maxRecDepth 100000 in
set_option maxHeartbeats 20000000 in
theorem walk (s : Int) (a : Option Addr) (n cap : Nat) (l : List Int) (w : World) (s0 : 0 ≤ s) (s1 : s < 4294967296) (hN : NumsAt w a n l) (hcap : n ≤ cap) :
    Calls Try.prog 7 #[.int .u32 s, .slice a n cap] w fun e w' => e = .returned (.bool true) ∧ Below w.heap.size w w' := by
  have HS := St.nil none' w
  have HN := Lib.hid hN
  have HnL : Hid (n = l.length) := hN.1
  have HBD := Lib.hid hN.2.1
  clear hN
  by_cases hlong : 100 < n
  · have hI : (100 : Int) < (n : Int) := by omega
    go_enter Try.func7, Try.ntmps7
    go_wp2_with (go_at_call 21; refine (jawake _).mono ?_; rintro e w' ⟨rfl, H1⟩; replace HS := HS.fresh H1; clear H1)
    go_ret
    exact ⟨rfl, HS.below⟩
  have hI : ¬ (100 : Int) < (n : Int) := by omega
  go_enter Try.func7, Try.ntmps7
  go_wp2_with (go_at_call 21; refine (jawake _).mono ?_; rintro e w' ⟨rfl, H1⟩; replace HS := HS.fresh H1; clear H1)
  replace HS := HS.ownNil 55 2
  go_loopw [5, 6, 7] (fun rv tv iv wr => ∃ k : Nat, k ≤ n ∧ rv = .bool (upto l k) ∧ iv = .int .i64 (k : Int) ∧ St none' w wr [.own tv 55 2 k (encTl (plainT (l.take k)))]) (fun _ _ iv _ => n - (intOf iv).toNat)
  case atStart => exact ⟨0, Nat.zero_le _, rfl, rfl, HS⟩
  case round =>
    obtain ⟨k, hk, rfl, rfl, HS⟩ := hrel
    obtain ⟨ta, tc, rfl⟩ := own_slice (HS.own (.head _))
    by_cases hlt : k < n
    · have hltI : decide ((k : Int) < (n : Int)) = true := decide_eq_true (by omega)
      have HNW := Lib.hid (HN.out.mod HS.mod)
      obtain ⟨L, o, rfl, hra⟩ := HNW.out.range (by omega)
      have hkl : k < l.length := by rw [← HnL.out]; exact hlt
      have hv1 : Hid ((encI l)[k]? = some (.int .u32 (l.getD k 0))) := encI_get hkl
      have HSN := Lib.hid (plain_snoc hkl)
      obtain ⟨x, hx⟩ : ∃ x, l.getD k 0 = x := ⟨_, rfl⟩
      rw [hx] at hv1 HSN
      cases hr : upto l k
      · have HV : Hid (upto l (k + 1) = false) := by
          show _ = _
          rcases k with _ | k
          · rw [upto_zero] at hr; cases hr
          · rw [upto_succ, hr]; rfl
        clear hx hr hkl
        go_wp2
        (try simp only [Act.put])
        refine wp_region_quietF (by kernel_rfl) (by kernel_rfl) ?_
        repeat (first | go_big_quiet_skip | (((with_reducible apply qLoadR1 (T := 22) inferInstance hra); rfl; rfl; first | exact hv1.out | exact hv0.out); (try simp only [Act.put, List.setIfInBounds_toArray, List.set_cons_zero, List.set_cons_succ])) | (go_big_quiet_want; go_big_quiet_op; first | go_big_quiet_on | (refine ⟨_, fun _ _ => rfl, ?_⟩; go_big_quiet_on) | (apply Exists.intro; refine ⟨fun wc hfr => ?_, ?_⟩; (· fail); go_big_quiet_on)))
        refine wpQuiet_nil ?_
        intro w1 hm1
        replace HS := HS.fresh hm1
        replace hra := range_fresh hra hm1
        clear hm1
        go_wp2_with (first | ((with_reducible apply sLoadR1 (T := 22) (i := k) inferInstance hra); rfl; rfl; exact hv1.out) | (at_builtin; (have H2 := HS.alloc #[.int .u32 x, .bool false] 55); (with_reducible apply sAppend H2 Try.underlying25 infoTag rfl (by decide)); (conv => (lhs; whnf)); (intro v'; (repeat (first | exact Rep.here | apply Rep.there))); rfl; rotate_left; exact H2.newsAll (.head _); rotate_right; rfl; (intro u hu; simp at hu; rcases hu with rfl | rfl <;> rfl); decide; omega; intro v1 w9 H1 hnil; clear HS H2; have HS := H1.tail; clear H1 hnil; rw [HSN.out] at HS))
        go_roundw
        case rel => exact ⟨k + 1, by omega, by rw [HV.out], by go_num, HS⟩
        case measure => simp [intOf]; omega
      · rcases k with _ | k
        · have HV : Hid (upto l 1 = true) := upto_one l
          clear hx hr hkl
          go_wp2
          (try simp only [Act.put])
          refine wp_region_quietF (by kernel_rfl) (by kernel_rfl) ?_
          repeat (first | go_big_quiet_skip | (((with_reducible apply qLoadR1 (T := 22) (i := 0) inferInstance hra); rfl; rfl; first | exact hv1.out | exact hv0.out); (try simp only [Act.put, List.setIfInBounds_toArray, List.set_cons_zero, List.set_cons_succ])) | (go_big_quiet_want; go_big_quiet_op; first | go_big_quiet_on | (refine ⟨_, fun _ _ => rfl, ?_⟩; go_big_quiet_on) | (apply Exists.intro; refine ⟨fun wc hfr => ?_, ?_⟩; (· fail); go_big_quiet_on)))
          refine wpQuiet_nil ?_
          intro w1 hm1
          replace HS := HS.fresh hm1
          replace hra := range_fresh hra hm1
          clear hm1
          go_wp2_with (first | ((with_reducible apply sLoadR1 (T := 22) (i := 0) inferInstance hra); rfl; rfl; exact hv1.out) | (at_builtin; (have H2 := HS.alloc #[.int .u32 x, .bool false] 55); (with_reducible apply sAppend H2 Try.underlying25 infoTag rfl (by decide)); (conv => (lhs; whnf)); (intro v'; (repeat (first | exact Rep.here | apply Rep.there))); rfl; rotate_left; exact H2.newsAll (.head _); rotate_right; rfl; (intro u hu; simp at hu; rcases hu with rfl | rfl <;> rfl); decide; omega; intro v1 w9 H1 hnil; clear HS H2; have HS := H1.tail; clear H1 hnil; rw [HSN.out] at HS))
          go_roundw
          case rel => exact ⟨0 + 1, by omega, by rw [HV.out], by go_num, HS⟩
          case measure => simp [intOf]; omega
        · have hv0 : Hid ((encI l)[k]? = some (.int .u32 (l.getD k 0))) := encI_get (by omega)
          obtain ⟨y, hy⟩ : ∃ x, l.getD k 0 = x := ⟨_, rfl⟩
          rw [hy] at hv0
          have HU : Hid (upto l (k + 1 + 1) = decide (y < x)) := by show _ = _; rw [upto_succ, hr, hy, hx]; simp
          have hz : (((k : Int) + 1) == 0) = false := by rw [beq_eq_false_iff_ne]; omega
          have hzI : ¬ ((k : Int) + 1 = 0) := by omega
          clear hx hy hr hkl
          by_cases hyx : y < x
          · have HV : Hid (upto l (k + 1 + 1) = true) := by show _ = _; rw [HU.out, decide_eq_true hyx]
            have hd : decide (y < x) = true := decide_eq_true hyx
            go_wp2
            (try simp only [Act.put])
            refine wp_region_quietF (by kernel_rfl) (by kernel_rfl) ?_
            repeat (first | go_big_quiet_skip | (((with_reducible apply qLoadR1 (T := 22) inferInstance hra); rfl; rfl; first | exact hv1.out | exact hv0.out); (try simp only [Act.put, List.setIfInBounds_toArray, List.set_cons_zero, List.set_cons_succ])) | (go_big_quiet_want; go_big_quiet_op; first | go_big_quiet_on | (refine ⟨_, fun _ _ => rfl, ?_⟩; go_big_quiet_on) | (apply Exists.intro; refine ⟨fun wc hfr => ?_, ?_⟩; (· fail); go_big_quiet_on)))
            refine wpQuiet_nil ?_
            intro w1 hm1
            replace HS := HS.fresh hm1
            replace hra := range_fresh hra hm1
            clear hm1
            go_wp2_with (first | ((with_reducible apply sLoadR1 (T := 22) (i := k + 1) inferInstance hra); rfl; rfl; exact hv1.out) | (at_builtin; (have H2 := HS.alloc #[.int .u32 x, .bool false] 55); (with_reducible apply sAppend H2 Try.underlying25 infoTag rfl (by decide)); (conv => (lhs; whnf)); (intro v'; (repeat (first | exact Rep.here | apply Rep.there))); rfl; rotate_left; exact H2.newsAll (.head _); rotate_right; rfl; (intro u hu; simp at hu; rcases hu with rfl | rfl <;> rfl); decide; omega; intro v1 w9 H1 hnil; clear HS H2; have HS := H1.tail; clear H1 hnil; rw [HSN.out] at HS))
            go_roundw
            case rel => exact ⟨k + 1 + 1, by omega, by rw [HV.out], by go_num, HS⟩
            case measure => simp [intOf]; omega
          · have HV : Hid (upto l (k + 1 + 1) = false) := by show _ = _; rw [HU.out, decide_eq_false hyx]
            have hd : decide (y < x) = false := decide_eq_false hyx
            go_wp2
            (try simp only [Act.put])
            refine wp_region_quietF (by kernel_rfl) (by kernel_rfl) ?_
            repeat (first | go_big_quiet_skip | (((with_reducible apply qLoadR1 (T := 22) inferInstance hra); rfl; rfl; first | exact hv1.out | exact hv0.out); (try simp only [Act.put, List.setIfInBounds_toArray, List.set_cons_zero, List.set_cons_succ])) | (go_big_quiet_want; go_big_quiet_op; first | go_big_quiet_on | (refine ⟨_, fun _ _ => rfl, ?_⟩; go_big_quiet_on) | (apply Exists.intro; refine ⟨fun wc hfr => ?_, ?_⟩; (· fail); go_big_quiet_on)))
            refine wpQuiet_nil ?_
            intro w1 hm1
            replace HS := HS.fresh hm1
            replace hra := range_fresh hra hm1
            clear hm1
            go_wp2_with (first | ((with_reducible apply sLoadR1 (T := 22) (i := k + 1) inferInstance hra); rfl; rfl; exact hv1.out) | (at_builtin; (have H2 := HS.alloc #[.int .u32 x, .bool false] 55); (with_reducible apply sAppend H2 Try.underlying25 infoTag rfl (by decide)); (conv => (lhs; whnf)); (intro v'; (repeat (first | exact Rep.here | apply Rep.there))); rfl; rotate_left; exact H2.newsAll (.head _); rotate_right; rfl; (intro u hu; simp at hu; rcases hu with rfl | rfl <;> rfl); decide; omega; intro v1 w9 H1 hnil; clear HS H2; have HS := H1.tail; clear H1 hnil; rw [HSN.out] at HS))
            go_roundw
            case rel => exact ⟨k + 1 + 1, by omega, by rw [HV.out], by go_num, HS⟩
            case measure => simp [intOf]; omega
    · obtain rfl : k = n := by omega
      have hltI : decide ((k : Int) < (k : Int)) = false := decide_eq_false (by omega)
      have htk : l.take k = l := List.take_of_length_le (by rw [HnL.out]; exact Nat.le_refl _)
      have hup : upto l k = risesN l := by rw [HnL.out]; rfl
      rw [htk] at HS
      rw [hup]
      clear htk hup
      have H55 := Lib.hid (fun (W : World) (h : NumsAt W a k l) => h)
      have hbt : ∀ j, 0 ≤ ((plainT l).getD j (0, false)).1 ∧ ((plainT l).getD j (0, false)).1 < 4294967296 := fun j => by rw [plainT_get]; exact HBD.out j
      have HBT := Lib.hid hbt
      have HPL : Hid (k = (plainT l).length) := by show _ = _; rw [plainT_len]; exact HnL.out
      have C1 := Lib.hid (fun W h => jwrevoke a k cap l s W h (by omega) s0 s1)
      have C2 := Lib.hid (fun W ta n tc h => jwdesc ta n tc (plainT l) s W h)
      have z256' := z256s
      clear hbt H55
      by_cases c0 : 1 ≤ s
      rotate_left
      · have R1 : wRevoke s l = none := by rw [wRevoke, if_neg (by simp [seqB]; omega)]
        have R2 : wDesc s (plainT l) = none := by rw [wDesc, if_neg (by simp [seqB]; omega)]
        have d1 : decide ((1 : Int) ≤ s) = false := decide_eq_false c0
        rw [R1, show resB none = .tuple #[.agg (encB Z256), .int .i64 2] from rfl] at C1
        rw [R2, show resB none = .tuple #[.agg (encB Z256), .int .i64 2] from rfl] at C2
        clear R1 R2
        go_wp2_with (first | ((with_reducible apply sAlloc HS); infer_instance; (first | exact cells_agg _ | exact cells_one rfl); rfl; intro Bx w' H1; clear HS; have HS := H1; clear H1) | ((with_reducible apply sStoreB HS); infer_instance; rfl; rfl; (conv => (lhs; whnf)); (repeat (first | exact Rep.here | apply Rep.there)); (first | exact z256s); exact z256s; exact encB_one _; intro w' H1; clear HS; have HS := H1; clear H1) | (go_at_call 15; (with_reducible refine (C1.out _ (HN.out.mod HS.mod)).mono ?_); rintro e w' ⟨rfl, H1⟩; replace HS := HS.fresh H1; clear H1) | (go_at_call 13; refine (C2.out _ _ _ _ (tags_own HS (by (repeat (first | exact List.Mem.head _ | apply List.Mem.tail))) HPL.out HBT.out) (by omega) s0 s1).mono ?_; rintro e w' ⟨rfl, H1⟩; replace HS := HS.fresh H1; clear H1))
        go_ret
        exact ⟨by first | rfl | simp, HS.below⟩
      have d1 : decide ((1 : Int) ≤ s) = true := decide_eq_true c0
      by_cases c1 : s ≤ 2147483648
      rotate_left
      · have R1 : wRevoke s l = none := by rw [wRevoke, if_neg (by simp [seqB]; omega)]
        have R2 : wDesc s (plainT l) = none := by rw [wDesc, if_neg (by simp [seqB]; omega)]
        have d2 : decide (s ≤ (2147483648 : Int)) = false := decide_eq_false c1
        rw [R1, show resB none = .tuple #[.agg (encB Z256), .int .i64 2] from rfl] at C1
        rw [R2, show resB none = .tuple #[.agg (encB Z256), .int .i64 2] from rfl] at C2
        clear R1 R2
        go_wp2_with (first | ((with_reducible apply sAlloc HS); infer_instance; (first | exact cells_agg _ | exact cells_one rfl); rfl; intro Bx w' H1; clear HS; have HS := H1; clear H1) | ((with_reducible apply sStoreB HS); infer_instance; rfl; rfl; (conv => (lhs; whnf)); (repeat (first | exact Rep.here | apply Rep.there)); (first | exact z256s); exact z256s; exact encB_one _; intro w' H1; clear HS; have HS := H1; clear H1) | (go_at_call 15; (with_reducible refine (C1.out _ (HN.out.mod HS.mod)).mono ?_); rintro e w' ⟨rfl, H1⟩; replace HS := HS.fresh H1; clear H1) | (go_at_call 13; refine (C2.out _ _ _ _ (tags_own HS (by (repeat (first | exact List.Mem.head _ | apply List.Mem.tail))) HPL.out HBT.out) (by omega) s0 s1).mono ?_; rintro e w' ⟨rfl, H1⟩; replace HS := HS.fresh H1; clear H1))
        go_ret
        exact ⟨by first | rfl | simp, HS.below⟩
      have d2 : decide (s ≤ (2147483648 : Int)) = true := decide_eq_true c1
      have hs : seqB s = true := by simp [seqB]; omega
      cases hr : risesN l
      · have R1 : wRevoke s l = none := by rw [wRevoke, if_neg (by rw [hr]; simp)]
        have R2 : wDesc s (plainT l) = none := by rw [wDesc, if_neg (by rw [plainT_rises, hr]; simp)]
        rw [R1, show resB none = .tuple #[.agg (encB Z256), .int .i64 2] from rfl] at C1
        rw [R2, show resB none = .tuple #[.agg (encB Z256), .int .i64 2] from rfl] at C2
        clear R1 R2
        go_wp2_with (first | ((with_reducible apply sAlloc HS); infer_instance; (first | exact cells_agg _ | exact cells_one rfl); rfl; intro Bx w' H1; clear HS; have HS := H1; clear H1) | ((with_reducible apply sStoreB HS); infer_instance; rfl; rfl; (conv => (lhs; whnf)); (repeat (first | exact Rep.here | apply Rep.there)); (first | exact z256s); exact z256s; exact encB_one _; intro w' H1; clear HS; have HS := H1; clear H1) | (go_at_call 15; (with_reducible refine (C1.out _ (HN.out.mod HS.mod)).mono ?_); rintro e w' ⟨rfl, H1⟩; replace HS := HS.fresh H1; clear H1) | (go_at_call 13; refine (C2.out _ _ _ _ (tags_own HS (by (repeat (first | exact List.Mem.head _ | apply List.Mem.tail))) HPL.out HBT.out) (by omega) s0 s1).mono ?_; rintro e w' ⟨rfl, H1⟩; replace HS := HS.fresh H1; clear H1))
        go_ret
        exact ⟨by first | rfl | simp, HS.below⟩
      rcases k with _ | j
      · have R1 : wRevoke s l = none := by rw [wRevoke, if_neg (by have := HnL.out; omega)]
        have R2 : wDesc s (plainT l) = none := by rw [wDesc, if_neg (by rw [plainT_len]; have := HnL.out; omega)]
        rw [R1, show resB none = .tuple #[.agg (encB Z256), .int .i64 2] from rfl] at C1
        rw [R2, show resB none = .tuple #[.agg (encB Z256), .int .i64 2] from rfl] at C2
        clear R1 R2
        go_wp2_with (first | ((with_reducible apply sAlloc HS); infer_instance; (first | exact cells_agg _ | exact cells_one rfl); rfl; intro Bx w' H1; clear HS; have HS := H1; clear H1) | ((with_reducible apply sStoreB HS); infer_instance; rfl; rfl; (conv => (lhs; whnf)); (repeat (first | exact Rep.here | apply Rep.there)); (first | exact z256s); exact z256s; exact encB_one _; intro w' H1; clear HS; have HS := H1; clear H1) | (go_at_call 15; (with_reducible refine (C1.out _ (HN.out.mod HS.mod)).mono ?_); rintro e w' ⟨rfl, H1⟩; replace HS := HS.fresh H1; clear H1) | (go_at_call 13; refine (C2.out _ _ _ _ (tags_own HS (by (repeat (first | exact List.Mem.head _ | apply List.Mem.tail))) HPL.out HBT.out) (by omega) s0 s1).mono ?_; rintro e w' ⟨rfl, H1⟩; replace HS := HS.fresh H1; clear H1))
        go_ret
        exact ⟨by first | rfl | simp, HS.below⟩
      have d3 : decide ((1 : Int) ≤ ((j + 1 : Nat) : Int)) = true := decide_eq_true (by omega)
      have d3' : decide ((1 : Int) ≤ (j : Int) + 1) = true := decide_eq_true (by omega)
      by_cases c60 : j + 1 ≤ 60
      rotate_left
      · have R1 : wRevoke s l = none := by rw [wRevoke, if_neg (by have := HnL.out; omega)]
        have R2 : wDesc s (plainT l) = none := by rw [wDesc, if_neg (by rw [plainT_len]; have := HnL.out; omega)]
        have d4 : decide ((j : Int) + 1 ≤ 60) = false := decide_eq_false (by omega)
        have d5 : decide ((j : Int) + 1 ≤ 30) = false := decide_eq_false (by omega)
        rw [R1, show resB none = .tuple #[.agg (encB Z256), .int .i64 2] from rfl] at C1
        rw [R2, show resB none = .tuple #[.agg (encB Z256), .int .i64 2] from rfl] at C2
        clear R1 R2
        go_wp2_with (first | ((with_reducible apply sAlloc HS); infer_instance; (first | exact cells_agg _ | exact cells_one rfl); rfl; intro Bx w' H1; clear HS; have HS := H1; clear H1) | ((with_reducible apply sStoreB HS); infer_instance; rfl; rfl; (conv => (lhs; whnf)); (repeat (first | exact Rep.here | apply Rep.there)); (first | exact z256s); exact z256s; exact encB_one _; intro w' H1; clear HS; have HS := H1; clear H1) | (go_at_call 15; (with_reducible refine (C1.out _ (HN.out.mod HS.mod)).mono ?_); rintro e w' ⟨rfl, H1⟩; replace HS := HS.fresh H1; clear H1) | (go_at_call 13; refine (C2.out _ _ _ _ (tags_own HS (by (repeat (first | exact List.Mem.head _ | apply List.Mem.tail))) HPL.out HBT.out) (by omega) s0 s1).mono ?_; rintro e w' ⟨rfl, H1⟩; replace HS := HS.fresh H1; clear H1))
        go_ret
        exact ⟨by first | rfl | simp, HS.below⟩
      have d4 : decide ((j : Int) + 1 ≤ 60) = true := decide_eq_true (by omega)
      obtain ⟨b, hb⟩ : ∃ b, wRevoke s l = some b := ⟨_, by rw [wRevoke, if_pos ⟨hs, by have := HnL.out; omega, by have := HnL.out; omega, hr⟩]⟩
      have lb : b.length = 256 := by have h := wRevoke_len s l; rw [hb] at h; exact h
      have zb : Hid ((encB b).size = 256) := (encB_size _).trans lb
      have RA := Lib.hid (as_revoke hb ⟨s0, s1⟩ HBD.out).rev
      have C3 := Lib.hid (fun W => jrrevoke b lb W)
      rw [RA.out] at C3
      rw [hb, show resB (some b) = .tuple #[.agg (encB b), .int .i64 0] from rfl] at C1
      have HTK := Lib.hid (fun w' (h : NumsAt w' a (j + 1) l) => numsAt_take h j (by omega))
      have C4 := Lib.hid (fun W h => jwrevoke a j cap (l.take j) s W h (by omega) s0 s1)
      have hll : (l == l) = true := by simp
      have hss : (s != s) = false := by simp
      have hcapI : (j : Int) ≤ (cap : Int) := by omega
      clear hb RA
      obtain ⟨L, o, ha, hra0⟩ := HN.out.range (Nat.succ_pos j)
      subst ha
      clear hra0
      rcases j with _ | j
      · have R4 : wRevoke s (l.take 0) = none := by rw [wRevoke, if_neg (by simp)]
        obtain ⟨b2, hb2⟩ : ∃ b, wDesc s (plainT l) = some b := ⟨_, by rw [wDesc, if_pos ⟨hs, by rw [plainT_len]; have := HnL.out; omega, by rw [plainT_len]; have := HnL.out; omega, by rw [plainT_rises]; exact hr⟩]⟩
        have lb2 : b2.length = 256 := by have h := wDesc_len s (plainT l); rw [hb2] at h; exact h
        have zb2 : Hid ((encB b2).size = 256) := (encB_size _).trans lb2
        rw [R4, show resB none = .tuple #[.agg (encB Z256), .int .i64 2] from rfl] at C4
        rw [hb2, show resB (some b2) = .tuple #[.agg (encB b2), .int .i64 0] from rfl] at C2
        clear R4 hb2 hs hr
        go_wp2_with (first | ((with_reducible apply sAlloc HS); infer_instance; (first | exact cells_agg _ | exact cells_one rfl); rfl; intro Bx w' H1; clear HS; have HS := H1; clear H1) | ((with_reducible apply sLoadB HS); infer_instance; rfl; rfl; (repeat (first | exact List.Mem.head _ | apply List.Mem.tail)); (first | exact zb.out)) | ((with_reducible apply sStoreB HS); infer_instance; rfl; rfl; (conv => (lhs; whnf)); (repeat (first | exact Rep.here | apply Rep.there)); (first | exact zb.out | exact zb2.out | exact z256s); exact z256s; exact encB_one _; intro w' H1; clear HS; have HS := H1; clear H1) | (go_at_call 15; (with_reducible refine (C1.out _ (HN.out.mod HS.mod)).mono ?_); rintro e w' ⟨rfl, H1⟩; replace HS := HS.fresh H1; clear H1) | (go_at_call 15; (with_reducible refine (C4.out _ (HTK.out _ (HN.out.mod HS.mod))).mono ?_); rintro e w' ⟨rfl, H1⟩; replace HS := HS.fresh H1; clear H1) | (go_at_call 13; refine (C2.out _ _ _ _ (tags_own HS (by (repeat (first | exact List.Mem.head _ | apply List.Mem.tail))) HPL.out HBT.out) (by omega) s0 s1).mono ?_; rintro e w' ⟨rfl, H1⟩; replace HS := HS.fresh H1; clear H1) | (go_at_call 26; refine (C3.out _).mono ?_; rintro e w' ⟨⟨LN, hLN, hrow, rfl⟩, H1⟩; replace HS := HS.new (A := .blk false LN (encN l) 22) H1 hrow (fun k hk => by (have : k = LN := hk); omega); clear H1 hrow hLN) | (go_at_call 20; refine (rsameN _ _ _ _ _ _ l l _ (HN.out.mod HS.mod) (numsAt_row (HS.blk (by (repeat (first | exact List.Mem.head _ | apply List.Mem.tail)))) HBD.out) (by omega)).mono ?_; rintro e w' ⟨rfl, H1⟩; rw [hll]; replace HS := HS.fresh H1; clear H1))
        go_ret
        exact ⟨by first | rfl | (simp; done), HS.below⟩
      · obtain ⟨b5, hb5⟩ : ∃ b, wRevoke s (l.take (j + 1)) = some b := ⟨_, by rw [wRevoke, if_pos ⟨hs, by rw [List.length_take]; have := HnL.out; omega, by rw [List.length_take]; have := HnL.out; omega, rises_take l _ hr⟩]⟩
        have lb5 : b5.length = 256 := by have h := wRevoke_len s (l.take (j + 1)); rw [hb5] at h; exact h
        have zb5 : Hid ((encB b5).size = 256) := (encB_size _).trans lb5
        rw [hb5, show resB (some b5) = .tuple #[.agg (encB b5), .int .i64 0] from rfl] at C4
        clear hb5
        have d6 : decide ((1 : Int) < (j : Int) + 1 + 1) = true := decide_eq_true (by omega)
        clear d3 d3' d4 hcapI hltI
        have d3 : decide ((1 : Int) ≤ (j : Int) + 1 + 1) = true := decide_eq_true (by omega)
        have d4 : decide ((j : Int) + 1 + 1 ≤ 60) = true := decide_eq_true (by omega)
        have hcapI : (j : Int) + 1 ≤ (cap : Int) := by omega
        have d3I : (1 : Int) ≤ (j : Int) + 1 + 1 := by omega
        have d4I : (j : Int) + 1 + 1 ≤ 60 := by omega
        have d6I : (1 : Int) < (j : Int) + 1 + 1 := by omega
        by_cases c30 : j + 1 + 1 ≤ 30
        · obtain ⟨b2, hb2⟩ : ∃ b, wDesc s (plainT l) = some b := ⟨_, by rw [wDesc, if_pos ⟨hs, by rw [plainT_len]; have := HnL.out; omega, by rw [plainT_len]; have := HnL.out; omega, by rw [plainT_rises]; exact hr⟩]⟩
          have lb2 : b2.length = 256 := by have h := wDesc_len s (plainT l); rw [hb2] at h; exact h
          have zb2 : Hid ((encB b2).size = 256) := (encB_size _).trans lb2
          have d5 : decide ((j : Int) + 1 + 1 ≤ 30) = true := decide_eq_true (by omega)
          have d5I : (j : Int) + 1 + 1 ≤ 30 := by omega
          rw [hb2, show resB (some b2) = .tuple #[.agg (encB b2), .int .i64 0] from rfl] at C2
          clear hb2 hs hr
          go_wp2_with (first | ((with_reducible apply sAlloc HS); infer_instance; (first | exact cells_agg _ | exact cells_one rfl); rfl; intro Bx w' H1; clear HS; have HS := H1; clear H1) | ((with_reducible apply sLoadB HS); infer_instance; rfl; rfl; (repeat (first | exact List.Mem.head _ | apply List.Mem.tail)); (first | exact zb.out)) | ((with_reducible apply sStoreB HS); infer_instance; rfl; rfl; (conv => (lhs; whnf)); (repeat (first | exact Rep.here | apply Rep.there)); (first | exact zb.out | exact zb2.out | exact zb5.out); exact z256s; exact encB_one _; intro w' H1; clear HS; have HS := H1; clear H1) | (go_at_call 15; (with_reducible refine (C1.out _ (HN.out.mod HS.mod)).mono ?_); rintro e w' ⟨rfl, H1⟩; replace HS := HS.fresh H1; clear H1) | (go_at_call 15; (with_reducible refine (C4.out _ (HTK.out _ (HN.out.mod HS.mod))).mono ?_); rintro e w' ⟨rfl, H1⟩; replace HS := HS.fresh H1; clear H1) | (go_at_call 13; refine (C2.out _ _ _ _ (tags_own HS (by (repeat (first | exact List.Mem.head _ | apply List.Mem.tail))) HPL.out HBT.out) (by omega) s0 s1).mono ?_; rintro e w' ⟨rfl, H1⟩; replace HS := HS.fresh H1; clear H1) | (go_at_call 26; refine (C3.out _).mono ?_; rintro e w' ⟨⟨LN, hLN, hrow, rfl⟩, H1⟩; replace HS := HS.new (A := .blk false LN (encN l) 22) H1 hrow (fun k hk => by (have : k = LN := hk); omega); clear H1 hrow hLN) | (go_at_call 20; refine (rsameN _ _ _ _ _ _ l l _ (HN.out.mod HS.mod) (numsAt_row (HS.blk (by (repeat (first | exact List.Mem.head _ | apply List.Mem.tail)))) HBD.out) (by omega)).mono ?_; rintro e w' ⟨rfl, H1⟩; rw [hll]; replace HS := HS.fresh H1; clear H1))
          go_ret
          exact ⟨by first | rfl | (simp; done), HS.below⟩
        · have R2 : wDesc s (plainT l) = none := by rw [wDesc, if_neg (by rw [plainT_len]; have := HnL.out; omega)]
          have d5 : decide ((j : Int) + 1 + 1 ≤ 30) = false := decide_eq_false (by omega)
          have d5I : ¬ (j : Int) + 1 + 1 ≤ 30 := by omega
          rw [R2, show resB none = .tuple #[.agg (encB Z256), .int .i64 2] from rfl] at C2
          clear R2 hs hr
          go_wp2_with (first | ((with_reducible apply sAlloc HS); infer_instance; (first | exact cells_agg _ | exact cells_one rfl); rfl; intro Bx w' H1; clear HS; have HS := H1; clear H1) | ((with_reducible apply sLoadB HS); infer_instance; rfl; rfl; (repeat (first | exact List.Mem.head _ | apply List.Mem.tail)); (first | exact zb.out)) | ((with_reducible apply sStoreB HS); infer_instance; rfl; rfl; (conv => (lhs; whnf)); (repeat (first | exact Rep.here | apply Rep.there)); (first | exact zb.out | exact zb5.out | exact z256s); exact z256s; exact encB_one _; intro w' H1; clear HS; have HS := H1; clear H1) | (go_at_call 15; (with_reducible refine (C1.out _ (HN.out.mod HS.mod)).mono ?_); rintro e w' ⟨rfl, H1⟩; replace HS := HS.fresh H1; clear H1) | (go_at_call 15; (with_reducible refine (C4.out _ (HTK.out _ (HN.out.mod HS.mod))).mono ?_); rintro e w' ⟨rfl, H1⟩; replace HS := HS.fresh H1; clear H1) | (go_at_call 13; refine (C2.out _ _ _ _ (tags_own HS (by (repeat (first | exact List.Mem.head _ | apply List.Mem.tail))) HPL.out HBT.out) (by omega) s0 s1).mono ?_; rintro e w' ⟨rfl, H1⟩; replace HS := HS.fresh H1; clear H1) | (go_at_call 26; refine (C3.out _).mono ?_; rintro e w' ⟨⟨LN, hLN, hrow, rfl⟩, H1⟩; replace HS := HS.new (A := .blk false LN (encN l) 22) H1 hrow (fun k hk => by (have : k = LN := hk); omega); clear H1 hrow hLN) | (go_at_call 20; refine (rsameN _ _ _ _ _ _ l l _ (HN.out.mod HS.mod) (numsAt_row (HS.blk (by (repeat (first | exact List.Mem.head _ | apply List.Mem.tail)))) HBD.out) (by omega)).mono ?_; rintro e w' ⟨rfl, H1⟩; rw [hll]; replace HS := HS.fresh H1; clear H1))
          go_ret
          exact ⟨by first | rfl | (simp; done), HS.below⟩

set_option maxRecDepth 100000 in
theorem lifted (os : Os) (started : os.Started) (H : Type) (enc : TypeId × Value → H) :
    ReturnsInHanded {} Try.checked os 7 .any (Rows.jblockRowsSpec.pre6 enc Try.prog Try.f7 Rows.jblockRowsRow.domain false) (Rows.jblockRowsSpec.post enc Try.prog Try.f7 false true false false) := by
  refine law_lift (C := Try.checked) own started (by kernel_rfl) Try.func7 laidOut rfl Try.underlying4 rfl ?hs (by kernel_rfl)
    (ChangeSpec.witness6 (enc := enc) (C := Try.checked) false ⟨#[], #[.int .u32 0, .slice none 0 0], []⟩ 8 (by kernel_rfl) (by kernel_rfl) (by kernel_rfl) (by kernel_rfl)) ?hwalk
  case hs =>
    intro ds h
    match ds, h with
    | [d0, d1], _ => rfl
  case hwalk =>
    intro W args hn ha
    obtain ⟨l⟩ := args
    match l, hn with
    | [v0, v1], _ =>
      obtain ⟨s, rfl, hs⟩ := (ha 0 _ _ rfl rfl).int Try.underlying22
      obtain ⟨a, n, cap, l, rfl, hc, hN⟩ := nums_arg (ha 1 _ _ rfl rfl)
      simp [Lit.wf] at hs
      have h1 : IntKind.u32.min = 0 := rfl
      have h2 : IntKind.u32.max = 4294967295 := rfl
      exact walk s a n cap l W (by omega) (by omega) hN hc

theorem over : Rows.jblockRowsRow.holds Try.pinned (OpenSpec.ofChange Rows.jblockRowsSpec) :=
  OpenClaim.holds_of_wide 7 Try.f7 rfl rfl rfl rfl rfl rfl rfl ⟨rfl, rfl, rfl, rfl, rfl⟩ rfl rfl rfl rfl rfl (by kernel_rfl) Try.func7 (by kernel_rfl)
    (of_decide_eq_true (by kernel_rfl)) (by unfold Func.isWrapper; first | (rw [if_pos (by decide +kernel)]; kernel_rfl) | (rw [if_neg (by decide +kernel)]; exact ⟨rfl, rfl⟩))
    (fun os started H enc _ => lifted os started H enc)

theorem proved : Rows.JblockRowsSaid := over
#print axioms proved
end Go.Proofs.Ytckadanghhibhaa.jblockRows
