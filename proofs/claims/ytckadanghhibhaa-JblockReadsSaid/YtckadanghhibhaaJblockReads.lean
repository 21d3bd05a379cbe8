/- Any block is read as each kind as the chapter says, or refused; what it begins as, and how it is escaped, likewise. -/
import Derived.Test.YtckadanghhibhaaJrA
import Derived.Test.YtckadanghhibhaaQr
namespace Go.Proofs.Ytckadanghhibhaa.jblockReads
open Go Go.RowKit Go.ChangeShapes Go.WideShapes Go.ChangeAt
theorem own : ownKnob Try.prog.godebug = none := by kernel_rfl
theorem laidOut : laidOutB Try.prog = true := by kernel_rfl

instance : Row Try.prog 24 2 := row_mk Try.underlying24 rfl (by kernel_rfl)
theorem own_lenT {S : Nat → Prop} {w0 w : World} {L : List Ass} (HS : St S w0 w L) {v : Value} {e : TypeId} {sz n : Nat} {xs : List Value} (hm : Ass.own v e sz n xs ∈ L) : xs.length = n * sz := (HS.own hm).1

set_option maxRecDepth 100000 in
set_option maxHeartbeats 8000000 in
theorem walk (bs : List UInt8) (hl : bs.length = 256) (w : World) :
    Calls Try.prog 8 #[.agg (encB bs)] w fun e w' => e = .returned (.bool true) ∧ Below w.heap.size w w' := by
  have HS := St.nil none' w
  have hz : Hid ((encB bs).size = 256) := (encB_size _).trans hl
  have C1 := Lib.hid (fun W => jrhead bs hl W)
  have C2 := Lib.hid (fun W => rrhead bs hl W)
  have C3 := Lib.hid (fun W => jrcommit bs hl W)
  have C4 := Lib.hid (fun W => rrcommit bs hl W)
  have C5 := Lib.hid (fun W => jkind bs hl W)
  have C6 := Lib.hid (fun W => rrkind bs hl W)
  have C7 := Lib.hid (fun (S : Nat → Prop) (w0 W : World) (L : List Ass) (HS : St S w0 W L) => rrdesc HS bs hl)
  have C8 := Lib.hid (fun (S : Nat → Prop) (w0 W : World) (L : List Ass) (HS : St S w0 W L) => rrrevoke HS bs hl)
  have C9 := Lib.hid (fun (S : Nat → Prop) (w0 W : World) (L : List Ass) (HS : St S w0 W L) => (jrdesc bs hl W).mono fun e w' h => gotT_own HS h.1 h.2)
  have C10 := Lib.hid (fun (S : Nat → Prop) (w0 W : World) (L : List Ass) (HS : St S w0 W L) => (jrrevoke bs hl W).mono fun e w' h => gotN_own HS h.1 h.2)
  have C11 := Lib.hid (fun W => jesc bs hl W)
  have C12 := Lib.hid (fun W => rresc bs hl W)
  have C13 := Lib.hid (fun W => junesc bs hl W)
  have C14 := Lib.hid (fun W => rrunesc bs hl W)
  obtain ⟨r1, r2, r3, hr⟩ := resRH_eq (rHead bs)
  rw [hr] at C1 C2
  obtain ⟨q1, q2, q3, q4, hq⟩ := resRC_eq (rCommit bs)
  rw [hq] at C3 C4
  rw [show resK (kindB bs) = .tuple #[.int .u8 (kindB bs).1, .int .u32 (kindB bs).2] from rfl] at C5 C6
  obtain ⟨ft1, ft2⟩ := outT_fine bs
  obtain ⟨fn1, fn2⟩ := outN_fine bs
  have le := Lib.hid (escB_len bs hl)
  have lu := Lib.hid (unescB_len bs hl)
  have ze : Hid ((encB (escB bs)).size = 256) := (encB_size _).trans le.out
  generalize escB bs = eb at *
  generalize unescB bs = ub at *
  generalize isB bs = ib at *
  generalize (kindB bs).1 = k1 at *
  generalize (kindB bs).2 = k2 at *
  generalize (outT (rDesc bs)).1 = s1 at *
  generalize (outT (rDesc bs)).2.2 = e1 at *
  generalize (outT (rDesc bs)).2.1 = l1 at *
  generalize (outN (rRevoke bs)).1 = s2 at *
  generalize (outN (rRevoke bs)).2.2 = e2 at *
  generalize (outN (rRevoke bs)).2.1 = l2 at *
  have FT := Lib.hid ft2
  have FUN := Lib.hid fn2
  have hl1 : (l1 == l1) = true := by simp
  have hl2 : (l2 == l2) = true := by simp
  clear hr hq hl ft2 fn2
  go_enter Try.func8, Try.ntmps8
  go_wp2_with (first | ((with_reducible apply sBox HS); rfl; (conv => (lhs; whnf)); (first | exact cells_agg _ | exact cells_one rfl); intro B1 w' H1; clear HS; have HS := H1; clear H1) | ((with_reducible apply sAlloc HS); infer_instance; (first | exact cells_agg _ | exact cells_one rfl); rfl; intro Bh w' H1; clear HS; have HS := H1; clear H1) | ((with_reducible apply sLoadB HS); infer_instance; rfl; rfl; (repeat (first | exact List.Mem.head _ | apply List.Mem.tail)); with_reducible exact hz.out) | (go_at_call 27; refine (C1.out _).mono ?_; rintro e w' ⟨rfl, H1⟩; replace HS := HS.fresh H1; clear H1) | (go_at_call 28; refine (C2.out _).mono ?_; rintro e w' ⟨rfl, H1⟩; replace HS := HS.fresh H1; clear H1) | (go_at_call 25; refine (C3.out _).mono ?_; rintro e w' ⟨rfl, H1⟩; replace HS := HS.fresh H1; clear H1) | (go_at_call 29; refine (C4.out _).mono ?_; rintro e w' ⟨rfl, H1⟩; replace HS := HS.fresh H1; clear H1) | (go_at_call 23; refine (C5.out _).mono ?_; rintro e w' ⟨rfl, H1⟩; replace HS := HS.fresh H1; clear H1) | (go_at_call 30; refine (C6.out _).mono ?_; rintro e w' ⟨rfl, H1⟩; replace HS := HS.fresh H1; clear H1) | ((with_reducible apply sStoreB HS); infer_instance; rfl; rfl; (conv => (lhs; whnf)); (repeat (first | exact Rep.here | apply Rep.there)); rfl; rfl; (intro u hu; simp at hu; rcases hu with rfl | rfl <;> rfl); intro w' H1; clear HS; have HS := H1; clear H1) | ((with_reducible apply sLoadB HS); infer_instance; rfl; rfl; (repeat (first | exact List.Mem.head _ | apply List.Mem.tail)); rfl) | ((with_reducible apply sNeHead); rfl; rfl; rfl) | (go_at_call 31; refine (C7.out _ _ _ _ HS).mono ?_; rintro e w' ⟨v, rfl, H1⟩; clear HS; have HS := H1; clear H1; obtain ⟨ta, tc, rfl⟩ := own_slice (HS.own (.head _))) | (go_at_call 32; refine (C8.out _ _ _ _ HS).mono ?_; rintro e w' ⟨v, rfl, H1⟩; clear HS; have HS := H1; clear H1; obtain ⟨na, nc, rfl⟩ := own_slice (HS.own (.head _))))
  obtain ⟨L0, hB1, HS⟩ : ∃ L0 : List Ass, Ass.blk true B1 (encB bs) 28 ∈ L0 ∧ St none' w w' (.own (.slice na l2.length nc) 22 1 l2.length (encI l2) :: .own (.slice ta l1.length tc) 55 2 l1.length (encTl l1) :: L0) := ⟨_, by (repeat (first | exact List.Mem.head _ | apply List.Mem.tail)), HS⟩
  go_loopw [25] (fun iv wr => ∃ i : Nat, i ≤ 2 ∧ iv = .int .i64 (i : Int) ∧ St none' w wr (.own (.slice na l2.length nc) 22 1 l2.length (encI l2) :: .own (.slice ta l1.length tc) 55 2 l1.length (encTl l1) :: L0)) (fun iv _ => 2 - (intOf iv).toNat)
  case atStart => exact ⟨0, by omega, rfl, HS⟩
  case round =>
    obtain ⟨i, hi, rfl, HS⟩ := hrel
    by_cases hi2 : i < 2
    · go_wp2_with (first | ((with_reducible apply sLoadB HS); infer_instance; rfl; rfl; (repeat (first | exact hB1 | exact List.Mem.head _ | apply List.Mem.tail)); with_reducible exact hz.out) | (go_at_call 33; refine (C9.out _ _ _ _ HS).mono ?_; rintro e w' ⟨v, rfl, H1⟩; clear HS; have HS := H1; clear H1; obtain ⟨la, lc, rfl⟩ := own_slice (HS.own (.head _))) | (go_at_call 26; refine (C10.out _ _ _ _ HS).mono ?_; rintro e w' ⟨v, rfl, H1⟩; clear HS; have HS := H1; clear H1; obtain ⟨ma, mc, rfl⟩ := own_slice (HS.own (.head _))) | (go_at_call 19; refine (rsameT _ _ _ _ _ _ l1 l1 _ (tags_own HS (by exact .tail _ (.head _)) rfl FT.out) (tags_own HS (by exact .tail _ (.tail _ (.tail _ (.head _)))) rfl FT.out) (by omega)).mono ?_; rintro e w' ⟨rfl, H1⟩; rw [hl1]; replace HS := HS.fresh H1; clear H1) | (go_at_call 20; refine (rsameN _ _ _ _ _ _ l2 l2 _ (nums_own HS (by exact .head _) rfl FUN.out) (nums_own HS (by exact .tail _ (.tail _ (.head _))) rfl FUN.out) (by omega)).mono ?_; rintro e w' ⟨rfl, H1⟩; rw [hl2]; replace HS := HS.fresh H1; clear H1))
      go_loopw [32] (fun jv wr => ∃ (j : Nat) (xs : List Value), j ≤ l1.length ∧ jv = .int .i64 (j : Int) ∧ St none' w wr (.own (.slice ma l2.length mc) 22 1 l2.length (encI l2) :: .own (.slice la l1.length lc) 55 2 l1.length xs :: .own (.slice na l2.length nc) 22 1 l2.length (encI l2) :: .own (.slice ta l1.length tc) 55 2 l1.length (encTl l1) :: L0)) (fun jv _ => l1.length - (intOf jv).toNat)
      case atStart => exact ⟨0, _, Nat.zero_le _, rfl, HS⟩
      case round =>
        obtain ⟨j, xs, hj, rfl, HS⟩ := hrel
        by_cases hjl : j < l1.length
        · have hxs := own_lenT HS (.tail _ (.head _))
          obtain ⟨g, cap3, e3, hcc, _⟩ := own_row (HS.own (.tail _ (.head _))) (by omega : 0 < l1.length)
          obtain ⟨rfl, rfl⟩ : la = some ⟨g, 0, none⟩ ∧ lc = cap3 := by simpa using e3
          clear e3
          go_wp2_with ((with_reducible apply sStoreO1 (T := 22) (i := j * 2) HS inferInstance); rfl; rfl; (conv => (lhs; whnf)); (repeat (first | exact Rep.here | apply Rep.there)); omega; rfl; intro w' H1; clear HS; have HS := H1; clear H1)
          go_roundw
          case rel => exact ⟨j + 1, _, by omega, by go_num, HS⟩
          case measure => simp [intOf]; omega
        · obtain rfl : j = l1.length := by omega
          go_wp2
          go_loopw [33] (fun jv wr => ∃ (j : Nat) (ys : List Value), j ≤ l2.length ∧ jv = .int .i64 (j : Int) ∧ St none' w wr (.own (.slice ma l2.length mc) 22 1 l2.length ys :: .own (.slice na l2.length nc) 22 1 l2.length (encI l2) :: .own (.slice ta l1.length tc) 55 2 l1.length (encTl l1) :: L0)) (fun jv _ => l2.length - (intOf jv).toNat)
          case atStart => exact ⟨0, _, Nat.zero_le _, rfl, HS.swap.tail⟩
          case round =>
            obtain ⟨j, ys, hj, rfl, HS⟩ := hrel
            by_cases hjl : j < l2.length
            · have hxs := own_lenT HS (.head _)
              obtain ⟨g, cap3, e3, hcc, _⟩ := own_row (HS.own (.head _)) (by omega : 0 < l2.length)
              obtain ⟨rfl, rfl⟩ : ma = some ⟨g, 0, none⟩ ∧ mc = cap3 := by simpa using e3
              clear e3
              go_wp2_with ((with_reducible apply sStoreO1 HS); infer_instance; rfl; rfl; (conv => (lhs; whnf)); (repeat (first | exact Rep.here | apply Rep.there)); omega; rfl; intro w' H1; clear HS; have HS := H1; clear H1)
              go_roundw
              case rel => exact ⟨j + 1, _, by omega, by go_num, HS⟩
              case measure => simp [intOf]; omega
            · obtain rfl : j = l2.length := by omega
              go_wp2
              go_roundw
              case rel => exact ⟨i + 1, by omega, by go_num, HS.tail⟩
              case measure => simp [intOf]; omega
    · obtain rfl : i = 2 := by omega
      go_wp2_with (first | ((with_reducible apply sLoadB HS); infer_instance; rfl; rfl; (repeat (first | exact hB1 | exact List.Mem.head _ | apply List.Mem.tail)); with_reducible exact hz.out) | ((with_reducible apply sAlloc HS); infer_instance; (first | exact cells_agg _ | exact cells_one rfl); rfl; intro Be w' H1; clear HS; have HS := H1; clear H1) | (go_at_call 22; refine (C11.out _).mono ?_; rintro e w' ⟨rfl, H1⟩; replace HS := HS.fresh H1; clear H1) | (go_at_call 34; refine (C12.out _).mono ?_; rintro e w' ⟨rfl, H1⟩; replace HS := HS.fresh H1; clear H1) | ((with_reducible apply sStoreB HS); infer_instance; rfl; rfl; (conv => (lhs; whnf)); (repeat (first | exact Rep.here | apply Rep.there)); with_reducible exact ze.out; exact z256s; exact encB_one _; intro w' H1; clear HS; have HS := H1; clear H1))
      (try simp only [Act.put])
      refine wp_region_quietF (by kernel_rfl) (by kernel_rfl) ?_
      repeat (first | go_big_quiet_skip | (((with_reducible apply qLoadB HS); infer_instance; rfl; rfl; (repeat (first | exact hB1 | exact List.Mem.head _ | apply List.Mem.tail)); (first | (with_reducible exact hz.out) | (with_reducible exact ze.out))); (try simp only [Act.put, List.setIfInBounds_toArray, List.set_cons_zero, List.set_cons_succ])) | (((with_reducible apply qEqSame blkT); rfl; rfl; rfl; (first | exact le.out | exact lu.out)); (try simp only [Act.put, List.setIfInBounds_toArray, List.set_cons_zero, List.set_cons_succ])) | (go_big_quiet_want; go_big_quiet_op; first | go_big_quiet_on | (refine ⟨_, fun _ _ => rfl, ?_⟩; go_big_quiet_on) | (apply Exists.intro; refine ⟨fun wc hfr => ?_, ?_⟩; (· (first | (go_at_call 24; exact fr_call hfr (C13.out _)) | (go_at_call 35; exact fr_call hfr (C14.out _)))); go_big_quiet_on)))
      refine wpQuiet_nil ?_
      intro w1 hm1
      replace HS := HS.fresh hm1
      clear hm1
      go_wp2
      go_ret
      exact ⟨by first | rfl | simp, HS.below⟩

set_option maxRecDepth 100000 in
theorem lifted (os : Os) (started : os.Started) (H : Type) (enc : TypeId × Value → H) :
    ReturnsInHanded {} Try.checked os 8 .any (Rows.jblockReadsSpec.pre6 enc Try.prog Try.f8 Rows.jblockReadsRow.domain false) (Rows.jblockReadsSpec.post enc Try.prog Try.f8 false true false false) := by
  refine law_lift (C := Try.checked) own started (by kernel_rfl) Try.func8 laidOut rfl Try.underlying4 rfl ?hs (by kernel_rfl)
    (ChangeSpec.witness6 (enc := enc) (C := Try.checked) false ⟨#[], #[.agg (encB Z256)], []⟩ 8 (by kernel_rfl) (by kernel_rfl) (by kernel_rfl) (by kernel_rfl)) ?hwalk
  case hs =>
    intro ds h
    match ds, h with
    | [d0], _ => rfl
  case hwalk =>
    intro W args hn ha
    obtain ⟨l⟩ := args
    match l, hn with
    | [v0], _ =>
      obtain ⟨bs, hl, rfl⟩ := blk_arg (ha 0 _ _ rfl rfl)
      exact walk bs hl W

theorem over : Rows.jblockReadsRow.holds Try.pinned (OpenSpec.ofChange Rows.jblockReadsSpec) :=
  OpenClaim.holds_of_wide 8 Try.f8 rfl rfl rfl rfl rfl rfl rfl ⟨rfl, rfl, rfl, rfl, rfl⟩ rfl rfl rfl rfl rfl (by kernel_rfl) Try.func8 (by kernel_rfl)
    (of_decide_eq_true (by kernel_rfl)) (by unfold Func.isWrapper; first | (rw [if_pos (by decide +kernel)]; kernel_rfl) | (rw [if_neg (by decide +kernel)]; exact ⟨rfl, rfl⟩))
    (fun os started H enc _ => lifted os started H enc)

theorem proved : Rows.JblockReadsSaid := over
#print axioms proved
end Go.Proofs.Ytckadanghhibhaa.jblockReads
