/- Any name is added to any block, and removed, as the chapter says, or refused. -/
import Derived.Test.YtdpbdmbgdcdmaaaBlkT
namespace Go.Proofs.Ytdpbdmbgdcdmaaa.slotsTurn
open Go Go.RowKit Go.ChangeShapes Go.WideShapes Go.ChangeAt

theorem own : ownKnob Try.prog.godebug = none := by kernel_rfl
theorem laidOut : laidOutB Try.prog = true := by kernel_rfl

theorem u32_wf {n : Int} (h : (Lit.int .u32 n).wf = true) : 0 ≤ n ∧ n < 4294967296 := by
  simp [Lit.wf] at h
  have h1 : IntKind.u32.min = 0 := rfl
  have h2 : IntKind.u32.max = 4294967295 := rfl
  omega
theorem add_len {bs : List UInt8} (hl : bs.length = 256) (name : ByteArray) (ino : Int) (i0 : 0 ≤ ino) (i1 : ino < 4294967296) : (addOf bs name ino).1.length = 256 := by
  unfold addOf
  split
  · exact hl
  · rename_i l hs
    split
    · exact hl
    · rename_i hc
      split
      · exact hl
      · rename_i i hi
        obtain ⟨h8, _, hr⟩ := idxS_void hs hi
        have hok : okName name = true := by
          cases h : okName name
          · exact absurd (.inl h) hc
          · rfl
        have h0 : ino ≠ 0 := fun h => hc (.inr (.inl h))
        show (putName bs i ino name).length = 256
        rw [putName_eq hl h8 hr h0 (okName_size hok).2]
        exact setSlot_len hl h8 (.inr ⟨by simp only; omega, i1, hok⟩)
theorem rem_len {bs : List UInt8} (hl : bs.length = 256) (name : ByteArray) : (remOf bs name).1.length = 256 := by
  rw [remOf_set]
  cases h : findOf bs name with
  | none => exact hl
  | some p => exact setSlot_len hl (find_lt h) (.inl ⟨rfl, rfl⟩)
set_option maxRecDepth 100000 in
set_option maxHeartbeats 20000000 in
theorem walk (bs : List UInt8) (hl : bs.length = 256) (name : ByteArray) (hn : name.size ≤ maxLen) (ino : Int) (i0 : 0 ≤ ino) (i1 : ino < 4294967296) (w : World) :
    Calls Try.prog 4 #[.agg (encB bs), .string name, .int .u32 ino] w fun e w' => e = .returned (.bool true) ∧ Below w.heap.size w w' := by
  have HS := St.nil none' w
  have HL := Lib.hid hl
  have hzb : (encB bs).size = 256 := (encB_size _).trans hl
  have HZB := Lib.hid hzb
  have HNM := Lib.hid hn
  have z256 : Hid ((encB Z256).size = 256) := (encB_size _).trans Z256_len
  have HAL := Lib.hid (add_len hl name ino i0 i1)
  have HRL := Lib.hid (rem_len hl name)
  have HAZ : Hid ((encB (addOf bs name ino).1).size = 256) := (encB_size _).trans HAL.out
  have HRZ : Hid ((encB (remOf bs name).1).size = 256) := (encB_size _).trans HRL.out
  unfold maxLen at hn
  clear hl hzb
  by_cases hlong : 20000 < name.size
  · have hI : (20000 : Int) < (name.size : Int) := by omega
    go_enter Try.func4, Try.ntmps4
    go_wp2_with (first | ((with_reducible apply sBox HS); rfl; (conv => (lhs; whnf)); (first | exact cells_agg _ | exact cells_one rfl); intro Bb w' H1; clear HS; have HS := H1; clear H1))
    go_ret
    exact ⟨rfl, HS.below⟩
  have hI : ¬ (20000 : Int) < (name.size : Int) := by omega
  clear hlong
  go_enter Try.func4, Try.ntmps4
  go_wp2_with (first | ((with_reducible apply sBox HS); rfl; (conv => (lhs; whnf)); (first | exact cells_agg _ | exact cells_one rfl); intro Bb w' H1; clear HS; have HS := H1; clear H1))
  (try simp only [Act.put])
  refine wp_region_sch (.q 0 (.q 1 (.two 2 (.e 3 (.e 4 (.e 5 (.nil)))) 3 (.e 2 (.e 4 (.e 5 (.nil))))))) (Hd [.blk true Bb (encB bs) 23]) (by kernel_rfl) (by kernel_rfl) (fun _ _ d _ _ h => by cases d <;> exact h) ?_
  intro w1 hm1
  replace HS := HS.fresh hm1
  clear hm1
  refine ⟨HS.hd (by (repeat (first | exact subNil | (refine subCons ?_ ?_; (repeat (first | exact List.Mem.head _ | apply List.Mem.tail)))))), ?_⟩
  repeat (first | ((with_reducible apply cLoadB); (simp only [List.getElem?_toArray, List.getElem?_cons_zero, List.getElem?_cons_succ]; rfl); infer_instance; rfl; rfl; (repeat (first | exact List.Mem.head _ | apply List.Mem.tail)); exact HZB.out; (try simp only [Act.put, List.setIfInBounds_toArray, List.set_cons_zero, List.set_cons_succ])) | ((with_reducible apply wpSch_nilCheck); (simp only [List.getElem?_toArray, List.getElem?_cons_zero, List.getElem?_cons_succ]; rfl); rfl; rfl; (try simp only [Act.put, List.setIfInBounds_toArray, List.set_cons_zero, List.set_cons_succ])) | ((with_reducible apply wpSch_plain); (simp only [List.getElem?_toArray, List.getElem?_cons_zero, List.getElem?_cons_succ]; rfl); rfl; rfl; (intro K hK; go_big_quiet_op; go_big_quiet_on)) | ((with_reducible apply wpSch_skip); (simp only [List.getElem?_toArray, List.getElem?_cons_zero, List.getElem?_cons_succ]; rfl); rfl; (try simp only [Act.put, List.setIfInBounds_toArray, List.set_cons_zero, List.set_cons_succ])))
  with_reducible apply wpSch_two_k
  (simp only [List.getElem?_toArray, List.getElem?_cons_zero, List.getElem?_cons_succ]; rfl)
  (simp only [List.getElem?_toArray, List.getElem?_cons_zero, List.getElem?_cons_succ]; rfl)
  · intro K HK
    ((with_reducible apply sAlloc HS); infer_instance; (first | exact cells_agg _ | exact cells_one rfl); rfl; intro X w' H1; clear HS; have HS := H1; clear H1)
    (try simp only [Act.put, List.setIfInBounds_toArray, List.set_cons_zero, List.set_cons_succ])
    refine wpList_nil (then_normal (HK.out _ _ ⟨.inr (HS.hd (by (repeat (first | exact subNil | (refine subCons ?_ ?_; (repeat (first | exact List.Mem.head _ | apply List.Mem.tail))))))), ?_⟩))
    clear HK K
    with_reducible apply wpSch_e_k
    (simp only [List.getElem?_toArray, List.getElem?_cons_zero, List.getElem?_cons_succ]; rfl)
    intro K HK
    ((with_reducible apply sAlloc HS); infer_instance; (first | exact cells_agg _ | exact cells_one rfl); rfl; intro Y w' H1; clear HS; have HS := H1; clear H1)
    (try simp only [Act.put, List.setIfInBounds_toArray, List.set_cons_zero, List.set_cons_succ])
    refine wpList_nil (then_normal (HK.out _ _ ⟨.inr (HS.hd (by (repeat (first | exact subNil | (refine subCons ?_ ?_; (repeat (first | exact List.Mem.head _ | apply List.Mem.tail))))))), ?_⟩))
    clear HK K
    with_reducible apply wpSch_e_k
    (simp only [List.getElem?_toArray, List.getElem?_cons_zero, List.getElem?_cons_succ]; rfl)
    intro K HK
    ((with_reducible apply sStoreB HS); infer_instance; rfl; rfl; (conv => (lhs; whnf)); (repeat (first | exact Rep.here | apply Rep.there)); exact HZB.out; exact z256.out; exact encB_one _; intro w' H1; clear HS; have HS := H1; clear H1)
    (try simp only [Act.put])
    refine wpList_nil (then_normal (HK.out _ _ ⟨.inr (HS.hd (by (repeat (first | exact subNil | (refine subCons ?_ ?_; (repeat (first | exact List.Mem.head _ | apply List.Mem.tail))))))), ?_⟩))
    clear HK K
    with_reducible apply wpSch_e_k
    (simp only [List.getElem?_toArray, List.getElem?_cons_zero, List.getElem?_cons_succ]; rfl)
    intro K HK
    ((with_reducible apply sStoreB HS); infer_instance; rfl; rfl; (conv => (lhs; whnf)); (repeat (first | exact Rep.here | apply Rep.there)); exact HZB.out; exact z256.out; exact encB_one _; intro w' H1; clear HS; have HS := H1; clear H1)
    (try simp only [Act.put])
    refine wpList_nil (then_normal (HK.out _ _ ⟨.inl rfl, ?_⟩))
    clear HK K
    refine wpSch_nil ?_
    replace HS := HS.pick (A := .blk true X (encB bs) 23) (by (repeat (first | exact Pick.here | apply Pick.there)))
    go_wp2_with (first | (go_at_call 17; refine (add_any bs HS HL.out name HNM.out ino i0 i1).mono ?_; rintro e w' ⟨rfl, H2⟩; clear HS; have HS := H2; clear H2) | (go_at_call 18; refine (radd_any HS bs HL.out name HNM.out ino i0 i1).mono ?_; rintro e w' ⟨rfl, H2⟩; clear HS; have HS := H2; clear H2; simp only [addV]) | ((with_reducible apply sLoadB HS); infer_instance; rfl; rfl; (repeat (first | exact List.Mem.head _ | apply List.Mem.tail)); (first | exact HZB.out | exact HAZ.out | exact HRZ.out)) | ((with_reducible apply sAlloc HS); infer_instance; (first | exact cells_agg _ | exact cells_one rfl); rfl; intro W w' H1; clear HS; have HS := H1; clear H1) | ((with_reducible apply sStoreB HS); infer_instance; rfl; rfl; (conv => (lhs; whnf)); (repeat (first | exact Rep.here | apply Rep.there)); exact HAZ.out; exact z256.out; exact encB_one _; intro w' H1; clear HS; have HS := H1; clear H1))
    replace HS := HS.pick (A := .blk true Y (encB bs) 23) (by (repeat (first | exact Pick.here | apply Pick.there)))
    go_wp2_with (first | (go_at_call 19; refine (rem_any bs HS HL.out name).mono ?_; rintro e w' ⟨rfl, H2⟩; clear HS; have HS := H2; clear H2) | (go_at_call 20; refine (rrem_any HS bs HL.out name).mono ?_; rintro e w' ⟨rfl, H2⟩; clear HS; have HS := H2; clear H2; simp only [remV]) | ((with_reducible apply sLoadB HS); infer_instance; rfl; rfl; (repeat (first | exact List.Mem.head _ | apply List.Mem.tail)); (first | exact HZB.out | exact HAZ.out | exact HRZ.out)) | ((with_reducible apply sAlloc HS); infer_instance; (first | exact cells_agg _ | exact cells_one rfl); rfl; intro V w' H1; clear HS; have HS := H1; clear H1) | ((with_reducible apply sStoreB HS); infer_instance; rfl; rfl; (conv => (lhs; whnf)); (repeat (first | exact Rep.here | apply Rep.there)); exact HRZ.out; exact z256.out; exact encB_one _; intro w' H1; clear HS; have HS := H1; clear H1) | ((with_reducible apply sEqB blkT); rfl; rfl; rfl; (first | exact HAL.out | exact HRL.out); (first | exact HAL.out | exact HRL.out); rw [beq_self_eq_true]))
    refine (add_nil name ino _).mono ?_
    rintro e w' ⟨rfl, rfl⟩
    go_wp2_with (fail)
    refine (rem_nil name _).mono ?_
    rintro e w' ⟨rfl, rfl⟩
    go_wp2
    go_ret
    exact ⟨rfl, HS.below⟩
  · intro K HK
    ((with_reducible apply sAlloc HS); infer_instance; (first | exact cells_agg _ | exact cells_one rfl); rfl; intro Y w' H1; clear HS; have HS := H1; clear H1)
    (try simp only [Act.put, List.setIfInBounds_toArray, List.set_cons_zero, List.set_cons_succ])
    refine wpList_nil (then_normal (HK.out _ _ ⟨.inr (HS.hd (by (repeat (first | exact subNil | (refine subCons ?_ ?_; (repeat (first | exact List.Mem.head _ | apply List.Mem.tail))))))), ?_⟩))
    clear HK K
    with_reducible apply wpSch_e_k
    (simp only [List.getElem?_toArray, List.getElem?_cons_zero, List.getElem?_cons_succ]; rfl)
    intro K HK
    ((with_reducible apply sAlloc HS); infer_instance; (first | exact cells_agg _ | exact cells_one rfl); rfl; intro X w' H1; clear HS; have HS := H1; clear H1)
    (try simp only [Act.put, List.setIfInBounds_toArray, List.set_cons_zero, List.set_cons_succ])
    refine wpList_nil (then_normal (HK.out _ _ ⟨.inr (HS.hd (by (repeat (first | exact subNil | (refine subCons ?_ ?_; (repeat (first | exact List.Mem.head _ | apply List.Mem.tail))))))), ?_⟩))
    clear HK K
    with_reducible apply wpSch_e_k
    (simp only [List.getElem?_toArray, List.getElem?_cons_zero, List.getElem?_cons_succ]; rfl)
    intro K HK
    ((with_reducible apply sStoreB HS); infer_instance; rfl; rfl; (conv => (lhs; whnf)); (repeat (first | exact Rep.here | apply Rep.there)); exact HZB.out; exact z256.out; exact encB_one _; intro w' H1; clear HS; have HS := H1; clear H1)
    (try simp only [Act.put])
    refine wpList_nil (then_normal (HK.out _ _ ⟨.inr (HS.hd (by (repeat (first | exact subNil | (refine subCons ?_ ?_; (repeat (first | exact List.Mem.head _ | apply List.Mem.tail))))))), ?_⟩))
    clear HK K
    with_reducible apply wpSch_e_k
    (simp only [List.getElem?_toArray, List.getElem?_cons_zero, List.getElem?_cons_succ]; rfl)
    intro K HK
    ((with_reducible apply sStoreB HS); infer_instance; rfl; rfl; (conv => (lhs; whnf)); (repeat (first | exact Rep.here | apply Rep.there)); exact HZB.out; exact z256.out; exact encB_one _; intro w' H1; clear HS; have HS := H1; clear H1)
    (try simp only [Act.put])
    refine wpList_nil (then_normal (HK.out _ _ ⟨.inl rfl, ?_⟩))
    clear HK K
    refine wpSch_nil ?_
    replace HS := HS.pick (A := .blk true X (encB bs) 23) (by (repeat (first | exact Pick.here | apply Pick.there)))
    go_wp2_with (first | (go_at_call 17; refine (add_any bs HS HL.out name HNM.out ino i0 i1).mono ?_; rintro e w' ⟨rfl, H2⟩; clear HS; have HS := H2; clear H2) | (go_at_call 18; refine (radd_any HS bs HL.out name HNM.out ino i0 i1).mono ?_; rintro e w' ⟨rfl, H2⟩; clear HS; have HS := H2; clear H2; simp only [addV]) | ((with_reducible apply sLoadB HS); infer_instance; rfl; rfl; (repeat (first | exact List.Mem.head _ | apply List.Mem.tail)); (first | exact HZB.out | exact HAZ.out | exact HRZ.out)) | ((with_reducible apply sAlloc HS); infer_instance; (first | exact cells_agg _ | exact cells_one rfl); rfl; intro W w' H1; clear HS; have HS := H1; clear H1) | ((with_reducible apply sStoreB HS); infer_instance; rfl; rfl; (conv => (lhs; whnf)); (repeat (first | exact Rep.here | apply Rep.there)); exact HAZ.out; exact z256.out; exact encB_one _; intro w' H1; clear HS; have HS := H1; clear H1))
    replace HS := HS.pick (A := .blk true Y (encB bs) 23) (by (repeat (first | exact Pick.here | apply Pick.there)))
    go_wp2_with (first | (go_at_call 19; refine (rem_any bs HS HL.out name).mono ?_; rintro e w' ⟨rfl, H2⟩; clear HS; have HS := H2; clear H2) | (go_at_call 20; refine (rrem_any HS bs HL.out name).mono ?_; rintro e w' ⟨rfl, H2⟩; clear HS; have HS := H2; clear H2; simp only [remV]) | ((with_reducible apply sLoadB HS); infer_instance; rfl; rfl; (repeat (first | exact List.Mem.head _ | apply List.Mem.tail)); (first | exact HZB.out | exact HAZ.out | exact HRZ.out)) | ((with_reducible apply sAlloc HS); infer_instance; (first | exact cells_agg _ | exact cells_one rfl); rfl; intro V w' H1; clear HS; have HS := H1; clear H1) | ((with_reducible apply sStoreB HS); infer_instance; rfl; rfl; (conv => (lhs; whnf)); (repeat (first | exact Rep.here | apply Rep.there)); exact HRZ.out; exact z256.out; exact encB_one _; intro w' H1; clear HS; have HS := H1; clear H1) | ((with_reducible apply sEqB blkT); rfl; rfl; rfl; (first | exact HAL.out | exact HRL.out); (first | exact HAL.out | exact HRL.out); rw [beq_self_eq_true]))
    refine (add_nil name ino _).mono ?_
    rintro e w' ⟨rfl, rfl⟩
    go_wp2_with (fail)
    refine (rem_nil name _).mono ?_
    rintro e w' ⟨rfl, rfl⟩
    go_wp2
    go_ret
    exact ⟨rfl, HS.below⟩

set_option maxRecDepth 100000 in
theorem lifted (os : Os) (started : os.Started) (H : Type) (enc : TypeId × Value → H) :
    ReturnsInHanded {} Try.checked os 4 .any (Rows.slotsTurnSpec.pre6 enc Try.prog Try.f4 Rows.slotsTurnRow.domain false) (Rows.slotsTurnSpec.post enc Try.prog Try.f4 false true false false) := by
  refine law_lift (C := Try.checked) own started (by kernel_rfl) Try.func4 laidOut rfl Try.underlying4 rfl ?hs (by kernel_rfl)
    (ChangeSpec.witness6 (enc := enc) (C := Try.checked) false ⟨#[], #[.agg (encB Z256), .string ByteArray.empty, .int .u32 0], []⟩ 8 (by kernel_rfl) (by kernel_rfl) (by kernel_rfl) (by kernel_rfl)) ?hwalk
  case hs =>
    intro ds h
    match ds, h with
    | [d0, d1, d2], _ => rfl
  case hwalk =>
    intro W args hn ha
    obtain ⟨l⟩ := args
    match l, hn with
    | [v0, v1, v2], _ =>
      obtain ⟨bs, hl, rfl⟩ := blk_arg (ha 0 _ _ rfl rfl)
      obtain ⟨name, rfl, hn⟩ := (ha 1 _ _ rfl rfl).string Try.underlying9
      obtain ⟨ino, rfl, hi⟩ := (ha 2 _ _ rfl rfl).int Try.underlying31
      exact walk bs hl name hn ino (u32_wf hi).1 (u32_wf hi).2 W

theorem over : Rows.slotsTurnRow.holds Try.pinned (OpenSpec.ofChange Rows.slotsTurnSpec) :=
  OpenClaim.holds_of_wide 4 Try.f4 rfl rfl rfl rfl rfl rfl rfl ⟨rfl, rfl, rfl, rfl, rfl⟩ rfl rfl rfl rfl rfl (by kernel_rfl) Try.func4 (by kernel_rfl)
    (of_decide_eq_true (by kernel_rfl)) (by unfold Func.isWrapper; first | (rw [if_pos (by decide +kernel)]; kernel_rfl) | (rw [if_neg (by decide +kernel)]; exact ⟨rfl, rfl⟩))
    (fun os started H enc _ => lifted os started H enc)

theorem proved : Rows.SlotsTurnSaid := over
#print axioms proved
end Go.Proofs.Ytdpbdmbgdcdmaaa.slotsTurn
