/- A disk that nobody made is none. -/
import Derived.Test.YtfdomknagcdpeaaDNo
namespace Go.Proofs.Ytfdomknagcdpeaa.diskNil
open Go Go.RowKit Go.ChangeShapes Go.WideShapes Go.ChangeAt

theorem own : ownKnob Try.prog.godebug = none := by kernel_rfl
theorem laidOut : laidOutB Try.prog = true := by kernel_rfl

instance : Plain Try.prog 34 := plain_mk Try.underlying34 rfl (by kernel_rfl)
instance : Plain Try.prog 40 := plain_mk Try.underlying40 rfl (by kernel_rfl)
instance : Plain Try.prog 23 := plain_mk Try.underlying23 rfl (by kernel_rfl)
theorem valZ' {P : Program} {d : Option Tmp} {ty : TypeId} {pos : String} {af : Array Edge} {gd : Option (Nat × Bool)} {a : Act} {T E : TypeId} (hT : BlkT P T E) : Val P a ⟨d, .build T #[], ty, pos, af, gd⟩ (.agg (encB Z256)) := fun w => by
  unfold execOp
  simp only [List.map_toArray, List.map_nil, run_build w T #[] (encB Z256) hT.built, Sem.run_bind, Result.andThen_ok, Sem.run_pure]
theorem valZ0 {P : Program} {d : Option Tmp} {ty : TypeId} {pos : String} {af : Array Edge} {gd : Option (Nat × Bool)} {a : Act} {T : TypeId} {cs : Array Value} (h : P.built T [] = some cs) : Val P a ⟨d, .build T #[], ty, pos, af, gd⟩ (.agg cs) := fun w => by
  unfold execOp
  simp only [List.map_toArray, List.map_nil, run_build w T #[] cs h, Sem.run_bind, Result.andThen_ok, Sem.run_pure]
theorem builtD : Try.prog.built 68 [] = some #[.slice none 0 0, .slice none 0 0, .slice none 0 0, .int .i64 0, .int .i64 0] := by kernel_rfl
theorem cellsU8 : Try.prog.cellsOf 5 = 1 := by kernel_rfl
theorem cellsBs : Try.prog.cellsOf 40 = 1 := by kernel_rfl
theorem cellsAct : Try.prog.cellsOf 49 = 4 := by kernel_rfl
theorem act_arg {w : World} {v : Value} (h : ArgIs Try.prog w 49 v) : ∃ (k b f : Int) (x : Value), v = .agg #[.int .u8 k, .int .i64 b, .int .u32 f, x] ∧ x.oneCell' = true ∧ 0 ≤ f ∧ f < 4294967296 := by
  obtain ⟨cs, rfl, hr⟩ := h.struct Try.underlying49
  obtain ⟨hlen, hall⟩ := hr.struct Try.underlying49
  rw [cellsAct] at hlen
  obtain ⟨l⟩ := cs
  obtain ⟨a, b, c, d, rfl⟩ : ∃ a b c d, l = [a, b, c, d] := by
    match l, hlen with
    | [a, b, c, d], _ => exact ⟨a, b, c, d, rfl⟩
  obtain ⟨k, e0, _⟩ := (hall 0 _ rfl).int Try.underlying5
  obtain ⟨n, e1, _⟩ := (hall 1 _ rfl).int Try.underlying3
  obtain ⟨f, e2, hf⟩ := (hall 2 _ rfl).int Try.underlying34
  have e3 : ∃ x, [d] = [x] ∧ x.oneCell' = true := by
    rcases (hall 3 _ rfl).slice Try.underlying40 with h | ⟨ad, len, cap, h, _⟩
    · simp [cellsBs] at h; exact ⟨_, rfl, by rw [h]; rfl⟩
    · simp [cellsBs] at h; exact ⟨_, rfl, by rw [h]; rfl⟩
  obtain ⟨x, e3, hx⟩ := e3
  simp [cellsU8, cellsInt, cellsU32] at e0 e1 e2 e3
  subst e0 e1 e2 e3
  exact ⟨k, n, f, d, rfl, hx, u32_wf hf⟩
set_option maxRecDepth 100000 in
set_option maxHeartbeats 20000000 in
theorem walk (k b f : Int) (x : Value) (w : World) (_hx : x.oneCell' = true) (f0 : 0 ≤ f) (f1 : f < 4294967296) :
    Calls Try.prog 9 #[.agg #[.int .u8 k, .int .i64 b, .int .u32 f, x]] w fun e w' => e = .returned (.bool true) ∧ Below w.heap.size w w' := by
  have HS := St.nil none' w
  go_enter Try.func9, Try.ntmps9
  go_wp2_with (first | ((with_reducible apply sBox (T := 49) HS); rfl; (conv => (lhs; whnf)); (first | exact cells_agg _ | exact cells_one rfl); intro BA w' H1; clear HS; have HS := H1; clear H1) | ((with_reducible apply sVal (valZ0 builtD)); rfl) | ((with_reducible apply sBox (T := 68) HS); rfl; (conv => (lhs; whnf)); (first | exact cells_agg _ | exact cells_one rfl); intro BZ w' H1; clear HS; have HS := H1; clear H1))
  replace HS := HS.alloc #[.pointer none, .pointer (some ⟨BZ, 0, none⟩)] 23
  generalize w'.heap.size = BS at HS ⊢
  go_loopw [5] (fun i wr => ∃ (m : Nat), m ≤ 2 ∧ i = .int .i64 m ∧ St none' w wr [.blk true BS #[.pointer none, .pointer (some ⟨BZ, 0, none⟩)] 23, .blk true BZ #[.slice none 0 0, .slice none 0 0, .slice none 0 0, .int .i64 0, .int .i64 0] 68, .blk true BA #[.int .u8 k, .int .i64 b, .int .u32 f, x] 49]) (fun i _ => 2 - (intOf i).toNat)
  case atStart => exact ⟨0, by omega, rfl, HS⟩
  case round =>
    obtain ⟨m, hm, rfl, HS⟩ := hrel
    by_cases hlt : m < 2
    · have z0 : (0 : Int) ≤ (m : Int) := by omega
      have z1 : (m : Int) < 2 := by omega
      obtain ⟨p, hp, hno⟩ : ∃ p, (#[Value.pointer none, .pointer (some ⟨BZ, 0, none⟩)] : Array Value)[m]? = some p ∧ NoD p [.blk true BS #[.pointer none, .pointer (some ⟨BZ, 0, none⟩)] 23, .blk true BZ #[.slice none 0 0, .slice none 0 0, .slice none 0 0, .int .i64 0, .int .i64 0] 68, .blk true BA #[.int .u8 k, .int .i64 b, .int .u32 f, x] 49] := by
        have : m = 0 ∨ m = 1 := by omega
        rcases this with rfl | rfl
        · exact ⟨_, rfl, .inl rfl⟩
        · exact ⟨_, rfl, .inr ⟨_, rfl, .tail _ (.head _)⟩⟩
      have HPK := Lib.hid hp
      have HP := Lib.hid hno
      clear hp hno
      go_wp2_with (first | ((with_reducible apply sLoad1 HS); infer_instance; rfl; rfl; (repeat (first | exact List.Mem.head _ | apply List.Mem.tail)); (simpa using HPK.out)) | ((with_reducible apply sLoad1 HS); infer_instance; rfl; rfl; (repeat (first | exact List.Mem.head _ | apply List.Mem.tail)); rfl) | (go_at_call 19; refine (nd_read HS HP.out _).mono ?_; rintro e w' ⟨rfl, H1'⟩; clear HS; have HS := H1'; clear H1') | ((with_reducible apply sAlloc HS); infer_instance; (first | exact cells_agg _ | exact cells_one rfl); rfl; intro BX w' H1; clear HS; have HS := H1; clear H1) | ((with_reducible apply sStoreB HS); infer_instance; rfl; rfl; (conv => (lhs; whnf)); (repeat (first | exact Rep.here | apply Rep.there)); exact zB_size; exact zB_size; exact encB_one _; intro w' H1; clear HS; have HS := H1; clear H1))
      (try simp only [Act.put])
      refine wp_region_sch (.q 0 (.q 1 (.q 2 (.q 3 (.q 4 (.e 5 (.e 6 (.e 7 (.nil))))))))) (Hd [.blk true BA #[.int .u8 k, .int .i64 b, .int .u32 f, x] 49]) (by kernel_rfl) (by kernel_rfl) (fun _ _ d _ _ h => by cases d <;> exact h) ?_
      intro w1 hm1
      replace HS := HS.fresh hm1
      clear hm1
      refine ⟨HS.hd (by (refine subCons ?_ subNil; (repeat (first | exact List.Mem.head _ | apply List.Mem.tail)))), ?_⟩
      repeat (first | ((with_reducible apply cLoad1); (simp only [List.getElem?_toArray, List.getElem?_cons_zero, List.getElem?_cons_succ]; rfl); infer_instance; rfl; rfl; (repeat (first | exact List.Mem.head _ | apply List.Mem.tail)); rfl; (try simp only [Act.put, List.setIfInBounds_toArray, List.set_cons_zero, List.set_cons_succ])) | ((with_reducible apply wpSch_nilCheck); (simp only [List.getElem?_toArray, List.getElem?_cons_zero, List.getElem?_cons_succ]; rfl); rfl; rfl; (try simp only [Act.put, List.setIfInBounds_toArray, List.set_cons_zero, List.set_cons_succ])) | ((with_reducible apply wpSch_plain); (simp only [List.getElem?_toArray, List.getElem?_cons_zero, List.getElem?_cons_succ]; rfl); rfl; rfl; (intro K hK; go_big_quiet_op; go_big_quiet_on)) | ((with_reducible apply wpSch_skip); (simp only [List.getElem?_toArray, List.getElem?_cons_zero, List.getElem?_cons_succ]; rfl); rfl; (try simp only [Act.put, List.setIfInBounds_toArray, List.set_cons_zero, List.set_cons_succ])))
      with_reducible apply wpSch_e_k
      (simp only [List.getElem?_toArray, List.getElem?_cons_zero, List.getElem?_cons_succ]; rfl)
      intro K HK
      go_wp2_with (first | (go_at_call 14; refine (fill_any _ _ (by omega) (by omega)).mono ?_; rintro e w' ⟨rfl, H1'⟩; replace HS := HS.fresh H1'; clear H1'))
      refine HK.out _ _ ⟨.inr (HS.hd (by (refine subCons ?_ subNil; (repeat (first | exact List.Mem.head _ | apply List.Mem.tail))))), ?_⟩
      clear HK K
      with_reducible apply wpSch_e_k
      (simp only [List.getElem?_toArray, List.getElem?_cons_zero, List.getElem?_cons_succ]; rfl)
      intro K HK
      go_wp2_with (first | (go_at_call 24; refine (nd_write HS HP.out.cons b (fillB f) (fillB_len f)).mono ?_; rintro e w' ⟨rfl, H1'⟩; clear HS; have HS := H1'; clear H1'))
      refine HK.out _ _ ⟨.inr (HS.hd (by (refine subCons ?_ subNil; (repeat (first | exact List.Mem.head _ | apply List.Mem.tail))))), ?_⟩
      clear HK K
      with_reducible apply wpSch_e_k
      (simp only [List.getElem?_toArray, List.getElem?_cons_zero, List.getElem?_cons_succ]; rfl)
      intro K HK
      go_wp2_with (fail)
      refine HK.out _ _ ⟨.inl rfl, ?_⟩
      clear HK K
      refine wpSch_nil ?_
      go_wp2_with (first | (go_at_call 20; refine (nd_flush HS HP.out.cons).mono ?_; rintro e w' ⟨rfl, rfl⟩) | ((with_reducible apply sLoad1 HS); infer_instance; rfl; rfl; (repeat (first | exact List.Mem.head _ | apply List.Mem.tail)); rfl) | (go_at_call 25; refine (nd_power HS HP.out.cons _).mono ?_; rintro e w' ⟨rfl, rfl⟩) | (go_at_call 21; refine (nd_crash HS HP.out.cons _).mono ?_; rintro e w' ⟨rfl, rfl⟩) | ((with_reducible apply sLoadB HS); infer_instance; rfl; rfl; (repeat (first | exact List.Mem.head _ | apply List.Mem.tail)); exact zB_size) | ((with_reducible apply sVal (valZ' blkT)); rfl) | ((with_reducible apply sNeB blkT); rfl; rfl; rfl; exact Z256_len; exact Z256_len; rw [show (Z256 == Z256) = true by simp]) | (go_at_call 26; refine (nd_dead HS HP.out.cons).mono ?_; rintro e w' ⟨rfl, rfl⟩) | (go_at_call 18; refine (nd_blocks HS HP.out.cons).mono ?_; rintro e w' ⟨rfl, rfl⟩) | (go_at_call 16; refine (nd_waiting HS HP.out.cons).mono ?_; rintro e w' ⟨rfl, rfl⟩) | (go_at_call 17; refine (nd_acts HS HP.out.cons).mono ?_; rintro e w' ⟨rfl, rfl⟩) | (go_at_call 11; refine (nd_image HS HP.out.cons).mono ?_; rintro e w' ⟨rfl, rfl⟩) | (go_at_call 12; refine (nd_safe HS HP.out.cons).mono ?_; rintro e w' ⟨rfl, rfl⟩))
      go_roundw
      case rel => exact ⟨m + 1, by omega, by go_num, HS.tail⟩
      case measure => simp [intOf]; omega
    · obtain rfl : m = 2 := by omega
      go_wp2_with (first | (go_at_call 22; refine (awake_any HS).mono ?_; rintro e w' ⟨rfl, H1'⟩; clear HS; have HS := H1'; clear H1'))
      go_ret
      exact ⟨rfl, HS.below⟩

set_option maxRecDepth 100000 in
theorem lifted (os : Os) (started : os.Started) (H : Type) (enc : TypeId × Value → H) :
    ReturnsInHanded {} Try.checked os 9 .any (Rows.diskNilSpec.pre6 enc Try.prog Try.f9 Rows.diskNilRow.domain false) (Rows.diskNilSpec.post enc Try.prog Try.f9 false true false false) := by
  refine law_lift (C := Try.checked) own started (by kernel_rfl) Try.func9 laidOut rfl Try.underlying4 rfl ?hs (by kernel_rfl)
    (ChangeSpec.witness6 (enc := enc) (C := Try.checked) false ⟨#[], #[.agg #[.int .u8 0, .int .i64 0, .int .u32 0, .slice none 0 0]], []⟩ 8 (by kernel_rfl) (by kernel_rfl) (by kernel_rfl) (by kernel_rfl)) ?hwalk
  case hs =>
    intro ds h
    match ds, h with
    | [d0], _ => rfl
  case hwalk =>
    intro W args hn ha
    obtain ⟨l⟩ := args
    match l, hn with
    | [v0], _ =>
      obtain ⟨k, b, f, x, rfl, hx, f0, f1⟩ := act_arg (ha 0 _ _ rfl rfl)
      exact walk k b f x W hx f0 f1

theorem over : Rows.diskNilRow.holds Try.pinned (OpenSpec.ofChange Rows.diskNilSpec) :=
  OpenClaim.holds_of_wide 9 Try.f9 rfl rfl rfl rfl rfl rfl rfl ⟨rfl, rfl, rfl, rfl, rfl⟩ rfl rfl rfl rfl rfl (by kernel_rfl) Try.func9 (by kernel_rfl)
    (of_decide_eq_true (by kernel_rfl)) (by unfold Func.isWrapper; first | (rw [if_pos (by decide +kernel)]; kernel_rfl) | (rw [if_neg (by decide +kernel)]; exact ⟨rfl, rfl⟩))
    (fun os started H enc _ => lifted os started H enc)

theorem proved : Rows.DiskNilSaid := over
#print axioms proved
end Go.Proofs.Ytfdomknagcdpeaa.diskNil
