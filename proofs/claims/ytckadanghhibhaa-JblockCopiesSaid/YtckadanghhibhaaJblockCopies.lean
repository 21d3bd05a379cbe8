/- A copy that is escaped is no journal block, and unescaped it is what it was. -/
import Derived.Test.YtckadanghhibhaaQr
namespace Go.Proofs.Ytckadanghhibhaa.jblockCopies
open Go.RowKit Go.ChangeShapes Go.WideShapes Go.ChangeAt Go.Sort

theorem own : ownKnob Try.prog.godebug = none := by kernel_rfl
theorem laidOut : laidOutB Try.prog = true := by kernel_rfl

theorem guard_blk {P : Program} {T E : TypeId} (hT : BlkT P T E) (op : BinOp) (ho : op = .eql ∨ op = .neq) {x y : Operand} {a b : Array Value} (w : World) : (eqGuard op T x y (.agg a) (.agg b)).run P w = .ok () w := run_guard_blk hT w op x y a b ho
theorem run_eql_self {P : Program} {T E : TypeId} (hT : BlkT P T E) {a : List UInt8} (ha : a.length = 256) (w : World) : (binOp .eql T (.agg (encB a)) (.agg (encB a))).run P w = .ok (.bool true) w := by
  rw [run_eql_blk hT w a a ha ha]; simp
theorem run_neq_self {P : Program} {T E : TypeId} (hT : BlkT P T E) {a : List UInt8} (ha : a.length = 256) (w : World) : (binOp .neq T (.agg (encB a)) (.agg (encB a))).run P w = .ok (.bool false) w := by
  rw [run_neq_blk hT w a a ha ha]; simp

theorem not_magic {x : List UInt8} (h : get32 x 0 ≠ 1280199249) : kindB x = (0, 0) ∧ isB x = false ∧ escB x = x := by
  refine ⟨?_, decide_eq_false h, if_neg h⟩
  unfold kindB
  rw [if_neg (fun hh => h hh.1)]

set_option maxRecDepth 100000 in
set_option maxHeartbeats 4000000 in
theorem walk (bs : List UInt8) (hl : bs.length = 256) (w : World) :
    Calls Try.prog 5 #[.agg (encB bs)] w fun e w' => e = .returned (.bool true) ∧ Below w.heap.size w w' := by
  have HB := Lib.hid (heap_alloc_new w (.cells (encB bs) 28))
  have M0 : Mod none' w (w.alloc (.cells (encB bs) 28)) := (Mod.refl _ _).alloc _
  obtain ⟨un, hun⟩ : ∃ b, unescB bs = b := ⟨_, rfl⟩
  have lu : un.length = 256 := by rw [← hun]; exact unescB_len bs hl
  have hgu : get32 un 0 = 1280199249 := by rw [← hun]; exact get32_put32 _ _ _ (by omega) (by omega) (by omega)
  obtain ⟨bz, hbz⟩ : ∃ b, escB un = b := ⟨_, rfl⟩
  have lz : bz.length = 256 := by rw [← hbz]; exact escB_len _ lu
  have E4 : Hid (unescB bs = un) := hun
  have E5 : Hid ((Value.tuple #[.agg (encB (escB un)), .bool (isB un)]) = .tuple #[.agg (encB bz), .bool true]) := by
    show _ = _; rw [hbz, isB, hgu]; rfl
  have E7 : Hid (unescB bz = un) := by
    show _ = _
    rw [← hbz, escB, if_pos hgu, ← hun]
    unfold unescB
    rw [put32_same, put32_same]
  clear hun hgu hbz
  by_cases hi : get32 bs 0 = 1280199249
  · obtain ⟨bx, hbx⟩ : ∃ b, escB bs = b := ⟨_, rfl⟩
    have lx : bx.length = 256 := by rw [← hbx]; exact escB_len _ hl
    have hx : bx = put32 bs 0 0 := by rw [← hbx, escB, if_pos hi]
    have hnm : get32 bx 0 ≠ 1280199249 := by rw [hx, get32_put32 _ _ _ (by omega) (by omega) (by omega)]; omega
    obtain ⟨k1, k2, k3⟩ := not_magic hnm
    have E1 : Hid ((Value.tuple #[.agg (encB (escB bs)), .bool (isB bs)]) = .tuple #[.agg (encB bx), .bool true]) := by show _ = _; rw [hbx, isB, hi]; rfl
    have E2 : Hid (resK (kindB bx) = .tuple #[.int .u8 0, .int .u32 0]) := by show _ = _; rw [k1]; rfl
    have E3 : Hid ((Value.tuple #[.agg (encB (escB bx)), .bool (isB bx)]) = .tuple #[.agg (encB bx), .bool false]) := by show _ = _; rw [k2, k3]
    have E6 : Hid (unescB bx = bs) := by
      show _ = _
      rw [hx, unescB, put32_same, ← hi, put32_get32 _ _ (by omega)]
    clear hbx hx hnm k1 k2 k3 hi
    go_enter Try.func5, Try.ntmps5
    go_wp2_with fail
    refine (jawake _).mono ?_
    rintro e w1 ⟨rfl, hm⟩
    have M1 := M0.trans hm
    have HB := Lib.hid (hm.row (k := w.heap.size) HB.out (fun e => e))
    clear hm M0
    go_wp2_with (first | ((with_reducible refine wpList_loadBg blkT ?_ ?_ hl HB.out ?_); rfl; rfl))
    refine (jesc bs hl _).mono ?_
    rintro e w2 ⟨rfl, hm⟩
    rw [E1.out]
    obtain ⟨n2, m2⟩ := put_new w2 bx
    have hm := hm.trans m2
    have HB := Lib.hid (hm.row (k := w.heap.size) HB.out (fun e => e))
    have HX := Lib.hid n2
    have HO2 := Lib.hid (heap_alloc_new w2 (.cells (encB Z256) 28))
    have M2 := M1.trans hm
    clear M1 hm m2 n2
    go_wp2_with (first | ((with_reducible refine wpList_storeB' blkT ?_ ?_ lx Z256_len HO2.out ?_); rfl; rfl) | (with_reducible refine wpList_allocB' blkT ?_) | ((with_reducible refine wpList_loadBg blkT ?_ ?_ lx HX.out ?_); rfl; rfl))
    refine (jkind bx lx _).mono ?_
    rintro e w3 ⟨rfl, hm⟩
    rw [E2.out]
    have HB := Lib.hid (hm.row (k := w.heap.size) HB.out (fun e => e))
    have HX := Lib.hid (hm.row (k := w2.heap.size) HX.out (fun e => e))
    have M3 := M2.trans hm
    clear M2 hm
    go_wp2_with (first | ((with_reducible refine wpList_loadBg blkT ?_ ?_ lx HX.out ?_); rfl; rfl))
    refine (jesc bx lx _).mono ?_
    rintro e w4 ⟨rfl, hm⟩
    rw [E3.out]
    obtain ⟨n4, m4⟩ := put_new w4 bx
    have hm := hm.trans m4
    have HB := Lib.hid (hm.row (k := w.heap.size) HB.out (fun e => e))
    have HX := Lib.hid (hm.row (k := w2.heap.size) HX.out (fun e => e))
    have HY := Lib.hid n4
    have HO4 := Lib.hid (heap_alloc_new w4 (.cells (encB Z256) 28))
    have M4 := M3.trans hm
    clear M3 hm m4 n4
    go_wp2_with (first | ((with_reducible refine wpList_storeB' blkT ?_ ?_ lx Z256_len HO4.out ?_); rfl; rfl) | (with_reducible refine wpList_allocB' blkT ?_) | ((with_reducible refine wpList_loadBg blkT ?_ ?_ lx HY.out ?_); rfl; rfl) | ((with_reducible refine wpList_loadBg blkT ?_ ?_ lx HX.out ?_); rfl; rfl) | ((with_reducible refine wpList_loadBg blkT ?_ ?_ hl HB.out ?_); rfl; rfl) | ((with_reducible refine wpList_cmp ?_ ?_ ?_ (guard_blk blkT .neq (.inr rfl)) (run_neq_self blkT lx) ?_); rfl; rfl; rfl))
    refine (junesc bs hl _).mono ?_
    rintro e w5 ⟨rfl, hm⟩
    rw [E4.out]
    have HB := Lib.hid (hm.row (k := w.heap.size) HB.out (fun e => e))
    have HX := Lib.hid (hm.row (k := w2.heap.size) HX.out (fun e => e))
    have M5 := M4.trans hm
    clear M4 hm
    go_wp2_with fail
    refine (jesc un lu _).mono ?_
    rintro e w6 ⟨rfl, hm⟩
    rw [E5.out]
    obtain ⟨n6, m6⟩ := put_new w6 bz
    have hm := hm.trans m6
    have HB := Lib.hid (hm.row (k := w.heap.size) HB.out (fun e => e))
    have HX := Lib.hid (hm.row (k := w2.heap.size) HX.out (fun e => e))
    have HZ := Lib.hid n6
    have HO6 := Lib.hid (heap_alloc_new w6 (.cells (encB Z256) 28))
    have M6 := M5.trans hm
    clear M5 hm m6 n6
    go_wp2_with (first | ((with_reducible refine wpList_storeB' blkT ?_ ?_ lz Z256_len HO6.out ?_); rfl; rfl) | (with_reducible refine wpList_allocB' blkT ?_))
    (refine wp_region_quiet_below (by kernel_rfl) (by kernel_rfl) ?_
     repeat (first
       | go_big_quiet_skip
       | ((first | ((with_reducible refine wpQuietR_loadB blkT ?_ ?_ lx HX.out ?_); rfl; rfl) | ((with_reducible refine wpQuietR_loadB blkT ?_ ?_ hl HB.out ?_); rfl; rfl) | ((with_reducible refine wpQuietR_loadB blkT ?_ ?_ lz HZ.out ?_); rfl; rfl) | ((with_reducible refine wpQuiet_cmp ?_ ?_ ?_ (guard_blk blkT .eql (.inl rfl)) (run_eql_self blkT hl) ?_); rfl; rfl; rfl) | ((with_reducible refine wpQuiet_cmp ?_ ?_ ?_ (guard_blk blkT .eql (.inl rfl)) (run_eql_self blkT lu) ?_); rfl; rfl; rfl)); try simp only [Act.put, List.setIfInBounds_toArray, List.set_cons_zero, List.set_cons_succ])
       | (go_big_quiet_want; go_big_quiet_op; first | go_big_quiet_on | (apply Exists.intro; refine ⟨fun _ => ?_, ?_⟩; (· first | (go_at_call 24; refine rg_call (v := .agg (encB bs)) ?_; rw [← E6.out]; exact junesc bx lx _) | (go_at_call 24; refine rg_call (v := .agg (encB un)) ?_; rw [← E7.out]; exact junesc bz lz _) | (go_at_call 24; refine rg_call (v := .agg (encB un)) ?_; rw [← E4.out]; exact junesc bs hl _)); go_big_quiet_on)))
     refine wpQuiet_nil ?_
     intro wq hw'
     have hwq := rg_mod hw'
     clear hw')
    go_wp2
    go_ret
    exact ⟨rfl, (M6.trans hwq).new⟩
  · obtain ⟨k1, k2, k3⟩ := not_magic hi
    have E1 : Hid ((Value.tuple #[.agg (encB (escB bs)), .bool (isB bs)]) = .tuple #[.agg (encB bs), .bool false]) := by show _ = _; rw [k2, k3]
    have E2 : Hid (resK (kindB bs) = .tuple #[.int .u8 0, .int .u32 0]) := by show _ = _; rw [k1]; rfl
    have E3 : Hid ((Value.tuple #[.agg (encB (escB bs)), .bool (isB bs)]) = .tuple #[.agg (encB bs), .bool false]) := by show _ = _; rw [k2, k3]
    clear k1 k2 k3 hi
    go_enter Try.func5, Try.ntmps5
    go_wp2_with fail
    refine (jawake _).mono ?_
    rintro e w1 ⟨rfl, hm⟩
    have M1 := M0.trans hm
    have HB := Lib.hid (hm.row (k := w.heap.size) HB.out (fun e => e))
    clear hm M0
    go_wp2_with (first | ((with_reducible refine wpList_loadBg blkT ?_ ?_ hl HB.out ?_); rfl; rfl))
    refine (jesc bs hl _).mono ?_
    rintro e w2 ⟨rfl, hm⟩
    rw [E1.out]
    obtain ⟨n2, m2⟩ := put_new w2 bs
    have hm := hm.trans m2
    have HB := Lib.hid (hm.row (k := w.heap.size) HB.out (fun e => e))
    have HX := Lib.hid n2
    have HO2 := Lib.hid (heap_alloc_new w2 (.cells (encB Z256) 28))
    have M2 := M1.trans hm
    clear M1 hm m2 n2
    go_wp2_with (first | ((with_reducible refine wpList_storeB' blkT ?_ ?_ hl Z256_len HO2.out ?_); rfl; rfl) | (with_reducible refine wpList_allocB' blkT ?_) | ((with_reducible refine wpList_loadBg blkT ?_ ?_ hl HX.out ?_); rfl; rfl))
    refine (jkind bs hl _).mono ?_
    rintro e w3 ⟨rfl, hm⟩
    rw [E2.out]
    have HB := Lib.hid (hm.row (k := w.heap.size) HB.out (fun e => e))
    have HX := Lib.hid (hm.row (k := w2.heap.size) HX.out (fun e => e))
    have M3 := M2.trans hm
    clear M2 hm
    go_wp2_with (first | ((with_reducible refine wpList_loadBg blkT ?_ ?_ hl HX.out ?_); rfl; rfl))
    refine (jesc bs hl _).mono ?_
    rintro e w4 ⟨rfl, hm⟩
    rw [E3.out]
    obtain ⟨n4, m4⟩ := put_new w4 bs
    have hm := hm.trans m4
    have HB := Lib.hid (hm.row (k := w.heap.size) HB.out (fun e => e))
    have HX := Lib.hid (hm.row (k := w2.heap.size) HX.out (fun e => e))
    have HY := Lib.hid n4
    have HO4 := Lib.hid (heap_alloc_new w4 (.cells (encB Z256) 28))
    have M4 := M3.trans hm
    clear M3 hm m4 n4
    go_wp2_with (first | ((with_reducible refine wpList_storeB' blkT ?_ ?_ hl Z256_len HO4.out ?_); rfl; rfl) | (with_reducible refine wpList_allocB' blkT ?_) | ((with_reducible refine wpList_loadBg blkT ?_ ?_ hl HY.out ?_); rfl; rfl) | ((with_reducible refine wpList_loadBg blkT ?_ ?_ hl HX.out ?_); rfl; rfl) | ((with_reducible refine wpList_loadBg blkT ?_ ?_ hl HB.out ?_); rfl; rfl) | ((with_reducible refine wpList_cmp ?_ ?_ ?_ (guard_blk blkT .neq (.inr rfl)) (run_neq_self blkT hl) ?_); rfl; rfl; rfl))
    refine (junesc bs hl _).mono ?_
    rintro e w5 ⟨rfl, hm⟩
    rw [E4.out]
    have HB := Lib.hid (hm.row (k := w.heap.size) HB.out (fun e => e))
    have HX := Lib.hid (hm.row (k := w2.heap.size) HX.out (fun e => e))
    have M5 := M4.trans hm
    clear M4 hm
    go_wp2_with fail
    refine (jesc un lu _).mono ?_
    rintro e w6 ⟨rfl, hm⟩
    rw [E5.out]
    obtain ⟨n6, m6⟩ := put_new w6 bz
    have hm := hm.trans m6
    have HB := Lib.hid (hm.row (k := w.heap.size) HB.out (fun e => e))
    have HX := Lib.hid (hm.row (k := w2.heap.size) HX.out (fun e => e))
    have HZ := Lib.hid n6
    have HO6 := Lib.hid (heap_alloc_new w6 (.cells (encB Z256) 28))
    have M6 := M5.trans hm
    clear M5 hm m6 n6
    go_wp2_with (first | ((with_reducible refine wpList_storeB' blkT ?_ ?_ lz Z256_len HO6.out ?_); rfl; rfl) | (with_reducible refine wpList_allocB' blkT ?_))
    (refine wp_region_quiet_below (by kernel_rfl) (by kernel_rfl) ?_
     repeat (first
       | go_big_quiet_skip
       | ((first | ((with_reducible refine wpQuietR_loadB blkT ?_ ?_ hl HX.out ?_); rfl; rfl) | ((with_reducible refine wpQuietR_loadB blkT ?_ ?_ hl HB.out ?_); rfl; rfl) | ((with_reducible refine wpQuietR_loadB blkT ?_ ?_ lz HZ.out ?_); rfl; rfl) | ((with_reducible refine wpQuiet_cmp ?_ ?_ ?_ (guard_blk blkT .eql (.inl rfl)) (run_eql_self blkT hl) ?_); rfl; rfl; rfl) | ((with_reducible refine wpQuiet_cmp ?_ ?_ ?_ (guard_blk blkT .eql (.inl rfl)) (run_eql_self blkT lu) ?_); rfl; rfl; rfl)); try simp only [Act.put, List.setIfInBounds_toArray, List.set_cons_zero, List.set_cons_succ])
       | (go_big_quiet_want; go_big_quiet_op; first | go_big_quiet_on | (apply Exists.intro; refine ⟨fun _ => ?_, ?_⟩; (· first | (go_at_call 24; refine rg_call (v := .agg (encB un)) ?_; rw [← E7.out]; exact junesc bz lz _) | (go_at_call 24; refine rg_call (v := .agg (encB un)) ?_; rw [← E4.out]; exact junesc bs hl _)); go_big_quiet_on)))
     refine wpQuiet_nil ?_
     intro wq hw'
     have hwq := rg_mod hw'
     clear hw')
    go_wp2
    go_ret
    exact ⟨rfl, (M6.trans hwq).new⟩

set_option maxRecDepth 100000 in
theorem lifted (os : Os) (started : os.Started) (H : Type) (enc : TypeId × Value → H) :
    ReturnsInHanded {} Try.checked os 5 .any (Rows.jblockCopiesSpec.pre6 enc Try.prog Try.f5 Rows.jblockCopiesRow.domain false) (Rows.jblockCopiesSpec.post enc Try.prog Try.f5 false true false false) := by
  refine law_lift (C := Try.checked) own started (by kernel_rfl) Try.func5 laidOut rfl Try.underlying4 rfl ?hs (by kernel_rfl)
    (ChangeSpec.witness6 (enc := enc) (C := Try.checked) false ⟨#[], #[.agg (encB Z256)], []⟩ 8 (by kernel_rfl) (by kernel_rfl) (by kernel_rfl) (by kernel_rfl)) ?hwalk
  case hs =>
    intro ds h
    match ds, h with
    | [d0], _ => rfl
  case hwalk =>
    intro W args hn ha
    obtain ⟨l⟩ := args
    match l, hn with
    | [v0], _ =>
      obtain ⟨bs, hl, rfl⟩ := blk_arg (ha 0 _ _ rfl rfl)
      exact walk bs hl W

theorem over : Rows.jblockCopiesRow.holds Try.pinned (OpenSpec.ofChange Rows.jblockCopiesSpec) :=
  OpenClaim.holds_of_wide 5 Try.f5 rfl rfl rfl rfl rfl rfl rfl ⟨rfl, rfl, rfl, rfl, rfl⟩ rfl rfl rfl rfl rfl (by kernel_rfl) Try.func5 (by kernel_rfl)
    (of_decide_eq_true (by kernel_rfl)) (by unfold Func.isWrapper; first | (rw [if_pos (by decide +kernel)]; kernel_rfl) | (rw [if_neg (by decide +kernel)]; exact ⟨rfl, rfl⟩))
    (fun os started H enc _ => lifted os started H enc)

theorem proved : Rows.JblockCopiesSaid := over
#print axioms proved
end Go.Proofs.Ytckadanghhibhaa.jblockCopies
