/- A commit block may be written just if its number is from 1 to 2^31, and its count from 1 to 256; it tells both, and the sum, and its kind. -/
import Derived.Test.YtckadanghhibhaaJg
namespace Go.Proofs.Ytckadanghhibhaa.jblockCommits
open Go.RowKit Go.ChangeShapes Go.WideShapes Go.ChangeAt

theorem own : ownKnob Try.prog.godebug = none := by kernel_rfl
theorem laidOut : laidOutB Try.prog = true := by kernel_rfl

theorem run_eql_self {P : Program} {T E : TypeId} (hT : BlkT P T E) {a : List UInt8} (ha : a.length = 256) (w : World) : (binOp .eql T (.agg (encB a)) (.agg (encB a))).run P w = .ok (.bool true) w := by
  rw [run_eql_blk hT w a a ha ha]; simp

set_option maxRecDepth 100000 in
set_option maxHeartbeats 4000000 in
theorem walk (s c m : Int) (w : World) (s0 : 0 ≤ s) (s1 : s < 4294967296) (m0 : 0 ≤ m) (m1 : m < 4294967296) :
    Calls Try.prog 6 #[.int .u32 s, .int .i64 c, .int .u32 m] w fun e w' => e = .returned (.bool true) ∧ Below w.heap.size w w' := by
  by_cases c1 : 1 ≤ s
  rotate_left
  · have R1 : Hid (resB (wCommit s c m) = .tuple #[.agg (encB Z256), .int .i64 2]) := by show _ = _; rw [wCommit, if_neg (by simp [seqB]; omega)]; rfl
    have l1 : Z256.length = 256 := Z256_len
    go_enter Try.func6, Try.ntmps6
    go_wp2_with fail
    refine (jawake _).mono ?_
    rintro e w1 ⟨rfl, M1⟩
    go_wp2_with fail
    refine (jwcommit s c m _ (by omega) (by omega) (by omega) (by omega)).mono ?_
    rintro e w2 ⟨rfl, hm⟩
    rw [R1.out]
    obtain ⟨n2, m2⟩ := put_new w2 Z256
    have HN2 := Lib.hid n2
    have HO2 := Lib.hid (heap_alloc_new w2 (.cells (encB Z256) 28))
    have M2 := M1.trans (hm.trans m2)
    clear M1 hm m2 n2
    go_wp2_with (first | ((with_reducible refine wpList_storeB' blkT ?_ ?_ l1 Z256_len HO2.out ?_); rfl; rfl) | (with_reducible refine wpList_buildZ' blkT ?_) | (with_reducible refine wpList_allocB' blkT ?_) | ((with_reducible refine wpList_loadBg blkT ?_ ?_ l1 HN2.out ?_); rfl; rfl) | ((with_reducible refine wpList_cmp ?_ ?_ ?_ (fun w => run_guard_blk blkT w .eql _ _ _ _ (.inl rfl)) (run_eql_self blkT l1) ?_); rfl; rfl; rfl))
    go_ret
    exact ⟨rfl, M2.new⟩
  by_cases c2 : s ≤ 2147483648
  rotate_left
  · have R1 : Hid (resB (wCommit s c m) = .tuple #[.agg (encB Z256), .int .i64 2]) := by show _ = _; rw [wCommit, if_neg (by simp [seqB]; omega)]; rfl
    have l1 : Z256.length = 256 := Z256_len
    go_enter Try.func6, Try.ntmps6
    go_wp2_with fail
    refine (jawake _).mono ?_
    rintro e w1 ⟨rfl, M1⟩
    go_wp2_with fail
    refine (jwcommit s c m _ (by omega) (by omega) (by omega) (by omega)).mono ?_
    rintro e w2 ⟨rfl, hm⟩
    rw [R1.out]
    obtain ⟨n2, m2⟩ := put_new w2 Z256
    have HN2 := Lib.hid n2
    have HO2 := Lib.hid (heap_alloc_new w2 (.cells (encB Z256) 28))
    have M2 := M1.trans (hm.trans m2)
    clear M1 hm m2 n2
    go_wp2_with (first | ((with_reducible refine wpList_storeB' blkT ?_ ?_ l1 Z256_len HO2.out ?_); rfl; rfl) | (with_reducible refine wpList_buildZ' blkT ?_) | (with_reducible refine wpList_allocB' blkT ?_) | ((with_reducible refine wpList_loadBg blkT ?_ ?_ l1 HN2.out ?_); rfl; rfl) | ((with_reducible refine wpList_cmp ?_ ?_ ?_ (fun w => run_guard_blk blkT w .eql _ _ _ _ (.inl rfl)) (run_eql_self blkT l1) ?_); rfl; rfl; rfl))
    go_ret
    exact ⟨rfl, M2.new⟩
  by_cases c3 : 1 ≤ c
  rotate_left
  · have R1 : Hid (resB (wCommit s c m) = .tuple #[.agg (encB Z256), .int .i64 2]) := by show _ = _; rw [wCommit, if_neg (by omega)]; rfl
    have l1 : Z256.length = 256 := Z256_len
    go_enter Try.func6, Try.ntmps6
    go_wp2_with fail
    refine (jawake _).mono ?_
    rintro e w1 ⟨rfl, M1⟩
    go_wp2_with fail
    refine (jwcommit s c m _ (by omega) (by omega) (by omega) (by omega)).mono ?_
    rintro e w2 ⟨rfl, hm⟩
    rw [R1.out]
    obtain ⟨n2, m2⟩ := put_new w2 Z256
    have HN2 := Lib.hid n2
    have HO2 := Lib.hid (heap_alloc_new w2 (.cells (encB Z256) 28))
    have M2 := M1.trans (hm.trans m2)
    clear M1 hm m2 n2
    go_wp2_with (first | ((with_reducible refine wpList_storeB' blkT ?_ ?_ l1 Z256_len HO2.out ?_); rfl; rfl) | (with_reducible refine wpList_buildZ' blkT ?_) | (with_reducible refine wpList_allocB' blkT ?_) | ((with_reducible refine wpList_loadBg blkT ?_ ?_ l1 HN2.out ?_); rfl; rfl) | ((with_reducible refine wpList_cmp ?_ ?_ ?_ (fun w => run_guard_blk blkT w .eql _ _ _ _ (.inl rfl)) (run_eql_self blkT l1) ?_); rfl; rfl; rfl))
    go_ret
    exact ⟨rfl, M2.new⟩
  by_cases c4 : c ≤ 256
  rotate_left
  · have R1 : Hid (resB (wCommit s c m) = .tuple #[.agg (encB Z256), .int .i64 2]) := by show _ = _; rw [wCommit, if_neg (by omega)]; rfl
    have l1 : Z256.length = 256 := Z256_len
    go_enter Try.func6, Try.ntmps6
    go_wp2_with fail
    refine (jawake _).mono ?_
    rintro e w1 ⟨rfl, M1⟩
    go_wp2_with fail
    refine (jwcommit s c m _ (by omega) (by omega) (by omega) (by omega)).mono ?_
    rintro e w2 ⟨rfl, hm⟩
    rw [R1.out]
    obtain ⟨n2, m2⟩ := put_new w2 Z256
    have HN2 := Lib.hid n2
    have HO2 := Lib.hid (heap_alloc_new w2 (.cells (encB Z256) 28))
    have M2 := M1.trans (hm.trans m2)
    clear M1 hm m2 n2
    go_wp2_with (first | ((with_reducible refine wpList_storeB' blkT ?_ ?_ l1 Z256_len HO2.out ?_); rfl; rfl) | (with_reducible refine wpList_buildZ' blkT ?_) | (with_reducible refine wpList_allocB' blkT ?_) | ((with_reducible refine wpList_loadBg blkT ?_ ?_ l1 HN2.out ?_); rfl; rfl) | ((with_reducible refine wpList_cmp ?_ ?_ ?_ (fun w => run_guard_blk blkT w .eql _ _ _ _ (.inl rfl)) (run_eql_self blkT l1) ?_); rfl; rfl; rfl))
    go_ret
    exact ⟨rfl, M2.new⟩
  have hs : seqB s = true := by simp [seqB]; omega
  obtain ⟨k1, k2⟩ := commit_back s c m hs ⟨c3, c4⟩ ⟨m0, m1⟩
  obtain ⟨b1, hb1⟩ : ∃ b, blockOf [1280199249, 2, s, c, m] = b := ⟨_, rfl⟩
  have R1 : Hid (resB (wCommit s c m) = .tuple #[.agg (encB b1), .int .i64 0]) := by show _ = _; rw [wCommit, if_pos ⟨hs, c3, c4⟩, hb1]; rfl
  have l1 : b1.length = 256 := by rw [← hb1]; exact blockOf_len _
  rw [hb1] at k1 k2
  have R2 : Hid (resRC (rCommit b1) = .tuple #[.int .u32 s, .int .i64 c, .int .u32 m, .int .i64 0]) := by show _ = _; rw [k2]; rfl
  have R3 : Hid (resK (kindB b1) = .tuple #[.int .u8 2, .int .u32 s]) := by show _ = _; rw [k1]; rfl
  clear hb1 k1 k2 hs
  go_enter Try.func6, Try.ntmps6
  go_wp2_with fail
  refine (jawake _).mono ?_
  rintro e w1 ⟨rfl, M1⟩
  go_wp2_with fail
  refine (jwcommit s c m _ (by omega) (by omega) (by omega) (by omega)).mono ?_
  rintro e w2 ⟨rfl, hm⟩
  rw [R1.out]
  obtain ⟨n2, m2⟩ := put_new w2 b1
  have HN2 := Lib.hid n2
  have HO2 := Lib.hid (heap_alloc_new w2 (.cells (encB Z256) 28))
  have M2 := M1.trans (hm.trans m2)
  clear M1 hm m2 n2
  go_wp2_with (first | ((with_reducible refine wpList_storeB' blkT ?_ ?_ l1 Z256_len HO2.out ?_); rfl; rfl) | (with_reducible refine wpList_allocB' blkT ?_) | ((with_reducible refine wpList_loadBg blkT ?_ ?_ l1 HN2.out ?_); rfl; rfl))
  refine (jrcommit b1 l1 _).mono ?_
  rintro e w3 ⟨rfl, hm⟩
  rw [R2.out]
  have HN2 := Lib.hid (hm.row (k := w2.heap.size) HN2.out (fun e => e))
  have M3 := M2.trans hm
  clear M2 hm
  go_wp2_with (first | ((with_reducible refine wpList_loadBg blkT ?_ ?_ l1 HN2.out ?_); rfl; rfl))
  refine (jkind b1 l1 _).mono ?_
  rintro e w4 ⟨rfl, hm⟩
  rw [R3.out]
  have M4 := M3.trans hm
  clear M3 hm
  go_wp2
  go_ret
  exact ⟨rfl, M4.new⟩

set_option maxRecDepth 100000 in
theorem lifted (os : Os) (started : os.Started) (H : Type) (enc : TypeId × Value → H) :
    ReturnsInHanded {} Try.checked os 6 .any (Rows.jblockCommitsSpec.pre6 enc Try.prog Try.f6 Rows.jblockCommitsRow.domain false) (Rows.jblockCommitsSpec.post enc Try.prog Try.f6 false true false false) := by
  refine law_lift (C := Try.checked) own started (by kernel_rfl) Try.func6 laidOut rfl Try.underlying4 rfl ?hs (by kernel_rfl)
    (ChangeSpec.witness6 (enc := enc) (C := Try.checked) false ⟨#[], #[.int .u32 0, .int .i64 0, .int .u32 0], []⟩ 8 (by kernel_rfl) (by kernel_rfl) (by kernel_rfl) (by kernel_rfl)) ?hwalk
  case hs =>
    intro ds h
    match ds, h with
    | [d0, d1, d2], _ => rfl
  case hwalk =>
    intro W args hn ha
    obtain ⟨l⟩ := args
    match l, hn with
    | [v0, v1, v2], _ =>
      obtain ⟨s, rfl, hs⟩ := (ha 0 _ _ rfl rfl).int Try.underlying22
      obtain ⟨c, rfl, _⟩ := (ha 1 _ _ rfl rfl).int Try.underlying3
      obtain ⟨m, rfl, hm⟩ := (ha 2 _ _ rfl rfl).int Try.underlying22
      simp [Lit.wf] at hs hm
      have h1 : IntKind.u32.min = 0 := rfl
      have h2 : IntKind.u32.max = 4294967295 := rfl
      exact walk s c m W (by omega) (by omega) (by omega) (by omega)

theorem over : Rows.jblockCommitsRow.holds Try.pinned (OpenSpec.ofChange Rows.jblockCommitsSpec) :=
  OpenClaim.holds_of_wide 6 Try.f6 rfl rfl rfl rfl rfl rfl rfl ⟨rfl, rfl, rfl, rfl, rfl⟩ rfl rfl rfl rfl rfl (by kernel_rfl) Try.func6 (by kernel_rfl)
    (of_decide_eq_true (by kernel_rfl)) (by unfold Func.isWrapper; first | (rw [if_pos (by decide +kernel)]; kernel_rfl) | (rw [if_neg (by decide +kernel)]; exact ⟨rfl, rfl⟩))
    (fun os started H enc _ => lifted os started H enc)

theorem proved : Rows.JblockCommitsSaid := over
#print axioms proved
end Go.Proofs.Ytckadanghhibhaa.jblockCommits
