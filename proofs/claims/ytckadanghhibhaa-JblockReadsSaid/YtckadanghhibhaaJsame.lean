/- Are two lists the same; lists that come in. -/
import Derived.Test.YtckadanghhibhaaJone
namespace Go.Proofs.Ytckadanghhibhaa
open Go.RowKit

theorem ne_len {α : Type} [BEq α] [LawfulBEq α] {l l2 : List α} (h : l.length ≠ l2.length) : (l == l2) = false := by
  rw [beq_eq_false_iff_ne]; rintro rfl; exact h rfl
theorem same_getD {α : Type} [BEq α] [LawfulBEq α] {l l2 : List α} (d : α) (h : l.length = l2.length) (hj : ∀ j, j < l.length → l.getD j d = l2.getD j d) : (l == l2) = true := by
  rw [beq_iff_eq]
  apply List.ext_getElem h
  intro i h1 h2
  have e := hj i h1
  rw [List.getD_eq_getElem?_getD, List.getD_eq_getElem?_getD, List.getElem?_eq_getElem h1, List.getElem?_eq_getElem h2] at e
  exact e
theorem diff_getD {α : Type} [BEq α] [LawfulBEq α] {l l2 : List α} (d : α) (j : Nat) (h : l.getD j d ≠ l2.getD j d) : (l == l2) = false := by
  rw [beq_eq_false_iff_ne]; rintro rfl; exact h rfl

set_option maxRecDepth 100000 in
set_option maxHeartbeats 4000000 in
theorem rsameN (a a2 : Option Addr) (n n2 cap cap2 : Nat) (l l2 : List Int) (w : World) (h : NumsAt w a n l) (h2 : NumsAt w a2 n2 l2) (hc : n ≤ 1000000) :
    Calls Try.prog 20 #[.slice a n cap, .slice a2 n2 cap2] w fun e w' => e = .returned (.bool (l == l2)) ∧ Mod none' w w' := by
  obtain ⟨hn, hb, L, o, ha, hL⟩ := h
  obtain ⟨hn2, hb2, L2, o2, ha2, hL2⟩ := h2
  by_cases hnn : n = n2
  rotate_left
  · have HF : Hid ((l == l2) = false) := ne_len (by omega)
    have hI : ¬ ((n : Int) = (n2 : Int)) := by omega
    clear hn hn2 hL hL2
    go_enter Try.func20, Try.ntmps20
    go_wp2
    go_ret
    exact ⟨ret_bool HF.out.symm, Mod.refl _ _⟩
  subst hnn
  by_cases hn0 : n = 0
  · have HT : Hid ((l == l2) = true) := by
      show _ = _
      have e1 : l = [] := List.length_eq_zero_iff.1 (by omega)
      have e2 : l2 = [] := List.length_eq_zero_iff.1 (by omega)
      rw [e1, e2]; rfl
    subst hn0
    clear hn hn2 hL hL2
    go_enter Try.func20, Try.ntmps20
    go_wp2
    go_loopw [5] (fun i wr => i = .int .i64 0 ∧ Mod none' w wr) (fun _ _ => 0)
    case atStart => exact ⟨rfl, Mod.refl _ _⟩
    case round =>
      obtain ⟨rfl, hm⟩ := hrel
      go_wp2
      go_ret
      exact ⟨ret_bool HT.out.symm, hm⟩
  obtain ⟨rfl, hLs⟩ := Or.resolve_left ha hn0
  obtain ⟨rfl, hLs2⟩ := Or.resolve_left ha2 hn0
  have HN := Lib.hid hn
  have HN2 := Lib.hid hn2
  have HL := Lib.hid hL
  have HL2 := Lib.hid hL2
  clear hn hn2 hL hL2 ha ha2 hb hb2
  go_enter Try.func20, Try.ntmps20
  go_wp2
  go_loopw [5] (fun i wr => ∃ k : Nat, k ≤ n ∧ i = .int .i64 k ∧ Mod none' w wr ∧ ∀ j, j < k → l.getD j 0 = l2.getD j 0) (fun i _ => n - (intOf i).toNat)
  case atStart => exact ⟨0, by omega, rfl, Mod.refl _ _, fun j hj => by omega⟩
  case round =>
    obtain ⟨k, hk, rfl, hm, hs⟩ := hrel
    have HS := Lib.hid hs
    clear hs
    obtain ⟨wq, rfl⟩ : ∃ wo : World, wo = wr := ⟨_, rfl⟩
    by_cases hlt : k < n
    · have ck : wq.cell? ⟨L, o + k, none⟩ = some (.int .u32 (l.getD k 0)) := (World.cell?_of_block (hm.same L hLs (fun e => e))).trans (HL.out k (by rw [← HN.out]; exact hlt))
      have ck2 : wq.cell? ⟨L2, o2 + k, none⟩ = some (.int .u32 (l2.getD k 0)) := (World.cell?_of_block (hm.same L2 hLs2 (fun e => e))).trans (HL2.out k (by rw [← HN2.out]; exact hlt))
      obtain ⟨x, hx⟩ : ∃ x, l.getD k 0 = x := ⟨_, rfl⟩
      obtain ⟨y, hy⟩ : ∃ x, l2.getD k 0 = x := ⟨_, rfl⟩
      rw [hx] at ck
      rw [hy] at ck2
      have z0 : (0 : Int) ≤ (k : Int) := by omega
      have z1 : (k : Int) < (n : Int) := by omega
      have hwk : IntKind.i64.wrap ((k : Int) + 1) = (k : Int) + 1 := IntWalk.i64_in _ (by omega)
      by_cases hxy : x = y
      · have HE : Hid (l.getD k 0 = l2.getD k 0) := by show _ = _; rw [hx, hy, hxy]
        subst hxy
        clear hx hy
        go_wp2
        go_quiet (fail)
        go_wp2
        go_roundw
        case rel => exact ⟨k + 1, by omega, by go_num, hm.drewN _, fun j hj => by
          by_cases e : j = k
          · rw [e]; exact HE.out
          · exact HS.out j (by omega)⟩
        case measure => simp [intOf]; omega
      · have HF : Hid ((l == l2) = false) := diff_getD 0 k (by rw [hx, hy]; exact hxy)
        clear hx hy
        go_wp2
        go_quiet (fail)
        go_wp2
        go_ret
        exact ⟨ret_bool HF.out.symm, hm.drewN _⟩
    · have HT : Hid ((l == l2) = true) := same_getD 0 (by rw [← HN.out, ← HN2.out]) (fun j hj => HS.out j (by have := HN.out; omega))
      go_wp2
      go_ret
      exact ⟨ret_bool HT.out.symm, hm⟩
theorem tag_guard (op : BinOp) (x y : Operand) (a b : Array Value) (w : World) : (eqGuard op 55 x y (.agg a) (.agg b)).run Try.prog w = .ok () w :=
  run_eqGuard_agg w op _ x y a b (by kernel_rfl)
theorem tag_equal (x y : Int) (e f : Bool) (w : World) : (Op.equalIn 10000 55 (.agg #[.int .u32 x, .bool e]) (.agg #[.int .u32 y, .bool f])).run Try.prog w = .ok (decide ((x, e) = (y, f))) w := by
  have hf := fieldsOf_eq Try.underlying55
  rw [run_equalIn_struct w 9999 _ _ _ (by rw [hf]; exact Try.underlying55) (by kernel_rfl), hf]
  have u1 := Try.underlying22
  have u2 := Try.underlying4
  by_cases h : x = y <;> by_cases h2 : e = f <;> simp [Op.eqFields, part, isAgg, run_underlying u1, run_underlying u2, h, h2, go_sem]
theorem tag_neq_same (x : Int) (e : Bool) (w : World) : (binOp .neq 55 (.agg #[.int .u32 x, .bool e]) (.agg #[.int .u32 x, .bool e])).run Try.prog w = .ok (.bool false) w := by
  rw [run_neq_struct, tag_equal, decide_eq_true rfl]; rfl
theorem tag_neq_diff (x y : Int) (e f : Bool) (h : ¬ (x, e) = (y, f)) (w : World) : (binOp .neq 55 (.agg #[.int .u32 x, .bool e]) (.agg #[.int .u32 y, .bool f])).run Try.prog w = .ok (.bool true) w := by
  rw [run_neq_struct, tag_equal, decide_eq_false h]; rfl

set_option maxRecDepth 100000 in
set_option maxHeartbeats 4000000 in
theorem rsameT (a a2 : Option Addr) (n n2 cap cap2 : Nat) (l l2 : List (Int × Bool)) (w : World) (h : TagsAt w a n l) (h2 : TagsAt w a2 n2 l2) (hc : n ≤ 1000000) :
    Calls Try.prog 19 #[.slice a n cap, .slice a2 n2 cap2] w fun e w' => e = .returned (.bool (l == l2)) ∧ Mod none' w w' := by
  obtain ⟨hn, hb, L, o, ha, hL⟩ := h
  obtain ⟨hn2, hb2, L2, o2, ha2, hL2⟩ := h2
  by_cases hnn : n = n2
  rotate_left
  · have HF : Hid ((l == l2) = false) := ne_len (by omega)
    have hI : ¬ ((n : Int) = (n2 : Int)) := by omega
    clear hn hn2 hL hL2
    go_enter Try.func19, Try.ntmps19
    go_wp2
    go_ret
    exact ⟨ret_bool HF.out.symm, Mod.refl _ _⟩
  subst hnn
  by_cases hn0 : n = 0
  · have HT : Hid ((l == l2) = true) := by
      show _ = _
      have e1 : l = [] := List.length_eq_zero_iff.1 (by omega)
      have e2 : l2 = [] := List.length_eq_zero_iff.1 (by omega)
      rw [e1, e2]; rfl
    subst hn0
    clear hn hn2 hL hL2
    go_enter Try.func19, Try.ntmps19
    go_wp2
    go_loopw [5] (fun i wr => i = .int .i64 0 ∧ Mod none' w wr) (fun _ _ => 0)
    case atStart => exact ⟨rfl, Mod.refl _ _⟩
    case round =>
      obtain ⟨rfl, hm⟩ := hrel
      go_wp2
      go_ret
      exact ⟨ret_bool HT.out.symm, hm⟩
  obtain ⟨rfl, hLs⟩ := Or.resolve_left ha hn0
  obtain ⟨rfl, hLs2⟩ := Or.resolve_left ha2 hn0
  have HN := Lib.hid hn
  have HN2 := Lib.hid hn2
  have HL := Lib.hid hL
  have HL2 := Lib.hid hL2
  clear hn hn2 hL hL2 ha ha2 hb hb2
  go_enter Try.func19, Try.ntmps19
  go_wp2
  go_loopw [5] (fun i wr => ∃ k : Nat, k ≤ n ∧ i = .int .i64 k ∧ Mod none' w wr ∧ ∀ j, j < k → l.getD j (0, false) = l2.getD j (0, false)) (fun i _ => n - (intOf i).toNat)
  case atStart => exact ⟨0, by omega, rfl, Mod.refl _ _, fun j hj => by omega⟩
  case round =>
    obtain ⟨k, hk, rfl, hm, hs⟩ := hrel
    have HS := Lib.hid hs
    clear hs
    obtain ⟨wq, rfl⟩ : ∃ wo : World, wo = wr := ⟨_, rfl⟩
    by_cases hlt : k < n
    · have ck : wq.cell? ⟨L, o + k * 2, none⟩ = some (.int .u32 (l.getD k (0, false)).1) := (World.cell?_of_block (hm.same L hLs (fun e => e))).trans (HL.out k (by rw [← HN.out]; exact hlt)).1
      have ck' : wq.cell? ⟨L, o + k * 2 + 1, none⟩ = some (.bool (l.getD k (0, false)).2) := (World.cell?_of_block (hm.same L hLs (fun e => e))).trans (HL.out k (by rw [← HN.out]; exact hlt)).2
      have ck2 : wq.cell? ⟨L2, o2 + k * 2, none⟩ = some (.int .u32 (l2.getD k (0, false)).1) := (World.cell?_of_block (hm.same L2 hLs2 (fun e => e))).trans (HL2.out k (by rw [← HN2.out]; exact hlt)).1
      have ck2' : wq.cell? ⟨L2, o2 + k * 2 + 1, none⟩ = some (.bool (l2.getD k (0, false)).2) := (World.cell?_of_block (hm.same L2 hLs2 (fun e => e))).trans (HL2.out k (by rw [← HN2.out]; exact hlt)).2
      obtain ⟨xe, hx⟩ : ∃ x, l.getD k (0, false) = x := ⟨_, rfl⟩
      obtain ⟨yf, hy⟩ : ∃ x, l2.getD k (0, false) = x := ⟨_, rfl⟩
      rw [hx] at ck ck'
      rw [hy] at ck2 ck2'
      obtain ⟨x, e⟩ := xe
      obtain ⟨y, f⟩ := yf
      simp only at ck ck' ck2 ck2'
      have z0 : (0 : Int) ≤ (k : Int) := by omega
      have z1 : (k : Int) < (n : Int) := by omega
      have hwk : IntKind.i64.wrap ((k : Int) + 1) = (k : Int) + 1 := IntWalk.i64_in _ (by omega)
      by_cases hxy : (x, e) = (y, f)
      · have HE : Hid (l.getD k (0, false) = l2.getD k (0, false)) := by show _ = _; rw [hx, hy, hxy]
        simp only [Prod.mk.injEq] at hxy
        obtain ⟨rfl, rfl⟩ := hxy
        clear hx hy
        go_wp2
        (refine wp_region_quiet_lit (by kernel_rfl) (by kernel_rfl) ?_
         repeat (first
           | go_big_quiet_skip
           | ((first | ((with_reducible refine wpQuiet_cmp ?_ ?_ ?_ (tag_guard _ _ _ _ _) (tag_neq_same x e) ?_); rfl; rfl; rfl)); try simp only [Act.put, List.setIfInBounds_toArray, List.set_cons_zero, List.set_cons_succ])
           | (go_big_quiet_want; go_big_quiet_op; first | go_big_quiet_on | (apply Exists.intro; refine ⟨fun _ => ?_, ?_⟩; (· fail); go_big_quiet_on)))
         refine wpQuiet_nil ?_
         intro _ hw'
         obtain ⟨nq, hw''⟩ := hw'
         subst hw'')
        go_wp2
        go_roundw
        case rel => exact ⟨k + 1, by omega, by go_num, hm.drewN _, fun j hj => by
          by_cases e : j = k
          · rw [e]; exact HE.out
          · exact HS.out j (by omega)⟩
        case measure => simp [intOf]; omega
      · have HF : Hid ((l == l2) = false) := diff_getD (0, false) k (by rw [hx, hy]; exact hxy)
        clear hx hy
        go_wp2
        (refine wp_region_quiet_lit (by kernel_rfl) (by kernel_rfl) ?_
         repeat (first
           | go_big_quiet_skip
           | ((first | ((with_reducible refine wpQuiet_cmp ?_ ?_ ?_ (tag_guard _ _ _ _ _) (tag_neq_diff x y e f hxy) ?_); rfl; rfl; rfl)); try simp only [Act.put, List.setIfInBounds_toArray, List.set_cons_zero, List.set_cons_succ])
           | (go_big_quiet_want; go_big_quiet_op; first | go_big_quiet_on | (apply Exists.intro; refine ⟨fun _ => ?_, ?_⟩; (· fail); go_big_quiet_on)))
         refine wpQuiet_nil ?_
         intro _ hw'
         obtain ⟨nq, hw''⟩ := hw'
         subst hw'')
        go_wp2
        go_ret
        exact ⟨ret_bool HF.out.symm, hm.drewN _⟩
    · have HT : Hid ((l == l2) = true) := same_getD (0, false) (by rw [← HN.out, ← HN2.out]) (fun j hj => HS.out j (by have := HN.out; omega))
      go_wp2
      go_ret
      exact ⟨ret_bool HT.out.symm, hm⟩

theorem rangeD {α : Type} (f : Nat → α) (d : α) (n k : Nat) : ((List.range n).map f).getD k d = if k < n then f k else d := by
  by_cases h : k < n <;> simp [h]
theorem spot_none {w : World} {a : Addr} {v : Value} (h : w.cell? a = some v) : a = ⟨a.block, a.off, none⟩ ∧ a.block < w.heap.size := by
  refine ⟨?_, block_lt_of_cell h⟩
  unfold World.cell? at h
  split at h
  · split at h
    · cases h
    · rename_i hs
      obtain ⟨b, o, sp⟩ := a
      simp at hs
      subst hs
      rfl
  · cases h
def intAt : Option Value → Int
  | some (.int _ x) => x
  | _ => 0
def boolAt : Option Value → Bool
  | some (.bool x) => x
  | _ => false
theorem nums_arg {w : World} {v : Value} (h : ArgIs Try.prog w 26 v) : ∃ a n cap l, v = .slice a n cap ∧ n ≤ cap ∧ NumsAt w a n l := by
  rcases h.slice Try.underlying26 with rfl | ⟨a, n, cap, rfl, h1, h2, h3⟩
  · exact ⟨none, 0, 0, [], rfl, Nat.le_refl _, numsAt_nil⟩
  · have hc : ∀ i, i < n → ∃ x, w.cell? (a.add i) = some (.int .u32 x) ∧ 0 ≤ x ∧ x < 4294967296 := by
      intro i hi
      obtain ⟨ecs, e1, e2, e3⟩ := h3 i hi
      obtain ⟨x, rfl, hw⟩ := e3.int Try.underlying22
      have e4 := e2 0 (by rw [cellsU32]; omega)
      simp [cellsU32] at e4
      simp [Lit.wf] at hw
      have b1 : IntKind.u32.min = 0 := rfl
      have b2 : IntKind.u32.max = 4294967295 := rfl
      have e5 : (a.add i).add 0 = a.add i := by simp [Addr.add]
      rw [e5] at e4
      exact ⟨x, e4, by omega, by omega⟩
    refine ⟨some a, n, cap, (List.range n).map fun i => intAt (w.cell? (a.add i)), rfl, h1, by simp, fun k => ?_, ?_⟩
    · rw [rangeD]
      by_cases hk : k < n
      · obtain ⟨x, e, b⟩ := hc k hk
        rw [if_pos hk, e]; exact b
      · rw [if_neg hk]; omega
    · by_cases hn : n = 0
      · exact ⟨0, 0, .inl hn, fun k hk => by simp [hn] at hk⟩
      · obtain ⟨x, e, _⟩ := hc 0 (by omega)
        rw [show a.add 0 = a by simp [Addr.add]] at e
        obtain ⟨ea, hlt⟩ := spot_none e
        refine ⟨a.block, a.off, .inr ⟨by rw [← ea], hlt⟩, fun k hk => ?_⟩
        have hk' : k < n := by simpa using hk
        obtain ⟨y, e2, _⟩ := hc k hk'
        rw [rangeD, if_pos hk', e2]
        rw [ea, add_off] at e2
        exact e2
theorem cellsTag : Try.prog.cellsOf 55 = 2 := by kernel_rfl
theorem cellsBool : Try.prog.cellsOf 4 = 1 := by kernel_rfl
set_option maxRecDepth 100000 in
theorem tags_arg {w : World} {v : Value} (h : ArgIs Try.prog w 25 v) : ∃ a n cap l, v = .slice a n cap ∧ n ≤ cap ∧ TagsAt w a n l := by
  rcases h.slice Try.underlying25 with rfl | ⟨a, n, cap, rfl, h1, h2, h3⟩
  · exact ⟨none, 0, 0, [], rfl, Nat.le_refl _, tagsAt_nil⟩
  · have hc : ∀ i, i < n → ∃ x e, w.cell? (a.add (i * 2)) = some (.int .u32 x) ∧ w.cell? ((a.add (i * 2)).add 1) = some (.bool e) ∧ 0 ≤ x ∧ x < 4294967296 := by
      intro i hi
      obtain ⟨ecs, e1, e2, e3⟩ := h3 i hi
      rw [cellsTag] at e1 e2
      obtain ⟨u, v, rfl⟩ : ∃ u v, ecs = [u, v] := by
        match ecs, e1 with
        | [u, v], _ => exact ⟨u, v, rfl⟩
      obtain ⟨_, hall⟩ := e3.struct Try.underlying55
      obtain ⟨x, f0, hw⟩ := (hall 0 _ rfl).int Try.underlying22
      obtain ⟨e, f1⟩ := (hall 1 _ rfl).bool Try.underlying4
      simp [cellsU32, cellsBool] at f0 f1
      subst f0 f1
      have g0 := e2 0 (by omega)
      have g1 := e2 1 (by omega)
      simp [Lit.wf] at hw
      have b1 : IntKind.u32.min = 0 := rfl
      have b2 : IntKind.u32.max = 4294967295 := rfl
      have e5 : (a.add (i * 2)).add 0 = a.add (i * 2) := by simp [Addr.add]
      rw [e5] at g0
      exact ⟨x, e, g0, g1, by omega, by omega⟩
    refine ⟨some a, n, cap, (List.range n).map fun i => (intAt (w.cell? (a.add (i * 2))), boolAt (w.cell? ((a.add (i * 2)).add 1))), rfl, h1, by simp, fun k => ?_, ?_⟩
    · rw [rangeD]
      by_cases hk : k < n
      · obtain ⟨x, e, g, _, b⟩ := hc k hk
        rw [if_pos hk, g]; exact b
      · rw [if_neg hk]; exact ⟨by simp, by simp⟩
    · by_cases hn : n = 0
      · exact ⟨0, 0, .inl hn, fun k hk => by simp [hn] at hk⟩
      · obtain ⟨x, f, e, _⟩ := hc 0 (by omega)
        rw [show a.add (0 * 2) = a by simp [Addr.add]] at e
        obtain ⟨ea, hlt⟩ := spot_none e
        refine ⟨a.block, a.off, .inr ⟨by rw [← ea], hlt⟩, fun k hk => ?_⟩
        have hk' : k < n := by simpa using hk
        obtain ⟨y, g, e2, e3, _⟩ := hc k hk'
        rw [rangeD, if_pos hk', e2, e3]
        rw [ea, add_off] at e2 e3
        rw [add_off] at e3
        exact ⟨e2, e3⟩
end Go.Proofs.Ytckadanghhibhaa
