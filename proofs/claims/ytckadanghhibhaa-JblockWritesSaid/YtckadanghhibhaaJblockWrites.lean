/- Any head, tags, numbers, count and sum are written as the chapter says, or refused; lists stay. -/
import Derived.Test.YtckadanghhibhaaRwd
import Derived.Test.YtckadanghhibhaaJsame
import Derived.Test.YtckadanghhibhaaAppA
namespace Go.Proofs.Ytckadanghhibhaa.jblockWrites
open Go Go.RowKit Go.ChangeShapes Go.WideShapes Go.ChangeAt
theorem own : ownKnob Try.prog.godebug = none := by kernel_rfl
theorem laidOut : laidOutB Try.prog = true := by kernel_rfl

instance : Row Try.prog 24 2 := row_mk Try.underlying24 rfl (by kernel_rfl)
theorem infoT1 : (Try.prog.info? 55).map (·.size) = some 2 := by kernel_rfl
theorem infoN1 : (Try.prog.info? 22).map (·.size) = some 1 := by kernel_rfl
theorem tag_one (l : List (Int × Bool)) : ∀ v ∈ encTl l, v.oneCell' = true := by
  intro v hv
  unfold encTl encT at hv
  simp only [List.toList_toArray] at hv
  obtain ⟨p, _, hv⟩ := List.mem_flatMap.1 hv
  simp at hv
  rcases hv with rfl | rfl <;> rfl
theorem tags_own {S : Nat → Prop} {w0 w : World} {L : List Ass} (HS : St S w0 w L) {a : Option Addr} {n cap : Nat} {l : List (Int × Bool)} (hm : Ass.own (.slice a n cap) 55 2 n (encTl l) ∈ L) (hn : n = l.length) (hb : ∀ k, 0 ≤ (l.getD k (0, false)).1 ∧ (l.getD k (0, false)).1 < 4294967296) : TagsAt w a n l := by
  by_cases h0 : n = 0
  · exact ⟨hn, hb, 0, 0, .inl h0, fun k hk => by omega⟩
  · obtain ⟨g, cap', e, _⟩ := own_row (HS.own hm) (by omega)
    obtain ⟨rfl, rfl⟩ : a = some ⟨g, 0, none⟩ ∧ cap = cap' := by simpa using e
    have hr := HS.ownRange hm
    refine ⟨hn, hb, g, 0, .inr ⟨rfl, HS.lt hm g rfl⟩, fun k hk => ⟨?_, ?_⟩⟩
    · exact hr _ _ (encTl_get1 hk)
    · rw [Nat.add_assoc]; exact hr _ _ (encTl_get2 hk)
theorem nums_own {S : Nat → Prop} {w0 w : World} {L : List Ass} (HS : St S w0 w L) {a : Option Addr} {n cap : Nat} {l : List Int} (hm : Ass.own (.slice a n cap) 22 1 n (encI l) ∈ L) (hn : n = l.length) (hb : ∀ k, 0 ≤ l.getD k 0 ∧ l.getD k 0 < 4294967296) : NumsAt w a n l := by
  by_cases h0 : n = 0
  · exact ⟨hn, hb, 0, 0, .inl h0, fun k hk => by omega⟩
  · obtain ⟨g, cap', e, _⟩ := own_row (HS.own hm) (by omega)
    obtain ⟨rfl, rfl⟩ : a = some ⟨g, 0, none⟩ ∧ cap = cap' := by simpa using e
    have hr := HS.ownRange hm
    exact ⟨hn, hb, g, 0, .inr ⟨rfl, HS.lt hm g rfl⟩, fun k hk => hr _ _ (encI_get hk)⟩
theorem tags_news {w : World} {a : Option Addr} {n cap : Nat} {l : List (Int × Bool)} (h : TagsAt w a n l) (h0 : a = none → n = 0 ∧ cap = 0) : News w (.slice a n cap) n (encTl l) := by
  cases a with
  | none =>
    obtain ⟨rfl, rfl⟩ := h0 rfl
    have : l = [] := List.eq_nil_of_length_eq_zero h.1.symm
    subst this
    exact .inl ⟨rfl, rfl, rfl⟩
  | some ad =>
    refine .inr ⟨ad, cap, rfl, fun j u hj => ?_⟩
    have hjl := (List.getElem?_eq_some_iff.1 hj).1
    rw [encTl_len, ← h.1] at hjl
    obtain ⟨L, o, e, hr⟩ := h.range (by omega)
    obtain rfl := Option.some.inj e
    rw [add_off]
    exact hr j u hj
theorem nums_news {w : World} {a : Option Addr} {n cap : Nat} {l : List Int} (h : NumsAt w a n l) (h0 : a = none → n = 0 ∧ cap = 0) : News w (.slice a n cap) n (encI l) := by
  cases a with
  | none =>
    obtain ⟨rfl, rfl⟩ := h0 rfl
    have : l = [] := List.eq_nil_of_length_eq_zero h.1.symm
    subst this
    exact .inl ⟨rfl, rfl, rfl⟩
  | some ad =>
    refine .inr ⟨ad, cap, rfl, fun j u hj => ?_⟩
    have hjl := (List.getElem?_eq_some_iff.1 hj).1
    rw [encI_len, ← h.1] at hjl
    obtain ⟨L, o, e, hr⟩ := h.range (by omega)
    obtain rfl := Option.some.inj e
    rw [add_off]
    exact hr j u hj
theorem tags_in {w : World} {v : Value} (h : ArgIs Try.prog w 25 v) : ∃ a n cap l, v = .slice a n cap ∧ TagsAt w a n l ∧ (a = none → n = 0 ∧ cap = 0) := by
  rcases h.slice Try.underlying25 with rfl | ⟨a, n, cap, rfl, _⟩
  · exact ⟨none, 0, 0, [], rfl, tagsAt_nil, fun _ => ⟨rfl, rfl⟩⟩
  · obtain ⟨a2, n2, cap2, l, e, _, ht⟩ := tags_arg h
    obtain ⟨rfl, rfl, rfl⟩ : a2 = some a ∧ n2 = n ∧ cap2 = cap := by simpa using e.symm
    exact ⟨_, _, _, l, rfl, ht, fun e => by cases e⟩
theorem nums_in {w : World} {v : Value} (h : ArgIs Try.prog w 26 v) : ∃ a n cap l, v = .slice a n cap ∧ NumsAt w a n l ∧ (a = none → n = 0 ∧ cap = 0) := by
  rcases h.slice Try.underlying26 with rfl | ⟨a, n, cap, rfl, _⟩
  · exact ⟨none, 0, 0, [], rfl, numsAt_nil, fun _ => ⟨rfl, rfl⟩⟩
  · obtain ⟨a2, n2, cap2, l, e, _, ht⟩ := nums_arg h
    obtain ⟨rfl, rfl, rfl⟩ : a2 = some a ∧ n2 = n ∧ cap2 = cap := by simpa using e.symm
    exact ⟨_, _, _, l, rfl, ht, fun e => by cases e⟩
theorem TagsAt.sub {w w' : World} {a : Option Addr} {n : Nat} {l : List (Int × Bool)} (h : TagsAt w a n l) (m : Mod none' w w') : TagsAt w' a n l := h.mod m

set_option maxRecDepth 100000 in
set_option maxHeartbeats 8000000 in
theorem walk (s st c m : Int) (ta na : Option Addr) (tn tc nn nc : Nat) (lt : List (Int × Bool)) (ln : List Int) (w : World) (s0 : 0 ≤ s) (s1 : s < 4294967296) (m0 : 0 ≤ m) (m1 : m < 4294967296)
    (hT : TagsAt w ta tn lt) (hT0 : ta = none → tn = 0 ∧ tc = 0) (hN : NumsAt w na nn ln) (hN0 : na = none → nn = 0 ∧ nc = 0) :
    Calls Try.prog 3 #[.agg #[.int .u32 s, .int .i64 st], .slice ta tn tc, .slice na nn nc, .int .i64 c, .int .u32 m] w fun e w' => e = .returned (.bool true) ∧ Below w.heap.size w w' := by
  have HS := St.nil none' w
  have HT := Lib.hid hT
  have HN := Lib.hid hN
  have HTW := Lib.hid (tags_news (cap := tc) hT hT0)
  have HNW := Lib.hid (nums_news (cap := nc) hN hN0)
  have HTL : Hid (tn = lt.length) := hT.1
  have HNL : Hid (nn = ln.length) := hN.1
  clear hT hT0 hN hN0
  by_cases hlt : 1000 < tn
  · have e1 : decide ((1000 : Int) < (tn : Int)) = true := decide_eq_true (by omega)
    have e1I : (1000 : Int) < (tn : Int) := by omega
    go_enter Try.func3, Try.ntmps3
    go_wp2_with ((with_reducible apply sBox HS); rfl; (conv => (lhs; whnf)); (first | exact cells_agg _ | exact cells_one rfl); intro Bh w' H1; clear HS; have HS := H1; clear H1)
    go_ret
    exact ⟨rfl, HS.below⟩
  have e1 : decide ((1000 : Int) < (tn : Int)) = false := decide_eq_false (by omega)
  have e1I : ¬ (1000 : Int) < (tn : Int) := by omega
  by_cases hln : 1000 < nn
  · have e2 : decide ((1000 : Int) < (nn : Int)) = true := decide_eq_true (by omega)
    have e2I : (1000 : Int) < (nn : Int) := by omega
    go_enter Try.func3, Try.ntmps3
    go_wp2_with ((with_reducible apply sBox HS); rfl; (conv => (lhs; whnf)); (first | exact cells_agg _ | exact cells_one rfl); intro Bh w' H1; clear HS; have HS := H1; clear H1)
    go_ret
    exact ⟨rfl, HS.below⟩
  have e2 : decide ((1000 : Int) < (nn : Int)) = false := decide_eq_false (by omega)
  have e2I : ¬ (1000 : Int) < (nn : Int) := by omega
  have C1 := Lib.hid (fun W => jwhead s st W s0 s1)
  have C2 := Lib.hid (fun W => rwhead s st W s0 s1)
  have C3 := Lib.hid (fun W a n cap h => jwdesc a n cap lt s W h)
  have C4 := Lib.hid (fun W a n cap h => rwdesc a n cap lt s W h)
  have C5 := Lib.hid (fun W a n cap h => jwrevoke a n cap ln s W h)
  have C6 := Lib.hid (fun W a n cap h => rwrevoke a n cap ln s W h)
  have C7 := Lib.hid (fun W => jwcommit s c m W s0 s1 m0 m1)
  have C8 := Lib.hid (fun W => rwcommit s c m W s0 s1 m0 m1)
  rw [resB_eq] at C1 C2 C3 C4 C5 C6 C7 C8
  have z1 : Hid ((encB (blkOf (wHead s st))).size = 256) := (encB_size _).trans (wHead_len s st)
  have z2 : Hid ((encB (blkOf (wDesc s lt))).size = 256) := (encB_size _).trans (wDesc_len s lt)
  have z3 : Hid ((encB (blkOf (wRevoke s ln))).size = 256) := (encB_size _).trans (wRevoke_len s ln)
  have z4 : Hid ((encB (blkOf (wCommit s c m))).size = 256) := (encB_size _).trans (wCommit_len s c m)
  have l1 := Lib.hid (wHead_len s st)
  have l2 := Lib.hid (wDesc_len s lt)
  have l3 := Lib.hid (wRevoke_len s ln)
  have l4 := Lib.hid (wCommit_len s c m)
  generalize blkOf (wHead s st) = b1 at *
  generalize blkOf (wDesc s lt) = b2 at *
  generalize blkOf (wRevoke s ln) = b3 at *
  generalize blkOf (wCommit s c m) = b4 at *
  generalize errOf (wHead s st) = f1 at *
  generalize errOf (wDesc s lt) = f2 at *
  generalize errOf (wRevoke s ln) = f3 at *
  generalize errOf (wCommit s c m) = f4 at *
  have hlt2 : (lt == lt) = true := by simp
  have hln2 : (ln == ln) = true := by simp
  have HTE : Hid ((encTl lt).length = tn * 2) := by show _ = _; rw [encTl_len, HTL.out]
  have HNE : Hid ((encI ln).length = nn * 1) := by show _ = _; rw [encI_len, HNL.out]; omega
  go_enter Try.func3, Try.ntmps3
  go_wp2_with (first | ((with_reducible apply sBox HS); rfl; (conv => (lhs; whnf)); (first | exact cells_agg _ | exact cells_one rfl); intro Bh w' H1; clear HS; have HS := H1; clear H1) | ((with_reducible apply sEmpty HS Try.underlying25 infoT1); rfl; intro Bq w' H1; clear HS; have HS := H1; clear H1) | ((with_reducible apply sEmpty HS Try.underlying26 infoN1); rfl; intro Bq w' H1; clear HS; have HS := H1; clear H1) | (at_builtin; (with_reducible apply sAppendA HS Try.underlying25 infoTag rfl (by decide)); (conv => (lhs; whnf)); (intro v'; (repeat (first | exact Rep.here | apply Rep.there))); rfl; exact HTW.out.sub HS.below; exact HTE.out; exact tag_one _; decide; omega; intro v1 w' H1; clear HS; have HS := H1; clear H1; rw [Nat.zero_add, List.nil_append] at HS; obtain ⟨at1, at1c, rfl⟩ := own_slice (HS.own (by (repeat (first | exact List.Mem.head _ | apply List.Mem.tail))))) | (at_builtin; (with_reducible apply sAppendA HS Try.underlying26 infoN rfl (by decide)); (conv => (lhs; whnf)); (intro v'; (repeat (first | exact Rep.here | apply Rep.there))); rfl; exact HNW.out.sub HS.below; exact HNE.out; exact encI_one _; decide; omega; intro v1 w' H1; clear HS; have HS := H1; clear H1; rw [Nat.zero_add, List.nil_append] at HS; obtain ⟨an1, an1c, rfl⟩ := own_slice (HS.own (by (repeat (first | exact List.Mem.head _ | apply List.Mem.tail))))) | ((with_reducible apply sAlloc HS); infer_instance; (first | exact cells_agg _ | exact cells_one rfl); rfl; intro Bx w' H1; clear HS; have HS := H1; clear H1) | ((with_reducible apply sLoadB HS); infer_instance; rfl; rfl; (repeat (first | exact List.Mem.head _ | apply List.Mem.tail)); (first | exact z1.out | exact z2.out | exact z3.out | exact z4.out | rfl)) | ((with_reducible apply sStoreB HS); infer_instance; rfl; rfl; (conv => (lhs; whnf)); (repeat (first | exact Rep.here | apply Rep.there)); (first | exact z1.out | exact z2.out | exact z3.out | exact z4.out); exact z256s; exact encB_one _; intro w' H1; clear HS; have HS := H1; clear H1) | ((with_reducible apply sLoad1 HS); infer_instance; rfl; rfl; (repeat (first | exact List.Mem.head _ | apply List.Mem.tail)); rfl) | ((with_reducible apply sNeB blkT); rfl; rfl; rfl; (first | exact l1.out | exact l2.out | exact l3.out | exact l4.out); (first | exact l1.out | exact l2.out | exact l3.out | exact l4.out)) | ((with_reducible apply sEqB blkT); rfl; rfl; rfl; (first | exact l1.out | exact l2.out | exact l3.out | exact l4.out); (first | exact l1.out | exact l2.out | exact l3.out | exact l4.out)) | (go_at_call 11; refine (C1.out _).mono ?_; rintro e w' ⟨rfl, H1⟩; replace HS := HS.fresh H1; clear H1) | (go_at_call 12; refine (C2.out _).mono ?_; rintro e w' ⟨rfl, H1⟩; replace HS := HS.fresh H1; clear H1) | (go_at_call 13; refine (C3.out _ _ _ _ (tags_own HS (by (repeat (first | exact List.Mem.head _ | apply List.Mem.tail))) HTL.out HT.out.2.1) (by omega) s0 s1).mono ?_; rintro e w' ⟨rfl, H1⟩; replace HS := HS.fresh H1; clear H1) | (go_at_call 14; refine (C4.out _ _ _ _ (HT.out.mod HS.mod) (by omega) s0 s1).mono ?_; rintro e w' ⟨rfl, H1⟩; replace HS := HS.fresh H1; clear H1) | (go_at_call 15; refine (C5.out _ _ _ _ (nums_own HS (by (repeat (first | exact List.Mem.head _ | apply List.Mem.tail))) HNL.out HN.out.2.1) (by omega) s0 s1).mono ?_; rintro e w' ⟨rfl, H1⟩; replace HS := HS.fresh H1; clear H1) | (go_at_call 16; refine (C6.out _ _ _ _ (HN.out.mod HS.mod) (by omega) s0 s1).mono ?_; rintro e w' ⟨rfl, H1⟩; replace HS := HS.fresh H1; clear H1) | (go_at_call 17; refine (C7.out _).mono ?_; rintro e w' ⟨rfl, H1⟩; replace HS := HS.fresh H1; clear H1) | (go_at_call 18; refine (C8.out _).mono ?_; rintro e w' ⟨rfl, H1⟩; replace HS := HS.fresh H1; clear H1) | (go_at_call 19; refine (rsameT _ _ _ _ _ _ lt lt _ (tags_own HS (by (repeat (first | exact List.Mem.head _ | apply List.Mem.tail))) HTL.out HT.out.2.1) (HT.out.mod HS.mod) (by omega)).mono ?_; rintro e w' ⟨rfl, H1⟩; rw [hlt2]; replace HS := HS.fresh H1; clear H1) | (go_at_call 20; refine (rsameN _ _ _ _ _ _ ln ln _ (nums_own HS (by (repeat (first | exact List.Mem.head _ | apply List.Mem.tail))) HNL.out HN.out.2.1) (HN.out.mod HS.mod) (by omega)).mono ?_; rintro e w' ⟨rfl, H1⟩; rw [hln2]; replace HS := HS.fresh H1; clear H1))
  go_ret
  exact ⟨rfl, HS.below⟩

set_option maxRecDepth 100000 in
theorem lifted (os : Os) (started : os.Started) (H : Type) (enc : TypeId × Value → H) :
    ReturnsInHanded {} Try.checked os 3 .any (Rows.jblockWritesSpec.pre6 enc Try.prog Try.f3 Rows.jblockWritesRow.domain false) (Rows.jblockWritesSpec.post enc Try.prog Try.f3 false true false false) := by
  refine law_lift (C := Try.checked) own started (by kernel_rfl) Try.func3 laidOut rfl Try.underlying4 rfl ?hs (by kernel_rfl)
    (ChangeSpec.witness6 (enc := enc) (C := Try.checked) false ⟨#[], #[.agg #[.int .u32 0, .int .i64 0], .slice none 0 0, .slice none 0 0, .int .i64 0, .int .u32 0], []⟩ 8 (by kernel_rfl) (by kernel_rfl) (by kernel_rfl) (by kernel_rfl)) ?hwalk
  case hs =>
    intro ds h
    match ds, h with
    | [d0, d1, d2, d3, d4], _ => rfl
  case hwalk =>
    intro W args hn ha
    obtain ⟨l⟩ := args
    match l, hn with
    | [v0, v1, v2, v3, v4], _ =>
      obtain ⟨s, st, rfl, s0, s1⟩ := head_arg (ha 0 _ _ rfl rfl)
      obtain ⟨ta, tn, tc, lt, rfl, hT, hT0⟩ := tags_in (ha 1 _ _ rfl rfl)
      obtain ⟨na, nn, nc, ln, rfl, hN, hN0⟩ := nums_in (ha 2 _ _ rfl rfl)
      obtain ⟨c, rfl, _⟩ := (ha 3 _ _ rfl rfl).int Try.underlying3
      obtain ⟨m, rfl, hm⟩ := (ha 4 _ _ rfl rfl).int Try.underlying22
      simp [Lit.wf] at hm
      have h1 : IntKind.u32.min = 0 := rfl
      have h2 : IntKind.u32.max = 4294967295 := rfl
      exact walk s st c m ta na tn tc nn nc lt ln W s0 s1 (by omega) (by omega) hT hT0 hN hN0

theorem over : Rows.jblockWritesRow.holds Try.pinned (OpenSpec.ofChange Rows.jblockWritesSpec) :=
  OpenClaim.holds_of_wide 3 Try.f3 rfl rfl rfl rfl rfl rfl rfl ⟨rfl, rfl, rfl, rfl, rfl⟩ rfl rfl rfl rfl rfl (by kernel_rfl) Try.func3 (by kernel_rfl)
    (of_decide_eq_true (by kernel_rfl)) (by unfold Func.isWrapper; first | (rw [if_pos (by decide +kernel)]; kernel_rfl) | (rw [if_neg (by decide +kernel)]; exact ⟨rfl, rfl⟩))
    (fun os started H enc _ => lifted os started H enc)

theorem proved : Rows.JblockWritesSaid := over
#print axioms proved
end Go.Proofs.Ytckadanghhibhaa.jblockWrites
