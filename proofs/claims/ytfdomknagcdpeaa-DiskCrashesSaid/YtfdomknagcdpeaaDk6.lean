/- What the statements' own 'written' makes. -/
import Derived.Test.YtfdomknagcdpeaaDk5
import Derived.Test.YtfdomknagcdpeaaFrame
namespace Go.Proofs.Ytfdomknagcdpeaa
open Go Go.RowKit

def encPs (l : List (Int × Int)) : List Value := l.flatMap fun p => [Value.int .i64 p.1, Value.int .u32 p.2]
theorem encPs_0 {l : List (Int × Int)} {i : Nat} {p : Int × Int} (hi : l[i]? = some p) : (encPs l)[i * 2]? = some (.int .i64 p.1) :=
  flat_part (fun p : Int × Int => [Value.int .i64 p.1, Value.int .u32 p.2]) 2 l (fun _ _ => rfl) i p hi 0 _ rfl
theorem encPs_1 {l : List (Int × Int)} {i : Nat} {p : Int × Int} (hi : l[i]? = some p) : (encPs l)[i * 2 + 1]? = some (.int .u32 p.2) :=
  flat_part (fun p : Int × Int => [Value.int .i64 p.1, Value.int .u32 p.2]) 2 l (fun _ _ => rfl) i p hi 1 _ rfl

def wr1 (n : Nat) (D : Dk) (p : Int × Int) : Dk := if 0 ≤ p.1 ∧ p.1 < n then D.write p.1 (fillB p.2) else D
def playW (n : Nat) (l : List (Int × Int)) : Dk := l.foldl (wr1 n) (newD (List.replicate n Z256))
theorem playW_snoc (n : Nat) (l : List (Int × Int)) (p : Int × Int) : playW n (l ++ [p]) = wr1 n (playW n l) p := by simp [playW]
/-- What stays true while blocks are written. -/
structure PlayOk (n : Nat) (D : Dk) (k : Nat) : Prop where
  ok : D.Ok n
  left : D.left = -1
  acts : D.acts = D.wait.length
  few : D.wait.length ≤ k
  safe : D.safe = List.replicate n Z256
  now : D.now = applyW D.wait D.safe
theorem playOk_start {n : Nat} (h0 : 1 ≤ n) (h1 : n ≤ 2048) : PlayOk n (newD (List.replicate n Z256)) 0 :=
  ⟨newD_ok (all256.rep n) (by simp) h0 h1, rfl, rfl, Nat.le_refl _, rfl, rfl⟩
theorem PlayOk.why {n : Nat} {D : Dk} {k : Nat} (h : PlayOk n D k) (b : Int) : D.why n b = if 0 ≤ b ∧ b < n then 0 else 2 := by
  unfold Dk.why
  rw [h.left, if_neg (by omega)]
  split <;> split <;> omega
theorem PlayOk.step {n : Nat} {D : Dk} {k : Nat} (h : PlayOk n D k) (hk : k ≤ 300) (p : Int × Int) : PlayOk n (wr1 n D p) (k + 1) := by
  unfold wr1
  split
  · rename_i hp
    have ha : D.acts = D.wait.length := h.acts
    have hf := h.few
    have hl : D.act.left = -1 := by unfold Dk.act; rw [if_neg (by rw [h.left]; omega)]; exact h.left
    refine ⟨⟨h.ok.safeB, h.ok.nowB.set (fillB_len _) _, fun q hq => ?_, ?_, h.ok.safe, ?_, h.ok.n0, h.ok.n1, ?_, ?_, ?_, ?_⟩, hl, ?_, ?_, h.safe, ?_⟩
    · rcases List.mem_append.1 hq with hq | hq
      · exact h.ok.waitB q hq
      · simp at hq; subst hq; exact ⟨hp.1, hp.2, fillB_len _⟩
    · show (D.wait ++ _).length ≤ _; simp; omega
    · show (D.now.set _ _).length = n; rw [List.length_set]; exact h.ok.now
    · show 0 ≤ D.acts + 1; omega
    · show D.acts + 1 ≤ 1000000; omega
    · show -1 ≤ D.act.left; rw [hl]; omega
    · show D.act.left ≤ _; rw [hl]; omega
    · show D.acts + 1 = ((D.wait ++ _).length : Nat); simp; omega
    · show (D.wait ++ _).length ≤ _; simp; omega
    · show D.now.set p.1.toNat _ = applyW (D.wait ++ [(p.1, fillB p.2)]) D.safe; rw [applyW_snoc, ← h.now]
  · exact ⟨h.ok, h.left, h.acts, Nat.le_succ_of_le h.few, h.safe, h.now⟩
theorem playOk_all {n : Nat} (h0 : 1 ≤ n) (h1 : n ≤ 2048) (l : List (Int × Int)) : ∀ k, k ≤ l.length → k ≤ 300 → PlayOk n (playW n (l.take k)) k := by
  intro k
  induction k with
  | zero => intro _ _; rw [List.take_zero]; exact playOk_start h0 h1
  | succ k ih =>
    intro hk h3
    rw [List.take_add_one, List.getElem?_eq_getElem (by omega), Option.toList_some, playW_snoc]
    exact (ih (by omega) (by omega)).step (by omega) _

section
variable {S : Nat → Prop} {w0 w : World} {L : List Ass}
/-- How many blocks. -/
def many64 (n : Int) : Nat := (1 + n % 64).toNat
theorem many64_bd (n : Int) : 1 ≤ many64 n ∧ many64 n ≤ 64 := by unfold many64; omega

set_option maxRecDepth 100000 in
set_option maxHeartbeats 8000000 in
theorem written_any (HS : St S w0 w L) (n : Int) (_n0 : -9223372036854775808 ≤ n) (_n1 : n ≤ 9223372036854775807) (l : List (Int × Int)) (hlen : l.length ≤ 300) (hb : ∀ p ∈ l, -9223372036854775808 ≤ p.1 ∧ p.1 ≤ 9223372036854775807 ∧ 0 ≤ p.2 ∧ p.2 < 4294967296)
    {ad : Option Addr} {cap : Nat} (hl : l = [] ∨ ∃ A o, ad = some ⟨A, o, none⟩ ∧ Ass.ro A o (encPs l) ∈ L) :
    Calls Try.prog 10 #[.int .i64 n, .slice ad l.length cap] w fun e w' => ∃ B g1 c1 g2 c2 vw Bm, e = .returned (.tuple #[.pointer (some ⟨B, 0, none⟩), .slice (some ⟨Bm, 0, none⟩) (many64 n) (many64 n), .int .i64 (playW (many64 n) l).acts, .bool true]) ∧
      St S w0 w' (diskA (playW (many64 n) l) (many64 n) B g1 c1 g2 c2 vw ++ .own (.slice (some ⟨Bm, 0, none⟩) (many64 n) (many64 n)) 32 256 (many64 n) (encBs (playW (many64 n) l).now) :: L) := by
  have HLL := Lib.hid hl
  have HBB := Lib.hid hb
  clear hl hb
  obtain ⟨u, hu, u0, hN⟩ : ∃ u, IntKind.u64.wrap n = u ∧ 0 ≤ u ∧ 1 + u % 64 = ((many64 n : Nat) : Int) := by
    refine ⟨_, rfl, ?_, ?_⟩
    · rw [IntKind.wrap_u64]; omega
    · rw [IntKind.wrap_u64]; unfold many64; omega
  have HN := Lib.hid hN
  clear hN
  have hwr : ∀ k, k ≤ l.length → PlayOk (many64 n) (playW (many64 n) (l.take k)) k := fun k hk => playOk_all (many64_bd n).1 (by have := (many64_bd n).2; omega) l k hk (by omega)
  have HWR := Lib.hid hwr
  clear hwr
  obtain ⟨N0, N1⟩ := many64_bd n
  obtain ⟨N, hNn⟩ : ∃ N, many64 n = N := ⟨_, rfl⟩
  rw [hNn] at HN HWR N0 N1 ⊢
  clear hNn
  go_enter Try.func10, Try.ntmps10
  go_wp2_with (fail)
  rw [HN.out]
  clear HN hu u0
  refine (dk_new HS (n := N) N0 (by omega)).mono ?_
  rintro e w' ⟨B, g1, c1, g2, c2, rfl, H1'⟩
  clear HS; have HS := H1'; clear H1'
  go_wp2_with (first | ((with_reducible apply sMake HS Try.underlying24 infoB); rfl; rfl; rfl; omega; omega; intro Bm w' H1'; clear HS; have HS := H1'; clear H1'))
  have HS1 := HS.blkOwn (n := N) (sz := 256) (by rw [size_madeCells]) (by unfold maxLen; omega) .here
  rw [cells_agg, made_blocks] at HS1
  replace HS := HS1.back1 (D := diskA _ N B g1 c1 g2 c2 _)
  clear HS1
  go_loopw [11, 12] (fun d i wr => ∃ (k : Nat) (vw : Value), k ≤ l.length ∧ i = .int .i64 k ∧ d = .int .i64 (playW N (l.take k)).acts ∧ St S w0 wr (diskA (playW N (l.take k)) N B g1 c1 g2 c2 vw ++ .own (.slice (some ⟨Bm, 0, none⟩) N N) 32 256 N (encBs (playW N (l.take k)).now) :: L)) (fun _ i _ => l.length - (intOf i).toNat)
  case atStart => exact ⟨0, .slice none 0 0, by omega, rfl, rfl, HS⟩
  case round =>
    obtain ⟨k, vw, hk, rfl, rfl, HS⟩ := hrel
    by_cases hlt : k < l.length
    · obtain ⟨p, hp⟩ : ∃ p, l[k]? = some p := ⟨_, List.getElem?_eq_getElem hlt⟩
      obtain ⟨p0, p1, p2, p3⟩ := HBB.out p (List.mem_of_getElem? hp)
      obtain ⟨A, o, rfl, hmem⟩ := HLL.out.resolve_left (fun e => by rw [e] at hlt; simp at hlt)
      have HM := Lib.hid hmem
      have HP0 := Lib.hid (encPs_0 hp)
      have HP1 := Lib.hid (encPs_1 hp)
      have hpl := HWR.out k hk
      have HPL := Lib.hid hpl
      have HST : Hid (playW N (l.take (k + 1)) = wr1 N (playW N (l.take k)) p) := by
        show _ = _
        rw [List.take_add_one, hp, Option.toList_some, playW_snoc]
      obtain ⟨b, f⟩ := p
      have HWY := Lib.hid (hpl.why b)
      have ha0 := hpl.ok.acts0
      have ha1 := hpl.ok.acts1
      obtain ⟨D, hD⟩ : ∃ D, playW N (l.take k) = D := ⟨_, rfl⟩
      rw [hD] at HPL HST HWY HS ha0 ha1 ⊢
      clear hD hmem hp hpl
      simp only [] at p0 p1 p2 p3 HP0 HP1
      have z0 : (0 : Int) ≤ (k : Int) := by omega
      have z1 : (k : Int) < (l.length : Int) := by omega
      rcases Bool.eq_false_or_eq_true (decide (0 ≤ b)) with hb0 | hb0
      rotate_left
      · have HWY2 : Hid (D.why N b = 2) := by show _ = _; rw [HWY.out, if_neg (by simp at hb0 ⊢; omega)]
        have HW : Hid (wr1 N D (b, f) = D) := by show _ = _; rw [wr1, if_neg (by simp at hb0 ⊢; omega)]
        have HIF : Hid ((if D.why N b = 0 then D.write b (fillB f) else D) = wr1 N D (b, f)) := by show _ = _; rw [HWY2.out, HW.out]; rfl
        clear HWY
        go_wp2
        (try simp only [Act.put])
        refine wp_region_sch (.q 0 (.q 1 (.q 2 (.q 3 (.q 4 (.q 5 (.q 6 (.q 7 (.q 8 (.q 9 (.q 10 (.e 11 (.e 12 (.e 13 (.nil))))))))))))))) (Hd [.ro A o (encPs l)]) (by kernel_rfl) (by kernel_rfl) (fun _ _ d _ _ h => by cases d <;> exact h) ?_
        intro w1 hm1
        replace HS := HS.fresh hm1
        clear hm1
        refine ⟨HS.hd (by (refine subCons ?_ subNil; simp only [diskA, List.cons_append, List.nil_append]; exact .tail _ (.tail _ (.tail _ (.tail _ (.tail _ HM.out)))))), ?_⟩
        repeat (first | ((with_reducible apply cLoadRo1 (j := k * 2)); (simp only [List.getElem?_toArray, List.getElem?_cons_zero, List.getElem?_cons_succ]; rfl); infer_instance; rfl; rfl; (repeat (first | exact List.Mem.head _ | apply List.Mem.tail)); rfl; exact HP0.out; (try simp only [Act.put, List.setIfInBounds_toArray, List.set_cons_zero, List.set_cons_succ])) | ((with_reducible apply cLoadRo1 (j := k * 2 + 1)); (simp only [List.getElem?_toArray, List.getElem?_cons_zero, List.getElem?_cons_succ]; rfl); infer_instance; rfl; rfl; (repeat (first | exact List.Mem.head _ | apply List.Mem.tail)); rfl; exact HP1.out; (try simp only [Act.put, List.setIfInBounds_toArray, List.set_cons_zero, List.set_cons_succ])) | ((with_reducible apply wpSch_nilCheck); (simp only [List.getElem?_toArray, List.getElem?_cons_zero, List.getElem?_cons_succ]; rfl); rfl; rfl; (try simp only [Act.put, List.setIfInBounds_toArray, List.set_cons_zero, List.set_cons_succ])) | ((with_reducible apply wpSch_plain); (simp only [List.getElem?_toArray, List.getElem?_cons_zero, List.getElem?_cons_succ]; rfl); rfl; rfl; (intro K hK; go_big_quiet_op; go_big_quiet_on)) | ((with_reducible apply wpSch_skip); (simp only [List.getElem?_toArray, List.getElem?_cons_zero, List.getElem?_cons_succ]; rfl); rfl; (try simp only [Act.put, List.setIfInBounds_toArray, List.set_cons_zero, List.set_cons_succ])))
        with_reducible apply wpSch_e_k
        (simp only [List.getElem?_toArray, List.getElem?_cons_zero, List.getElem?_cons_succ]; rfl)
        intro K HK
        go_wp2_with (first | (go_at_call 14; refine (fill_any _ _ (by omega) (by omega)).mono ?_; rintro e w' ⟨rfl, H1'⟩; replace HS := HS.fresh H1'; clear H1'))
        refine HK.out _ _ ⟨.inr (HS.hd (by (refine subCons ?_ subNil; simp only [diskA, List.cons_append, List.nil_append]; exact .tail _ (.tail _ (.tail _ (.tail _ (.tail _ HM.out))))))), ?_⟩
        clear HK K
        with_reducible apply wpSch_e_k
        (simp only [List.getElem?_toArray, List.getElem?_cons_zero, List.getElem?_cons_succ]; rfl)
        intro K HK
        go_wp2_with (first | (go_at_call 24; refine (dk_write (D := D) (n := N) HS HPL.out.ok b (fillB f) (fillB_len f)).mono ?_; rintro e w' ⟨vw', rfl, H1'⟩; clear HS; have HS := H1'; clear H1'; rw [HWY2.out]))
        refine HK.out _ _ ⟨.inr (HS.hd (by (refine subCons ?_ subNil; simp only [diskA, List.cons_append, List.nil_append]; exact .tail _ (.tail _ (.tail _ (.tail _ (.tail _ HM.out))))))), ?_⟩
        clear HK K
        with_reducible apply wpSch_e_k
        (simp only [List.getElem?_toArray, List.getElem?_cons_zero, List.getElem?_cons_succ]; rfl)
        intro K HK
        go_wp2_with (fail)
        refine HK.out _ _ ⟨.inl rfl, ?_⟩
        clear HK K
        refine wpSch_nil ?_
        rw [HIF.out] at HS
        go_wp2_with (first | ((with_reducible apply sLoadRo1 (j := k * 2) HS); infer_instance; rfl; rfl; (simp only [diskA, List.cons_append, List.nil_append]; exact .tail _ (.tail _ (.tail _ (.tail _ (.tail _ HM.out))))); rfl; exact HP0.out) | ((with_reducible apply sLoadRo1 (j := k * 2 + 1) HS); infer_instance; rfl; rfl; (simp only [diskA, List.cons_append, List.nil_append]; exact .tail _ (.tail _ (.tail _ (.tail _ (.tail _ HM.out))))); rfl; exact HP1.out))
        go_roundw
        case rel => exact ⟨k + 1, vw', by omega, by go_num, by rw [HST.out, HW.out], by rw [HST.out, HW.out]; rw [HW.out] at HS; exact HS⟩
        case measure => simp [intOf]; omega
      rcases Bool.eq_false_or_eq_true (decide (b < (N : Int))) with hb1 | hb1
      rotate_left
      · have HWY2 : Hid (D.why N b = 2) := by show _ = _; rw [HWY.out, if_neg (by simp at hb0 hb1; omega)]
        have HW : Hid (wr1 N D (b, f) = D) := by show _ = _; rw [wr1, if_neg (by simp at hb0 hb1; omega)]
        have HIF : Hid ((if D.why N b = 0 then D.write b (fillB f) else D) = wr1 N D (b, f)) := by show _ = _; rw [HWY2.out, HW.out]; rfl
        clear HWY
        go_wp2
        (try simp only [Act.put])
        refine wp_region_sch (.q 0 (.q 1 (.q 2 (.q 3 (.q 4 (.q 5 (.q 6 (.q 7 (.q 8 (.q 9 (.q 10 (.e 11 (.e 12 (.e 13 (.nil))))))))))))))) (Hd [.ro A o (encPs l)]) (by kernel_rfl) (by kernel_rfl) (fun _ _ d _ _ h => by cases d <;> exact h) ?_
        intro w1 hm1
        replace HS := HS.fresh hm1
        clear hm1
        refine ⟨HS.hd (by (refine subCons ?_ subNil; simp only [diskA, List.cons_append, List.nil_append]; exact .tail _ (.tail _ (.tail _ (.tail _ (.tail _ HM.out)))))), ?_⟩
        repeat (first | ((with_reducible apply cLoadRo1 (j := k * 2)); (simp only [List.getElem?_toArray, List.getElem?_cons_zero, List.getElem?_cons_succ]; rfl); infer_instance; rfl; rfl; (repeat (first | exact List.Mem.head _ | apply List.Mem.tail)); rfl; exact HP0.out; (try simp only [Act.put, List.setIfInBounds_toArray, List.set_cons_zero, List.set_cons_succ])) | ((with_reducible apply cLoadRo1 (j := k * 2 + 1)); (simp only [List.getElem?_toArray, List.getElem?_cons_zero, List.getElem?_cons_succ]; rfl); infer_instance; rfl; rfl; (repeat (first | exact List.Mem.head _ | apply List.Mem.tail)); rfl; exact HP1.out; (try simp only [Act.put, List.setIfInBounds_toArray, List.set_cons_zero, List.set_cons_succ])) | ((with_reducible apply wpSch_nilCheck); (simp only [List.getElem?_toArray, List.getElem?_cons_zero, List.getElem?_cons_succ]; rfl); rfl; rfl; (try simp only [Act.put, List.setIfInBounds_toArray, List.set_cons_zero, List.set_cons_succ])) | ((with_reducible apply wpSch_plain); (simp only [List.getElem?_toArray, List.getElem?_cons_zero, List.getElem?_cons_succ]; rfl); rfl; rfl; (intro K hK; go_big_quiet_op; go_big_quiet_on)) | ((with_reducible apply wpSch_skip); (simp only [List.getElem?_toArray, List.getElem?_cons_zero, List.getElem?_cons_succ]; rfl); rfl; (try simp only [Act.put, List.setIfInBounds_toArray, List.set_cons_zero, List.set_cons_succ])))
        with_reducible apply wpSch_e_k
        (simp only [List.getElem?_toArray, List.getElem?_cons_zero, List.getElem?_cons_succ]; rfl)
        intro K HK
        go_wp2_with (first | (go_at_call 14; refine (fill_any _ _ (by omega) (by omega)).mono ?_; rintro e w' ⟨rfl, H1'⟩; replace HS := HS.fresh H1'; clear H1'))
        refine HK.out _ _ ⟨.inr (HS.hd (by (refine subCons ?_ subNil; simp only [diskA, List.cons_append, List.nil_append]; exact .tail _ (.tail _ (.tail _ (.tail _ (.tail _ HM.out))))))), ?_⟩
        clear HK K
        with_reducible apply wpSch_e_k
        (simp only [List.getElem?_toArray, List.getElem?_cons_zero, List.getElem?_cons_succ]; rfl)
        intro K HK
        go_wp2_with (first | (go_at_call 24; refine (dk_write (D := D) (n := N) HS HPL.out.ok b (fillB f) (fillB_len f)).mono ?_; rintro e w' ⟨vw', rfl, H1'⟩; clear HS; have HS := H1'; clear H1'; rw [HWY2.out]))
        refine HK.out _ _ ⟨.inr (HS.hd (by (refine subCons ?_ subNil; simp only [diskA, List.cons_append, List.nil_append]; exact .tail _ (.tail _ (.tail _ (.tail _ (.tail _ HM.out))))))), ?_⟩
        clear HK K
        with_reducible apply wpSch_e_k
        (simp only [List.getElem?_toArray, List.getElem?_cons_zero, List.getElem?_cons_succ]; rfl)
        intro K HK
        go_wp2_with (fail)
        refine HK.out _ _ ⟨.inl rfl, ?_⟩
        clear HK K
        refine wpSch_nil ?_
        rw [HIF.out] at HS
        go_wp2_with (first | ((with_reducible apply sLoadRo1 (j := k * 2) HS); infer_instance; rfl; rfl; (simp only [diskA, List.cons_append, List.nil_append]; exact .tail _ (.tail _ (.tail _ (.tail _ (.tail _ HM.out))))); rfl; exact HP0.out) | ((with_reducible apply sLoadRo1 (j := k * 2 + 1) HS); infer_instance; rfl; rfl; (simp only [diskA, List.cons_append, List.nil_append]; exact .tail _ (.tail _ (.tail _ (.tail _ (.tail _ HM.out))))); rfl; exact HP1.out))
        go_roundw
        case rel => exact ⟨k + 1, vw', by omega, by go_num, by rw [HST.out, HW.out], by rw [HST.out, HW.out]; rw [HW.out] at HS; exact HS⟩
        case measure => simp [intOf]; omega
      obtain ⟨b, rfl⟩ : ∃ b' : Nat, b = b' := ⟨b.toNat, by simp at hb0; omega⟩
      have z2 : (0 : Int) ≤ (b : Int) := by omega
      have z3 : (b : Int) < (N : Int) := by simpa using hb1
      have HWY2 : Hid (D.why N b = 0) := by show _ = _; rw [HWY.out, if_pos ⟨z2, z3⟩]
      have HW : Hid (wr1 N D ((b : Int), f) = D.write b (fillB f)) := by show _ = _; rw [wr1, if_pos ⟨z2, z3⟩]
      have HIF : Hid ((if D.why N b = 0 then D.write b (fillB f) else D) = wr1 N D ((b : Int), f)) := by show _ = _; rw [HWY2.out, HW.out]; rfl
      have HNL := Lib.hid HPL.out.ok.now
      have HNB := Lib.hid HPL.out.ok.nowB
      have HNE := Lib.hid (encBs_len HNB.out)
      have HSE : Hid (spl (encBs D.now) (b * 256) ((fillB f).map bv) = encBs (D.now.set b (fillB f))) := encBs_set HNB.out (fillB_len f) (by have := HNL.out; omega)
      clear HWY
      go_wp2
      (try simp only [Act.put])
      refine wp_region_sch (.q 0 (.q 1 (.q 2 (.q 3 (.q 4 (.q 5 (.q 6 (.q 7 (.q 8 (.q 9 (.q 10 (.e 11 (.e 12 (.e 13 (.nil))))))))))))))) (Hd [.ro A o (encPs l)]) (by kernel_rfl) (by kernel_rfl) (fun _ _ d _ _ h => by cases d <;> exact h) ?_
      intro w1 hm1
      replace HS := HS.fresh hm1
      clear hm1
      refine ⟨HS.hd (by (refine subCons ?_ subNil; simp only [diskA, List.cons_append, List.nil_append]; exact .tail _ (.tail _ (.tail _ (.tail _ (.tail _ HM.out)))))), ?_⟩
      repeat (first | ((with_reducible apply cLoadRo1 (j := k * 2)); (simp only [List.getElem?_toArray, List.getElem?_cons_zero, List.getElem?_cons_succ]; rfl); infer_instance; rfl; rfl; (repeat (first | exact List.Mem.head _ | apply List.Mem.tail)); rfl; exact HP0.out; (try simp only [Act.put, List.setIfInBounds_toArray, List.set_cons_zero, List.set_cons_succ])) | ((with_reducible apply cLoadRo1 (j := k * 2 + 1)); (simp only [List.getElem?_toArray, List.getElem?_cons_zero, List.getElem?_cons_succ]; rfl); infer_instance; rfl; rfl; (repeat (first | exact List.Mem.head _ | apply List.Mem.tail)); rfl; exact HP1.out; (try simp only [Act.put, List.setIfInBounds_toArray, List.set_cons_zero, List.set_cons_succ])) | ((with_reducible apply wpSch_nilCheck); (simp only [List.getElem?_toArray, List.getElem?_cons_zero, List.getElem?_cons_succ]; rfl); rfl; rfl; (try simp only [Act.put, List.setIfInBounds_toArray, List.set_cons_zero, List.set_cons_succ])) | ((with_reducible apply wpSch_plain); (simp only [List.getElem?_toArray, List.getElem?_cons_zero, List.getElem?_cons_succ]; rfl); rfl; rfl; (intro K hK; go_big_quiet_op; go_big_quiet_on)) | ((with_reducible apply wpSch_skip); (simp only [List.getElem?_toArray, List.getElem?_cons_zero, List.getElem?_cons_succ]; rfl); rfl; (try simp only [Act.put, List.setIfInBounds_toArray, List.set_cons_zero, List.set_cons_succ])))
      with_reducible apply wpSch_e_k
      (simp only [List.getElem?_toArray, List.getElem?_cons_zero, List.getElem?_cons_succ]; rfl)
      intro K HK
      go_wp2_with (first | (go_at_call 14; refine (fill_any _ _ (by omega) (by omega)).mono ?_; rintro e w' ⟨rfl, H1'⟩; replace HS := HS.fresh H1'; clear H1'))
      refine HK.out _ _ ⟨.inr (HS.hd (by (refine subCons ?_ subNil; simp only [diskA, List.cons_append, List.nil_append]; exact .tail _ (.tail _ (.tail _ (.tail _ (.tail _ HM.out))))))), ?_⟩
      clear HK K
      with_reducible apply wpSch_e_k
      (simp only [List.getElem?_toArray, List.getElem?_cons_zero, List.getElem?_cons_succ]; rfl)
      intro K HK
      go_wp2_with (first | (go_at_call 24; refine (dk_write (D := D) (n := N) HS HPL.out.ok b (fillB f) (fillB_len f)).mono ?_; rintro e w' ⟨vw', rfl, H1'⟩; clear HS; have HS := H1'; clear H1'; rw [HWY2.out]))
      refine HK.out _ _ ⟨.inr (HS.hd (by (refine subCons ?_ subNil; simp only [diskA, List.cons_append, List.nil_append]; exact .tail _ (.tail _ (.tail _ (.tail _ (.tail _ HM.out))))))), ?_⟩
      clear HK K
      with_reducible apply wpSch_e_k
      (simp only [List.getElem?_toArray, List.getElem?_cons_zero, List.getElem?_cons_succ]; rfl)
      intro K HK
      go_wp2_with (fail)
      refine HK.out _ _ ⟨.inl rfl, ?_⟩
      clear HK K
      refine wpSch_nil ?_
      rw [HIF.out] at HS
      go_wp2_with (first | ((with_reducible apply sLoadRo1 (j := k * 2) HS); infer_instance; rfl; rfl; (simp only [diskA, List.cons_append, List.nil_append]; exact .tail _ (.tail _ (.tail _ (.tail _ (.tail _ HM.out))))); rfl; exact HP0.out) | ((with_reducible apply sLoadRo1 (j := k * 2 + 1) HS); infer_instance; rfl; rfl; (simp only [diskA, List.cons_append, List.nil_append]; exact .tail _ (.tail _ (.tail _ (.tail _ (.tail _ HM.out))))); rfl; exact HP1.out))
      (try simp only [Act.put])
      refine wp_region_sch (.q 0 (.q 1 (.q 2 (.q 3 (.q 4 (.q 5 (.q 6 (.q 7 (.q 8 (.q 9 (.q 10 (.e 11 (.q 12 (.e 13 (.nil))))))))))))))) (Hd [.ro A o (encPs l)]) (by kernel_rfl) (by kernel_rfl) (fun _ _ d _ _ h => by cases d <;> exact h) ?_
      intro w1 hm1
      replace HS := HS.fresh hm1
      clear hm1
      refine ⟨HS.hd (by (refine subCons ?_ subNil; simp only [diskA, List.cons_append, List.nil_append]; exact .tail _ (.tail _ (.tail _ (.tail _ (.tail _ HM.out)))))), ?_⟩
      repeat (first | ((with_reducible apply cLoadRo1 (j := k * 2)); (simp only [List.getElem?_toArray, List.getElem?_cons_zero, List.getElem?_cons_succ]; rfl); infer_instance; rfl; rfl; (repeat (first | exact List.Mem.head _ | apply List.Mem.tail)); rfl; exact HP0.out; (try simp only [Act.put, List.setIfInBounds_toArray, List.set_cons_zero, List.set_cons_succ])) | ((with_reducible apply cLoadRo1 (j := k * 2 + 1)); (simp only [List.getElem?_toArray, List.getElem?_cons_zero, List.getElem?_cons_succ]; rfl); infer_instance; rfl; rfl; (repeat (first | exact List.Mem.head _ | apply List.Mem.tail)); rfl; exact HP1.out; (try simp only [Act.put, List.setIfInBounds_toArray, List.set_cons_zero, List.set_cons_succ])) | ((with_reducible apply wpSch_nilCheck); (simp only [List.getElem?_toArray, List.getElem?_cons_zero, List.getElem?_cons_succ]; rfl); rfl; rfl; (try simp only [Act.put, List.setIfInBounds_toArray, List.set_cons_zero, List.set_cons_succ])) | ((with_reducible apply wpSch_plain); (simp only [List.getElem?_toArray, List.getElem?_cons_zero, List.getElem?_cons_succ]; rfl); rfl; rfl; (intro K hK; go_big_quiet_op; go_big_quiet_on)) | ((with_reducible apply wpSch_skip); (simp only [List.getElem?_toArray, List.getElem?_cons_zero, List.getElem?_cons_succ]; rfl); rfl; (try simp only [Act.put, List.setIfInBounds_toArray, List.set_cons_zero, List.set_cons_succ])))
      with_reducible apply wpSch_e_k
      (simp only [List.getElem?_toArray, List.getElem?_cons_zero, List.getElem?_cons_succ]; rfl)
      intro K HK
      go_wp2_with (first | (go_at_call 14; refine (fill_any _ _ (by omega) (by omega)).mono ?_; rintro e w' ⟨rfl, H1'⟩; replace HS := HS.fresh H1'; clear H1'))
      refine HK.out _ _ ⟨.inr (HS.hd (by (refine subCons ?_ subNil; simp only [diskA, List.cons_append, List.nil_append]; exact .tail _ (.tail _ (.tail _ (.tail _ (.tail _ HM.out))))))), ?_⟩
      clear HK K
      repeat (first | ((with_reducible apply cLoadRo1 (j := k * 2)); (simp only [List.getElem?_toArray, List.getElem?_cons_zero, List.getElem?_cons_succ]; rfl); infer_instance; rfl; rfl; (repeat (first | exact List.Mem.head _ | apply List.Mem.tail)); rfl; exact HP0.out; (try simp only [Act.put, List.setIfInBounds_toArray, List.set_cons_zero, List.set_cons_succ])) | ((with_reducible apply cLoadRo1 (j := k * 2 + 1)); (simp only [List.getElem?_toArray, List.getElem?_cons_zero, List.getElem?_cons_succ]; rfl); infer_instance; rfl; rfl; (repeat (first | exact List.Mem.head _ | apply List.Mem.tail)); rfl; exact HP1.out; (try simp only [Act.put, List.setIfInBounds_toArray, List.set_cons_zero, List.set_cons_succ])) | ((with_reducible apply wpSch_nilCheck); (simp only [List.getElem?_toArray, List.getElem?_cons_zero, List.getElem?_cons_succ]; rfl); rfl; rfl; (try simp only [Act.put, List.setIfInBounds_toArray, List.set_cons_zero, List.set_cons_succ])) | ((with_reducible apply wpSch_plain); (simp only [List.getElem?_toArray, List.getElem?_cons_zero, List.getElem?_cons_succ]; rfl); rfl; rfl; (intro K hK; go_big_quiet_op; go_big_quiet_on)) | ((with_reducible apply wpSch_skip); (simp only [List.getElem?_toArray, List.getElem?_cons_zero, List.getElem?_cons_succ]; rfl); rfl; (try simp only [Act.put, List.setIfInBounds_toArray, List.set_cons_zero, List.set_cons_succ])))
      with_reducible apply wpSch_e_k
      (simp only [List.getElem?_toArray, List.getElem?_cons_zero, List.getElem?_cons_succ]; rfl)
      intro K HK
      simp only [diskA, List.cons_append, List.nil_append] at HS
      ((with_reducible apply sStoreO HS); infer_instance; rfl; rfl; (conv => (lhs; whnf)); (repeat (first | exact Rep.here | apply Rep.there)); (simp [encB_size, fillB_len]); (show _ + _ ≤ (encBs D.now).length; rw [HNE.out, HNL.out, encB_size, fillB_len]; omega); exact encB_one _; intro w' H1; clear HS; have HS := H1; clear H1)
      (try simp only [Act.put])
      refine wpList_nil (then_normal (HK.out _ _ ⟨.inl rfl, ?_⟩))
      clear HK K
      refine wpSch_nil ?_
      go_wp2
      go_roundw
      case rel =>
        simp only [encB_toList, HSE.out] at HS
        refine ⟨k + 1, vw', by omega, by go_num, ?_, ?_⟩
        · rw [HST.out, HW.out]; rfl
        · rw [HST.out, HW.out]
          rw [HW.out] at HS
          exact HS
      case measure => simp [intOf]; omega
    · obtain rfl : k = l.length := by omega
      rw [List.take_length] at HS ⊢
      go_wp2
      (try simp only [Exit.inBlock, Exit.then])
      refine bodyPost_ret (res4 rfl (resTmp _ _ _) (resTmp _ _ _) (resTmp _ _ _) (resTmp _ _ _)) rfl ?_
      exact ⟨_, _, _, _, _, _, _, rfl, HS⟩
end
end Go.Proofs.Ytfdomknagcdpeaa
