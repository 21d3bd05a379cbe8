/- Are all bytes 0? The program's way: by fours, then the rest. -/
import Derived.Test.YtdpbdmbgdcdmaaaRef01
import Derived.Test.YtdpbdmbgdcdmaaaRange
namespace Go.Proofs.Ytdpbdmbgdcdmaaa
open Go.RowKit Go.Shelf
attribute [local go_sem] Oper.semAt_some

theorem allZ_cons (bs : List UInt8) (o m n : Nat) : allZ bs o (m + n) = (allZ bs o m && allZ bs (o + m) n) := by
  rw [Bool.eq_iff_iff, Bool.and_eq_true, allZ_iff, allZ_iff, allZ_iff]
  refine ⟨fun h => ⟨fun k hk => h k (by omega), fun k hk => by rw [Nat.add_assoc]; exact h _ (by omega)⟩, fun ⟨h1, h2⟩ k hk => ?_⟩
  by_cases hkm : k < m
  · exact h1 k hkm
  · have := h2 (k - m) (by omega)
    rwa [show o + m + (k - m) = o + k by omega] at this
theorem allZ_four (bs : List UInt8) (p : Nat) : allZ bs p 4 = (get32 bs p == 0) := by
  obtain ⟨a0, a1⟩ := gB_bd bs p
  obtain ⟨b0, b1⟩ := gB_bd bs (p + 1)
  obtain ⟨c0, c1⟩ := gB_bd bs (p + 2)
  obtain ⟨d0, d1⟩ := gB_bd bs (p + 3)
  rw [Bool.eq_iff_iff, allZ_iff, beq_iff_eq]
  unfold get32
  refine ⟨fun h => ?_, fun h k hk => ?_⟩
  · have h0 := h 0 (by omega); have h1 := h 1 (by omega); have h2 := h 2 (by omega); have h3 := h 3 (by omega)
    rw [Nat.add_zero] at h0
    omega
  · rcases (by omega : k = 0 ∨ k = 1 ∨ k = 2 ∨ k = 3) with rfl | rfl | rfl | rfl
    · rw [Nat.add_zero]; omega
    · omega
    · omega
    · omega

theorem nget_int (B o len cap p : Nat) (q : Int) (hq : q = (p : Int)) (bs : List UInt8) (E : TypeId) (w : World) (hB : w.heap[B]? = some (.cells (encB bs) E (0, 0))) (ho : o + len ≤ bs.length) (h1 : p + 4 ≤ len) (hl : len ≤ 9223372036854775807) :
    Calls Try.prog 34 #[.slice (some ⟨B, o, none⟩) len cap, .int .i64 q] w fun e w' => e = .returned (.tuple #[.int .u32 (get32 bs (o + p)), .bool true]) ∧ w = w' := by
  subst hq; exact nget_yes B o len cap p bs E w hB ho h1 hl
theorem wp_gen {P : Program} {c : Code} {Q : Exit → Act → World → Prop} {a : Act} {w : World} (Fx : World → Prop) (hf : Fx w) (h : ∀ W, Fx W → c.wp P Q a W) : c.wp P Q a w := h _ hf
abbrev tellV (bs : List UInt8) (o i : Nat) : Array Value := #[.int .i64 (4 * (i : Int)), .int .u32 (get32 bs (o + 4 * i))]
theorem tell_iter (B1 B o len cap : Nat) (bs : List UInt8) (E : TypeId) (ho : o + len ≤ bs.length) (hl : len ≤ 4000000000) :
    Iter Try.prog 45 #[.pointer (some ⟨B1, 0, none⟩)] (tellV bs o) (len / 4) (fun X Y => SameC B1 X Y ∧ SameC B X Y) (fun X Y => X = Y)
      (fun W => W.heap[B1]? = some (.cells #[.slice (some ⟨B, o, none⟩) len cap] 58 (0, 0)) ∧ W.heap[B]? = some (.cells (encB bs) E (0, 0))) := by
  obtain ⟨q, hq⟩ : ∃ q, len / 4 = q := ⟨_, rfl⟩
  rw [hq]
  have hq0 : 4 * q ≤ len := by omega
  have hq1 : len < 4 * q + 4 := by omega
  clear hq
  intro l Jv Jx W m hW _ _ hY h0
  refine callsIn_of_wp Try.func45 rfl trivial ?_ rfl
  simp only [Try.ntmps45, List.size_toArray, List.length_cons, List.length_nil, Nat.reduceAdd, Nat.reduceSub, Array.replicate_succ, Array.replicate_zero, List.push_toArray, List.append_toArray, List.nil_append, List.cons_append]
  gi_wp2
  gi_loopw [3] (fun at_ wr => ∃ i : Nat, i ≤ q ∧ at_ = .int .i64 (4 * (i : Int)) ∧ Jv i wr ∧ wr.heap[B1]? = some (.cells #[.slice (some ⟨B, o, none⟩) len cap] 58 (0, 0)) ∧ wr.heap[B]? = some (.cells (encB bs) E (0, 0))) (fun at_ _ => len - (intOf at_).toNat)
  case atStart => exact ⟨0, by omega, rfl, h0, hW.1, hW.2⟩
  case round =>
    obtain ⟨i, hi, rfl, hJ, hg1, hg2⟩ := hrel
    have c1 := (cell_of_row wr B1 0 _ _ _ hg1).trans (show _ = some (.slice (some ⟨B, o, none⟩) len cap) from rfl)
    have HG1 := Lib.hid hg1
    have HG2 := Lib.hid hg2
    have HW := Lib.hid hW
    clear hg1 hg2 hW
    by_cases hlt : i < q
    · have hlt4 : 4 * i + 4 ≤ len := by omega
      have hltI : (4 * (i : Int)) + 4 ≤ (len : Int) := by omega
      obtain ⟨fn, tmps, assign, body, hy, hR⟩ := hY i wr (m - 1) (by omega) hJ
      simp only [tellV] at hy
      gi_wp2_with (fail)
      refine ⟨trivial, fun hw => by simp [Fence.wide] at hw, ?_⟩
      refine (callsIn_wide.2 (nget_int B o len cap (4 * i) _ (by push_cast; rfl) bs E _ HG2.out ho hlt4 (by omega))).mono ?_
      rintro e w' ⟨rfl, rfl⟩
      gi_wp2_with (fail)
      refine ⟨fun hw => by simp [Fence.wide] at hw, hR.mono ?_⟩
      rintro e W3 (⟨rfl, hJ3, hk3, hk4⟩ | ⟨rfl, hJx3⟩)
      · have HG13 := Lib.hid (hk3 _ _ _ HG1.out)
        have HG23 := Lib.hid (hk4 _ _ _ HG2.out)
        clear hk3 hk4
        gi_wp2
        go_roundw
        case rel => exact ⟨i + 1, by omega, by go_num, hJ3, HG13.out, HG23.out⟩
        case measure => simp [intOf]; omega
      · gi_wp2
        refine bodyPost_ret (results_none rfl _ _ _) rfl ?_
        exact ⟨⟨_, rfl⟩, .inr ⟨i + 1, by omega, hJx3⟩⟩
    · obtain rfl : q = i := by omega
      have hltI : (len : Int) < 4 * (q : Int) + 4 := by omega
      have hltD : decide (4 * (q : Int) + 4 ≤ (len : Int)) = false := decide_eq_false (by omega)
      gi_wp2
      go_end0
      exact ⟨⟨_, rfl⟩, .inl hJ⟩

theorem tell_any (ad : Option Addr) (len cap : Nat) (w : World) :
    Calls Try.prog 39 #[.slice ad len cap] w fun e w' => e = .returned (.func (.func 45) #[] #[.pointer (some ⟨w.heap.size, 0, none⟩)]) ∧ w' = w.alloc (.cells #[.slice ad len cap] 58) := by
  go_enter Try.func39, Try.ntmps39
  go_wp2
  go_ret
  exact ⟨rfl, rfl⟩

set_option maxHeartbeats 2000000 in
set_option maxRecDepth 100000 in
theorem pzero (B o len cap : Nat) (bs : List UInt8) (E : TypeId) (w : World) (hB : w.heap[B]? = some (.cells (encB bs) E (0, 0))) (ho : o + len ≤ bs.length) (hl : len ≤ 4000000000) (hcap : len ≤ cap) :
    Calls Try.prog 35 #[.slice (some ⟨B, o, none⟩) len cap] w fun e w' => e = .returned (.bool (allZ bs o len)) ∧ Mod none' w w' := by
  have hBlt := lt_of_row hB
  have HB := Lib.hid hB
  clear hB
  refine calls_marks Try.func35 rfl ?_
  simp only [Try.ntmps35, List.size_toArray, List.length_cons, List.length_nil, Nat.reduceAdd, Nat.reduceSub, Array.replicate_succ, Array.replicate_zero, List.push_toArray, List.append_toArray, List.nil_append, List.cons_append]
  go_wp2_with (first | (go_at_call 39; refine (tell_any _ _ _ _).mono ?_; rintro e w' ⟨rfl, rfl⟩))
  refine wp_gen (fun W => W.heap[w.heap.size]? = some (.cells #[.bool false] 4 (0, 0)) ∧ W.heap[w.heap.size + 1]? = some (.cells #[.slice (some ⟨B, o, none⟩) len cap] 58 (0, 0)) ∧ W.heap.size = w.heap.size + 2 ∧ Below w.heap.size w W) ?_ ?_
  · refine ⟨?_, ?_, by simp, ((Below.refl _ _).alloc (Nat.le_refl _) _).alloc (by simp) _⟩
    · rw [Below.heap_alloc _ _ _ (by simp)]; exact heap_alloc_new _ _
    · have := heap_alloc_new (w.alloc (.cells #[.bool false] 4)) (.cells #[.slice (some ⟨B, o, none⟩) len cap] 58)
      rwa [World.size_alloc] at this
  rintro W ⟨F1, F2, Fz, FB⟩
  have hle : w.heap.size ≤ W.heap.size := by omega
  have FBk : W.heap[B]? = some (.cells (encB bs) E (0, 0)) := (FB.block B hBlt).trans HB.out
  obtain ⟨q, hq⟩ : ∃ q, len / 4 = q := ⟨_, rfl⟩
  have hit := tell_iter (w.heap.size + 1) B o len cap bs E ho hl
  rw [hq] at hit
  have hq0 : 4 * q ≤ len := by omega
  have hq1 : len < 4 * q + 4 := by omega
  refine wp_range (gf := 45) (lb := #[.pointer (some ⟨w.heap.size + 1, 0, none⟩)]) (encs := tellV bs o) (N := q) (B := W.heap.size)
    (I := fun i Y => allZ bs o (4 * i) = true ∧ Y.heap[w.heap.size]? = some (.cells #[.bool false] 4 (0, 0)) ∧ Y.heap[B]? = some (.cells (encB bs) E (0, 0)) ∧ Below w.heap.size w Y)
    (Ix := fun cd i Y => cd = .ret ∧ allZ bs o len = false ∧ Y.heap[w.heap.size]? = some (.cells #[.bool false] 4 (0, 0)) ∧ Below w.heap.size w Y)
    rfl (enters_of Try.func45 (by kernel_rfl) rfl) hit (fun _ => rfl) (Nat.le_refl _) (fun X Y h => ⟨h.sameC _, h.sameC _⟩) (fun X Y Z h k => ⟨h.1.trans k.1, h.2.trans k.2⟩)
    (fun Y h => ⟨h.cells F2, h.cells FBk⟩) ?_ ?_ ?_ ?_ ?_ ?_ ?_ ?_ ?_
  · rintro i X Y ⟨h1, h2, h3, h4⟩ hbk
    exact ⟨h1, hbk.cells h2, hbk.cells h3, hbk.below (Nat.le_refl _) hle h4⟩
  · rintro i X Y h rfl; exact h
  · rintro cd i X Y ⟨h1, h2, h3, h4⟩ hbk
    exact ⟨h1, h2, hbk.cells h3, hbk.below (Nat.le_refl _) hle h4⟩
  · rintro cd i X Y h rfl; exact h
  · rintro X Y rfl; exact KeepsFrom.refl _ _
  · exact ⟨by simp [allZ_iff], F1, FBk, FB⟩
  · intro L i X m hi ⟨h1, h2, h3, h4⟩
    have hz4 := allZ_cons bs o (4 * i) 4
    rw [allZ_four, h1, Bool.true_and] at hz4
    obtain ⟨g0, g1⟩ := get32_bd bs (o + 4 * i)
    obtain ⟨v, hv⟩ : ∃ v, get32 bs (o + 4 * i) = v := ⟨_, rfl⟩
    simp only [tellV, hv] at *
    gi_wp2
    refine ⟨KeepsFrom.refl _ _, ⟨SameC.refl _ _, SameC.refl _ _⟩, ?_⟩
    intro Z hbk
    have zp := hbk.cells h2
    have zb := hbk.cells h3
    have zz := hbk.below (Nat.le_refl _) hle h4
    have f1 := frozen_of_row Z _ 0 _ _ zp
    have k1 := (cell_of_row Z _ 0 _ _ _ zp).trans (show _ = some (.bool false) from rfl)
    have ZP := Lib.hid zp
    have ZB := Lib.hid zb
    have ZZ := Lib.hid zz
    have HZ4 := Lib.hid hz4
    have h1' := Lib.hid h1
    clear zp zb zz hz4 h2 h3 h4 hbk h1 hit F1 F2 FBk FB HB
    cases hv0 : (v == 0)
    · have hv1 : (v != 0) = true := by rw [bne, hv0]; rfl
      have hv2 := beq_eq_false_iff_ne.1 hv0
      gi_wp2
      refine ⟨(KeepsOthers.setCell _ _ _).from _, rfl, ?_, ?_, ?_⟩
      · have e : len = 4 * i + 4 + (len - (4 * i + 4)) := by omega
        rw [e, allZ_cons, HZ4.out, hv0, Bool.false_and]
      · exact heap_setCell_same _ _ 0 _ _ _ ZP.out
      · exact ZZ.out.setCell (Nat.le_refl _) _
    · have hv1 : (v != 0) = false := by rw [bne, hv0]; rfl
      gi_wp2
      refine ⟨KeepsFrom.refl _ _, ⟨SameC.refl _ _, SameC.refl _ _⟩, ?_, ZP.out, ZB.out, ZZ.out⟩
      rw [show 4 * (i + 1) = 4 * i + 4 by omega, HZ4.out, hv0]
  · rintro D Y hD ⟨h1, h2, h3, h4⟩ hdef
    have h1' := Lib.hid h1
    have H2 := Lib.hid h2
    have H3 := Lib.hid h3
    have H4 := Lib.hid h4
    have HD := Lib.hid hdef
    have f1 := frozen_of_row Y _ 0 _ _ h2
    have k1 := (cell_of_row Y _ 0 _ _ _ h2).trans (show _ = some (.bool false) from rfl)
    clear h1 h2 h3 h4 hdef hit F1 F2 FBk FB HB
    have e4 : len - len % 4 = 4 * q := by omega
    have hfin : ∀ (Y' : World) (b : Bool), allZ bs o len = b → Y'.heap[D]? = some (.deferred (some [])) → Y'.heap[w.heap.size]? = some (.cells #[.bool b] 4 (0, 0)) → Below w.heap.size w Y' → ∀ tmps : Array Value, tmps[2]?.getD undef = .pointer (some ⟨w.heap.size, 0, none⟩) →
        bodyPostM Fence.wide 3 Try.prog Try.f35 (fun e w' => e = Ending.returned (Value.bool (allZ bs o len)) ∧ Mod none' w w') .ret { tmps := tmps, defers := [{ target := .collected D, args := #[] }] } Y' := by
      rintro Y' b ha hd hb hbel tmps ht
      have e1 : (Y'.putObj D (.deferred none)).heap[w.heap.size]? = _ := (World.putObj_heap_other (by omega)).trans hb
      have k1 := (cell_of_row _ _ 0 _ _ _ e1).trans (show _ = some (.bool b) from rfl)
      refine leaves_mark rfl hd (v := .bool (allZ bs o len)) ?_ ⟨rfl, ?_⟩
      · rw [ha]
        simp [results, Try.results35, go_sem, k1, ht]
      · exact Mod.of_new (hbel.trans ⟨rfl, rfl, rfl, by simp, fun k hk => World.putObj_heap_other (by omega)⟩)
    have hsum : allZ bs o len = allZ bs (o + 4 * q) (len - 4 * q) := by
      have e : len = 4 * q + (len - 4 * q) := by omega
      rw [e, allZ_cons, h1'.out, Bool.true_and, ← e]
    have HSUM := Lib.hid hsum
    clear hsum
    have HF := Lib.hid hfin
    clear hfin
    have E4 := Lib.hid e4
    by_cases hcq : cap = len - len % 4
    · have hr0 : len - (len - len % 4) = 0 := by omega
      go_wp2
      rw [hr0]
      refine wp_loop_rounds 1 ?_
      rw [rounds_succ]
      go_wp2
      refine HF.out _ true ?_ ?_ (heap_setCell_same _ _ 0 _ _ _ H2.out) (H4.out.setCell (Nat.le_refl _) _) _ rfl
      · rw [HSUM.out, show len - 4 * q = 0 by omega]; simp [allZ_iff]
      · exact (Below.heap_setCell _ _ _ _ (by simp; omega)).trans HD.out
    · go_wp2
      rw [E4.out]
      generalize hr : len - 4 * q = r at *
      go_loop [22] (fun i => ∃ k : Nat, k ≤ r ∧ i = .int .i64 k ∧ allZ bs (o + 4 * q) k = true) (fun i => r - (intOf i).toNat)
      case atStart => exact ⟨0, by omega, rfl, by simp [allZ_iff]⟩
      case round =>
        obtain ⟨k, hk, rfl, ha⟩ := hrel
        have Ha := Lib.hid ha
        clear ha
        by_cases hlt : k < r
        · have hcell := row_cell H3.out (o + 4 * q + k) (by omega)
          obtain ⟨g0, g1⟩ := gB_bd bs (o + 4 * q + k)
          have HA1 := Lib.hid (allZ_cons bs (o + 4 * q) k 1)
          have HA2 : Hid (allZ bs (o + 4 * q + k) 1 = (gB bs (o + 4 * q + k) == 0)) := by
            show _ = _
            rw [Bool.eq_iff_iff, allZ_iff, beq_iff_eq]
            exact ⟨fun h => h 0 (by omega), fun h j hj => by obtain rfl : j = 0 := by omega
                                                             exact h⟩
          generalize gB bs (o + 4 * q + k) = v at *
          cases hv0 : (v == 0)
          · have hv1 : (v != 0) = true := by rw [bne, hv0]; rfl
            go_wp2
            refine HF.out _ false ?_ ?_ (heap_setCell_same _ _ 0 _ _ _ H2.out) (H4.out.setCell (Nat.le_refl _) _) _ rfl
            · rw [HSUM.out, show r = k + (1 + (r - k - 1)) by omega, allZ_cons, allZ_cons, HA2.out, hv0]; simp
            · exact (Below.heap_setCell _ _ _ _ (by simp; omega)).trans HD.out
          · have hv1 : (v != 0) = false := by rw [bne, hv0]; rfl
            go_wp2
            go_round
            case rel => exact ⟨k + 1, by omega, by go_num, by rw [HA1.out, Ha.out, HA2.out, hv0]; rfl⟩
            case measure => simp [intOf]; omega
        · obtain rfl : k = r := by omega
          go_wp2
          refine HF.out _ true (HSUM.out.trans Ha.out) ?_ (heap_setCell_same _ _ 0 _ _ _ H2.out) (H4.out.setCell (Nat.le_refl _) _) _ rfl
          exact (Below.heap_setCell _ _ _ _ (by simp; omega)).trans HD.out
  · rintro D cd i Y hD hi ⟨rfl, h1, h2, h3⟩ hdef
    have e1 : (Y.putObj D (.deferred none)).heap[w.heap.size]? = _ := (World.putObj_heap_other (by omega)).trans h2
    have k1 := (cell_of_row _ _ 0 _ _ _ e1).trans (show _ = some (.bool false) from rfl)
    refine wp_ret ?_
    refine leaves_mark rfl hdef (v := .bool (allZ bs o len)) ?_ ⟨rfl, ?_⟩
    · rw [h1]
      simp [results, Try.results35, go_sem, k1]
    · exact Mod.of_new (h3.trans ⟨rfl, rfl, rfl, by simp, fun k hk => World.putObj_heap_other (by omega)⟩)
end Go.Proofs.Ytdpbdmbgdcdmaaa
