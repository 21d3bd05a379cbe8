/- Revoke blocks: the reference's writer. -/
import Derived.Test.YtckadanghhibhaaSep3
import Derived.Test.YtckadanghhibhaaJk
namespace Go.Proofs.Ytckadanghhibhaa
open Go Go.RowKit

instance : Plain Try.prog 4 := plain_mk Try.underlying4 rfl (by kernel_rfl)
instance : Plain Try.prog 3 := plain_mk Try.underlying3 rfl (by kernel_rfl)
instance : Plain Try.prog 22 := plain_mk Try.underlying22 rfl (by kernel_rfl)
instance : Plain Try.prog 5 := plain_mk Try.underlying5 rfl (by kernel_rfl)
instance : Row Try.prog 28 256 := row_mk Try.underlying28 rfl (by kernel_rfl)
instance : Row Try.prog 55 2 := row_mk Try.underlying55 rfl (by kernel_rfl)
instance : Zero0 Try.prog 28 (.agg (encB Z256)) := ⟨by kernel_rfl⟩
theorem z256s : (encB Z256).size = 256 := (encB_size _).trans Z256_len
theorem infoN : (Try.prog.info? 22).map (fun i => (i.zero, i.size, i.bytes)) = some (some (.int .u32 0), 1, 4) := by kernel_rfl

/-- Numbers in memory, as cells. -/
def encI (l : List Int) : List Value := l.map (Value.int .u32)
theorem encI_len (l : List Int) : (encI l).length = l.length := by unfold encI; rw [List.length_map]
theorem encI_get {l : List Int} {i : Nat} (h : i < l.length) : (encI l)[i]? = some (.int .u32 (l.getD i 0)) := by
  unfold encI
  rw [List.getElem?_map, List.getElem?_eq_getElem h, List.getD_eq_getElem?_getD, List.getElem?_eq_getElem h]; rfl
theorem encI_one (l : List Int) : ∀ v ∈ encI l, v.oneCell' = true := by
  intro v hv
  obtain ⟨x, _, rfl⟩ := List.mem_map.1 hv
  rfl
theorem encI_app (a b : List Int) : encI a ++ encI b = encI (a ++ b) := by unfold encI; rw [List.map_append]
theorem NumsAt.range {w : World} {a : Option Addr} {n : Nat} {l : List Int} (h : NumsAt w a n l) (hn : 0 < n) : ∃ L o, a = some ⟨L, o, none⟩ ∧ w.rangeAt L o (encI l) := by
  obtain ⟨h1, _, L, o, h3, h4⟩ := h
  refine ⟨L, o, (h3.resolve_left (by omega)).1, fun j v hj => ?_⟩
  have hl : j < l.length := by have := (List.getElem?_eq_some_iff.1 hj).1; rwa [encI_len] at this
  rw [encI_get hl] at hj
  rw [h4 j hl, hj]
/-- A built slice is the call's own. -/
theorem St.allocOwn {S : Nat → Prop} {w0 w : World} {L : List Ass} (h : St S w0 w L) (cs : Array Value) (e : TypeId) (sz n : Nat) (hs : cs.size = n * sz) (hn : n ≤ maxLen) :
    St S w0 (w.alloc (.cells cs e)) (.own (.slice (some ⟨w.heap.size, 0, none⟩) n n) e sz n cs.toList :: L) :=
  h.new ((Mod.refl _ _).alloc _) ⟨by simpa using hs, .inr ⟨w.heap.size, n, cs, rfl, Nat.zero_le _, heap_alloc_new w _, Nat.le_refl _, hn, hs, by rw [List.take_of_length_le]; simpa using Nat.le_of_eq hs⟩⟩ fun k hk => by
    have : k = w.heap.size := by simpa [Ass.foot, Value.ownBlock] using hk.symm
    omega
/-- Up to here the numbers rise. -/
def riseTo (l : List Int) (k : Nat) : Prop := ∀ i, i + 1 < k → l.getD i 0 < l.getD (i + 1) 0
theorem riseTo_all (l : List Int) : riseTo l l.length ↔ risesN l = true := (risesN_iff l).symm
theorem riseTo_succ {l : List Int} {k : Nat} (h : riseTo l (k + 1)) (hk : l.getD k 0 < l.getD (k + 1) 0) : riseTo l (k + 1 + 1) := by
  intro i hi
  by_cases e : i = k
  · subst e; exact hk
  · exact h i (by omega)
theorem rise_not {l : List Int} {k : Nat} (hk : k + 1 < l.length) (h : ¬ l.getD k 0 < l.getD (k + 1) 0) : risesN l = false := by
  rw [← Bool.not_eq_true]
  intro e
  exact h ((risesN_iff l).1 e k hk)
theorem resCellB {S : Nat → Prop} {w0 w : World} {L : List Ass} (hS : St S w0 w L) {tmps : Array Value} {p : Tmp} {rw : Bool} {B : Nat} {bs : List UInt8} {t : TypeId} (hl : bs.length = 256) (hp : tmps.getD p undef = .pointer (some ⟨B, 0, none⟩)) (hm : Ass.blk rw B (encB bs) t ∈ L) : (resRun tmps (.cell p 28)).run Try.prog w = .ok (.agg (encB bs)) w :=
  resCell (n := 256) hS hp hm ((encB_size _).trans hl)

set_option maxRecDepth 100000 in
set_option maxHeartbeats 4000000 in
theorem rwrevoke (a : Option Addr) (n cap : Nat) (l : List Int) (s : Int) (w : World) (h : NumsAt w a n l) (hcap : n ≤ 1000000) (s0 : 0 ≤ s) (s1 : s < 4294967296) :
    Calls Try.prog 16 #[.int .u32 s, .slice a n cap] w fun e w' => e = .returned (resB (wRevoke s l)) ∧ Mod none' w w' := by
  have HS := St.nil none' w
  have HN := Lib.hid h
  have HnL : Hid (n = l.length) := h.1
  have HRS := Lib.hid (fun W => rseq s W)
  obtain ⟨r, hr⟩ : ∃ r, wRevoke s l = r := ⟨_, rfl⟩
  have HR : Hid (r = if seqB s = true ∧ 1 ≤ l.length ∧ l.length ≤ 60 ∧ risesN l = true then some (blockOf ([1280199249, 3, s, (l.length : Int)] ++ l)) else none) := hr.symm
  rw [hr]
  clear h hr
  rcases Bool.eq_false_or_eq_true (seqB s) with hq | hq
  rotate_left
  · have hrn : r = none := by rw [HR.out, if_neg (by rw [hq]; simp)]
    subst hrn
    rw [hq] at HRS
    clear hq
    go_enter Try.func16, Try.ntmps16
    go_wp2_with (first | ((with_reducible apply sAlloc HS); infer_instance; (first | exact cells_agg _ | exact cells_one rfl); rfl; intro B1 w' H1; clear HS; have HS := H1; clear H1) | (with_reducible refine wpList_buildZ' blkT ?_) | ((with_reducible apply sStoreB HS); infer_instance; rfl; rfl; (conv => (lhs; whnf)); (repeat (first | exact Rep.here | apply Rep.there)); exact z256s; exact z256s; exact encB_one _; intro w' H1; clear HS; have HS := H1; clear H1) | (go_at_call 39; refine (HRS.out _).mono ?_; rintro e w' ⟨rfl, rfl⟩))
    refine bodyPost_ret (res2 rfl (resCellB HS Z256_len rfl (by (repeat (first | exact List.Mem.head _ | apply List.Mem.tail)))) (resTmp _ _ _)) rfl ⟨rfl, HS.mod⟩
  rw [hq] at HRS
  by_cases h1 : 1 ≤ n
  rotate_left
  · have hrn : r = none := by rw [HR.out, if_neg (by rw [← HnL.out]; omega)]
    subst hrn
    obtain rfl : n = 0 := by omega
    clear hq h1
    go_enter Try.func16, Try.ntmps16
    go_wp2_with (first | ((with_reducible apply sAlloc HS); infer_instance; (first | exact cells_agg _ | exact cells_one rfl); rfl; intro B1 w' H1; clear HS; have HS := H1; clear H1) | (with_reducible refine wpList_buildZ' blkT ?_) | ((with_reducible apply sStoreB HS); infer_instance; rfl; rfl; (conv => (lhs; whnf)); (repeat (first | exact Rep.here | apply Rep.there)); exact z256s; exact z256s; exact encB_one _; intro w' H1; clear HS; have HS := H1; clear H1) | (go_at_call 39; refine (HRS.out _).mono ?_; rintro e w' ⟨rfl, rfl⟩))
    refine bodyPost_ret (res2 rfl (resCellB HS Z256_len rfl (by (repeat (first | exact List.Mem.head _ | apply List.Mem.tail)))) (resTmp _ _ _)) rfl ⟨rfl, HS.mod⟩
  have h1d : decide ((n : Int) < 1) = false := decide_eq_false (by omega)
  by_cases h60 : n ≤ 60
  rotate_left
  · have hrn : r = none := by rw [HR.out, if_neg (by rw [← HnL.out]; omega)]
    subst hrn
    have h60d : decide ((60 : Int) < (n : Int)) = true := decide_eq_true (by omega)
    clear hq
    go_enter Try.func16, Try.ntmps16
    go_wp2_with (first | ((with_reducible apply sAlloc HS); infer_instance; (first | exact cells_agg _ | exact cells_one rfl); rfl; intro B1 w' H1; clear HS; have HS := H1; clear H1) | (with_reducible refine wpList_buildZ' blkT ?_) | ((with_reducible apply sStoreB HS); infer_instance; rfl; rfl; (conv => (lhs; whnf)); (repeat (first | exact Rep.here | apply Rep.there)); exact z256s; exact z256s; exact encB_one _; intro w' H1; clear HS; have HS := H1; clear H1) | (go_at_call 39; refine (HRS.out _).mono ?_; rintro e w' ⟨rfl, rfl⟩))
    refine bodyPost_ret (res2 rfl (resCellB HS Z256_len rfl (by (repeat (first | exact List.Mem.head _ | apply List.Mem.tail)))) (resTmp _ _ _)) rfl ⟨rfl, HS.mod⟩
  have h60d : decide ((60 : Int) < (n : Int)) = false := decide_eq_false (by omega)
  have HR2 : Hid (r = if risesN l = true then some (blockOf ([1280199249, 3, s, (l.length : Int)] ++ l)) else none) := by
    show _ = _
    rw [HR.out]
    by_cases hx : risesN l = true
    · rw [if_pos ⟨hq, by rw [← HnL.out]; exact h1, by rw [← HnL.out]; exact h60, hx⟩, if_pos hx]
    · rw [if_neg (fun h => hx h.2.2.2), if_neg hx]
  clear hq HR
  go_enter Try.func16, Try.ntmps16
  go_wp2_with (first | ((with_reducible apply sAlloc HS); infer_instance; (first | exact cells_agg _ | exact cells_one rfl); rfl; intro B1 w' H1; clear HS; have HS := H1; clear H1) | (with_reducible refine wpList_buildZ' blkT ?_) | ((with_reducible apply sStoreB HS); infer_instance; rfl; rfl; (conv => (lhs; whnf)); (repeat (first | exact Rep.here | apply Rep.there)); exact z256s; exact z256s; exact encB_one _; intro w' H1; clear HS; have HS := H1; clear H1) | (go_at_call 39; refine (HRS.out _).mono ?_; rintro e w' ⟨rfl, rfl⟩))
  go_loopw [6] (fun iv wr => ∃ k : Nat, k + 1 ≤ n ∧ iv = .int .i64 ((k : Int) + 1) ∧ Hid (riseTo l (k + 1)) ∧ St none' w wr [.blk true B1 (encB Z256) 28]) (fun iv _ => n - (intOf iv).toNat)
  case atStart => exact ⟨0, h1, rfl, (fun i hi => by omega), HS⟩
  case round =>
    obtain ⟨k, hk, rfl, HRI, HS⟩ := hrel
    have HNW := Lib.hid (HN.out.mod HS.mod)
    obtain ⟨L, o, rfl, hra⟩ := HNW.out.range h1
    by_cases hlt : k + 1 < n
    · have hltI : decide ((k : Int) + 1 < (n : Int)) = true := decide_eq_true (by omega)
      have hv1 : Hid ((encI l)[k + 1]? = some (.int .u32 (l.getD (k + 1) 0))) := encI_get (by rw [← HnL.out]; exact hlt)
      have hv2 : Hid ((encI l)[k]? = some (.int .u32 (l.getD k 0))) := encI_get (by rw [← HnL.out]; omega)
      have HST := Lib.hid (fun h => riseTo_succ HRI.out h)
      have HNO := Lib.hid (fun h => rise_not (l := l) (k := k) (by rw [← HnL.out]; exact hlt) h)
      obtain ⟨x, hx⟩ : ∃ x, l.getD (k + 1) 0 = x := ⟨_, rfl⟩
      obtain ⟨y, hy⟩ : ∃ x, l.getD k 0 = x := ⟨_, rfl⟩
      rw [hx] at hv1 HST HNO
      rw [hy] at hv2 HST HNO
      clear hx hy
      by_cases hyx : y < x
      · have hle : decide (x ≤ y) = false := decide_eq_false (by omega)
        have hle2 : ¬ x ≤ y := by omega
        go_wp2
        (try simp only [Act.put])
        refine wp_region_quietF (by kernel_rfl) (by kernel_rfl) ?_
        repeat (first | go_big_quiet_skip | (((with_reducible apply qLoadR1 inferInstance hra); rfl; rfl; first | exact hv1.out | exact hv2.out); (try simp only [Act.put, List.setIfInBounds_toArray, List.set_cons_zero, List.set_cons_succ])) | (go_big_quiet_want; go_big_quiet_op; first | go_big_quiet_on | (refine ⟨_, fun _ _ => rfl, ?_⟩; go_big_quiet_on) | (apply Exists.intro; refine ⟨fun wc hfr => ?_, ?_⟩; (· fail); go_big_quiet_on)))
        refine wpQuiet_nil ?_
        intro w1 hm1
        replace HS := HS.fresh hm1
        clear hm1
        go_wp2
        go_roundw
        case rel => exact ⟨k + 1, by omega, by go_num, HST.out hyx, HS⟩
        case measure => simp [intOf]; omega
      · have hle : decide (x ≤ y) = true := decide_eq_true (by omega)
        have hle2 : x ≤ y := by omega
        have hrn : r = none := by rw [HR2.out, HNO.out hyx]; rfl
        subst hrn
        go_wp2
        (try simp only [Act.put])
        refine wp_region_quietF (by kernel_rfl) (by kernel_rfl) ?_
        repeat (first | go_big_quiet_skip | (((with_reducible apply qLoadR1 inferInstance hra); rfl; rfl; first | exact hv1.out | exact hv2.out); (try simp only [Act.put, List.setIfInBounds_toArray, List.set_cons_zero, List.set_cons_succ])) | (go_big_quiet_want; go_big_quiet_op; first | go_big_quiet_on | (refine ⟨_, fun _ _ => rfl, ?_⟩; go_big_quiet_on) | (apply Exists.intro; refine ⟨fun wc hfr => ?_, ?_⟩; (· fail); go_big_quiet_on)))
        refine wpQuiet_nil ?_
        intro w1 hm1
        replace HS := HS.fresh hm1
        clear hm1
        go_wp2_with (first | ((with_reducible apply sAlloc HS); infer_instance; (first | exact cells_agg _ | exact cells_one rfl); rfl; intro B1 w' H1; clear HS; have HS := H1; clear H1) | (with_reducible refine wpList_buildZ' blkT ?_) | ((with_reducible apply sStoreB HS); infer_instance; rfl; rfl; (conv => (lhs; whnf)); (repeat (first | exact Rep.here | apply Rep.there)); exact z256s; exact z256s; exact encB_one _; intro w' H1; clear HS; have HS := H1; clear H1) | (go_at_call 39; refine (HRS.out _).mono ?_; rintro e w' ⟨rfl, rfl⟩))
        refine bodyPost_ret (res2 rfl (resCellB HS Z256_len rfl (by (repeat (first | exact List.Mem.head _ | apply List.Mem.tail)))) (resTmp _ _ _)) rfl ⟨rfl, HS.mod⟩
    · obtain rfl : n = k + 1 := by omega
      have hltI : decide ((k : Int) + 1 < (k : Int) + 1) = false := decide_eq_false (by omega)
      have hrise : risesN l = true := (riseTo_all l).1 (by rw [← HnL.out]; exact HRI.out)
      have hrn : r = some (blockOf ([1280199249, 3, s, (l.length : Int)] ++ l)) := by rw [HR2.out, if_pos hrise]
      subst hrn
      have hnl : Hid (l.length = k + 1) := HnL.out.symm
      have hwk : IntKind.u32.wrap ((k : Int) + 1) = (k : Int) + 1 := IntWalk.u32_in _ (by omega)
      have HB4 : Hid (∀ j, 0 ≤ ([1280199249, 3, s, (k : Int) + 1] ++ l).getD j 0 ∧ ([1280199249, 3, s, (k : Int) + 1] ++ l).getD j 0 < 4294967296) := fun j => by
        match j with
        | 0 => exact ⟨show (0 : Int) ≤ 1280199249 by omega, show (1280199249 : Int) < 4294967296 by omega⟩
        | 1 => exact ⟨show (0 : Int) ≤ 3 by omega, show (3 : Int) < 4294967296 by omega⟩
        | 2 => exact ⟨s0, s1⟩
        | 3 => exact ⟨show (0 : Int) ≤ (k : Int) + 1 by omega, show (k : Int) + 1 < 4294967296 by omega⟩
        | (j + 4) => exact HN.out.2.1 j
      have HL4 : Hid (([1280199249, 3, s, (k : Int) + 1] ++ l).length = 4 + (k + 1)) := by show _ = _; rw [List.length_append, hnl.out]; rfl
      have zbl : Hid ((encB (blockOf ([1280199249, 3, s, (k : Int) + 1] ++ l))).size = 256) := (encB_size _).trans (blockOf_len _)
      have HLN : Hid ((encI l).length = (k + 1) * 1) := by show _ = _; rw [encI_len, hnl.out]; omega
      clear hrise HR2
      go_wp2_with (first | ((with_reducible apply sAlloc HS); infer_instance; (first | exact cells_agg _ | exact cells_one rfl); rfl; intro B1 w' H1; clear HS; have HS := H1; clear H1) | (with_reducible refine wpList_buildZ' blkT ?_) | ((with_reducible apply sStoreB HS); infer_instance; rfl; rfl; (conv => (lhs; whnf)); (repeat (first | exact Rep.here | apply Rep.there)); exact z256s; exact z256s; exact encB_one _; intro w' H1; clear HS; have HS := H1; clear H1) | (go_at_call 39; refine (HRS.out _).mono ?_; rintro e w' ⟨rfl, rfl⟩) | (at_builtin; (have H2 : St none' w _ (.own (.slice (some ⟨wr.heap.size, 0, none⟩) 4 4) 22 1 4 (encI [1280199249, 3, s, (k : Int) + 1]) :: _) := HS.allocOwn #[.int .u32 1280199249, .int .u32 3, .int .u32 s, .int .u32 ((k : Int) + 1)] 22 1 4 rfl (by decide)); (with_reducible apply sAppend H2 Try.underlying26 infoN rfl (by decide)); (conv => (lhs; whnf)); (intro v'; (repeat (first | exact Rep.here | apply Rep.there))); rfl; rotate_left; (intro j u hj; rw [add_off]; exact (range_fresh hra ((Mod.refl _ _).alloc _)) j u hj); rotate_right; exact HLN.out; exact encI_one _; decide; omega; intro v1 w' H1 hnil; clear HS H2; have HS := H1; clear H1 hnil; rw [encI_app] at HS; obtain ⟨g, cap3, rfl, hc3, _⟩ := own_row (HS.own (.head _)) (by omega)) | (go_at_call 40; refine (rblock g _ _ _ _ HL4.out.symm (by rw [HL4.out]; omega) (fun j hj => ?_) HB4.out (HS.lt (.head _) g rfl)).mono ?_; (have h9 := HS.ownRange (.head _) j _ (encI_get hj)); (rwa [Nat.zero_add] at h9); rintro e w' ⟨rfl, H1⟩; replace HS := HS.fresh H1; clear H1) | ((with_reducible apply sStoreB HS); infer_instance; rfl; rfl; (conv => (lhs; whnf)); (repeat (first | exact Rep.here | apply Rep.there)); exact zbl.out; exact z256s; exact encB_one _; intro w' H1; clear HS; have HS := H1; clear H1))
      refine bodyPost_ret (res2 rfl (resCellB HS (blockOf_len _) rfl (by (repeat (first | exact List.Mem.head _ | apply List.Mem.tail)))) (resTmp _ _ _)) rfl ⟨?_, HS.mod⟩
      show _ = Ending.returned (resB (some (blockOf ([1280199249, 3, s, (l.length : Int)] ++ l))))
      rw [hnl.out]
      rfl
end Go.Proofs.Ytckadanghhibhaa
