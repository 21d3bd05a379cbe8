/- A name that is removed leaves its slot to the next one that is added, if no slot ahead of it is free; all others stay. -/
import Derived.Test.YtdpbdmbgdcdmaaaSlotsBack
namespace Go.Proofs.Ytdpbdmbgdcdmaaa.slotsGone
open Go Go.RowKit Go.ChangeShapes Go.WideShapes Go.ChangeAt
open Go.Proofs.Ytdpbdmbgdcdmaaa.slotsBack (own laidOut u32_wf row_range find_done)

theorem find_idx {bs : List UInt8} {l : List Sl} (h : slotsOf bs = some l) {name : ByteArray} {i : Nat} {v : Int} (hf : findOf bs name = some (i, v)) : name.size ≠ 0 ∧ idxS l name = some i := by
  unfold findOf at hf
  rw [h] at hf
  simp only at hf
  split at hf
  · cases hf
  · rename_i hn
    obtain ⟨j, hj, e⟩ := Option.map_eq_some_iff.1 hf
    cases e
    exact ⟨hn, hj⟩
theorem idx_none {l : List Sl} {name : ByteArray} (h : idxS l name = none) : ∀ (j : Nat) (y : Sl), l[j]? = some y → (y.2 == name) = false := by
  intro j y hy
  unfold idxS at h
  rw [List.findIdx?_eq_none_iff] at h
  cases hq : y.2 == name
  · rfl
  · have := h y (List.mem_of_getElem? hy)
    rw [hq] at this; cases this
theorem none_idx {l : List Sl} {name : ByteArray} (h : ∀ (j : Nat) (y : Sl), l[j]? = some y → (y.2 == name) = false) : idxS l name = none := by
  refine idxS_none ?_
  rw [Bool.eq_false_iff]; intro ha
  obtain ⟨z, hz, hq⟩ := List.any_eq_true.1 ha
  obtain ⟨j, hj, rfl⟩ := List.getElem_of_mem hz
  rw [h j _ (List.getElem?_eq_getElem hj)] at hq; cases hq
theorem empty_ne {name : ByteArray} (hn : name.size ≠ 0) : (ByteArray.empty == name) = false := by
  rw [beq_eq_false_iff_ne]
  intro e; rw [← e] at hn; exact hn rfl
/-- Names are told apart: the other slots bear another name. -/
theorem idx_apart {bs : List UInt8} {l : List Sl} (h : slotsOf bs = some l) {name : ByteArray} (hn : name.size ≠ 0) {i : Nat} (hi : idxS l name = some i) : ∀ (j : Nat) (y : Sl), j ≠ i → l[j]? = some y → (y.2 == name) = false := by
  obtain ⟨h1, h2, h3⟩ := slotsOf_iff.1 h
  obtain ⟨x, hx, hq⟩ := idxS_get hi
  have hxn := ba_eq.1 hq
  have nz : ∀ (k : Nat) (z : Sl), l[k]? = some z → z.2 = name → z.1 ≠ 0 := fun k z hz hzn h0 => by
    rcases rdSlot_fine (h2 k z hz) with ⟨_, b⟩ | ⟨a, _, _⟩
    · rw [b] at hzn; rw [← hzn] at hn; exact hn rfl
    · omega
  intro j y hj hy
  cases hq2 : y.2 == name
  · rfl
  · have hyn := ba_eq.1 hq2
    rcases Nat.lt_or_gt_of_ne hj with hlt | hgt
    · have := h3 j i y x hlt hy hx (nz i x hx hxn)
      rw [hyn, hxn, beq_self_eq_true] at this; cases this
    · have := h3 i j x y hgt hx hy (nz j y hy hyn)
      rw [hyn, hxn, beq_self_eq_true] at this; cases this
theorem rem_find {bs : List UInt8} (hl : bs.length = 256) {l : List Sl} (h : slotsOf bs = some l) {name : ByteArray} (hn : name.size ≠ 0) {i : Nat} (hi : idxS l name = some i) : findOf (setSlot bs i zSl) name = none := by
  obtain ⟨_, hs⟩ := remOf_done hl h hn hi
  unfold findOf
  rw [hs]
  simp only
  rw [if_neg hn, none_idx, Option.map_none]
  intro j y hy
  rw [List.getElem?_set] at hy
  split at hy
  · split at hy
    · cases hy; exact empty_ne hn
    · cases hy
  · rename_i e
    exact idx_apart h hn hi j y (fun e' => e e'.symm) hy

section
variable {S : Nat → Prop} {w0 w : World} {L : List Ass}
theorem lfind (HS : St S w0 w L) (bs : List UInt8) (hl : bs.length = 256) (name : ByteArray) :
    Calls Try.prog 23 #[.agg (encB bs), .string name] w fun e w' => e = .returned (.bool (findOf bs name).isSome) ∧ St S w0 w' L := by
  have hzb : (encB bs).size = 256 := (encB_size _).trans hl
  have HZB := Lib.hid hzb
  have HL := Lib.hid hl
  obtain ⟨a, b, hab, h1, h0⟩ := findV_parts (findOf bs name)
  have HAB := Lib.hid hab
  clear hzb hl hab
  cases hf : (findOf bs name).isSome
  · have ha : a = -1 := h0 (by rw [← Option.not_isSome_iff_eq_none, hf]; decide)
    subst ha
    clear h1 h0 hf
    go_enter Try.func23, Try.ntmps23
    go_wp2_with (first | ((with_reducible apply sBox HS); rfl; (conv => (lhs; whnf)); (first | exact cells_agg _ | exact cells_one rfl); intro Bb w' H1; clear HS; have HS := H1; clear H1) | ((with_reducible apply sLoadB HS); infer_instance; rfl; rfl; (repeat (first | exact List.Mem.head _ | apply List.Mem.tail)); exact HZB.out) | (go_at_call 13; (with_reducible refine (pfind_any HS bs HL.out name).mono ?_); rintro e w' ⟨rfl, H2⟩; clear HS; have HS := H2; clear H2; rw [HAB.out]))
    go_ret
    exact ⟨rfl, HS.tail⟩
  · have ha := h1 hf
    clear h1 h0 hf
    go_enter Try.func23, Try.ntmps23
    go_wp2_with (first | ((with_reducible apply sBox HS); rfl; (conv => (lhs; whnf)); (first | exact cells_agg _ | exact cells_one rfl); intro Bb w' H1; clear HS; have HS := H1; clear H1) | ((with_reducible apply sLoadB HS); infer_instance; rfl; rfl; (repeat (first | exact List.Mem.head _ | apply List.Mem.tail)); exact HZB.out) | (go_at_call 13; (with_reducible refine (pfind_any HS bs HL.out name).mono ?_); rintro e w' ⟨rfl, H2⟩; clear HS; have HS := H2; clear H2; rw [HAB.out]))
    go_ret
    exact ⟨by simp, HS.tail⟩
end
set_option maxRecDepth 100000 in
set_option maxHeartbeats 40000000 in
theorem walk (bs : List UInt8) (hl : bs.length = 256) (name : ByteArray) (other : ByteArray) (hn : other.size ≤ maxLen) (ino : Int) (i0 : 0 ≤ ino) (i1 : ino < 4294967296) (w : World) :
    Calls Try.prog 8 #[.agg (encB bs), .string name, .string other, .int .u32 ino] w fun e w' => e = .returned (.bool true) ∧ Below w.heap.size w w' := by
  have HS := St.nil none' w
  have HL := Lib.hid hl
  have hzb : (encB bs).size = 256 := (encB_size _).trans hl
  have HZB := Lib.hid hzb
  have HNM := Lib.hid hn
  have z256 : Hid ((encB Z256).size = 256) := (encB_size _).trans Z256_len
  unfold maxLen at hn
  clear hl hzb
  have HM := Lib.hid (fun W => pmay_any other W HNM.out)
  obtain ⟨a, b, hab, ha1, ha0⟩ := findV_parts (findOf bs name)
  have HAB := Lib.hid hab
  clear hab
  cases hs : slotsOf bs with
  | none =>
    have HSO := Lib.hid hs
    clear hs ha1 ha0
    go_enter Try.func8, Try.ntmps8
    go_wp2_with (first | (go_at_call 21; refine (aw.awake_any _).mono ?_; rintro e w' ⟨rfl, H1⟩; replace HS := HS.fresh H1; clear H1) | ((with_reducible apply sBox HS); rfl; (conv => (lhs; whnf)); (first | exact cells_agg _ | exact cells_one rfl); intro Bb w' H1; clear HS; have HS := H1; clear H1) | ((with_reducible apply sLoadB HS); infer_instance; rfl; rfl; (repeat (first | exact List.Mem.head _ | apply List.Mem.tail)); exact HZB.out) | (go_at_call 11; (with_reducible refine (list_any HS bs HL.out).mono ?_); rintro e w' H1; rw [HSO.out] at H1; obtain ⟨rfl, H2⟩ := H1; clear HS; have HS := H2; clear H2) | (go_at_call 13; (with_reducible refine (pfind_any HS bs HL.out name).mono ?_); rintro e w' ⟨rfl, H2⟩; clear HS; have HS := H2; clear H2; rw [HAB.out]))
    go_ret
    exact ⟨rfl, HS.below⟩
  | some l =>
    have HLL := Lib.hid (slotsTo_len hs)
    have HSO := Lib.hid hs
    cases hf : findOf bs name with
    | none =>
      have ha : a = -1 := ha0 hf
      subst ha
      clear hs hf ha1 ha0
      go_enter Try.func8, Try.ntmps8
      go_wp2_with (first | (go_at_call 21; refine (aw.awake_any _).mono ?_; rintro e w' ⟨rfl, H1⟩; replace HS := HS.fresh H1; clear H1) | ((with_reducible apply sBox HS); rfl; (conv => (lhs; whnf)); (first | exact cells_agg _ | exact cells_one rfl); intro Bb w' H1; clear HS; have HS := H1; clear H1) | ((with_reducible apply sLoadB HS); infer_instance; rfl; rfl; (repeat (first | exact List.Mem.head _ | apply List.Mem.tail)); exact HZB.out) | (go_at_call 11; (with_reducible refine (list_any HS bs HL.out).mono ?_); rintro e w' H1; rw [HSO.out] at H1; obtain ⟨g1, rfl, H2⟩ := H1; clear HS; have HS := H2; clear H2) | (go_at_call 13; (with_reducible refine (pfind_any HS bs HL.out name).mono ?_); rintro e w' ⟨rfl, H2⟩; clear HS; have HS := H2; clear H2; rw [HAB.out]) | (go_at_call 15; (with_reducible refine (HM.out _).mono ?_); rintro e w' ⟨rfl, H1⟩; replace HS := HS.fresh H1; clear H1) | (go_at_call 23; (with_reducible refine (lfind HS bs HL.out other).mono ?_); rintro e w' ⟨rfl, H2⟩; clear HS; have HS := H2; clear H2; rw [HFO.out]))
      go_ret
      exact ⟨rfl, HS.below⟩
    | some p =>
      obtain ⟨at_, v⟩ := p
      have ha : 0 ≤ a := ha1 (by rw [hf]; rfl)
      have haa : a = at_ := by
        have h := HAB.out
        rw [hf] at h
        simp only [findV, Value.tuple.injEq, Array.mk.injEq, List.cons.injEq, Value.int.injEq, true_and] at h
        exact h.1.symm
      subst haa
      clear ha1 ha0
      cases hok : okName other
      · rw [hok] at HM
        clear hs hf
        go_enter Try.func8, Try.ntmps8
        go_wp2_with (first | (go_at_call 21; refine (aw.awake_any _).mono ?_; rintro e w' ⟨rfl, H1⟩; replace HS := HS.fresh H1; clear H1) | ((with_reducible apply sBox HS); rfl; (conv => (lhs; whnf)); (first | exact cells_agg _ | exact cells_one rfl); intro Bb w' H1; clear HS; have HS := H1; clear H1) | ((with_reducible apply sLoadB HS); infer_instance; rfl; rfl; (repeat (first | exact List.Mem.head _ | apply List.Mem.tail)); exact HZB.out) | (go_at_call 11; (with_reducible refine (list_any HS bs HL.out).mono ?_); rintro e w' H1; rw [HSO.out] at H1; obtain ⟨g1, rfl, H2⟩ := H1; clear HS; have HS := H2; clear H2) | (go_at_call 13; (with_reducible refine (pfind_any HS bs HL.out name).mono ?_); rintro e w' ⟨rfl, H2⟩; clear HS; have HS := H2; clear H2; rw [HAB.out]) | (go_at_call 15; (with_reducible refine (HM.out _).mono ?_); rintro e w' ⟨rfl, H1⟩; replace HS := HS.fresh H1; clear H1) | (go_at_call 23; (with_reducible refine (lfind HS bs HL.out other).mono ?_); rintro e w' ⟨rfl, H2⟩; clear HS; have HS := H2; clear H2; rw [HFO.out]))
        go_ret
        exact ⟨rfl, HS.below⟩
      · rw [hok] at HM
        cases hi0 : (ino == 0)
        · cases hfo : (findOf bs other).isSome
          · have HFO := Lib.hid hfo
            have hi0' := beq_eq_false_iff_ne.1 hi0
            have hpos : 0 < ino := by omega
            obtain ⟨hnz, hidx⟩ := find_idx hs hf
            have h8 : at_ < 8 := find_lt hf
            obtain ⟨hR1, hs1⟩ := remOf_done HL.out hs hnz hidx
            have hz0 : Fine zSl := .inl ⟨rfl, rfl⟩
            have hl1 := setSlot_len HL.out h8 hz0
            have hF1 := rem_find HL.out hs hnz hidx
            have hR2 : remOf (setSlot bs at_ zSl) name = (setSlot bs at_ zSl, false) := by rw [remOf_set, hF1]
            have hoz : other.size ≠ 0 := by have := (okName_size hok).1; omega
            have hno : idxS l other = none := by
              have h := find_ok hs hok
              rw [hfo] at h
              cases hq : idxS l other with
              | none => rfl
              | some k => rw [hq] at h; cases h
            have hll : l.length = 8 := HLL.out
            have hl1at : (l.set at_ zSl)[at_]? = some zSl := List.getElem?_set_self (by omega)
            have hl1ne : ∀ (j : Nat), j ≠ at_ → (l.set at_ zSl)[j]? = l[j]? := fun j hj => List.getElem?_set_ne (fun e => hj e.symm)
            have hno1 : idxS (l.set at_ zSl) other = none := none_idx (fun j y hy => by
              by_cases hj : j = at_
              · rw [hj, hl1at] at hy; cases hy; exact empty_ne hoz
              · rw [hl1ne j hj] at hy; exact idx_none hno j y hy)
            obtain ⟨f, hfree⟩ : ∃ f, idxS (l.set at_ zSl) ByteArray.empty = some f := by
              cases hq : idxS (l.set at_ zSl) ByteArray.empty with
              | some f => exact ⟨f, rfl⟩
              | none => have := idx_none hq at_ zSl hl1at; exact absurd this (by decide)
            obtain ⟨hf8, hfz, hrdf⟩ := idxS_void hs1 hfree
            have hfirst : ∀ (j : Nat) (y : Sl), j < f → (l.set at_ zSl)[j]? = some y → (y.2 == ByteArray.empty) = false := by
              intro j y hj hy
              have h := hfree
              unfold idxS at h
              rw [List.findIdx?_eq_some_iff_getElem] at h
              obtain ⟨_, _, h3⟩ := h
              have h4 := h3 j hj
              rw [(List.getElem?_eq_some_iff.1 hy).2] at h4
              simpa using h4
            have hfat : f ≤ at_ := by
              rcases Nat.lt_or_ge at_ f with h | h
              · exact absurd (hfirst at_ zSl h hl1at) (by decide)
              · exact h
            have hpre : ∀ (j : Nat) (y : Sl), j < f → l[j]? = some y → (y.1 == 0) = false := by
              intro j y hj hy
              have h1 := hfirst j y hj (by rw [hl1ne j (by omega)]; exact hy)
              rwa [void_iff (rdSlot_fine ((slotsOf_iff.1 hs).rd j y hy))] at h1
            have hpost : f < at_ → l[f]? = some zSl := fun h => by rw [← hl1ne f (by omega)]; exact hfz
            obtain ⟨hA, hs2⟩ := addOf_done hl1 hs1 hok hpos i1 hno1 hfree
            have hfx : Fine (ino, other) := .inr ⟨hpos, i1, hok⟩
            have hl2 := setSlot_len hl1 hf8 hfx
            obtain ⟨hF2, _⟩ := find_done (ino := ino) hok hno1 (by rw [List.length_set]; omega) hs2
            have hsame : ∀ (j : Nat) (y : Sl), j ≠ at_ → j ≠ f → l[j]? = some y → ((l.set at_ zSl).set f (ino, other))[j]? = some y := fun j y h1 h2 hy => by
              rw [List.getElem?_set_ne (fun e => h2 e.symm), hl1ne j h1]; exact hy
            have hl2l : ((l.set at_ zSl).set f (ino, other)).length = 8 := by rw [List.length_set, List.length_set]; exact hll
            have HR1 := Lib.hid hR1
            have HR2 := Lib.hid hR2
            have HF1 : Hid ((findOf (setSlot bs at_ zSl) name).isSome = false) := by show _ = _; rw [hF1]; rfl
            have HL1 := Lib.hid hl1
            have HZ1 : Hid ((encB (setSlot bs at_ zSl)).size = 256) := (encB_size _).trans hl1
            have HA := Lib.hid hA
            have HL2 := Lib.hid hl2
            have HZ2 : Hid ((encB (setSlot (setSlot bs at_ zSl) f (ino, other))).size = 256) := (encB_size _).trans hl2
            have HF2 := Lib.hid hF2
            have HS2 := Lib.hid hs2
            have HLL2 := Lib.hid hl2l
            have HSAME := Lib.hid hsame
            have HPRE := Lib.hid hpre
            have HPOST := Lib.hid hpost
            clear hs hf hok hfo hnz hidx hR1 hs1 hz0 hl1 hF1 hR2 hoz hno hll hl1at hl1ne hno1 hfree hfz hrdf hfirst hpre hpost hA hs2 hfx hl2 hF2 hsame hl2l
            generalize setSlot (setSlot bs at_ zSl) f (ino, other) = c2 at HA HL2 HZ2 HF2 HS2
            generalize setSlot bs at_ zSl = c1 at HR1 HR2 HF1 HL1 HZ1 HA
            generalize (l.set at_ zSl).set f (ino, other) = l2 at HS2 HLL2 HSAME
            have hat8 : (at_ : Int) < 8 := by omega
            go_enter Try.func8, Try.ntmps8
            go_wp2_with (first | (go_at_call 21; refine (aw.awake_any _).mono ?_; rintro e w' ⟨rfl, H1⟩; replace HS := HS.fresh H1; clear H1) | ((with_reducible apply sBox HS); rfl; (conv => (lhs; whnf)); (first | exact cells_agg _ | exact cells_one rfl); intro Bb w' H1; clear HS; have HS := H1; clear H1) | ((with_reducible apply sLoadB HS); infer_instance; rfl; rfl; (repeat (first | exact List.Mem.head _ | apply List.Mem.tail)); (first | exact HZB.out | exact HZ1.out | exact HZ2.out)) | (go_at_call 11; (with_reducible refine (list_any HS bs HL.out).mono ?_); rintro e w' H1; rw [HSO.out] at H1; obtain ⟨g1, rfl, H2⟩ := H1; clear HS; have HS := H2; clear H2) | (go_at_call 13; (with_reducible refine (pfind_any HS bs HL.out name).mono ?_); rintro e w' ⟨rfl, H2⟩; clear HS; have HS := H2; clear H2; rw [HAB.out]) | (go_at_call 15; (with_reducible refine (HM.out _).mono ?_); rintro e w' ⟨rfl, H1⟩; replace HS := HS.fresh H1; clear H1) | (go_at_call 23; (first | ((with_reducible refine (lfind HS bs HL.out other).mono ?_); rintro e w' ⟨rfl, H2⟩; clear HS; have HS := H2; clear H2; rw [HFO.out]) | ((with_reducible refine (lfind HS c1 HL1.out name).mono ?_); rintro e w' ⟨rfl, H2⟩; clear HS; have HS := H2; clear H2; rw [HF1.out]))) | ((with_reducible apply sAlloc HS); infer_instance; (first | exact cells_agg _ | exact cells_one rfl); rfl; intro C w' H1; clear HS; have HS := H1; clear H1) | ((with_reducible apply sStoreB HS); infer_instance; rfl; rfl; (conv => (lhs; whnf)); (repeat (first | exact Rep.here | apply Rep.there)); exact HZB.out; exact z256.out; exact encB_one _; intro w' H1; clear HS; have HS := H1; clear H1) | (go_at_call 19; (first | ((with_reducible refine (rem_any bs HS HL.out name).mono ?_); rintro e w' ⟨rfl, H2⟩; clear HS; have HS := H2; clear H2; rw [HR1.out] at HS ⊢) | ((with_reducible refine (rem_any c1 HS HL1.out name).mono ?_); rintro e w' ⟨rfl, H2⟩; clear HS; have HS := H2; clear H2; rw [HR2.out] at HS ⊢))))
            go_loopw [14] (fun i wr => ∃ m : Nat, m ≤ f ∧ i = .int .i64 m ∧ St none' w wr [.blk true C (encB c1) 23, .blk true g1 (rowS l) 33, .blk true Bb (encB bs) 23]) (fun i _ => f - (intOf i).toNat)
            case atStart => exact ⟨0, by omega, rfl, HS⟩
            case round =>
              obtain ⟨m, hm, rfl, HS⟩ := hrel
              by_cases hmf : m < f
              · obtain ⟨y, hy⟩ : ∃ y, l[m]? = some y := ⟨_, List.getElem?_eq_getElem (by have := HLL.out; omega)⟩
                have hy0 := HPRE.out m y hmf hy
                have hyn : (y.1 != 0) = true := by rw [bne, hy0]; rfl
                have HC : Hid ((rowS l)[m * 2]? = some (.int .u32 y.1)) := rowS_part l m y hy 0 _ rfl
                have hma : (m : Int) < (at_ : Int) := by omega
                clear hy hy0
                go_wp2_with (first | ((with_reducible apply sLoad1 HS); infer_instance; rfl; rfl; (repeat (first | exact List.Mem.head _ | apply List.Mem.tail)); exact HC.out))
                go_roundw
                case rel => exact ⟨m + 1, by omega, by go_num, HS⟩
                case measure => simp [intOf]; omega
              · obtain rfl : m = f := by omega
                by_cases hlt : m < at_
                · have HC : Hid ((rowS l)[m * 2]? = some (.int .u32 0)) := rowS_part l m zSl (HPOST.out hlt) 0 _ rfl
                  have hma : (m : Int) < (at_ : Int) := by omega
                  have hm1 : ((m : Int) != (m : Int)) = false := by simp
                  go_wp2_with (first | ((with_reducible apply sLoad1 HS); infer_instance; rfl; rfl; (repeat (first | exact List.Mem.head _ | apply List.Mem.tail)); exact HC.out) | (go_at_call 17; (with_reducible refine (add_any c1 HS HL1.out other HNM.out ino i0 i1).mono ?_); rintro e w' ⟨rfl, H2⟩; clear HS; have HS := H2; clear H2; rw [HA.out] at HS ⊢) | ((with_reducible apply sLoadB HS); infer_instance; rfl; rfl; (repeat (first | exact List.Mem.head _ | apply List.Mem.tail)); (first | exact HZB.out | exact HZ1.out | exact HZ2.out)) | (go_at_call 13; (with_reducible refine (pfind_any HS c2 HL2.out other).mono ?_); rintro e w' ⟨rfl, H2⟩; clear HS; have HS := H2; clear H2; rw [HF2.out]; simp only [findV]))
                  go_loopw [17] (fun i wr => ∃ k : Nat, k ≤ 8 ∧ i = .int .i64 k ∧ St none' w wr [.blk true C (encB c2) 23, .blk true g1 (rowS l) 33, .blk true Bb (encB bs) 23]) (fun i _ => 8 - (intOf i).toNat)
                  case atStart => exact ⟨0, by omega, rfl, HS⟩
                  case round =>
                    obtain ⟨k, hk, rfl, HS⟩ := hrel
                    by_cases hk8 : k < 8
                    · obtain ⟨x, hx⟩ : ∃ x, l[k]? = some x := ⟨_, List.getElem?_eq_getElem (by have := HLL.out; omega)⟩
                      by_cases hka : k = at_
                      · subst hka
                        have n1 : ((k : Int) != (k : Int)) = false := by simp
                        go_wp2_with (first | ((with_reducible apply sLoadB HS); infer_instance; rfl; rfl; (repeat (first | exact List.Mem.head _ | apply List.Mem.tail)); (first | exact HZB.out | exact HZ1.out | exact HZ2.out)) | (go_at_call 11; (with_reducible refine (list_any HS c2 HL2.out).mono ?_); rintro e w' H1; rw [HS2.out] at H1; obtain ⟨g2, rfl, H2⟩ := H1; clear HS; have HS := H2; clear H2))
                        (try simp only [Act.put])
                        refine wp_region_quietF (by kernel_rfl) (by kernel_rfl) ?_
                        repeat (first | go_big_quiet_skip | (go_big_quiet_want; go_big_quiet_op; first | go_big_quiet_on | (refine ⟨_, fun _ _ => rfl, ?_⟩; go_big_quiet_on) | (apply Exists.intro; refine ⟨fun wc hfr => ?_, ?_⟩; (· fail); go_big_quiet_on)))
                        refine wpQuiet_nil ?_
                        intro w1 hm1
                        replace HS := HS.fresh hm1
                        clear hm1
                        go_wp2
                        go_roundw
                        case rel => exact ⟨k + 1, by omega, by go_num, HS.tail⟩
                        case measure => simp [intOf]; omega
                      · have n1 : ((k : Int) != (at_ : Int)) = true := by simp; omega
                        by_cases hkf : k = m
                        · subst hkf
                          have n2 : ((k : Int) != (k : Int)) = false := by simp
                          go_wp2_with (first | ((with_reducible apply sLoadB HS); infer_instance; rfl; rfl; (repeat (first | exact List.Mem.head _ | apply List.Mem.tail)); (first | exact HZB.out | exact HZ1.out | exact HZ2.out)) | (go_at_call 11; (with_reducible refine (list_any HS c2 HL2.out).mono ?_); rintro e w' H1; rw [HS2.out] at H1; obtain ⟨g2, rfl, H2⟩ := H1; clear HS; have HS := H2; clear H2))
                          (try simp only [Act.put])
                          refine wp_region_quietF (by kernel_rfl) (by kernel_rfl) ?_
                          repeat (first | go_big_quiet_skip | (go_big_quiet_want; go_big_quiet_op; first | go_big_quiet_on | (refine ⟨_, fun _ _ => rfl, ?_⟩; go_big_quiet_on) | (apply Exists.intro; refine ⟨fun wc hfr => ?_, ?_⟩; (· fail); go_big_quiet_on)))
                          refine wpQuiet_nil ?_
                          intro w1 hm1
                          replace HS := HS.fresh hm1
                          clear hm1
                          go_wp2
                          go_roundw
                          case rel => exact ⟨k + 1, by omega, by go_num, HS.tail⟩
                          case measure => simp [intOf]; omega
                        · have n2 : ((k : Int) != (m : Int)) = true := by simp; omega
                          have HP1 := Lib.hid (sl_parts l k x hx)
                          have HP2 := Lib.hid (sl_parts l2 k x (HSAME.out k x hka hkf hx))
                          have HQV : Hid ((!((x.1 == x.1) && (x.2 == x.2))) = false) := by show _ = _; simp
                          clear hx
                          go_wp2_with (first | ((with_reducible apply sLoadB HS); infer_instance; rfl; rfl; (repeat (first | exact List.Mem.head _ | apply List.Mem.tail)); (first | exact HZB.out | exact HZ1.out | exact HZ2.out)) | (go_at_call 11; (with_reducible refine (list_any HS c2 HL2.out).mono ?_); rintro e w' H1; rw [HS2.out] at H1; obtain ⟨g2, rfl, H2⟩ := H1; clear HS; have HS := H2; clear H2))
                          have HQ1 := Lib.hid (row_range HLL.out (HS.blk (rw := true) (B := g1) (cs := rowS l) (t := 33) (by (repeat (first | exact List.Mem.head _ | apply List.Mem.tail)))))
                          have HQ2 := Lib.hid (row_range HLL2.out (HS.blk (rw := true) (B := g2) (cs := rowS l2) (t := 33) (by (repeat (first | exact List.Mem.head _ | apply List.Mem.tail)))))
                          (try simp only [Act.put])
                          refine wp_region_quietF (by kernel_rfl) (by kernel_rfl) ?_
                          repeat (first | go_big_quiet_skip | (((with_reducible refine qLoadR (n := 2) (o := 0) (i := k * 2) (B := g1) ?_ HQ1.out ?_ ?_ HP1.out ?_ ?_); infer_instance; rfl; (first | (rw [Nat.zero_add]; done) | (rw [Nat.zero_add]; rfl)); rfl); (try simp only [Act.put, List.setIfInBounds_toArray, List.set_cons_zero, List.set_cons_succ])) | (((with_reducible refine qLoadR (n := 2) (o := 0) (i := k * 2) (B := g2) ?_ HQ2.out ?_ ?_ HP2.out ?_ ?_); infer_instance; rfl; (first | (rw [Nat.zero_add]; done) | (rw [Nat.zero_add]; rfl)); rfl); (try simp only [Act.put, List.setIfInBounds_toArray, List.set_cons_zero, List.set_cons_succ])) | (((with_reducible apply qVal (valNe2 slot_two u32As strAs rfl rfl)); rfl; rw [HQV.out]); (try simp only [Act.put, List.setIfInBounds_toArray, List.set_cons_zero, List.set_cons_succ])) | (go_big_quiet_want; go_big_quiet_op; first | go_big_quiet_on | (refine ⟨_, fun _ _ => rfl, ?_⟩; go_big_quiet_on) | (apply Exists.intro; refine ⟨fun wc hfr => ?_, ?_⟩; (· fail); go_big_quiet_on)))
                          refine wpQuiet_nil ?_
                          intro w1 hm1
                          replace HS := HS.fresh hm1
                          clear hm1
                          go_wp2
                          go_roundw
                          case rel => exact ⟨k + 1, by omega, by go_num, HS.tail⟩
                          case measure => simp [intOf]; omega
                    · obtain rfl : k = 8 := by omega
                      go_wp2
                      go_ret
                      exact ⟨rfl, HS.below⟩
                · obtain rfl : m = at_ := by omega
                  have hm1 : ((m : Int) != (m : Int)) = false := by simp
                  go_wp2_with (first | ((with_reducible apply sLoad1 HS); infer_instance; rfl; rfl; (repeat (first | exact List.Mem.head _ | apply List.Mem.tail)); exact HC.out) | (go_at_call 17; (with_reducible refine (add_any c1 HS HL1.out other HNM.out ino i0 i1).mono ?_); rintro e w' ⟨rfl, H2⟩; clear HS; have HS := H2; clear H2; rw [HA.out] at HS ⊢) | ((with_reducible apply sLoadB HS); infer_instance; rfl; rfl; (repeat (first | exact List.Mem.head _ | apply List.Mem.tail)); (first | exact HZB.out | exact HZ1.out | exact HZ2.out)) | (go_at_call 13; (with_reducible refine (pfind_any HS c2 HL2.out other).mono ?_); rintro e w' ⟨rfl, H2⟩; clear HS; have HS := H2; clear H2; rw [HF2.out]; simp only [findV]))
                  go_loopw [17] (fun i wr => ∃ k : Nat, k ≤ 8 ∧ i = .int .i64 k ∧ St none' w wr [.blk true C (encB c2) 23, .blk true g1 (rowS l) 33, .blk true Bb (encB bs) 23]) (fun i _ => 8 - (intOf i).toNat)
                  case atStart => exact ⟨0, by omega, rfl, HS⟩
                  case round =>
                    obtain ⟨k, hk, rfl, HS⟩ := hrel
                    by_cases hk8 : k < 8
                    · obtain ⟨x, hx⟩ : ∃ x, l[k]? = some x := ⟨_, List.getElem?_eq_getElem (by have := HLL.out; omega)⟩
                      by_cases hka : k = m
                      · subst hka
                        have n1 : ((k : Int) != (k : Int)) = false := by simp
                        go_wp2_with (first | ((with_reducible apply sLoadB HS); infer_instance; rfl; rfl; (repeat (first | exact List.Mem.head _ | apply List.Mem.tail)); (first | exact HZB.out | exact HZ1.out | exact HZ2.out)) | (go_at_call 11; (with_reducible refine (list_any HS c2 HL2.out).mono ?_); rintro e w' H1; rw [HS2.out] at H1; obtain ⟨g2, rfl, H2⟩ := H1; clear HS; have HS := H2; clear H2))
                        (try simp only [Act.put])
                        refine wp_region_quietF (by kernel_rfl) (by kernel_rfl) ?_
                        repeat (first | go_big_quiet_skip | (go_big_quiet_want; go_big_quiet_op; first | go_big_quiet_on | (refine ⟨_, fun _ _ => rfl, ?_⟩; go_big_quiet_on) | (apply Exists.intro; refine ⟨fun wc hfr => ?_, ?_⟩; (· fail); go_big_quiet_on)))
                        refine wpQuiet_nil ?_
                        intro w1 hm1
                        replace HS := HS.fresh hm1
                        clear hm1
                        go_wp2
                        go_roundw
                        case rel => exact ⟨k + 1, by omega, by go_num, HS.tail⟩
                        case measure => simp [intOf]; omega
                      · have n1 : ((k : Int) != (m : Int)) = true := by simp; omega
                        by_cases hkf : k = m
                        · exact absurd hkf hka
                        · have n2 : ((k : Int) != (m : Int)) = true := by simp; omega
                          have HP1 := Lib.hid (sl_parts l k x hx)
                          have HP2 := Lib.hid (sl_parts l2 k x (HSAME.out k x hka hkf hx))
                          have HQV : Hid ((!((x.1 == x.1) && (x.2 == x.2))) = false) := by show _ = _; simp
                          clear hx
                          go_wp2_with (first | ((with_reducible apply sLoadB HS); infer_instance; rfl; rfl; (repeat (first | exact List.Mem.head _ | apply List.Mem.tail)); (first | exact HZB.out | exact HZ1.out | exact HZ2.out)) | (go_at_call 11; (with_reducible refine (list_any HS c2 HL2.out).mono ?_); rintro e w' H1; rw [HS2.out] at H1; obtain ⟨g2, rfl, H2⟩ := H1; clear HS; have HS := H2; clear H2))
                          have HQ1 := Lib.hid (row_range HLL.out (HS.blk (rw := true) (B := g1) (cs := rowS l) (t := 33) (by (repeat (first | exact List.Mem.head _ | apply List.Mem.tail)))))
                          have HQ2 := Lib.hid (row_range HLL2.out (HS.blk (rw := true) (B := g2) (cs := rowS l2) (t := 33) (by (repeat (first | exact List.Mem.head _ | apply List.Mem.tail)))))
                          (try simp only [Act.put])
                          refine wp_region_quietF (by kernel_rfl) (by kernel_rfl) ?_
                          repeat (first | go_big_quiet_skip | (((with_reducible refine qLoadR (n := 2) (o := 0) (i := k * 2) (B := g1) ?_ HQ1.out ?_ ?_ HP1.out ?_ ?_); infer_instance; rfl; (first | (rw [Nat.zero_add]; done) | (rw [Nat.zero_add]; rfl)); rfl); (try simp only [Act.put, List.setIfInBounds_toArray, List.set_cons_zero, List.set_cons_succ])) | (((with_reducible refine qLoadR (n := 2) (o := 0) (i := k * 2) (B := g2) ?_ HQ2.out ?_ ?_ HP2.out ?_ ?_); infer_instance; rfl; (first | (rw [Nat.zero_add]; done) | (rw [Nat.zero_add]; rfl)); rfl); (try simp only [Act.put, List.setIfInBounds_toArray, List.set_cons_zero, List.set_cons_succ])) | (((with_reducible apply qVal (valNe2 slot_two u32As strAs rfl rfl)); rfl; rw [HQV.out]); (try simp only [Act.put, List.setIfInBounds_toArray, List.set_cons_zero, List.set_cons_succ])) | (go_big_quiet_want; go_big_quiet_op; first | go_big_quiet_on | (refine ⟨_, fun _ _ => rfl, ?_⟩; go_big_quiet_on) | (apply Exists.intro; refine ⟨fun wc hfr => ?_, ?_⟩; (· fail); go_big_quiet_on)))
                          refine wpQuiet_nil ?_
                          intro w1 hm1
                          replace HS := HS.fresh hm1
                          clear hm1
                          go_wp2
                          go_roundw
                          case rel => exact ⟨k + 1, by omega, by go_num, HS.tail⟩
                          case measure => simp [intOf]; omega
                    · obtain rfl : k = 8 := by omega
                      go_wp2
                      go_ret
                      exact ⟨rfl, HS.below⟩
          · have HFO := Lib.hid hfo
            have hi0' := beq_eq_false_iff_ne.1 hi0
            clear hs hf hok hfo
            go_enter Try.func8, Try.ntmps8
            go_wp2_with (first | (go_at_call 21; refine (aw.awake_any _).mono ?_; rintro e w' ⟨rfl, H1⟩; replace HS := HS.fresh H1; clear H1) | ((with_reducible apply sBox HS); rfl; (conv => (lhs; whnf)); (first | exact cells_agg _ | exact cells_one rfl); intro Bb w' H1; clear HS; have HS := H1; clear H1) | ((with_reducible apply sLoadB HS); infer_instance; rfl; rfl; (repeat (first | exact List.Mem.head _ | apply List.Mem.tail)); exact HZB.out) | (go_at_call 11; (with_reducible refine (list_any HS bs HL.out).mono ?_); rintro e w' H1; rw [HSO.out] at H1; obtain ⟨g1, rfl, H2⟩ := H1; clear HS; have HS := H2; clear H2) | (go_at_call 13; (with_reducible refine (pfind_any HS bs HL.out name).mono ?_); rintro e w' ⟨rfl, H2⟩; clear HS; have HS := H2; clear H2; rw [HAB.out]) | (go_at_call 15; (with_reducible refine (HM.out _).mono ?_); rintro e w' ⟨rfl, H1⟩; replace HS := HS.fresh H1; clear H1) | (go_at_call 23; (with_reducible refine (lfind HS bs HL.out other).mono ?_); rintro e w' ⟨rfl, H2⟩; clear HS; have HS := H2; clear H2; rw [HFO.out]))
            go_ret
            exact ⟨rfl, HS.below⟩
        · clear hs hf hok
          go_enter Try.func8, Try.ntmps8
          go_wp2_with (first | (go_at_call 21; refine (aw.awake_any _).mono ?_; rintro e w' ⟨rfl, H1⟩; replace HS := HS.fresh H1; clear H1) | ((with_reducible apply sBox HS); rfl; (conv => (lhs; whnf)); (first | exact cells_agg _ | exact cells_one rfl); intro Bb w' H1; clear HS; have HS := H1; clear H1) | ((with_reducible apply sLoadB HS); infer_instance; rfl; rfl; (repeat (first | exact List.Mem.head _ | apply List.Mem.tail)); exact HZB.out) | (go_at_call 11; (with_reducible refine (list_any HS bs HL.out).mono ?_); rintro e w' H1; rw [HSO.out] at H1; obtain ⟨g1, rfl, H2⟩ := H1; clear HS; have HS := H2; clear H2) | (go_at_call 13; (with_reducible refine (pfind_any HS bs HL.out name).mono ?_); rintro e w' ⟨rfl, H2⟩; clear HS; have HS := H2; clear H2; rw [HAB.out]) | (go_at_call 15; (with_reducible refine (HM.out _).mono ?_); rintro e w' ⟨rfl, H1⟩; replace HS := HS.fresh H1; clear H1) | (go_at_call 23; (with_reducible refine (lfind HS bs HL.out other).mono ?_); rintro e w' ⟨rfl, H2⟩; clear HS; have HS := H2; clear H2; rw [HFO.out]))
          go_ret
          exact ⟨rfl, HS.below⟩

set_option maxRecDepth 100000 in
theorem lifted (os : Os) (started : os.Started) (H : Type) (enc : TypeId × Value → H) :
    ReturnsInHanded {} Try.checked os 8 .any (Rows.slotsGoneSpec.pre6 enc Try.prog Try.f8 Rows.slotsGoneRow.domain false) (Rows.slotsGoneSpec.post enc Try.prog Try.f8 false true false false) := by
  refine law_lift (C := Try.checked) own started (by kernel_rfl) Try.func8 laidOut rfl Try.underlying4 rfl ?hs (by kernel_rfl)
    (ChangeSpec.witness6 (enc := enc) (C := Try.checked) false ⟨#[], #[.agg (encB Z256), .string ByteArray.empty, .string ByteArray.empty, .int .u32 0], []⟩ 8 (by kernel_rfl) (by kernel_rfl) (by kernel_rfl) (by kernel_rfl)) ?hwalk
  case hs =>
    intro ds h
    match ds, h with
    | [d0, d1, d2, d3], _ => rfl
  case hwalk =>
    intro W args hn ha
    obtain ⟨l⟩ := args
    match l, hn with
    | [v0, v1, v2, v3], _ =>
      obtain ⟨bs, hl, rfl⟩ := blk_arg (ha 0 _ _ rfl rfl)
      obtain ⟨name, rfl, _⟩ := (ha 1 _ _ rfl rfl).string Try.underlying9
      obtain ⟨other, rfl, hn⟩ := (ha 2 _ _ rfl rfl).string Try.underlying9
      obtain ⟨ino, rfl, hi⟩ := (ha 3 _ _ rfl rfl).int Try.underlying31
      exact walk bs hl name other hn ino (u32_wf hi).1 (u32_wf hi).2 W

theorem over : Rows.slotsGoneRow.holds Try.pinned (OpenSpec.ofChange Rows.slotsGoneSpec) :=
  OpenClaim.holds_of_wide 8 Try.f8 rfl rfl rfl rfl rfl rfl rfl ⟨rfl, rfl, rfl, rfl, rfl⟩ rfl rfl rfl rfl rfl (by kernel_rfl) Try.func8 (by kernel_rfl)
    (of_decide_eq_true (by kernel_rfl)) (by unfold Func.isWrapper; first | (rw [if_pos (by decide +kernel)]; kernel_rfl) | (rw [if_neg (by decide +kernel)]; exact ⟨rfl, rfl⟩))
    (fun os started H enc _ => lifted os started H enc)

theorem proved : Rows.SlotsGoneSaid := over
#print axioms proved
end Go.Proofs.Ytdpbdmbgdcdmaaa.slotsGone
