/- A block's slots. -/
import Derived.Test.YtdpbdmbgdcdmaaaSl
namespace Go.Proofs.Ytdpbdmbgdcdmaaa
open Go Go.RowKit

def encS (l : List Sl) : List Value := l.flatMap slV
theorem slV_len (l : List Sl) : ∀ x ∈ l, (slV x).length = 2 := fun _ _ => rfl
theorem encS_len (l : List Sl) : (encS l).length = l.length * 2 := flat_len _ _ _ (slV_len l)
abbrev zSl : Sl := (0, ByteArray.empty)
def slotStep (bs : List UInt8) (i : Nat) (l : List Sl) : Option (List Sl) :=
  match rdSlot bs (32 * i) with
  | none => none
  | some x => if x.1 ≠ 0 ∧ (l.any fun y => y.2 == x.2) = true then none else some (l ++ [x])
def slotsTo (bs : List UInt8) : Nat → Option (List Sl)
  | 0 => some []
  | i + 1 => (slotsTo bs i).bind (slotStep bs i)
/-- What a block's slots are, or that it is none of slots. -/
def slotsOf (bs : List UInt8) : Option (List Sl) := slotsTo bs 8
theorem slotStep_len {bs : List UInt8} {i : Nat} {l l' : List Sl} (h : slotStep bs i l = some l') : l'.length = l.length + 1 := by
  unfold slotStep at h
  split at h
  · cases h
  · split at h
    · cases h
    · cases h; simp
theorem slotsTo_len {bs : List UInt8} : ∀ {i : Nat} {l : List Sl}, slotsTo bs i = some l → l.length = i
  | 0, l, h => by cases h; rfl
  | i + 1, l, h => by
    obtain ⟨l1, h1, h2⟩ := Option.bind_eq_some_iff.1 h
    rw [slotStep_len h2, slotsTo_len h1]
theorem slotsTo_none {bs : List UInt8} {i : Nat} (h : slotsTo bs i = none) : ∀ d, slotsTo bs (i + d) = none
  | 0 => h
  | d + 1 => by show (slotsTo bs (i + d)).bind _ = none; rw [slotsTo_none h d]; rfl
theorem slotsOf_none {bs : List UInt8} {i : Nat} (hi : i ≤ 8) (h : slotsTo bs i = none) : slotsOf bs = none := by
  have := slotsTo_none h (8 - i)
  rwa [show i + (8 - i) = 8 by omega] at this
theorem slotsTo_succ {bs : List UInt8} {i : Nat} {l : List Sl} (h : slotsTo bs i = some l) : slotsTo bs (i + 1) = slotStep bs i l := by
  show (slotsTo bs i).bind _ = _; rw [h]; rfl

/-- The cells of eight slots, some of which are read. -/
def rowS (l : List Sl) : Array Value := (encS (l ++ List.replicate (8 - l.length) zSl)).toArray
theorem rowS_size (l : List Sl) (h : l.length ≤ 8) : (rowS l).size = 16 := by
  unfold rowS
  rw [List.size_toArray, encS_len, List.length_append, List.length_replicate]; omega
theorem rowS_zero : madeCells noSl.cells (8 * 2) = rowS [] := by
  rw [show noSl.cells = #[.int .u32 0, .string ByteArray.empty] from rfl, made_two]; rfl
theorem rowS_set (l : List Sl) (x : Sl) (h : l.length < 8) : splice (rowS l) (l.length * 2) (slV x) = rowS (l ++ [x]) := by
  unfold rowS splice
  have h1 := flat_set slV 2 (l ++ List.replicate (8 - l.length) zSl) (slV_len _) l.length x rfl (by rw [List.length_append, List.length_replicate]; omega)
  unfold spl at h1
  show (List.take (l.length * 2) (encS _) ++ slV x ++ List.drop (l.length * 2 + (slV x).length) (encS _)).toArray = _
  rw [show encS (l ++ List.replicate (8 - l.length) zSl) = List.flatMap slV (l ++ List.replicate (8 - l.length) zSl) from rfl, h1]
  congr 1
  unfold encS
  congr 1
  obtain ⟨d, hd⟩ : ∃ d, 8 - l.length = d + 1 := ⟨8 - l.length - 1, by omega⟩
  rw [hd, List.set_append_right _ _ (Nat.le_refl _), Nat.sub_self, List.replicate_succ, List.set_cons_zero]
  rw [List.length_append, List.length_singleton, show 8 - (l.length + 1) = d by omega, List.append_assoc]
  rfl
theorem rowS_part (l : List Sl) (k : Nat) (x : Sl) (h : l[k]? = some x) : ∀ j v, (slV x)[j]? = some v → (rowS l)[k * 2 + j]? = some v := by
  intro j v hv
  unfold rowS
  rw [List.getElem?_toArray]
  have hk := (List.getElem?_eq_some_iff.1 h).1
  exact flat_part slV 2 _ (slV_len _) k x (by rw [List.getElem?_append_left hk]; exact h) j v hv
theorem rowS_full (l : List Sl) (h : l.length = 8) : rowS l = (encS l).toArray := by
  unfold rowS; rw [h]; simp

theorem piece_any (B i : Nat) (w : World) (hi : i < 8) :
    Calls Try.prog 28 #[.slice (some ⟨B, 0, none⟩) 256 256, .int .i64 i] w fun e w' => e = .returned (.slice (some ⟨B, 32 * i, none⟩) 32 32) ∧ w = w' := by
  rcases (by omega : i = 0 ∨ i = 1 ∨ i = 2 ∨ i = 3 ∨ i = 4 ∨ i = 5 ∨ i = 6 ∨ i = 7) with rfl | rfl | rfl | rfl | rfl | rfl | rfl | rfl
  all_goals
    go_enter Try.func28, Try.ntmps28
    go_wp2
    go_ret
    exact ⟨rfl, rfl⟩

/-- What List hands back. -/
def ListP (S : Nat → Prop) (w0 w' : World) (L : List Ass) (e : Ending) : Option (List Sl) → Prop
  | none => e = .returned (.tuple #[.slice none 0 0, .int .i64 80]) ∧ St S w0 w' L
  | some l => ∃ g, e = .returned (.tuple #[.slice (some ⟨g, 0, none⟩) 8 8, .int .i64 0]) ∧ St S w0 w' (.blk true g (rowS l) 33 :: L)
theorem infoS : (Try.prog.info? 33 ).map (fun i => (i.zero, i.size, i.bytes)) = some (some noSl, 2, 24) := by kernel_rfl

section
variable {S : Nat → Prop} {w0 w : World} {L : List Ass}
set_option maxRecDepth 100000 in
set_option maxHeartbeats 8000000 in
theorem list_any (HS : St S w0 w L) (bs : List UInt8) (hl : bs.length = 256) :
    Calls Try.prog 11 #[.agg (encB bs)] w fun e w' => ListP S w0 w' L e (slotsOf bs) := by
  have HL := Lib.hid hl
  have hl1 : bs.length ≤ 100000 := by omega
  have hl2 : 256 ≤ bs.length := by omega
  have HO : Hid (∀ i, i ≤ 8 → slotsTo bs i = none → slotsOf bs = none) := fun i => slotsOf_none
  have HO8 : Hid (∀ l, slotsTo bs 8 = some l → slotsOf bs = some l) := fun l h => h
  clear hl
  generalize slotsOf bs = r at HO HO8 ⊢
  go_enter Try.func11, Try.ntmps11
  go_wp2_with ((with_reducible apply sBox HS); rfl; (conv => (lhs; whnf)); (first | exact cells_agg _ | exact cells_one rfl); intro Bb w' H1; clear HS; have HS := H1; clear H1)
  go_step3
  go_wp2_with (first | ((with_reducible apply sBox HS); rfl; (conv => (lhs; whnf)); (first | exact cells_agg _ | exact cells_one rfl); intro Bb w' H1; clear HS; have HS := H1; clear H1) | ((with_reducible apply sMake (n := 8) HS Try.underlying24 infoS); rfl; rfl; rfl; omega; omega; intro Bz w' H1'; clear HS; have HS := H1'; clear H1'))
  rw [rowS_zero] at HS
  go_step3
  go_wp2_with (fail)
  go_loopw [13] (fun i wr => ∃ (k : Nat) (l : List Sl), k ≤ 8 ∧ i = .int .i64 k ∧ Hid (slotsTo bs k = some l) ∧ St S w0 wr (.blk true Bz (rowS l) 33 :: .blk true Bb (encB bs) 23 :: L)) (fun i _ => 8 - (intOf i).toNat)
  case atStart => exact ⟨0, [], by omega, rfl, rfl, HS⟩
  case round =>
    obtain ⟨k, l, hk, rfl, HT, HS⟩ := hrel
    have hlen := slotsTo_len HT.out
    by_cases hlt : k < 8
    · cases hr : rdSlot bs (32 * k)
      · have HN : Hid (r = none) := HO.out (k + 1) (by omega) (by rw [slotsTo_succ HT.out]; unfold slotStep; rw [hr])
        have HRD := Lib.hid hr
        clear hr hlen
        go_wp2_with (first | (go_at_call 28; refine (piece_any _ k _ hlt).mono ?_; rintro e w' ⟨rfl, rfl⟩) | (go_at_call 27; refine (read_any Bb (32 * k) bs 23 _ (HS.blk (.tail _ (.head _))) (by omega) hl1).mono ?_; rintro e w' ⟨rfl, H1⟩; replace HS := HS.fresh H1; clear H1; rw [HRD.out]; simp only [rdV]) | ((with_reducible apply sAlloc HS); infer_instance; (first | exact cells_agg _ | exact cells_one rfl); rfl; intro X w' H1; clear HS; have HS := H1; clear H1) | ((with_reducible apply sStoreB HS); infer_instance; rfl; rfl; (conv => (lhs; whnf)); (repeat (first | exact Rep.here | apply Rep.there)); rfl; rfl; exact (by intro u hu; simp at hu; rcases hu with rfl | rfl <;> rfl); intro w' H1; clear HS; have HS := H1; clear H1))
        rw [Exit.noGoto_ret]
        refine bodyPost_ret (res2 rfl (resTmp _ _ _) (resTmp _ _ _)) rfl ?_
        rw [HN.out]
        exact ⟨rfl, (HS.sub (List.Sublist.cons _ (List.Sublist.cons _ (List.Sublist.cons _ (List.Sublist.refl _)))))⟩
      · rename_i x
        obtain ⟨v, nm⟩ := x
        have HRD := Lib.hid hr
        have HSE : Hid (splice (rowS l) (l.length * 2) [.int .u32 v, .string nm] = rowS (l ++ [(v, nm)])) := rowS_set l (v, nm) (by omega)
        have HLN := Lib.hid hlen
        have hsz := rowS_size l (by omega)
        have HSZ := Lib.hid hsz
        rw [hlen] at HSE
        clear hr hlen hsz
        go_wp2_with (first | (go_at_call 28; refine (piece_any _ k _ hlt).mono ?_; rintro e w' ⟨rfl, rfl⟩) | (go_at_call 27; refine (read_any Bb (32 * k) bs 23 _ (HS.blk (.tail _ (.head _))) (by omega) hl1).mono ?_; rintro e w' ⟨rfl, H1⟩; replace HS := HS.fresh H1; clear H1; rw [HRD.out]; simp only [rdV, slV]) | ((with_reducible apply sAlloc HS); infer_instance; (first | exact cells_agg _ | exact cells_one rfl); rfl; intro X w' H1; clear HS; have HS := H1; clear H1) | ((with_reducible apply sStoreB HS); infer_instance; rfl; rfl; (conv => (lhs; whnf)); (repeat (first | exact Rep.here | apply Rep.there)); rfl; rfl; exact (by intro u hu; simp at hu; rcases hu with rfl | rfl <;> rfl); intro w' H1; clear HS; have HS := H1; clear H1) | ((with_reducible apply sLoadB HS); infer_instance; rfl; rfl; (repeat (first | exact List.Mem.head _ | apply List.Mem.tail)); rfl) | ((with_reducible apply sStoreN HS); infer_instance; rfl; rfl; (conv => (lhs; whnf)); (repeat (first | exact Rep.here | apply Rep.there)); rfl; (rw [HSZ.out]; simp; omega); (intro u hu; simp at hu; rcases hu with rfl | rfl <;> rfl); intro w' H1; clear HS; have HS := H1; clear H1; simp only [HSE.out] at HS))
        go_loopw [33] (fun j wr => ∃ m : Nat, m ≤ k ∧ j = .int .i64 m ∧ Hid (v = 0 → m = 0) ∧ Hid ((l.take m).any (fun y => y.2 == nm) = false) ∧ St S w0 wr (.blk true X #[.int .u32 v, .string nm] 33 :: .blk true Bz (rowS (l ++ [(v, nm)])) 33 :: .blk true Bb (encB bs) 23 :: L)) (fun j _ => k - (intOf j).toNat)
        case atStart => exact ⟨0, by omega, rfl, fun _ => rfl, rfl, HS⟩
        case round =>
          obtain ⟨m, hm, rfl, hv0, HA, HS⟩ := hrel
          by_cases hml : m < k
          · obtain ⟨y, hy⟩ : ∃ y, l[m]? = some y := ⟨_, List.getElem?_eq_getElem (by have := HLN.out; omega)⟩
            obtain ⟨yv, yn⟩ := y
            have HP : Hid (∀ j u, [Value.int .u32 yv, .string yn][j]? = some u → (rowS (l ++ [(v, nm)]))[m * 2 + j]? = some u) := rowS_part (l ++ [(v, nm)]) m (yv, yn) (by rw [List.getElem?_append_left (by have := HLN.out; omega)]; exact hy)
            have HY := Lib.hid hy
            clear hy
            have HQ : Hid ((yn == nm) = (yn.toList == nm.toList)) := beq_toListBytes yn nm
            cases hvz : (v == 0)
            · have hvn := beq_eq_false_iff_ne.1 hvz
              have HVN := Lib.hid hvn
              clear hvn
              cases hq : (yn.toList == nm.toList)
              · have HQF : Hid ((yn == nm) = false) := HQ.out.trans hq
                go_wp2_with (first | ((with_reducible apply sLoad1 HS); infer_instance; rfl; rfl; (repeat (first | exact List.Mem.head _ | apply List.Mem.tail)); rfl) | ((with_reducible apply sLoadN HS); infer_instance; rfl; rfl; (repeat (first | exact List.Mem.head _ | apply List.Mem.tail)); exact HP.out; rfl) | ((with_reducible apply sAlloc HS); infer_instance; (first | exact cells_agg _ | exact cells_one rfl); rfl; intro Y w' H1; clear HS; have HS := H1; clear H1) | ((with_reducible apply sStoreB HS); infer_instance; rfl; rfl; (conv => (lhs; whnf)); (repeat (first | exact Rep.here | apply Rep.there)); rfl; rfl; exact (by intro u hu; simp at hu; rcases hu with rfl | rfl <;> rfl); intro w' H1; clear HS; have HS := H1; clear H1))
                go_roundw
                case rel =>
                  refine ⟨m + 1, by omega, by go_num, fun h => absurd h HVN.out, ?_, HS.tail⟩
                  show _ = _
                  rw [List.take_add_one, HY.out, Option.toList_some, List.any_append, HA.out]
                  simp only [List.any_cons, List.any_nil, HQF.out, Bool.or_false]
                case measure => simp [intOf]; omega
              · have HQF : Hid ((yn == nm) = true) := HQ.out.trans hq
                have HN : Hid (r = none) := HO.out (k + 1) (by omega) (by
                  rw [slotsTo_succ HT.out]; unfold slotStep; rw [HRD.out]
                  simp only
                  rw [if_pos ⟨HVN.out, List.any_eq_true.2 ⟨(yv, yn), List.mem_of_getElem? HY.out, HQF.out⟩⟩])
                go_wp2_with (first | ((with_reducible apply sLoad1 HS); infer_instance; rfl; rfl; (repeat (first | exact List.Mem.head _ | apply List.Mem.tail)); rfl) | ((with_reducible apply sLoadN HS); infer_instance; rfl; rfl; (repeat (first | exact List.Mem.head _ | apply List.Mem.tail)); exact HP.out; rfl) | ((with_reducible apply sAlloc HS); infer_instance; (first | exact cells_agg _ | exact cells_one rfl); rfl; intro Y w' H1; clear HS; have HS := H1; clear H1) | ((with_reducible apply sStoreB HS); infer_instance; rfl; rfl; (conv => (lhs; whnf)); (repeat (first | exact Rep.here | apply Rep.there)); rfl; rfl; exact (by intro u hu; simp at hu; rcases hu with rfl | rfl <;> rfl); intro w' H1; clear HS; have HS := H1; clear H1))
                rw [Exit.noGoto_ret]
                refine bodyPost_ret (res2 rfl (resTmp _ _ _) (resTmp _ _ _)) rfl ?_
                rw [HN.out]
                exact ⟨rfl, HS.tail.tail.tail.tail⟩
            · have HVZ := Lib.hid (beq_iff_eq.1 hvz)
              go_wp2_with (first | ((with_reducible apply sLoad1 HS); infer_instance; rfl; rfl; (repeat (first | exact List.Mem.head _ | apply List.Mem.tail)); rfl) | ((with_reducible apply sLoadN HS); infer_instance; rfl; rfl; (repeat (first | exact List.Mem.head _ | apply List.Mem.tail)); exact HP.out; rfl) | ((with_reducible apply sAlloc HS); infer_instance; (first | exact cells_agg _ | exact cells_one rfl); rfl; intro Y w' H1; clear HS; have HS := H1; clear H1) | ((with_reducible apply sStoreB HS); infer_instance; rfl; rfl; (conv => (lhs; whnf)); (repeat (first | exact Rep.here | apply Rep.there)); rfl; rfl; exact (by intro u hu; simp at hu; rcases hu with rfl | rfl <;> rfl); intro w' H1; clear HS; have HS := H1; clear H1))
              go_roundw
              case rel =>
                refine ⟨k + 1, l ++ [(v, nm)], by omega, by go_num, ?_, HS.tail.tail⟩
                show _ = _
                rw [slotsTo_succ HT.out]; unfold slotStep; rw [HRD.out]
                simp only
                rw [if_neg (fun h => h.1 HVZ.out)]
              case measure => simp [intOf]; omega
          · obtain rfl : m = k := by omega
            go_wp2_with (first | ((with_reducible apply sLoad1 HS); infer_instance; rfl; rfl; (repeat (first | exact List.Mem.head _ | apply List.Mem.tail)); rfl) | ((with_reducible apply sLoadN HS); infer_instance; rfl; rfl; (repeat (first | exact List.Mem.head _ | apply List.Mem.tail)); exact HP.out; rfl) | ((with_reducible apply sAlloc HS); infer_instance; (first | exact cells_agg _ | exact cells_one rfl); rfl; intro Y w' H1; clear HS; have HS := H1; clear H1) | ((with_reducible apply sStoreB HS); infer_instance; rfl; rfl; (conv => (lhs; whnf)); (repeat (first | exact Rep.here | apply Rep.there)); rfl; rfl; exact (by intro u hu; simp at hu; rcases hu with rfl | rfl <;> rfl); intro w' H1; clear HS; have HS := H1; clear H1))
            go_roundw
            case rel =>
              refine ⟨m + 1, l ++ [(v, nm)], by omega, by go_num, ?_, HS.tail⟩
              show _ = _
              rw [slotsTo_succ HT.out]; unfold slotStep; rw [HRD.out]
              simp only
              rw [if_neg (fun h => ?_)]
              have h2 := HA.out
              rw [List.take_of_length_le (by have := HLN.out; omega)] at h2
              rw [h2] at h
              exact absurd h.2 (by decide)
            case measure => simp [intOf]; omega
    · obtain rfl : k = 8 := by omega
      have HR := Lib.hid (HO8.out _ HT.out)
      go_wp2_with (first | ((with_reducible apply sLoad1 HS); infer_instance; rfl; rfl; (repeat (first | exact List.Mem.head _ | apply List.Mem.tail)); rfl) | ((with_reducible apply sLoadN HS); infer_instance; rfl; rfl; (repeat (first | exact List.Mem.head _ | apply List.Mem.tail)); exact HP.out; rfl) | ((with_reducible apply sAlloc HS); infer_instance; (first | exact cells_agg _ | exact cells_one rfl); rfl; intro Y w' H1; clear HS; have HS := H1; clear H1) | ((with_reducible apply sStoreB HS); infer_instance; rfl; rfl; (conv => (lhs; whnf)); (repeat (first | exact Rep.here | apply Rep.there)); rfl; rfl; exact (by intro u hu; simp at hu; rcases hu with rfl | rfl <;> rfl); intro w' H1; clear HS; have HS := H1; clear H1))
      rw [Exit.noGoto_ret]
      refine bodyPost_ret (res2 rfl (resTmp _ _ _) (resTmp _ _ _)) rfl ?_
      rw [HR.out]
      exact ⟨Bz, rfl, HS.sub (List.Sublist.cons_cons _ (List.Sublist.cons _ (List.Sublist.refl _)))⟩
end
end Go.Proofs.Ytdpbdmbgdcdmaaa
