/- The reference's slots: a name is added, removed; are slots the same. -/
import Derived.Test.YtdpbdmbgdcdmaaaSr3
namespace Go.Proofs.Ytdpbdmbgdcdmaaa
open Go Go.RowKit

theorem findV_parts (f : Option (Nat × Int)) : ∃ a b : Int, findV f = .tuple #[.int .i64 a, .int .u32 b] ∧ (f.isSome = true → 0 ≤ a) ∧ (f = none → a = -1) := by
  cases f with
  | none => exact ⟨-1, 0, rfl, by simp, fun _ => rfl⟩
  | some p => exact ⟨p.1, p.2, rfl, fun _ => by omega, by simp⟩
theorem find_ok {bs : List UInt8} {l : List Sl} (hs : slotsOf bs = some l) {name : ByteArray} (hok : okName name = true) : (findOf bs name).isSome = (idxS l name).isSome := by
  have := (okName_size hok).1
  unfold findOf
  rw [hs]
  simp only
  rw [if_neg (by omega), Option.isSome_map]
theorem void_iff {y : Sl} (hy : Fine y) : (y.2 == ByteArray.empty) = (y.1 == 0) := by
  rcases hy with ⟨h1, h2⟩ | ⟨h1, _, h3⟩
  · rw [h1, h2]; rfl
  · have h4 : (y.1 == 0) = false := beq_eq_false_iff_ne.2 (by omega)
    rw [h4, beq_eq_false_iff_ne]
    intro h5
    rw [h5] at h3; rw [okName_empty] at h3; cases h3
theorem void_hit {bs : List UInt8} {l : List Sl} (hs : slotsOf bs = some l) {m : Nat} {y : Sl} (hy : l[m]? = some y) (hno : ∀ (j : Nat) (z : Sl), j < m → l[j]? = some z → (z.1 == 0) = false) (hc : (y.1 == 0) = true) : idxS l ByteArray.empty = some m := by
  have hf := (slotsOf_iff.1 hs).rd
  refine idxS_some hy ?_ (by rw [void_iff (rdSlot_fine (hf m y hy))]; exact hc)
  rw [Bool.eq_false_iff]; intro h
  obtain ⟨z, hz, hq⟩ := List.any_eq_true.1 h
  obtain ⟨j, hj, rfl⟩ := List.getElem_of_mem hz
  rw [List.length_take] at hj
  rw [List.getElem_take] at hq
  have hjl := List.getElem?_eq_getElem (l := l) (i := j) (by omega)
  have := hno j l[j] (by omega) hjl
  rw [← void_iff (rdSlot_fine (hf j _ hjl)), hq] at this; cases this
theorem void_miss {bs : List UInt8} {l : List Sl} (hs : slotsOf bs = some l) (hno : ∀ (j : Nat) (z : Sl), l[j]? = some z → (z.1 == 0) = false) : idxS l ByteArray.empty = none := by
  have hf := (slotsOf_iff.1 hs).rd
  refine idxS_none ?_
  rw [Bool.eq_false_iff]; intro h
  obtain ⟨z, hz, hq⟩ := List.any_eq_true.1 h
  obtain ⟨j, hj, rfl⟩ := List.getElem_of_mem hz
  have hjl := List.getElem?_eq_getElem hj
  have := hno j l[j] hjl
  rw [← void_iff (rdSlot_fine (hf j _ hjl)), hq] at this; cases this

section
variable {S : Nat → Prop} {w0 w : World} {L : List Ass}
def addV (x : List UInt8 × Int) : Value := .tuple #[.agg (encB x.1), .int .i64 x.2]
def remV (x : List UInt8 × Bool) : Value := .tuple #[.agg (encB x.1), .bool x.2]
set_option maxRecDepth 100000 in
set_option maxHeartbeats 16000000 in
theorem radd_any (HS : St S w0 w L) (bs : List UInt8) (hl : bs.length = 256) (name : ByteArray) (hnm : name.size ≤ maxLen) (ino : Int) (i0 : 0 ≤ ino) (i1 : ino < 4294967296) :
    Calls Try.prog 18 #[.agg (encB bs), .string name, .int .u32 ino] w fun e w' => e = .returned (addV (addOf bs name ino)) ∧ St S w0 w' L := by
  have HL := Lib.hid hl
  have hzb : (encB bs).size = 256 := (encB_size _).trans hl
  have HZB := Lib.hid hzb
  have z256 : (encB Z256).size = 256 := (encB_size _).trans Z256_len
  have HM := Lib.hid (fun W => rmay_any name W hnm)
  have HF : Hid (addOf bs name ino = match slotsOf bs with
    | none => (bs, 80)
    | some l => if okName name = false ∨ ino = 0 ∨ (idxS l name).isSome = true then (bs, 2) else
      match idxS l ByteArray.empty with
      | none => (bs, 4)
      | some i => (putName bs i ino name, 0)) := rfl
  clear hl hzb z256
  cases hs : slotsOf bs with
  | none =>
    have HR : Hid (addOf bs name ino = (bs, 80)) := by show _ = _; rw [HF.out, hs]
    have HSO := Lib.hid hs
    clear HF hs
    go_enter Try.func18, Try.ntmps18
    go_wp2_with (first | ((with_reducible apply sBox HS); rfl; (conv => (lhs; whnf)); (first | exact cells_agg _ | exact cells_one rfl); intro Bb w' H1; clear HS; have HS := H1; clear H1) | ((with_reducible apply sAlloc HS); infer_instance; (first | exact cells_agg _ | exact cells_one rfl); rfl; intro R w' H1; clear HS; have HS := H1; clear H1) | ((with_reducible apply sLoadB HS); infer_instance; rfl; rfl; (repeat (first | exact List.Mem.head _ | apply List.Mem.tail)); exact HZB.out) | (go_at_call 10; refine (rlist_any HS bs HL.out).mono ?_; rintro e w' H1; rw [HSO.out] at H1; obtain ⟨rfl, H2⟩ := H1; clear HS; have HS := H2; clear H2) | ((with_reducible apply sStoreB HS); infer_instance; rfl; rfl; (conv => (lhs; whnf)); (repeat (first | exact Rep.here | apply Rep.there)); exact HZB.out; exact (encB_size _).trans Z256_len; exact encB_one _; intro w' H1; clear HS; have HS := H1; clear H1))
    refine bodyPost_ret (res2 rfl (resCell (n := 256) HS rfl (by (repeat (first | exact List.Mem.head _ | apply List.Mem.tail))) HZB.out) (resTmp _ _ _)) rfl ⟨?_, HS.tail.tail⟩
    rw [HR.out]; rfl
  | some l =>
    have hll := slotsTo_len hs
    have HLL := Lib.hid hll
    have HSO := Lib.hid hs
    obtain ⟨a, b, hab, ha1, ha0⟩ := findV_parts (findOf bs name)
    have HAB := Lib.hid hab
    have HA1 := Lib.hid ha1
    have HA0 := Lib.hid ha0
    clear hab ha1 ha0
    cases hok : okName name
    · have HR : Hid (addOf bs name ino = (bs, 2)) := by show _ = _; rw [HF.out, hs]; simp only; rw [if_pos (.inl hok)]
      rw [hok] at HM
      clear HF hs hok hll
      go_enter Try.func18, Try.ntmps18
      go_wp2_with (first | ((with_reducible apply sBox HS); rfl; (conv => (lhs; whnf)); (first | exact cells_agg _ | exact cells_one rfl); intro Bb w' H1; clear HS; have HS := H1; clear H1) | ((with_reducible apply sAlloc HS); infer_instance; (first | exact cells_agg _ | exact cells_one rfl); rfl; intro R w' H1; clear HS; have HS := H1; clear H1) | ((with_reducible apply sLoadB HS); infer_instance; rfl; rfl; (repeat (first | exact List.Mem.head _ | apply List.Mem.tail)); exact HZB.out) | (go_at_call 10; refine (rlist_any HS bs HL.out).mono ?_; rintro e w' H1; rw [HSO.out] at H1; obtain ⟨g, cap, rfl, H2⟩ := H1; clear HS; have HS := H2; clear H2) | (go_at_call 14; refine (rfind_any HS bs HL.out name).mono ?_; rintro e w' ⟨rfl, H2⟩; clear HS; have HS := H2; clear H2; rw [HAB.out]) | (go_at_call 16; refine (HM.out _).mono ?_; rintro e w' ⟨rfl, rfl⟩) | ((with_reducible apply sStoreB HS); infer_instance; rfl; rfl; (conv => (lhs; whnf)); (repeat (first | exact Rep.here | apply Rep.there)); exact HZB.out; exact (encB_size _).trans Z256_len; exact encB_one _; intro w' H1; clear HS; have HS := H1; clear H1))
      refine bodyPost_ret (res2 rfl (resCell (n := 256) HS rfl (by (repeat (first | exact List.Mem.head _ | apply List.Mem.tail))) HZB.out) (resTmp _ _ _)) rfl ⟨?_, HS.tail.tail.tail⟩
      rw [HR.out]; rfl
    · have HOK := Lib.hid hok
      rw [hok] at HM
      cases hi0 : (ino == 0)
      · have hi0' := beq_eq_false_iff_ne.1 hi0
        have hpos : 0 < ino := by omega
        cases hx : idxS l name with
        | some k =>
          have HR : Hid (addOf bs name ino = (bs, 2)) := by show _ = _; rw [HF.out, hs]; simp only; rw [if_pos (.inr (.inr (by rw [hx]; rfl)))]
          have ha : 0 ≤ a := HA1.out (by rw [find_ok hs hok, hx]; rfl)
          clear HF hs hok hll hx
          go_enter Try.func18, Try.ntmps18
          go_wp2_with (first | ((with_reducible apply sBox HS); rfl; (conv => (lhs; whnf)); (first | exact cells_agg _ | exact cells_one rfl); intro Bb w' H1; clear HS; have HS := H1; clear H1) | ((with_reducible apply sAlloc HS); infer_instance; (first | exact cells_agg _ | exact cells_one rfl); rfl; intro R w' H1; clear HS; have HS := H1; clear H1) | ((with_reducible apply sLoadB HS); infer_instance; rfl; rfl; (repeat (first | exact List.Mem.head _ | apply List.Mem.tail)); exact HZB.out) | (go_at_call 10; refine (rlist_any HS bs HL.out).mono ?_; rintro e w' H1; rw [HSO.out] at H1; obtain ⟨g, cap, rfl, H2⟩ := H1; clear HS; have HS := H2; clear H2) | (go_at_call 14; refine (rfind_any HS bs HL.out name).mono ?_; rintro e w' ⟨rfl, H2⟩; clear HS; have HS := H2; clear H2; rw [HAB.out]) | (go_at_call 16; refine (HM.out _).mono ?_; rintro e w' ⟨rfl, rfl⟩) | ((with_reducible apply sStoreB HS); infer_instance; rfl; rfl; (conv => (lhs; whnf)); (repeat (first | exact Rep.here | apply Rep.there)); exact HZB.out; exact (encB_size _).trans Z256_len; exact encB_one _; intro w' H1; clear HS; have HS := H1; clear H1))
          refine bodyPost_ret (res2 rfl (resCell (n := 256) HS rfl (by (repeat (first | exact List.Mem.head _ | apply List.Mem.tail))) HZB.out) (resTmp _ _ _)) rfl ⟨?_, HS.tail.tail.tail⟩
          rw [HR.out]; rfl
        | none =>
          have ha : a = -1 := HA0.out (by have h := find_ok hs hok; rw [hx] at h; cases hf : findOf bs name with
            | none => rfl
            | some p => rw [hf] at h; cases h)
          subst ha
          have HX := Lib.hid hx
          clear HF hs hok hll hx
          go_enter Try.func18, Try.ntmps18
          go_wp2_with (first | ((with_reducible apply sBox HS); rfl; (conv => (lhs; whnf)); (first | exact cells_agg _ | exact cells_one rfl); intro Bb w' H1; clear HS; have HS := H1; clear H1) | ((with_reducible apply sAlloc HS); infer_instance; (first | exact cells_agg _ | exact cells_one rfl); rfl; intro R w' H1; clear HS; have HS := H1; clear H1) | ((with_reducible apply sLoadB HS); infer_instance; rfl; rfl; (repeat (first | exact List.Mem.head _ | apply List.Mem.tail)); exact HZB.out) | (go_at_call 10; refine (rlist_any HS bs HL.out).mono ?_; rintro e w' H1; rw [HSO.out] at H1; obtain ⟨g, cap, rfl, H2⟩ := H1; clear HS; have HS := H2; clear H2) | (go_at_call 14; refine (rfind_any HS bs HL.out name).mono ?_; rintro e w' ⟨rfl, H2⟩; clear HS; have HS := H2; clear H2; rw [HAB.out]) | (go_at_call 16; refine (HM.out _).mono ?_; rintro e w' ⟨rfl, rfl⟩) | ((with_reducible apply sStoreB HS); infer_instance; rfl; rfl; (conv => (lhs; whnf)); (repeat (first | exact Rep.here | apply Rep.there)); exact HZB.out; exact (encB_size _).trans Z256_len; exact encB_one _; intro w' H1; clear HS; have HS := H1; clear H1))
          go_loopw [12] (fun i wr => ∃ m : Nat, m ≤ 8 ∧ i = .int .i64 m ∧ Hid (∀ (j : Nat) (z : Sl), j < m → l[j]? = some z → (z.1 == 0) = false) ∧ St S w0 wr (.own (.slice (some ⟨g, 0, none⟩) 8 cap) 33 2 8 (encS l) :: .blk true R (encB Z256) 23 :: .blk true Bb (encB bs) 23 :: L)) (fun i _ => 8 - (intOf i).toNat)
          case atStart => exact ⟨0, by omega, rfl, fun j z h => by omega, HS⟩
          case round =>
            obtain ⟨m, hm, rfl, HA, HS⟩ := hrel
            by_cases hml : m < 8
            · obtain ⟨y, hy⟩ : ∃ y, l[m]? = some y := ⟨_, List.getElem?_eq_getElem (by have := HLL.out; omega)⟩
              obtain ⟨yv, yn⟩ := y
              have HC0 : Hid ((encS l)[m * 2]? = some (.int .u32 yv)) := encS_part l m (yv, yn) hy 0 _ rfl
              have HY := Lib.hid hy
              clear hy
              cases hp : (yv == 0)
              · have HP := Lib.hid hp
                go_wp2_with (first | ((with_reducible apply sLoadO1 HS); infer_instance; rfl; rfl; (repeat (first | exact List.Mem.head _ | apply List.Mem.tail)); exact HC0.out) | ((with_reducible apply sLoadB HS); infer_instance; rfl; rfl; (repeat (first | exact List.Mem.head _ | apply List.Mem.tail)); exact HZB.out) | (go_at_call 32; refine (rput_slot HS bs HL.out m hml ino name i0 i1 HN27.out).mono ?_; rintro e w' ⟨rfl, H2⟩; clear HS; have HS := H2; clear H2) | ((with_reducible apply sStoreB HS); infer_instance; rfl; rfl; (conv => (lhs; whnf)); (repeat (first | exact Rep.here | apply Rep.there)); exact HSZ.out; exact (encB_size _).trans Z256_len; exact encB_one _; intro w' H1; clear HS; have HS := H1; clear H1) | ((with_reducible apply sStoreB HS); infer_instance; rfl; rfl; (conv => (lhs; whnf)); (repeat (first | exact Rep.here | apply Rep.there)); exact HZB.out; exact (encB_size _).trans Z256_len; exact encB_one _; intro w' H1; clear HS; have HS := H1; clear H1))
                go_roundw
                case rel =>
                  refine ⟨m + 1, by omega, by go_num, fun j z hj hz => ?_, HS⟩
                  by_cases e : j < m
                  · exact HA.out j z e hz
                  · obtain rfl : j = m := by omega
                    rw [HY.out] at hz; cases hz; exact HP.out
                case measure => simp [intOf]; omega
              · have HV := Lib.hid (void_hit HSO.out HY.out HA.out hp)
                have HR : Hid (addOf bs name ino = (setSlot bs m (ino, name), 0)) := (addOf_done HL.out HSO.out HOK.out hpos i1 HX.out HV.out).1
                have HN27 : Hid (ino = 0 ∨ name.size ≤ 27) := .inr (okName_size HOK.out).2
                have HSZ : Hid ((encB (setSlot bs m (ino, name))).size = 256) := (encB_size _).trans (setSlot_len HL.out hml (.inr ⟨hpos, i1, HOK.out⟩))
                go_wp2_with (first | ((with_reducible apply sLoadO1 HS); infer_instance; rfl; rfl; (repeat (first | exact List.Mem.head _ | apply List.Mem.tail)); exact HC0.out) | ((with_reducible apply sLoadB HS); infer_instance; rfl; rfl; (repeat (first | exact List.Mem.head _ | apply List.Mem.tail)); exact HZB.out) | (go_at_call 32; refine (rput_slot HS bs HL.out m hml ino name i0 i1 HN27.out).mono ?_; rintro e w' ⟨rfl, H2⟩; clear HS; have HS := H2; clear H2) | ((with_reducible apply sStoreB HS); infer_instance; rfl; rfl; (conv => (lhs; whnf)); (repeat (first | exact Rep.here | apply Rep.there)); exact HSZ.out; exact (encB_size _).trans Z256_len; exact encB_one _; intro w' H1; clear HS; have HS := H1; clear H1) | ((with_reducible apply sStoreB HS); infer_instance; rfl; rfl; (conv => (lhs; whnf)); (repeat (first | exact Rep.here | apply Rep.there)); exact HZB.out; exact (encB_size _).trans Z256_len; exact encB_one _; intro w' H1; clear HS; have HS := H1; clear H1))
                refine bodyPost_ret (res2 rfl (resCell (n := 256) HS rfl (by (repeat (first | exact List.Mem.head _ | apply List.Mem.tail))) HSZ.out) (resTmp _ _ _)) rfl ⟨?_, HS.tail.tail.tail⟩
                rw [HR.out]; rfl
            · obtain rfl : m = 8 := by omega
              have HV := Lib.hid (void_miss HSO.out (fun j z hz => HA.out j z (by have := (List.getElem?_eq_some_iff.1 hz).1; have := HLL.out; omega) hz))
              have HR : Hid (addOf bs name ino = (bs, 4)) := by
                show addOf _ _ _ = _
                unfold addOf
                rw [HSO.out]
                simp only
                rw [if_neg (by rw [HOK.out, HX.out]; simp; omega), HV.out]
              go_wp2_with (first | ((with_reducible apply sLoadO1 HS); infer_instance; rfl; rfl; (repeat (first | exact List.Mem.head _ | apply List.Mem.tail)); exact HC0.out) | ((with_reducible apply sLoadB HS); infer_instance; rfl; rfl; (repeat (first | exact List.Mem.head _ | apply List.Mem.tail)); exact HZB.out) | (go_at_call 32; refine (rput_slot HS bs HL.out m hml ino name i0 i1 HN27.out).mono ?_; rintro e w' ⟨rfl, H2⟩; clear HS; have HS := H2; clear H2) | ((with_reducible apply sStoreB HS); infer_instance; rfl; rfl; (conv => (lhs; whnf)); (repeat (first | exact Rep.here | apply Rep.there)); exact HSZ.out; exact (encB_size _).trans Z256_len; exact encB_one _; intro w' H1; clear HS; have HS := H1; clear H1) | ((with_reducible apply sStoreB HS); infer_instance; rfl; rfl; (conv => (lhs; whnf)); (repeat (first | exact Rep.here | apply Rep.there)); exact HZB.out; exact (encB_size _).trans Z256_len; exact encB_one _; intro w' H1; clear HS; have HS := H1; clear H1))
              refine bodyPost_ret (res2 rfl (resCell (n := 256) HS rfl (by (repeat (first | exact List.Mem.head _ | apply List.Mem.tail))) HZB.out) (resTmp _ _ _)) rfl ⟨?_, HS.tail.tail.tail⟩
              rw [HR.out]; rfl
      · have HR : Hid (addOf bs name ino = (bs, 2)) := by show _ = _; rw [HF.out, hs]; simp only; rw [if_pos (.inr (.inl (beq_iff_eq.1 hi0)))]
        clear HF hs hok hll
        go_enter Try.func18, Try.ntmps18
        go_wp2_with (first | ((with_reducible apply sBox HS); rfl; (conv => (lhs; whnf)); (first | exact cells_agg _ | exact cells_one rfl); intro Bb w' H1; clear HS; have HS := H1; clear H1) | ((with_reducible apply sAlloc HS); infer_instance; (first | exact cells_agg _ | exact cells_one rfl); rfl; intro R w' H1; clear HS; have HS := H1; clear H1) | ((with_reducible apply sLoadB HS); infer_instance; rfl; rfl; (repeat (first | exact List.Mem.head _ | apply List.Mem.tail)); exact HZB.out) | (go_at_call 10; refine (rlist_any HS bs HL.out).mono ?_; rintro e w' H1; rw [HSO.out] at H1; obtain ⟨g, cap, rfl, H2⟩ := H1; clear HS; have HS := H2; clear H2) | (go_at_call 14; refine (rfind_any HS bs HL.out name).mono ?_; rintro e w' ⟨rfl, H2⟩; clear HS; have HS := H2; clear H2; rw [HAB.out]) | (go_at_call 16; refine (HM.out _).mono ?_; rintro e w' ⟨rfl, rfl⟩) | ((with_reducible apply sStoreB HS); infer_instance; rfl; rfl; (conv => (lhs; whnf)); (repeat (first | exact Rep.here | apply Rep.there)); exact HZB.out; exact (encB_size _).trans Z256_len; exact encB_one _; intro w' H1; clear HS; have HS := H1; clear H1))
        refine bodyPost_ret (res2 rfl (resCell (n := 256) HS rfl (by (repeat (first | exact List.Mem.head _ | apply List.Mem.tail))) HZB.out) (resTmp _ _ _)) rfl ⟨?_, HS.tail.tail.tail⟩
        rw [HR.out]; rfl

theorem remOf_set {bs : List UInt8} {name : ByteArray} : remOf bs name = match findOf bs name with
    | none => (bs, false)
    | some (i, _) => (setSlot bs i zSl, true) := rfl
theorem find_lt {bs : List UInt8} {name : ByteArray} {i : Nat} {ino : Int} (h : findOf bs name = some (i, ino)) : i < 8 := by
  unfold findOf at h
  split at h
  · cases h
  · rename_i l hs
    split at h
    · cases h
    · obtain ⟨j, hj, hji⟩ := Option.map_eq_some_iff.1 h
      cases hji
      obtain ⟨y, hy, _⟩ := idxS_get hj
      have := (List.getElem?_eq_some_iff.1 hy).1
      have := slotsTo_len hs
      omega
set_option maxRecDepth 100000 in
set_option maxHeartbeats 8000000 in
theorem rrem_any (HS : St S w0 w L) (bs : List UInt8) (hl : bs.length = 256) (name : ByteArray) :
    Calls Try.prog 20 #[.agg (encB bs), .string name] w fun e w' => e = .returned (remV (remOf bs name)) ∧ St S w0 w' L := by
  have HL := Lib.hid hl
  have hzb : (encB bs).size = 256 := (encB_size _).trans hl
  have HZB := Lib.hid hzb
  have z256 : (encB Z256).size = 256 := (encB_size _).trans Z256_len
  clear hl hzb z256
  cases hf : findOf bs name with
  | none =>
    have HR : Hid (remOf bs name = (bs, false)) := by show _ = _; rw [remOf_set, hf]
    have HFO := Lib.hid hf
    clear hf
    go_enter Try.func20, Try.ntmps20
    go_wp2_with (first | ((with_reducible apply sBox HS); rfl; (conv => (lhs; whnf)); (first | exact cells_agg _ | exact cells_one rfl); intro Bb w' H1; clear HS; have HS := H1; clear H1) | ((with_reducible apply sAlloc HS); infer_instance; (first | exact cells_agg _ | exact cells_one rfl); rfl; intro R w' H1; clear HS; have HS := H1; clear H1) | ((with_reducible apply sLoadB HS); infer_instance; rfl; rfl; (repeat (first | exact List.Mem.head _ | apply List.Mem.tail)); exact HZB.out) | (go_at_call 14; refine (rfind_any HS bs HL.out name).mono ?_; rintro e w' ⟨rfl, H2⟩; clear HS; have HS := H2; clear H2; rw [HFO.out]; simp only [findV]) | (go_at_call 32; refine (rput_slot HS bs HL.out m hm 0 ByteArray.empty (by omega) (by omega) (.inl rfl)).mono ?_; rintro e w' ⟨rfl, H2⟩; clear HS; have HS := H2; clear H2) | ((with_reducible apply sStoreB HS); infer_instance; rfl; rfl; (conv => (lhs; whnf)); (repeat (first | exact Rep.here | apply Rep.there)); exact HSZ.out; exact (encB_size _).trans Z256_len; exact encB_one _; intro w' H1; clear HS; have HS := H1; clear H1) | ((with_reducible apply sStoreB HS); infer_instance; rfl; rfl; (conv => (lhs; whnf)); (repeat (first | exact Rep.here | apply Rep.there)); exact HZB.out; exact (encB_size _).trans Z256_len; exact encB_one _; intro w' H1; clear HS; have HS := H1; clear H1))
    refine bodyPost_ret (res2 rfl (resCell (n := 256) HS rfl (by (repeat (first | exact List.Mem.head _ | apply List.Mem.tail))) HZB.out) (resTmp _ _ _)) rfl ⟨?_, HS.tail.tail⟩
    rw [HR.out]; rfl
  | some p =>
    obtain ⟨m, fo⟩ := p
    have hm := find_lt hf
    have HR : Hid (remOf bs name = (setSlot bs m zSl, true)) := by show _ = _; rw [remOf_set, hf]
    have HFO := Lib.hid hf
    have HSZ : Hid ((encB (setSlot bs m zSl)).size = 256) := (encB_size _).trans (setSlot_len HL.out hm (.inl ⟨rfl, rfl⟩))
    have hm0 : (0 : Int) ≤ (m : Int) := by omega
    clear hf
    go_enter Try.func20, Try.ntmps20
    go_wp2_with (first | ((with_reducible apply sBox HS); rfl; (conv => (lhs; whnf)); (first | exact cells_agg _ | exact cells_one rfl); intro Bb w' H1; clear HS; have HS := H1; clear H1) | ((with_reducible apply sAlloc HS); infer_instance; (first | exact cells_agg _ | exact cells_one rfl); rfl; intro R w' H1; clear HS; have HS := H1; clear H1) | ((with_reducible apply sLoadB HS); infer_instance; rfl; rfl; (repeat (first | exact List.Mem.head _ | apply List.Mem.tail)); exact HZB.out) | (go_at_call 14; refine (rfind_any HS bs HL.out name).mono ?_; rintro e w' ⟨rfl, H2⟩; clear HS; have HS := H2; clear H2; rw [HFO.out]; simp only [findV]) | (go_at_call 32; refine (rput_slot HS bs HL.out m hm 0 ByteArray.empty (by omega) (by omega) (.inl rfl)).mono ?_; rintro e w' ⟨rfl, H2⟩; clear HS; have HS := H2; clear H2) | ((with_reducible apply sStoreB HS); infer_instance; rfl; rfl; (conv => (lhs; whnf)); (repeat (first | exact Rep.here | apply Rep.there)); exact HSZ.out; exact (encB_size _).trans Z256_len; exact encB_one _; intro w' H1; clear HS; have HS := H1; clear H1) | ((with_reducible apply sStoreB HS); infer_instance; rfl; rfl; (conv => (lhs; whnf)); (repeat (first | exact Rep.here | apply Rep.there)); exact HZB.out; exact (encB_size _).trans Z256_len; exact encB_one _; intro w' H1; clear HS; have HS := H1; clear H1))
    refine bodyPost_ret (res2 rfl (resCell (n := 256) HS rfl (by (repeat (first | exact List.Mem.head _ | apply List.Mem.tail))) HSZ.out) (resTmp _ _ _)) rfl ⟨?_, HS.tail.tail⟩
    rw [HR.out]; rfl
end
end Go.Proofs.Ytdpbdmbgdcdmaaa
