/- The reference's slots: bytes of a slot; are bytes the same. -/
import Derived.Test.YtdpbdmbgdcdmaaaSp2
namespace Go.Proofs.Ytdpbdmbgdcdmaaa
open Go Go.RowKit

theorem setB_snoc (bs : List UInt8) (o : Nat) (p : List UInt8) (c : UInt8) (h : o + p.length < bs.length) : (setB bs o p).set (o + p.length) c = setB bs o (p ++ [c]) := by
  unfold setB
  have hl : (bs.take o ++ p).length = o + p.length := by rw [List.length_append, List.length_take]; omega
  rw [List.set_append_right _ _ (by omega), hl, Nat.sub_self, List.drop_eq_getElem_cons h, List.set_cons_zero, List.length_append, List.length_singleton]
  simp [List.append_assoc]
  rfl
theorem bytes_head {x : Sl} (h0 : x.1 ≠ 0) (hn : x.2.size ≤ 27) : setB ((put32 (List.replicate 32 0) 0 x.1).set 4 (u8 x.2.size)) 5 x.2.data.toList = slotBytes x := by
  have hb := slotBytes_len (x := x) (.inr hn)
  have hp : (put32 (List.replicate 32 0) 0 x.1).length = 32 := (put32_len _ _ _).trans List.length_replicate
  have hnl : x.2.data.toList.length = x.2.size := (Lib.size_eq x.2).symm
  apply gB_ext
  · rw [setB_len _ _ _ (by rw [List.length_set, hp, hnl]; omega), List.length_set, hp, hb]
  · intro k hk
    rw [setB_len _ _ _ (by rw [List.length_set, hp, hnl]; omega), List.length_set, hp] at hk
    rw [gB_setB _ _ _ (by rw [List.length_set, hp, hnl]; omega), gB_set, gB_put32 _ _ _ (by rw [List.length_replicate]; omega), hnl, hp, gB_slot h0 k, gB_rep]
    by_cases h2 : 5 ≤ k ∧ k < 5 + x.2.size
    · rw [if_pos h2]
      rw [if_neg (by omega), if_neg (by omega), if_neg (by omega), if_neg (by omega), if_neg (by omega), if_pos (by omega)]
    · rw [if_neg h2]
      repeat' split
      all_goals first | rfl | omega
theorem made_bytes (n : Nat) : madeCells (Value.int .u8 0).cells (n * 1) = encB (List.replicate n 0) := by
  unfold encB madeCells
  apply Array.ext
  · simp
  · intro i h1 h2
    simp [bv, Value.cells, Nat.mod_one]
theorem infoU8 : (Try.prog.info? 5 ).map (fun i => (i.zero, i.size, i.bytes)) = some (some (.int .u8 0), 1, 1) := by kernel_rfl
theorem rput_int (B o len cap p : Nat) (q : Int) (hq : q = (p : Int)) (v : Int) (bs : List UInt8) (E : TypeId) (w : World) (hB : w.heap[B]? = some (.cells (encB bs) E (0, 0))) (ho : o + len ≤ bs.length) (h1 : p + 4 ≤ len) (hl : len ≤ 9223372036854775807) (v0 : 0 ≤ v) (v1 : v < 4294967296) :
    Calls Try.prog 33 #[.slice (some ⟨B, o, none⟩) len cap, .int .i64 q, .int .u32 v] w fun e w' => e = .returned (.bool true) ∧ Mod (one' B) w w' ∧ w'.heap[B]? = some (.cells (encB (put32 bs (o + p) v)) E (0, 0)) := by
  subst hq; exact rput_yes B o len cap p v bs E w hB ho h1 hl v0 v1
theorem rget_int (B o len cap p : Nat) (q : Int) (hq : q = (p : Int)) (bs : List UInt8) (E : TypeId) (w : World) (hB : w.heap[B]? = some (.cells (encB bs) E (0, 0))) (ho : o + len ≤ bs.length) (h1 : p + 4 ≤ len) (hl : len ≤ 9223372036854775807) :
    Calls Try.prog 24 #[.slice (some ⟨B, o, none⟩) len cap, .int .i64 q] w fun e w' => e = .returned (.tuple #[.int .u32 (get32 bs (o + p)), .bool true]) ∧ Mod none' w w' := by
  subst hq; exact (rget_yes B o len cap p bs E w hB ho h1 hl).mono fun _ _ ⟨h1, n, h2⟩ => ⟨h1, by rw [h2]; exact (Mod.refl _ _).drewN n⟩
theorem St.row2 {S : Nat → Prop} {w0 w w' : World} {L L' : List Ass} (h : St S w0 w L) {B : Nat} {cs cs' : Array Value} {t : TypeId} (r : Rep (.blk true B cs t) (.blk true B cs' t) L L') (hm : Mod (one' B) w w') (hr : w'.heap[B]? = some (.cells cs' t (0, 0))) : St S w0 w' L' :=
  h.rep r rfl (fun _ hk => .inl hk) hm hr

section
variable {S : Nat → Prop} {w0 w : World} {L : List Ass}
set_option maxRecDepth 100000 in
set_option maxHeartbeats 8000000 in
theorem rbytes_any (HS : St S w0 w L) (v : Int) (nm : ByteArray) (v0 : 0 ≤ v) (v1 : v < 4294967296) (hn : v = 0 ∨ nm.size ≤ 27) :
    Calls Try.prog 26 #[.agg #[.int .u32 v, .string nm]] w fun e w' => ∃ g, e = .returned (.slice (some ⟨g, 0, none⟩) 32 32) ∧ St S w0 w' (.blk true g (encB (slotBytes (v, nm))) 5 :: L) := by
  have HMB := Lib.hid (made_bytes 32)
  cases hv : (v == 0)
  · have hn27 := hn.resolve_left (beq_eq_false_iff_ne.1 hv)
    have HH := Lib.hid (bytes_head (x := (v, nm)) (beq_eq_false_iff_ne.1 hv) hn27)
    have HPL : Hid ((put32 (List.replicate 32 0) 0 v).length = 32) := (put32_len _ _ _).trans List.length_replicate
    have HQL : Hid (((put32 (List.replicate 32 0) 0 v).set 4 (u8 nm.size)).length = 32) := by show _ = _; rw [List.length_set]; exact HPL.out
    have hnI : (nm.size : Int) ≤ 27 := by omega
    have HNL : Hid (nm.data.toList.length = nm.size) := (Lib.size_eq nm).symm
    clear hn
    generalize hb0 : (put32 (List.replicate 32 0) 0 v).set 4 (u8 nm.size) = b0 at HH HQL
    have HB0 := Lib.hid hb0
    clear hb0
    go_enter Try.func26, Try.ntmps26
    go_wp2_with (first | ((with_reducible apply sBox HS); rfl; (conv => (lhs; whnf)); (first | exact cells_agg _ | exact cells_one rfl); intro X w' H1; clear HS; have HS := H1; clear H1) | ((with_reducible apply sMake (n := 32) HS Try.underlying58 infoU8); rfl; rfl; rfl; omega; omega; intro g w' H1'; clear HS; have HS := H1'; clear H1'; rw [HMB.out] at HS) | ((with_reducible apply sLoad1 HS); infer_instance; rfl; rfl; (repeat (first | exact List.Mem.head _ | apply List.Mem.tail)); rfl) | (go_at_call 33; refine (rput_int g 0 32 32 0 _ rfl v _ _ _ (HS.blk (.head _)) (by rw [List.length_replicate]; omega) (by omega) (by omega) v0 v1).mono ?_; rintro e w' ⟨rfl, H2, H3⟩; have H4 := HS.row2 .here H2 H3; clear HS H2 H3; have HS := H4; clear H4) | ((with_reducible apply sStore1 HS); infer_instance; rfl; rfl; (conv => (lhs; whnf)); (repeat (first | exact Rep.here | apply Rep.there)); (rw [encB_size, HPL.out]; omega); rfl; intro w' H1; clear HS; have HS := H1; clear H1; rw [encB_set2 _ _ _ (by omega) (by omega)] at HS))
    rw [HB0.out] at HS
    go_loopw [4] (fun i wr => ∃ k : Nat, k ≤ nm.size ∧ i = .int .i64 k ∧ St S w0 wr (.blk true g (encB (setB b0 5 (nm.data.toList.take k))) 5 :: .blk true X #[.int .u32 v, .string nm] 33 :: L)) (fun i _ => nm.size - (intOf i).toNat)
    case atStart => exact ⟨0, by omega, rfl, by rw [List.take_zero]; unfold setB; simpa using HS⟩
    case round =>
      obtain ⟨k, hk, rfl, HS⟩ := hrel
      by_cases hlt : k < nm.size
      · obtain ⟨c, hc⟩ : ∃ c : UInt8, nm[k]'hlt = c := ⟨_, rfl⟩
        have hcl : nm.data.toList[k]? = some c := by rw [← hc]; exact Lib.data_getElem? nm k hlt
        have HT : Hid (nm.data.toList.take (k + 1) = nm.data.toList.take k ++ [c]) := by show _ = _; rw [List.take_add_one, hcl]; rfl
        have HTL : Hid ((nm.data.toList.take k).length = k) := by show _ = _; rw [List.length_take]; have := HNL.out; omega
        have HSN : Hid ((setB b0 5 (nm.data.toList.take k)).set (5 + k) c = setB b0 5 (nm.data.toList.take (k + 1))) := by
          show _ = _
          rw [HT.out, ← setB_snoc _ _ _ _ (by rw [HTL.out, HQL.out]; omega), HTL.out]
        have HSL : Hid ((setB b0 5 (nm.data.toList.take k)).length = 32) := by show _ = _; rw [setB_len _ _ _ (by rw [HTL.out, HQL.out]; omega), HQL.out]
        have HSB : Hid ((encB (setB b0 5 (nm.data.toList.take k))).setIfInBounds (5 + k) (.int .u8 (c.toNat : Int)) = encB (setB b0 5 (nm.data.toList.take (k + 1)))) := by
          show _ = _
          rw [← HSN.out]; unfold encB; simp [List.map_set, bv]
        clear hcl
        have HC := Lib.hid hc
        clear hc
        obtain ⟨b2, hb2⟩ : ∃ b2, setB b0 5 (nm.data.toList.take (k + 1)) = b2 := ⟨_, rfl⟩
        rw [hb2] at HSN HSB
        have HT2 := Lib.hid hb2
        clear hb2
        generalize setB b0 5 (nm.data.toList.take k) = b1 at HS HSN HSL HSB
        go_wp2_with (first | ((with_reducible apply sLoad1 HS); infer_instance; rfl; rfl; (repeat (first | exact List.Mem.head _ | apply List.Mem.tail)); rfl) | ((with_reducible apply sStore1 HS); infer_instance; rfl; rfl; (conv => (lhs; whnf)); (repeat (first | exact Rep.here | apply Rep.there)); (rw [encB_size, HSL.out]; omega); rfl; intro w' H1; clear HS; have HS := H1; clear H1))
        rw [HC.out, HSB.out] at HS
        go_roundw
        case rel => exact ⟨k + 1, by omega, by go_num, by rw [HT2.out]; exact HS⟩
        case measure => simp [intOf]; omega
      · obtain rfl : k = nm.size := by omega
        rw [show nm.data.toList.take nm.size = nm.data.toList from List.take_of_length_le (by rw [HNL.out]; exact Nat.le_refl _), HH.out] at HS
        go_wp2_with (first | ((with_reducible apply sLoad1 HS); infer_instance; rfl; rfl; (repeat (first | exact List.Mem.head _ | apply List.Mem.tail)); rfl) | ((with_reducible apply sStore1 HS); infer_instance; rfl; rfl; (conv => (lhs; whnf)); (repeat (first | exact Rep.here | apply Rep.there)); (rw [encB_size, HSL.out]; omega); rfl; intro w' H1; clear HS; have HS := H1; clear H1))
        go_ret
        exact ⟨g, rfl, HS.swap.tail⟩
  · have hv' := beq_iff_eq.1 hv
    subst hv'
    go_enter Try.func26, Try.ntmps26
    go_wp2_with (first | ((with_reducible apply sBox HS); rfl; (conv => (lhs; whnf)); (first | exact cells_agg _ | exact cells_one rfl); intro X w' H1; clear HS; have HS := H1; clear H1) | ((with_reducible apply sMake (n := 32) HS Try.underlying58 infoU8); rfl; rfl; rfl; omega; omega; intro g w' H1'; clear HS; have HS := H1'; clear H1'; rw [HMB.out] at HS) | ((with_reducible apply sLoad1 HS); infer_instance; rfl; rfl; (repeat (first | exact List.Mem.head _ | apply List.Mem.tail)); rfl) | (go_at_call 33; refine (rput_int g 0 32 32 0 _ rfl v _ _ _ (HS.blk (.head _)) (by rw [List.length_replicate]; omega) (by omega) (by omega) v0 v1).mono ?_; rintro e w' ⟨rfl, H2, H3⟩; have H4 := HS.row2 .here H2 H3; clear HS H2 H3; have HS := H4; clear H4) | ((with_reducible apply sStore1 HS); infer_instance; rfl; rfl; (conv => (lhs; whnf)); (repeat (first | exact Rep.here | apply Rep.there)); (rw [encB_size, HPL.out]; omega); rfl; intro w' H1; clear HS; have HS := H1; clear H1; rw [encB_set2 _ _ _ (by omega) (by omega)] at HS))
    go_ret
    exact ⟨g, rfl, HS.swap.tail⟩

/-- Are bytes the same? -/
theorem rsame_any (HS : St S w0 w L) {r1 r2 : Bool} {B1 o1 c1 B2 o2 c2 n m : Nat} {t1 t2 : TypeId} (xs ys : List UInt8) (hm1 : Ass.blk r1 B1 (encB xs) t1 ∈ L) (hm2 : Ass.blk r2 B2 (encB ys) t2 ∈ L) (h1 : o1 + n ≤ xs.length) (h2 : o2 + m ≤ ys.length) (hn : n ≤ 100000) (hm : m ≤ 100000) :
    Calls Try.prog 25 #[.slice (some ⟨B1, o1, none⟩) n c1, .slice (some ⟨B2, o2, none⟩) m c2] w fun e w' => e = .returned (.bool ((xs.drop o1).take n == (ys.drop o2).take m)) ∧ St S w0 w' L := by
  have l1 : ((xs.drop o1).take n).length = n := by rw [List.length_take, List.length_drop]; omega
  have l2 : ((ys.drop o2).take m).length = m := by rw [List.length_take, List.length_drop]; omega
  by_cases hnm : n = m
  · subst hnm
    have HR : Hid ((∀ k, k < n → gB xs (o1 + k) = gB ys (o2 + k)) → ((xs.drop o1).take n == (ys.drop o2).take n) = true) := by
      intro h
      rw [beq_iff_eq]
      apply gB_ext (by rw [l1, l2])
      intro k hk
      rw [l1] at hk
      rw [gB_take, gB_take, if_pos hk, if_pos hk, gB_drop, gB_drop]
      exact h k hk
    have HR2 : Hid (∀ k, k < n → gB xs (o1 + k) ≠ gB ys (o2 + k) → ((xs.drop o1).take n == (ys.drop o2).take n) = false) := by
      intro k hk h
      rw [beq_eq_false_iff_ne]
      intro e
      have := congrArg (fun l => gB l k) e
      simp only [gB_take, gB_drop, if_pos hk] at this
      exact h this
    generalize ((xs.drop o1).take n == (ys.drop o2).take n) = r at HR HR2 ⊢
    clear l1 l2
    go_enter Try.func25, Try.ntmps25
    go_wp2
    go_loopw [5] (fun i wr => ∃ k : Nat, k ≤ n ∧ i = .int .i64 k ∧ Hid (∀ j, j < k → gB xs (o1 + j) = gB ys (o2 + j)) ∧ St S w0 wr L) (fun i _ => n - (intOf i).toNat)
    case atStart => exact ⟨0, by omega, rfl, fun j hj => by omega, HS⟩
    case round =>
      obtain ⟨k, hk, rfl, HA, HS⟩ := hrel
      by_cases hlt : k < n
      · have HC1 : Hid ((encB xs)[o1 + k]? = some (.int .u8 (gB xs (o1 + k)))) := encB_gB xs (o1 + k) (by omega)
        have HC2 : Hid ((encB ys)[o2 + k]? = some (.int .u8 (gB ys (o2 + k)))) := encB_gB ys (o2 + k) (by omega)
        obtain ⟨u, hu⟩ : ∃ u, gB xs (o1 + k) = u := ⟨_, rfl⟩
        obtain ⟨v, hv⟩ : ∃ v, gB ys (o2 + k) = v := ⟨_, rfl⟩
        rw [hu] at HC1
        rw [hv] at HC2
        have HU := Lib.hid hu
        have HV := Lib.hid hv
        clear hu hv
        cases huv : (u != v)
        · go_wp2
          (try simp only [Act.put])
          refine wp_region_quietF (by kernel_rfl) (by kernel_rfl) ?_
          repeat (first | go_big_quiet_skip | (((with_reducible apply qLoad1 HS); infer_instance; rfl; rfl; exact hm1; exact HC1.out); (try simp only [Act.put, List.setIfInBounds_toArray, List.set_cons_zero, List.set_cons_succ])) | (((with_reducible apply qLoad1 HS); infer_instance; rfl; rfl; exact hm2; exact HC2.out); (try simp only [Act.put, List.setIfInBounds_toArray, List.set_cons_zero, List.set_cons_succ])) | (go_big_quiet_want; go_big_quiet_op; first | go_big_quiet_on | (refine ⟨_, fun _ _ => rfl, ?_⟩; go_big_quiet_on) | (apply Exists.intro; refine ⟨fun wc hfr => ?_, ?_⟩; (· fail); go_big_quiet_on)))
          refine wpQuiet_nil ?_
          intro w1 hm1
          replace HS := HS.fresh hm1
          clear hm1
          go_wp2
          go_roundw
          case rel =>
            refine ⟨k + 1, by omega, by go_num, fun j hj => ?_, HS⟩
            by_cases hjk : j < k
            · exact HA.out j hjk
            · obtain rfl : j = k := by omega
              rw [HU.out, HV.out]
              simpa [bne] using huv
          case measure => simp [intOf]; omega
        · have HNE := Lib.hid (HR2.out k hlt (by rw [HU.out, HV.out]; simpa [bne] using huv))
          go_wp2
          (try simp only [Act.put])
          refine wp_region_quietF (by kernel_rfl) (by kernel_rfl) ?_
          repeat (first | go_big_quiet_skip | (((with_reducible apply qLoad1 HS); infer_instance; rfl; rfl; exact hm1; exact HC1.out); (try simp only [Act.put, List.setIfInBounds_toArray, List.set_cons_zero, List.set_cons_succ])) | (((with_reducible apply qLoad1 HS); infer_instance; rfl; rfl; exact hm2; exact HC2.out); (try simp only [Act.put, List.setIfInBounds_toArray, List.set_cons_zero, List.set_cons_succ])) | (go_big_quiet_want; go_big_quiet_op; first | go_big_quiet_on | (refine ⟨_, fun _ _ => rfl, ?_⟩; go_big_quiet_on) | (apply Exists.intro; refine ⟨fun wc hfr => ?_, ?_⟩; (· fail); go_big_quiet_on)))
          refine wpQuiet_nil ?_
          intro w1 hm1
          replace HS := HS.fresh hm1
          clear hm1
          go_wp2
          go_ret
          exact ⟨by rw [HNE.out]; rfl, HS⟩
      · obtain rfl : k = n := by omega
        go_wp2
        go_ret
        exact ⟨by rw [HR.out HA.out]; rfl, HS⟩
  · have HE : Hid (((xs.drop o1).take n == (ys.drop o2).take m) = false) := by
      show _ = _
      rw [beq_eq_false_iff_ne]
      intro e
      rw [e] at l1
      omega
    have hne : ((n : Int) != (m : Int)) = true := by simp; omega
    clear l1 l2
    go_enter Try.func25, Try.ntmps25
    go_wp2
    go_ret
    exact ⟨by rw [HE.out]; rfl, HS⟩
end
end Go.Proofs.Ytdpbdmbgdcdmaaa
