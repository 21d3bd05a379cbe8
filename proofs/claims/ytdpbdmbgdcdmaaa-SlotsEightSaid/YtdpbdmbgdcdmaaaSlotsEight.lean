/- Eight names and no more: a block that begins empty takes names in order, tells each that it has, and is full at eight. -/
import Derived.Test.YtdpbdmbgdcdmaaaEi
import Derived.Test.YtdpbdmbgdcdmaaaArg
namespace Go.Proofs.Ytdpbdmbgdcdmaaa.slotsEight
open Go Go.RowKit Go.ChangeShapes Go.WideShapes Go.ChangeAt
open Go.Proofs.Ytdpbdmbgdcdmaaa.slotsBack (own laidOut)
open Go.Proofs.Ytdpbdmbgdcdmaaa.slotsGone (lfind)

def encSs (l : List ByteArray) : List Value := l.map Value.string
theorem encSs_get {l : List ByteArray} {k : Nat} {s : ByteArray} (h : l[k]? = some s) : (encSs l)[k]? = some (.string s) := by
  unfold encSs; rw [List.getElem?_map, h]; rfl
theorem cellsStr : Try.prog.cellsOf 9 = 1 := by kernel_rfl
theorem strs_arg {w : World} {v : Value} (h : ArgIs Try.prog w 55 v) :
    ∃ (ad : Option Addr) (cap : Nat) (l : List ByteArray), v = .slice ad l.length cap ∧ l.length ≤ maxLen ∧ (∀ s ∈ l, s.size ≤ maxLen) ∧ (l = [] ∨ ∃ A o, ad = some ⟨A, o, none⟩ ∧ w.rangeAt A o (encSs l)) := by
  obtain ⟨ad, cap, l, h1, h2, _, _, hp, h3⟩ := slice_arg Try.underlying55 cellsStr (by omega) h (fun b : ByteArray => [Value.string b]) (fun s => s.size ≤ maxLen) (fun _ => rfl) (fun ecs he hr => by
    obtain ⟨b, hb, hs⟩ := hr.string Try.underlying9
    exact ⟨b, hs, hb⟩)
  have e : ∀ l : List ByteArray, l.flatMap (fun b : ByteArray => [Value.string b]) = encSs l := by
    intro l
    induction l with
    | nil => rfl
    | cons b l ih => rw [List.flatMap_cons, ih]; rfl
  rw [e] at h3
  exact ⟨ad, cap, l, h1, h2, hp, h3⟩
theorem zero_slots : slotsOf Z256 = some (List.replicate 8 zSl) := by decide +kernel
theorem eight0 (ss : List ByteArray) : Eight ss 0 Z256 (List.replicate 8 zSl) 0 :=
  ⟨Z256_len, zero_slots, by omega, fun j y h => by omega, fun j _ h => by rw [List.getElem?_replicate, if_pos h], fun s hok h => (by
    obtain ⟨j, y, hy, e⟩ := idx_in h
    rw [List.getElem?_replicate] at hy
    split at hy
    · cases hy
      have := (okName_size hok).1
      rw [← e] at this
      exact absurd this (by decide)
    · cases hy), fun _ k s h => by omega⟩

set_option maxRecDepth 100000 in
set_option maxHeartbeats 40000000 in
theorem walk (ad : Option Addr) (cap : Nat) (ss : List ByteArray) (w : World) (L : List Ass) (HS : St none' w w L) (hm : ss.length ≤ maxLen) (hok : ∀ s ∈ ss, s.size ≤ maxLen) (hl : ss = [] ∨ ∃ A o, ad = some ⟨A, o, none⟩ ∧ Ass.ro A o (encSs ss) ∈ L) :
    Calls Try.prog 7 #[.slice ad ss.length cap] w fun e w' => e = .returned (.bool true) ∧ Below w.heap.size w w' := by
  have z256 : Hid ((encB Z256).size = 256) := (encB_size _).trans Z256_len
  have HOK := Lib.hid hok
  have HL := Lib.hid hl
  unfold maxLen at hm
  clear hok hl
  by_cases hlong : 20 < ss.length
  · have hI : (20 : Int) < (ss.length : Int) := by omega
    go_enter Try.func7, Try.ntmps7
    go_wp2_with (first | (go_at_call 21; refine (aw.awake_any _).mono ?_; rintro e w' ⟨rfl, H1⟩; replace HS := HS.fresh H1; clear H1) | ((with_reducible apply sAlloc HS); infer_instance; (first | exact cells_agg _ | exact cells_one rfl); rfl; intro Bb w' H1; clear HS; have HS := H1; clear H1))
    go_ret
    exact ⟨rfl, HS.below⟩
  have hI : ¬ (20 : Int) < (ss.length : Int) := by omega
  go_enter Try.func7, Try.ntmps7
  go_wp2_with (first | (go_at_call 21; refine (aw.awake_any _).mono ?_; rintro e w' ⟨rfl, H1⟩; replace HS := HS.fresh H1; clear H1) | ((with_reducible apply sAlloc HS); infer_instance; (first | exact cells_agg _ | exact cells_one rfl); rfl; intro Bb w' H1; clear HS; have HS := H1; clear H1))
  replace HS : St none' w _ (.blk true Bb (encB Z256) 23 :: L) := HS
  go_loopw [4, 5] (fun nv iv wr => ∃ (i n : Nat) (bs : List UInt8) (l : List Sl), i ≤ ss.length ∧ nv = .int .i64 n ∧ iv = .int .i64 i ∧ Hid (Eight ss i bs l n) ∧ St none' w wr (.blk true Bb (encB bs) 23 :: L)) (fun _ iv _ => ss.length - (intOf iv).toNat)
  case atStart => exact ⟨0, 0, Z256, _, by omega, rfl, rfl, eight0 ss, HS⟩
  case round =>
    obtain ⟨i, n, bs, l, hi, rfl, rfl, HE, HS⟩ := hrel
    have hn8 := HE.out.n8
    by_cases hil : i < ss.length
    · obtain ⟨s, hs⟩ : ∃ s, ss[i]? = some s := ⟨_, List.getElem?_eq_getElem hil⟩
      have HLB := Lib.hid HE.out.len
      have hzb : Hid ((encB bs).size = 256) := (encB_size _).trans HE.out.len
      obtain ⟨A, o, rfl, hA⟩ : ∃ A o, ad = some ⟨A, o, none⟩ ∧ Ass.ro A o (encSs ss) ∈ L := by
        rcases HL.out with h | h
        · subst h; simp at hil
        · exact h
      have HA := Lib.hid hA
      have HSZ := Lib.hid (HOK.out s (List.mem_of_getElem? hs))
      have HVI := Lib.hid (encSs_get hs)
      have HSI := Lib.hid hs
      have HM := Lib.hid (fun W => pmay_any s W HSZ.out)
      have HF : Hid (∀ W, Calls Try.prog 23 #[.agg (encB bs), .string s] W fun e w' => e = .returned (.bool (findOf bs s).isSome) ∧ Mod none' W w') := fun W => (lfind (St.nil none' W) bs HLB.out s).mono fun _ _ h => ⟨h.1, h.2.mod⟩
      clear hs hA
      go_wp2
      go_loopw [6, 7] (fun tv kv wr => ∃ (m : Nat) (tb : Bool), m ≤ i ∧ kv = .int .i64 m ∧ tv = .bool tb ∧ Hid (tb = ((ss.take m).any fun x => x == s)) ∧ St none' w wr (.blk true Bb (encB bs) 23 :: L)) (fun _ kv _ => i - (intOf kv).toNat)
      case atStart => exact ⟨0, false, by omega, rfl, rfl, rfl, HS⟩
      case round =>
        obtain ⟨m, tb, hmi, rfl, rfl, HT, HS⟩ := hrel
        by_cases hmlt : m < i
        · obtain ⟨x, hx⟩ : ∃ x, ss[m]? = some x := ⟨_, List.getElem?_eq_getElem (by omega)⟩
          have HVM := Lib.hid (encSs_get hx)
          have HX := Lib.hid hx
          have HQ : Hid ((x == s) = (x.toList == s.toList)) := beq_toListBytes x s
          have HTN : Hid (((ss.take (m + 1)).any fun x => x == s) = (tb || (x == s))) := by
            show _ = _
            rw [List.take_add_one, HX.out, Option.toList_some, List.any_append, ← HT.out]; simp
          clear hx
          cases tb
          · cases hq : (x.toList == s.toList)
            · have HQF : Hid ((x == s) = false) := HQ.out.trans hq
              go_wp2
              (try simp only [Act.put])
              refine wp_region_quietF (by kernel_rfl) (by kernel_rfl) ?_
              repeat (first | go_big_quiet_skip | (((with_reducible apply qLoadRo1 (j := m) HS); infer_instance; rfl; rfl; exact List.Mem.tail _ HA.out; (first | rfl | omega | (simp; done)); exact HVM.out); (try simp only [Act.put, List.setIfInBounds_toArray, List.set_cons_zero, List.set_cons_succ])) | (((with_reducible apply qLoadRo1 (j := i) HS); infer_instance; rfl; rfl; exact List.Mem.tail _ HA.out; (first | rfl | omega | (simp; done)); exact HVI.out); (try simp only [Act.put, List.setIfInBounds_toArray, List.set_cons_zero, List.set_cons_succ])) | (go_big_quiet_want; go_big_quiet_op; first | go_big_quiet_on | (refine ⟨_, fun _ _ => rfl, ?_⟩; go_big_quiet_on) | (apply Exists.intro; refine ⟨fun wc hfr => ?_, ?_⟩; (· fail); go_big_quiet_on)))
              refine wpQuiet_nil ?_
              intro w1 hm1
              replace HS := HS.fresh hm1
              clear hm1
              go_wp2
              go_roundw
              case rel => exact ⟨m + 1, false, by omega, by go_num, rfl, by show _ = _; rw [HTN.out, HQF.out]; rfl, HS⟩
              case measure => simp [intOf]; omega
            · have HQF : Hid ((x == s) = true) := HQ.out.trans hq
              go_wp2
              (try simp only [Act.put])
              refine wp_region_quietF (by kernel_rfl) (by kernel_rfl) ?_
              repeat (first | go_big_quiet_skip | (((with_reducible apply qLoadRo1 (j := m) HS); infer_instance; rfl; rfl; exact List.Mem.tail _ HA.out; (first | rfl | omega | (simp; done)); exact HVM.out); (try simp only [Act.put, List.setIfInBounds_toArray, List.set_cons_zero, List.set_cons_succ])) | (((with_reducible apply qLoadRo1 (j := i) HS); infer_instance; rfl; rfl; exact List.Mem.tail _ HA.out; (first | rfl | omega | (simp; done)); exact HVI.out); (try simp only [Act.put, List.setIfInBounds_toArray, List.set_cons_zero, List.set_cons_succ])) | (go_big_quiet_want; go_big_quiet_op; first | go_big_quiet_on | (refine ⟨_, fun _ _ => rfl, ?_⟩; go_big_quiet_on) | (apply Exists.intro; refine ⟨fun wc hfr => ?_, ?_⟩; (· fail); go_big_quiet_on)))
              refine wpQuiet_nil ?_
              intro w1 hm1
              replace HS := HS.fresh hm1
              clear hm1
              go_wp2
              go_roundw
              case rel => exact ⟨m + 1, true, by omega, by go_num, rfl, by show _ = _; rw [HTN.out, HQF.out]; rfl, HS⟩
              case measure => simp [intOf]; omega
          · go_wp2
            (try simp only [Act.put])
            refine wp_region_quietF (by kernel_rfl) (by kernel_rfl) ?_
            repeat (first | go_big_quiet_skip | (go_big_quiet_want; go_big_quiet_op; first | go_big_quiet_on | (refine ⟨_, fun _ _ => rfl, ?_⟩; go_big_quiet_on) | (apply Exists.intro; refine ⟨fun wc hfr => ?_, ?_⟩; (· fail); go_big_quiet_on)))
            refine wpQuiet_nil ?_
            intro w1 hm1
            replace HS := HS.fresh hm1
            clear hm1
            go_wp2
            go_roundw
            case rel => exact ⟨m + 1, true, by omega, by go_num, rfl, by show _ = _; rw [HTN.out]; rfl, HS⟩
            case measure => simp [intOf]; omega
        · obtain rfl : m = i := by omega
          rcases HE.out.step HSI.out (by omega) with ⟨hadd, hor, hE⟩ | ⟨h8, hokn, hadd, hfd, hE⟩ | ⟨h8, hokn, hth, bs', l', hadd, hfd, hE⟩
          · have HADD := Lib.hid hadd
            have HEN := Lib.hid hE
            clear hadd hE
            rcases hor with h0 | ⟨h0, h1, h2⟩
            · rw [h0] at HM
              clear h0
              go_wp2_with (first | ((with_reducible apply sLoadRo1 (j := m) HS); infer_instance; rfl; rfl; exact List.Mem.tail _ HA.out; (first | rfl | omega | (simp; done)); exact HVI.out) | (go_at_call 17; (with_reducible refine (add_any bs HS HLB.out s HSZ.out ((m : Int) + 1) (by omega) (by omega)).mono ?_); rintro e w' ⟨rfl, H2⟩; clear HS; have HS := H2; clear H2; rw [HADD.out] at HS ⊢))
              (try simp only [Act.put])
              refine wp_region_quietF (by kernel_rfl) (by kernel_rfl) ?_
              repeat (first | go_big_quiet_skip | (((with_reducible apply qLoadRo1 (j := m) HS); infer_instance; rfl; rfl; exact List.Mem.tail _ HA.out; (first | rfl | omega | (simp; done)); exact HVI.out); (try simp only [Act.put, List.setIfInBounds_toArray, List.set_cons_zero, List.set_cons_succ])) | (((with_reducible apply qLoadB HS); infer_instance; rfl; rfl; (repeat (first | exact List.Mem.head _ | apply List.Mem.tail)); exact hzb.out); (try simp only [Act.put, List.setIfInBounds_toArray, List.set_cons_zero, List.set_cons_succ])) | (go_big_quiet_want; go_big_quiet_op; first | go_big_quiet_on | (refine ⟨_, fun _ _ => rfl, ?_⟩; go_big_quiet_on) | (apply Exists.intro; refine ⟨fun wc hfr => ?_, ?_⟩; (· first | (go_at_call 15; exact fr_call hfr (HM.out _)) | (go_at_call 23; exact fr_call hfr (HF.out _))); go_big_quiet_on)))
              refine wpQuiet_nil ?_
              intro w1 hm1
              replace HS := HS.fresh hm1
              clear hm1
              go_wp2
              go_roundw
              case rel => exact ⟨m + 1, n, bs, l, by omega, rfl, by go_num, HEN, HS⟩
              case measure => simp [intOf]; omega
            · rw [h0] at HM
              rw [h2] at HF
              obtain rfl : tb = true := HT.out.trans h1
              clear h0 h1 h2
              go_wp2_with (first | ((with_reducible apply sLoadRo1 (j := m) HS); infer_instance; rfl; rfl; exact List.Mem.tail _ HA.out; (first | rfl | omega | (simp; done)); exact HVI.out) | (go_at_call 17; (with_reducible refine (add_any bs HS HLB.out s HSZ.out ((m : Int) + 1) (by omega) (by omega)).mono ?_); rintro e w' ⟨rfl, H2⟩; clear HS; have HS := H2; clear H2; rw [HADD.out] at HS ⊢))
              (try simp only [Act.put])
              refine wp_region_quietF (by kernel_rfl) (by kernel_rfl) ?_
              repeat (first | go_big_quiet_skip | (((with_reducible apply qLoadRo1 (j := m) HS); infer_instance; rfl; rfl; exact List.Mem.tail _ HA.out; (first | rfl | omega | (simp; done)); exact HVI.out); (try simp only [Act.put, List.setIfInBounds_toArray, List.set_cons_zero, List.set_cons_succ])) | (((with_reducible apply qLoadB HS); infer_instance; rfl; rfl; (repeat (first | exact List.Mem.head _ | apply List.Mem.tail)); exact hzb.out); (try simp only [Act.put, List.setIfInBounds_toArray, List.set_cons_zero, List.set_cons_succ])) | (go_big_quiet_want; go_big_quiet_op; first | go_big_quiet_on | (refine ⟨_, fun _ _ => rfl, ?_⟩; go_big_quiet_on) | (apply Exists.intro; refine ⟨fun wc hfr => ?_, ?_⟩; (· first | (go_at_call 15; exact fr_call hfr (HM.out _)) | (go_at_call 23; exact fr_call hfr (HF.out _))); go_big_quiet_on)))
              refine wpQuiet_nil ?_
              intro w1 hm1
              replace HS := HS.fresh hm1
              clear hm1
              go_wp2
              go_roundw
              case rel => exact ⟨m + 1, n, bs, l, by omega, rfl, by go_num, HEN, HS⟩
              case measure => simp [intOf]; omega
          · have HADD := Lib.hid hadd
            have HEN := Lib.hid hE
            rw [hokn] at HM
            rw [hfd] at HF
            subst h8
            clear hadd hE hokn hfd
            cases tb
            · go_wp2_with (first | ((with_reducible apply sLoadRo1 (j := m) HS); infer_instance; rfl; rfl; exact List.Mem.tail _ HA.out; (first | rfl | omega | (simp; done)); exact HVI.out) | (go_at_call 17; (with_reducible refine (add_any bs HS HLB.out s HSZ.out ((m : Int) + 1) (by omega) (by omega)).mono ?_); rintro e w' ⟨rfl, H2⟩; clear HS; have HS := H2; clear H2; rw [HADD.out] at HS ⊢))
              (try simp only [Act.put])
              refine wp_region_quietF (by kernel_rfl) (by kernel_rfl) ?_
              repeat (first | go_big_quiet_skip | (((with_reducible apply qLoadRo1 (j := m) HS); infer_instance; rfl; rfl; exact List.Mem.tail _ HA.out; (first | rfl | omega | (simp; done)); exact HVI.out); (try simp only [Act.put, List.setIfInBounds_toArray, List.set_cons_zero, List.set_cons_succ])) | (((with_reducible apply qLoadB HS); infer_instance; rfl; rfl; (repeat (first | exact List.Mem.head _ | apply List.Mem.tail)); exact hzb.out); (try simp only [Act.put, List.setIfInBounds_toArray, List.set_cons_zero, List.set_cons_succ])) | (go_big_quiet_want; go_big_quiet_op; first | go_big_quiet_on | (refine ⟨_, fun _ _ => rfl, ?_⟩; go_big_quiet_on) | (apply Exists.intro; refine ⟨fun wc hfr => ?_, ?_⟩; (· first | (go_at_call 15; exact fr_call hfr (HM.out _)) | (go_at_call 23; exact fr_call hfr (HF.out _))); go_big_quiet_on)))
              refine wpQuiet_nil ?_
              intro w1 hm1
              replace HS := HS.fresh hm1
              clear hm1
              go_wp2
              go_roundw
              case rel => exact ⟨m + 1, 8, bs, l, by omega, rfl, by go_num, HEN, HS⟩
              case measure => simp [intOf]; omega
            · go_wp2_with (first | ((with_reducible apply sLoadRo1 (j := m) HS); infer_instance; rfl; rfl; exact List.Mem.tail _ HA.out; (first | rfl | omega | (simp; done)); exact HVI.out) | (go_at_call 17; (with_reducible refine (add_any bs HS HLB.out s HSZ.out ((m : Int) + 1) (by omega) (by omega)).mono ?_); rintro e w' ⟨rfl, H2⟩; clear HS; have HS := H2; clear H2; rw [HADD.out] at HS ⊢))
              (try simp only [Act.put])
              refine wp_region_quietF (by kernel_rfl) (by kernel_rfl) ?_
              repeat (first | go_big_quiet_skip | (((with_reducible apply qLoadRo1 (j := m) HS); infer_instance; rfl; rfl; exact List.Mem.tail _ HA.out; (first | rfl | omega | (simp; done)); exact HVI.out); (try simp only [Act.put, List.setIfInBounds_toArray, List.set_cons_zero, List.set_cons_succ])) | (((with_reducible apply qLoadB HS); infer_instance; rfl; rfl; (repeat (first | exact List.Mem.head _ | apply List.Mem.tail)); exact hzb.out); (try simp only [Act.put, List.setIfInBounds_toArray, List.set_cons_zero, List.set_cons_succ])) | (go_big_quiet_want; go_big_quiet_op; first | go_big_quiet_on | (refine ⟨_, fun _ _ => rfl, ?_⟩; go_big_quiet_on) | (apply Exists.intro; refine ⟨fun wc hfr => ?_, ?_⟩; (· first | (go_at_call 15; exact fr_call hfr (HM.out _)) | (go_at_call 23; exact fr_call hfr (HF.out _))); go_big_quiet_on)))
              refine wpQuiet_nil ?_
              intro w1 hm1
              replace HS := HS.fresh hm1
              clear hm1
              go_wp2
              go_roundw
              case rel => exact ⟨m + 1, 8, bs, l, by omega, rfl, by go_num, HEN, HS⟩
              case measure => simp [intOf]; omega
          · have HADD := Lib.hid hadd
            have HEN := Lib.hid hE
            rw [hokn] at HM
            obtain rfl : tb = false := HT.out.trans hth
            have HLN := Lib.hid hE.len
            have hzn : Hid ((encB bs').size = 256) := (encB_size _).trans hE.len
            have HPF : Hid (∀ W, Calls Try.prog 13 #[.agg (encB bs'), .string s] W fun e w' => e = .returned (.tuple #[.int .i64 n, .int .u32 ((m : Int) + 1)]) ∧ Mod none' W w') := fun W => (pfind_any (St.nil none' W) bs' HLN.out s).mono fun _ _ h => ⟨by have := h.1; rw [hfd] at this; exact this, h.2.mod⟩
            have hnq : ((n : Int) == 8) = false := by rw [beq_eq_false_iff_ne]; omega
            have hnn : ((n : Int) != (n : Int)) = false := by simp
            clear hadd hE hokn hfd hth
            go_wp2_with (first | ((with_reducible apply sLoadRo1 (j := m) HS); infer_instance; rfl; rfl; exact List.Mem.tail _ HA.out; (first | rfl | omega | (simp; done)); exact HVI.out) | (go_at_call 17; (with_reducible refine (add_any bs HS HLB.out s HSZ.out ((m : Int) + 1) (by omega) (by omega)).mono ?_); rintro e w' ⟨rfl, H2⟩; clear HS; have HS := H2; clear H2; rw [HADD.out] at HS ⊢))
            (try simp only [Act.put])
            refine wp_region_quietF (by kernel_rfl) (by kernel_rfl) ?_
            repeat (first | go_big_quiet_skip | (((with_reducible apply qLoadRo1 (j := m) HS); infer_instance; rfl; rfl; exact List.Mem.tail _ HA.out; (first | rfl | omega | (simp; done)); exact HVI.out); (try simp only [Act.put, List.setIfInBounds_toArray, List.set_cons_zero, List.set_cons_succ])) | (((with_reducible apply qLoadB HS); infer_instance; rfl; rfl; (repeat (first | exact List.Mem.head _ | apply List.Mem.tail)); exact hzb.out); (try simp only [Act.put, List.setIfInBounds_toArray, List.set_cons_zero, List.set_cons_succ])) | (go_big_quiet_want; go_big_quiet_op; first | go_big_quiet_on | (refine ⟨_, fun _ _ => rfl, ?_⟩; go_big_quiet_on) | (apply Exists.intro; refine ⟨fun wc hfr => ?_, ?_⟩; (· first | (go_at_call 15; exact fr_call hfr (HM.out _)) | (go_at_call 23; exact fr_call hfr (HF.out _))); go_big_quiet_on)))
            refine wpQuiet_nil ?_
            intro w1 hm1
            replace HS := HS.fresh hm1
            clear hm1
            go_wp2
            (try simp only [Act.put])
            refine wp_region_quietF (by kernel_rfl) (by kernel_rfl) ?_
            repeat (first | go_big_quiet_skip | (((with_reducible apply qLoadRo1 (j := m) HS); infer_instance; rfl; rfl; exact List.Mem.tail _ HA.out; (first | rfl | omega | (simp; done)); exact HVI.out); (try simp only [Act.put, List.setIfInBounds_toArray, List.set_cons_zero, List.set_cons_succ])) | (((with_reducible apply qLoadB HS); infer_instance; rfl; rfl; (repeat (first | exact List.Mem.head _ | apply List.Mem.tail)); (first | exact hzn.out | exact hzb.out)); (try simp only [Act.put, List.setIfInBounds_toArray, List.set_cons_zero, List.set_cons_succ])) | (go_big_quiet_want; go_big_quiet_op; first | go_big_quiet_on | (refine ⟨_, fun _ _ => rfl, ?_⟩; go_big_quiet_on) | (apply Exists.intro; refine ⟨fun wc hfr => ?_, ?_⟩; (· (go_at_call 13; exact fr_call hfr (HPF.out _))); go_big_quiet_on)))
            refine wpQuiet_nil ?_
            intro w1 hm1
            replace HS := HS.fresh hm1
            clear hm1
            go_wp2
            go_roundw
            case rel => exact ⟨m + 1, n + 1, bs', l', by omega, by go_num, by go_num, HEN, HS⟩
            case measure => simp [intOf]; omega
    · obtain rfl : i = ss.length := by omega
      have HSO := Lib.hid HE.out.sl
      have HLB := Lib.hid HE.out.len
      have hzb : Hid ((encB bs).size = 256) := (encB_size _).trans HE.out.len
      have HLL := Lib.hid HE.out.eight
      by_cases h8 : n = 8
      · subst h8
        go_wp2_with (first | ((with_reducible apply sLoadB HS); infer_instance; rfl; rfl; (repeat (first | exact List.Mem.head _ | apply List.Mem.tail)); exact hzb.out) | (go_at_call 11; (with_reducible refine (list_any HS bs HLB.out).mono ?_); rintro e w' H1; rw [HSO.out] at H1; obtain ⟨g1, rfl, H2⟩ := H1; clear HS; have HS := H2; clear H2) | ((with_reducible apply sLoadN HS); infer_instance; rfl; rfl; (repeat (first | exact List.Mem.head _ | apply List.Mem.tail)); exact HP.out; rfl) | ((with_reducible apply sVal (valEq2 slot_two u32As strAs rfl rfl)); rfl))
        go_ret
        exact ⟨rfl, HS.below⟩
      · have hlt : n < 8 := by omega
        have hnq : ((n : Int) == 8) = false := by rw [beq_eq_false_iff_ne]; omega
        have HP : Hid (∀ j u, [Value.int .u32 0, .string ByteArray.empty][j]? = some u → (rowS l)[n * 2 + j]? = some u) := rowS_part l n zSl (HE.out.free n (Nat.le_refl _) hlt)
        have hle : decide ((n : Int) ≤ 8) = true := decide_eq_true (by omega)
        go_wp2_with (first | ((with_reducible apply sLoadB HS); infer_instance; rfl; rfl; (repeat (first | exact List.Mem.head _ | apply List.Mem.tail)); exact hzb.out) | (go_at_call 11; (with_reducible refine (list_any HS bs HLB.out).mono ?_); rintro e w' H1; rw [HSO.out] at H1; obtain ⟨g1, rfl, H2⟩ := H1; clear HS; have HS := H2; clear H2) | ((with_reducible apply sLoadN HS); infer_instance; rfl; rfl; (repeat (first | exact List.Mem.head _ | apply List.Mem.tail)); exact HP.out; rfl) | ((with_reducible apply sVal (valEq2 slot_two u32As strAs rfl rfl)); rfl))
        go_ret
        exact ⟨rfl, HS.below⟩

set_option maxRecDepth 100000 in
theorem lifted (os : Os) (started : os.Started) (H : Type) (enc : TypeId × Value → H) :
    ReturnsInHanded {} Try.checked os 7 .any (Rows.slotsEightSpec.pre6 enc Try.prog Try.f7 Rows.slotsEightRow.domain false) (Rows.slotsEightSpec.post enc Try.prog Try.f7 false true false false) := by
  refine law_lift (C := Try.checked) own started (by kernel_rfl) Try.func7 laidOut rfl Try.underlying4 rfl ?hs (by kernel_rfl)
    (ChangeSpec.witness6 (enc := enc) (C := Try.checked) false ⟨#[], #[.slice none 0 0], []⟩ 8 (by kernel_rfl) (by kernel_rfl) (by kernel_rfl) (by kernel_rfl)) ?hwalk
  case hs =>
    intro ds h
    match ds, h with
    | [d0], _ => rfl
  case hwalk =>
    intro W args hn ha
    obtain ⟨l⟩ := args
    match l, hn with
    | [v0], _ =>
      obtain ⟨ad, cap, l, rfl, hm, hok, hl⟩ := strs_arg (ha 0 _ _ rfl rfl)
      obtain ⟨L', HS, _, hl'⟩ := (St.nil none' W).arg (by simp) hl
      exact walk ad cap l W _ HS hm hok (hl'.imp id (fun ⟨A, o, h1, h2⟩ => ⟨A, o, h1, List.mem_append_left _ h2⟩))

theorem over : Rows.slotsEightRow.holds Try.pinned (OpenSpec.ofChange Rows.slotsEightSpec) :=
  OpenClaim.holds_of_wide 7 Try.f7 rfl rfl rfl rfl rfl rfl rfl ⟨rfl, rfl, rfl, rfl, rfl⟩ rfl rfl rfl rfl rfl (by kernel_rfl) Try.func7 (by kernel_rfl)
    (of_decide_eq_true (by kernel_rfl)) (by unfold Func.isWrapper; first | (rw [if_pos (by decide +kernel)]; kernel_rfl) | (rw [if_neg (by decide +kernel)]; exact ⟨rfl, rfl⟩))
    (fun os started H enc _ => lifted os started H enc)

theorem proved : Rows.SlotsEightSaid := over
#print axioms proved
end Go.Proofs.Ytdpbdmbgdcdmaaa.slotsEight
