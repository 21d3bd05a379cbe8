/- A path's names, with one more, are those of the path with a / and that one behind it; if they are at most 16, and it isn't too long. -/
import Derived.Test.YtaponmniedjkiaaNlp
namespace Go.Proofs.Ytaponmniedjkiaa.namesBelow
open Go Go.RowKit Go.ChangeShapes Go.WideShapes Go.ChangeAt
theorem own : ownKnob Try.prog.godebug = none := by kernel_rfl
theorem laidOut : laidOutB Try.prog = true := by kernel_rfl

set_option maxRecDepth 100000 in
set_option maxHeartbeats 8000000 in
theorem walk (s x : ByteArray) (hs : s.size ≤ maxLen) (hx : x.size ≤ maxLen) (w : World) :
    Calls Try.prog 8 #[.string s, .string x] w fun e w' => e = .returned (.bool true) ∧ Below w.heap.size w w' := by
  have HS := St.nil none' w
  unfold maxLen at hs hx
  by_cases hlong : 5000 < s.size
  · have e1 : decide ((5000 : Int) < (s.size : Int)) = true := decide_eq_true (by omega)
    have e1I : (5000 : Int) < (s.size : Int) := by omega
    go_enter Try.func8, Try.ntmps8
    go_wp2_with (go_at_call 17; refine (aw.awake_any _).mono ?_; rintro e w' ⟨rfl, H1⟩; replace HS := HS.fresh H1; clear H1)
    go_ret
    exact ⟨rfl, HS.below⟩
  have e1 : decide ((5000 : Int) < (s.size : Int)) = false := decide_eq_false (by omega)
  have e1I : ¬ (5000 : Int) < (s.size : Int) := by omega
  by_cases hlong2 : 5000 < x.size
  · have e2 : decide ((5000 : Int) < (x.size : Int)) = true := decide_eq_true (by omega)
    have e2I : (5000 : Int) < (x.size : Int) := by omega
    go_enter Try.func8, Try.ntmps8
    go_wp2_with (go_at_call 17; refine (aw.awake_any _).mono ?_; rintro e w' ⟨rfl, H1⟩; replace HS := HS.fresh H1; clear H1)
    go_ret
    exact ⟨rfl, HS.below⟩
  have e2 : decide ((5000 : Int) < (x.size : Int)) = false := decide_eq_false (by omega)
  have e2I : ¬ (5000 : Int) < (x.size : Int) := by omega
  have hnx := Lib.hid (Lib.size_eq x)
  have HSP := Lib.hid (fun (S : Nat → Prop) (w0 W : World) (L : List Ass) (HS : St S w0 W L) => split_any HS s (by omega))
  have HJ := Lib.hid (fun (W : World) g h2 => join_any W (some ⟨g, 0, none⟩) 1 [x.data.toList] (by simp) (by simp) (by rw [pathOf_one, List.length_cons, ← hnx.out]; omega) h2)
  have HE : Hid (encS [x.data.toList] = [.string x]) := by show _ = _; unfold encS; rw [List.map_cons, mkB_data]; rfl
  by_cases h1 : (splitN s.data.toList).1 = 0
  rotate_left
  · rw [splitN_bad h1] at HSP
    generalize (splitN s.data.toList).1 = g at *
    have hb : (g != 0) = true := by simpa using h1
    clear h1
    go_enter Try.func8, Try.ntmps8
    go_wp2_with (first | (go_at_call 17; refine (aw.awake_any _).mono ?_; rintro e w' ⟨rfl, H1⟩; replace HS := HS.fresh H1; clear H1) | (go_at_call 14; (with_reducible refine (HSP.out _ _ _ _ HS).mono ?_); rintro e w' ⟨v, rfl, H1⟩; clear HS; have HS := H1; clear H1; obtain ⟨ad1, ad1c, rfl⟩ := own_slice (HS.own (.head _))) | (go_at_call 10; (have H2 := HS.alloc (encS [x.data.toList]).toArray 9); (have HTX := aw.Txts.blk H2 (.head _)); rw [HE.out] at H2 HTX; refine (HJ.out _ _ HTX).mono ?_; rintro e w' ⟨rfl, H1⟩; clear HS; have HS := H2.fresh H1; replace HS := HS.tail; clear H1 H2 HTX))
    go_ret
    exact ⟨rfl, HS.below⟩
  have h16 := (splitN_ok h1).2.2.2.1
  have h5 := (splitN_ok h1).2.2.2.2
  cases hok : okN x.data.toList
  · have hq : ∃ q, q ≠ 0 ∧ joinN [x.data.toList] = (q, []) := by
      rcases join_one_bad (x := x.data.toList) hok with h | ⟨h, _⟩
      · exact ⟨_, by decide, h⟩
      · exact ⟨_, by decide, h⟩
    obtain ⟨q, hq0, hj⟩ := hq
    have hb : (q != 0) = true := by simpa using hq0
    rw [hj] at HJ
    rw [h1] at HSP
    generalize (splitN s.data.toList).2 = l at *
    clear hj hq0 h1 h5 hok
    go_enter Try.func8, Try.ntmps8
    go_wp2_with (first | (go_at_call 17; refine (aw.awake_any _).mono ?_; rintro e w' ⟨rfl, H1⟩; replace HS := HS.fresh H1; clear H1) | (go_at_call 14; (with_reducible refine (HSP.out _ _ _ _ HS).mono ?_); rintro e w' ⟨v, rfl, H1⟩; clear HS; have HS := H1; clear H1; obtain ⟨ad1, ad1c, rfl⟩ := own_slice (HS.own (.head _))) | (go_at_call 10; (have H2 := HS.alloc (encS [x.data.toList]).toArray 9); (have HTX := aw.Txts.blk H2 (.head _)); rw [HE.out] at H2 HTX; refine (HJ.out _ _ HTX).mono ?_; rintro e w' ⟨rfl, H1⟩; clear HS; have HS := H2.fresh H1; replace HS := HS.tail; clear H1 H2 HTX))
    go_ret
    exact ⟨rfl, HS.below⟩
  · obtain ⟨hb1, hb2⟩ := below_path h1 hok
    have hss : s.data.toList.head? = some 47 := (splitN_ok h1).2.1
    rw [h5] at hb1 hb2
    rw [h1, h5] at HSP
    simp only at hb1 hb2 HSP
    rw [(join_one_ok hok).1] at HJ
    generalize rowP s.data.toList = l at *
    have hlx : (l ++ [x.data.toList]).length = l.length + 1 := by simp
    have hz1 : (s ++ (⟨#[47]⟩ : ByteArray)).size = s.size + 1 := by rw [Lib.size_eq, Lib.size_eq s]; simp
    have hz2 : (s ++ (⟨#[47]⟩ : ByteArray) ++ x).size = s.size + 1 + x.size := by rw [Lib.size_eq, Lib.size_eq s, Lib.size_eq x]; simp; omega
    have hz3 : ((⟨#[47]⟩ : ByteArray) ++ x).size = x.size + 1 := by rw [Lib.size_eq, Lib.size_eq x]; simp
    have hxx : (x.toList == x.toList) = true := by simp
    have hvx : Hid ((encS (l ++ [x.data.toList]))[l.length]? = some (.string x)) := by
      show _ = _
      rw [encS_get (by simp : (l ++ [x.data.toList])[l.length]? = some x.data.toList), mkB_data]
    by_cases hl0 : l = []
    · have hT : mkB (pathOf (l ++ [x.data.toList])) = (⟨#[47]⟩ : ByteArray) ++ x := ba_list (by rw [mkB_list, ← hb1, if_pos hl0]; simp)
      have e0 : ((l.length : Int) == 0) = true := by rw [hl0]; rfl
      have e0I : (l.length : Int) = 0 := by rw [hl0]; rfl
      have HPT : Hid (((⟨#[47]⟩ : ByteArray) ++ x).data.toList = pathOf (l ++ [x.data.toList])) := by show _ = _; rw [← hT, mkB_list]
      have hsz : ((⟨#[47]⟩ : ByteArray) ++ x).size = (pathOf (l ++ [x.data.toList])).length := by rw [Lib.size_eq, HPT.out]
      obtain ⟨pn, hpn⟩ : ∃ pn, (pathOf (l ++ [x.data.toList])).length = pn := ⟨_, rfl⟩
      rw [hpn] at hsz hb2
      clear hpn
      by_cases hbig : 512 < pn
      · rw [if_pos hbig] at hb2
        have HSM := Lib.hid (fun (S : Nat → Prop) (w0 W : World) (L : List Ass) (HS : St S w0 W L) => aw.split_at HS ((⟨#[47]⟩ : ByteArray) ++ x) (by omega) (q := 3) (l := []) (by rw [HPT.out]; exact hb2))
        have e6 : decide ((512 : Int) < (x.size : Int) + 1) = true := decide_eq_true (by omega)
        have e6I : (512 : Int) < (x.size : Int) + 1 := by omega
        have e7 : decide ((512 : Int) < 1 + (x.size : Int)) = true := decide_eq_true (by omega)
        have e7I : (512 : Int) < 1 + (x.size : Int) := by omega
        clear hb1 hb2 hT hok hss h1 h5 hl0
        go_enter Try.func8, Try.ntmps8
        go_wp2_with (first | (go_at_call 17; refine (aw.awake_any _).mono ?_; rintro e w' ⟨rfl, H1⟩; replace HS := HS.fresh H1; clear H1) | (go_at_call 14; (with_reducible refine (HSP.out _ _ _ _ HS).mono ?_); rintro e w' ⟨v, rfl, H1⟩; clear HS; have HS := H1; clear H1; obtain ⟨ad1, ad1c, rfl⟩ := own_slice (HS.own (.head _))) | (go_at_call 14; (with_reducible refine (HSM.out _ _ _ _ HS).mono ?_); rintro e w' ⟨v, rfl, H1⟩; clear HS; have HS := H1; clear H1; obtain ⟨ad2, ad2c, rfl⟩ := own_slice (HS.own (.head _))) | (go_at_call 10; (have H2 := HS.alloc (encS [x.data.toList]).toArray 9); (have HTX := aw.Txts.blk H2 (.head _)); rw [HE.out] at H2 HTX; refine (HJ.out _ _ HTX).mono ?_; rintro e w' ⟨rfl, H1⟩; clear HS; have HS := H2.fresh H1; replace HS := HS.tail; clear H1 H2 HTX))
        go_ret
        exact ⟨rfl, HS.below⟩
      rw [if_neg hbig] at hb2
      have e6 : decide ((512 : Int) < (x.size : Int) + 1) = false := decide_eq_false (by omega)
      have e6I : ¬ (512 : Int) < (x.size : Int) + 1 := by omega
      have e7 : decide ((512 : Int) < 1 + (x.size : Int)) = false := decide_eq_false (by omega)
      have e7I : ¬ (512 : Int) < 1 + (x.size : Int) := by omega
      by_cases hl16 : l.length = 16
      · exfalso; omega
      · rw [if_neg hl16] at hb2
        have HSM := Lib.hid (fun (S : Nat → Prop) (w0 W : World) (L : List Ass) (HS : St S w0 W L) => aw.split_at HS ((⟨#[47]⟩ : ByteArray) ++ x) (by omega) (q := 0) (l := l ++ [x.data.toList]) (by rw [HPT.out]; exact hb2))
        rw [hlx] at HSM
        have e8 : ((l.length : Int) == 16) = false := by rw [beq_eq_false_iff_ne]; omega
        have e8I : ¬ (l.length : Int) = 16 := by omega
        have e9 : (((l.length : Int) + 1) != ((l.length : Int) + 1)) = false := by simp
        have hvx0 : Hid ((encS (([] : List (List UInt8)) ++ [x.data.toList]))[0]? = some (.string x)) := by subst hl0; exact hvx
        subst hl0
        clear hb1 hb2 hT hok hss h1 h5 e0I e8I e0 e8 e9 hvx
        go_enter Try.func8, Try.ntmps8
        go_wp2_with (first | (go_at_call 17; refine (aw.awake_any _).mono ?_; rintro e w' ⟨rfl, H1⟩; replace HS := HS.fresh H1; clear H1) | (go_at_call 14; (with_reducible refine (HSP.out _ _ _ _ HS).mono ?_); rintro e w' ⟨v, rfl, H1⟩; clear HS; have HS := H1; clear H1; obtain ⟨ad1, ad1c, rfl⟩ := own_slice (HS.own (.head _))) | (go_at_call 14; (with_reducible refine (HSM.out _ _ _ _ HS).mono ?_); rintro e w' ⟨v, rfl, H1⟩; clear HS; have HS := H1; clear H1; (obtain ⟨g2, ad2c, rfl, hcap, _⟩ := own_row (HS.own (.head _)) (Nat.succ_pos _))) | (go_at_call 10; (have H2 := HS.alloc (encS [x.data.toList]).toArray 9); (have HTX := aw.Txts.blk H2 (.head _)); rw [HE.out] at H2 HTX; refine (HJ.out _ _ HTX).mono ?_; rintro e w' ⟨rfl, H1⟩; clear HS; have HS := H2.fresh H1; replace HS := HS.tail; clear H1 H2 HTX) | ((with_reducible apply sLoadO1 HS); infer_instance; rfl; rfl; exact .head _; exact hvx0.out))
        go_loopw [12] (fun iv wr => iv = .int .i64 0 ∧ St none' w wr []) (fun _ _ => 0)
        case atStart => exact ⟨rfl, HS.tail.tail⟩
        case round =>
          obtain ⟨rfl, HS⟩ := hrel
          go_wp2
          go_ret
          exact ⟨rfl, HS.below⟩
    · have hT : mkB (pathOf (l ++ [x.data.toList])) = s ++ (⟨#[47]⟩ : ByteArray) ++ x := ba_list (by rw [mkB_list, ← hb1, if_neg hl0]; simp)
      have e0 : ((l.length : Int) == 0) = false := by rw [beq_eq_false_iff_ne]; have := List.length_pos_iff.2 hl0; omega
      have e0I : ¬ (l.length : Int) = 0 := by have := List.length_pos_iff.2 hl0; omega
      have HPT : Hid ((s ++ (⟨#[47]⟩ : ByteArray) ++ x).data.toList = pathOf (l ++ [x.data.toList])) := by show _ = _; rw [← hT, mkB_list]
      have hsz : (s ++ (⟨#[47]⟩ : ByteArray) ++ x).size = (pathOf (l ++ [x.data.toList])).length := by rw [Lib.size_eq, HPT.out]
      obtain ⟨pn, hpn⟩ : ∃ pn, (pathOf (l ++ [x.data.toList])).length = pn := ⟨_, rfl⟩
      rw [hpn] at hsz hb2
      clear hpn
      by_cases hbig : 512 < pn
      · rw [if_pos hbig] at hb2
        have HSM := Lib.hid (fun (S : Nat → Prop) (w0 W : World) (L : List Ass) (HS : St S w0 W L) => aw.split_at HS (s ++ (⟨#[47]⟩ : ByteArray) ++ x) (by omega) (q := 3) (l := []) (by rw [HPT.out]; exact hb2))
        have e6 : decide ((512 : Int) < (s.size : Int) + 1 + (x.size : Int)) = true := decide_eq_true (by omega)
        have e6I : (512 : Int) < (s.size : Int) + 1 + (x.size : Int) := by omega
        have e7 : decide ((512 : Int) < (s.size : Int) + 1 + (x.size : Int)) = true := decide_eq_true (by omega)
        have e7I : (512 : Int) < (s.size : Int) + 1 + (x.size : Int) := by omega
        clear hb1 hb2 hT hok hss h1 h5 hl0
        go_enter Try.func8, Try.ntmps8
        go_wp2_with (first | (go_at_call 17; refine (aw.awake_any _).mono ?_; rintro e w' ⟨rfl, H1⟩; replace HS := HS.fresh H1; clear H1) | (go_at_call 14; (with_reducible refine (HSP.out _ _ _ _ HS).mono ?_); rintro e w' ⟨v, rfl, H1⟩; clear HS; have HS := H1; clear H1; obtain ⟨ad1, ad1c, rfl⟩ := own_slice (HS.own (.head _))) | (go_at_call 14; (with_reducible refine (HSM.out _ _ _ _ HS).mono ?_); rintro e w' ⟨v, rfl, H1⟩; clear HS; have HS := H1; clear H1; obtain ⟨ad2, ad2c, rfl⟩ := own_slice (HS.own (.head _))) | (go_at_call 10; (have H2 := HS.alloc (encS [x.data.toList]).toArray 9); (have HTX := aw.Txts.blk H2 (.head _)); rw [HE.out] at H2 HTX; refine (HJ.out _ _ HTX).mono ?_; rintro e w' ⟨rfl, H1⟩; clear HS; have HS := H2.fresh H1; replace HS := HS.tail; clear H1 H2 HTX))
        go_ret
        exact ⟨rfl, HS.below⟩
      rw [if_neg hbig] at hb2
      have e6 : decide ((512 : Int) < (s.size : Int) + 1 + (x.size : Int)) = false := decide_eq_false (by omega)
      have e6I : ¬ (512 : Int) < (s.size : Int) + 1 + (x.size : Int) := by omega
      have e7 : decide ((512 : Int) < (s.size : Int) + 1 + (x.size : Int)) = false := decide_eq_false (by omega)
      have e7I : ¬ (512 : Int) < (s.size : Int) + 1 + (x.size : Int) := by omega
      by_cases hl16 : l.length = 16
      · rw [if_pos hl16] at hb2
        have HSM := Lib.hid (fun (S : Nat → Prop) (w0 W : World) (L : List Ass) (HS : St S w0 W L) => aw.split_at HS (s ++ (⟨#[47]⟩ : ByteArray) ++ x) (by omega) (q := 4) (l := []) (by rw [HPT.out]; exact hb2))
        have e8 : ((l.length : Int) == 16) = true := by rw [beq_iff_eq]; omega
        have e8I : (l.length : Int) = 16 := by omega
        clear hb1 hb2 hT hok hss h1 h5 hl0
        go_enter Try.func8, Try.ntmps8
        go_wp2_with (first | (go_at_call 17; refine (aw.awake_any _).mono ?_; rintro e w' ⟨rfl, H1⟩; replace HS := HS.fresh H1; clear H1) | (go_at_call 14; (with_reducible refine (HSP.out _ _ _ _ HS).mono ?_); rintro e w' ⟨v, rfl, H1⟩; clear HS; have HS := H1; clear H1; obtain ⟨ad1, ad1c, rfl⟩ := own_slice (HS.own (.head _))) | (go_at_call 14; (with_reducible refine (HSM.out _ _ _ _ HS).mono ?_); rintro e w' ⟨v, rfl, H1⟩; clear HS; have HS := H1; clear H1; obtain ⟨ad2, ad2c, rfl⟩ := own_slice (HS.own (.head _))) | (go_at_call 10; (have H2 := HS.alloc (encS [x.data.toList]).toArray 9); (have HTX := aw.Txts.blk H2 (.head _)); rw [HE.out] at H2 HTX; refine (HJ.out _ _ HTX).mono ?_; rintro e w' ⟨rfl, H1⟩; clear HS; have HS := H2.fresh H1; replace HS := HS.tail; clear H1 H2 HTX))
        go_ret
        exact ⟨rfl, HS.below⟩
      · rw [if_neg hl16] at hb2
        have HSM := Lib.hid (fun (S : Nat → Prop) (w0 W : World) (L : List Ass) (HS : St S w0 W L) => aw.split_at HS (s ++ (⟨#[47]⟩ : ByteArray) ++ x) (by omega) (q := 0) (l := l ++ [x.data.toList]) (by rw [HPT.out]; exact hb2))
        rw [hlx] at HSM
        have e8 : ((l.length : Int) == 16) = false := by rw [beq_eq_false_iff_ne]; omega
        have e8I : ¬ (l.length : Int) = 16 := by omega
        have e9 : (((l.length : Int) + 1) != ((l.length : Int) + 1)) = false := by simp
        clear hb1 hb2 hT hok hss h1 h5 hl0
        go_enter Try.func8, Try.ntmps8
        go_wp2_with (first | (go_at_call 17; refine (aw.awake_any _).mono ?_; rintro e w' ⟨rfl, H1⟩; replace HS := HS.fresh H1; clear H1) | (go_at_call 14; (with_reducible refine (HSP.out _ _ _ _ HS).mono ?_); rintro e w' ⟨v, rfl, H1⟩; clear HS; have HS := H1; clear H1; obtain ⟨ad1, ad1c, rfl⟩ := own_slice (HS.own (.head _))) | (go_at_call 14; (with_reducible refine (HSM.out _ _ _ _ HS).mono ?_); rintro e w' ⟨v, rfl, H1⟩; clear HS; have HS := H1; clear H1; (obtain ⟨g2, ad2c, rfl, hcap, _⟩ := own_row (HS.own (.head _)) (Nat.succ_pos _))) | (go_at_call 10; (have H2 := HS.alloc (encS [x.data.toList]).toArray 9); (have HTX := aw.Txts.blk H2 (.head _)); rw [HE.out] at H2 HTX; refine (HJ.out _ _ HTX).mono ?_; rintro e w' ⟨rfl, H1⟩; clear HS; have HS := H2.fresh H1; replace HS := HS.tail; clear H1 H2 HTX) | ((with_reducible apply sLoadO1 HS); infer_instance; rfl; rfl; exact .head _; exact hvx.out))
        go_loopw [12] (fun iv wr => ∃ i : Nat, i ≤ l.length ∧ iv = .int .i64 i ∧ St none' w wr [.own (.slice (some ⟨g2, 0, none⟩) (l.length + 1) ad2c) 9 1 (l.length + 1) (encS (l ++ [x.data.toList])), .own (.slice ad1 l.length ad1c) 9 1 l.length (encS l)]) (fun iv _ => l.length - (intOf iv).toNat)
        case atStart => exact ⟨0, Nat.zero_le _, rfl, HS⟩
        case round =>
          obtain ⟨i, hi, rfl, HS⟩ := hrel
          by_cases hil : i < l.length
          · obtain ⟨y, hy⟩ : ∃ y, l[i]? = some y := ⟨_, List.getElem?_eq_getElem hil⟩
            have hv1 : Hid ((encS l)[i]? = some (.string (mkB y))) := encS_get hy
            have hv2 : Hid ((encS (l ++ [x.data.toList]))[i]? = some (.string (mkB y))) := encS_get (by rw [List.getElem?_append_left hil]; exact hy)
            obtain ⟨g, cap3, e3, hc3, _⟩ := own_row (HS.own (.tail _ (.head _))) (by omega : 0 < l.length)
            obtain ⟨rfl, rfl⟩ : ad1 = some ⟨g, 0, none⟩ ∧ ad1c = cap3 := by simpa using e3
            have hyy : ((mkB y).toList == (mkB y).toList) = true := by simp
            clear e3 hy
            go_wp2
            (try simp only [Act.put])
            refine wp_region_quietF (by kernel_rfl) (by kernel_rfl) ?_
            repeat (first | go_big_quiet_skip | (((with_reducible apply qLoadO1 HS); infer_instance; rfl; rfl; exact .head _; exact hv2.out); (try simp only [Act.put, List.setIfInBounds_toArray, List.set_cons_zero, List.set_cons_succ])) | (((with_reducible apply qLoadO1 HS); infer_instance; rfl; rfl; exact .tail _ (.head _); exact hv1.out); (try simp only [Act.put, List.setIfInBounds_toArray, List.set_cons_zero, List.set_cons_succ])) | (go_big_quiet_want; go_big_quiet_op; first | go_big_quiet_on | (refine ⟨_, fun _ _ => rfl, ?_⟩; go_big_quiet_on) | (apply Exists.intro; refine ⟨fun wc hfr => ?_, ?_⟩; (· fail); go_big_quiet_on)))
            refine wpQuiet_nil ?_
            intro w1 hm1
            replace HS := HS.fresh hm1
            clear hm1
            go_wp2
            go_roundw
            case rel => exact ⟨i + 1, by omega, by go_num, HS⟩
            case measure => simp [intOf]; omega
          · obtain rfl : i = l.length := by omega
            go_wp2
            go_ret
            exact ⟨rfl, HS.below⟩

set_option maxRecDepth 100000 in
theorem lifted (os : Os) (started : os.Started) (H : Type) (enc : TypeId × Value → H) :
    ReturnsInHanded {} Try.checked os 8 .any (Rows.namesBelowSpec.pre6 enc Try.prog Try.f8 Rows.namesBelowRow.domain false) (Rows.namesBelowSpec.post enc Try.prog Try.f8 false true false false) := by
  refine law_lift (C := Try.checked) own started (by kernel_rfl) Try.func8 laidOut rfl Try.underlying4 rfl ?hs (by kernel_rfl)
    (ChangeSpec.witness6 (enc := enc) (C := Try.checked) false ⟨#[], #[.string ByteArray.empty, .string ByteArray.empty], []⟩ 8 (by kernel_rfl) (by kernel_rfl) (by kernel_rfl) (by kernel_rfl)) ?hwalk
  case hs =>
    intro ds h
    match ds, h with
    | [d0, d1], _ => rfl
  case hwalk =>
    intro W args hn ha
    obtain ⟨l⟩ := args
    match l, hn with
    | [v0, v1], _ =>
      obtain ⟨s, rfl, hs⟩ := (ha 0 _ _ rfl rfl).string Try.underlying9
      obtain ⟨x, rfl, hx⟩ := (ha 1 _ _ rfl rfl).string Try.underlying9
      exact walk s x hs hx W

theorem over : Rows.namesBelowRow.holds Try.pinned (OpenSpec.ofChange Rows.namesBelowSpec) :=
  OpenClaim.holds_of_wide 8 Try.f8 rfl rfl rfl rfl rfl rfl rfl ⟨rfl, rfl, rfl, rfl, rfl⟩ rfl rfl rfl rfl rfl (by kernel_rfl) Try.func8 (by kernel_rfl)
    (of_decide_eq_true (by kernel_rfl)) (by unfold Func.isWrapper; first | (rw [if_pos (by decide +kernel)]; kernel_rfl) | (rw [if_neg (by decide +kernel)]; exact ⟨rfl, rfl⟩))
    (fun os started H enc _ => lifted os started H enc)

theorem proved : Rows.NamesBelowSaid := over
#print axioms proved
end Go.Proofs.Ytaponmniedjkiaa.namesBelow
