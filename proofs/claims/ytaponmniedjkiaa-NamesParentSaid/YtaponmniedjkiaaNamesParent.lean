/- A path that has names is that of its parent's names and its last one. -/
import Derived.Test.YtaponmniedjkiaaNlp
namespace Go.Proofs.Ytaponmniedjkiaa.namesParent
open Go Go.RowKit Go.ChangeShapes Go.WideShapes Go.ChangeAt
theorem own : ownKnob Try.prog.godebug = none := by kernel_rfl
theorem laidOut : laidOutB Try.prog = true := by kernel_rfl

set_option maxRecDepth 100000 in
set_option maxHeartbeats 8000000 in
theorem walk (s : ByteArray) (hs : s.size ≤ maxLen) (w : World) :
    Calls Try.prog 6 #[.string s] w fun e w' => e = .returned (.bool true) ∧ Below w.heap.size w w' := by
  have HS := St.nil none' w
  unfold maxLen at hs
  by_cases hlong : 20000 < s.size
  · have hI : (20000 : Int) < (s.size : Int) := by omega
    go_enter Try.func6, Try.ntmps6
    go_wp2_with (go_at_call 17; refine (aw.awake_any _).mono ?_; rintro e w' ⟨rfl, H1⟩; replace HS := HS.fresh H1; clear H1)
    go_ret
    exact ⟨rfl, HS.below⟩
  have hI : ¬ (20000 : Int) < (s.size : Int) := by omega
  have hss : (s.toList == s.toList) = true := by simp
  have hn2 : (mkB []).toList.isEmpty = true := by rw [Lib.toList_data]; rfl
  have hn3 : ((mkB []).toList == ([] : List UInt8)) = true := by rw [Lib.toList_data]; rfl
  have HSP := Lib.hid (fun (S : Nat → Prop) (w0 W : World) (L : List Ass) (HS : St S w0 W L) => split_any HS s (by omega))
  have HP := Lib.hid (fun (W : World) => parent_any W s (by omega))
  by_cases h1 : (splitN s.data.toList).1 = 0
  · by_cases h2 : (splitN s.data.toList).2 = []
    · obtain ⟨k1, _, k3⟩ := parent_none (.inr h2)
      rw [h1, h2] at HSP
      rw [k3] at HP
      generalize (parentN s.data.toList).1 = g at *
      have hb : (g != 0) = true := by simpa using k1
      clear h1 h2 k1 k3
      go_enter Try.func6, Try.ntmps6
      go_wp2_with (first | (go_at_call 17; refine (aw.awake_any _).mono ?_; rintro e w' ⟨rfl, H1⟩; replace HS := HS.fresh H1; clear H1) | (go_at_call 14; (with_reducible refine (HSP.out _ _ _ _ HS).mono ?_); rintro e w' ⟨v, rfl, H1⟩; clear HS; have HS := H1; clear H1; obtain ⟨ad1, ad1c, rfl⟩ := own_slice (HS.own (.head _))) | (go_at_call 15; (with_reducible refine (HP.out _).mono ?_); rintro e w' ⟨rfl, H1⟩; replace HS := HS.fresh H1; clear H1))
      go_ret
      exact ⟨rfl, HS.below⟩
    · obtain ⟨up, x, hux, hpar, hsu, hjx⟩ := parent_ok h1 h2
      have h16 := (splitN_ok h1).2.2.2.1
      have h5 := (splitN_ok h1).2.2.2.2
      have hlx : (up ++ [x]).length = up.length + 1 := by simp
      have hup : up.length ≤ 16 := by
        have : (splitN s.data.toList).2.length = up.length + 1 := by rw [hux, hlx]
        rw [h5] at this; simp only at this; omega
      have hj0 : (joinN up).1 = 0 := joinN_init (x := x) (by rw [hjx])
      have hjl : (joinN up).2.length ≤ 512 := by rw [(joinN_ok hj0).2.2.2]; exact (joinN_ok hj0).1
      have hpl : (pathOf (up ++ [x])).length ≤ 512 := (joinN_ok (l := up ++ [x]) (by rw [hjx])).1
      rw [h1, hux, hlx] at HSP
      rw [hpar] at HP
      simp only at HP
      generalize (joinN up).2 = d at *
      have HSD := Lib.hid (fun (S : Nat → Prop) (w0 W : World) (L : List Ass) (HS : St S w0 W L) => aw.split_at HS (mkB d) (by rw [mkB_size]; omega) hsu)
      have HJ := Lib.hid (fun (W : World) ad cap h1 h2 => join_any W ad cap (up ++ [x]) (by omega) h1 (by omega) h2)
      rw [hjx, show mkB (0, s.data.toList).2 = s from mkB_data s, hlx] at HJ
      clear hux hpar hsu hjx h5 hj0 h1 h2 hpl h16
      go_enter Try.func6, Try.ntmps6
      go_wp2_with (first | (go_at_call 17; refine (aw.awake_any _).mono ?_; rintro e w' ⟨rfl, H1⟩; replace HS := HS.fresh H1; clear H1) | (go_at_call 14; (with_reducible refine (HSP.out _ _ _ _ HS).mono ?_); rintro e w' ⟨v, rfl, H1⟩; clear HS; have HS := H1; clear H1; obtain ⟨ad1, ad1c, rfl⟩ := own_slice (HS.own (.head _))) | (go_at_call 14; (with_reducible refine (HSD.out _ _ _ _ HS).mono ?_); rintro e w' ⟨v, rfl, H1⟩; clear HS; have HS := H1; clear H1; obtain ⟨ad2, ad2c, rfl⟩ := own_slice (HS.own (.head _))) | (go_at_call 15; (with_reducible refine (HP.out _).mono ?_); rintro e w' ⟨rfl, H1⟩; replace HS := HS.fresh H1; clear H1) | (at_builtin; (have H2 := HS.alloc #[.string (mkB x)] 9); (with_reducible apply sAppend H2 Try.underlying22 infoS rfl (by decide)); (conv => (lhs; whnf)); (intro v'; (repeat (first | exact Rep.here | apply Rep.there))); rfl; rotate_left; exact H2.newsAll (.head _); rotate_right; rfl; (exact encS_one [x]); decide; omega; intro v1 w' H1 hnil; clear HS H2; have HS := H1.tail; clear H1 hnil; rw [show encS up ++ (#[Value.string (mkB x)] : Array Value).toList = encS (up ++ [x]) from encS_snoc up x] at HS; obtain ⟨ad3, ad3c, rfl⟩ := own_slice (HS.own (.head _))) | (go_at_call 10; refine (HJ.out _ _ _ (by rw [← hlx]; exact (Txts.own HS (.head _) hlx.symm).2) (Txts.own HS (.head _) hlx.symm).1).mono ?_; rintro e w' ⟨rfl, H1⟩; replace HS := HS.fresh H1; clear H1))
      go_ret
      exact ⟨rfl, HS.below⟩
  · obtain ⟨k1, k2, k3⟩ := parent_none (.inl h1)
    have k4 := k2.resolve_left h1
    rw [splitN_bad h1] at HSP
    rw [k3, k4] at HP
    generalize (splitN s.data.toList).1 = g at *
    have hb : (g != 0) = true := by simpa using h1
    have hb2 : (g == 0) = false := by simpa using h1
    have hb3 : (g == g) = true := by simp
    clear h1 k1 k2 k3 k4
    go_enter Try.func6, Try.ntmps6
    go_wp2_with (first | (go_at_call 17; refine (aw.awake_any _).mono ?_; rintro e w' ⟨rfl, H1⟩; replace HS := HS.fresh H1; clear H1) | (go_at_call 14; (with_reducible refine (HSP.out _ _ _ _ HS).mono ?_); rintro e w' ⟨v, rfl, H1⟩; clear HS; have HS := H1; clear H1; obtain ⟨ad1, ad1c, rfl⟩ := own_slice (HS.own (.head _))) | (go_at_call 15; (with_reducible refine (HP.out _).mono ?_); rintro e w' ⟨rfl, H1⟩; replace HS := HS.fresh H1; clear H1))
    go_ret
    exact ⟨rfl, HS.below⟩

set_option maxRecDepth 100000 in
theorem lifted (os : Os) (started : os.Started) (H : Type) (enc : TypeId × Value → H) :
    ReturnsInHanded {} Try.checked os 6 .any (Rows.namesParentSpec.pre6 enc Try.prog Try.f6 Rows.namesParentRow.domain false) (Rows.namesParentSpec.post enc Try.prog Try.f6 false true false false) := by
  refine law_lift (C := Try.checked) own started (by kernel_rfl) Try.func6 laidOut rfl Try.underlying4 rfl ?hs (by kernel_rfl)
    (ChangeSpec.witness6 (enc := enc) (C := Try.checked) false ⟨#[], #[.string ByteArray.empty], []⟩ 8 (by kernel_rfl) (by kernel_rfl) (by kernel_rfl) (by kernel_rfl)) ?hwalk
  case hs =>
    intro ds h
    match ds, h with
    | [d0], _ => rfl
  case hwalk =>
    intro W args hn ha
    obtain ⟨l⟩ := args
    match l, hn with
    | [v0], _ =>
      obtain ⟨s, rfl, hs⟩ := (ha 0 _ _ rfl rfl).string Try.underlying9
      exact walk s hs W

theorem over : Rows.namesParentRow.holds Try.pinned (OpenSpec.ofChange Rows.namesParentSpec) :=
  OpenClaim.holds_of_wide 6 Try.f6 rfl rfl rfl rfl rfl rfl rfl ⟨rfl, rfl, rfl, rfl, rfl⟩ rfl rfl rfl rfl rfl (by kernel_rfl) Try.func6 (by kernel_rfl)
    (of_decide_eq_true (by kernel_rfl)) (by unfold Func.isWrapper; first | (rw [if_pos (by decide +kernel)]; kernel_rfl) | (rw [if_neg (by decide +kernel)]; exact ⟨rfl, rfl⟩))
    (fun os started H enc _ => lifted os started H enc)

theorem proved : Rows.NamesParentSaid := over
#print axioms proved
end Go.Proofs.Ytaponmniedjkiaa.namesParent
