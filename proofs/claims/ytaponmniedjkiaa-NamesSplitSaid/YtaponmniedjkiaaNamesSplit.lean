/- Any path is split, and its parent told, as the chapter says, or refused; what is told is the caller's own. -/
import Derived.Test.YtaponmniedjkiaaNaw
import Derived.Test.YtaponmniedjkiaaSt1
import Derived.Test.YtaponmniedjkiaaArg
namespace Go.Proofs.Ytaponmniedjkiaa.namesSplit
open Go Go.RowKit Go.ChangeShapes Go.WideShapes Go.ChangeAt
theorem own : ownKnob Try.prog.godebug = none := by kernel_rfl
theorem laidOut : laidOutB Try.prog = true := by kernel_rfl

theorem own_len {S : Nat → Prop} {w0 w : World} {L : List Ass} (HS : St S w0 w L) {v : Value} {e : TypeId} {n : Nat} {xs : List Value} (hm : Ass.own v e 1 n xs ∈ L) : xs.length = n := by
  have := (HS.own hm).1
  omega

set_option maxRecDepth 100000 in
set_option maxHeartbeats 4000000 in
theorem walk (s : ByteArray) (hs : s.size ≤ maxLen) (w : World) :
    Calls Try.prog 4 #[.string s] w fun e w' => e = .returned (.bool true) ∧ Below w.heap.size w w' := by
  have HS := St.nil none' w
  unfold maxLen at hs
  by_cases hlong : 20000 < s.size
  · have hI : (20000 : Int) < (s.size : Int) := by omega
    go_enter Try.func4, Try.ntmps4
    go_wp2
    go_ret
    exact ⟨rfl, HS.below⟩
  have hI : ¬ (20000 : Int) < (s.size : Int) := by omega
  have HSP := Lib.hid (fun (S : Nat → Prop) (w0 W : World) (L : List Ass) (HS : St S w0 W L) => split_any HS s (by omega))
  have HRS := Lib.hid (fun (S : Nat → Prop) (w0 W : World) (L : List Ass) (HS : St S w0 W L) => rsplit_any HS s (by omega))
  have HPA := Lib.hid (fun (W : World) => parent_any W s (by omega))
  have HRP := Lib.hid (fun (W : World) => rparent_any W s (by omega))
  have hln : (splitN s.data.toList).2.length ≤ 20000 := by
    by_cases h0 : (splitN s.data.toList).1 = 0
    · have := (splitN_ok h0).2.2.2.1
      rw [(splitN_ok h0).2.2.2.2]
      show (rowP s.data.toList).length ≤ 20000
      omega
    · rw [splitN_bad h0]; simp
  obtain ⟨q, l, hq⟩ : ∃ q l, splitN s.data.toList = (q, l) := ⟨_, _, rfl⟩
  obtain ⟨g, d, n, hp⟩ : ∃ g d n, parentN s.data.toList = (g, d, n) := ⟨_, _, _, rfl⟩
  rw [hq] at HSP HRS hln
  rw [hp] at HPA HRP
  simp only at HSP HRS hln HPA HRP
  have hll : (l == l) = true := by simp
  clear hq hp
  go_enter Try.func4, Try.ntmps4
  go_wp2_with (go_at_call 13; refine (HRS.out _ _ _ _ HS).mono ?_; rintro e w' ⟨v, rfl, H1⟩; clear HS; have HS := H1; clear H1; obtain ⟨ad, cap, rfl⟩ := own_slice (HS.own (.head _)))
  go_loopw [5] (fun iv wr => ∃ i : Nat, i ≤ 2 ∧ iv = .int .i64 i ∧ St none' w wr [.own (.slice ad l.length cap) 9 1 l.length (encS l)]) (fun iv _ => 2 - (intOf iv).toNat)
  case atStart => exact ⟨0, by omega, rfl, HS⟩
  case round =>
    obtain ⟨i, hi, rfl, HS⟩ := hrel
    have HT := Txts.own HS (.head _) rfl
    by_cases hi2 : i < 2
    · go_wp2_with (first | (go_at_call 14; refine (HSP.out _ _ _ _ HS).mono ?_; rintro e w' ⟨v, rfl, H1⟩; clear HS; have HS := H1; clear H1; obtain ⟨ad2, cap2, rfl⟩ := own_slice (HS.own (.head _))) | (go_at_call 12; refine (rsame_any _ _ _ _ _ l l (by omega) (by omega) (Txts.own HS (.head _) rfl).1 (Txts.own HS (.tail _ (.head _)) rfl).1).mono ?_; rintro e w' ⟨rfl, H1⟩; rw [hll]; replace HS := HS.fresh H1; clear H1))
      go_loopw [8] (fun jv wr => ∃ (j : Nat) (xs : List Value), j ≤ l.length ∧ jv = .int .i64 j ∧ St none' w wr [.own (.slice ad2 l.length cap2) 9 1 l.length xs, .own (.slice ad l.length cap) 9 1 l.length (encS l)]) (fun jv _ => l.length - (intOf jv).toNat)
      case atStart => exact ⟨0, _, Nat.zero_le _, rfl, HS⟩
      case round =>
        obtain ⟨j, xs, hj, rfl, HS⟩ := hrel
        by_cases hjl : j < l.length
        · have hxs := own_len HS (.head _)
          obtain ⟨g, cap3, e3, hcc, _⟩ := own_row (HS.own (.head _)) (by omega : 0 < l.length)
          obtain ⟨rfl, rfl⟩ : ad2 = some ⟨g, 0, none⟩ ∧ cap2 = cap3 := by simpa using e3
          clear e3
          go_wp2_with ((with_reducible apply sStoreO1 HS); infer_instance; rfl; rfl; (conv => (lhs; whnf)); (repeat (first | exact Rep.here | apply Rep.there)); omega; rfl; intro w' H1; clear HS; have HS := H1; clear H1)
          go_roundw
          case rel => exact ⟨j + 1, _, by omega, by go_num, HS⟩
          case measure => simp [intOf]; omega
        · obtain rfl : j = l.length := by omega
          go_wp2
          go_roundw
          case rel => exact ⟨i + 1, by omega, by go_num, HS.tail⟩
          case measure => simp [intOf]; omega
    · obtain rfl : i = 2 := by omega
      go_wp2_with (first | (go_at_call 15; refine (HPA.out _).mono ?_; rintro e w' ⟨rfl, H1⟩; replace HS := HS.fresh H1; clear H1) | (go_at_call 16; refine (HRP.out _).mono ?_; rintro e w' ⟨rfl, H1⟩; replace HS := HS.fresh H1; clear H1))
      go_ret
      exact ⟨by simp, HS.below⟩

set_option maxRecDepth 100000 in
theorem lifted (os : Os) (started : os.Started) (H : Type) (enc : TypeId × Value → H) :
    ReturnsInHanded {} Try.checked os 4 .any (Rows.namesSplitSpec.pre6 enc Try.prog Try.f4 Rows.namesSplitRow.domain false) (Rows.namesSplitSpec.post enc Try.prog Try.f4 false true false false) := by
  refine law_lift (C := Try.checked) own started (by kernel_rfl) Try.func4 laidOut rfl Try.underlying4 rfl ?hs (by kernel_rfl)
    (ChangeSpec.witness6 (enc := enc) (C := Try.checked) false ⟨#[], #[.string ByteArray.empty], []⟩ 8 (by kernel_rfl) (by kernel_rfl) (by kernel_rfl) (by kernel_rfl)) ?hwalk
  case hs =>
    intro ds h
    match ds, h with
    | [d0], _ => rfl
  case hwalk =>
    intro W args hn ha
    obtain ⟨l⟩ := args
    match l, hn with
    | [v0], _ =>
      obtain ⟨s, rfl, hs⟩ := (ha 0 _ _ rfl rfl).string Try.underlying9
      exact walk s hs W

theorem over : Rows.namesSplitRow.holds Try.pinned (OpenSpec.ofChange Rows.namesSplitSpec) :=
  OpenClaim.holds_of_wide 4 Try.f4 rfl rfl rfl rfl rfl rfl rfl ⟨rfl, rfl, rfl, rfl, rfl⟩ rfl rfl rfl rfl rfl (by kernel_rfl) Try.func4 (by kernel_rfl)
    (of_decide_eq_true (by kernel_rfl)) (by unfold Func.isWrapper; first | (rw [if_pos (by decide +kernel)]; kernel_rfl) | (rw [if_neg (by decide +kernel)]; exact ⟨rfl, rfl⟩))
    (fun os started H enc _ => lifted os started H enc)

theorem proved : Rows.NamesSplitSaid := over
#print axioms proved
end Go.Proofs.Ytaponmniedjkiaa.namesSplit
