/- The chapter's examples. -/
import Derived.Test.YtaponmniedjkiaaRParent
namespace Go.Proofs.Ytaponmniedjkiaa.aw
open Go Go.RowKit

theorem split_at {S : Nat → Prop} {w0 w : World} {L : List Ass} (HS0 : St S w0 w L) (s : ByteArray) (hs : s.size ≤ 1000000) {q : Int} {l : List (List UInt8)} (h : splitN s.data.toList = (q, l)) :
    Calls Try.prog 14 #[.string s] w fun e w' => ∃ v, e = .returned (.tuple #[v, .int .i64 q]) ∧ St S w0 w' (.own v 9 1 l.length (encS l) :: L) := by
  have := split_any HS0 s hs
  rwa [h] at this
theorem parent_at (w : World) (s : ByteArray) (hs : s.size ≤ 1000000) {g : Int} {d n : List UInt8} (h : parentN s.data.toList = (g, d, n)) :
    Calls Try.prog 15 #[.string s] w fun e w' => e = .returned (.tuple #[.string (mkB d), .string (mkB n), .int .i64 g]) ∧ Mod none' w w' := by
  have := parent_any w s hs
  rwa [h] at this

theorem Txts.blk {S : Nat → Prop} {w0 w : World} {L : List Ass} (HS : St S w0 w L) {rw : Bool} {B : Nat} {t : TypeId} {l : List (List UInt8)} (hm : Ass.blk rw B (encS l).toArray t ∈ L) : Txts w (some ⟨B, 0, none⟩) l :=
  .inr ⟨B, 0, rfl, fun j v hj => by rw [Nat.zero_add, HS.cell hm]; simpa using hj⟩
theorem e1 : splitN (⟨#[47, 97, 47, 98, 46, 99]⟩ : ByteArray).data.toList = (0, [[97], [98, 46, 99]]) := by decide +kernel
theorem e2 : splitN (⟨#[47]⟩ : ByteArray).data.toList = (0, []) := by decide +kernel
theorem e3 : splitN (⟨#[47, 97, 47]⟩ : ByteArray).data.toList = (290, []) := by decide +kernel
theorem e4 : joinN [[97], [98]] = (0, [47, 97, 47, 98]) := by decide +kernel
theorem e5 : parentN (⟨#[47, 97]⟩ : ByteArray).data.toList = (0, [47], [97]) := by decide +kernel
theorem e6 : parentN (⟨#[47]⟩ : ByteArray).data.toList = (290, [], []) := by decide +kernel
set_option maxRecDepth 100000 in
set_option maxHeartbeats 4000000 in
theorem awake_any (w : World) : Calls Try.prog 17 #[] w fun e w' => e = .returned (.bool true) ∧ Mod none' w w' := by
  have HS := St.nil none' w
  have HJ := Lib.hid (fun (W : World) g (h : Txts W (some ⟨g, 0, none⟩) [[97], [98]]) => join_any W (some ⟨g, 0, none⟩) 2 [[97], [98]] (by decide) (by decide) (by decide) h)
  rw [e4] at HJ
  have b1 : ((mkB [98, 46, 99]).toList == ([98, 46, 99] : List UInt8)) = true := by rw [Lib.toList_data]; rfl
  have b2 : ((mkB [47, 97, 47, 98]).toList == ([47, 97, 47, 98] : List UInt8)) = true := by rw [Lib.toList_data]; rfl
  have b3 : ((mkB [47]).toList == ([47] : List UInt8)) = true := by rw [Lib.toList_data]; rfl
  have b4 : ((mkB [97]).toList == ([97] : List UInt8)) = true := by rw [Lib.toList_data]; rfl
  have c1 := beq_iff_eq.1 b1
  have c2 := beq_iff_eq.1 b2
  have c3 := beq_iff_eq.1 b3
  have c4 := beq_iff_eq.1 b4
  go_enter Try.func17, Try.ntmps17
  go_wp2_with (first | (go_at_call 14; (with_reducible refine (split_at HS _ (by decide) e1).mono ?_); rintro e w' ⟨v, rfl, H1⟩; clear HS; have HS := H1; clear H1; obtain ⟨g, cap, rfl, hcap, _⟩ := own_row (HS.own (.head _)) (by decide); replace hcap : 2 ≤ cap := hcap) | (go_at_call 14; (with_reducible refine (split_at HS _ (by decide) e2).mono ?_); rintro e w' ⟨v, rfl, H1⟩; clear HS; have HS := H1; clear H1; obtain ⟨ad, cap, rfl⟩ := own_slice (HS.own (.head _))) | (go_at_call 14; (with_reducible refine (split_at HS _ (by decide) e3).mono ?_); rintro e w' ⟨v, rfl, H1⟩; clear HS; have HS := H1; clear H1; obtain ⟨ad, cap, rfl⟩ := own_slice (HS.own (.head _))) | ((with_reducible apply sMany HS Try.underlying22 (z := .string ByteArray.empty) (sz := 1)); kernel_rfl; decide; decide; rfl; rfl; rfl; intro g w' H1; clear HS; have HS := H1; clear H1) | (go_at_call 10; (have H2 := HS.alloc (encS [[97], [98]]).toArray 9); refine (HJ.out _ _ (Txts.blk H2 (.head _))).mono ?_; rintro e w' ⟨rfl, H1⟩; clear HS; have HS := H2.fresh H1; clear H1 H2) | ((with_reducible apply sLoadO1 HS); infer_instance; rfl; rfl; (repeat (first | exact List.Mem.head _ | apply List.Mem.tail)); exact (show (encS [[97], [98, 46, 99]])[1]? = some (.string (mkB [98, 46, 99])) from rfl)) | (go_at_call 15; (with_reducible refine (parent_at _ _ (by decide) e5).mono ?_); rintro e w' ⟨rfl, H1⟩; replace HS := HS.fresh H1; clear H1) | (go_at_call 15; (with_reducible refine (parent_at _ _ (by decide) e6).mono ?_); rintro e w' ⟨rfl, H1⟩; replace HS := HS.fresh H1; clear H1))
  go_ret
  exact ⟨rfl, HS.mod⟩
end Go.Proofs.Ytaponmniedjkiaa.aw
