/- The chapter's examples. -/
import Derived.Test.YtdpbdmbgdcdmaaaBlkT
namespace Go.Proofs.Ytdpbdmbgdcdmaaa.aw
open Go Go.RowKit

theorem add_len {bs : List UInt8} (hl : bs.length = 256) (name : ByteArray) (ino : Int) (i0 : 0 ≤ ino) (i1 : ino < 4294967296) : (addOf bs name ino).1.length = 256 := by
  unfold addOf
  split
  · exact hl
  · rename_i l hs
    split
    · exact hl
    · rename_i hc
      split
      · exact hl
      · rename_i i hi
        obtain ⟨h8, _, hr⟩ := idxS_void hs hi
        have hok : okName name = true := by
          cases h : okName name
          · exact absurd (.inl h) hc
          · rfl
        have h0 : ino ≠ 0 := fun h => hc (.inr (.inl h))
        show (putName bs i ino name).length = 256
        rw [putName_eq hl h8 hr h0 (okName_size hok).2]
        exact setSlot_len hl h8 (.inr ⟨by simp only; omega, i1, hok⟩)
theorem rem_len {bs : List UInt8} (hl : bs.length = 256) (name : ByteArray) : (remOf bs name).1.length = 256 := by
  rw [remOf_set]
  cases h : findOf bs name with
  | none => exact hl
  | some p => exact setSlot_len hl (find_lt h) (.inl ⟨rfl, rfl⟩)

def ab : ByteArray := ⟨#[97, 98]⟩
def b1 : List UInt8 := (addOf Z256 ⟨#[97, 98]⟩ 7).1
def b2 : List UInt8 := (addOf b1 ⟨#[99]⟩ 8).1
def b3 : List UInt8 := (remOf b2 ⟨#[97, 98]⟩).1
def b4 : List UInt8 := (addOf b3 ⟨#[100]⟩ 9).1
theorem l1 : b1.length = 256 := add_len Z256_len _ _ (by decide) (by decide)
theorem l2 : b2.length = 256 := add_len l1 _ _ (by decide) (by decide)
theorem l3 : b3.length = 256 := rem_len l2 _
theorem l4 : b4.length = 256 := add_len l3 _ _ (by decide) (by decide)
set_option maxRecDepth 1000000 in
theorem e1 : addOf Z256 ⟨#[97, 98]⟩ 7 = (b1, 0) := Prod.ext rfl (by decide +kernel)
set_option maxRecDepth 1000000 in
theorem e2 : addOf b1 ⟨#[99]⟩ 8 = (b2, 0) := Prod.ext rfl (by decide +kernel)
set_option maxRecDepth 1000000 in
theorem e3 : addOf b2 ⟨#[99]⟩ 1 = (b2, 2) := by decide +kernel
set_option maxRecDepth 1000000 in
theorem e4 : addOf b2 ⟨#[46]⟩ 1 = (b2, 2) := by decide +kernel
set_option maxRecDepth 1000000 in
theorem e5 : remOf b2 ⟨#[97, 98]⟩ = (b3, true) := Prod.ext rfl (by decide +kernel)
set_option maxRecDepth 1000000 in
theorem e6 : addOf b3 ⟨#[100]⟩ 9 = (b4, 0) := Prod.ext rfl (by decide +kernel)
set_option maxRecDepth 1000000 in
theorem f1 : findOf b2 ⟨#[99]⟩ = some (1, 8) := by decide +kernel
set_option maxRecDepth 1000000 in
theorem f2 : findOf b4 ⟨#[100]⟩ = some (0, 9) := by decide +kernel
set_option maxRecDepth 1000000 in
theorem f3 : findOf b4 ⟨#[97, 98]⟩ = none := by decide +kernel
set_option maxRecDepth 1000000 in
theorem g0 : (encB b4)[0]? = some (.int .u8 9) := (encB_gB b4 0 (by rw [l4]; omega)).trans (congrArg (fun n => some (Value.int .u8 n)) (show gB b4 0 = 9 by decide +kernel))
set_option maxRecDepth 1000000 in
theorem g4 : (encB b4)[4]? = some (.int .u8 1) := (encB_gB b4 4 (by rw [l4]; omega)).trans (congrArg (fun n => some (Value.int .u8 n)) (show gB b4 4 = 1 by decide +kernel))
set_option maxRecDepth 1000000 in
theorem g5 : (encB b4)[5]? = some (.int .u8 100) := (encB_gB b4 5 (by rw [l4]; omega)).trans (congrArg (fun n => some (Value.int .u8 n)) (show gB b4 5 = 100 by decide +kernel))
set_option maxRecDepth 1000000 in
theorem g6 : (encB b4)[6]? = some (.int .u8 0) := (encB_gB b4 6 (by rw [l4]; omega)).trans (congrArg (fun n => some (Value.int .u8 n)) (show gB b4 6 = 0 by decide +kernel))
set_option maxRecDepth 1000000 in
theorem o1 : okName ⟨#[46, 46, 46]⟩ = true := by decide
set_option maxRecDepth 1000000 in
theorem o2 : okName ⟨#[97, 47, 98]⟩ = false := by decide
set_option maxRecDepth 100000 in
set_option maxHeartbeats 20000000 in
theorem awake_any (w : World) : Calls Try.prog 21 #[] w fun e w' => e = .returned (.bool true) ∧ Mod none' w w' := by
  have HS := St.nil none' w
  have z256 : (encB Z256).size = 256 := (encB_size _).trans Z256_len
  have q1 : (encB b1).size = 256 := (encB_size _).trans l1
  have q2 : (encB b2).size = 256 := (encB_size _).trans l2
  have q3 : (encB b3).size = 256 := (encB_size _).trans l3
  have q4 : (encB b4).size = 256 := (encB_size _).trans l4
  have Z0 := Lib.hid z256
  have Q1 := Lib.hid q1
  have Q2 := Lib.hid q2
  have Q3 := Lib.hid q3
  have Q4 := Lib.hid q4
  clear z256 q1 q2 q3 q4
  go_enter Try.func21, Try.ntmps21
  go_wp2_with (first | ((with_reducible apply sAlloc HS); infer_instance; (first | exact cells_agg _ | exact cells_one rfl); rfl; intro B w' H1; clear HS; have HS := H1; clear H1) | (go_at_call 17; refine (add_any _ HS (by first | exact Z256_len | exact l1 | exact l2 | exact l3 | exact l4) _ (by decide) _ (by decide) (by decide)).mono ?_; rintro e w' ⟨rfl, H2⟩; clear HS; have HS := H2; clear H2; (first | rw [e1] at HS ⊢ | rw [e2] at HS ⊢ | rw [e3] at HS ⊢ | rw [e4] at HS ⊢ | rw [e6] at HS ⊢)) | (go_at_call 19; refine (rem_any _ HS (by first | exact Z256_len | exact l1 | exact l2 | exact l3 | exact l4) _).mono ?_; rintro e w' ⟨rfl, H2⟩; clear HS; have HS := H2; clear H2; rw [e5] at HS ⊢) | (go_at_call 13; refine (pfind_any HS _ (by first | exact Z256_len | exact l1 | exact l2 | exact l3 | exact l4) _).mono ?_; rintro e w' ⟨rfl, H2⟩; clear HS; have HS := H2; clear H2; (first | rw [f1] | rw [f2] | rw [f3]); simp only [findV]) | (go_at_call 15; refine (pmay_any _ _ (by decide)).mono ?_; rintro e w' ⟨rfl, H1⟩; replace HS := HS.fresh H1; clear H1; (first | rw [o1] | rw [o2])) | ((with_reducible apply sLoadB HS); infer_instance; rfl; rfl; (repeat (first | exact List.Mem.head _ | apply List.Mem.tail)); (first | exact Z0.out | exact Q1.out | exact Q2.out | exact Q3.out | exact Q4.out)) | ((with_reducible apply sLoad1 HS); infer_instance; rfl; rfl; (repeat (first | exact List.Mem.head _ | apply List.Mem.tail)); (first | exact g0 | exact g4 | exact g5 | exact g6)))
  go_outline
  go_ret
  exact ⟨rfl, HS.mod⟩
end Go.Proofs.Ytdpbdmbgdcdmaaa.aw
