/- The reference's journal blocks: a block of numbers. -/
import Derived.Test.YtckadanghhibhaaJw
namespace Go.Proofs.Ytckadanghhibhaa
open Go.RowKit

theorem putL_take (l : List Int) (k : Nat) (h : k < l.length) : putL Z256 0 (l.take (k + 1)) = put32 (putL Z256 0 (l.take k)) (4 * k) (l.getD k 0) := by
  rw [List.take_succ_eq_append_getElem h, putL_app, putL, putL, List.length_take, Nat.min_eq_left (by omega), Nat.zero_add]
  simp [h]

theorem Mod.drew0 {S : Nat → Prop} {w w' : World} (h : Mod S w.drew w') : Mod S w w' := ⟨h.os, h.tape, h.output, h.size, h.same⟩

theorem rput_at (B o len cap p : Nat) (at_ v : Int) (bs : List UInt8) (E : TypeId) (w : World) (hB : w.heap[B]? = some (.cells (encB bs) E (0, 0))) (he : at_ = (p : Int)) (ho : o + len ≤ bs.length) (h1 : p + 4 ≤ len) (hl : len ≤ 9223372036854775807)
    (v0 : 0 ≤ v) (v1 : v < 4294967296) :
    Calls Try.prog 52 #[.slice (some ⟨B, o, none⟩) len cap, .int .i64 at_, .int .u32 v] w fun e w' => e = .returned (.bool true) ∧ Mod (one' B) w w' ∧ w'.heap[B]? = some (.cells (encB (put32 bs (o + p) v)) E (0, 0)) := by
  subst he
  exact rput_yes B o len cap p v bs E w hB ho h1 hl v0 v1

set_option maxHeartbeats 800000 in
theorem rblock (L n cap : Nat) (l : List Int) (w : World) (hn : n = l.length) (hn64 : l.length ≤ 64) (hL : ∀ k, k < l.length → w.cell? ⟨L, k, none⟩ = some (.int .u32 (l.getD k 0))) (hb : ∀ k, 0 ≤ l.getD k 0 ∧ l.getD k 0 < 4294967296) (hLs : L < w.heap.size) :
    Calls Try.prog 40 #[.slice (some ⟨L, 0, none⟩) n cap] w fun e w' => e = .returned (.agg (encB (blockOf l))) ∧ Mod none' w w' := by
  obtain ⟨R0, H0, M0⟩ := two_new w (.cells (encB Z256) 28) (.cells (encB Z256) 28)
  have HR0 := Lib.hid R0
  have HH0 := Lib.hid H0
  have HLL := Lib.hid hL
  have HBD := Lib.hid hb
  have hl4 : (blockOf l).length = 256 := blockOf_len l
  have HN := Lib.hid hn
  clear R0 H0 hL hb hn
  go_enter Try.func40, Try.ntmps40
  go_wp2_with (with_reducible refine wpList_allocB' blkT ?_)
  go_loopw [4] (fun i wr => ∃ k : Nat, k ≤ n ∧ i = .int .i64 k ∧ Mod none' w wr ∧ wr.heap[w.heap.size]? = some (.cells (encB Z256) 28 (0, 0)) ∧ wr.heap[w.heap.size + 1]? = some (.cells (encB (putL Z256 0 (l.take k))) 28 (0, 0))) (fun i _ => n - (intOf i).toNat)
  case atStart => exact ⟨0, by omega, rfl, M0, HR0.out, by simpa [putL] using HH0.out⟩
  case round =>
    obtain ⟨k, hk, rfl, hm, hr, hh⟩ := hrel
    have HR := Lib.hid hr
    have HH := Lib.hid hh
    clear hr hh
    by_cases hlt : k < n
    · have ck : wr.cell? ⟨L, k, none⟩ = some (.int .u32 (l.getD k 0)) := by
        rw [World.cell?_of_block (w := w) (hm.same L hLs (fun e => e))]; exact HLL.out k (by rw [← HN.out]; exact hlt)
      obtain ⟨v0, v1⟩ := HBD.out k
      have hpk : Hid (putL Z256 0 (l.take (k + 1)) = put32 (putL Z256 0 (l.take k)) (4 * k) (l.getD k 0)) := putL_take l k (by rw [← HN.out]; exact hlt)
      have hlen : (putL Z256 0 (l.take k)).length = 256 := by rw [putL_len, Z256_len]
      have hn' : n ≤ 64 := by rw [HN.out]; exact hn64
      generalize l.getD k 0 = v at *
      obtain ⟨bs2, hbs2⟩ : ∃ b, putL Z256 0 (l.take (k + 1)) = b := ⟨_, rfl⟩
      rw [hbs2] at hpk
      have HP2 := Lib.hid hbs2
      clear hbs2
      generalize putL Z256 0 (l.take k) = bs at *
      have hmul : IntKind.i64.wrap (4 * (k : Int)) = ((4 * k : Nat) : Int) := by rw [IntWalk.i64_in _ (by omega)]; simp
      have z0 : (0 : Int) ≤ (k : Int) := by omega
      have z1 : (k : Int) < (n : Int) := by omega
      have hL3 := hLs
      have hLs2 : L < wr.heap.size := by have := hm.size; omega
      obtain ⟨wq, rfl⟩ : ∃ wo : World, wo = wr := ⟨_, rfl⟩
      go_wp2
      go_region_held3 (fun w' => w'.cell? ⟨L, k, none⟩ = some (.int .u32 v)) (first | go_keep | (go_split_ands; exact (World.cell?_of_block (hm2.same L hLs2 (by simp only [one']; omega))).trans ck)) (first | (go_at_call 52; refine (rput_at _ _ _ _ (4 * k) _ _ bs _ wq.drew HH.out (by omega) (by omega) (by omega) (by omega) v0 v1).mono ?_; rintro e w2 ⟨rfl, hm2, hB2⟩))
      have hm3 : Mod none' w w2 := hm.after hm2.drew0 (fun i hi e => by simp only [one'] at e; omega)
      have hr3 : w2.heap[w.heap.size]? = some (.cells (encB Z256) 28 (0, 0)) := hm2.row (k := w.heap.size) (o := .cells (encB Z256) 28 (0, 0)) HR.out (by simp only [one']; omega)
      rw [Nat.zero_add, ← hpk.out] at hB2
      have HB2 := Lib.hid hB2
      have HR3 := Lib.hid hr3
      clear hB2 hr3 hm2 hm ck hL3
      go_wp2
      go_roundw
      case rel => exact ⟨k + 1, by omega, by go_num, hm3, HR3.out, by rw [HP2.out]; exact HB2.out⟩
      case measure => simp [intOf]; omega
    · have hkn : Hid (putL Z256 0 (l.take k) = blockOf l) := by
        show _ = _
        have e : k = l.length := by have := HN.out; omega
        rw [e, List.take_length]; rfl
      rw [hkn.out] at HH
      go_wp2_with (first | ((with_reducible refine wpList_loadB' blkT ?_ hl4 HH.out ?_); rfl) | ((with_reducible refine wpList_storeB' blkT ?_ ?_ hl4 Z256_len HR.out ?_); rfl; rfl))
      refine bodyPost_ret (results_blk blkT rfl _ _ _ _ _ hl4 rfl (setRow_heap _ _ _ _ _ _ HR.out)) rfl ⟨rfl, hm.setRow (.inr (by omega)) _⟩
end Go.Proofs.Ytckadanghhibhaa
