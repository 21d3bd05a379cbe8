/- Names are joined: the program's way. -/
import Derived.Test.YtaponmniedjkiaaSplit
namespace Go.Proofs.Ytaponmniedjkiaa
open Go Go.RowKit

/-- A slice of texts, wherever it lies. -/
def Txts (w : World) (ad : Option Addr) (l : List (List UInt8)) : Prop := l = [] ∨ ∃ A o, ad = some ⟨A, o, none⟩ ∧ w.rangeAt A o (encS l)
theorem Txts.fresh {w w' : World} {ad : Option Addr} {l : List (List UInt8)} (h : Txts w ad l) (hm : Mod none' w w') : Txts w' ad l := by
  rcases h with h | ⟨A, o, h1, h2⟩
  · exact .inl h
  · exact .inr ⟨A, o, h1, range_fresh h2 hm⟩
theorem Txts.cell {w : World} {ad : Option Addr} {l : List (List UInt8)} (h : Txts w ad l) {i : Nat} {x : List UInt8} (hx : l[i]? = some x) : ∃ A o, ad = some ⟨A, o, none⟩ ∧ w.cell? ⟨A, o + i, none⟩ = some (.string (mkB x)) := by
  rcases h with rfl | ⟨A, o, h1, h2⟩
  · simp at hx
  · exact ⟨A, o, h1, h2 i _ (encS_get hx)⟩
theorem lib_all {l : List (List UInt8)} {x : List UInt8} {i : Nat} (hx : l[i]? = some x) (h : okN x = false) : l.all okN = false := by
  rw [← Bool.not_eq_true]
  intro e
  have := List.all_eq_true.1 e x (List.mem_of_getElem? hx)
  rw [h] at this; cases this

theorem sjoin_any (w : World) (ad : Option Addr) (cap : Nat) (l : List (List UInt8)) (hn : l.length ≤ 1000000) (hcap : l.length ≤ cap) (ht : (pathOf l).length ≤ 100000000) (hr : Txts w ad l) :
    Calls Try.prog 18 #[.slice ad l.length cap, .string ⟨#[47]⟩] w fun e w' => e = .returned (.string (mkB (Lib.join l [47]))) ∧ Mod none' w w' := by
  have hp : (pathOf l).length = (Lib.join l [47]).length + 1 := rfl
  rcases hr with rfl | ⟨A, o, rfl, h2⟩
  · exact (Try.strings_Join_none ad cap ⟨#[47]⟩ w).mono fun e w' ⟨h1, h2⟩ => ⟨h1, by rw [h2]; exact Mod.refl _ _⟩
  · by_cases hl : l = []
    · subst hl
      exact (Try.strings_Join_none _ cap ⟨#[47]⟩ w).mono fun e w' ⟨h1, h2⟩ => ⟨h1, by rw [h2]; exact Mod.refl _ _⟩
    have hm : (l.map mkB).map (·.data.toList) = l := by rw [List.map_map]; exact List.map_id _
    have hc : ∀ (j : Nat) x, (l.map mkB)[j]? = some x → w.cell? ⟨A, o + j, none⟩ = some (.string x) := fun j x hx => by
      rw [List.getElem?_map, Option.map_eq_some_iff] at hx
      obtain ⟨y, hy, rfl⟩ := hx
      exact h2 j _ (encS_get hy)
    have hbk : A < w.heap.size := by
      obtain ⟨x, r, rfl⟩ := List.exists_cons_of_ne_nil hl
      exact block_lt_of_cell (hc 0 (mkB x) rfl)
    have := Try.strings_Join A o cap (l.map mkB) ⟨#[47]⟩ w hc hbk (by rw [List.length_map]; omega) (by rw [List.length_map]; exact hcap) (by
      rw [hm]; show (Lib.join l [47]).length ≤ _; omega)
    rw [List.length_map, hm] at this
    exact this.mono fun e w' ⟨h1, h2⟩ => ⟨h1, Mod.of_new h2⟩

set_option maxRecDepth 100000 in
set_option maxHeartbeats 2000000 in
theorem join_any (w : World) (ad : Option Addr) (cap : Nat) (l : List (List UInt8)) (hn : l.length ≤ 1000000) (hcap : l.length ≤ cap) (ht : (pathOf l).length ≤ 100000000) (hr : Txts w ad l) :
    Calls Try.prog 10 #[.slice ad l.length cap] w fun e w' => e = .returned (.tuple #[.string (mkB (joinN l).2), .int .i64 (joinN l).1]) ∧ Mod none' w w' := by
  have HJ := Lib.hid (fun W (hm : Mod none' w W) => sjoin_any W ad cap l hn hcap ht (hr.fresh hm))
  have hel : ∀ x ∈ l, x.length ≤ 100000000 := fun x hx => by
    have h1 : ∀ (l : List (List UInt8)) (x : List UInt8), x ∈ l → x.length ≤ (Lib.joinTail [47] l).length := by
      intro l
      induction l with
      | nil => intro x hx; cases hx
      | cons y r ih =>
        intro x hx
        rw [show Lib.joinTail [47] (y :: r) = ([47] ++ y) ++ Lib.joinTail [47] r from rfl, List.length_append, List.length_append]
        rcases List.mem_cons.1 hx with rfl | hx
        · omega
        · have := ih x hx; omega
    have h2 := h1 l x hx
    cases l with
    | nil => cases hx
    | cons y r =>
      rw [show Lib.joinTail [47] (y :: r) = ([47] ++ y) ++ Lib.joinTail [47] r from rfl, List.length_append, List.length_append] at h2
      have h3 : (pathOf (y :: r)).length = (Lib.join (y :: r) [47]).length + 1 := rfl
      rw [Lib.join_cons, List.length_append] at h3
      simp at h2
      omega
  have HEL := Lib.hid hel
  have hp : (pathOf l).length = (Lib.join l [47]).length + 1 := rfl
  have hadd : (⟨#[47]⟩ : ByteArray) ++ mkB (Lib.join l [47]) = mkB (pathOf l) := ba_list (by simp [mkB, pathOf])
  obtain ⟨q, hq⟩ : ∃ q, joinN l = q := ⟨_, rfl⟩
  rw [hq]
  have HQ : Hid (q = if 512 < (pathOf l).length then (3, []) else if l.all okN = false then (290, []) else if 16 < l.length then (4, []) else (0, pathOf l)) := hq.symm
  have hjs : (mkB (Lib.join l [47])).size ≤ 100000000 := by rw [mkB_size]; omega
  have HPS : Hid ((mkB (pathOf l)).size = (pathOf l).length) := mkB_size _
  have HADD := Lib.hid hadd
  clear hq hel hadd
  by_cases hlong : 512 < (pathOf l).length
  · have hq : q = (3, []) := by rw [HQ.out, if_pos hlong]
    subst hq
    have hb : decide ((512 : Int) < 1 + ((mkB (Lib.join l [47])).size : Int)) = true := decide_eq_true (by rw [mkB_size]; omega)
    have hb1 : (512 : Int) < 1 + ((mkB (Lib.join l [47])).size : Int) := of_decide_eq_true hb
    go_enter Try.func10, Try.ntmps10
    go_wp2_with (go_at_call 18; refine (HJ.out _ (Mod.refl _ _)).mono ?_; rintro e w' ⟨rfl, H1⟩)
    refine bodyPost_ret (res2 rfl (resTmp _ _ _) (resTmp _ _ _)) rfl ⟨rfl, H1⟩
  · have hb : decide ((512 : Int) < 1 + ((mkB (Lib.join l [47])).size : Int)) = false := decide_eq_false (by rw [mkB_size]; omega)
    have hb1 : ¬ (512 : Int) < 1 + ((mkB (Lib.join l [47])).size : Int) := of_decide_eq_false hb
    have HQ2 : Hid (q = if l.all okN = false then (290, []) else if 16 < l.length then (4, []) else (0, pathOf l)) := by show _ = _; rw [HQ.out, if_neg hlong]
    clear HQ
    go_enter Try.func10, Try.ntmps10
    go_wp2_with (go_at_call 18; refine (HJ.out _ (Mod.refl _ _)).mono ?_; rintro e w' ⟨rfl, H1⟩)
    rw [HADD.out]
    go_loopw [15] (fun iv wr => ∃ i : Nat, i ≤ l.length ∧ iv = .int .i64 i ∧ Mod none' w wr ∧ Hid ((l.take i).all okN = true)) (fun iv _ => l.length - (intOf iv).toNat)
    case atStart => exact ⟨0, Nat.zero_le _, rfl, H1, rfl⟩
    case round =>
      obtain ⟨i, hi, rfl, H2, HA⟩ := hrel
      by_cases hil : i < l.length
      · obtain ⟨x, hx⟩ : ∃ x, l[i]? = some x := ⟨_, List.getElem?_eq_getElem hil⟩
        obtain ⟨A, o, rfl, hc⟩ := (hr.fresh H2).cell hx
        have hxl := HEL.out x (List.mem_of_getElem? hx)
        have HM := Lib.hid (fun W => pmay_any (mkB x) W (by rw [mkB_size]; unfold maxLen; omega))
        rw [show okName (mkB x) = okN x from rfl] at HM
        have HTK : Hid (l.take (i + 1) = l.take i ++ [x]) := by show _ = _; rw [List.take_add_one, hx]; rfl
        have HX := Lib.hid hx
        clear hx
        cases hok : okN x
        · have hq : q = (290, []) := by rw [HQ2.out, if_pos (lib_all HX.out hok)]
          subst hq
          rw [hok] at HM
          go_wp2_with (go_at_call 19; (with_reducible refine (HM.out _).mono ?_); rintro e w' ⟨rfl, H3⟩)
          refine bodyPost_ret (res2 rfl (resTmp _ _ _) (resTmp _ _ _)) rfl ⟨rfl, H2.trans H3⟩
        · rw [hok] at HM
          go_wp2_with (go_at_call 19; (with_reducible refine (HM.out _).mono ?_); rintro e w' ⟨rfl, H3⟩)
          go_roundw
          case rel => exact ⟨i + 1, by omega, by go_num, H2.trans H3, by show _ = _; rw [HTK.out, List.all_append, HA.out]; simp [hok]⟩
          case measure => simp [intOf]; omega
      · obtain rfl : i = l.length := by omega
        have hall : l.all okN = true := by have := HA.out; rwa [List.take_length] at this
        have HQ3 : Hid (q = if 16 < l.length then (4, []) else (0, pathOf l)) := by show _ = _; rw [HQ2.out, if_neg (by rw [hall]; simp)]
        clear hall HQ2 HA
        by_cases h16 : 16 < l.length
        · have hq : q = (4, []) := by rw [HQ3.out, if_pos h16]
          subst hq
          have e16 : decide ((16 : Int) < (l.length : Int)) = true := decide_eq_true (by omega)
          go_wp2
          refine bodyPost_ret (res2 rfl (resTmp _ _ _) (resTmp _ _ _)) rfl ⟨rfl, H2⟩
        · have hq : q = (0, pathOf l) := by rw [HQ3.out, if_neg h16]
          subst hq
          have e16 : decide ((16 : Int) < (l.length : Int)) = false := decide_eq_false (by omega)
          go_wp2
          refine bodyPost_ret (res2 rfl (resTmp _ _ _) (resTmp _ _ _)) rfl ⟨rfl, H2⟩
end Go.Proofs.Ytaponmniedjkiaa
