/- Kinds and escapes of journal blocks; lists written. -/
import Derived.Test.YtckadanghhibhaaJwt
namespace Go.Proofs.Ytckadanghhibhaa
open Go.RowKit

def blkOf (r : Option (List UInt8)) : List UInt8 := r.getD Z256
def errOf (r : Option (List UInt8)) : Int := if r.isSome then 0 else 2
theorem resB_eq (r : Option (List UInt8)) : resB r = .tuple #[.agg (encB (blkOf r)), .int .i64 (errOf r)] := by cases r <;> rfl
theorem wHead_len (s st : Int) : (blkOf (wHead s st)).length = 256 := by unfold wHead; split; exact blockOf_len _; exact Z256_len
theorem wCommit_len (s c m : Int) : (blkOf (wCommit s c m)).length = 256 := by unfold wCommit; split; exact blockOf_len _; exact Z256_len
theorem wDesc_len (s : Int) (l : List (Int × Bool)) : (blkOf (wDesc s l)).length = 256 := by unfold wDesc; split; exact blockOf_len _; exact Z256_len
theorem wRevoke_len (s : Int) (l : List Int) : (blkOf (wRevoke s l)).length = 256 := by unfold wRevoke; split; exact blockOf_len _; exact Z256_len

/-- A slice of tags, of numbers, as it lies. -/
def TagsAt (w : World) (a : Option Addr) (n : Nat) (l : List (Int × Bool)) : Prop :=
  n = l.length ∧ (∀ k, 0 ≤ (l.getD k (0, false)).1 ∧ (l.getD k (0, false)).1 < 4294967296) ∧ ∃ L o, (n = 0 ∨ (a = some ⟨L, o, none⟩ ∧ L < w.heap.size)) ∧ ∀ k, k < l.length → w.cell? ⟨L, o + k * 2, none⟩ = some (.int .u32 (l.getD k (0, false)).1) ∧ w.cell? ⟨L, o + k * 2 + 1, none⟩ = some (.bool (l.getD k (0, false)).2)
def NumsAt (w : World) (a : Option Addr) (n : Nat) (l : List Int) : Prop :=
  n = l.length ∧ (∀ k, 0 ≤ l.getD k 0 ∧ l.getD k 0 < 4294967296) ∧ ∃ L o, (n = 0 ∨ (a = some ⟨L, o, none⟩ ∧ L < w.heap.size)) ∧ ∀ k, k < l.length → w.cell? ⟨L, o + k, none⟩ = some (.int .u32 (l.getD k 0))
theorem TagsAt.mod {w w' : World} {a : Option Addr} {n : Nat} {l : List (Int × Bool)} (h : TagsAt w a n l) (m : Mod none' w w') : TagsAt w' a n l := by
  obtain ⟨h1, h2, L, o, h3, h4⟩ := h
  refine ⟨h1, h2, L, o, h3.imp id (fun ⟨x, y⟩ => ⟨x, by have := m.size; omega⟩), fun k hk => ?_⟩
  have hL : L < w.heap.size := by rcases h3 with e | ⟨_, e⟩ <;> omega
  exact ⟨(World.cell?_of_block (m.same L hL (fun e => e))).trans (h4 k hk).1, (World.cell?_of_block (m.same L hL (fun e => e))).trans (h4 k hk).2⟩
theorem NumsAt.mod {w w' : World} {a : Option Addr} {n : Nat} {l : List Int} (h : NumsAt w a n l) (m : Mod none' w w') : NumsAt w' a n l := by
  obtain ⟨h1, h2, L, o, h3, h4⟩ := h
  refine ⟨h1, h2, L, o, h3.imp id (fun ⟨x, y⟩ => ⟨x, by have := m.size; omega⟩), fun k hk => ?_⟩
  have hL : L < w.heap.size := by rcases h3 with e | ⟨_, e⟩ <;> omega
  exact (World.cell?_of_block (m.same L hL (fun e => e))).trans (h4 k hk)

theorem jwdesc (a : Option Addr) (n cap : Nat) (l : List (Int × Bool)) (s : Int) (w : World) (h : TagsAt w a n l) (hcap : n ≤ 1000000) (s0 : 0 ≤ s) (s1 : s < 4294967296) :
    Calls Try.prog 13 #[.int .u32 s, .slice a n cap] w fun e w' => e = .returned (resB (wDesc s l)) ∧ Mod none' w w' := by
  have HC := Lib.hid (heap_alloc_new w (.cells (encB Z256) 28))
  have M0 : Mod none' w (w.alloc (.cells (encB Z256) 28)) := (Mod.refl _ _).alloc _
  have HT := Lib.hid h
  obtain ⟨bs, hbs⟩ : ∃ b, blkOf (wDesc s l) = b := ⟨_, rfl⟩
  obtain ⟨er, her⟩ : ∃ b, errOf (wDesc s l) = b := ⟨_, rfl⟩
  have hl4 : bs.length = 256 := by rw [← hbs]; exact wDesc_len s l
  have HR : Hid (resB (wDesc s l) = .tuple #[.agg (encB bs), .int .i64 er]) := by show _ = _; rw [resB_eq, hbs, her]
  clear hbs her h
  go_enter Try.func13, Try.ntmps13
  go_wp2_with ((with_reducible refine wpList_allocB' blkT ?_))
  refine (jtags _).mono ?_
  rintro e w1 ⟨rfl, hm⟩
  have HC1 := Lib.hid (hm.row (k := w.heap.size) HC.out (fun e => e))
  have M1 := M0.trans hm
  have HT1 : Hid (TagsAt w1 a n l) := HT.out.mod M1
  clear hm M0
  go_wp2_with fail
  obtain ⟨hn, hb, L, o, ha, hc⟩ := HT1.out
  refine (jwriteT L o _ _ l _ _ hn hcap s0 s1 hc hb _ ha).mono ?_
  rintro e w2 ⟨rfl, hm⟩
  rw [HR.out]
  have HC2 := Lib.hid (hm.row (k := w.heap.size) HC1.out (fun e => e))
  have M2 := M1.trans hm
  clear hm M1 hc hb ha hn
  go_wp2_with (((with_reducible refine wpList_storeB' blkT ?_ ?_ hl4 Z256_len HC2.out ?_); rfl; rfl))
  refine bodyPost_ret (results_blk2 blkT rfl _ _ _ _ _ hl4 rfl (setRow_heap _ _ _ _ _ _ HC2.out)) rfl ⟨?_, M2.setRow (.inr (by simp)) _⟩
  rw [HR.out]; rfl

theorem jwrevoke (a : Option Addr) (n cap : Nat) (l : List Int) (s : Int) (w : World) (h : NumsAt w a n l) (hcap : n ≤ 1000000) (s0 : 0 ≤ s) (s1 : s < 4294967296) :
    Calls Try.prog 15 #[.int .u32 s, .slice a n cap] w fun e w' => e = .returned (resB (wRevoke s l)) ∧ Mod none' w w' := by
  have HC := Lib.hid (heap_alloc_new w (.cells (encB Z256) 28))
  have M0 : Mod none' w (w.alloc (.cells (encB Z256) 28)) := (Mod.refl _ _).alloc _
  have HT := Lib.hid h
  obtain ⟨bs, hbs⟩ : ∃ b, blkOf (wRevoke s l) = b := ⟨_, rfl⟩
  obtain ⟨er, her⟩ : ∃ b, errOf (wRevoke s l) = b := ⟨_, rfl⟩
  have hl4 : bs.length = 256 := by rw [← hbs]; exact wRevoke_len s l
  have HR : Hid (resB (wRevoke s l) = .tuple #[.agg (encB bs), .int .i64 er]) := by show _ = _; rw [resB_eq, hbs, her]
  clear hbs her h
  go_enter Try.func15, Try.ntmps15
  go_wp2_with ((with_reducible refine wpList_allocB' blkT ?_))
  refine (jnums _).mono ?_
  rintro e w1 ⟨rfl, hm⟩
  have HC1 := Lib.hid (hm.row (k := w.heap.size) HC.out (fun e => e))
  have M1 := M0.trans hm
  have HT1 : Hid (NumsAt w1 a n l) := HT.out.mod M1
  clear hm M0
  go_wp2_with fail
  obtain ⟨hn, hb, L, o, ha, hc⟩ := HT1.out
  refine (jwriteN L o _ _ l _ _ hn hcap s0 s1 hc hb _ ha).mono ?_
  rintro e w2 ⟨rfl, hm⟩
  rw [HR.out]
  have HC2 := Lib.hid (hm.row (k := w.heap.size) HC1.out (fun e => e))
  have M2 := M1.trans hm
  clear hm M1 hc hb ha hn
  go_wp2_with (((with_reducible refine wpList_storeB' blkT ?_ ?_ hl4 Z256_len HC2.out ?_); rfl; rfl))
  refine bodyPost_ret (results_blk2 blkT rfl _ _ _ _ _ hl4 rfl (setRow_heap _ _ _ _ _ _ HC2.out)) rfl ⟨?_, M2.setRow (.inr (by simp)) _⟩
  rw [HR.out]; rfl

theorem jget_at (B p : Nat) (at_ : Int) (bs : List UInt8) (E : TypeId) (w : World) (hB : w.heap[B]? = some (.cells (encB bs) E (0, 0))) (hl : bs.length = 256) (he : at_ = (p : Int)) (hp : p + 4 ≤ 256) :
    Calls Try.prog 46 #[.pointer (some ⟨B, 0, none⟩), .int .i64 at_] w fun e w' => e = .returned (.int .u32 (get32 bs p)) ∧ w = w' := by
  subst he
  exact jget B p bs E w hB hl hp
def kindB (bs : List UInt8) : Int × Int := if get32 bs 0 = 1280199249 ∧ 1 ≤ get32 bs 4 ∧ get32 bs 4 ≤ 4 ∧ seqB (get32 bs 8) = true then (get32 bs 4, get32 bs 8) else (0, 0)
def resK (p : Int × Int) : Value := .tuple #[.int .u8 p.1, .int .u32 p.2]

set_option maxHeartbeats 2000000 in
theorem jkind (bs : List UInt8) (hl : bs.length = 256) (w : World) :
    Calls Try.prog 23 #[.agg (encB bs)] w fun e w' => e = .returned (resK (kindB bs)) ∧ Mod none' w w' := by
  have HC := Lib.hid (heap_alloc_new w (.cells (encB bs) 28))
  have M0 : Mod none' w (w.alloc (.cells (encB bs) 28)) := (Mod.refl _ _).alloc _
  have b4 := get32_bd bs 4
  have b8 := get32_bd bs 8
  have b0 := get32_bd bs 0
  obtain ⟨x0, e0⟩ : ∃ x, get32 bs 0 = x := ⟨_, rfl⟩
  obtain ⟨x4, e4⟩ : ∃ x, get32 bs 4 = x := ⟨_, rfl⟩
  obtain ⟨x8, e8⟩ : ∃ x, get32 bs 8 = x := ⟨_, rfl⟩
  rw [e0] at b0
  rw [e4] at b4
  rw [e8] at b8
  have HR : Hid (kindB bs = if x0 = 1280199249 ∧ 1 ≤ x4 ∧ x4 ≤ 4 ∧ seqB x8 = true then (x4, x8) else (0, 0)) := by
    show _ = _
    unfold kindB
    rw [e0, e4, e8]
  have E0 := Lib.hid e0
  have E4 := Lib.hid e4
  have E8 := Lib.hid e8
  have HL := Lib.hid hl
  clear e0 e4 e8 hl
  obtain ⟨b4, b4'⟩ := b4
  obtain ⟨b8, b8'⟩ := b8
  by_cases h0 : x0 = 1280199249
  rotate_left
  · have H : Hid (kindB bs = (0, 0)) := by show _ = _; rw [HR.out, if_neg (fun h => h0 h.1)]
    go_enter Try.func23, Try.ntmps23
    go_wp2_with (first | (go_at_call 46; refine (jget_at _ 4 _ bs _ _ HC.out HL.out (by decide) (by decide)).mono ?_; rintro e w' ⟨rfl, rfl⟩; rw [E4.out]) | (go_at_call 46; refine (jget_at _ 8 _ bs _ _ HC.out HL.out (by decide) (by decide)).mono ?_; rintro e w' ⟨rfl, rfl⟩; rw [E8.out]) | (go_at_call 46; refine (jget_at _ 0 _ bs _ _ HC.out HL.out (by decide) (by decide)).mono ?_; rintro e w' ⟨rfl, rfl⟩; rw [E0.out]))
    go_ret2
    exact ⟨by rw [H.out]; rfl, M0⟩
  by_cases h1 : 1 ≤ x4
  rotate_left
  · have H : Hid (kindB bs = (0, 0)) := by show _ = _; rw [HR.out, if_neg (fun h => h1 h.2.1)]
    subst h0
    go_enter Try.func23, Try.ntmps23
    go_wp2_with (first | (go_at_call 46; refine (jget_at _ 4 _ bs _ _ HC.out HL.out (by decide) (by decide)).mono ?_; rintro e w' ⟨rfl, rfl⟩; rw [E4.out]) | (go_at_call 46; refine (jget_at _ 8 _ bs _ _ HC.out HL.out (by decide) (by decide)).mono ?_; rintro e w' ⟨rfl, rfl⟩; rw [E8.out]) | (go_at_call 46; refine (jget_at _ 0 _ bs _ _ HC.out HL.out (by decide) (by decide)).mono ?_; rintro e w' ⟨rfl, rfl⟩; rw [E0.out]))
    go_ret2
    exact ⟨by rw [H.out]; rfl, M0⟩
  by_cases h2 : x4 ≤ 4
  rotate_left
  · have H : Hid (kindB bs = (0, 0)) := by show _ = _; rw [HR.out, if_neg (fun h => h2 h.2.2.1)]
    subst h0
    go_enter Try.func23, Try.ntmps23
    go_wp2_with (first | (go_at_call 46; refine (jget_at _ 4 _ bs _ _ HC.out HL.out (by decide) (by decide)).mono ?_; rintro e w' ⟨rfl, rfl⟩; rw [E4.out]) | (go_at_call 46; refine (jget_at _ 8 _ bs _ _ HC.out HL.out (by decide) (by decide)).mono ?_; rintro e w' ⟨rfl, rfl⟩; rw [E8.out]) | (go_at_call 46; refine (jget_at _ 0 _ bs _ _ HC.out HL.out (by decide) (by decide)).mono ?_; rintro e w' ⟨rfl, rfl⟩; rw [E0.out]))
    go_ret2
    exact ⟨by rw [H.out]; rfl, M0⟩
  rcases Bool.eq_false_or_eq_true (seqB x8) with h3 | h3
  · have H : Hid (kindB bs = (x4, x8)) := by show _ = _; rw [HR.out, if_pos ⟨h0, h1, h2, h3⟩]
    have H3 := Lib.hid h3
    have hw : IntKind.u8.wrap x4 = x4 := by rw [IntKind.wrap_u8]; omega
    clear h3
    subst h0
    go_enter Try.func23, Try.ntmps23
    go_wp2_with (first | (go_at_call 46; refine (jget_at _ 4 _ bs _ _ HC.out HL.out (by decide) (by decide)).mono ?_; rintro e w' ⟨rfl, rfl⟩; rw [E4.out]) | (go_at_call 46; refine (jget_at _ 8 _ bs _ _ HC.out HL.out (by decide) (by decide)).mono ?_; rintro e w' ⟨rfl, rfl⟩; rw [E8.out]) | (go_at_call 46; refine (jget_at _ 0 _ bs _ _ HC.out HL.out (by decide) (by decide)).mono ?_; rintro e w' ⟨rfl, rfl⟩; rw [E0.out]) | (go_at_call 37; refine (jnumbered _ _).mono ?_; rintro e w' ⟨rfl, rfl⟩; rw [H3.out]))
    go_ret2
    exact ⟨by rw [H.out]; rfl, M0⟩
  · have H : Hid (kindB bs = (0, 0)) := by show _ = _; rw [HR.out, if_neg (fun h => by simp [h3] at h)]
    have H3 := Lib.hid h3
    clear h3
    subst h0
    go_enter Try.func23, Try.ntmps23
    go_wp2_with (first | (go_at_call 46; refine (jget_at _ 4 _ bs _ _ HC.out HL.out (by decide) (by decide)).mono ?_; rintro e w' ⟨rfl, rfl⟩; rw [E4.out]) | (go_at_call 46; refine (jget_at _ 8 _ bs _ _ HC.out HL.out (by decide) (by decide)).mono ?_; rintro e w' ⟨rfl, rfl⟩; rw [E8.out]) | (go_at_call 46; refine (jget_at _ 0 _ bs _ _ HC.out HL.out (by decide) (by decide)).mono ?_; rintro e w' ⟨rfl, rfl⟩; rw [E0.out]) | (go_at_call 37; refine (jnumbered _ _).mono ?_; rintro e w' ⟨rfl, rfl⟩; rw [H3.out]))
    go_ret2
    exact ⟨by rw [H.out]; rfl, M0⟩

def escB (bs : List UInt8) : List UInt8 := if get32 bs 0 = 1280199249 then put32 bs 0 0 else bs
def isB (bs : List UInt8) : Bool := decide (get32 bs 0 = 1280199249)
def unescB (bs : List UInt8) : List UInt8 := put32 bs 0 1280199249
theorem escB_len (bs : List UInt8) (h : bs.length = 256) : (escB bs).length = 256 := by unfold escB; split; rw [put32_len]; exact h; exact h
theorem unescB_len (bs : List UInt8) (h : bs.length = 256) : (unescB bs).length = 256 := by unfold unescB; rw [put32_len]; exact h

theorem junesc (bs : List UInt8) (hl : bs.length = 256) (w : World) :
    Calls Try.prog 24 #[.agg (encB bs)] w fun e w' => e = .returned (.agg (encB (unescB bs))) ∧ Mod none' w w' := by
  obtain ⟨R0, H0, M0⟩ := two_new w (.cells (encB bs) 28) (.cells (encB Z256) 28)
  have HB := Lib.hid R0
  have HC := Lib.hid H0
  clear R0 H0
  have hl2 : (unescB bs).length = 256 := unescB_len bs hl
  go_enter Try.func24, Try.ntmps24
  go_wp2_with ((with_reducible refine wpList_allocB' blkT ?_))
  refine (jput _ 0 _ bs _ _ HB.out hl (by omega) (by omega) (by omega)).mono ?_
  rintro e w1 ⟨rfl, rfl⟩
  have HB2 := Lib.hid (setRow_heap _ _ _ (encB (unescB bs)) _ _ HB.out)
  have HC2 := Lib.hid ((setRow_other _ w.heap.size (w.heap.size + 1) (encB (unescB bs)) (by omega)).trans HC.out)
  have M2 := M0.setRow (g := w.heap.size) (.inr (by omega)) (encB (unescB bs))
  rw [show put32 bs 0 1280199249 = unescB bs from rfl]
  generalize ((w.alloc (.cells (encB bs) 28)).alloc (.cells (encB Z256) 28)).setRow w.heap.size (encB (unescB bs)) = w2 at *
  clear M0
  go_wp2_with (first | ((with_reducible refine wpList_loadB' blkT ?_ (by assumption) HB2.out ?_); rfl) | ((with_reducible refine wpList_storeB' blkT ?_ ?_ (by assumption) Z256_len HC2.out ?_); rfl; rfl))
  exact bodyPost_ret (results_blk blkT rfl _ _ _ _ _ hl2 rfl (setRow_heap _ _ _ _ _ _ HC2.out)) rfl ⟨rfl, M2.setRow (.inr (by omega)) _⟩

set_option maxHeartbeats 2000000 in
theorem jesc (bs : List UInt8) (hl : bs.length = 256) (w : World) :
    Calls Try.prog 22 #[.agg (encB bs)] w fun e w' => e = .returned (.tuple #[.agg (encB (escB bs)), .bool (isB bs)]) ∧ Mod none' w w' := by
  obtain ⟨R0, H0, M0⟩ := two_new w (.cells (encB bs) 28) (.cells (encB Z256) 28)
  have HB := Lib.hid R0
  have HC := Lib.hid H0
  clear R0 H0
  by_cases h : get32 bs 0 = 1280199249
  · have H : Hid (get32 bs 0 = 1280199249) := h
    have HE : Hid (escB bs = put32 bs 0 0) := by show _ = _; rw [escB, if_pos h]
    have HI : Hid (isB bs = true) := by show _ = _; rw [isB, h]; rfl
    have hl2 : (put32 bs 0 0).length = 256 := by rw [put32_len]; exact hl
    clear h
    go_enter Try.func22, Try.ntmps22
    go_wp2_with (first | (with_reducible refine wpList_allocB' blkT ?_) | (go_at_call 46; refine (jget_at _ 0 _ bs _ _ HB.out hl (by decide) (by decide)).mono ?_; rintro e w' ⟨rfl, rfl⟩; rw [H.out]))
    refine (jput _ 0 _ bs _ _ HB.out hl (by omega) (by omega) (by omega)).mono ?_
    rintro e w1 ⟨rfl, rfl⟩
    have HB2 := Lib.hid (setRow_heap _ _ _ (encB (put32 bs 0 0)) _ _ HB.out)
    have HC2 := Lib.hid ((setRow_other _ w.heap.size (w.heap.size + 1) (encB (put32 bs 0 0)) (by omega)).trans HC.out)
    have M2 := M0.setRow (g := w.heap.size) (.inr (by omega)) (encB (put32 bs 0 0))
    generalize ((w.alloc (.cells (encB bs) 28)).alloc (.cells (encB Z256) 28)).setRow w.heap.size (encB (put32 bs 0 0)) = w2 at *
    clear M0
    go_wp2_with (first | ((with_reducible refine wpList_loadB' blkT ?_ (by assumption) HB2.out ?_); rfl) | ((with_reducible refine wpList_storeB' blkT ?_ ?_ (by assumption) Z256_len HC2.out ?_); rfl; rfl))
    refine bodyPost_ret (results_blk2 blkT rfl _ _ _ _ _ hl2 rfl (setRow_heap _ _ _ _ _ _ HC2.out)) rfl ⟨?_, M2.setRow (.inr (by omega)) _⟩
    rw [HE.out, HI.out]; rfl
  · obtain ⟨x0, e0⟩ : ∃ x, get32 bs 0 = x := ⟨_, rfl⟩
    have H : Hid (get32 bs 0 = x0) := e0
    have HE : Hid (escB bs = bs) := by show _ = _; rw [escB, if_neg h]
    have HI : Hid (isB bs = false) := by show _ = _; rw [isB, decide_eq_false h]
    rw [e0] at h
    clear e0
    go_enter Try.func22, Try.ntmps22
    go_wp2_with (first | (with_reducible refine wpList_allocB' blkT ?_) | (go_at_call 46; refine (jget_at _ 0 _ bs _ _ HB.out hl (by decide) (by decide)).mono ?_; rintro e w' ⟨rfl, rfl⟩; rw [H.out]) | ((with_reducible refine wpList_loadB' blkT ?_ hl HB.out ?_); rfl) | ((with_reducible refine wpList_storeB' blkT ?_ ?_ hl Z256_len HC.out ?_); rfl; rfl))
    refine bodyPost_ret (results_blk2 blkT rfl _ _ _ _ _ hl rfl (setRow_heap _ _ _ _ _ _ HC.out)) rfl ⟨?_, M0.setRow (.inr (by omega)) _⟩
    rw [HE.out, HI.out]; rfl
end Go.Proofs.Ytckadanghhibhaa
