/- A path's parent: the program's way. -/
import Derived.Test.YtaponmniedjkiaaJoin
namespace Go.Proofs.Ytaponmniedjkiaa
open Go Go.RowKit

theorem Txts.own {S : Nat → Prop} {w0 w : World} {L : List Ass} (HS : St S w0 w L) {ad : Option Addr} {n cap : Nat} {l : List (List UInt8)} (hm : Ass.own (.slice ad n cap) 9 1 n (encS l) ∈ L) (hn : n = l.length) : Txts w ad l ∧ l.length ≤ cap := by
  subst hn
  by_cases hl : l = []
  · subst hl; exact ⟨.inl rfl, Nat.zero_le _⟩
  · obtain ⟨g, cap', e, hg, _⟩ := own_row (HS.own hm) (List.length_pos_iff.2 hl)
    obtain ⟨rfl, rfl⟩ : ad = some ⟨g, 0, none⟩ ∧ cap = cap' := by simpa using e
    exact ⟨.inr ⟨g, 0, rfl, HS.ownRange hm⟩, hg⟩
theorem Txts.init {w : World} {ad : Option Addr} {l : List (List UInt8)} {x : List UInt8} (h : Txts w ad (l ++ [x])) : Txts w ad l := by
  rcases h with h | ⟨A, o, h1, h2⟩
  · simp at h
  · refine .inr ⟨A, o, h1, fun j v hj => h2 j v ?_⟩
    rw [← encS_snoc, List.getElem?_append_left (List.getElem?_eq_some_iff.1 hj).1]
    exact hj

set_option maxRecDepth 100000 in
set_option maxHeartbeats 2000000 in
theorem parent_any (w : World) (s : ByteArray) (hs : s.size ≤ 1000000) :
    Calls Try.prog 15 #[.string s] w fun e w' => e = .returned (.tuple #[.string (mkB (parentN s.data.toList).2.1), .string (mkB (parentN s.data.toList).2.2), .int .i64 (parentN s.data.toList).1]) ∧ Mod none' w w' := by
  have HS := St.nil none' w
  have HSP := Lib.hid (fun (S : Nat → Prop) (w0 W : World) (L : List Ass) (HS : St S w0 W L) => split_any HS s hs)
  have hsz := Lib.size_eq s
  obtain ⟨p, hp⟩ : ∃ p, parentN s.data.toList = p := ⟨_, rfl⟩
  rw [hp]
  by_cases he : (splitN s.data.toList).1 = 0
  · have h16 := (splitN_ok he).2.2.2.1
    have h5 := (splitN_ok he).2.2.2.2
    by_cases hn : (splitN s.data.toList).2 = []
    · have hpe : p = (290, [], []) := by rw [← hp]; unfold parentN; rw [if_neg (by simpa using he), if_pos hn]
      subst hpe
      rw [he, hn] at HSP
      clear hp hn he h5 h16 hsz
      go_enter Try.func15, Try.ntmps15
      go_wp2_with (go_at_call 14; refine (HSP.out _ _ _ _ HS).mono ?_; rintro e w' ⟨v, rfl, H1⟩; clear HS; have HS := H1; clear H1; obtain ⟨ad2, cap2, rfl⟩ := own_slice (HS.own (.head _)))
      refine bodyPost_ret (res3 rfl (resTmp _ _ _) (resTmp _ _ _) (resTmp _ _ _)) rfl ⟨rfl, HS.mod⟩
    · obtain ⟨up, x, hux, hpar, hsu, hjx⟩ := parent_ok he hn
      have hpe : p = (0, (joinN up).2, x) := by rw [← hp, hpar]
      subst hpe
      have hlen : (splitN s.data.toList).2.length = up.length + 1 := by rw [hux]; simp
      have hup : up.length ≤ 16 := by rw [h5] at hlen; simp at hlen; omega
      rw [he, hux] at HSP
      have hpl : (pathOf up).length ≤ 512 := (joinN_ok (l := up) (joinN_init (x := x) (by rw [hjx]))).1
      have hj0 : (joinN up).1 = 0 := joinN_init (x := x) (by rw [hjx])
      have HJ := Lib.hid (fun W ad cap h1 h2 => join_any W ad cap up (by omega) h1 (by omega) h2)
      rw [hj0] at HJ
      have hl1 : (up ++ [x]).length = up.length + 1 := by simp
      rw [hl1] at HSP
      have hlx : Hid ((encS (up ++ [x]))[up.length]? = some (.string (mkB x))) := encS_get (by simp)
      clear hp hpar hux hsu hjx hsz hn he h5 h16 hlen hpl hj0
      go_enter Try.func15, Try.ntmps15
      go_wp2_with (first | (go_at_call 14; refine (HSP.out _ _ _ _ HS).mono ?_; rintro e w' ⟨v, rfl, H1⟩; clear HS; have HS := H1; clear H1; obtain ⟨ad2, cap2, rfl⟩ := own_slice (HS.own (.head _)); have hcap := (Txts.own HS (.head _) hl1.symm).2; rw [hl1] at hcap; obtain ⟨g, cap3, e3, _⟩ := own_row (HS.own (.head _)) (Nat.succ_pos _); obtain ⟨rfl, rfl⟩ : ad2 = some ⟨g, 0, none⟩ ∧ cap2 = cap3 := by simpa using e3) | (go_at_call 10; refine (HJ.out _ _ _ (by omega) (Txts.own HS (.head _) hl1.symm).1.init).mono ?_; rintro e w' ⟨rfl, H1⟩; replace HS := HS.fresh H1; clear H1))
      (try simp only [Act.put])
      refine wp_region_quietF (by kernel_rfl) (by kernel_rfl) ?_
      repeat (first | go_big_quiet_skip | (((with_reducible apply qLoadO1 HS); infer_instance; rfl; rfl; (repeat (first | exact List.Mem.head _ | apply List.Mem.tail)); exact hlx.out); (try simp only [Act.put, List.setIfInBounds_toArray, List.set_cons_zero, List.set_cons_succ])) | (go_big_quiet_want; go_big_quiet_op; first | go_big_quiet_on | (refine ⟨_, fun _ _ => rfl, ?_⟩; go_big_quiet_on) | (apply Exists.intro; refine ⟨fun wc hfr => ?_, ?_⟩; (· fail); go_big_quiet_on)))
      refine wpQuiet_nil ?_
      intro w1 hm1
      replace HS := HS.fresh hm1
      clear hm1
      go_wp2
      refine bodyPost_ret (res3 rfl (resTmp _ _ _) (resTmp _ _ _) (resTmp _ _ _)) rfl ⟨rfl, HS.mod⟩
  · have hpe : p = ((splitN s.data.toList).1, [], []) := by rw [← hp]; unfold parentN; rw [if_pos he]
    subst hpe
    rw [splitN_bad he] at HSP
    generalize (splitN s.data.toList).1 = q at *
    have hb : (q != 0) = true := by simpa using he
    clear hp hsz
    go_enter Try.func15, Try.ntmps15
    go_wp2_with (go_at_call 14; refine (HSP.out _ _ _ _ HS).mono ?_; rintro e w' ⟨v, rfl, H1⟩; clear HS; have HS := H1; clear H1; obtain ⟨ad2, cap2, rfl⟩ := own_slice (HS.own (.head _)))
    refine bodyPost_ret (res3 rfl (resTmp _ _ _) (resTmp _ _ _) (resTmp _ _ _)) rfl ⟨rfl, HS.mod⟩
end Go.Proofs.Ytaponmniedjkiaa
