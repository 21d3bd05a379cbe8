/- A path is split, its parent told: the reference's way, byte by byte. -/
import Derived.Test.YtaponmniedjkiaaRJoin
import Derived.OwnWalk
namespace Go.Proofs.Ytaponmniedjkiaa
open Go Go.RowKit

theorem pre_nil1 (x : List UInt8) : pre x [[]] = [x] := by simp [pre]
theorem segs_snoc_at {acc : List (List UInt8)} {name t : List UInt8} : acc ++ pre name (segs (47 :: t)) = (acc ++ [name]) ++ pre [] (segs t) := by
  rw [pre_nil (segs_ne t), segs, if_pos rfl]; simp [pre]
theorem segs_snoc_no {acc : List (List UInt8)} {name t : List UInt8} {c : UInt8} (h : c ≠ 47) : acc ++ pre name (segs (c :: t)) = acc ++ pre (name ++ [c]) (segs t) := by
  rw [segs, if_neg h, pre_pre]
theorem extract_one (s : ByteArray) (i : Nat) (h : i < s.size) : s.extract i (i + 1) = mkB [s[i]'h] := ba_list (by
  have hl : i < s.data.toList.length := by rw [← Lib.size_eq]; exact h
  have hx : s.data.toList[i]? = some (s[i]'h) := Lib.data_getElem? s i h
  rw [extract_list, mkB_list, List.take_add_one, hx, List.drop_append, List.drop_of_length_le (by rw [List.length_take]; omega), List.length_take, Nat.min_eq_left (by omega), Nat.sub_self]; rfl)
theorem all_bad {l a b : List (List UInt8)} {x : List UInt8} (h : l = a ++ [x] ++ b) (hx : okN x = false) : l.all okN = false := by
  rw [h, List.all_append, List.all_append]; simp [hx]

set_option maxRecDepth 100000 in
set_option maxHeartbeats 4000000 in
theorem rsplit_any {S : Nat → Prop} {w0 w : World} {L : List Ass} (HS0 : St S w0 w L) (s : ByteArray) (hs : s.size ≤ 1000000) :
    Calls Try.prog 13 #[.string s] w fun e w' => ∃ v, e = .returned (.tuple #[v, .int .i64 (splitN s.data.toList).1]) ∧ St S w0 w' (.own v 9 1 (splitN s.data.toList).2.length (encS (splitN s.data.toList).2) :: L) := by
  have hsz := Lib.size_eq s
  obtain ⟨p, hp⟩ : ∃ p, splitN s.data.toList = p := ⟨_, rfl⟩
  rw [hp]
  have hend : ∀ (v : Value) (w' : World), w'.ownsRow w.heap.size 9 1 v p.2.length (encS p.2) → Mod none' w w' → ∃ v', Ending.returned (.tuple #[v, .int .i64 p.1]) = .returned (.tuple #[v', .int .i64 p.1]) ∧ St S w0 w' (.own v' 9 1 p.2.length (encS p.2) :: L) :=
    fun v w' ho hm => ⟨v, rfl, HS0.newOwn hm ho⟩
  have HE := Lib.hid hend
  have hl := Lib.toList_data s
  clear hend HS0
  by_cases hlong : 512 < s.size
  · have hpe : p = (3, []) := by rw [← hp]; exact if_pos (by rw [← hsz]; exact hlong)
    subst hpe
    have e0 : decide ((512 : Int) < (s.size : Int)) = true := decide_eq_true (by omega)
    clear hp hsz
    go_enter Try.func13, Try.ntmps13
    go_wp2
    refine bodyPost_ret (res2 rfl (resTmp _ _ _) (resTmp _ _ _)) rfl ?_
    exact HE.out _ _ (World.ownsRow_nil _ _ _ _) (Mod.refl _ _)
  have e0 : decide ((512 : Int) < (s.size : Int)) = false := decide_eq_false (by omega)
  by_cases hroot : s.data.toList = [47]
  · have hpe : p = (0, []) := by rw [← hp, hroot]; rfl
    subst hpe
    have e1 : (s.toList == ([47] : List UInt8)) = true := by rw [hl, hroot]; rfl
    have e2 : s.toList = ([47] : List UInt8) := by rw [hl, hroot]
    clear hp hsz
    go_enter Try.func13, Try.ntmps13
    go_wp2
    refine bodyPost_ret (res2 rfl (resTmp _ _ _) (resTmp _ _ _)) rfl ?_
    exact HE.out _ _ (World.ownsRow_nil _ _ _ _) (Mod.refl _ _)
  have e1 : (s.toList == ([47] : List UInt8)) = false := by rw [hl, beq_eq_false_iff_ne]; exact hroot
  have e2 : ¬ s.toList = ([47] : List UInt8) := beq_eq_false_iff_ne.1 e1
  rcases hb : s.data.toList with _ | ⟨b, r⟩
  · have hpe : p = (290, []) := by rw [← hp, hb]; rfl
    subst hpe
    have e4 : s.toList.isEmpty = true := by rw [hl, hb]; rfl
    have e5 : (s.toList == ([] : List UInt8)) = true := by rw [hl, hb]; rfl
    clear hp hsz hl hb
    go_enter Try.func13, Try.ntmps13
    go_wp2
    refine bodyPost_ret (res2 rfl (resTmp _ _ _) (resTmp _ _ _)) rfl ?_
    exact HE.out _ _ (World.ownsRow_nil _ _ _ _) (Mod.refl _ _)
  have e3 : ¬ s.toList = [] := by rw [hl, hb]; simp
  have e4 : s.toList.isEmpty = false := by rw [hl, hb]; rfl
  have h0 : 0 < s.size := by rw [hsz, hb]; simp
  have hb0 : s[0]'h0 = b := by
    have := Lib.data_getElem? s 0 h0
    rw [hb] at this
    exact (Option.some.inj this).symm
  by_cases hb47 : b = 47
  rotate_left
  · have hpe : p = (290, []) := by
      rw [← hp]; unfold splitN
      rw [if_neg (by rw [← hsz]; omega), if_pos (by rw [hb]; simpa using hb47)]
    subst hpe
    have c1 : (((s[0]'h0).toNat : Int) == 47) = false := by
      rw [hb0, beq_eq_false_iff_ne]
      intro e
      apply hb47
      apply UInt8.toNat_inj.1
      have : b.toNat = 47 := by omega
      exact this
    have c2 : (((s[0]'h0).toNat : Int) != 47) = true := by rw [bne, c1]; rfl
    have c3 := beq_eq_false_iff_ne.1 c1
    clear hp hsz hb0 hl hb
    go_enter Try.func13, Try.ntmps13
    go_wp2
    refine bodyPost_ret (res2 rfl (resTmp _ _ _) (resTmp _ _ _)) rfl ?_
    exact HE.out _ _ (World.ownsRow_nil _ _ _ _) (Mod.refl _ _)
  subst hb47
  have c1 : (((s[0]'h0).toNat : Int) == 47) = true := by rw [hb0]; rfl
  have c2 : (((s[0]'h0).toNat : Int) != 47) = false := by rw [bne, c1]; rfl
  have c3 := beq_iff_eq.1 c1
  have hrow : rowP s.data.toList = segs r := by rw [hb]; exact rowP_cons (by rw [← hb]; exact hroot)
  have hpe : p = if (segs r).all okN = false then (290, []) else if 16 < (segs r).length then (4, []) else (0, segs r) := by
    rw [← hp]; unfold splitN; rw [hrow, if_neg (by rw [← hsz]; omega), if_neg (by rw [hb]; simp)]
  have HP := Lib.hid hpe
  have hNl : (segs r).length ≤ s.size := by
    have := segs_len r
    rw [hsz, hb]; exact this
  have HB := Lib.hid hb
  have HL := Lib.hid hl
  have hn512 : s.size ≤ 512 := by omega
  obtain ⟨N, hN⟩ : ∃ N, segs r = N := ⟨_, rfl⟩
  rw [hN] at HP hNl
  have HN := Lib.hid hN
  have HSZ := Lib.hid hsz
  clear hp hpe hrow hsz hb hl hb0 hN
  go_enter Try.func13, Try.ntmps13
  go_wp2
  go_loopw [4, 5, 6] (fun lv nv iv wr => ∃ (i : Nat) (acc : List (List UInt8)) (name : List UInt8), 1 ≤ i ∧ i ≤ s.size + 1 ∧ iv = .int .i64 i ∧ nv = .string (mkB name) ∧ wr.ownsRow w.heap.size 9 1 lv acc.length (encS acc) ∧ Below w.heap.size w wr ∧
    Hid (acc.all okN = true) ∧ acc.length ≤ i ∧ name.length ≤ i ∧ Hid (if i ≤ s.size then N = acc ++ pre name (segs (s.data.toList.drop i)) else N = acc)) (fun _ _ iv _ => s.size + 1 - (intOf iv).toNat)
  case atStart =>
    refine ⟨1, [], [], by omega, by omega, rfl, rfl, World.ownsRow_nil _ _ _ _, Below.refl _ _, rfl, by simp, by simp, ?_⟩
    show if _ then _ else _
    rw [if_pos (by omega), HB.out, pre_nil (segs_ne _), ← HN.out]; rfl
  case round =>
    obtain ⟨i, acc, name, hi1, hi2, rfl, rfl, hown, hbel, HA, hal, hnl, HG⟩ := hrel
    by_cases hle : i ≤ s.size
    · have hGp : N = acc ++ pre name (segs (s.data.toList.drop i)) := by have := HG.out; rwa [if_pos hle] at this
      have HGP := Lib.hid hGp
      have hleI : decide ((i : Int) ≤ (s.size : Int)) = true := decide_eq_true (by omega)
      have hmn : (mkB name).size = name.length := mkB_size _
      clear hGp HG
      by_cases hlt : i < s.size
      · have hltI : decide ((i : Int) < (s.size : Int)) = true := decide_eq_true (by omega)
        obtain ⟨c, hc⟩ : ∃ c : UInt8, s[i]'hlt = c := ⟨_, rfl⟩
        have hdrop : s.data.toList.drop i = c :: s.data.toList.drop (i + 1) := by
          have hx : s.data.toList[i]? = some (s[i]'hlt) := Lib.data_getElem? s i hlt
          obtain ⟨hh, hx2⟩ := List.getElem?_eq_some_iff.1 hx
          rw [List.drop_eq_getElem_cons hh, hx2, hc]
        have HD := Lib.hid hdrop
        have HEX : Hid (s.extract i (i + 1) = mkB [c]) := by show _ = _; rw [extract_one s i hlt, hc]
        clear hdrop
        by_cases hc47 : c = 47
        · have k1 : (((s[i]'hlt).toNat : Int) == 47) = true := by rw [hc, hc47]; rfl
          have k2 : (((s[i]'hlt).toNat : Int) != 47) = false := by rw [bne, k1]; rfl
          have k3 := beq_iff_eq.1 k1
          have hG2 : N = (acc ++ [name]) ++ pre [] (segs (s.data.toList.drop (i + 1))) := by rw [HGP.out, HD.out, hc47, segs_snoc_at]
          have HG2 := Lib.hid hG2
          have HOK : Hid (okN name = false → N.all okN = false) := fun h => all_bad hG2 h
          clear hc hc47 hG2 HGP HD HEX
          have HM := Lib.hid (fun W => rmay_any (mkB name) W (by rw [mkB_size]; unfold maxLen; omega))
          rw [show okName (mkB name) = okN name from rfl] at HM
          cases hok : okN name
          · rw [hok] at HM
            have hp : p = (290, []) := by rw [HP.out, if_pos (HOK.out hok)]
            subst hp
            go_wp2_with (go_at_call 20; (with_reducible refine (HM.out _).mono ?_); rintro e w' ⟨rfl, rfl⟩)
            refine bodyPost_ret (res2 rfl (resTmp _ _ _) (resTmp _ _ _)) rfl ?_
            exact HE.out _ _ (World.ownsRow_nil _ _ _ _) (Mod.of_new hbel)
          · rw [hok] at HM
            have hws := hbel.size
            go_wp2_with (first | (go_at_call 20; (with_reducible refine (HM.out _).mono ?_); rintro e w' ⟨rfl, rfl⟩) | (at_builtin; refine wpList_app wr rfl _ _ 22 rfl w.heap.size 9 (.string ByteArray.empty) 1 16 Try.underlying22 infoS rfl (by decide) _ acc.length (encS acc) (by rfl) hown #[.string (mkB name)] 1 rfl rfl (by simp [Value.oneCell']) (by omega) (by decide) hws ?_; intro v' w1 hown' hb'))
            go_roundw
            case rel =>
              refine ⟨_ + 1, acc ++ [name], [], by omega, ?_, by go_num, rfl, by rw [← encS_snoc, List.length_append]; exact hown', hbel.trans hb', by show _ = _; rw [List.all_append, HA.out]; simp [hok], by simp; omega, by simp, ?_⟩
              · omega
              · show if _ then _ else _
                rw [if_pos (by omega), HG2.out]
            case measure => first | (simp [intOf]; done) | (simp [intOf]; omega)
        · have k1 : (((s[i]'hlt).toNat : Int) == 47) = false := by
            rw [hc, beq_eq_false_iff_ne]
            intro e
            apply hc47
            apply UInt8.toNat_inj.1
            have : c.toNat = 47 := by omega
            exact this
          have k2 : (((s[i]'hlt).toNat : Int) != 47) = true := by rw [bne, k1]; rfl
          have k3 := beq_eq_false_iff_ne.1 k1
          have hsz1 : (s.extract i (i + 1)).size = 1 := by rw [HEX.out, mkB_size]; rfl
          have HAP : Hid (mkB name ++ s.extract i (i + 1) = mkB (name ++ [c])) := by show _ = _; rw [HEX.out]; exact ba_list (by simp [mkB])
          have HC47 := Lib.hid hc47
          clear hc hc47
          go_wp2
          go_roundw
          case rel =>
            refine ⟨i + 1, acc, name ++ [c], by omega, by omega, by go_num, by rw [← HAP.out], hown, hbel, HA, by omega, by simp; omega, ?_⟩
            show if _ then _ else _
            rw [if_pos (by omega), HGP.out, HD.out, segs_snoc_no HC47.out]
          case measure => first | (simp [intOf]; done) | (simp [intOf]; omega)
      · obtain rfl : i = s.size := by omega
        have hltI : decide ((s.size : Int) < (s.size : Int)) = false := decide_eq_false (by omega)
        have hG2 : N = (acc ++ [name]) ++ [] := by
          rw [HGP.out, List.drop_of_length_le (by rw [← HSZ.out]; exact Nat.le_refl _), List.append_nil]
          rw [show segs [] = [[]] from rfl, pre_nil1]
        have HG2 := Lib.hid hG2
        have HOK : Hid (okN name = false → N.all okN = false) := fun h => all_bad hG2 h
        clear hG2 HGP
        have HM := Lib.hid (fun W => rmay_any (mkB name) W (by rw [mkB_size]; unfold maxLen; omega))
        rw [show okName (mkB name) = okN name from rfl] at HM
        cases hok : okN name
        · rw [hok] at HM
          have hp : p = (290, []) := by rw [HP.out, if_pos (HOK.out hok)]
          subst hp
          go_wp2_with (go_at_call 20; (with_reducible refine (HM.out _).mono ?_); rintro e w' ⟨rfl, rfl⟩)
          refine bodyPost_ret (res2 rfl (resTmp _ _ _) (resTmp _ _ _)) rfl ?_
          exact HE.out _ _ (World.ownsRow_nil _ _ _ _) (Mod.of_new hbel)
        · rw [hok] at HM
          have hws := hbel.size
          go_wp2_with (first | (go_at_call 20; (with_reducible refine (HM.out _).mono ?_); rintro e w' ⟨rfl, rfl⟩) | (at_builtin; refine wpList_app wr rfl _ _ 22 rfl w.heap.size 9 (.string ByteArray.empty) 1 16 Try.underlying22 infoS rfl (by decide) _ acc.length (encS acc) (by rfl) hown #[.string (mkB name)] 1 rfl rfl (by simp [Value.oneCell']) (by omega) (by decide) hws ?_; intro v' w1 hown' hb'))
          go_roundw
          case rel =>
            refine ⟨_ + 1, acc ++ [name], [], by omega, ?_, by go_num, rfl, by rw [← encS_snoc, List.length_append]; exact hown', hbel.trans hb', by show _ = _; rw [List.all_append, HA.out]; simp [hok], by simp; omega, by simp, ?_⟩
            · omega
            · show if _ then _ else _
              rw [if_neg (by omega), HG2.out, List.append_nil]
          case measure => first | (simp [intOf]; done) | (simp [intOf]; omega)
    · obtain rfl : i = s.size + 1 := by omega
      have hleI : decide ((s.size : Int) + 1 ≤ (s.size : Int)) = false := decide_eq_false (by omega)
      have hNa : N = acc := by have := HG.out; rwa [if_neg (by omega)] at this
      subst hNa
      have HP2 : Hid (p = if 16 < N.length then (4, []) else (0, N)) := by show _ = _; rw [HP.out, if_neg (by rw [HA.out]; simp)]
      obtain ⟨ad, cap, rfl⟩ := own_slice hown
      clear HG HP HA HN
      by_cases h16 : 16 < N.length
      · have e16 : decide ((16 : Int) < (N.length : Int)) = true := decide_eq_true (by omega)
        have hp16 : p = (4, []) := by rw [HP2.out, if_pos h16]
        subst hp16
        go_wp2
        refine bodyPost_ret (res2 rfl (resTmp _ _ _) (resTmp _ _ _)) rfl ?_
        exact HE.out _ _ (World.ownsRow_nil _ _ _ _) (Mod.of_new hbel)
      · have e16 : decide ((16 : Int) < (N.length : Int)) = false := decide_eq_false (by omega)
        have hp16 : p = (0, N) := by rw [HP2.out, if_neg h16]
        subst hp16
        go_wp2
        refine bodyPost_ret (res2 rfl (resTmp _ _ _) (resTmp _ _ _)) rfl ?_
        exact HE.out _ _ hown (Mod.of_new hbel)
end Go.Proofs.Ytaponmniedjkiaa
