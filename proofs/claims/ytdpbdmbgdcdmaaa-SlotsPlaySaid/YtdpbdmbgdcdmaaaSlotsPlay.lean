/- Turns of adding and removing keep a block to what a list of names says. -/
import Derived.Test.YtdpbdmbgdcdmaaaHo
import Derived.Test.YtdpbdmbgdcdmaaaArg
namespace Go.Proofs.Ytdpbdmbgdcdmaaa.slotsPlay
open Go Go.RowKit Go.ChangeShapes Go.WideShapes Go.ChangeAt
open Go.Proofs.Ytdpbdmbgdcdmaaa.slotsBack (own laidOut u32_wf)

theorem cellsStr : Try.prog.cellsOf 9 = 1 := by kernel_rfl
theorem cellsU32 : Try.prog.cellsOf 31 = 1 := by kernel_rfl
theorem cellsTurn : Try.prog.cellsOf 50 = 2 := by kernel_rfl
def noEn : Value := .agg #[.string ByteArray.empty, .int .u32 0]
theorem infoE : (Try.prog.info? 52).map (fun i => (i.zero, i.size, i.bytes)) = some (some noEn, 2, 24) := by kernel_rfl
theorem infoE1 : (Try.prog.info? 52).map (·.size) = some 2 := by kernel_rfl
def turnOk (p : En) : Prop := p.1.size ≤ maxLen ∧ 0 ≤ p.2 ∧ p.2 < 4294967296
theorem turns_arg {w : World} {v : Value} (h : ArgIs Try.prog w 46 v) :
    ∃ (ad : Option Addr) (cap : Nat) (l : List En), v = .slice ad l.length cap ∧ l.length ≤ maxLen ∧ (∀ p ∈ l, turnOk p) ∧ (l = [] ∨ ∃ A o, ad = some ⟨A, o, none⟩ ∧ w.rangeAt A o (encE l)) := by
  obtain ⟨ad, cap, l, h1, h2, _, _, hp, h3⟩ := slice_arg Try.underlying46 cellsTurn (by omega) h (fun p : En => [Value.string p.1, Value.int .u32 p.2]) turnOk (fun _ => rfl) (fun ecs he hr => by
    obtain ⟨_, hall⟩ := hr.struct Try.underlying50
    have r0 : Rd Try.prog w 9 ((ecs.drop 0).take (Try.prog.cellsOf 9)) := hall 0 _ rfl
    have r1 : Rd Try.prog w 31 ((ecs.drop 1).take (Try.prog.cellsOf 31)) := hall 1 _ rfl
    obtain ⟨b, hb, hbw⟩ := r0.string Try.underlying9
    obtain ⟨f, hf, hfw⟩ := r1.int Try.underlying31
    rw [cellsStr] at hb
    rw [cellsU32] at hf
    match ecs, he with
    | [c0, c1], _ =>
      simp at hb hf
      subst hb hf
      exact ⟨(b, f), ⟨hbw, u32_wf hfw⟩, rfl⟩)
  exact ⟨ad, cap, l, h1, h2, hp, h3⟩
theorem atr_zero (el : List En) (name : ByteArray) : AtR el name 0 (-1) := .inl ⟨rfl, fun j p h => by omega⟩
theorem atr_miss {el : List En} {name : ByteArray} {m : Nat} {a : Int} {p : En} (h : AtR el name m a) (hp : el[m]? = some p) (hn : p.1 ≠ name) : AtR el name (m + 1) a := by
  rcases h with ⟨h1, h2⟩ | ⟨j, q, h1, h2, h3, h4⟩
  · refine .inl ⟨h1, fun j q hj hq => ?_⟩
    rcases Nat.lt_or_ge j m with h | h
    · exact h2 j q h hq
    · obtain rfl : j = m := by omega
      rw [hp] at hq; cases hq; exact hn
  · exact .inr ⟨j, q, by omega, h2, h3, h4⟩
theorem atr_hit {el : List En} {name : ByteArray} {m : Nat} {p : En} (hp : el[m]? = some p) (hn : p.1 = name) : AtR el name (m + 1) m := .inr ⟨m, p, by omega, rfl, hp, hn⟩
theorem atr_range {el : List En} {name : ByteArray} {m : Nat} {a : Int} (h : AtR el name m a) : -1 ≤ a ∧ a < (m : Int) := by
  rcases h with ⟨h1, _⟩ | ⟨j, _, h1, h2, _⟩ <;> omega
theorem encE_snoc (el : List En) (p : En) : encE el ++ [.string p.1, .int .u32 p.2] = encE (el ++ [p]) := (flat_snoc (fun p : En => [Value.string p.1, .int .u32 p.2]) el p).symm

theorem encE_len (el : List En) : (encE el).length = el.length * 2 := flat_len (fun p : En => [Value.string p.1, .int .u32 p.2]) 2 el (fun _ _ => rfl)
theorem news_takeE {w : World} {g : Nat} {el : List En} (h : w.rangeAt g 0 (encE el)) (j : Nat) : ∀ k u, (encE (el.take j))[k]? = some u → w.cell? ((⟨g, 0, none⟩ : Addr).add k) = some u := by
  intro k u hk
  unfold encE at hk
  rw [← flat_take (fun p : En => [Value.string p.1, .int .u32 p.2]) 2 el (fun _ _ => rfl), List.getElem?_take] at hk
  split at hk
  · rw [add_off]; exact h k u hk
  · cases hk
theorem news_dropE {w : World} {g : Nat} {el : List En} (h : w.rangeAt g 0 (encE el)) (j : Nat) : ∀ k u, (encE (el.drop j))[k]? = some u → w.cell? ((⟨g, j * 2, none⟩ : Addr).add k) = some u := by
  intro k u hk
  unfold encE at hk
  rw [← flat_drop (fun p : En => [Value.string p.1, .int .u32 p.2]) 2 el (fun _ _ => rfl), List.getElem?_drop] at hk
  rw [add_off, ← Nat.zero_add (j * 2 + k)]; exact h _ u hk
theorem slice_ite {c : Prop} [Decidable c] (a b : Addr) (m k : Nat) : Value.slice (if c then some a else some b) m k = Value.slice (some (if c then a else b)) m k := by split <;> rfl
theorem news_dropI {w : World} {g cap : Nat} {el : List En} (h : w.rangeAt g 0 (encE el)) (hc : el.length ≤ cap) (j : Nat) : ∀ k u, (encE (el.drop j))[k]? = some u → w.cell? ((if cap = j then (⟨g, 0, none⟩ : Addr) else ⟨g, j * 2, none⟩).add k) = some u := by
  intro k u hk
  split
  · rw [List.drop_of_length_le (by omega)] at hk
    simp [encE] at hk
  · exact news_dropE h j k u hk
theorem encE_one (el : List En) : ∀ v ∈ encE el, v.oneCell' = true := by
  intro v hv
  obtain ⟨p, _, hv⟩ := List.mem_flatMap.1 hv
  simp at hv
  rcases hv with rfl | rfl <;> rfl

set_option maxRecDepth 100000 in
set_option maxHeartbeats 40000000 in
theorem walk (ad : Option Addr) (cap : Nat) (ts : List En) (w : World) (L : List Ass) (HS : St none' w w L) (hm : ts.length ≤ maxLen) (hok : ∀ p ∈ ts, turnOk p) (hl : ts = [] ∨ ∃ A o, ad = some ⟨A, o, none⟩ ∧ Ass.ro A o (encE ts) ∈ L) :
    Calls Try.prog 5 #[.slice ad ts.length cap] w fun e w' => e = .returned (.bool true) ∧ Below w.heap.size w w' := by
  have z256 : Hid ((encB Z256).size = 256) := (encB_size _).trans Z256_len
  have HOK := Lib.hid hok
  have HL := Lib.hid hl
  unfold maxLen at hm
  clear hok hl
  by_cases hlong : 100 < ts.length
  · have hI : (100 : Int) < (ts.length : Int) := by omega
    go_enter Try.func5, Try.ntmps5
    go_wp2_with (first | (go_at_call 21; refine (aw.awake_any _).mono ?_; rintro e w' ⟨rfl, H1⟩; replace HS := HS.fresh H1; clear H1) | ((with_reducible apply sAlloc HS); infer_instance; (first | exact cells_agg _ | exact cells_one rfl); rfl; intro Bb w' H1; clear HS; have HS := H1; clear H1))
    go_ret
    exact ⟨rfl, HS.below⟩
  have hI : ¬ (100 : Int) < (ts.length : Int) := by omega
  go_enter Try.func5, Try.ntmps5
  go_wp2_with (first | (go_at_call 21; refine (aw.awake_any _).mono ?_; rintro e w' ⟨rfl, H1⟩; replace HS := HS.fresh H1; clear H1) | ((with_reducible apply sAlloc HS); infer_instance; (first | exact cells_agg _ | exact cells_one rfl); rfl; intro Bb w' H1; clear HS; have HS := H1; clear H1))
  replace HS : St none' w _ (.blk true Bb (encB Z256) 23 :: L) := HS
  replace HS := HS.new (A := .own (.slice none 0 0) 52 2 0 []) (Mod.refl _ _) (World.ownsRow_nil _ _ _ _) (fun k hk => by simp [Ass.foot, Value.ownBlock] at hk)
  go_loopw [4, 5] (fun lv iv wr => ∃ (i : Nat) (bs : List UInt8) (l : List Sl) (el : List En), i ≤ ts.length ∧ iv = .int .i64 i ∧ Hid (Play bs l el) ∧ St none' w wr (.own lv 52 2 el.length (encE el) :: .blk true Bb (encB bs) 23 :: L)) (fun _ iv _ => ts.length - (intOf iv).toNat)
  case atStart => exact ⟨0, Z256, _, [], by omega, rfl, play0, HS⟩
  case round =>
    obtain ⟨i, bs, l, el, hi, rfl, HE, HS⟩ := hrel
    obtain ⟨ad2, cap2, rfl⟩ := own_slice (HS.own (.head _))
    by_cases hil : i < ts.length
    · obtain ⟨p, hs⟩ : ∃ p, ts[i]? = some p := ⟨_, List.getElem?_eq_getElem hil⟩
      have HLB := Lib.hid HE.out.len
      have hzb : Hid ((encB bs).size = 256) := (encB_size _).trans HE.out.len
      have hmost := HE.out.most
      obtain ⟨A, o, rfl, hA⟩ : ∃ A o, ad = some ⟨A, o, none⟩ ∧ Ass.ro A o (encE ts) ∈ L := by
        rcases HL.out with h | h
        · subst h; simp at hil
        · exact h
      have HA := Lib.hid hA
      obtain ⟨hsz, i0, i1⟩ := HOK.out p (List.mem_of_getElem? hs)
      have HV0 : Hid ((encE ts)[i * 2]? = some (.string p.1)) := encE_part hs 0 _ rfl
      have HV1 : Hid ((encE ts)[i * 2 + 1]? = some (.int .u32 p.2)) := encE_part hs 1 _ rfl
      obtain ⟨name, ino⟩ := p
      have HSZ := Lib.hid hsz
      have HM := Lib.hid (fun W => pmay_any name W HSZ.out)
      simp only at i0 i1 HV0 HV1
      clear hs hA hsz
      by_cases hln : 1000 < name.size
      · have hJ : (1000 : Int) < (name.size : Int) := by omega
        go_wp2
        (try simp only [Act.put])
        refine wp_region_quietF (by kernel_rfl) (by kernel_rfl) ?_
        repeat (first | go_big_quiet_skip | (((with_reducible apply qLoadRo1 (j := i * 2) HS); infer_instance; rfl; rfl; exact List.Mem.tail _ (List.Mem.tail _ HA.out); (first | rfl | omega | (simp; done)); exact HV0.out); (try simp only [Act.put, List.setIfInBounds_toArray, List.set_cons_zero, List.set_cons_succ])) | (((with_reducible apply qLoadRo1 (j := i * 2 + 1) HS); infer_instance; rfl; rfl; exact List.Mem.tail _ (List.Mem.tail _ HA.out); (first | rfl | omega | (simp; done)); exact HV1.out); (try simp only [Act.put, List.setIfInBounds_toArray, List.set_cons_zero, List.set_cons_succ])) | (go_big_quiet_want; go_big_quiet_op; first | go_big_quiet_on | (refine ⟨_, fun _ _ => rfl, ?_⟩; go_big_quiet_on) | (apply Exists.intro; refine ⟨fun wc hfr => ?_, ?_⟩; (· fail); go_big_quiet_on)))
        refine wpQuiet_nil ?_
        intro w1 hm1
        replace HS := HS.fresh hm1
        clear hm1
        go_wp2
        go_ret
        exact ⟨rfl, HS.below⟩
      have hJ : ¬ (1000 : Int) < (name.size : Int) := by omega
      clear hln
      go_wp2
      (try simp only [Act.put])
      refine wp_region_quietF (by kernel_rfl) (by kernel_rfl) ?_
      repeat (first | go_big_quiet_skip | (((with_reducible apply qLoadRo1 (j := i * 2) HS); infer_instance; rfl; rfl; exact List.Mem.tail _ (List.Mem.tail _ HA.out); (first | rfl | omega | (simp; done)); exact HV0.out); (try simp only [Act.put, List.setIfInBounds_toArray, List.set_cons_zero, List.set_cons_succ])) | (((with_reducible apply qLoadRo1 (j := i * 2 + 1) HS); infer_instance; rfl; rfl; exact List.Mem.tail _ (List.Mem.tail _ HA.out); (first | rfl | omega | (simp; done)); exact HV1.out); (try simp only [Act.put, List.setIfInBounds_toArray, List.set_cons_zero, List.set_cons_succ])) | (go_big_quiet_want; go_big_quiet_op; first | go_big_quiet_on | (refine ⟨_, fun _ _ => rfl, ?_⟩; go_big_quiet_on) | (apply Exists.intro; refine ⟨fun wc hfr => ?_, ?_⟩; (· fail); go_big_quiet_on)))
      refine wpQuiet_nil ?_
      intro w1 hm1
      replace HS := HS.fresh hm1
      clear hm1
      go_wp2
      go_loopw [8, 9] (fun av kv wr => ∃ (m : Nat) (a : Int), m ≤ el.length ∧ kv = .int .i64 m ∧ av = .int .i64 a ∧ Hid (AtR el name m a) ∧ St none' w wr (.own (.slice ad2 el.length cap2) 52 2 el.length (encE el) :: .blk true Bb (encB bs) 23 :: L)) (fun _ kv _ => el.length - (intOf kv).toNat)
      case atStart => exact ⟨0, -1, by omega, rfl, rfl, atr_zero _ _, HS⟩
      case round =>
        obtain ⟨m, a, hme, rfl, rfl, HT, HS⟩ := hrel
        have ha := atr_range HT.out
        by_cases hmlt : m < el.length
        · obtain ⟨q, hq⟩ : ∃ q, el[m]? = some q := ⟨_, List.getElem?_eq_getElem hmlt⟩
          obtain ⟨g, cap', e⟩ : ∃ g cap', Value.slice ad2 el.length cap2 = .slice (some ⟨g, 0, none⟩) el.length cap' := by
            obtain ⟨g, cap', h1, _⟩ := own_row (HS.own (.head _)) (by omega)
            exact ⟨g, cap', h1⟩
          obtain ⟨rfl, rfl⟩ : ad2 = some ⟨g, 0, none⟩ ∧ cap2 = cap' := by simpa using e
          have HE0 : Hid ((encE el)[m * 2]? = some (.string q.1)) := encE_part hq 0 _ rfl
          have HQ := Lib.hid hq
          have HB : Hid ((q.1 == name) = (q.1.toList == name.toList)) := beq_toListBytes q.1 name
          clear hq e
          cases hc : (q.1.toList == name.toList)
          · have HN : Hid (q.1 ≠ name) := beq_eq_false_iff_ne.1 (HB.out.trans hc)
            go_wp2_with (first | ((with_reducible apply sLoadO1 HS); infer_instance; rfl; rfl; (repeat (first | exact List.Mem.head _ | apply List.Mem.tail)); exact HE0.out))
            go_roundw
            case rel => exact ⟨m + 1, a, by omega, by go_num, rfl, atr_miss HT.out HQ.out HN.out, HS⟩
            case measure => simp [intOf]; omega
          · have HN : Hid (q.1 = name) := ba_eq.1 (HB.out.trans hc)
            go_wp2_with (first | ((with_reducible apply sLoadO1 HS); infer_instance; rfl; rfl; (repeat (first | exact List.Mem.head _ | apply List.Mem.tail)); exact HE0.out))
            go_roundw
            case rel => exact ⟨m + 1, m, by omega, by go_num, rfl, atr_hit HQ.out HN.out, HS⟩
            case measure => simp [intOf]; omega
        · obtain rfl : m = el.length := by omega
          cases hi0 : (ino == 0)
          · have hpos : 0 < ino := by have := beq_eq_false_iff_ne.1 hi0; omega
            cases hokn : okName name
            · rw [hokn] at HM
              rcases HE.out.add hpos i1 HT.out with ⟨_, hadd⟩ | ⟨hf, _⟩ | ⟨hf, _⟩
              rotate_left
              · rw [hokn] at hf; cases hf
              · rw [hokn] at hf; cases hf
              have HADD := Lib.hid hadd
              clear hadd hokn
              go_wp2_with (first | (go_at_call 15; (with_reducible refine (HM.out _).mono ?_); rintro e w' ⟨rfl, H1⟩; replace HS := HS.fresh H1; clear H1) | (go_at_call 17; (with_reducible refine (add_any bs HS.swap HLB.out name HSZ.out ino i0 i1).mono ?_); rintro e w' ⟨rfl, H2⟩; clear HS; have HS := H2.swap; clear H2; rw [HADD.out] at HS ⊢) | (go_at_call 19; (with_reducible refine (rem_any bs HS.swap HLB.out name).mono ?_); rintro e w' ⟨rfl, H2⟩; clear HS; have HS := H2.swap; clear H2; rw [HREM.out] at HS ⊢) | ((with_reducible apply sLoadB HS); infer_instance; rfl; rfl; (repeat (first | exact List.Mem.head _ | apply List.Mem.tail)); (first | exact hzb.out | exact hzn.out)) | (go_at_call 22; (first | (have HH := holds_any HS HE.out (List.Mem.head _)) | (have HH := holds_any HS HEN.out (List.Mem.head _))); (with_reducible refine HH.mono ?_); clear HH; rintro e w' ⟨rfl, H2⟩; clear HS; have HS := H2; clear H2) | (at_builtin; (have H2 := HS.alloc #[.string name, .int .u32 ino] 52); (with_reducible apply sAppend H2 Try.underlying48 infoE rfl (by decide)); (conv => (lhs; whnf)); (intro v'; (repeat (first | exact Rep.here | apply Rep.there))); rfl; rotate_left; exact H2.newsAll (.head _); rotate_right; rfl; (intro u hu; simp at hu; rcases hu with rfl | rfl <;> rfl); decide; omega; intro v1 w' H1 hnil; clear HS H2; have HS := H1.tail; clear H1 hnil; rw [encE_snoc el (name, ino)] at HS; replace HS : St none' w w' (.own v1 52 2 (el ++ [(name, ino)]).length (encE (el ++ [(name, ino)])) :: .blk true Bb (encB bs') 23 :: L) := by (rw [List.length_append]; exact HS)))
              go_roundw
              case rel => exact ⟨i + 1, bs, l, el, by omega, by go_num, HE, HS⟩
              case measure => simp [intOf]; omega
            · rw [hokn] at HM
              rcases HT.out with ⟨rfl, _⟩ | ⟨j, _, hj, rfl, _, _⟩
              · rcases HE.out.add hpos i1 HT.out with ⟨hf, _⟩ | ⟨_, h8, hadd⟩ | ⟨_, h8, bs', l', hadd, hE⟩
                · rw [hokn] at hf; cases hf
                · have HADD := Lib.hid hadd
                  have h8a : decide ((el.length : Int) < 8) = false := decide_eq_false (by omega)
                  have h8b : ((el.length : Int) == 8) = true := by rw [beq_iff_eq]; omega
                  clear hadd hokn h8
                  go_wp2_with (first | (go_at_call 15; (with_reducible refine (HM.out _).mono ?_); rintro e w' ⟨rfl, H1⟩; replace HS := HS.fresh H1; clear H1) | (go_at_call 17; (with_reducible refine (add_any bs HS.swap HLB.out name HSZ.out ino i0 i1).mono ?_); rintro e w' ⟨rfl, H2⟩; clear HS; have HS := H2.swap; clear H2; rw [HADD.out] at HS ⊢) | (go_at_call 19; (with_reducible refine (rem_any bs HS.swap HLB.out name).mono ?_); rintro e w' ⟨rfl, H2⟩; clear HS; have HS := H2.swap; clear H2; rw [HREM.out] at HS ⊢) | ((with_reducible apply sLoadB HS); infer_instance; rfl; rfl; (repeat (first | exact List.Mem.head _ | apply List.Mem.tail)); (first | exact hzb.out | exact hzn.out)) | (go_at_call 22; (first | (have HH := holds_any HS HE.out (List.Mem.head _)) | (have HH := holds_any HS HEN.out (List.Mem.head _))); (with_reducible refine HH.mono ?_); clear HH; rintro e w' ⟨rfl, H2⟩; clear HS; have HS := H2; clear H2) | (at_builtin; (have H2 := HS.alloc #[.string name, .int .u32 ino] 52); (with_reducible apply sAppend H2 Try.underlying48 infoE rfl (by decide)); (conv => (lhs; whnf)); (intro v'; (repeat (first | exact Rep.here | apply Rep.there))); rfl; rotate_left; exact H2.newsAll (.head _); rotate_right; rfl; (intro u hu; simp at hu; rcases hu with rfl | rfl <;> rfl); decide; omega; intro v1 w' H1 hnil; clear HS H2; have HS := H1.tail; clear H1 hnil; rw [encE_snoc el (name, ino)] at HS; replace HS : St none' w w' (.own v1 52 2 (el ++ [(name, ino)]).length (encE (el ++ [(name, ino)])) :: .blk true Bb (encB bs') 23 :: L) := by (rw [List.length_append]; exact HS)))
                  go_roundw
                  case rel => exact ⟨i + 1, bs, l, el, by omega, by go_num, HE, HS⟩
                  case measure => simp [intOf]; omega
                · have HADD := Lib.hid hadd
                  have HEN := Lib.hid hE
                  have hzn : Hid ((encB bs').size = 256) := (encB_size _).trans hE.len
                  have h8a : decide ((el.length : Int) < 8) = true := decide_eq_true (by omega)
                  have h8b : ((el.length : Int) == 8) = false := by rw [beq_eq_false_iff_ne]; omega
                  clear hadd hokn hE h8
                  go_wp2_with (first | (go_at_call 15; (with_reducible refine (HM.out _).mono ?_); rintro e w' ⟨rfl, H1⟩; replace HS := HS.fresh H1; clear H1) | (go_at_call 17; (with_reducible refine (add_any bs HS.swap HLB.out name HSZ.out ino i0 i1).mono ?_); rintro e w' ⟨rfl, H2⟩; clear HS; have HS := H2.swap; clear H2; rw [HADD.out] at HS ⊢) | (go_at_call 19; (with_reducible refine (rem_any bs HS.swap HLB.out name).mono ?_); rintro e w' ⟨rfl, H2⟩; clear HS; have HS := H2.swap; clear H2; rw [HREM.out] at HS ⊢) | ((with_reducible apply sLoadB HS); infer_instance; rfl; rfl; (repeat (first | exact List.Mem.head _ | apply List.Mem.tail)); (first | exact hzb.out | exact hzn.out)) | (go_at_call 22; (first | (have HH := holds_any HS HE.out (List.Mem.head _)) | (have HH := holds_any HS HEN.out (List.Mem.head _))); (with_reducible refine HH.mono ?_); clear HH; rintro e w' ⟨rfl, H2⟩; clear HS; have HS := H2; clear H2) | (at_builtin; (have H2 := HS.alloc #[.string name, .int .u32 ino] 52); (with_reducible apply sAppend H2 Try.underlying48 infoE rfl (by decide)); (conv => (lhs; whnf)); (intro v'; (repeat (first | exact Rep.here | apply Rep.there))); rfl; rotate_left; exact H2.newsAll (.head _); rotate_right; rfl; (intro u hu; simp at hu; rcases hu with rfl | rfl <;> rfl); decide; omega; intro v1 w' H1 hnil; clear HS H2; have HS := H1.tail; clear H1 hnil; rw [encE_snoc el (name, ino)] at HS; replace HS : St none' w w' (.own v1 52 2 (el ++ [(name, ino)]).length (encE (el ++ [(name, ino)])) :: .blk true Bb (encB bs') 23 :: L) := by (rw [List.length_append]; exact HS)))
                  go_wp2_with (first | ((with_reducible apply sLoadB HS); infer_instance; rfl; rfl; (repeat (first | exact List.Mem.head _ | apply List.Mem.tail)); (first | exact hzb.out | exact hzn.out)) | (go_at_call 22; (first | (have HH := holds_any HS HE.out (List.Mem.head _)) | (have HH := holds_any HS HEN.out (List.Mem.head _))); (with_reducible refine HH.mono ?_); clear HH; rintro e w' ⟨rfl, H2⟩; clear HS; have HS := H2; clear H2))
                  go_roundw
                  case rel => exact ⟨i + 1, bs', l', el ++ [(name, ino)], by omega, by go_num, HEN, HS⟩
                  case measure => simp [intOf]; omega
              · rcases HE.out.add hpos i1 HT.out with ⟨_, hadd⟩ | ⟨hf, _⟩ | ⟨hf, _⟩
                rotate_left
                · rw [hokn, decide_eq_false (by omega)] at hf; cases hf
                · rw [hokn, decide_eq_false (by omega)] at hf; cases hf
                have HADD := Lib.hid hadd
                have hj0 : decide ((j : Int) < 0) = false := decide_eq_false (by omega)
                clear hadd hokn
                go_wp2_with (first | (go_at_call 15; (with_reducible refine (HM.out _).mono ?_); rintro e w' ⟨rfl, H1⟩; replace HS := HS.fresh H1; clear H1) | (go_at_call 17; (with_reducible refine (add_any bs HS.swap HLB.out name HSZ.out ino i0 i1).mono ?_); rintro e w' ⟨rfl, H2⟩; clear HS; have HS := H2.swap; clear H2; rw [HADD.out] at HS ⊢) | (go_at_call 19; (with_reducible refine (rem_any bs HS.swap HLB.out name).mono ?_); rintro e w' ⟨rfl, H2⟩; clear HS; have HS := H2.swap; clear H2; rw [HREM.out] at HS ⊢) | ((with_reducible apply sLoadB HS); infer_instance; rfl; rfl; (repeat (first | exact List.Mem.head _ | apply List.Mem.tail)); (first | exact hzb.out | exact hzn.out)) | (go_at_call 22; (first | (have HH := holds_any HS HE.out (List.Mem.head _)) | (have HH := holds_any HS HEN.out (List.Mem.head _))); (with_reducible refine HH.mono ?_); clear HH; rintro e w' ⟨rfl, H2⟩; clear HS; have HS := H2; clear H2) | (at_builtin; (have H2 := HS.alloc #[.string name, .int .u32 ino] 52); (with_reducible apply sAppend H2 Try.underlying48 infoE rfl (by decide)); (conv => (lhs; whnf)); (intro v'; (repeat (first | exact Rep.here | apply Rep.there))); rfl; rotate_left; exact H2.newsAll (.head _); rotate_right; rfl; (intro u hu; simp at hu; rcases hu with rfl | rfl <;> rfl); decide; omega; intro v1 w' H1 hnil; clear HS H2; have HS := H1.tail; clear H1 hnil; rw [encE_snoc el (name, ino)] at HS; replace HS : St none' w w' (.own v1 52 2 (el ++ [(name, ino)]).length (encE (el ++ [(name, ino)])) :: .blk true Bb (encB bs') 23 :: L) := by (rw [List.length_append]; exact HS)))
                go_roundw
                case rel => exact ⟨i + 1, bs, l, el, by omega, by go_num, HE, HS⟩
                case measure => simp [intOf]; omega
          · rcases HE.out.rem HT.out with ⟨rfl, hrem⟩ | ⟨j, bs', l', hj, rfl, hrem, hE⟩
            · have HREM := Lib.hid hrem
              clear hrem
              go_wp2_with (first | (go_at_call 15; (with_reducible refine (HM.out _).mono ?_); rintro e w' ⟨rfl, H1⟩; replace HS := HS.fresh H1; clear H1) | (go_at_call 17; (with_reducible refine (add_any bs HS.swap HLB.out name HSZ.out ino i0 i1).mono ?_); rintro e w' ⟨rfl, H2⟩; clear HS; have HS := H2.swap; clear H2; rw [HADD.out] at HS ⊢) | (go_at_call 19; (with_reducible refine (rem_any bs HS.swap HLB.out name).mono ?_); rintro e w' ⟨rfl, H2⟩; clear HS; have HS := H2.swap; clear H2; rw [HREM.out] at HS ⊢) | ((with_reducible apply sLoadB HS); infer_instance; rfl; rfl; (repeat (first | exact List.Mem.head _ | apply List.Mem.tail)); (first | exact hzb.out | exact hzn.out)) | (go_at_call 22; (first | (have HH := holds_any HS HE.out (List.Mem.head _)) | (have HH := holds_any HS HEN.out (List.Mem.head _))); (with_reducible refine HH.mono ?_); clear HH; rintro e w' ⟨rfl, H2⟩; clear HS; have HS := H2; clear H2) | (at_builtin; (have H2 := HS.alloc #[.string name, .int .u32 ino] 52); (with_reducible apply sAppend H2 Try.underlying48 infoE rfl (by decide)); (conv => (lhs; whnf)); (intro v'; (repeat (first | exact Rep.here | apply Rep.there))); rfl; rotate_left; exact H2.newsAll (.head _); rotate_right; rfl; (intro u hu; simp at hu; rcases hu with rfl | rfl <;> rfl); decide; omega; intro v1 w' H1 hnil; clear HS H2; have HS := H1.tail; clear H1 hnil; rw [encE_snoc el (name, ino)] at HS; replace HS : St none' w w' (.own v1 52 2 (el ++ [(name, ino)]).length (encE (el ++ [(name, ino)])) :: .blk true Bb (encB bs') 23 :: L) := by (rw [List.length_append]; exact HS)))
              go_roundw
              case rel => exact ⟨i + 1, bs, l, el, by omega, by go_num, HE, HS⟩
              case measure => simp [intOf]; omega
            · have HREM := Lib.hid hrem
              have HEN := Lib.hid hE
              have hzn : Hid ((encB bs').size = 256) := (encB_size _).trans hE.len
              have hj0 : decide ((0 : Int) ≤ (j : Int)) = true := decide_eq_true (by omega)
              obtain ⟨g, cap', e⟩ : ∃ g cap', Value.slice ad2 el.length cap2 = .slice (some ⟨g, 0, none⟩) el.length cap' ∧ el.length ≤ cap' ∧ cap' ≤ maxLen := by
                obtain ⟨g, cap', h1, h2, h3⟩ := own_row (HS.own (.head _)) (by omega)
                exact ⟨g, cap', h1, h2, h3⟩
              obtain ⟨e, hc1, hc2⟩ := e
              obtain ⟨rfl, rfl⟩ : ad2 = some ⟨g, 0, none⟩ ∧ cap2 = cap' := by simpa using e
              have HLT : Hid ((encE (el.take j)).length = j * 2) := by show _ = _; rw [encE_len, List.length_take, Nat.min_eq_left (by omega)]
              have HLD : Hid ((encE (el.drop (j + 1))).length = (el.length - (j + 1)) * 2) := by show _ = _; rw [encE_len, List.length_drop]
              unfold maxLen at hc2
              clear hrem hE e
              go_wp2_with (first | (go_at_call 15; (with_reducible refine (HM.out _).mono ?_); rintro e w' ⟨rfl, H1⟩; replace HS := HS.fresh H1; clear H1) | (go_at_call 17; (with_reducible refine (add_any bs HS.swap HLB.out name HSZ.out ino i0 i1).mono ?_); rintro e w' ⟨rfl, H2⟩; clear HS; have HS := H2.swap; clear H2; rw [HADD.out] at HS ⊢) | (go_at_call 19; (with_reducible refine (rem_any bs HS.swap HLB.out name).mono ?_); rintro e w' ⟨rfl, H2⟩; clear HS; have HS := H2.swap; clear H2; rw [HREM.out] at HS ⊢) | ((with_reducible apply sLoadB HS); infer_instance; rfl; rfl; (repeat (first | exact List.Mem.head _ | apply List.Mem.tail)); (first | exact hzb.out | exact hzn.out)) | (go_at_call 22; (first | (have HH := holds_any HS HE.out (List.Mem.head _)) | (have HH := holds_any HS HEN.out (List.Mem.head _))); (with_reducible refine HH.mono ?_); clear HH; rintro e w' ⟨rfl, H2⟩; clear HS; have HS := H2; clear H2) | (at_builtin; (have H2 := HS.alloc #[.string name, .int .u32 ino] 52); (with_reducible apply sAppend H2 Try.underlying48 infoE rfl (by decide)); (conv => (lhs; whnf)); (intro v'; (repeat (first | exact Rep.here | apply Rep.there))); rfl; rotate_left; exact H2.newsAll (.head _); rotate_right; rfl; (intro u hu; simp at hu; rcases hu with rfl | rfl <;> rfl); decide; omega; intro v1 w' H1 hnil; clear HS H2; have HS := H1.tail; clear H1 hnil; rw [encE_snoc el (name, ino)] at HS; replace HS : St none' w w' (.own v1 52 2 (el ++ [(name, ino)]).length (encE (el ++ [(name, ino)])) :: .blk true Bb (encB bs') 23 :: L) := by (rw [List.length_append]; exact HS)))
              (try simp only [Act.put])
              refine wp_region_sch (.q 1 (.q 2 (.q 3 (.q 5 (.q 6 (.q 7 (.q 8 (.e 0 (.e 4 (.e 9 (.e 10 (.nil)))))))))))) (Hd []) (by kernel_rfl) (by kernel_rfl) (fun _ _ d _ _ h => by cases d <;> exact h) ?_
              intro w1 hm1
              replace HS := HS.fresh hm1
              clear hm1
              refine ⟨HS.hd (by (repeat (first | exact subNil | (refine subCons ?_ ?_; (repeat (first | exact List.Mem.head _ | apply List.Mem.tail)))))), ?_⟩
              repeat (first | ((with_reducible apply wpSch_nilCheck); (simp only [List.getElem?_toArray, List.getElem?_cons_zero, List.getElem?_cons_succ]; rfl); rfl; rfl; (try simp only [Act.put, List.setIfInBounds_toArray, List.set_cons_zero, List.set_cons_succ])) | ((with_reducible apply wpSch_plain); (simp only [List.getElem?_toArray, List.getElem?_cons_zero, List.getElem?_cons_succ]; rfl); rfl; rfl; (intro K hK; go_big_quiet_op; go_big_quiet_on)) | ((with_reducible apply wpSch_skip); (simp only [List.getElem?_toArray, List.getElem?_cons_zero, List.getElem?_cons_succ]; rfl); rfl; (try simp only [Act.put, List.setIfInBounds_toArray, List.set_cons_zero, List.set_cons_succ])))
              with_reducible apply wpSch_e_k
              (simp only [List.getElem?_toArray, List.getElem?_cons_zero]; rfl)
              intro K HK
              ((with_reducible apply sEmpty HS Try.underlying48 infoE1); rfl; intro Be w' H1; clear HS; have HS := H1; clear H1)
              (try simp only [Act.put, List.setIfInBounds_toArray, List.set_cons_zero, List.set_cons_succ])
              refine wpList_nil (then_normal (HK.out _ _ ⟨.inr (HS.hd (by (repeat (first | exact subNil | (refine subCons ?_ ?_; (repeat (first | exact List.Mem.head _ | apply List.Mem.tail))))))), ?_⟩))
              clear HK K
              with_reducible apply wpSch_e_k
              (simp only [List.getElem?_toArray, List.getElem?_cons_zero, List.getElem?_cons_succ]; rfl)
              intro K HK
              ((with_reducible apply sAppend HS Try.underlying48 infoE rfl (by decide)); (conv => (lhs; whnf)); (intro v'; (repeat (first | exact Rep.here | apply Rep.there))); rfl; rotate_left; exact news_takeE (HS.ownRange (List.Mem.tail _ (List.Mem.head _))) j; rotate_right; exact HLT.out; exact encE_one _; decide; omega; intro v1 w' H1 hnil; clear HS; have HS := H1; clear H1)
              (try simp only [Act.put, List.setIfInBounds_toArray, List.set_cons_zero, List.set_cons_succ])
              refine wpList_nil (then_normal (HK.out _ _ ⟨.inr (HS.hd (by (repeat (first | exact subNil | (refine subCons ?_ ?_; (repeat (first | exact List.Mem.head _ | apply List.Mem.tail))))))), ?_⟩))
              clear HK K
              with_reducible apply wpSch_e_k
              (simp only [List.getElem?_toArray, List.getElem?_cons_zero, List.getElem?_cons_succ]; rfl)
              intro K HK
              ((with_reducible apply sAppend HS Try.underlying48 infoE rfl (by decide)); (conv => (lhs; whnf)); (intro v'; (repeat (first | exact Rep.here | apply Rep.there))); exact (Eq.trans (b := Value.slice (if cap2 = j + 1 then some ⟨g, 0, none⟩ else some ⟨g, (j + 1) * 2, none⟩) (el.length - (j + 1)) (cap2 - (j + 1))) rfl (slice_ite _ _ _ _)); rotate_left; exact news_dropI (HS.ownRange (List.Mem.tail _ (List.Mem.head _))) hc1 (j + 1); rotate_right; exact HLD.out; exact encE_one _; decide; omega; intro v2 w' H1 hnil; clear HS; have HS := H1; clear H1)
              (try simp only [Act.put, List.setIfInBounds_toArray, List.set_cons_zero, List.set_cons_succ])
              refine wpList_nil (then_normal (HK.out _ _ ⟨.inr (HS.hd (by (repeat (first | exact subNil | (refine subCons ?_ ?_; (repeat (first | exact List.Mem.head _ | apply List.Mem.tail))))))), ?_⟩))
              clear HK K
              with_reducible apply wpSch_e_k
              (simp only [List.getElem?_toArray, List.getElem?_cons_zero, List.getElem?_cons_succ]; rfl)
              intro K HK
              go_wp2_with (fail)
              all_goals
                refine HK.out _ _ ⟨.inl rfl, ?_⟩
                clear HK K
                refine wpSch_nil ?_
                have hel : [] ++ encE (el.take j) ++ encE (el.drop (j + 1)) = encE (el.take j ++ el.drop (j + 1)) := by simp [encE]
                have hlen : 0 + j + (el.length - (j + 1)) = (el.take j ++ el.drop (j + 1)).length := by rw [List.length_append, List.length_take, List.length_drop]; omega
                replace HS := HS.sub (List.Sublist.cons_cons _ (List.Sublist.cons _ (List.Sublist.refl _)))
                rw [hlen, hel] at HS
                clear hel hlen
                go_wp2_with (first | ((with_reducible apply sLoadB HS); infer_instance; rfl; rfl; (repeat (first | exact List.Mem.head _ | apply List.Mem.tail)); (first | exact hzb.out | exact hzn.out)) | (go_at_call 22; (first | (have HH := holds_any HS HE.out (List.Mem.head _)) | (have HH := holds_any HS HEN.out (List.Mem.head _))); (with_reducible refine HH.mono ?_); clear HH; rintro e w' ⟨rfl, H2⟩; clear HS; have HS := H2; clear H2))
                go_roundw
                case rel => exact ⟨i + 1, bs', l', el.take j ++ el.drop (j + 1), by omega, by go_num, HEN, HS⟩
                case measure => simp [intOf]; omega
    · obtain rfl : i = ts.length := by omega
      go_wp2
      go_ret
      exact ⟨rfl, HS.below⟩

set_option maxRecDepth 100000 in
theorem lifted (os : Os) (started : os.Started) (H : Type) (enc : TypeId × Value → H) :
    ReturnsInHanded {} Try.checked os 5 .any (Rows.slotsPlaySpec.pre6 enc Try.prog Try.f5 Rows.slotsPlayRow.domain false) (Rows.slotsPlaySpec.post enc Try.prog Try.f5 false true false false) := by
  refine law_lift (C := Try.checked) own started (by kernel_rfl) Try.func5 laidOut rfl Try.underlying4 rfl ?hs (by kernel_rfl)
    (ChangeSpec.witness6 (enc := enc) (C := Try.checked) false ⟨#[], #[.slice none 0 0], []⟩ 8 (by kernel_rfl) (by kernel_rfl) (by kernel_rfl) (by kernel_rfl)) ?hwalk
  case hs =>
    intro ds h
    match ds, h with
    | [d0], _ => rfl
  case hwalk =>
    intro W args hn ha
    obtain ⟨l⟩ := args
    match l, hn with
    | [v0], _ =>
      obtain ⟨ad, cap, l, rfl, hm, hok, hl⟩ := turns_arg (ha 0 _ _ rfl rfl)
      obtain ⟨L', HS, _, hl'⟩ := (St.nil none' W).arg (by simp) hl
      exact walk ad cap l W _ HS hm hok (hl'.imp id (fun ⟨A, o, h1, h2⟩ => ⟨A, o, h1, List.mem_append_left _ h2⟩))

theorem over : Rows.slotsPlayRow.holds Try.pinned (OpenSpec.ofChange Rows.slotsPlaySpec) :=
  OpenClaim.holds_of_wide 5 Try.f5 rfl rfl rfl rfl rfl rfl rfl ⟨rfl, rfl, rfl, rfl, rfl⟩ rfl rfl rfl rfl rfl (by kernel_rfl) Try.func5 (by kernel_rfl)
    (of_decide_eq_true (by kernel_rfl)) (by unfold Func.isWrapper; first | (rw [if_pos (by decide +kernel)]; kernel_rfl) | (rw [if_neg (by decide +kernel)]; exact ⟨rfl, rfl⟩))
    (fun os started H enc _ => lifted os started H enc)

theorem proved : Rows.SlotsPlaySaid := over
#print axioms proved
end Go.Proofs.Ytdpbdmbgdcdmaaa.slotsPlay
