/- A path is split: the program's way. -/
import Derived.Test.YtaponmniedjkiaaEach
import Derived.RangeFuncBox
namespace Go.Proofs.Ytaponmniedjkiaa
open Go Go.RowKit Go.Shelf
attribute [local go_sem] Oper.semAt_some

instance : Plain Try.prog 4 := plain_mk Try.underlying4 rfl (by kernel_rfl)
instance : Plain Try.prog 3 := plain_mk Try.underlying3 rfl (by kernel_rfl)
instance : Plain Try.prog 9 := plain_mk Try.underlying9 rfl (by kernel_rfl)
instance : Plain Try.prog 22 := plain_mk Try.underlying22 rfl (by kernel_rfl)
instance : Plain Try.prog 23 := plain_mk Try.underlying23 rfl (by kernel_rfl)
instance : Zero0 Try.prog 22 (.slice none 0 0) := ⟨by kernel_rfl⟩
instance : Zero0 Try.prog 23 (.int .i64 0) := ⟨by kernel_rfl⟩
theorem infoS : (Try.prog.info? 9).map (fun i => (i.zero, i.size, i.bytes)) = some (some (.string ByteArray.empty), 1, 16) := by kernel_rfl

/-- A result that lies in a cell of its own. -/
theorem resCell1 {P : Program} {T : TypeId} [Plain P T] {w : World} {tmps : Array Value} {p : Tmp} {B : Nat} {v : Value} (hp : tmps.getD p undef = .pointer (some ⟨B, 0, none⟩)) (hc : w.cell? ⟨B, 0, none⟩ = some v) : (resRun tmps (.cell p T)).run P w = .ok v w := by
  have h1 := run_load1 (P := P) (T := T) w ⟨B, 0, none⟩ v hc
  simp only [Instr.loadAt, Instr.sureAddr, Sem.run_bind, Sem.run_pure, Result.andThen_ok] at h1
  have hp' : asAddr (tmps.getD p undef) = pure ⟨B, 0, none⟩ := by rw [hp]; rfl
  show (Sem.bind _ _).run P w = _
  rw [hp']
  exact h1
theorem St.cell0 {S : Nat → Prop} {w0 w : World} {L : List Ass} (hS : St S w0 w L) {rw : Bool} {B : Nat} {v : Value} {t : TypeId} (hm : Ass.blk rw B #[v] t ∈ L) : w.cell? ⟨B, 0, none⟩ = some v := (hS.cell hm 0).trans rfl

def encS (l : List (List UInt8)) : List Value := l.map fun x => .string (mkB x)
theorem encS_len (l : List (List UInt8)) : (encS l).length = l.length := by unfold encS; rw [List.length_map]
theorem encS_get {l : List (List UInt8)} {i : Nat} {x : List UInt8} (h : l[i]? = some x) : (encS l)[i]? = some (.string (mkB x)) := by unfold encS; rw [List.getElem?_map, h]; rfl
theorem encS_one (l : List (List UInt8)) : ∀ v ∈ encS l, v.oneCell' = true := by
  intro v hv
  obtain ⟨x, _, rfl⟩ := List.mem_map.1 hv
  rfl
theorem encS_snoc (l : List (List UInt8)) (x : List UInt8) : encS l ++ [.string (mkB x)] = encS (l ++ [x]) := by unfold encS; rw [List.map_append]; rfl

/-- What an own slice holds that lies beyond what was there. -/
theorem St.newOwn {S : Nat → Prop} {w0 w w' : World} {L : List Ass} (h : St S w0 w L) (hm : Mod none' w w') {e : TypeId} {sz n : Nat} {v : Value} {xs : List Value} (ho : w'.ownsRow w.heap.size e sz v n xs) : St S w0 w' (.own v e sz n xs :: L) := by
  refine h.new hm ⟨ho.1, ho.2.imp id ?_⟩ (fun k hk => (World.ownsRow.lt ho k hk).1)
  rintro ⟨g, cap, cur, hv, _, hg, hr⟩
  exact ⟨g, cap, cur, hv, Nat.zero_le _, hg, hr⟩

theorem Mod.owns {X Y : World} (h : Mod none' X Y) {base : Nat} {e : TypeId} {size : Nat} {v : Value} {n : Nat} {xs : List Value} (ho : X.ownsRow base e size v n xs) : Y.ownsRow base e size v n xs := by
  refine ⟨ho.1, ho.2.imp id ?_⟩
  rintro ⟨g, cap, cur, hv, hb, hg, hr⟩
  exact ⟨g, cap, cur, hv, hb, h.row hg (fun e => e), hr⟩
theorem wp_gen {P : Program} {c : Code} {Q : Exit → Act → World → Prop} {a : Act} {w : World} (Fx : World → Prop) (hf : Fx w) (h : ∀ W, Fx W → c.wp P Q a W) : c.wp P Q a w := h _ hf
theorem leaves_none {P : Program} {fn : Func} {R : Ending → World → Prop} {a : Act} {W : World} {v : Value} (hd : a.defers = []) (hr : (results fn a.tmps).run P W = .ok v W) (hR : R (.returned v) W) :
    bodyPostM Fence.wide 3 P fn R .ret a W := by
  show LeavesInM Fence.wide 3 P fn a.tmps R a.defers .returning W
  rw [hd]
  exact ⟨_, hr, hR⟩
/-- A box's slice grows, by what lies in a new block. -/
theorem box_app {W w1 : World} {n B : Nat} {t e : TypeId} {size : Nat} {v v' : Value} {k m : Nat} {xs ys : List Value} {tmp : Obj} (hv : Boxed W B t v) (hBn : B < n) (hn : n ≤ W.heap.size)
    (hrow : W.ownsRow n e size v k xs) (hown' : w1.ownsRow n e size v' m ys) (hgrow : (W.alloc tmp).grownBy w1 v.ownBlock) :
    Boxed w1 B t v ∧ Boxed (w1.setCell ⟨B, 0, none⟩ v') B t v' ∧ (w1.setCell ⟨B, 0, none⟩ v').ownsRow n e size v' m ys ∧ KeepsOthers W (w1.setCell ⟨B, 0, none⟩ v') ∧ Mod (fun i => i = B ∨ n ≤ i) W (w1.setCell ⟨B, 0, none⟩ v') := by
  have hne : some B ≠ v.ownBlock := fun e' => by have := World.ownsRow.lt hrow B e'.symm; omega
  have hne' : some B ≠ v'.ownBlock := fun e' => by have := World.ownsRow.lt hown' B e'.symm; omega
  have hv1 : Boxed w1 B t v := (hv.alloc tmp).kept hgrow hne
  refine ⟨hv1, hv1.set v', hown'.kept (grownBy_setCell' w1 B v') (.inr hne'.symm), ?_, ?_⟩
  · refine ((KeepsOthers.alloc W tmp).trans (KeepsOthers.of_grownBy hgrow fun j o ej hj => ?_)).trans (KeepsOthers.setCell _ _ _)
    rcases (hrow.alloc tmp).2 with ⟨rfl, _⟩ | ⟨g, cap, cur, rfl, _, hgb, _⟩
    · simp [Value.ownBlock] at ej
    · obtain rfl : g = j := by simpa [Value.ownBlock] using ej
      rw [hgb] at hj; cases hj; rfl
  · have hb : Below n W w1 := ((Below.refl n W).alloc hn tmp).grown hgrow (by simp; omega) fun j ej => (World.ownsRow.lt hrow j ej).1
    have h1 : Mod (fun i => i = B ∨ n ≤ i) W w1 := (Mod.of_below hb).mono fun _ _ h => .inr h
    exact h1.setCell (.inl (.inl rfl)) v'

set_option maxRecDepth 100000 in
set_option maxHeartbeats 2000000 in
theorem split_any {S : Nat → Prop} {w0 w : World} {L : List Ass} (HS0 : St S w0 w L) (s : ByteArray) (hs : s.size ≤ 1000000) :
    Calls Try.prog 14 #[.string s] w fun e w' => ∃ v, e = .returned (.tuple #[v, .int .i64 (splitN s.data.toList).1]) ∧ St S w0 w' (.own v 9 1 (splitN s.data.toList).2.length (encS (splitN s.data.toList).2) :: L) := by
  have hsz := Lib.size_eq s
  obtain ⟨p, hp⟩ : ∃ p, splitN s.data.toList = p := ⟨_, rfl⟩
  rw [hp]
  have HS := St.nil none' w
  have hend : ∀ (v : Value) (w' : World), w'.ownsRow w.heap.size 9 1 v p.2.length (encS p.2) → Mod none' w w' → ∃ v', Ending.returned (.tuple #[v, .int .i64 p.1]) = .returned (.tuple #[v', .int .i64 p.1]) ∧ St S w0 w' (.own v' 9 1 p.2.length (encS p.2) :: L) :=
    fun v w' ho hm => ⟨v, rfl, HS0.newOwn hm ho⟩
  have HE := Lib.hid hend
  clear hend HS0
  by_cases hlong : 512 < s.size
  · have hpe : p = (3, []) := by rw [← hp]; exact if_pos (by rw [← hsz]; exact hlong)
    subst hpe
    have e0 : decide ((512 : Int) < (s.size : Int)) = true := decide_eq_true (by omega)
    clear hp hsz
    go_enter Try.func14, Try.ntmps14
    go_wp2_with (first | ((with_reducible apply sAlloc HS); infer_instance; (first | exact cells_agg _ | exact cells_one rfl); rfl; intro Bx w' H1; clear HS; have HS := H1; clear H1) | ((with_reducible apply sStore1 HS); infer_instance; rfl; rfl; (conv => (lhs; whnf)); (repeat (first | exact Rep.here | apply Rep.there)); exact of_decide_eq_true rfl; (first | rfl | exact HS.ownOne (by (repeat (first | exact List.Mem.head _ | apply List.Mem.tail)))); intro w' H1; clear HS; have HS := H1; clear H1; simp only [List.setIfInBounds_toArray, List.set_cons_zero] at HS))
    refine bodyPost_ret (res2 rfl (resCell1 rfl (HS.cell0 (by (repeat (first | exact List.Mem.head _ | apply List.Mem.tail))))) (resCell1 rfl (HS.cell0 (by (repeat (first | exact List.Mem.head _ | apply List.Mem.tail)))))) rfl ?_
    exact HE.out _ _ (World.ownsRow_nil _ _ _ _) HS.mod
  · have e0 : decide ((512 : Int) < (s.size : Int)) = false := decide_eq_false (by omega)
    by_cases hhead : s.data.toList.head? = some 47
    rotate_left
    · have hpe : p = (290, []) := by rw [← hp]; unfold splitN; rw [if_neg (by rw [← hsz]; omega), if_pos hhead]
      subst hpe
      have hpf : Lib.hasPrefix s.data.toList [47] = false := by
        cases h : s.data.toList with
        | nil => rfl
        | cons b r =>
          rw [h] at hhead
          simp at hhead
          simp [Lib.hasPrefix, List.isPrefixOf]
          exact fun e => hhead e.symm
      have HF : Hid (∀ W, Calls Try.prog 21 #[.string s, .string ⟨#[47]⟩] W fun e w' => e = .returned (.bool false) ∧ w' = W) := fun W => by
        have := Try.strings_HasPrefix s ⟨#[47]⟩ W
        rwa [show Lib.hasPrefix s.data.toList (⟨#[47]⟩ : ByteArray).data.toList = false from hpf] at this
      clear hp hsz hpf
      go_enter Try.func14, Try.ntmps14
      go_wp2_with (first | ((with_reducible apply sAlloc HS); infer_instance; (first | exact cells_agg _ | exact cells_one rfl); rfl; intro Bx w' H1; clear HS; have HS := H1; clear H1) | ((with_reducible apply sStore1 HS); infer_instance; rfl; rfl; (conv => (lhs; whnf)); (repeat (first | exact Rep.here | apply Rep.there)); exact of_decide_eq_true rfl; (first | rfl | exact HS.ownOne (by (repeat (first | exact List.Mem.head _ | apply List.Mem.tail)))); intro w' H1; clear HS; have HS := H1; clear H1; simp only [List.setIfInBounds_toArray, List.set_cons_zero] at HS) | (go_at_call 21; (with_reducible refine (HF.out _).mono ?_); rintro e w' ⟨rfl, rfl⟩))
      refine bodyPost_ret (res2 rfl (resCell1 rfl (HS.cell0 (by (repeat (first | exact List.Mem.head _ | apply List.Mem.tail))))) (resCell1 rfl (HS.cell0 (by (repeat (first | exact List.Mem.head _ | apply List.Mem.tail)))))) rfl ?_
      exact HE.out _ _ (World.ownsRow_nil _ _ _ _) HS.mod
    · have hpf : Lib.hasPrefix s.data.toList [47] = true := by
        cases h : s.data.toList with
        | nil => rw [h] at hhead; cases hhead
        | cons b r =>
          rw [h] at hhead
          simp at hhead
          subst hhead
          simp [Lib.hasPrefix, List.isPrefixOf]
      have HF : Hid (∀ W, Calls Try.prog 21 #[.string s, .string ⟨#[47]⟩] W fun e w' => e = .returned (.bool true) ∧ w' = W) := fun W => by
        have := Try.strings_HasPrefix s ⟨#[47]⟩ W
        rwa [show Lib.hasPrefix s.data.toList (⟨#[47]⟩ : ByteArray).data.toList = true from hpf] at this
      have hpe : p = if (rowP s.data.toList).all okN = false then (290, []) else if 16 < (rowP s.data.toList).length then (4, []) else (0, rowP s.data.toList) := by
        rw [← hp]; unfold splitN; rw [if_neg (by rw [← hsz]; omega), if_neg (by simpa using hhead)]
      have HPE := Lib.hid hpe
      have hNs : (rowP s.data.toList).length ≤ 1000000 := Nat.le_trans (rowP_len _) (by rw [← hsz]; exact hs)
      have hEl : ∀ x ∈ rowP s.data.toList, x.length ≤ 1000000 := fun x hx => by
        have := rowP_mem_len hx
        rw [← hsz] at this; omega
      have HEL := Lib.hid hEl
      have hit := each_iter (w.heap.size + 3) s hs
      have HIT := Lib.hid hit
      obtain ⟨l, hl⟩ : ∃ l, rowP s.data.toList = l := ⟨_, rfl⟩
      clear hp hsz hpf hpe hhead hEl hit
      refine calls_marks Try.func14 rfl ?_
      simp only [Try.ntmps14, List.size_toArray, List.length_cons, List.length_nil, Nat.reduceAdd, Nat.reduceSub, Array.replicate_succ, Array.replicate_zero, List.push_toArray, List.append_toArray, List.nil_append, List.cons_append]
      go_wp2_with (first | (go_at_call 21; (with_reducible refine (HF.out _).mono ?_); rintro e w' ⟨rfl, rfl⟩) | (go_at_call 22; refine (each_any _ _).mono ?_; rintro e w' ⟨rfl, rfl⟩))
      refine wp_gen (fun W => Boxed W w.heap.size 22 (.slice none 0 0) ∧ Boxed W (w.heap.size + 1) 23 (.int .i64 0) ∧ Boxed W (w.heap.size + 2) 22 (.slice none 0 0) ∧ Boxed W (w.heap.size + 3) 9 (.string s) ∧ W.heap.size = w.heap.size + 4 ∧ Below w.heap.size w W) ?_ ?_
      · refine ⟨?_, ?_, ?_, ?_, by simp, ?_⟩
        · exact (((Boxed.new _ _ _).alloc _).alloc _).alloc _
        · have := (((Boxed.new (w.alloc (.cells #[.slice none 0 0] 22)) 23 (.int .i64 0)).alloc (.cells #[.slice none 0 0] 22)).alloc (.cells #[.string s] 9))
          rwa [World.size_alloc] at this
        · have := (Boxed.new ((w.alloc (.cells #[.slice none 0 0] 22)).alloc (.cells #[.int .i64 0] 23)) 22 (.slice none 0 0)).alloc (.cells #[.string s] 9)
          rwa [World.size_alloc, World.size_alloc] at this
        · have := Boxed.new (((w.alloc (.cells #[.slice none 0 0] 22)).alloc (.cells #[.int .i64 0] 23)).alloc (.cells #[.slice none 0 0] 22)) 9 (.string s)
          rwa [World.size_alloc, World.size_alloc, World.size_alloc] at this
        · exact ((((Below.refl _ _).alloc (Nat.le_refl _) _).alloc (by simp) _).alloc (by simp; omega) _).alloc (by simp; omega) _
      rintro W ⟨F1, F2, F3, F4, Fz, FB⟩
      have hle : w.heap.size + 4 ≤ W.heap.size := by omega
      have hle1 : w.heap.size ≤ W.heap.size := by omega
      rw [hl] at HPE HEL hNs HIT
      refine wp_range (gf := 28) (lb := #[.pointer (some ⟨w.heap.size + 3, 0, none⟩)]) (encs := segV s.data.toList) (N := l.length) (B := W.heap.size)
        (I := fun i Y => (l.take i).all okN = true ∧ Boxed Y w.heap.size 22 (.slice none 0 0) ∧ Boxed Y (w.heap.size + 1) 23 (.int .i64 0) ∧ Boxed Y (w.heap.size + 3) 9 (.string s) ∧ Below w.heap.size w Y ∧
          ∃ v, Boxed Y (w.heap.size + 2) 22 v ∧ Y.ownsRow (w.heap.size + 4) 9 1 v (l.take i).length (encS (l.take i)))
        (Ix := fun cd i Y => cd = .ret ∧ p = (290, []) ∧ Boxed Y w.heap.size 22 (.slice none 0 0) ∧ Boxed Y (w.heap.size + 1) 23 (.int .i64 290) ∧ Below w.heap.size w Y)
        rfl (enters_of Try.func28 (by kernel_rfl) rfl) HIT.out (fun _ => rfl) (Nat.le_refl _) (fun X Y h => h.sameC _) (fun X Y Z h k => h.trans k)
        (fun Y h => h.cells F4) ?_ ?_ ?_ ?_ ?_ ?_ ?_ ?_ ?_
      · rintro i X Y ⟨h1, h2, h3, h4, h5, v, h6, h7⟩ hbk
        exact ⟨h1, hbk.cells h2, hbk.cells h3, hbk.cells h4, hbk.below (Nat.le_refl _) hle1 h5, v, hbk.cells h6, hbk.owns h7⟩
      · rintro i X Y ⟨h1, h2, h3, h4, h5, v, h6, h7⟩ hm
        exact ⟨h1, hm.row h2 (fun e => e), hm.row h3 (fun e => e), hm.row h4 (fun e => e), h5.trans (hm.new.mono h5.size), v, hm.row h6 (fun e => e), hm.owns h7⟩
      · rintro cd i X Y ⟨h1, h2, h3, h4, h5⟩ hbk
        exact ⟨h1, h2, hbk.cells h3, hbk.cells h4, hbk.below (Nat.le_refl _) hle1 h5⟩
      · rintro cd i X Y ⟨h1, h2, h3, h4, h5⟩ hm
        exact ⟨h1, h2, hm.row h3 (fun e => e), hm.row h4 (fun e => e), h5.trans (hm.new.mono h5.size)⟩
      · rintro X Y hm; exact hm.keeps _
      · exact ⟨by simp, F1, F2, F4, FB, _, F3, World.ownsRow_nil _ _ _ _⟩
      · intro L i X m hi ⟨h1, h2, h3, h4, h5, v, h6, h7⟩
        obtain ⟨x, hx⟩ : ∃ x, l[i]? = some x := ⟨_, List.getElem?_eq_getElem hi⟩
        have hget : segV s.data.toList i = #[.string (mkB x)] := by unfold segV; rw [hl, List.getD_eq_getElem?_getD, hx]; rfl
        rw [hget]
        gi_wp2
        refine ⟨KeepsFrom.refl _ _, SameC.refl _ _, ?_⟩
        intro Z hbk
        obtain ⟨z1, z2, z3, z4, z5, z6⟩ : Boxed Z w.heap.size 22 (.slice none 0 0) ∧ Boxed Z (w.heap.size + 1) 23 (.int .i64 0) ∧ Boxed Z (w.heap.size + 3) 9 (.string s) ∧ Below w.heap.size w Z ∧ Boxed Z (w.heap.size + 1 + 1) 22 v ∧ Z.ownsRow (w.heap.size + 4) 9 1 v (l.take i).length (encS (l.take i)) :=
          ⟨hbk.cells h2, hbk.cells h3, hbk.cells h4, hbk.below (Nat.le_refl _) hle1 h5, hbk.cells h6, hbk.owns h7⟩
        have hZs : w.heap.size + 4 ≤ Z.heap.size := by have := hbk.size; have := h4.lt; omega
        clear h2 h3 h4 h5 h6 h7 hbk
        have hxl := HEL.out x (List.mem_of_getElem? hx)
        have HM := Lib.hid (fun W => pmay_any (mkB x) W (by rw [mkB_size]; unfold maxLen; omega))
        have hTk : l.take (i + 1) = l.take i ++ [x] := by rw [List.take_add_one, hx]; rfl
        have HTK := Lib.hid hTk
        have HH1 := Lib.hid h1
        have HX := Lib.hid hx
        have hokx : okName (mkB x) = okN x := rfl
        rw [hokx] at HM
        clear hTk h1 hx hokx hget
        cases hok : okN x
        · have hpe : p = (290, []) := by
            rw [HPE.out, if_pos]
            rw [← Bool.not_eq_true]
            intro e
            have := List.all_eq_true.1 e x (List.mem_of_getElem? HX.out)
            rw [hok] at this; cases this
          have HP := Lib.hid hpe
          rw [hok] at HM
          clear hpe
          gi_wp2_with (fail)
          refine ⟨trivial, fun hw => by simp [Fence.wide] at hw, ?_⟩
          refine (inR (HM.out _) ?_).2
          rintro e w' ⟨rfl, H1⟩
          have y1 : Boxed w' w.heap.size 22 (.slice none 0 0) := H1.row z1 (fun e => e)
          have y2 : Boxed w' (w.heap.size + 1) 23 (.int .i64 0) := H1.row z2 (fun e => e)
          have k1 := y1.cell
          have k2 := y2.cell
          have f1 := y1.frozen
          have f2 := y2.frozen
          have z4' := Lib.hid (z4.trans (H1.new.mono z4.size))
          have HKP := Lib.hid (H1.keeps W.heap.size)
          have Y1 := Lib.hid y1
          have Y2 := Lib.hid y2
          clear y1 y2 H1 z1 z2 z3 z5 z6
          gi_wp2
          refine ⟨(HKP.out.trans ((KeepsOthers.setCell _ _ _).from _)).trans ((KeepsOthers.setCell _ _ _).from _), rfl, HP.out, ?_, ?_, ?_⟩
          · exact (Y1.out.set _).kept (grownBy_setCell' _ (w.heap.size + 1) _) (by simp)
          · exact (Y2.out.kept (grownBy_setCell' _ w.heap.size _) (by simp)).set _
          · exact (z4'.out.setCell (Nat.le_refl _) _).setCell (by simp) _
        · rw [hok] at HM
          gi_wp2_with (fail)
          refine ⟨trivial, fun hw => by simp [Fence.wide] at hw, ?_⟩
          refine (inR (HM.out _) ?_).2
          rintro e w' ⟨rfl, H1⟩
          have y1 : Boxed w' w.heap.size 22 (.slice none 0 0) := H1.row z1 (fun e => e)
          have y2 : Boxed w' (w.heap.size + 1) 23 (.int .i64 0) := H1.row z2 (fun e => e)
          have y3 : Boxed w' (w.heap.size + 3) 9 (.string s) := H1.row z3 (fun e => e)
          have y5 : Boxed w' (w.heap.size + 1 + 1) 22 v := H1.row z5 (fun e => e)
          have y6 := H1.owns z6
          have hws : w.heap.size + 4 ≤ w'.heap.size := by have := H1.size; omega
          have c5 := y5.cell
          have z4' := Lib.hid (z4.trans (H1.new.mono z4.size))
          have HKP := Lib.hid (H1.keeps W.heap.size)
          have HSC := Lib.hid (H1.sameC (w.heap.size + 3))
          have Y1 := Lib.hid y1
          have Y2 := Lib.hid y2
          have Y3 := Lib.hid y3
          have Y5 := Lib.hid y5
          have Y6 := Lib.hid y6
          have HLI : Hid ((l.take i).length = i) := by show _ = _; rw [List.length_take]; omega
          clear y1 y2 y3 y5 y6 H1 z1 z2 z3 z5 z6
          obtain ⟨i0, hi0, hz0, hz1, hz2⟩ := info_parts infoS
          gi_wp2_with (gi_at_builtin; refine wpListIn_append_own _ rfl _ _ 22 rfl (w.heap.size + 4) 9 i0 (.string ByteArray.empty) 1 16 Try.underlying22 hi0 hz0 hz1 hz2 rfl (by decide) _ _ _ rfl (Y6.out.alloc _) ⟨w'.heap.size, 0, none⟩ 1 1 [.string (mkB x)] rfl rfl (cell_one_new _ _ _) (by simp [Value.oneCell']) (by rw [HLI.out]; unfold maxLen; omega) (by rw [HLI.out]; omega) (by simp; omega) ?_; intro v' w1 hown' hgrow _; obtain ⟨g', cap', rfl⟩ := ownsRow_succ hown'; obtain ⟨hv1, hv2, hr2, hk2, hm2⟩ := box_app Y5.out (by omega) hws Y6.out hown' hgrow; have hc1 := hv1.cell; have hf1 := hv1.frozen)
          rw [← List.length_take]
          refine ⟨HKP.out.trans (hk2.from _), HSC.out.trans (fun c t fr e => (hm2.row e (by omega))), ?_, ?_, ?_, ?_, ?_, _, hv2, ?_⟩
          · rw [HTK.out, List.all_append, HH1.out]; simp [hok]
          · exact hm2.row Y1.out (by omega)
          · exact hm2.row Y2.out (by omega)
          · exact hm2.row Y3.out (by omega)
          · exact z4'.out.trans (hm2.below (by omega) (by omega))
          · rw [HTK.out, ← encS_snoc, List.length_append]; exact hr2
      · rintro D Y hD ⟨h1, h2, h3, h4, h5, v, h6, h7⟩ hdef
        rw [List.take_length] at h1 h7
        have hpe : p = if 16 < l.length then (4, []) else (0, l) := by rw [HPE.out, if_neg (by rw [h1]; simp)]
        have HP := Lib.hid hpe
        have HD := Lib.hid hdef
        have HE2 := HE
        have hfin : ∀ (Y' : World) (v' : Value), Y'.heap[D]? = some (.deferred (some [])) → Boxed Y' w.heap.size 22 v' → Boxed Y' (w.heap.size + 1) 23 (.int .i64 p.1) → Y'.ownsRow (w.heap.size + 4) 9 1 v' p.2.length (encS p.2) → Below w.heap.size w Y' → ∀ tmps : Array Value, tmps.getD 2 undef = .pointer (some ⟨w.heap.size, 0, none⟩) → tmps.getD 3 undef = .pointer (some ⟨w.heap.size + 1, 0, none⟩) →
            bodyPostM Fence.wide 3 Try.prog Try.f14 (fun e w' => ∃ v, e = .returned (.tuple #[v, .int .i64 p.1]) ∧ St S w0 w' (.own v 9 1 p.2.length (encS p.2) :: L)) .ret { tmps := tmps, defers := [{ target := .collected D, args := #[] }] } Y' := by
          rintro Y' v' hd hb1 hb2 hrow hbel tmps ht1 ht2
          have e1 : (Y'.putObj D (.deferred none)).heap[w.heap.size]? = _ := (World.putObj_heap_other (by omega)).trans hb1
          have e2 : (Y'.putObj D (.deferred none)).heap[w.heap.size + 1]? = _ := (World.putObj_heap_other (by omega)).trans hb2
          have k1 := (cell_of_row _ _ 0 _ _ _ e1).trans (show _ = some v' from rfl)
          have k2 := (cell_of_row _ _ 0 _ _ _ e2).trans (show _ = some (.int .i64 p.1) from rfl)
          refine leaves_mark rfl hd (v := .tuple #[v', .int .i64 p.1]) (res2 rfl (resCell1 ht1 k1) (resCell1 ht2 k2)) (HE2.out _ _ ?_ ?_)
          · have hro := ownsRow_putObj hrow (.deferred none) hd rfl
            refine ⟨hro.1, hro.2.imp id ?_⟩
            rintro ⟨g, cap, cur, hv, hb, hg, hr⟩
            exact ⟨g, cap, cur, hv, by omega, hg, hr⟩
          · exact Mod.of_new (hbel.trans ⟨rfl, rfl, rfl, by simp, fun k hk => World.putObj_heap_other (by omega)⟩)
        have HF2 := Lib.hid hfin
        have k1 := h2.cell
        have k2 := h3.cell
        have k3 : Y.cell? ⟨w.heap.size + 1 + 1, 0, none⟩ = some v := h6.cell
        have f1 := h2.frozen
        have f2 := h3.frozen
        have f3 : Y.frozen? ⟨w.heap.size + 1 + 1, 0, none⟩ = false := h6.frozen
        have H2 := Lib.hid h2
        have H3 := Lib.hid h3
        have H5 := Lib.hid h5
        have H6 := Lib.hid h6
        have H7 := Lib.hid h7
        obtain ⟨ad, cap, hv⟩ : ∃ ad cap, v = .slice ad l.length cap := by
          rcases h7.2 with ⟨rfl, hz⟩ | ⟨g, cap, cur, hv, _⟩
          · exact ⟨none, 0, by rw [hz]⟩
          · exact ⟨_, _, hv⟩
        subst hv
        clear h1 h2 h3 h4 h5 h6 h7 hpe hdef hfin F1 F2 F3 F4 FB HE HE2
        by_cases h16 : 16 < l.length
        · have e16 : decide ((16 : Int) < (l.length : Int)) = true := decide_eq_true (by omega)
          have hp16 : p = (4, []) := by rw [HP.out, if_pos h16]
          subst hp16
          go_wp2
          refine HF2.out _ (.slice none 0 0) ?_ ?_ ?_ (World.ownsRow_nil _ _ _ _) ?_ _ rfl rfl
          · exact (Below.heap_setCell _ _ _ _ (by simp; omega)).trans ((Below.heap_setCell _ _ _ _ (by simp; omega)).trans HD.out)
          · exact (H2.out.set _).kept (grownBy_setCell' _ (w.heap.size + 1) _) (by simp)
          · exact (H3.out.kept (grownBy_setCell' _ w.heap.size _) (by simp)).set _
          · exact (H5.out.setCell (Nat.le_refl _) _).setCell (by simp) _
        · have e16 : decide ((16 : Int) < (l.length : Int)) = false := decide_eq_false (by omega)
          have hp16 : p = (0, l) := by rw [HP.out, if_neg h16]
          subst hp16
          go_wp2
          refine HF2.out _ (.slice ad l.length cap) ?_ ?_ ?_ ?_ ?_ _ rfl rfl
          · exact (Below.heap_setCell _ _ _ _ (by simp; omega)).trans ((Below.heap_setCell _ _ _ _ (by simp; omega)).trans HD.out)
          · exact (H2.out.set _).kept (grownBy_setCell' _ (w.heap.size + 1) _) (by simp)
          · exact (H3.out.kept (grownBy_setCell' _ w.heap.size _) (by simp)).set _
          · refine (H7.out.kept (grownBy_setCell' _ w.heap.size _) (.inr fun e' => ?_)).kept (grownBy_setCell' _ (w.heap.size + 1) _) (.inr fun e' => ?_)
            · have := World.ownsRow.lt H7.out _ e'; omega
            · have := World.ownsRow.lt H7.out _ e'; omega
          · exact (H5.out.setCell (Nat.le_refl _) _).setCell (by simp) _
      · rintro D cd i Y hD hi ⟨rfl, hp290, h3, h4, h5⟩ hdef
        subst hp290
        have e1 : (Y.putObj D (.deferred none)).heap[w.heap.size]? = _ := (World.putObj_heap_other (by omega)).trans h3
        have e2 : (Y.putObj D (.deferred none)).heap[w.heap.size + 1]? = _ := (World.putObj_heap_other (by omega)).trans h4
        have k1 := (cell_of_row _ _ 0 _ _ _ e1).trans (show _ = some (.slice none 0 0) from rfl)
        have k2 := (cell_of_row _ _ 0 _ _ _ e2).trans (show _ = some (.int .i64 290) from rfl)
        refine wp_ret ?_
        refine leaves_mark rfl hdef (v := .tuple #[.slice none 0 0, .int .i64 290]) (res2 rfl (resCell1 rfl k1) (resCell1 rfl k2)) (HE.out _ _ (World.ownsRow_nil _ _ _ _) ?_)
        exact Mod.of_new (h5.trans ⟨rfl, rfl, rfl, by simp, fun k hk => World.putObj_heap_other (by omega)⟩)
end Go.Proofs.Ytaponmniedjkiaa
