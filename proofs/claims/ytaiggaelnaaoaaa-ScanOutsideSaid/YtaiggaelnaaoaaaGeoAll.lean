/- The reference's list of all blocks: what the function makes. -/
import Derived.Test.YtaiggaelnaaoaaaGeoRef
namespace Go.Proofs.Ytaiggaelnaaoaaa
open Go.RowKit

theorem grps_le (n q d : Nat) (hn : n ≤ 4) (hq : q ≤ 16) (hd : d ≤ 512) : (grps n q d).length ≤ 2200 := by
  rw [grps_len]
  have : n * (2 + q + d) ≤ 4 * (2 + 16 + 512) := Nat.mul_le_mul hn (by omega)
  omega

theorem ownsRow_le {w : World} {base base2 : Nat} {e : TypeId} {size : Nat} {v : Value} {n : Nat} {xs : List Value} (h : w.ownsRow base e size v n xs) (hb : base2 ≤ base) : w.ownsRow base2 e size v n xs := by
  obtain ⟨h1, h2⟩ := h
  refine ⟨h1, h2.imp id ?_⟩
  rintro ⟨g, cap, cur, a, b, c⟩
  exact ⟨g, cap, cur, a, Nat.le_trans hb b, c⟩

def TZ : Value := .agg #[.int .u8 0, .int .i64 0, .int .i64 0, .int .i64 0]

set_option maxHeartbeats 4000000 in
theorem rall_yes (G S I J : Int) (w : World) (h : gMay G S I J = true) :
    Calls Try.prog 16 #[.agg #[.int .i64 G, .int .i64 S, .int .i64 I, .int .i64 J]] w fun e w' => ∃ v, e = .returned v ∧
      w'.ownsRow w.heap.size 41 4 v (gAll G S I J).length (things (gAll G S I J)) ∧ Below w.heap.size w w' := by
  obtain ⟨h1, h2, h3, h4, h5, h6, h7, h8, h9, h10, h11⟩ := (gMay_iff G S I J).1 h
  obtain ⟨hm0, hm1⟩ := mul_bd G S h1 h2 h3 h4
  have hgl := gAll_len G S I J h
  have HG : Hid (((gAll G S I J).length : Int) = 2 + J + G * S) := hgl
  have H := Lib.hid h
  obtain ⟨q, rfl⟩ : ∃ q : Nat, I = 4 * q := ⟨(I / 4).toNat, by omega⟩
  obtain ⟨g, rfl⟩ := Int.eq_ofNat_of_zero_le (show 0 ≤ G by omega)
  obtain ⟨j, rfl⟩ := Int.eq_ofNat_of_zero_le (show 0 ≤ J by omega)
  obtain ⟨d, rfl⟩ : ∃ d : Nat, S = d + 2 + q := ⟨(S - 2 - q).toNat, by omega⟩
  have hq : q ≤ 16 := by omega
  have hd : d ≤ 512 := by omega
  have hgq : 0 ≤ 4 * (q : Int) * g ∧ 4 * (q : Int) * g ≤ 256 := by
    obtain rfl | rfl | rfl | rfl : g = 1 ∨ g = 2 ∨ g = 3 ∨ g = 4 := by omega
    all_goals omega
  clear h h7 h11 hgl hm0 hm1
  have HA : Hid (gAll (g : Int) ((d : Int) + 2 + q) (4 * (q : Int)) (j : Int) = jl j ++ grps g q d) := by
    show gAll _ _ _ _ = _
    unfold gAll
    have e1 : (4 * (q : Int) / 4).toNat = q := by omega
    have e2 : ((d : Int) + 2 + q - 2 - 4 * (q : Int) / 4).toNat = d := by omega
    rw [e1, e2]; simp
  go_enter Try.func16, Try.ntmps16
  go_wp2_with (go_at_call 18; refine (rmay_yes _ _ _ _ _ H.out).mono ?_; rintro e w1 ⟨rfl, hb1⟩)
  have hB : w.heap.size + 1 ≤ w1.heap.size := by have := hb1.size; simp at this; omega
  simp only [World.size_alloc] at hb1
  go_loopw [3, 4] (fun v i wr => ∃ k : Nat, k ≤ j ∧ i = .int .i64 k ∧ wr.ownsRow (w.heap.size + 1) 41 4 v (jl k).length (things (jl k)) ∧ Below (w.heap.size + 1) (w.alloc (.cells #[.int .i64 g, .int .i64 ((d : Int) + 2 + q), .int .i64 (4 * (q : Int)), .int .i64 j] 25)) wr) (fun v i _ => ((j : Int) - intOf i).toNat)
  case atStart =>
    refine ⟨0, by omega, rfl, ?_, hb1.alloc hB _⟩
    exact ⟨rfl, .inr ⟨_, 2, _, rfl, hB, heap_alloc_new _ _, Nat.le_refl _, by decide, rfl, rfl⟩⟩
  case round =>
    obtain ⟨k, hk, rfl, hown, hb⟩ := hrel
    obtain ⟨c0, c1, c2, c3⟩ := gcells hb
    have hsz : w.heap.size + 1 ≤ wr.heap.size := by have := hb.size; simpa using this
    by_cases hlt : k < j
    · have hjl := jl_len k
      have HL : Hid ((jl k).length = 2 + k) := hjl
      have hle : ((jl k).length + 1) * 32 ≤ 140737488355328 := by omega
      clear hjl
      go_wp2_with (at_builtin; refine wpList_app _ rfl _ _ 37 rfl (w.heap.size + 1) 41 TZ 4 32 Try.underlying37 thing_info rfl (by decide) _ _ _ rfl hown _ 1 rfl rfl ?c1 hle (by decide) hsz ?_)
      case c1 => simp [Value.oneCell']
      intro v' w2 hown2 hb2
      clear hown
      have hown3 : w2.ownsRow (w.heap.size + 1) 41 4 v' (jl (k + 1)).length (things (jl (k + 1))) := by
        rw [jl_succ, ← things_app, List.length_append]; exact hown2
      clear hown2
      go_wp2
      go_roundw
      case rel => exact ⟨k + 1, by omega, by go_num, hown3, hb.trans hb2⟩
      case measure => simp [intOf]; omega
    · obtain rfl : k = j := by omega
      obtain ⟨w0, rfl⟩ : ∃ wo : World, wo = wr := ⟨_, rfl⟩
      go_wp2
      go_loopw [3, 5, 6, 7, 8] (fun v ino gg _ _ wr => ∃ n : Nat, n ≤ g ∧ gg = .int .i64 n ∧ ino = .int .i64 (1 + 4 * (q : Int) * n) ∧ wr.ownsRow (w.heap.size + 1) 41 4 v (jl k ++ grps n q d).length (things (jl k ++ grps n q d)) ∧ Below (w.heap.size + 1) (w.alloc (.cells #[.int .i64 g, .int .i64 ((d : Int) + 2 + q), .int .i64 (4 * (q : Int)), .int .i64 k] 25)) wr) (fun _ _ gg _ _ _ => ((g : Int) - intOf gg).toNat)
      case atStart => exact ⟨0, by omega, rfl, by simp, by simpa [grps] using hown, hb⟩
      case round =>
        obtain ⟨n, hn, rfl, rfl, hown, hb⟩ := hrel
        obtain ⟨c0, c1, c2, c3⟩ := gcells hb
        have hsz : w.heap.size + 1 ≤ wr.heap.size := by have := hb.size; simpa using this
        by_cases hlt2 : n < g
        · have hLb : (jl k ++ grps n q d).length ≤ 4000 := by rw [List.length_append, jl_len]; have := grps_le n q d (by omega) hq hd; omega
          have HS : Hid (jl k ++ grps (n + 1) q d = (jl k ++ grps n q d) ++ grp n q d) := by show _ = _; rw [grps_succ, List.append_assoc]
          have hqn : 0 ≤ 4 * (q : Int) * n ∧ 4 * (q : Int) * n ≤ 256 := by
            obtain rfl | rfl | rfl | rfl : n = 0 ∨ n = 1 ∨ n = 2 ∨ n = 3 := by omega
            all_goals omega
          obtain ⟨hqn0, hqn1⟩ := hqn
          generalize hLL : jl k ++ grps n q d = L at hown hLb HS
          clear hLL
          have hle : (L.length + 2) * 32 ≤ 140737488355328 := by omega
          obtain ⟨wq, rfl⟩ : ∃ wo : World, wo = wr := ⟨_, rfl⟩
          go_wp2_with (at_builtin; refine wpList_app _ rfl _ _ 37 rfl (w.heap.size + 1) 41 TZ 4 32 Try.underlying37 thing_info rfl (by decide) _ _ _ rfl hown _ 2 rfl rfl ?d1 hle (by decide) hsz ?_)
          case d1 => simp [Value.oneCell']
          intro v' w2 hown2 hb2
          have hown3 : w2.ownsRow (w.heap.size + 1) 41 4 v' (L ++ [(4, (n : Int), 0, 0), (5, (n : Int), 1, 0)]).length (things (L ++ [(4, (n : Int), 0, 0), (5, (n : Int), 1, 0)])) := by
            rw [← things_app, List.length_append]; exact hown2
          clear hown hown2
          have hb3 := hb.trans hb2
          clear hb hb2 c0 c1 c2 c3 hsz hle
          generalize hLL : L ++ [(4, (n : Int), 0, 0), (5, (n : Int), 1, 0)] = L2 at hown3
          have HL2 : Hid (L ++ [(4, (n : Int), 0, 0), (5, (n : Int), 1, 0)] = L2) := hLL
          have hL2 : L2.length ≤ 4002 := by rw [← hLL]; simp; omega
          clear hLL
          go_wp2
          go_loopw [3, 5, 7] (fun v ino i wr => ∃ m : Nat, m ≤ q ∧ i = .int .i64 (4 * (m : Int)) ∧ ino = .int .i64 (1 + 4 * (q : Int) * n + 4 * (m : Int)) ∧ wr.ownsRow (w.heap.size + 1) 41 4 v (L2 ++ tl n (1 + 4 * (q : Int) * n) m).length (things (L2 ++ tl n (1 + 4 * (q : Int) * n) m)) ∧ Below (w.heap.size + 1) (w.alloc (.cells #[.int .i64 g, .int .i64 ((d : Int) + 2 + q), .int .i64 (4 * (q : Int)), .int .i64 k] 25)) wr) (fun _ _ i _ => (4 * (q : Int) - intOf i).toNat)
          case atStart => exact ⟨0, by omega, rfl, by simp, by simpa [tl] using hown3, hb3⟩
          case round =>
            obtain ⟨m, hm, rfl, rfl, hown, hb⟩ := hrel
            obtain ⟨c0, c1, c2, c3⟩ := gcells hb
            have hsz : w.heap.size + 1 ≤ wr.heap.size := by have := hb.size; simpa using this
            by_cases hlt3 : m < q
            · have hLb3 : (L2 ++ tl n (1 + 4 * (q : Int) * n) m).length ≤ 4100 := by rw [List.length_append, tl_len]; omega
              have HS3 : Hid (L2 ++ tl n (1 + 4 * (q : Int) * n) (m + 1) = (L2 ++ tl n (1 + 4 * (q : Int) * n) m) ++ [(6, (n : Int), 2 + (m : Int), 1 + 4 * (q : Int) * n + 4 * (m : Int))]) := by show _ = _; rw [tl_succ, List.append_assoc]
              generalize hLL : L2 ++ tl n (1 + 4 * (q : Int) * n) m = L3 at hown hLb3 HS3
              clear hLL
              have hle : (L3.length + 1) * 32 ≤ 140737488355328 := by omega
              obtain ⟨wq2, rfl⟩ : ∃ wo : World, wo = wr := ⟨_, rfl⟩
              go_wp2_with (at_builtin; refine wpList_app _ rfl _ _ 37 rfl (w.heap.size + 1) 41 TZ 4 32 Try.underlying37 thing_info rfl (by decide) _ _ _ rfl hown _ 1 rfl rfl ?e1 hle (by decide) hsz ?_)
              case e1 => simp [Value.oneCell']
              intro v' w2 hown2 hb2
              have hown3 : w2.ownsRow (w.heap.size + 1) 41 4 v' (L2 ++ tl n (1 + 4 * (q : Int) * n) (m + 1)).length (things (L2 ++ tl n (1 + 4 * (q : Int) * n) (m + 1))) := by
                rw [HS3.out, ← things_app, List.length_append]; exact hown2
              clear hown hown2 HS3
              have hb3 := hb.trans hb2
              clear hb hb2
              go_wp2
              go_roundw
              case rel => exact ⟨m + 1, by omega, by go_num, by go_num, hown3, hb3⟩
              case measure => simp [intOf]; omega
            · obtain rfl : m = q := by omega
              obtain ⟨wq2, rfl⟩ : ∃ wo : World, wo = wr := ⟨_, rfl⟩
              have hLb3 : (L2 ++ tl n (1 + 4 * (m : Int) * n) m).length ≤ 4100 := by rw [List.length_append, tl_len]; omega
              have HE : Hid (grp n m d = [(4, (n : Int), 0, 0), (5, (n : Int), 1, 0)] ++ tl n (1 + 4 * (m : Int) * n) m ++ dl n (2 + m) d) := rfl
              generalize hLL : L2 ++ tl n (1 + 4 * (m : Int) * n) m = L3 at hown hLb3
              have HL3 : Hid (L2 ++ tl n (1 + 4 * (m : Int) * n) m = L3) := hLL
              clear hLL
              go_wp2
              go_loopw [3, 8] (fun v i wr => ∃ t : Nat, t ≤ d ∧ i = .int .i64 (2 + (m : Int) + (t : Int)) ∧ wr.ownsRow (w.heap.size + 1) 41 4 v (L3 ++ dl n (2 + m) t).length (things (L3 ++ dl n (2 + m) t)) ∧ Below (w.heap.size + 1) (w.alloc (.cells #[.int .i64 g, .int .i64 ((d : Int) + 2 + m), .int .i64 (4 * (m : Int)), .int .i64 k] 25)) wr) (fun _ i _ => ((d : Int) + 2 + m - intOf i).toNat)
              case atStart => exact ⟨0, by omega, by simp, by simpa [dl] using hown, hb⟩
              case round =>
                obtain ⟨t, ht, rfl, hown, hb⟩ := hrel
                obtain ⟨c0, c1, c2, c3⟩ := gcells hb
                have hsz : w.heap.size + 1 ≤ wr.heap.size := by have := hb.size; simpa using this
                by_cases hlt4 : t < d
                · have hLb4 : (L3 ++ dl n (2 + m) t).length ≤ 4700 := by rw [List.length_append, dl_len]; omega
                  have HS4 : Hid (L3 ++ dl n (2 + m) (t + 1) = (L3 ++ dl n (2 + m) t) ++ [(7, (n : Int), 2 + (m : Int) + (t : Int), 0)]) := by show _ = _; rw [dl_succ, List.append_assoc]
                  generalize hLL : L3 ++ dl n (2 + m) t = L4 at hown hLb4 HS4
                  clear hLL
                  have hle : (L4.length + 1) * 32 ≤ 140737488355328 := by omega
                  obtain ⟨wq3, rfl⟩ : ∃ wo : World, wo = wr := ⟨_, rfl⟩
                  go_wp2_with (at_builtin; refine wpList_app _ rfl _ _ 37 rfl (w.heap.size + 1) 41 TZ 4 32 Try.underlying37 thing_info rfl (by decide) _ _ _ rfl hown _ 1 rfl rfl ?f1 hle (by decide) hsz ?_)
                  case f1 => simp [Value.oneCell']
                  intro v' w2 hown2 hb2
                  have hown3 : w2.ownsRow (w.heap.size + 1) 41 4 v' (L3 ++ dl n (2 + m) (t + 1)).length (things (L3 ++ dl n (2 + m) (t + 1))) := by
                    rw [HS4.out, ← things_app, List.length_append]; exact hown2
                  clear hown hown2 HS4
                  have hb3 := hb.trans hb2
                  clear hb hb2
                  go_wp2
                  go_roundw
                  case rel => exact ⟨t + 1, by omega, by go_num, hown3, hb3⟩
                  case measure => simp [intOf]; omega
                · obtain rfl : t = d := by omega
                  have hown3 : wr.ownsRow (w.heap.size + 1) 41 4 u3 (jl k ++ grps (n + 1) m t).length (things (jl k ++ grps (n + 1) m t)) := by
                    have e : jl k ++ grps (n + 1) m t = L3 ++ dl n (2 + m) t := by
                      rw [HS.out, HE.out, ← HL3.out, ← HL2.out]; simp only [List.append_assoc]
                    rw [e]; exact hown
                  clear hown
                  go_wp2
                  go_roundw
                  case rel => exact ⟨n + 1, by omega, by go_num, by rw [Int.natCast_succ, Int.mul_add, ← Int.add_assoc, Int.mul_one], hown3, hb⟩
                  case measure => simp [intOf]; omega
        · obtain rfl : n = g := by omega
          have hown3 : wr.ownsRow w.heap.size 41 4 u3 (gAll (n : Int) ((d : Int) + 2 + q) (4 * (q : Int)) (k : Int)).length (things (gAll (n : Int) ((d : Int) + 2 + q) (4 * (q : Int)) (k : Int))) := by
            rw [HA.out]; exact ownsRow_le hown (by omega)
          have hb3 : Below w.heap.size w wr := ((Below.refl _ _).alloc (Nat.le_refl _) _).trans (hb.mono (by omega))
          clear hown
          go_wp2
          go_ret
          exact ⟨_, rfl, hown3, hb3⟩

theorem own_form {w : World} {base : Nat} {e : TypeId} {size : Nat} {v : Value} {n : Nat} {xs : List Value} (h : w.ownsRow base e size v n xs) : ∃ a cap, v = .slice a n cap := by
  rcases h.2 with ⟨rfl, rfl⟩ | ⟨g, cap, cur, rfl, _⟩
  · exact ⟨none, 0, rfl⟩
  · exact ⟨_, cap, rfl⟩

theorem rall_no (G S I J : Int) (w : World) (h : gMay G S I J = false) :
    Calls Try.prog 16 #[.agg #[.int .i64 G, .int .i64 S, .int .i64 I, .int .i64 J]] w fun e w' => e = .returned (.slice none 0 0) ∧ Below w.heap.size w w' := by
  have H := Lib.hid h
  clear h
  go_enter Try.func16, Try.ntmps16
  go_wp2_with (go_at_call 18; refine (rmay_no _ _ _ _ _ H.out).mono ?_; rintro e w1 ⟨rfl, hb1⟩)
  go_ret
  exact ⟨rfl, ((Below.refl _ _).alloc (Nat.le_refl _) _).trans (hb1.mono (by simp))⟩

def gBlocks (G S I J : Int) : Int := if gMay G S I J then 2 + J + G * S else 0

theorem rblocks (G S I J : Int) (w : World) :
    Calls Try.prog 11 #[.agg #[.int .i64 G, .int .i64 S, .int .i64 I, .int .i64 J]] w fun e w' => e = .returned (.int .i64 (gBlocks G S I J)) ∧ Below w.heap.size w w' := by
  cases h : gMay G S I J
  · have H := Lib.hid h
    clear h
    go_enter Try.func11, Try.ntmps11
    go_wp2_with (go_at_call 16; refine (rall_no _ _ _ _ _ H.out).mono ?_; rintro e w1 ⟨rfl, hb1⟩)
    go_ret
    exact ⟨ret_int (by simp [gBlocks, H.out]), ((Below.refl _ _).alloc (Nat.le_refl _) _).trans (hb1.mono (by simp))⟩
  · have H := Lib.hid h
    have hl := gAll_len G S I J h
    clear h
    go_enter Try.func11, Try.ntmps11
    go_wp2_with fail
    refine (rall_yes _ _ _ _ _ H.out).mono ?_
    rintro e w1 ⟨v, rfl, hown, hb1⟩
    obtain ⟨a, cap, rfl⟩ := own_form hown
    clear hown
    have HL := Lib.hid hl
    clear hl
    go_wp2
    go_ret
    exact ⟨ret_int (by rw [gBlocks, H.out, ← HL.out]; rfl), ((Below.refl _ _).alloc (Nat.le_refl _) _).trans (hb1.mono (by simp))⟩
end Go.Proofs.Ytaiggaelnaaoaaa
