/- The reference's list of what each block of a geometry is. -/
import Derived.Test.YtaiggaelnaaoaaaGeo
namespace Go.Proofs.Ytaiggaelnaaoaaa
open Go.RowKit

def thing (x : Int × Int × Int × Int) : List Value := [.int .u8 x.1, .int .i64 x.2.1, .int .i64 x.2.2.1, .int .i64 x.2.2.2]
def things (l : List (Int × Int × Int × Int)) : List Value := l.flatMap thing
theorem things_snoc (l : List (Int × Int × Int × Int)) (x : Int × Int × Int × Int) : things l ++ thing x = things (l ++ [x]) := by simp [things]
theorem things_app (l m : List (Int × Int × Int × Int)) : things l ++ things m = things (l ++ m) := by simp [things]

theorem thing_info : (Try.prog.info? 41).map (fun i => (i.zero, i.size, i.bytes)) = some (some (.agg #[.int .u8 0, .int .i64 0, .int .i64 0, .int .i64 0]), 4, 32) := by kernel_rfl

theorem rmay_yes (G S I J : Int) (w : World) (h : gMay G S I J = true) :
    Calls Try.prog 18 #[.agg #[.int .i64 G, .int .i64 S, .int .i64 I, .int .i64 J]] w fun e w' => e = .returned (.bool true) ∧ Below w.heap.size w w' := by
  obtain ⟨h1, h2, h3, h4, h5, h6, h7, h8, h9, h10, h11⟩ := (gMay_iff G S I J).1 h
  obtain ⟨hm0, hm1⟩ := mul_bd G S h1 h2 h3 h4
  have h7' : (I % 4 != 0) = false := by simp [h7]
  clear h h7
  go_enter Try.func18, Try.ntmps18
  go_wp2
  go_ret
  exact ⟨by simp, ((Below.refl _ _).alloc (Nat.le_refl _) _)⟩

set_option maxHeartbeats 1000000 in
theorem rmay_no (G S I J : Int) (w : World) (h : gMay G S I J = false) :
    Calls Try.prog 18 #[.agg #[.int .i64 G, .int .i64 S, .int .i64 I, .int .i64 J]] w fun e w' => e = .returned (.bool false) ∧ Below w.heap.size w w' := by
  have hc := gMay_no G S I J h
  clear h
  rcases hc with h | ⟨g1, h⟩ | ⟨g1, g2, h⟩ | ⟨g1, g2, g3, h⟩ | ⟨g1, g2, g3, g4, h⟩ | ⟨g1, g2, g3, g4, g5, h⟩ | ⟨g1, g2, g3, g4, g5, g6, h⟩ | ⟨g1, g2, g3, g4, g5, g6, g7, h⟩ | ⟨g1, g2, g3, g4, g5, g6, g7, g8, h⟩ | ⟨g1, g2, g3, g4, g5, g6, g7, g8, g9, h⟩ | ⟨g1, g2, g3, g4, g5, g6, g7, g8, g9, g10, h⟩
  case inr.inr.inr.inr.inr.inr.inl =>
    have h7' : (I % 4 != 0) = true := by simp [h]
    clear h
    go_enter Try.func18, Try.ntmps18
    go_wp2
    go_ret
    exact ⟨rfl, ((Below.refl _ _).alloc (Nat.le_refl _) _)⟩
  case inr.inr.inr.inr.inr.inr.inr.inr.inr.inr =>
    have h7' : (I % 4 != 0) = false := by simp [g7]
    obtain ⟨hm0, hm1⟩ := mul_bd G S g1 g2 g3 g4
    clear g7
    go_enter Try.func18, Try.ntmps18
    go_wp2
    go_ret
    exact ⟨by simp; omega, ((Below.refl _ _).alloc (Nat.le_refl _) _)⟩
  all_goals
    try have h7' : (I % 4 != 0) = false := by simp [g7]
    try clear g7
    go_enter Try.func18, Try.ntmps18
    go_wp2
    go_ret
    exact ⟨by first | rfl | (simp; done) | (simp; omega), ((Below.refl _ _).alloc (Nat.le_refl _) _)⟩

theorem gcells {w wr : World} {a b c d : Value} {T : TypeId} (hb : Below (w.heap.size + 1) (w.alloc (.cells #[a, b, c, d] T)) wr) :
    wr.cell? ⟨w.heap.size, 0, none⟩ = some a ∧ wr.cell? ⟨w.heap.size, 1, none⟩ = some b ∧ wr.cell? ⟨w.heap.size, 2, none⟩ = some c ∧ wr.cell? ⟨w.heap.size, 3, none⟩ = some d := by
  have h : ∀ k, wr.cell? ⟨w.heap.size, k, none⟩ = #[a, b, c, d][k]? := fun k => by
    rw [hb.cell (p := ⟨w.heap.size, k, none⟩) (by simp)]
    exact World.cell?_alloc_at _ _ _ _ rfl
  exact ⟨h 0, h 1, h 2, h 3⟩

def jl (n : Nat) : List (Int × Int × Int × Int) := [(1, 0, 0, 0), (2, 0, 0, 0)] ++ (List.range n).map (fun (i : Nat) => (3, 0, (i : Int), 0))
theorem jl_succ (n : Nat) : jl (n + 1) = jl n ++ [(3, 0, (n : Int), 0)] := by simp [jl, List.range_succ]
/-- A group's tables: so many of them, from the number ino on. -/
def tl (g : Int) (ino : Int) (n : Nat) : List (Int × Int × Int × Int) := (List.range n).map (fun (i : Nat) => (6, g, 2 + (i : Int), ino + 4 * (i : Int)))
theorem tl_succ (g ino : Int) (n : Nat) : tl g ino (n + 1) = tl g ino n ++ [(6, g, 2 + (n : Int), ino + 4 * (n : Int))] := by simp [tl, List.range_succ]
def dl (g : Int) (a : Int) (n : Nat) : List (Int × Int × Int × Int) := (List.range n).map (fun (i : Nat) => (7, g, a + (i : Int), 0))
theorem dl_succ (g a : Int) (n : Nat) : dl g a (n + 1) = dl g a n ++ [(7, g, a + (n : Int), 0)] := by simp [dl, List.range_succ]
/-- A group: q blocks of its table (4 q inodes), d data blocks. -/
def grp (g : Nat) (q d : Nat) : List (Int × Int × Int × Int) := [(4, (g : Int), 0, 0), (5, (g : Int), 1, 0)] ++ tl g (1 + 4 * (q : Int) * g) q ++ dl g (2 + q) d
def grps (n q d : Nat) : List (Int × Int × Int × Int) := (List.range n).flatMap (fun g => grp g q d)
theorem grps_succ (n q d : Nat) : grps (n + 1) q d = grps n q d ++ grp n q d := by simp [grps, List.range_succ]
theorem jl_len (n : Nat) : (jl n).length = 2 + n := by simp [jl]; omega
theorem tl_len (g a : Int) (n : Nat) : (tl g a n).length = n := by simp [tl]
theorem dl_len (g a : Int) (n : Nat) : (dl g a n).length = n := by simp [dl]
theorem grp_len (g q d : Nat) : (grp g q d).length = 2 + q + d := by simp [grp, tl_len, dl_len]; omega
theorem grps_len (n q d : Nat) : (grps n q d).length = n * (2 + q + d) := by
  induction n with
  | zero => simp [grps]
  | succ n ih => rw [grps_succ, List.length_append, ih, grp_len, Nat.succ_mul]

/-- All things of a geometry. -/
def gAll (G S I J : Int) : List (Int × Int × Int × Int) := jl J.toNat ++ grps G.toNat (I / 4).toNat (S - 2 - I / 4).toNat

theorem gAll_len (G S I J : Int) (h : gMay G S I J = true) : ((gAll G S I J).length : Int) = 2 + J + G * S := by
  obtain ⟨h1, h2, h3, h4, h5, h6, h7, h8, h9, h10, h11⟩ := (gMay_iff G S I J).1 h
  rw [gAll, List.length_append, jl_len, grps_len]
  obtain ⟨g, rfl⟩ := Int.eq_ofNat_of_zero_le (show 0 ≤ G by omega)
  have e : 2 + (I / 4).toNat + (S - 2 - I / 4).toNat = S.toNat := by omega
  rw [e]
  obtain ⟨s, rfl⟩ := Int.eq_ofNat_of_zero_le (show 0 ≤ S by omega)
  simp
  omega
end Go.Proofs.Ytaiggaelnaaoaaa
