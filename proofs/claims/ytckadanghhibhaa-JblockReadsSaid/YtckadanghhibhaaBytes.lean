/- Rows of bytes in memory, numbers in them: plain facts. -/
import Derived.Test.YtckadanghhibhaaBase
namespace Go.Proofs.Ytckadanghhibhaa
open Go.RowKit

/-- A byte as a cell; a list of bytes as a row. -/
def bv (x : UInt8) : Value := .int .u8 x.toNat
def encB (bs : List UInt8) : Array Value := (bs.map bv).toArray
theorem encB_size (bs : List UInt8) : (encB bs).size = bs.length := by simp [encB]
theorem encB_get (bs : List UInt8) (k : Nat) (h : k < bs.length) : (encB bs)[k]? = some (.int .u8 (bs.getD k 0).toNat) := by
  simp [encB, bv, h]
theorem encB_toList (bs : List UInt8) : (encB bs).toList = bs.map bv := by simp [encB]
theorem encB_one (bs : List UInt8) : ∀ u ∈ (encB bs).toList, u.oneCell' = true := by
  intro u hu
  rw [encB_toList] at hu
  obtain ⟨x, _, rfl⟩ := List.mem_map.1 hu
  rfl
/-- The byte of a number. -/
def u8 (n : Int) : UInt8 := UInt8.ofNat (n % 256).toNat
theorem u8_cell (n : Int) : Value.int .u8 (n % 256) = bv (u8 n) := by
  have h0 : 0 ≤ n % 256 := Int.emod_nonneg _ (by decide)
  have h1 : n % 256 < 256 := Int.emod_lt_of_pos _ (by decide)
  have : ((u8 n).toNat : Int) = n % 256 := by
    unfold u8
    rw [UInt8.toNat_ofNat']
    omega
  rw [bv, this]
theorem u8_toNat (n : Int) : ((u8 n).toNat : Int) = n % 256 := by
  have h0 : 0 ≤ n % 256 := Int.emod_nonneg _ (by decide)
  have h1 : n % 256 < 256 := Int.emod_lt_of_pos _ (by decide)
  unfold u8
  rw [UInt8.toNat_ofNat']
  omega
theorem encB_set (bs : List UInt8) (k : Nat) (n : Int) : (encB bs).setIfInBounds k (.int .u8 (n % 256)) = encB (bs.set k (u8 n)) := by
  rw [u8_cell]
  simp [encB, List.map_set]
theorem encB_inj {a b : List UInt8} (h : encB a = encB b) : a = b := by
  have h' : a.map bv = b.map bv := by simpa [encB] using congrArg Array.toList h
  have hinj : ∀ x y : UInt8, bv x = bv y → x = y := by
    intro x y e
    simp only [bv, Value.int.injEq, true_and] at e
    exact UInt8.toNat_inj.1 (by omega)
  exact List.map_inj_right hinj |>.1 h'

/-- The number of four bytes. -/
def gB (bs : List UInt8) (k : Nat) : Int := ((bs.getD k 0).toNat : Int)
theorem gB_bd (bs : List UInt8) (k : Nat) : 0 ≤ gB bs k ∧ gB bs k < 256 := by
  have := (bs.getD k 0).toNat_lt
  unfold gB; omega
def get32 (bs : List UInt8) (p : Nat) : Int := gB bs p + 256 * gB bs (p + 1) + 65536 * gB bs (p + 2) + 16777216 * gB bs (p + 3)
theorem get32_bd (bs : List UInt8) (p : Nat) : 0 ≤ get32 bs p ∧ get32 bs p < 4294967296 := by
  have h0 := gB_bd bs p
  have h1 := gB_bd bs (p + 1)
  have h2 := gB_bd bs (p + 2)
  have h3 := gB_bd bs (p + 3)
  unfold get32; omega
def put32 (bs : List UInt8) (p : Nat) (v : Int) : List UInt8 := (((bs.set p (u8 v)).set (p + 1) (u8 (v / 256))).set (p + 2) (u8 (v / 65536))).set (p + 3) (u8 (v / 16777216))
theorem put32_len (bs : List UInt8) (p : Nat) (v : Int) : (put32 bs p v).length = bs.length := by simp [put32]

theorem or_join {x y : Int} (i : Nat) (hi : i ≤ 32) (hx0 : 0 ≤ x) (hx : x < 2 ^ i) (hy0 : 0 ≤ y) (hy : y % 2 ^ i = 0) (hy1 : y < 4294967296) : bits .or .u32 x y = x + y := by
  have hk : ∀ n : Int, 0 ≤ n → n < 2 ^ 32 → IntKind.u32.wrap n = n := fun n h0 h1 => by rw [IntKind.wrap_u32]; omega
  have hp : (2 : Int) ^ i ≤ 2 ^ 32 := by
    have : 2 ^ i ≤ 2 ^ 32 := Nat.pow_le_pow_right (by decide) hi
    exact_mod_cast this
  have e := bits_join .u32 32 (by decide) hk i y x hy0 hy (by omega) hx0 hx (by omega)
  have c : bits .or .u32 x y = bits .or .u32 y x := by
    unfold bits
    simp only [BitVec.or_comm]
  rw [c, e, Int.add_comm]

theorem or4 {a b c d : Int} (ha : 0 ≤ a ∧ a < 256) (hb : 0 ≤ b ∧ b < 256) (hc : 0 ≤ c ∧ c < 256) (hd : 0 ≤ d ∧ d < 256) :
    bits .or .u32 (bits .or .u32 (bits .or .u32 (bits .or .u32 0 a) (b * 256)) (c * 65536)) (d * 16777216) = a + 256 * b + 65536 * c + 16777216 * d := by
  have e0 : bits .or .u32 0 a = a := by rw [or_join 0 (by decide) (by omega) (by omega) ha.1 (by omega) (by omega)]; omega
  have e1 : bits .or .u32 a (b * 256) = a + b * 256 := or_join 8 (by decide) (by omega) (by omega) (by omega) (by omega) (by omega)
  have e2 : bits .or .u32 (a + b * 256) (c * 65536) = a + b * 256 + c * 65536 := or_join 16 (by decide) (by omega) (by omega) (by omega) (by omega) (by omega)
  have e3 : bits .or .u32 (a + b * 256 + c * 65536) (d * 16777216) = a + b * 256 + c * 65536 + d * 16777216 := or_join 24 (by decide) (by omega) (by omega) (by omega) (by omega) (by omega)
  rw [e0, e1, e2, e3]
  omega

theorem getD_set (bs : List UInt8) (i j : Nat) (x : UInt8) : (bs.set i x).getD j 0 = if i = j ∧ j < bs.length then x else bs.getD j 0 := by
  by_cases h : i = j
  · subst h
    by_cases hl : i < bs.length
    · simp [hl]
    · simp [hl]
  · simp [h]

theorem gB_set (bs : List UInt8) (i j : Nat) (n : Int) : gB (bs.set i (u8 n)) j = if i = j ∧ j < bs.length then n % 256 else gB bs j := by
  unfold gB
  rw [getD_set]
  split
  · exact u8_toNat n
  · rfl

theorem get32_put32 (bs : List UInt8) (p : Nat) (v : Int) (h : p + 4 ≤ bs.length) (h0 : 0 ≤ v) (h1 : v < 4294967296) : get32 (put32 bs p v) p = v := by
  unfold get32 put32
  simp only [gB_set, List.length_set]
  simp only [show ¬ (p + 3 = p) by omega, show ¬ (p + 2 = p) by omega, show ¬ (p + 1 = p) by omega, show ¬ (p + 3 = p + 1) by omega, show ¬ (p + 2 = p + 1) by omega, show ¬ (p + 3 = p + 2) by omega,
    show p < bs.length by omega, show p + 1 < bs.length by omega, show p + 2 < bs.length by omega, show p + 3 < bs.length by omega, and_self, if_true, if_false, false_and]
  omega

theorem get32_put32_other (bs : List UInt8) (p q : Nat) (v : Int) (h : q + 4 ≤ p ∨ p + 4 ≤ q) : get32 (put32 bs p v) q = get32 bs q := by
  have e : ∀ k, k < 4 → gB (put32 bs p v) (q + k) = gB bs (q + k) := by
    intro k hk
    unfold put32
    simp only [gB_set, List.length_set]
    rw [if_neg (by omega), if_neg (by omega), if_neg (by omega), if_neg (by omega)]
  have e0 := e 0 (by omega)
  have e1 := e 1 (by omega)
  have e2 := e 2 (by omega)
  have e3 := e 3 (by omega)
  simp only [Nat.add_zero] at e0
  unfold get32
  rw [e0, e1, e2, e3]
end Go.Proofs.Ytckadanghhibhaa
