/- May a name be? What the library's search for a bad byte tells, of any bytes. -/
import Derived.Test.YtaponmniedjkiaaSep3
import Derived.Test.YtaponmniedjkiaaShelf
import Derived.Laws.RangeAny
import Derived.Lib.Builder
import Derived.Deep.QuietTactic
import Derived.BigQuiet
namespace Go.Proofs.Ytaponmniedjkiaa
open Go Go.RowKit

/-- A bad byte: / or 0. -/
def badB (c : UInt8) : Bool := c == 47 || c == 0
theorem bad_contains (c : UInt8) : ([47, 0] : List UInt8).contains c = badB c := by
  simp [badB, List.contains, List.elem, Bool.or_comm]
  cases h1 : c == 47 <;> cases h2 : c == 0 <;> rfl
theorem any_indexAny : ∀ l : List UInt8, Lib.containsAny l [47, 0] = l.any badB
  | [] => rfl
  | b :: l => by
    have ih := any_indexAny l
    have hg := Lib.indexAny_ge [47, 0] l
    unfold Lib.containsAny at *
    rw [List.any_cons, ← ih, ← bad_contains, show Lib.indexAny (b :: l) [47, 0] = (if ([47, 0] : List UInt8).contains b then 0 else if Lib.indexAny l [47, 0] == -1 then -1 else Lib.indexAny l [47, 0] + 1) from rfl]
    cases hb : ([47, 0] : List UInt8).contains b
    · simp only [Bool.false_eq_true, if_false, Bool.false_or]
      by_cases h : Lib.indexAny l [47, 0] = -1
      · rw [h]; rfl
      · rw [if_neg (by simpa using h)]
        have h1 : (0 : Int) ≤ Lib.indexAny l [47, 0] := by omega
        rw [decide_eq_true (by omega), decide_eq_true h1]
    · simp

/-- All bytes that a decoded rune of more than one byte takes are above 127. -/
theorem decode_wide (s : ByteArray) (pos : Nat) (h : pos < s.size) (ha : 128 ≤ (s[pos]'h).toNat) : ∀ j, j < (Utf8.decode s pos).2 → pos + j < s.size ∧ 128 ≤ (s.get! (pos + j)).toNat := by
  have hn : ¬ (s[pos]'h).toNat < 128 := by omega
  have h0 : 128 ≤ (s.get! (pos + 0)).toNat := by rw [get_at s pos h]; exact ha
  intro j hj
  simp only [Utf8.decode, get_at s pos h, hn, if_false] at hj
  have one : j < 1 → pos + j < s.size ∧ 128 ≤ (s.get! (pos + j)).toNat := fun h' => by
    obtain rfl : j = 0 := by omega
    exact ⟨by omega, h0⟩
  have c : ∀ k, (pos + k < s.size && (s.get! (pos + k)).toNat / 64 == 2) = true → pos + k < s.size ∧ 128 ≤ (s.get! (pos + k)).toNat := fun k hk => by
    simp only [Bool.and_eq_true, decide_eq_true_eq, beq_iff_eq] at hk
    omega
  split at hj
  · rename_i hc
    simp only [Bool.and_eq_true] at hc
    split at hj
    · rcases (by omega : j = 0 ∨ j = 1) with rfl | rfl
      · exact one (by omega)
      · exact c 1 (by simpa using hc.2)
    · exact one hj
  · split at hj
    · rename_i hc
      simp only [Bool.and_eq_true] at hc
      split at hj
      · rcases (by omega : j = 0 ∨ j = 1 ∨ j = 2) with rfl | rfl | rfl
        · exact one (by omega)
        · exact c 1 (by simpa using hc.1.2)
        · exact c 2 (by simpa using hc.2)
      · exact one hj
    · split at hj
      · rename_i hc
        simp only [Bool.and_eq_true] at hc
        split at hj
        · rcases (by omega : j = 0 ∨ j = 1 ∨ j = 2 ∨ j = 3) with rfl | rfl | rfl | rfl
          · exact one (by omega)
          · exact c 1 (by simpa using hc.1.1.2)
          · exact c 2 (by simpa using hc.1.2)
          · exact c 3 (by simpa using hc.2)
        · exact one hj
      · exact one hj
end Go.Proofs.Ytaponmniedjkiaa
