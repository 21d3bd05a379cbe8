/- Bytes of a row of bytes: loads, texts that are made of them. Over any program. -/
import Derived.Test.YtdpbdmbgdcdmaaaArg
import Derived.Laws.IdiomStrings
namespace Go.Proofs.Ytdpbdmbgdcdmaaa
open Go Go.RowKit

/-- So many bytes from a place on, as a text. -/
def strB (bs : List UInt8) (o n : Nat) : ByteArray := ⟨((bs.drop o).take n).toArray⟩
theorem strB_list (bs : List UInt8) (o n : Nat) : (strB bs o n).data.toList = (bs.drop o).take n := rfl
theorem strB_size (bs : List UInt8) (o n : Nat) (h : o + n ≤ bs.length) : (strB bs o n).size = n := by
  show ((bs.drop o).take n).toArray.size = n
  rw [List.size_toArray, List.length_take, List.length_drop]; omega

section
variable {P : Program} {ops : Array Oper} {rest : List Oper} {d : Option Tmp} {x y : Operand} {ty : TypeId} {pos : String} {af : Array Edge} {gd : Option (Nat × Bool)} {a : Act} {w : World} {Q : Exit → Act → World → Prop} {T e TS E : TypeId} {B : Nat} {bs : List UInt8}

theorem encB_gB (bs : List UInt8) (k : Nat) (h : k < bs.length) : (encB bs)[k]? = some (.int .u8 (gB bs k)) := encB_get bs k h

/-- A byte of a row that is known by its heap. -/
theorem sByte (hB : w.heap[B]? = some (.cells (encB bs) E (0, 0))) (hT : Plain P T) {k : Nat} (hw : Region.wanted ⟨d, .load T x, ty, pos, af, gd⟩ (yielded ops a.tmps) = true) (hx : a.eval x = .pointer (some ⟨B, k, none⟩)) (hk : k < bs.length)
    (h : wpList P ops Q rest (a.put d (.int .u8 (gB bs k))) w) : wpList P ops Q (⟨d, .load T x, ty, pos, af, gd⟩ :: rest) a w :=
  wpList_val hw (by unfold execOp; simp only [hx, run_load1 w ⟨B, k, none⟩ _ ((cell_of_row w B k _ _ _ hB).trans (encB_gB bs k hk)), Sem.run_bind, Result.andThen_ok, Sem.run_pure]) h

theorem run_text (hs : P.underlying T = some (.slice e)) (he : P.underlying e = some (.int .u8)) (hd : P.underlying TS = some .string) (hB : w.heap[B]? = some (.cells (encB bs) E (0, 0))) (o n cap : Nat) (hn : o + n ≤ bs.length) :
    (convert T TS (.slice (some ⟨B, o, none⟩) n cap)).run P w = .ok (.string (strB bs o n)) w := by
  have hl : ((bs.drop o).take n).length = n := by rw [List.length_take, List.length_drop]; omega
  have h := run_convert_bytes_back (P := P) w T TS e ⟨B, o, none⟩ cap ((bs.drop o).take n) hs he hd (fun j hj => by
    rw [add_off, cell_of_row w B (o + j) _ _ _ hB, encB_gB bs (o + j) (by rw [hl] at hj; omega)]
    have h1 : ((bs.drop o).take n)[j] = bs.getD (o + j) 0 := by
      rw [List.getElem_take, List.getElem_drop, List.getD_eq_getElem?_getD, List.getElem?_eq_getElem (by rw [hl] at hj; omega)]
      rfl
    rw [h1]; rfl)
  rw [hl] at h
  exact h
/-- A text that is made of bytes. -/
theorem sText (hB : w.heap[B]? = some (.cells (encB bs) E (0, 0))) (hs : P.underlying T = some (.slice e)) (he : P.underlying e = some (.int .u8)) (hd : P.underlying TS = some .string) {o n cap : Nat} (hw : Region.wanted ⟨d, .convert T TS x, ty, pos, af, gd⟩ (yielded ops a.tmps) = true) (hx : a.eval x = .slice (some ⟨B, o, none⟩) n cap) (hn : o + n ≤ bs.length)
    (h : wpList P ops Q rest (a.put d (.string (strB bs o n))) w) : wpList P ops Q (⟨d, .convert T TS x, ty, pos, af, gd⟩ :: rest) a w :=
  wpList_val hw (by unfold execOp; simp only [hx, run_text hs he hd hB o n cap hn, Sem.run_bind, Result.andThen_ok, Sem.run_pure]) h
theorem sTextE (hB : w.heap[B]? = some (.cells (encB bs) E (0, 0))) (hs : P.underlying T = some (.slice e)) (he : P.underlying e = some (.int .u8)) (hd : P.underlying TS = some .string) {s : ByteArray} {o n cap : Nat} (hw : Region.wanted ⟨d, .convert T TS x, ty, pos, af, gd⟩ (yielded ops a.tmps) = true) (hx : a.eval x = .slice (some ⟨B, o, none⟩) n cap) (hn : o + n ≤ bs.length) (hse : strB bs o n = s)
    (h : wpList P ops Q rest (a.put d (.string s)) w) : wpList P ops Q (⟨d, .convert T TS x, ty, pos, af, gd⟩ :: rest) a w := by
  subst hse; exact sText hB hs he hd hw hx hn h
end
end Go.Proofs.Ytdpbdmbgdcdmaaa
