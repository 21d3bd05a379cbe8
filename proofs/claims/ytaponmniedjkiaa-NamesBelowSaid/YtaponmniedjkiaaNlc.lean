/- Lists of names that come in, and how they are counted. -/
import Derived.Test.YtaponmniedjkiaaNaw
import Derived.Test.YtaponmniedjkiaaSt1
import Derived.Test.YtaponmniedjkiaaArg
namespace Go.Proofs.Ytaponmniedjkiaa
open Go Go.RowKit

theorem cellsStr : Try.prog.cellsOf 9 = 1 := by kernel_rfl
theorem encS_flat (l : List (List UInt8)) : l.flatMap (fun x => [Value.string (mkB x)]) = encS l := by
  unfold encS
  induction l with
  | nil => rfl
  | cons x r ih => rw [List.flatMap_cons, ih]; rfl
theorem names_arg {w : World} {v : Value} (h : ArgIs Try.prog w 22 v) :
    ∃ (ad : Option Addr) (cap : Nat) (l : List (List UInt8)), v = .slice ad l.length cap ∧ l.length ≤ maxLen ∧ l.length ≤ cap ∧ (∀ x ∈ l, x.length ≤ maxLen) ∧ Txts w ad l ∧ (ad = none → l = []) := by
  obtain ⟨ad, cap, l, h1, h2, h4, _, hp, h3⟩ := slice_arg Try.underlying22 cellsStr (by omega) h (fun x : List UInt8 => [Value.string (mkB x)]) (fun x => x.length ≤ maxLen) (fun _ => rfl) (fun ecs he hr => by
    obtain ⟨b, hb, hbw⟩ := hr.string Try.underlying9
    subst hb
    exact ⟨b.data.toList, by rw [← Lib.size_eq]; exact hbw, by rw [mkB_data]⟩)
  rw [encS_flat] at h3
  refine ⟨ad, cap, l, h1, h2, h4, hp, h3, fun e => ?_⟩
  rcases h3 with h | ⟨A, o, h5, _⟩
  · exact h
  · rw [e] at h5; cases h5

theorem Txts.news {w : World} {a : Addr} {l : List (List UInt8)} (h : Txts w (some a) l) : ∀ j u, (encS l)[j]? = some u → w.cell? (a.add j) = some u := by
  intro j u hj
  rcases h with rfl | ⟨A, o, h1, h2⟩
  · simp [encS] at hj
  · obtain rfl := Option.some.inj h1
    rw [add_off]
    exact h2 j u hj
theorem Txts.sub {w w' : World} {ad : Option Addr} {l : List (List UInt8)} (h : Txts w ad l) (hm : Below w.heap.size w w') : Txts w' ad l := by
  rcases h with h | ⟨A, o, h1, h2⟩
  · exact .inl h
  · refine .inr ⟨A, o, h1, fun j v hj => ?_⟩
    have hc := h2 j v hj
    have hlt : A < w.heap.size := block_lt_of_cell hc
    rw [World.cell?_of_block (w := w) (hm.block A hlt)]
    exact hc
/-- How many bytes, each name's up to a bound. -/
def cnt (l : List (List UInt8)) : Nat := (l.map fun x => min x.length 20001).sum
theorem cnt_step {l : List (List UInt8)} {i : Nat} {x : List UInt8} (h : l[i]? = some x) : cnt (l.take (i + 1)) = cnt (l.take i) + min x.length 20001 := by
  unfold cnt
  rw [List.take_add_one, h]
  simp
theorem cnt_le : ∀ (l : List (List UInt8)), cnt l ≤ 20001 * l.length
  | [] => by simp [cnt]
  | x :: l => by
    have := cnt_le l
    unfold cnt at *
    simp only [List.map_cons, List.sum_cons, List.length_cons]
    omega
theorem cnt_take_le (l : List (List UInt8)) (i : Nat) : cnt (l.take i) ≤ 20001 * i := by
  have h1 := cnt_le (l.take i)
  have : (l.take i).length ≤ i := by rw [List.length_take]; omega
  omega
theorem cnt_lens : ∀ (l : List (List UInt8)), cnt l ≤ 20000 → (Lib.joinTail [47] l).length ≤ cnt l + l.length ∧ ∀ x ∈ l, x.length ≤ 20000
  | [], _ => ⟨by simp [Lib.joinTail], by simp⟩
  | x :: l, h => by
    have h0 : cnt (x :: l) = min x.length 20001 + cnt l := by simp [cnt]
    obtain ⟨h1, h2⟩ := cnt_lens l (by omega)
    refine ⟨?_, fun y hy => ?_⟩
    · rw [show Lib.joinTail [47] (x :: l) = ([47] ++ x) ++ Lib.joinTail [47] l from rfl, List.length_append, List.length_append]
      simp only [List.length_cons, List.length_nil]
      omega
    · rcases List.mem_cons.1 hy with rfl | hy
      · omega
      · exact h2 y hy
theorem cnt_path {l : List (List UInt8)} (h : cnt l ≤ 20000) : (pathOf l).length ≤ 20001 + l.length := by
  by_cases hl : l = []
  · subst hl; show (1 : Nat) ≤ _; omega
  · rw [jt_path hl]; have := (cnt_lens l h).1; omega
end Go.Proofs.Ytaponmniedjkiaa
