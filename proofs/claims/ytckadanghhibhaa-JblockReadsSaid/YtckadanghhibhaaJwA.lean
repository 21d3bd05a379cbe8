/- Lists of tags and of numbers, come in or the call's own. -/
import Derived.Test.YtckadanghhibhaaRwd
import Derived.Test.YtckadanghhibhaaJsame
import Derived.Test.YtckadanghhibhaaAppA
namespace Go.Proofs.Ytckadanghhibhaa
open Go Go.RowKit Go.ChangeShapes Go.WideShapes Go.ChangeAt
instance : Row Try.prog 24 2 := row_mk Try.underlying24 rfl (by kernel_rfl)
theorem infoT1 : (Try.prog.info? 55).map (·.size) = some 2 := by kernel_rfl
theorem infoN1 : (Try.prog.info? 22).map (·.size) = some 1 := by kernel_rfl
theorem tag_one (l : List (Int × Bool)) : ∀ v ∈ encTl l, v.oneCell' = true := by
  intro v hv
  unfold encTl encT at hv
  simp only [List.toList_toArray] at hv
  obtain ⟨p, _, hv⟩ := List.mem_flatMap.1 hv
  simp at hv
  rcases hv with rfl | rfl <;> rfl
theorem tags_own {S : Nat → Prop} {w0 w : World} {L : List Ass} (HS : St S w0 w L) {a : Option Addr} {n cap : Nat} {l : List (Int × Bool)} (hm : Ass.own (.slice a n cap) 55 2 n (encTl l) ∈ L) (hn : n = l.length) (hb : ∀ k, 0 ≤ (l.getD k (0, false)).1 ∧ (l.getD k (0, false)).1 < 4294967296) : TagsAt w a n l := by
  by_cases h0 : n = 0
  · exact ⟨hn, hb, 0, 0, .inl h0, fun k hk => by omega⟩
  · obtain ⟨g, cap', e, _⟩ := own_row (HS.own hm) (by omega)
    obtain ⟨rfl, rfl⟩ : a = some ⟨g, 0, none⟩ ∧ cap = cap' := by simpa using e
    have hr := HS.ownRange hm
    refine ⟨hn, hb, g, 0, .inr ⟨rfl, HS.lt hm g rfl⟩, fun k hk => ⟨?_, ?_⟩⟩
    · exact hr _ _ (encTl_get1 hk)
    · rw [Nat.add_assoc]; exact hr _ _ (encTl_get2 hk)
theorem nums_own {S : Nat → Prop} {w0 w : World} {L : List Ass} (HS : St S w0 w L) {a : Option Addr} {n cap : Nat} {l : List Int} (hm : Ass.own (.slice a n cap) 22 1 n (encI l) ∈ L) (hn : n = l.length) (hb : ∀ k, 0 ≤ l.getD k 0 ∧ l.getD k 0 < 4294967296) : NumsAt w a n l := by
  by_cases h0 : n = 0
  · exact ⟨hn, hb, 0, 0, .inl h0, fun k hk => by omega⟩
  · obtain ⟨g, cap', e, _⟩ := own_row (HS.own hm) (by omega)
    obtain ⟨rfl, rfl⟩ : a = some ⟨g, 0, none⟩ ∧ cap = cap' := by simpa using e
    have hr := HS.ownRange hm
    exact ⟨hn, hb, g, 0, .inr ⟨rfl, HS.lt hm g rfl⟩, fun k hk => hr _ _ (encI_get hk)⟩
theorem tags_news {w : World} {a : Option Addr} {n cap : Nat} {l : List (Int × Bool)} (h : TagsAt w a n l) (h0 : a = none → n = 0 ∧ cap = 0) : News w (.slice a n cap) n (encTl l) := by
  cases a with
  | none =>
    obtain ⟨rfl, rfl⟩ := h0 rfl
    have : l = [] := List.eq_nil_of_length_eq_zero h.1.symm
    subst this
    exact .inl ⟨rfl, rfl, rfl⟩
  | some ad =>
    refine .inr ⟨ad, cap, rfl, fun j u hj => ?_⟩
    have hjl := (List.getElem?_eq_some_iff.1 hj).1
    rw [encTl_len, ← h.1] at hjl
    obtain ⟨L, o, e, hr⟩ := h.range (by omega)
    obtain rfl := Option.some.inj e
    rw [add_off]
    exact hr j u hj
theorem nums_news {w : World} {a : Option Addr} {n cap : Nat} {l : List Int} (h : NumsAt w a n l) (h0 : a = none → n = 0 ∧ cap = 0) : News w (.slice a n cap) n (encI l) := by
  cases a with
  | none =>
    obtain ⟨rfl, rfl⟩ := h0 rfl
    have : l = [] := List.eq_nil_of_length_eq_zero h.1.symm
    subst this
    exact .inl ⟨rfl, rfl, rfl⟩
  | some ad =>
    refine .inr ⟨ad, cap, rfl, fun j u hj => ?_⟩
    have hjl := (List.getElem?_eq_some_iff.1 hj).1
    rw [encI_len, ← h.1] at hjl
    obtain ⟨L, o, e, hr⟩ := h.range (by omega)
    obtain rfl := Option.some.inj e
    rw [add_off]
    exact hr j u hj
theorem tags_in {w : World} {v : Value} (h : ArgIs Try.prog w 25 v) : ∃ a n cap l, v = .slice a n cap ∧ TagsAt w a n l ∧ (a = none → n = 0 ∧ cap = 0) := by
  rcases h.slice Try.underlying25 with rfl | ⟨a, n, cap, rfl, _⟩
  · exact ⟨none, 0, 0, [], rfl, tagsAt_nil, fun _ => ⟨rfl, rfl⟩⟩
  · obtain ⟨a2, n2, cap2, l, e, _, ht⟩ := tags_arg h
    obtain ⟨rfl, rfl, rfl⟩ : a2 = some a ∧ n2 = n ∧ cap2 = cap := by simpa using e.symm
    exact ⟨_, _, _, l, rfl, ht, fun e => by cases e⟩
theorem nums_in {w : World} {v : Value} (h : ArgIs Try.prog w 26 v) : ∃ a n cap l, v = .slice a n cap ∧ NumsAt w a n l ∧ (a = none → n = 0 ∧ cap = 0) := by
  rcases h.slice Try.underlying26 with rfl | ⟨a, n, cap, rfl, _⟩
  · exact ⟨none, 0, 0, [], rfl, numsAt_nil, fun _ => ⟨rfl, rfl⟩⟩
  · obtain ⟨a2, n2, cap2, l, e, _, ht⟩ := nums_arg h
    obtain ⟨rfl, rfl, rfl⟩ : a2 = some a ∧ n2 = n ∧ cap2 = cap := by simpa using e.symm
    exact ⟨_, _, _, l, rfl, ht, fun e => by cases e⟩
theorem TagsAt.sub {w w' : World} {a : Option Addr} {n : Nat} {l : List (Int × Bool)} (h : TagsAt w a n l) (m : Mod none' w w') : TagsAt w' a n l := h.mod m

end Go.Proofs.Ytckadanghhibhaa
