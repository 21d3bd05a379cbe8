/- 'append' of whatever slice comes in, nil too, to a slice of the call's own. Over any program. -/
import Derived.Test.YtckadanghhibhaaSep3
import Derived.Laws.OwnMore
namespace Go.Proofs.Ytckadanghhibhaa
open Go Go.RowKit
/-- What a slice holds that is appended. -/
def News (w : World) (v : Value) (m : Nat) (news : List Value) : Prop := (v = .slice none 0 0 ∧ m = 0 ∧ news = []) ∨ ∃ ad c, v = .slice (some ad) m c ∧ ∀ j u, news[j]? = some u → w.cell? (ad.add j) = some u
theorem News.sub {w w' : World} {v : Value} {m : Nat} {news : List Value} (h : News w v m news) (hm : Below w.heap.size w w') : News w' v m news := by
  rcases h with h | ⟨ad, c, h1, h2⟩
  · exact .inl h
  · refine .inr ⟨ad, c, h1, fun j u hj => ?_⟩
    have hc := h2 j u hj
    have hlt : ad.block < w.heap.size := by
      have : (ad.add j).block = ad.block := by unfold Addr.add; split <;> rfl
      rw [← this]; exact block_lt_of_cell hc
    rw [World.cell?_of_block (w := w) (hm.block _ (by rw [show (ad.add j).block = ad.block by unfold Addr.add; split <;> rfl]; exact hlt))]
    exact hc
section
variable {P : Program} {ops : Array Oper} {rest : List Oper} {d : Option Tmp} {x y : Operand} {ty : TypeId} {pos : String} {af : Array Edge} {gd : Option (Nat × Bool)} {a : Act} {w w0 : World} {Q : Exit → Act → World → Prop} {S : Nat → Prop} {L : List Ass} {T : TypeId}
theorem sAppendA (hS : St S w0 w L) {s z : Operand} {t : TypeId} {e : TypeId} {zv : Value} {sz bytes : Nat} (ht : P.underlying t = some (.slice e)) (hi : (P.info? e).map (fun i => (i.zero, i.size, i.bytes)) = some (some zv, sz, bytes)) (hzs : zv.cells.size = sz) (hsz : 0 < sz)
    {v v2 : Value} {n m : Nat} {xs news : List Value} {L' : Value → List Ass} (hs : a.eval s = v) (r : ∀ v', Rep (.own v e sz n xs) (.own v' e sz (n + m) (xs ++ news)) L (L' v')) (hz : a.eval z = v2)
    (hnews : News w v2 m news) (hl : news.length = m * sz) (h1 : ∀ u ∈ news, u.oneCell' = true) (hb0 : 0 < bytes) (hbytes : (n + m) * bytes ≤ 140737488355328)
    (h : ∀ v' w', St S w0 w' (L' v') → wpList P ops Q rest (a.put d v') w') :
    wpList P ops Q (⟨d, .call { callee := .builtin .append, args := #[s, z], argTypes := #[t, t] }, ty, pos, af, none⟩ :: rest) a w := by
  rcases hnews with ⟨rfl, rfl, rfl⟩ | ⟨ad, c, rfl, hn⟩
  · obtain ⟨i0, hi0, _, hz1, _⟩ := info_parts hi
    have hown := hS.own (r v).mem
    have hr := run_append_owned_none (P := P) w 0 t ty e i0 sz ht hi0 v n xs hown
    have hS' := hS.rep (r v) rfl (fun k hk => .inl hk) (Mod.refl _ _) (show Ass.holds w (.own v e sz (n + 0) (xs ++ [])) by rw [Nat.add_zero, List.append_nil]; exact hS.hold _ (r v).mem)
    refine wpList_made (v := v) (w' := w) (by simp [Region.wanted]) ?_ (h v w hS')
    rw [BigFrame.execOp_builtin, BigFrame.builtin_append]
    simp only [List.map_toArray, List.map_cons, List.map_nil, hs, hz, hr, Sem.run_bind, Sem.run_pure, Result.andThen_ok]
  · exact sAppend hS ht hi hzs hsz hs r hz hl hn h1 hb0 hbytes (fun v' w' h' _ => h v' w' h')
end
end Go.Proofs.Ytckadanghhibhaa
