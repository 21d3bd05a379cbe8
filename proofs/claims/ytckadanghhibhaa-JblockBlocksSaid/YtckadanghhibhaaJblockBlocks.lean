/- A block that is read is written as just that block, and is of the kind that Kind tells. -/
import Derived.Test.YtckadanghhibhaaBlocksNone
import Derived.Test.YtckadanghhibhaaBlocksHead
import Derived.Test.YtckadanghhibhaaBlocksDesc
import Derived.Test.YtckadanghhibhaaBlocksRevoke
import Derived.Test.YtckadanghhibhaaBlocksCommit
namespace Go.Proofs.Ytckadanghhibhaa.jblockBlocks
open Go.RowKit Go.ChangeShapes Go.WideShapes Go.ChangeAt

theorem own : ownKnob Try.prog.godebug = none := by kernel_rfl
theorem laidOut : laidOutB Try.prog = true := by kernel_rfl

theorem walk (bs : List UInt8) (hl : bs.length = 256) (w : World) :
    Calls Try.prog 10 #[.agg (encB bs)] w fun e w' => e = .returned (.bool true) ∧ Below w.heap.size w w' := by
  have hb := kindB_bd bs
  rcases reads bs with ⟨h1, h2, h3, h4⟩ | ⟨s, t, h1, h2, h3, h4⟩ | ⟨s, l, h1, h2, h3, h4⟩ | ⟨s, l, h1, h2, h3, h4⟩ | ⟨s, c, m, h1, h2, h3, h4⟩
  · exact walk_none bs hl w (kindB bs).1 (kindB bs).2 hb.1 hb.2 rfl h1 h2 h3 h4
  · obtain ⟨hw, hk⟩ := head_of h1
    rw [hk] at hb
    exact walk_head bs hl w s t hb.1 hb.2 hk h1 h2 h3 h4 hw
  · obtain ⟨hw, hk, hbd, hc⟩ := desc_of h2
    rw [hk] at hb
    exact walk_desc bs hl w s l hbd (by omega) hb.1 hb.2 hk h1 h2 h3 h4 hw
  · obtain ⟨hw, hk, hbd, hc⟩ := revoke_of h3
    rw [hk] at hb
    exact walk_revoke bs hl w s l hbd (by omega) hb.1 hb.2 hk h1 h2 h3 h4 hw
  · obtain ⟨hw, hk, m0, m1⟩ := commit_of h4
    rw [hk] at hb
    exact walk_commit bs hl w s c m m0 m1 hb.1 hb.2 hk h1 h2 h3 h4 hw

set_option maxRecDepth 100000 in
theorem lifted (os : Os) (started : os.Started) (H : Type) (enc : TypeId × Value → H) :
    ReturnsInHanded {} Try.checked os 10 .any (Rows.jblockBlocksSpec.pre6 enc Try.prog Try.f10 Rows.jblockBlocksRow.domain false) (Rows.jblockBlocksSpec.post enc Try.prog Try.f10 false true false false) := by
  refine law_lift (C := Try.checked) own started (by kernel_rfl) Try.func10 laidOut rfl Try.underlying4 rfl ?hs (by kernel_rfl)
    (ChangeSpec.witness6 (enc := enc) (C := Try.checked) false ⟨#[], #[.agg (encB Z256)], []⟩ 8 (by kernel_rfl) (by kernel_rfl) (by kernel_rfl) (by kernel_rfl)) ?hwalk
  case hs =>
    intro ds h
    match ds, h with
    | [d0], _ => rfl
  case hwalk =>
    intro W args hn ha
    obtain ⟨l⟩ := args
    match l, hn with
    | [v0], _ =>
      obtain ⟨bs, hl, rfl⟩ := blk_arg (ha 0 _ _ rfl rfl)
      exact walk bs hl W

theorem over : Rows.jblockBlocksRow.holds Try.pinned (OpenSpec.ofChange Rows.jblockBlocksSpec) :=
  OpenClaim.holds_of_wide 10 Try.f10 rfl rfl rfl rfl rfl rfl rfl ⟨rfl, rfl, rfl, rfl, rfl⟩ rfl rfl rfl rfl rfl (by kernel_rfl) Try.func10 (by kernel_rfl)
    (of_decide_eq_true (by kernel_rfl)) (by unfold Func.isWrapper; first | (rw [if_pos (by decide +kernel)]; kernel_rfl) | (rw [if_neg (by decide +kernel)]; exact ⟨rfl, rfl⟩))
    (fun os started H enc _ => lifted os started H enc)

theorem proved : Rows.JblockBlocksSaid := over
#print axioms proved
end Go.Proofs.Ytckadanghhibhaa.jblockBlocks
