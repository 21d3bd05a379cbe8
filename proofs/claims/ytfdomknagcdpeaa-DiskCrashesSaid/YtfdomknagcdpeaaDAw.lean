/- What a disk that is awake does: some of the chapter's rows. -/
import Derived.Test.YtfdomknagcdpeaaDArg
import Derived.Test.YtfdomknagcdpeaaSlc
namespace Go.Proofs.Ytfdomknagcdpeaa
open Go Go.RowKit

theorem Dk.Ok.write {D : Dk} {n : Nat} (h : D.Ok n) {b : Int} (hb0 : 0 ≤ b) (hb1 : b < n) {x : List UInt8} (hx : x.length = 256) (h1 : D.wait.length < 1000000) (h2 : D.acts < 1000000) : (D.write b x).Ok n := by
  have hl0 : -1 ≤ D.act.left := by have := h.left0; unfold Dk.act; simp only []; split <;> omega
  have hl1 : D.act.left ≤ 9223372036854775807 := by have := h.left1; unfold Dk.act; simp only []; split <;> omega
  refine ⟨h.safeB, h.nowB.set hx _, fun q hq => ?_, ?_, h.safe, ?_, h.n0, h.n1, ?_, ?_, hl0, hl1⟩
  · rcases List.mem_append.1 hq with hq | hq
    · exact h.waitB q hq
    · simp at hq; subst hq; exact ⟨hb0, hb1, hx⟩
  · show (D.wait ++ _).length ≤ _; simp; omega
  · show (D.now.set _ _).length = n; rw [List.length_set]; exact h.now
  · show 0 ≤ D.acts + 1; have := h.acts0; omega
  · show D.acts + 1 ≤ 1000000; omega
theorem Dk.Ok.flush {D : Dk} {n : Nat} (h : D.Ok n) (h2 : D.acts < 1000000) : D.flush.Ok n := by
  have hl0 : -1 ≤ D.act.left := by have := h.left0; unfold Dk.act; simp only []; split <;> omega
  have hl1 : D.act.left ≤ 9223372036854775807 := by have := h.left1; unfold Dk.act; simp only []; split <;> omega
  refine ⟨applyW_256 _ (fun p hp => (h.waitB p hp).2.2) _ h.safeB, h.nowB, fun q hq => (by cases hq), by show ([] : List (Int × List UInt8)).length ≤ _; simp, (applyW_len _ _).trans h.safe, h.now, h.n0, h.n1, ?_, ?_, hl0, hl1⟩
  · show 0 ≤ D.acts + 1; have := h.acts0; omega
  · show D.acts + 1 ≤ 1000000; omega
theorem Dk.Ok.crash {D : Dk} {n : Nat} (h : D.Ok n) (keep : List Bool) : (D.crash keep).Ok n := by
  have hb : all256 (applyW (through keep D.wait) D.safe) := applyW_256 _ (fun p hp => (h.waitB p (through_mem hp)).2.2) _ h.safeB
  have hl : (applyW (through keep D.wait) D.safe).length = n := (applyW_len _ _).trans h.safe
  exact ⟨hb, hb, fun q hq => (by cases hq), by show ([] : List (Int × List UInt8)).length ≤ _; simp, hl, hl, h.n0, h.n1, h.acts0, h.acts1, by show (-1 : Int) ≤ -1; omega, by show (-1 : Int) ≤ _; omega⟩
section
variable {S : Nat → Prop} {w0 w : World} {R L : List Ass} {D : Dk} {n B g1 c1 g2 c2 : Nat} {vw : Value}
theorem dk_write_ok (HS : St S w0 w (diskA D n B g1 c1 g2 c2 vw ++ R)) (hok : D.Ok n) (b : Int) (x : List UInt8) (hx : x.length = 256) (hy : D.why n b = 0) :
    Calls Try.prog 24 #[.pointer (some ⟨B, 0, none⟩), .int .i64 b, .agg (encB x)] w fun e w' => ∃ vw', e = .returned (.int .i64 0) ∧ St S w0 w' (diskA (D.write b x) n B g1 c1 g2 c2 vw' ++ R) := by
  have h := dk_write HS hok b x hx
  rw [hy] at h
  exact h
theorem dk_read_ok (HS : St S w0 w (diskA D n B g1 c1 g2 c2 vw ++ R)) (hok : D.Ok n) (b : Int) (hy : D.why n b = 0) {x : List UInt8} (hx : D.now.getD b.toNat Z256 = x) :
    Calls Try.prog 19 #[.pointer (some ⟨B, 0, none⟩), .int .i64 b] w fun e w' => e = .returned (.tuple #[.agg (encB x), .int .i64 0]) ∧ St S w0 w' (diskA D n B g1 c1 g2 c2 vw ++ R) := by
  have h := dk_read HS hok b
  rw [hy, if_pos rfl, hx] at h
  exact h
end
def aw0 : Dk := newD (List.replicate 4 Z256)
def aw1 : Dk := aw0.write 1 (fillB 1)
def aw2 : Dk := aw1.write 1 (fillB 2)
def aw3 : Dk := aw2.write 2 (fillB 3)
def aw4 : Dk := aw3.crash [true, false, true]
theorem aw0_ok : aw0.Ok 4 := newD_ok (all256.rep 4) (by simp) (by omega) (by omega)
theorem aw1_ok : aw1.Ok 4 := aw0_ok.write (by omega) (by omega) (fillB_len _) (by decide) (by decide)
theorem aw2_ok : aw2.Ok 4 := aw1_ok.write (by omega) (by omega) (fillB_len _) (by decide) (by decide)
theorem aw3_ok : aw3.Ok 4 := aw2_ok.write (by omega) (by omega) (fillB_len _) (by decide) (by decide)
theorem aw4_ok : aw4.Ok 4 := aw3_ok.crash _
theorem aw0_w : aw0.why 4 1 = 0 := by decide
theorem aw1_w : aw1.why 4 1 = 0 := by decide
theorem aw2_w : aw2.why 4 2 = 0 := by decide
theorem aw3_w : aw3.why 4 1 = 0 := by decide
theorem aw4_w1 : aw4.why 4 1 = 0 := by decide
theorem aw4_w2 : aw4.why 4 2 = 0 := by decide
theorem aw3_n : (aw3.wait.length : Int) = 3 := rfl
theorem aw3_x : aw3.now.getD (1 : Int).toNat Z256 = fillB 2 := rfl
theorem aw4_y : aw4.now.getD (1 : Int).toNat Z256 = fillB 1 := rfl
theorem aw4_z : aw4.now.getD (2 : Int).toNat Z256 = fillB 3 := rfl
theorem encF (v : Int) : (encB (fillB v)).size = 256 := (encB_size _).trans (fillB_len v)
theorem infoBool : (Try.prog.info? 4).map (fun i => (i.zero, i.size)) = some (some (.bool false), 1) := by kernel_rfl
theorem aw_new {S : Nat → Prop} {w0 w : World} {L : List Ass} (HS : St S w0 w L) :
    Calls Try.prog 23 #[.int .i64 4] w fun e w' => ∃ B g1 c1 g2 c2, e = .returned (.tuple #[.pointer (some ⟨B, 0, none⟩), .int .i64 0]) ∧ St S w0 w' (diskA aw0 4 B g1 c1 g2 c2 (.slice none 0 0) ++ L) := dk_new HS (n := 4) (by omega) (by omega)
set_option maxRecDepth 100000 in
set_option maxHeartbeats 4000000 in
theorem awake_any {S : Nat → Prop} {w0 w : World} {L : List Ass} (HS : St S w0 w L) : Calls Try.prog 22 #[] w fun e w' => e = .returned (.bool true) ∧ St S w0 w' L := by
  go_enter Try.func22, Try.ntmps22
  go_wp2_with (fail)
  refine (aw_new HS).mono ?_
  rintro e w1 ⟨B, g1, c1, g2, c2, rfl, H1'⟩
  clear HS; have HS := H1'; clear H1'
  go_wp2_with (first | (go_at_call 14; refine (fill_any _ _ (by omega) (by omega)).mono ?_; rintro e w' ⟨rfl, H1'⟩; replace HS := HS.fresh H1'; clear H1'))
  refine (dk_write_ok HS aw0_ok 1 (fillB 1) (fillB_len 1) aw0_w).mono ?_
  rintro e w2 ⟨vw1, rfl, H1'⟩
  clear HS; have HS : St _ _ _ (diskA aw1 4 B g1 c1 g2 c2 vw1 ++ L) := H1'; clear H1'
  go_wp2_with (first | (go_at_call 14; refine (fill_any _ _ (by omega) (by omega)).mono ?_; rintro e w' ⟨rfl, H1'⟩; replace HS := HS.fresh H1'; clear H1'))
  refine (dk_write_ok HS aw1_ok 1 (fillB 2) (fillB_len 2) aw1_w).mono ?_
  rintro e w3 ⟨vw2, rfl, H1'⟩
  clear HS; have HS : St _ _ _ (diskA aw2 4 B g1 c1 g2 c2 vw2 ++ L) := H1'; clear H1'
  go_wp2_with (first | (go_at_call 14; refine (fill_any _ _ (by omega) (by omega)).mono ?_; rintro e w' ⟨rfl, H1'⟩; replace HS := HS.fresh H1'; clear H1'))
  refine (dk_write_ok HS aw2_ok 2 (fillB 3) (fillB_len 3) aw2_w).mono ?_
  rintro e w4 ⟨vw3, rfl, H1'⟩
  clear HS; have HS : St _ _ _ (diskA aw3 4 B g1 c1 g2 c2 vw3 ++ L) := H1'; clear H1'
  go_wp2_with (fail)
  refine (dk_waiting (D := aw3) (n := 4) HS).mono ?_
  rintro e w5 ⟨rfl, rfl⟩
  rw [aw3_n]
  go_wp2_with (fail)
  refine (dk_read_ok HS aw3_ok 1 aw3_w aw3_x).mono ?_
  rintro e w6 ⟨rfl, H1'⟩
  clear HS; have HS := H1'; clear H1'
  go_wp2_with (first | ((with_reducible apply sAlloc HS); infer_instance; (first | exact cells_agg _ | exact cells_one rfl); rfl; intro BX w' H1; clear HS; have HS := H1; clear H1) | ((with_reducible apply sStoreB HS); infer_instance; rfl; rfl; (conv => (lhs; whnf)); (repeat (first | exact Rep.here | apply Rep.there)); exact encF _; exact zB_size; exact encB_one _; intro w' H1; clear HS; have HS := H1; clear H1) | ((with_reducible apply sMany HS Try.underlying40 infoBool); decide; decide; rfl; rfl; rfl; intro BK w' H1; clear HS; have HS := H1; clear H1))
  replace HS := HS.alloc #[.bool true, .bool false, .bool true] 4
  refine (dk_crash (D := aw3) (n := 4) (HS.back (F := [_, _]) (D := diskA aw3 4 B g1 c1 g2 c2 vw3)) aw3_ok [true, false, true] _ 3 (by decide) (.inr ⟨_, _, rfl, fun w' hC => hd_blk hC (.head _)⟩)).mono ?_
  rintro e w7 ⟨vw4, rfl, H1'⟩
  clear HS; have HS : St _ _ _ (diskA aw4 4 B g1 c1 g2 c2 vw4 ++ _) := H1'; clear H1'
  go_wp2_with (fail)
  refine (dk_read_ok HS aw4_ok 1 aw4_w1 aw4_y).mono ?_
  rintro e w8 ⟨rfl, H1'⟩
  clear HS; have HS := H1'; clear H1'
  go_wp2_with (first | ((with_reducible apply sAlloc HS); infer_instance; (first | exact cells_agg _ | exact cells_one rfl); rfl; intro BY w' H1; clear HS; have HS := H1; clear H1) | ((with_reducible apply sStoreB HS); infer_instance; rfl; rfl; (conv => (lhs; whnf)); (repeat (first | exact Rep.here | apply Rep.there)); exact encF _; exact zB_size; exact encB_one _; intro w' H1; clear HS; have HS := H1; clear H1))
  refine (dk_read_ok (D := aw4) (n := 4) HS.back1 aw4_ok 2 aw4_w2 aw4_z).mono ?_
  rintro e w9 ⟨rfl, H1'⟩
  clear HS; have HS := H1'; clear H1'
  go_wp2_with (first | ((with_reducible apply sAlloc HS); infer_instance; (first | exact cells_agg _ | exact cells_one rfl); rfl; intro BZ w' H1; clear HS; have HS := H1; clear H1) | ((with_reducible apply sStoreB HS); infer_instance; rfl; rfl; (conv => (lhs; whnf)); (repeat (first | exact Rep.here | apply Rep.there)); exact encF _; exact zB_size; exact encB_one _; intro w' H1; clear HS; have HS := H1; clear H1))
  (try simp only [Act.put])
  refine wp_region_quietF (by kernel_rfl) (by kernel_rfl) ?_
  repeat (first | go_big_quiet_skip | (((with_reducible apply qLoadB HS); infer_instance; rfl; rfl; (repeat (first | exact List.Mem.head _ | apply List.Mem.tail)); exact encF _); (try simp only [Act.put, List.setIfInBounds_toArray, List.set_cons_zero, List.set_cons_succ])) | (((with_reducible apply qEqB blkT); rfl; rfl; rfl; exact fillB_len _; exact fillB_len _; rw [show (fillB _ == fillB _) = true by simp]); (try simp only [Act.put, List.setIfInBounds_toArray, List.set_cons_zero, List.set_cons_succ])) | (go_big_quiet_want; go_big_quiet_op; first | go_big_quiet_on | (refine ⟨_, fun _ _ => rfl, ?_⟩; go_big_quiet_on) | (apply Exists.intro; refine ⟨fun wc hfr => ?_, ?_⟩; (· (go_at_call 14; exact fr_call hfr (fill_any _ _ (by omega) (by omega)))); go_big_quiet_on)))
  refine wpQuiet_nil ?_
  intro w1 hm1
  replace HS := HS.fresh hm1
  clear hm1
  go_wp2
  go_ret
  refine ⟨rfl, HS.sub ?_⟩
  repeat (first | exact List.Sublist.refl _ | apply List.Sublist.cons)
end Go.Proofs.Ytfdomknagcdpeaa
