/- What is proved: what Unpack of the reference's grants computes. Conditions: the bytes lie in memory. -/
import Derived.Test.YtkicpmfhnngndaaGrantC
import Derived.Deep.RegionHeld3
import Derived.Deep.DrawnRows
set_option linter.unusedSimpArgs false
set_option linter.unusedVariables false
namespace Go.Proofs.Ytkicpmfhnngndaa
open Go.RowKit
attribute [local go_sem ↓] Go.wp_at_zero Go.wp_at_succ

theorem u8_nat {n : Nat} (h : n < 256) : IntKind.wrap .u8 (n : Int) = (n : Int) := IntWalk.u8_in _ (by omega)

section
variable {w : World}

set_option maxRecDepth 100000 in
set_option maxHeartbeats 8000000 in
theorem ref6_unpack_walk {a : Addr} {cp x0 x1 x2 x3 x4 x5 x6 x7 : Nat} (b0 : x0 < 256) (b1 : x1 < 256) (b2 : x2 < 256) (b3 : x3 < 256) (b4 : x4 < 256) (b5 : x5 < 256) (b6 : x6 < 256) (b7 : x7 < 256)
    (d0 : w.cell? a = some (.int .u8 (x0 : Int))) (d1 : w.cell? ⟨a.block, a.off + 1, none⟩ = some (.int .u8 (x1 : Int))) (d2 : w.cell? ⟨a.block, a.off + 2, none⟩ = some (.int .u8 (x2 : Int))) (d3 : w.cell? ⟨a.block, a.off + 3, none⟩ = some (.int .u8 (x3 : Int)))
    (d4 : w.cell? ⟨a.block, a.off + 4, none⟩ = some (.int .u8 (x4 : Int))) (d5 : w.cell? ⟨a.block, a.off + 5, none⟩ = some (.int .u8 (x5 : Int))) (d6 : w.cell? ⟨a.block, a.off + 6, none⟩ = some (.int .u8 (x6 : Int))) (d7 : w.cell? ⟨a.block, a.off + 7, none⟩ = some (.int .u8 (x7 : Int))) :
    Calls Try.prog 49 #[.slice (some a) 8 cp] w fun e w' => e = .returned (upV (unpackN (x0 + 256 * x1) (x2 + 256 * x3) (x4 + 256 * x5) x6 x7)) ∧ Keep [] w w' := by
  have ld : a.block < w.heap.size := by have := World.block_lt_of_cell? w _ d6; exact this
  have nd : ¬ a.block = w.heap.size := by omega
  by_cases h0 : 16 ≤ x0
  · rw [show unpackN (x0 + 256 * x1) (x2 + 256 * x3) (x4 + 256 * x5) x6 x7 = none by unfold unpackN; rw [if_pos (show 16 ≤ x0 + 256 * x1 ∨ _ from .inl (by omega)), if_pos (show 16 ≤ x0 + 256 * x1 ∨ _ from .inl (by omega))]; simp]
    have h0' : (16 : Int) ≤ (x0 : Int) := by omega
    go_enter Try.func49, Try.ntmps49
    go_wp2
    exact bodyPost_ret (v := (upV none)) (by simp [results, Try.results49, go_sem, upV, grZ, Gr.v]) rfl ⟨rfl, (by repeat (first | with_reducible exact Keep.refl _ _ | with_reducible assumption | with_reducible apply Keep.alloc | with_reducible apply Keep.drewN | with_reducible apply Keep.drew | (with_reducible refine Keep.setCell ?_ ?_ _) | focus (left; simp; done) | focus (right; simp; done) | focus (right; simp; omega)))⟩
  have h0' : (x0 : Int) < 16 := by omega
  by_cases h1 : x1 = 0
  case neg =>
    rw [show unpackN (x0 + 256 * x1) (x2 + 256 * x3) (x4 + 256 * x5) x6 x7 = none by unfold unpackN; rw [if_pos (show 16 ≤ x0 + 256 * x1 ∨ _ from .inl (by omega)), if_pos (show 16 ≤ x0 + 256 * x1 ∨ _ from .inl (by omega))]; simp]
    have h1' := bne_yes (show ¬ (x1 : Int) = 0 by omega)
    clear h1
    go_enter Try.func49, Try.ntmps49
    go_wp2
    exact bodyPost_ret (v := (upV none)) (by simp [results, Try.results49, go_sem, upV, grZ, Gr.v]) rfl ⟨rfl, (by repeat (first | with_reducible exact Keep.refl _ _ | with_reducible assumption | with_reducible apply Keep.alloc | with_reducible apply Keep.drewN | with_reducible apply Keep.drew | (with_reducible refine Keep.setCell ?_ ?_ _) | focus (left; simp; done) | focus (right; simp; done) | focus (right; simp; omega)))⟩
  subst h1
  by_cases h3 : x0 % 4 = 3
  · rw [show unpackN (x0 + 256 * 0) (x2 + 256 * x3) (x4 + 256 * x5) x6 x7 = none by unfold unpackN; rw [if_pos (show 16 ≤ x0 + 256 * 0 ∨ _ from .inr (.inl (by omega))), if_pos (show 16 ≤ x0 + 256 * 0 ∨ _ from .inr (by omega))]; simp]
    have h3' := beq_yes (show (x0 : Int) % 4 = 3 by omega)
    go_enter Try.func49, Try.ntmps49
    go_wp2
    exact bodyPost_ret (v := (upV none)) (by simp [results, Try.results49, go_sem, upV, grZ, Gr.v]) rfl ⟨rfl, (by repeat (first | with_reducible exact Keep.refl _ _ | with_reducible assumption | with_reducible apply Keep.alloc | with_reducible apply Keep.drewN | with_reducible apply Keep.drew | (with_reducible refine Keep.setCell ?_ ?_ _) | focus (left; simp; done) | focus (right; simp; done) | focus (right; simp; omega)))⟩
  have h3' := beq_no (show ¬ (x0 : Int) % 4 = 3 by omega)
  obtain ⟨kd, hkd⟩ : ∃ kd, kd = x0 % 4 := ⟨_, rfl⟩
  obtain ⟨q4, hq4⟩ : ∃ q4, q4 = x0 / 4 := ⟨_, rfl⟩
  obtain ⟨q8, hq8⟩ : ∃ q8, q8 = x0 / 8 := ⟨_, rfl⟩
  obtain ⟨r, hr⟩ : ∃ r, r = q4 % 2 := ⟨_, rfl⟩
  obtain ⟨y3, hy3⟩ : ∃ y3, y3 = 256 * x3 := ⟨_, rfl⟩
  obtain ⟨y5, hy5⟩ : ∃ y5, y5 = 256 * x5 := ⟨_, rfl⟩
  obtain ⟨dm, hdm⟩ : ∃ dm, dm = x2 + y3 := ⟨_, rfl⟩
  obtain ⟨gp, hgp⟩ : ∃ gp, gp = x4 + y5 := ⟨_, rfl⟩
  obtain ⟨ro, hro⟩ : ∃ ro, ro = decide (r = 1) := ⟨_, rfl⟩
  rw [← hy3, ← hy5, ← hdm, ← hgp]
  have v1 : (x0 : Int).tmod 4 = (kd : Int) := by rw [Int.tmod_eq_emod_of_nonneg (by omega)]; omega
  have v2 : IntKind.i64.wrap (kd : Int) = (kd : Int) := IntWalk.i64_in _ (by omega)
  have v3 : IntKind.u8.wrap ((x0 : Int) / 4) = (q4 : Int) := by rw [show (x0 : Int) / 4 = (q4 : Int) by omega]; exact u8_nat (by omega)
  have v4 : (q4 : Int).tmod 2 = (r : Int) := by rw [Int.tmod_eq_emod_of_nonneg (by omega)]; omega
  have v5 : ((r : Int) == 1) = ro := by rw [hro]; by_cases h : r = 1 <;> simp [h]; omega
  have v6 : IntKind.u8.wrap ((x0 : Int) / 8) = (q8 : Int) := by rw [show (x0 : Int) / 8 = (q8 : Int) by omega]; exact u8_nat (by omega)
  have v7 : IntKind.i64.wrap (x2 : Int) = (x2 : Int) := IntWalk.i64_in _ (by omega)
  have v8 : IntKind.i64.wrap (x3 : Int) = (x3 : Int) := IntWalk.i64_in _ (by omega)
  have v9 : IntKind.i64.wrap (x4 : Int) = (x4 : Int) := IntWalk.i64_in _ (by omega)
  have v10 : IntKind.i64.wrap (x5 : Int) = (x5 : Int) := IntWalk.i64_in _ (by omega)
  have v11 : IntKind.i64.wrap (256 * (x3 : Int)) = (y3 : Int) := by rw [show 256 * (x3 : Int) = (y3 : Int) by omega]; exact IntWalk.i64_in _ (by omega)
  have v12 : IntKind.i64.wrap (256 * (x5 : Int)) = (y5 : Int) := by rw [show 256 * (x5 : Int) = (y5 : Int) by omega]; exact IntWalk.i64_in _ (by omega)
  have v13 : IntKind.i64.wrap ((x2 : Int) + (y3 : Int)) = (dm : Int) := by rw [show (x2 : Int) + (y3 : Int) = (dm : Int) by omega]; exact IntWalk.i64_in _ (by omega)
  have v14 : IntKind.i64.wrap ((x4 : Int) + (y5 : Int)) = (gp : Int) := by rw [show (x4 : Int) + (y5 : Int) = (gp : Int) by omega]; exact IntWalk.i64_in _ (by omega)
  have hun : ∀ f6 f7, unpackN (x0 + 256 * 0) dm gp f6 f7 = if q8 = 1 then (if 256 < f6 + (f7 + 1) then none else some ⟨kd, ro, true, dm, gp, f6, f7 + 1⟩) else some ⟨kd, ro, false, dm, gp, 0, 256⟩ := by
    intro f6 f7
    unfold unpackN
    rw [Nat.mul_zero, Nat.add_zero]
    have e1 : decide (x0 / 4 % 2 = 1) = ro := by rw [hro, hr, hq4]
    by_cases h8 : q8 = 1
    · rw [if_pos (show x0 / 8 % 2 = 1 by omega), if_pos h8, e1, ← hkd]
      by_cases h9 : 256 < f6 + (f7 + 1)
      · rw [if_pos (.inr (.inr h9)), if_pos h9]
      · rw [if_neg (by omega), if_neg h9]
    · rw [if_neg (show ¬ x0 / 8 % 2 = 1 by omega), if_neg h8, e1, ← hkd, if_neg (by omega)]
  rw [hun]
  have h3k := beq_no (show ¬ (kd : Int) = 3 by omega)
  clear hun hkd hq4 hr hy3 hy5 hdm hgp hro h3
  by_cases hs : q8 = 1
  · have hs' := beq_yes (show (q8 : Int) = 1 by omega)
    have w6 : IntKind.i64.wrap (x6 : Int) = (x6 : Int) := IntWalk.i64_in _ (by omega)
    have w7 : IntKind.i64.wrap (x7 : Int) = (x7 : Int) := IntWalk.i64_in _ (by omega)
    rw [if_pos hs]
    clear hs hq8
    by_cases hc : 256 < x6 + (x7 + 1)
    · rw [if_pos hc]
      have hc' : (256 : Int) < (x6 : Int) + ((x7 : Int) + 1) := by omega
      clear hc
      go_enter Try.func49, Try.ntmps49
      go_wp2
      go_region_held3 (fun W => W.cell? a = some (.int .u8 (x0 : Int)) ∧ W.cell? ⟨a.block, a.off + 2, none⟩ = some (.int .u8 (x2 : Int)) ∧ W.cell? ⟨a.block, a.off + 3, none⟩ = some (.int .u8 (x3 : Int)) ∧ W.cell? ⟨a.block, a.off + 4, none⟩ = some (.int .u8 (x4 : Int)) ∧ W.cell? ⟨a.block, a.off + 5, none⟩ = some (.int .u8 (x5 : Int))) (go_keep) (fail)
      clear v1 v2 v3 v4 v5 v6 v7 v8 v9 v10 v11 v12 v13 v14
      go_wp2
      exact bodyPost_ret (v := (upV none)) (by simp [results, Try.results49, go_sem, upV, grZ, Gr.v]) rfl ⟨rfl, (by repeat (first | with_reducible exact Keep.refl _ _ | with_reducible assumption | with_reducible apply Keep.alloc | with_reducible apply Keep.drewN | with_reducible apply Keep.drew | (with_reducible refine Keep.setCell ?_ ?_ _) | focus (left; simp; done) | focus (right; simp; done) | focus (right; simp; omega)))⟩
    · rw [if_neg hc]
      have hc' : ¬ (256 : Int) < (x6 : Int) + ((x7 : Int) + 1) := by omega
      clear hc
      go_enter Try.func49, Try.ntmps49
      go_wp2
      go_region_held3 (fun W => W.cell? a = some (.int .u8 (x0 : Int)) ∧ W.cell? ⟨a.block, a.off + 2, none⟩ = some (.int .u8 (x2 : Int)) ∧ W.cell? ⟨a.block, a.off + 3, none⟩ = some (.int .u8 (x3 : Int)) ∧ W.cell? ⟨a.block, a.off + 4, none⟩ = some (.int .u8 (x4 : Int)) ∧ W.cell? ⟨a.block, a.off + 5, none⟩ = some (.int .u8 (x5 : Int))) (go_keep) (fail)
      clear v1 v2 v3 v4 v5 v6 v7 v8 v9 v10 v11 v12 v13 v14
      go_wp2
      exact bodyPost_ret (v := (upV (some ⟨kd, ro, true, dm, gp, x6, x7 + 1⟩))) (by simp [results, Try.results49, go_sem, upV, grZ, Gr.v]) rfl ⟨rfl, (by repeat (first | with_reducible exact Keep.refl _ _ | with_reducible assumption | with_reducible apply Keep.alloc | with_reducible apply Keep.drewN | with_reducible apply Keep.drew | (with_reducible refine Keep.setCell ?_ ?_ _) | focus (left; simp; done) | focus (right; simp; done) | focus (right; simp; omega)))⟩
  · have hs' := beq_no (show ¬ (q8 : Int) = 1 by omega)
    rw [if_neg hs]
    clear hs hq8
    go_enter Try.func49, Try.ntmps49
    go_wp2
    go_region_held3 (fun W => W.cell? a = some (.int .u8 (x0 : Int)) ∧ W.cell? ⟨a.block, a.off + 2, none⟩ = some (.int .u8 (x2 : Int)) ∧ W.cell? ⟨a.block, a.off + 3, none⟩ = some (.int .u8 (x3 : Int)) ∧ W.cell? ⟨a.block, a.off + 4, none⟩ = some (.int .u8 (x4 : Int)) ∧ W.cell? ⟨a.block, a.off + 5, none⟩ = some (.int .u8 (x5 : Int))) (go_keep) (fail)
    clear v1 v2 v3 v4 v5 v6 v7 v8 v9 v10 v11 v12 v13 v14
    go_wp2
    exact bodyPost_ret (v := (upV (some ⟨kd, ro, false, dm, gp, 0, 256⟩))) (by simp [results, Try.results49, go_sem, upV, grZ, Gr.v]) rfl ⟨rfl, (by repeat (first | with_reducible exact Keep.refl _ _ | with_reducible assumption | with_reducible apply Keep.alloc | with_reducible apply Keep.drewN | with_reducible apply Keep.drew | (with_reducible refine Keep.setCell ?_ ?_ _) | focus (left; simp; done) | focus (right; simp; done) | focus (right; simp; omega)))⟩
end

end Go.Proofs.Ytkicpmfhnngndaa
