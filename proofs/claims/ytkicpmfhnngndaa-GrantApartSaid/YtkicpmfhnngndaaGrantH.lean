/- What is proved: what Push of grant computes, with a view without rewrites. Conditions: the grants, the machine, the view lie in memory. -/
import Derived.Test.YtkicpmfhnngndaaGrantG
import Derived.Deep.RegionHeld3
import Derived.Deep.DrawnRows
set_option linter.unusedSimpArgs false
set_option linter.unusedVariables false
namespace Go.Proofs.Ytkicpmfhnngndaa
open Go.RowKit
attribute [local go_sem ↓] Go.wp_at_zero Go.wp_at_succ

section
variable {w w' : World} {bg b1 b2 bm bf bv bd nv : Nat} {m : Mach} {mem : List (Int × (Int × Nat))} {mp : List ((Int × Int) × Value)} {S : List Nat}

set_option maxRecDepth 100000 in
set_option maxHeartbeats 8000000 in
/-- Where the end is refused. -/
theorem grant_push_no (gr : Bool) (caller dom ref gpfn off : Int) (A : Option Addr) (n c : Nat) {s0 s1 s2 : Int} {k : Nat} (hs : s2 ≠ 0) (hbv : bv < w.heap.size) (hbd : bd < w.heap.size)
    (HF : ∀ W, Keep [] w W → Calls Try.prog 87 #[.pointer (some ⟨bg, 0, none⟩), .pointer (some ⟨bv, 0, none⟩), .int .i64 caller, endV gr dom ref gpfn off, .int .i64 (n : Int), .bool true] W fun e w' => e = .returned (spotV (s0, s1, s2)) ∧ Keep [bv] W w' ∧ ViewTo w' bv bd bm k) :
    Calls Try.prog 46 #[.pointer (some ⟨bg, 0, none⟩), .pointer (some ⟨bv, 0, none⟩), .int .i64 caller, endV gr dom ref gpfn off, .slice A n c] w fun e w' =>
      e = .returned (.int .i64 s2) ∧ Keep [bv] w w' ∧ ViewTo w' bv bd bm k := by
  have HF := Lib.hid HF
  have hs' := bne_yes hs
  clear hs
  unfold endV at HF ⊢
  unfold spotV at HF
  go_enter Try.func46, Try.ntmps46
  go_wp2_with (first
    | (go_at_call 87; refine (HF.out _ (by repeat (first | with_reducible exact Keep.refl _ _ | with_reducible assumption | with_reducible apply Keep.alloc | with_reducible apply Keep.drewN | with_reducible apply Keep.drew | (with_reducible refine Keep.setCell ?_ ?_ _) | focus (left; simp; done) | focus (right; simp; done) | focus (right; simp; omega)))).mono ?_; rintro e w1 ⟨rfl, HK, HVV⟩))
  go_ret
  have k4 : Keep [bv] w w1 := ((Keep.refl [bv] w).alloc _).trans HK
  obtain ⟨kk, hkk, hvv⟩ := HVV
  exact ⟨rfl, (by repeat (first | with_reducible exact Keep.refl _ _ | with_reducible assumption | with_reducible apply Keep.alloc | with_reducible apply Keep.drewN | with_reducible apply Keep.drew | (with_reducible refine Keep.setCell ?_ ?_ _) | focus (left; simp; done) | focus (right; simp; done) | focus (right; simp; omega))), hvv.to (S := []) hkk (by repeat (first | with_reducible exact Keep.refl _ _ | with_reducible assumption | with_reducible apply Keep.alloc | with_reducible apply Keep.drewN | with_reducible apply Keep.drew | (with_reducible refine Keep.setCell ?_ ?_ _) | focus (left; simp; done) | focus (right; simp; done) | focus (right; simp; omega))) (by simp) (by simp)⟩

set_option maxRecDepth 100000 in
set_option maxHeartbeats 8000000 in
/-- Where the end is a frame of a kind that is written. -/
theorem grant_push_yes (h : GHead w bg b1 b2 bm mem mp) (hp : PhysAt w bm bf m) (hvf : bv ≠ bf) (hvm : bv ≠ bm) (hg1 : bg ≠ bv) (gr : Bool) (caller dom ref gpfn off : Int) {mf so n c : Nat} {A : Option Addr} {N : Nat → Prop} {l : List UInt8} (hln : l.length = n) (hl : BytesAt w N A l) (hN : ¬ N bv) {f : Fr} (hk : m[mf]? = some f) (ho : f.o ≠ -1) (h2 : f.ty ≠ 2) (h3 : f.ty ≠ 3) (h4 : so + n ≤ 256) {k : Nat} (hbv : bv < w.heap.size) (hbd : bd < w.heap.size)
    (HF : ∀ W, Keep [] w W → Calls Try.prog 87 #[.pointer (some ⟨bg, 0, none⟩), .pointer (some ⟨bv, 0, none⟩), .int .i64 caller, endV gr dom ref gpfn off, .int .i64 (n : Int), .bool true] W fun e w' => e = .returned (spotV ((mf : Int), (so : Int), 0)) ∧ Keep [bv] W w' ∧ ViewTo w' bv bd bm k) :
    Calls Try.prog 46 #[.pointer (some ⟨bg, 0, none⟩), .pointer (some ⟨bv, 0, none⟩), .int .i64 caller, endV gr dom ref gpfn off, .slice A n c] w fun e w' =>
      e = .returned (.int .i64 0) ∧ PhysAt w' bm bf (m.set mf { f with b := laid f.b so l }) ∧ Keep [bv, bf] w w' := by
  have HF := Lib.hid HF
  have HW := Lib.hid (show ∀ (W : World), Keep [bv] w W → _ from fun W kw => phys_write_some (c := c) (hp.keep kw (by simpa using fun e => hvm e.symm) (by simpa using fun e => hvf e.symm)) hk ho (off := so) (by omega) (hl.keep kw (by simpa using hN)))
  have HR := Lib.hid (show ∀ (W : World), Keep [bv] w W → _ from fun W kw => phys_frame (hp.keep kw (by simpa using fun e => hvm e.symm) (by simpa using fun e => hvf e.symm)) (mf : Int))
  have HV : Hid (m.frameV (mf : Int) = .tuple #[f.head, .int .i64 0]) := by show _ = _; simp [Mach.frameV, Mach.idx_cast, hk]
  rw [hln] at HW
  have h2' := beq_no h2
  have h3' := beq_no h3
  have lg := h.hd.lt
  have c0 := h.c0
  clear hk ho h2 h3 h4 hl hln
  unfold endV at HF ⊢
  unfold spotV at HF
  unfold Fr.head at HV
  go_enter Try.func46, Try.ntmps46
  go_wp2_with (first
    | (go_at_call 87; refine (HF.out _ (by repeat (first | with_reducible exact Keep.refl _ _ | with_reducible assumption | with_reducible apply Keep.alloc | with_reducible apply Keep.drewN | with_reducible apply Keep.drew | (with_reducible refine Keep.setCell ?_ ?_ _) | focus (left; simp; done) | focus (right; simp; done) | focus (right; simp; omega)))).mono ?_; rintro e w1 ⟨rfl, HK, HVV⟩
       have k1 : Keep [bv] w w1 := ((Keep.refl [bv] w).alloc _).trans HK
       have c01 := k1.cell_some c0 (by simpa using hg1)
       have lg1 : bg < w1.heap.size := Nat.lt_of_lt_of_le lg k1.size))
  have lsz : w1.heap.size < (w1.alloc (.cells #[.int .i64 (mf : Int), .int .i64 (so : Int)] 182)).heap.size := by simp
  have hs0 := (Blk.new w1 182 [.int .i64 (mf : Int), .int .i64 (so : Int)]).cell
  have hs1 := hs0 0
  have hs2 := hs0 1
  simp only [List.getElem?_cons_zero, List.getElem?_cons_succ] at hs1 hs2
  have c02 := k1.cell_some c0 (by simpa using hg1)
  have hcc : (w1.alloc (.cells #[.int .i64 (mf : Int), .int .i64 (so : Int)] 182)).cell? ⟨bg, 0, none⟩ = some (.pointer (some ⟨bm, 0, none⟩)) := ((Keep.refl [] _).alloc _).cell_some c02 (by simp)
  clear hs0
  generalize hW : w1.alloc (.cells #[.int .i64 (mf : Int), .int .i64 (so : Int)] 182) = wa at hs1 hs2 hcc lsz ⊢
  have ka : Keep [bv] w wa := by rw [← hW]; exact k1.alloc _
  have la : bg < wa.heap.size := by omega
  have hw1 := k1.size
  have hwf : w1.heap.size ≠ bf := by have := hp.ltf; omega
  have hgf : bg ≠ bf := by obtain ⟨c1, r1, x, y⟩ := hp.ex; exact h.hd.ne_ y (by decide)
  have hwa := ka.size
  have lb : w1.heap.size < wa.heap.size := lsz
  clear hW c01 c02
  have n1 := World.new_ne wa _ hs1
  have n2 := World.new_ne wa _ hs2
  have n3 := World.new_ne wa _ hcc
  go_region_held3 (fun W => W.cell? ⟨bg, 0, none⟩ = some (.pointer (some ⟨bm, 0, none⟩)) ∧ W.cell? ⟨w1.heap.size, 0, none⟩ = some (.int .i64 (mf : Int)) ∧ W.cell? ⟨w1.heap.size, 1, none⟩ = some (.int .i64 (so : Int)))
    (go_keep)
    (((go_at_call 11; refine (HR.out _ (by repeat (first | with_reducible exact Keep.refl _ _ | with_reducible assumption | with_reducible apply Keep.alloc | with_reducible apply Keep.drewN | with_reducible apply Keep.drew | (with_reducible refine Keep.setCell ?_ ?_ _) | focus (left; simp; done) | focus (right; simp; done) | focus (right; simp; omega)))).mono ?_; rw [HV.out]; rintro e w2 ⟨rfl, HK2⟩
       have q1 : w2.cell? ⟨bg, 0, none⟩ = some (.pointer (some ⟨bm, 0, none⟩)) := HK2.cell_some (p := ⟨bg, 0, none⟩) (by go_keep) (by simp)
       have q2 : w2.cell? ⟨w1.heap.size, 0, none⟩ = some (.int .i64 (mf : Int)) := HK2.cell_some (p := ⟨w1.heap.size, 0, none⟩) (by go_keep) (by simp)
       have q3 : w2.cell? ⟨w1.heap.size, 1, none⟩ = some (.int .i64 (so : Int)) := HK2.cell_some (p := ⟨w1.heap.size, 1, none⟩) (by go_keep) (by simp)
       have n11 := World.new_ne w2 _ q1
       have n12 := World.new_ne w2 _ q2
       have k2 : Keep [bv] w w2 := ka.trans (Keep.trans (by repeat (first | with_reducible exact Keep.refl _ _ | with_reducible assumption | with_reducible apply Keep.alloc | with_reducible apply Keep.drewN | with_reducible apply Keep.drew | (with_reducible refine Keep.setCell ?_ ?_ _) | focus (left; simp; done) | focus (right; simp; done) | focus (right; simp; omega))) (HK2.mono (by simp)))
       try (have hb2 : Blk w2 wa.heap.size 46 [.int .i64 0, .int .i64 0, .int .i64 0, .int .i64 0] := by
              have hb0 : Blk (wa.alloc (.cells #[.int .i64 0, .int .i64 0, .int .i64 0, .int .i64 0] 46)).drew wa.heap.size 46 [.int .i64 0, .int .i64 0, .int .i64 0, .int .i64 0] := Blk.new wa 46 [.int .i64 0, .int .i64 0, .int .i64 0, .int .i64 0]
              exact hb0.keep HK2 (by simp)
            have d0 : w2.cell? ⟨wa.heap.size, 0, none⟩ = some (.int .i64 0) := hb2.cell 0
            have d1 : w2.cell? ⟨wa.heap.size, 1, none⟩ = some (.int .i64 0) := hb2.cell 1
            have d2 : w2.cell? ⟨wa.heap.size, 2, none⟩ = some (.int .i64 0) := hb2.cell 2
            have d3 : w2.cell? ⟨wa.heap.size, 3, none⟩ = some (.int .i64 0) := hb2.cell 3
            have hf2 := hb2.frozen
            have hs2 := hb2.lt
            have hn2 : ¬ bg = wa.heap.size := by omega
            have hn3 : ¬ w1.heap.size = wa.heap.size := by omega))))
  all_goals
    go_wp2
    go_region_held3 (fun W => W.cell? ⟨bg, 0, none⟩ = some (.pointer (some ⟨bm, 0, none⟩)) ∧ W.cell? ⟨w1.heap.size, 0, none⟩ = some (.int .i64 (mf : Int)) ∧ W.cell? ⟨w1.heap.size, 1, none⟩ = some (.int .i64 (so : Int)))
      (go_keep)
      (((go_at_call 15; refine (HW.out _ (by repeat (first | with_reducible exact Keep.refl _ _ | with_reducible assumption | with_reducible apply Keep.alloc | with_reducible apply Keep.drewN | with_reducible apply Keep.drew | (with_reducible refine Keep.setCell ?_ ?_ _) | focus (left; simp; done) | focus (right; simp; done) | focus (right; simp; omega)))).mono ?_; rintro e w4 ⟨rfl, HP4, HK4⟩
         have r1 : w4.cell? ⟨bg, 0, none⟩ = some (.pointer (some ⟨bm, 0, none⟩)) := HK4.cell_some (p := ⟨bg, 0, none⟩) (by go_keep) (by simpa using hgf)
         have r2 : w4.cell? ⟨w1.heap.size, 0, none⟩ = some (.int .i64 (mf : Int)) := HK4.cell_some (p := ⟨w1.heap.size, 0, none⟩) (by go_keep) (by simpa using hwf)
         have r3 : w4.cell? ⟨w1.heap.size, 1, none⟩ = some (.int .i64 (so : Int)) := HK4.cell_some (p := ⟨w1.heap.size, 1, none⟩) (by go_keep) (by simpa using hwf)
         have k4 : Keep [bv, bf] w w4 := Keep.trans (Keep.mono (S := [bv]) (by repeat (first | with_reducible exact Keep.refl _ _ | with_reducible assumption | with_reducible apply Keep.alloc | with_reducible apply Keep.drewN | with_reducible apply Keep.drew | (with_reducible refine Keep.setCell ?_ ?_ _) | focus (left; simp; done) | focus (right; simp; done) | focus (right; simp; omega))) (by simp)) (HK4.mono (by simp))
         have HP5 := Lib.hid HP4)))
    all_goals go_wp2
    all_goals go_ret
    all_goals exact ⟨rfl, HP5.out, k4⟩
end

end Go.Proofs.Ytkicpmfhnngndaa
