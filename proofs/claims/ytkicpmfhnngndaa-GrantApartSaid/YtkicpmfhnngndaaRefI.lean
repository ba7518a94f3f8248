/- What is proved: what Pack of the reference's grants computes. Conditions: none. -/
import Derived.Test.YtkicpmfhnngndaaGrantC
set_option linter.unusedSimpArgs false
set_option linter.unusedVariables false
namespace Go.Proofs.Ytkicpmfhnngndaa
open Go.RowKit

/-- An entry as it is given: may it be packed? -/
def packOk (kind dom gpfn off len : Int) : Prop := 0 ≤ kind ∧ kind ≤ 2 ∧ 0 ≤ dom ∧ dom < 65536 ∧ 0 ≤ gpfn ∧ gpfn < 65536 ∧ 0 ≤ off ∧ off ≤ 255 ∧ 1 ≤ len ∧ len ≤ 256 ∧ off + len ≤ 256
/-- Its eight bytes. -/
def packN (kind : Int) (ro sub : Bool) (dom gpfn off len : Int) : List Nat :=
  [(kind.toNat + (if ro then 4 else 0)) + (if sub then 8 else 0), 0, dom.toNat % 256, dom.toNat / 256, gpfn.toNat % 256, gpfn.toNat / 256, if sub then off.toNat else 0, if sub then len.toNat - 1 else 255]
def natB (n : Nat) : Value := .int .u8 (n : Int)
def PackOk (w : World) (kind : Int) (ro sub : Bool) (dom gpfn off len : Int) (e : Ending) (w' : World) : Prop :=
  ∃ g, e = .returned (.tuple #[.slice (some ⟨g, 0, none⟩) 8 8, .int .i64 0]) ∧ Blk w' g 5 ((packN kind ro sub dom gpfn off len).map natB) ∧ w.heap.size ≤ g ∧ Keep [] w w'

section
variable {w : World}
def grV (kind : Int) (ro sub : Bool) (dom gpfn off len : Int) : Value := .agg #[.int .i64 kind, .bool ro, .bool sub, .int .i64 dom, .int .i64 gpfn, .int .i64 off, .int .i64 len]

set_option maxRecDepth 100000 in
set_option maxHeartbeats 8000000 in
theorem ref6_pack_bad (kind : Int) (ro sub : Bool) (dom gpfn off len : Int) (hb : ¬ packOk kind dom gpfn off len) :
    Calls Try.prog 50 #[grV kind ro sub dom gpfn off len] w fun e w' => e = .returned (.tuple #[.slice none 0 0, .int .i64 1]) ∧ Keep [] w w' := by
  unfold grV
  by_cases c1 : kind < 0
  · clear hb
    go_enter Try.func50, Try.ntmps50
    go_wp2
    go_ret2
    exact ⟨rfl, (by repeat (first | with_reducible exact Keep.refl _ _ | with_reducible assumption | with_reducible apply Keep.alloc | with_reducible apply Keep.drewN | with_reducible apply Keep.drew | (with_reducible refine Keep.setCell ?_ ?_ _) | focus (left; simp; done) | focus (right; simp; done) | focus (right; simp; omega)))⟩
  by_cases c2 : 2 < kind
  · clear hb
    go_enter Try.func50, Try.ntmps50
    go_wp2
    go_ret2
    exact ⟨rfl, (by repeat (first | with_reducible exact Keep.refl _ _ | with_reducible assumption | with_reducible apply Keep.alloc | with_reducible apply Keep.drewN | with_reducible apply Keep.drew | (with_reducible refine Keep.setCell ?_ ?_ _) | focus (left; simp; done) | focus (right; simp; done) | focus (right; simp; omega)))⟩
  by_cases c3 : dom < 0
  · clear hb
    go_enter Try.func50, Try.ntmps50
    go_wp2
    go_ret2
    exact ⟨rfl, (by repeat (first | with_reducible exact Keep.refl _ _ | with_reducible assumption | with_reducible apply Keep.alloc | with_reducible apply Keep.drewN | with_reducible apply Keep.drew | (with_reducible refine Keep.setCell ?_ ?_ _) | focus (left; simp; done) | focus (right; simp; done) | focus (right; simp; omega)))⟩
  by_cases c4 : 65536 ≤ dom
  · clear hb
    go_enter Try.func50, Try.ntmps50
    go_wp2
    go_ret2
    exact ⟨rfl, (by repeat (first | with_reducible exact Keep.refl _ _ | with_reducible assumption | with_reducible apply Keep.alloc | with_reducible apply Keep.drewN | with_reducible apply Keep.drew | (with_reducible refine Keep.setCell ?_ ?_ _) | focus (left; simp; done) | focus (right; simp; done) | focus (right; simp; omega)))⟩
  by_cases c5 : gpfn < 0
  · clear hb
    go_enter Try.func50, Try.ntmps50
    go_wp2
    go_ret2
    exact ⟨rfl, (by repeat (first | with_reducible exact Keep.refl _ _ | with_reducible assumption | with_reducible apply Keep.alloc | with_reducible apply Keep.drewN | with_reducible apply Keep.drew | (with_reducible refine Keep.setCell ?_ ?_ _) | focus (left; simp; done) | focus (right; simp; done) | focus (right; simp; omega)))⟩
  by_cases c6 : 65536 ≤ gpfn
  · clear hb
    go_enter Try.func50, Try.ntmps50
    go_wp2
    go_ret2
    exact ⟨rfl, (by repeat (first | with_reducible exact Keep.refl _ _ | with_reducible assumption | with_reducible apply Keep.alloc | with_reducible apply Keep.drewN | with_reducible apply Keep.drew | (with_reducible refine Keep.setCell ?_ ?_ _) | focus (left; simp; done) | focus (right; simp; done) | focus (right; simp; omega)))⟩
  by_cases c7 : off < 0
  · clear hb
    go_enter Try.func50, Try.ntmps50
    go_wp2
    go_ret2
    exact ⟨rfl, (by repeat (first | with_reducible exact Keep.refl _ _ | with_reducible assumption | with_reducible apply Keep.alloc | with_reducible apply Keep.drewN | with_reducible apply Keep.drew | (with_reducible refine Keep.setCell ?_ ?_ _) | focus (left; simp; done) | focus (right; simp; done) | focus (right; simp; omega)))⟩
  by_cases c8 : 255 < off
  · clear hb
    go_enter Try.func50, Try.ntmps50
    go_wp2
    go_ret2
    exact ⟨rfl, (by repeat (first | with_reducible exact Keep.refl _ _ | with_reducible assumption | with_reducible apply Keep.alloc | with_reducible apply Keep.drewN | with_reducible apply Keep.drew | (with_reducible refine Keep.setCell ?_ ?_ _) | focus (left; simp; done) | focus (right; simp; done) | focus (right; simp; omega)))⟩
  by_cases c9 : len < 1
  · clear hb
    go_enter Try.func50, Try.ntmps50
    go_wp2
    go_ret2
    exact ⟨rfl, (by repeat (first | with_reducible exact Keep.refl _ _ | with_reducible assumption | with_reducible apply Keep.alloc | with_reducible apply Keep.drewN | with_reducible apply Keep.drew | (with_reducible refine Keep.setCell ?_ ?_ _) | focus (left; simp; done) | focus (right; simp; done) | focus (right; simp; omega)))⟩
  by_cases c10 : 256 < len
  · clear hb
    go_enter Try.func50, Try.ntmps50
    go_wp2
    go_ret2
    exact ⟨rfl, (by repeat (first | with_reducible exact Keep.refl _ _ | with_reducible assumption | with_reducible apply Keep.alloc | with_reducible apply Keep.drewN | with_reducible apply Keep.drew | (with_reducible refine Keep.setCell ?_ ?_ _) | focus (left; simp; done) | focus (right; simp; done) | focus (right; simp; omega)))⟩
  by_cases c11 : 256 < off + len
  · clear hb
    go_enter Try.func50, Try.ntmps50
    go_wp2
    go_ret2
    exact ⟨rfl, (by repeat (first | with_reducible exact Keep.refl _ _ | with_reducible assumption | with_reducible apply Keep.alloc | with_reducible apply Keep.drewN | with_reducible apply Keep.drew | (with_reducible refine Keep.setCell ?_ ?_ _) | focus (left; simp; done) | focus (right; simp; done) | focus (right; simp; omega)))⟩
  exact absurd (by unfold packOk; omega) hb

set_option maxRecDepth 100000 in
set_option maxHeartbeats 8000000 in
theorem ref6_pack_ok (kind : Int) (ro sub : Bool) (dom gpfn off len : Int) (hb : packOk kind dom gpfn off len) :
    Calls Try.prog 50 #[grV kind ro sub dom gpfn off len] w fun e w' => PackOk w kind ro sub dom gpfn off len e w' := by
  obtain ⟨c1, c2, c3, c4, c5, c6, c7, c8, c9, c10, c11⟩ := hb
  have fin : ∀ (W : World) (vs : List Value), vs = (packN kind ro sub dom gpfn off len).map natB → Keep [] w W → PackOk w kind ro sub dom gpfn off len (.returned (.tuple #[.slice (some ⟨W.heap.size, 0, none⟩) 8 8, .int .i64 0])) (W.alloc (.cells vs.toArray 5)) := by
    rintro W ns rfl hk
    exact ⟨W.heap.size, rfl, Blk.new W 5 _, hk.size, hk.alloc _⟩
  have FIN := Lib.hid fin
  clear fin
  unfold grV
  cases ro <;> cases sub
  · go_enter Try.func50, Try.ntmps50
    go_wp2
    go_ret2
    have := FIN.out (w.alloc (.cells #[.int .i64 kind, .bool false, .bool false, .int .i64 dom, .int .i64 gpfn, .int .i64 off, .int .i64 len] 54)) [.int .u8 kind, .int .u8 0, .int .u8 (dom % 256), .int .u8 (dom / 256), .int .u8 (gpfn % 256), .int .u8 (gpfn / 256), .int .u8 0, .int .u8 255] (by simp [packN, natB]; omega) ((Keep.refl _ _).alloc _)
    rw [World.size_alloc] at this
    exact this
  · go_enter Try.func50, Try.ntmps50
    go_wp2
    go_ret2
    have := FIN.out (w.alloc (.cells #[.int .i64 kind, .bool false, .bool true, .int .i64 dom, .int .i64 gpfn, .int .i64 off, .int .i64 len] 54)) [.int .u8 (kind + 8), .int .u8 0, .int .u8 (dom % 256), .int .u8 (dom / 256), .int .u8 (gpfn % 256), .int .u8 (gpfn / 256), .int .u8 off, .int .u8 (len - 1)] (by simp [packN, natB]; omega) ((Keep.refl _ _).alloc _)
    rw [World.size_alloc] at this
    exact this
  · go_enter Try.func50, Try.ntmps50
    go_wp2
    go_ret2
    have := FIN.out (w.alloc (.cells #[.int .i64 kind, .bool true, .bool false, .int .i64 dom, .int .i64 gpfn, .int .i64 off, .int .i64 len] 54)) [.int .u8 (kind + 4), .int .u8 0, .int .u8 (dom % 256), .int .u8 (dom / 256), .int .u8 (gpfn % 256), .int .u8 (gpfn / 256), .int .u8 0, .int .u8 255] (by simp [packN, natB]; omega) ((Keep.refl _ _).alloc _)
    rw [World.size_alloc] at this
    exact this
  · go_enter Try.func50, Try.ntmps50
    go_wp2
    go_ret2
    have := FIN.out (w.alloc (.cells #[.int .i64 kind, .bool true, .bool true, .int .i64 dom, .int .i64 gpfn, .int .i64 off, .int .i64 len] 54)) [.int .u8 (kind + 4 + 8), .int .u8 0, .int .u8 (dom % 256), .int .u8 (dom / 256), .int .u8 (gpfn % 256), .int .u8 (gpfn / 256), .int .u8 off, .int .u8 (len - 1)] (by simp [packN, natB]; omega) ((Keep.refl _ _).alloc _)
    rw [World.size_alloc] at this
    exact this
end

end Go.Proofs.Ytkicpmfhnngndaa
