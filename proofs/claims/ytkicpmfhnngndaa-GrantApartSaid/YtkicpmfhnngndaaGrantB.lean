/- What is proved: what grant's frame computes. Conditions: the grants, the machine, the places lie in memory as GHead, PhysAt, PS say. -/
import Derived.Test.YtkicpmfhnngndaaGrantA
set_option linter.unusedSimpArgs false
set_option linter.unusedVariables false
namespace Go.Proofs.Ytkicpmfhnngndaa
open Go.RowKit

/-- What frame answers. -/
def gFrame (m : Mach) (l : List Int) (owner g : Int) : Int × Int :=
  if (pGet l g).2 ≠ 0 then (0, 60) else match m.idx (pGet l g).1 with
  | none => (0, 60)
  | some f => if f.o ≠ owner then (0, 60) else ((pGet l g).1, 0)

section
variable {w w' : World} {bg b1 b2 bm bf bv bd nv : Nat} {m : Mach} {mem : List (Int × (Int × Nat))} {mp : List ((Int × Int) × Value)} {S : List Nat}
variable {pb p1 p2 : Nat} {l : List Int}

set_option maxRecDepth 100000 in
theorem grant_frame (h : GHead w bg b1 b2 bm mem mp) (hp : PhysAt w bm bf m) {owner : Int} {t : Int} (hm : memOf mem owner = some (t, pb)) (hl : P2mAt w pb p1 p2 l) (g : Int) :
    Calls Try.prog 59 #[.pointer (some ⟨bg, 0, none⟩), .int .i64 owner, .int .i64 g] w fun e w' =>
      e = .returned (.tuple #[.int .i64 (gFrame m l owner g).1, .int .i64 (gFrame m l owner g).2]) ∧ Keep [] w w' := by
  have c0 := h.c0
  have c1 := h.c1
  have hfd : ∀ W : World, (Instr.field 138 (.agg #[.int .i64 t, .pointer (some ⟨pb, 0, none⟩)]) 1).run Try.prog W = .ok (.pointer (some ⟨pb, 0, none⟩)) W := fun _ => by kernel_rfl
  have q := run_lookup_k key_int Try.underlying127 h.m1 owner zero_mem false
  rw [getOf_memL, hm] at q
  simp only [Option.map_some, Option.getD_some, Bool.false_eq_true, if_false, memV] at q
  clear hm
  rcases hG : pGet l g with ⟨mfn, e0⟩
  by_cases he : e0 = 0
  · subst he
    rcases hx : m.idx mfn with _ | f
    · rw [show gFrame m l owner g = (0, 60) by simp [gFrame, hG, hx]]
      have HG := Lib.hid hG
      have HV : Hid (m.frameV mfn = .tuple #[.agg #[.int .i64 0, .int .i64 0, .int .i64 0, .int .i64 0], .int .i64 1]) := by show _ = _; simp [Mach.frameV, hx]
      clear hG hx
      go_enter Try.func59, Try.ntmps59
      go_wp2_with (first | (go_at_call 91; refine (p2m_get hl g).mono ?_; rw [HG.out]; rintro e w' ⟨rfl, rfl⟩) | (go_at_call 11; refine (phys_frame hp mfn).mono ?_; rw [HV.out]; rintro e w' ⟨rfl, HK⟩))
      go_ret2
      exact ⟨rfl, (by repeat (first | with_reducible exact Keep.refl _ _ | with_reducible assumption | with_reducible apply Keep.alloc | with_reducible apply Keep.drewN | with_reducible apply Keep.drew | (with_reducible refine Keep.setCell ?_ ?_ _) | focus (left; simp; done) | focus (right; simp; done) | focus (right; simp; omega)))⟩
    · have HG := Lib.hid hG
      have HV : Hid (m.frameV mfn = .tuple #[f.head, .int .i64 0]) := by show _ = _; simp [Mach.frameV, hx]
      by_cases ho : f.o = owner
      · rw [show gFrame m l owner g = (mfn, 0) by simp [gFrame, hG, hx, ho]]
        clear hG hx
        have ho' := bne_no ho
        unfold Fr.head at HV
        go_enter Try.func59, Try.ntmps59
        go_wp2_with (first | (go_at_call 91; refine (p2m_get hl g).mono ?_; rw [HG.out]; rintro e w' ⟨rfl, rfl⟩) | (go_at_call 11; refine (phys_frame hp mfn).mono ?_; rw [HV.out]; rintro e w' ⟨rfl, HK⟩))
        go_ret2
        exact ⟨rfl, (by repeat (first | with_reducible exact Keep.refl _ _ | with_reducible assumption | with_reducible apply Keep.alloc | with_reducible apply Keep.drewN | with_reducible apply Keep.drew | (with_reducible refine Keep.setCell ?_ ?_ _) | focus (left; simp; done) | focus (right; simp; done) | focus (right; simp; omega)))⟩
      · rw [show gFrame m l owner g = (0, 60) by simp [gFrame, hG, hx, ho]]
        clear hG hx
        have ho' := bne_yes ho
        unfold Fr.head at HV
        go_enter Try.func59, Try.ntmps59
        go_wp2_with (first | (go_at_call 91; refine (p2m_get hl g).mono ?_; rw [HG.out]; rintro e w' ⟨rfl, rfl⟩) | (go_at_call 11; refine (phys_frame hp mfn).mono ?_; rw [HV.out]; rintro e w' ⟨rfl, HK⟩))
        go_ret2
        exact ⟨rfl, (by repeat (first | with_reducible exact Keep.refl _ _ | with_reducible assumption | with_reducible apply Keep.alloc | with_reducible apply Keep.drewN | with_reducible apply Keep.drew | (with_reducible refine Keep.setCell ?_ ?_ _) | focus (left; simp; done) | focus (right; simp; done) | focus (right; simp; omega)))⟩
  · rw [show gFrame m l owner g = (0, 60) by simp [gFrame, hG, he]]
    have HG := Lib.hid hG
    have he' := bne_yes he
    clear hG he
    go_enter Try.func59, Try.ntmps59
    go_wp2_with (go_at_call 91; refine (p2m_get hl g).mono ?_; rw [HG.out]; rintro e w' ⟨rfl, rfl⟩)
    go_ret2
    exact ⟨rfl, Keep.refl _ _⟩
end

end Go.Proofs.Ytkicpmfhnngndaa
