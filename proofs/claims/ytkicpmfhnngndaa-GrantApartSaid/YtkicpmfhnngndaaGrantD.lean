/- What is proved: where an end of a copy lies (find of own, of lent, of Grants), with a view without rewrites. Conditions: the grants, the machine, the view, the places lie in memory. -/
import Derived.Test.YtkicpmfhnngndaaGrantC
set_option linter.unusedSimpArgs false
set_option linter.unusedVariables false
namespace Go.Proofs.Ytkicpmfhnngndaa
open Go.RowKit

def spotV (x : Int × Int × Int) : Value := .tuple #[.agg #[.int .i64 x.1, .int .i64 x.2.1], .int .i64 x.2.2]
/-- A place of one's own. -/
def ownSpot (l : Option (List Int)) (gpfn off n : Int) : Int × Int × Int := match l with
  | none => (0, 0, 1)
  | some l => ((pGet l gpfn).1, off, if (pGet l gpfn).2 = 0 ∧ isIn off n 256 = false then 63 else (pGet l gpfn).2)

theorem Blk.new1 (w : World) (o : Obj) (t : TypeId) (cs : List Value) : Blk ((w.alloc o).alloc (.cells cs.toArray t)) (w.heap.size + 1) t cs := by simpa using Blk.new (w.alloc o) t cs

section
variable {w w' : World} {bg b1 b2 bm bf bv bd nv : Nat} {m : Mach} {mem : List (Int × (Int × Nat))} {mp : List ((Int × Int) × Value)} {S : List Nat}
variable {pb p1 p2 : Nat} {l : List Int}

set_option maxRecDepth 100000 in
set_option maxHeartbeats 4000000 in
theorem own_find_none (h : GHead w bg b1 b2 bm mem mp) (gpfn off : Int) (vb : Value) {caller : Int} (n : Int) (hm : memOf mem caller = none) :
    Calls Try.prog 140 #[.agg #[.int .i64 gpfn, .int .i64 off], .pointer (some ⟨bg, 0, none⟩), vb, .int .i64 caller, .int .i64 n] w fun e w' =>
      e = .returned (spotV (0, 0, 1)) ∧ Keep [] w w' := by
  have HJ := Lib.hid (fun W (k : Keep [] w W) => grant_joined (h.keep0 k) caller)
  rw [hm] at HJ
  go_enter Try.func140, Try.ntmps140
  go_wp2_with (first
    | (go_at_call 55; refine (HJ.out _ (by repeat (first | with_reducible exact Keep.refl _ _ | with_reducible assumption | with_reducible apply Keep.alloc | with_reducible apply Keep.drewN | with_reducible apply Keep.drew | (with_reducible refine Keep.setCell ?_ ?_ _) | focus (left; simp; done) | focus (right; simp; done) | focus (right; simp; omega)))).mono ?_; rintro e w1 ⟨rfl, HK⟩
       have k1 : Keep [] w w1 := (((Keep.refl [] w).alloc _).alloc _).trans HK
       have hb2 := (Blk.new1 w (.cells #[.int .i64 gpfn, .int .i64 off] 218) 182 [.int .i64 0, .int .i64 0]).keep HK (by simp)
       have hc2 := hb2.cell
       have hf2 := hb2.frozen
       have hs2 := hb2.lt))
  exact bodyPost_ret (v := spotV (0, 0, 1)) (by simp [results, Try.results140, go_sem, hc2, hs2, Nat.ne_of_lt hs2, spotV]) rfl ⟨rfl, (by repeat (first | with_reducible exact Keep.refl _ _ | with_reducible assumption | with_reducible apply Keep.alloc | with_reducible apply Keep.drewN | with_reducible apply Keep.drew | (with_reducible refine Keep.setCell ?_ ?_ _) | focus (left; simp; done) | focus (right; simp; done) | focus (right; simp; omega)))⟩

set_option maxRecDepth 100000 in
set_option maxHeartbeats 4000000 in
theorem own_find_some (h : GHead w bg b1 b2 bm mem mp) (gpfn off : Int) (vb : Value) {caller t : Int} (n : Int) (hm : memOf mem caller = some (t, pb)) (hl : P2mAt w pb p1 p2 l) :
    Calls Try.prog 140 #[.agg #[.int .i64 gpfn, .int .i64 off], .pointer (some ⟨bg, 0, none⟩), vb, .int .i64 caller, .int .i64 n] w fun e w' =>
      e = .returned (spotV (ownSpot (some l) gpfn off n)) ∧ Keep [] w w' := by
  have HJ := Lib.hid (fun W (k : Keep [] w W) => grant_joined (h.keep0 k) caller)
  rw [hm] at HJ
  have hfd : ∀ W : World, (Instr.field 138 (.agg #[.int .i64 t, .pointer (some ⟨pb, 0, none⟩)]) 1).run Try.prog W = .ok (.pointer (some ⟨pb, 0, none⟩)) W := fun _ => by kernel_rfl
  have HQ := Lib.hid (fun W (k : Keep [] w W) => run_lookup_k key_int Try.underlying127 (h.keep0 k).m1 caller zero_mem false)
  rw [getOf_memL, hm] at HQ
  simp only [Option.map_some, Option.getD_some, Bool.false_eq_true, if_false, memV] at HQ
  have lg := h.hd.lt
  have c1 := h.c1
  simp only [ownSpot]
  rcases hG : pGet l gpfn with ⟨mfn, e0⟩
  have HG := Lib.hid hG
  clear hG hm
  by_cases he : e0 = 0
  · subst he
    have HW := Lib.hid (fun W => grant_within off n 256 (by omega) W)
    rcases hI : isIn off n ((256 : Nat) : Int)
    · rw [hI] at HW
      rw [show (if (mfn, (0 : Int)).snd = 0 ∧ false = false then (63 : Int) else (mfn, (0 : Int)).snd) = 63 from if_pos ⟨rfl, rfl⟩]
      clear hI
      go_enter Try.func140, Try.ntmps140
      go_wp2_with (first
        | (go_at_call 55; refine (HJ.out _ (by repeat (first | with_reducible exact Keep.refl _ _ | with_reducible assumption | with_reducible apply Keep.alloc | with_reducible apply Keep.drewN | with_reducible apply Keep.drew | (with_reducible refine Keep.setCell ?_ ?_ _) | focus (left; simp; done) | focus (right; simp; done) | focus (right; simp; omega)))).mono ?_; rintro e w1 ⟨rfl, HK⟩
           have k1 : Keep [] w w1 := (((Keep.refl [] w).alloc _).alloc _).trans HK
           have c1' := k1.cell_some c1 (by simp)
           have hb1 := ((Blk.new w 218 [.int .i64 gpfn, .int .i64 off]).alloc (.cells #[.int .i64 0, .int .i64 0] 182)).keep HK (by simp)
           have hb2 := (Blk.new1 w (.cells #[.int .i64 gpfn, .int .i64 off] 218) 182 [.int .i64 0, .int .i64 0]).keep HK (by simp)
           have hc1 := hb1.cell
           have hc2 := hb2.cell
           have hf2 := hb2.frozen
           have hs2 := hb2.lt
           have q : ∀ j, _ := fun j => HQ.out (w1.drewN j) (k1.drewN j)))
      have HP : ∀ j, Calls Try.prog 91 #[.pointer (some ⟨pb, 0, none⟩), .int .i64 gpfn] (w1.drewN j) fun e w' => e = .returned (.tuple #[.int .i64 mfn, .int .i64 0]) ∧ w' = w1.drewN j := by
        intro j
        have := p2m_get ((hl.keep k1 (by simp) (by simp) (by simp)).drewN j) gpfn
        rw [HG.out] at this
        exact this.mono fun _ _ ⟨a, b⟩ => ⟨a, b.symm⟩
      go_quiet ((go_at_call 91; refine Calls.quiet_of_same (HP _)))
      go_wp2_with (go_at_call 64; refine (HW.out _).mono ?_; rintro e w' ⟨rfl, rfl⟩)
      exact bodyPost_ret (v := spotV (mfn, off, 63)) (by simp [results, Try.results140, go_sem, hc2, hs2, Nat.ne_of_lt hs2, spotV]) rfl ⟨rfl, (by repeat (first | with_reducible exact Keep.refl _ _ | with_reducible assumption | with_reducible apply Keep.alloc | with_reducible apply Keep.drewN | with_reducible apply Keep.drew | (with_reducible refine Keep.setCell ?_ ?_ _) | focus (left; simp; done) | focus (right; simp; done) | focus (right; simp; omega)))⟩
    · rw [hI] at HW
      rw [show (if (mfn, (0 : Int)).snd = 0 ∧ true = false then (63 : Int) else (mfn, (0 : Int)).snd) = 0 from if_neg (fun e => by cases e.2)]
      clear hI
      go_enter Try.func140, Try.ntmps140
      go_wp2_with (first
        | (go_at_call 55; refine (HJ.out _ (by repeat (first | with_reducible exact Keep.refl _ _ | with_reducible assumption | with_reducible apply Keep.alloc | with_reducible apply Keep.drewN | with_reducible apply Keep.drew | (with_reducible refine Keep.setCell ?_ ?_ _) | focus (left; simp; done) | focus (right; simp; done) | focus (right; simp; omega)))).mono ?_; rintro e w1 ⟨rfl, HK⟩
           have k1 : Keep [] w w1 := (((Keep.refl [] w).alloc _).alloc _).trans HK
           have c1' := k1.cell_some c1 (by simp)
           have hb1 := ((Blk.new w 218 [.int .i64 gpfn, .int .i64 off]).alloc (.cells #[.int .i64 0, .int .i64 0] 182)).keep HK (by simp)
           have hb2 := (Blk.new1 w (.cells #[.int .i64 gpfn, .int .i64 off] 218) 182 [.int .i64 0, .int .i64 0]).keep HK (by simp)
           have hc1 := hb1.cell
           have hc2 := hb2.cell
           have hf2 := hb2.frozen
           have hs2 := hb2.lt
           have q : ∀ j, _ := fun j => HQ.out (w1.drewN j) (k1.drewN j)))
      have HP : ∀ j, Calls Try.prog 91 #[.pointer (some ⟨pb, 0, none⟩), .int .i64 gpfn] (w1.drewN j) fun e w' => e = .returned (.tuple #[.int .i64 mfn, .int .i64 0]) ∧ w' = w1.drewN j := by
        intro j
        have := p2m_get ((hl.keep k1 (by simp) (by simp) (by simp)).drewN j) gpfn
        rw [HG.out] at this
        exact this.mono fun _ _ ⟨a, b⟩ => ⟨a, b.symm⟩
      go_quiet ((go_at_call 91; refine Calls.quiet_of_same (HP _)))
      go_wp2_with (go_at_call 64; refine (HW.out _).mono ?_; rintro e w' ⟨rfl, rfl⟩)
      exact bodyPost_ret (v := spotV (mfn, off, 0)) (by simp [results, Try.results140, go_sem, hc2, hs2, Nat.ne_of_lt hs2, spotV]) rfl ⟨rfl, (by repeat (first | with_reducible exact Keep.refl _ _ | with_reducible assumption | with_reducible apply Keep.alloc | with_reducible apply Keep.drewN | with_reducible apply Keep.drew | (with_reducible refine Keep.setCell ?_ ?_ _) | focus (left; simp; done) | focus (right; simp; done) | focus (right; simp; omega)))⟩
  · rw [show (if e0 = 0 ∧ isIn off n 256 = false then (63 : Int) else e0) = e0 from if_neg (fun e => he e.1)]
    have he' := beq_no he
    clear he
    go_enter Try.func140, Try.ntmps140
    go_wp2_with (first
      | (go_at_call 55; refine (HJ.out _ (by repeat (first | with_reducible exact Keep.refl _ _ | with_reducible assumption | with_reducible apply Keep.alloc | with_reducible apply Keep.drewN | with_reducible apply Keep.drew | (with_reducible refine Keep.setCell ?_ ?_ _) | focus (left; simp; done) | focus (right; simp; done) | focus (right; simp; omega)))).mono ?_; rintro e w1 ⟨rfl, HK⟩
         have k1 : Keep [] w w1 := (((Keep.refl [] w).alloc _).alloc _).trans HK
         have c1' := k1.cell_some c1 (by simp)
         have hb1 := ((Blk.new w 218 [.int .i64 gpfn, .int .i64 off]).alloc (.cells #[.int .i64 0, .int .i64 0] 182)).keep HK (by simp)
         have hb2 := (Blk.new1 w (.cells #[.int .i64 gpfn, .int .i64 off] 218) 182 [.int .i64 0, .int .i64 0]).keep HK (by simp)
         have hc1 := hb1.cell
         have hc2 := hb2.cell
         have hf2 := hb2.frozen
         have hs2 := hb2.lt
         have q : ∀ j, _ := fun j => HQ.out (w1.drewN j) (k1.drewN j)))
    have HP : ∀ j, Calls Try.prog 91 #[.pointer (some ⟨pb, 0, none⟩), .int .i64 gpfn] (w1.drewN j) fun e w' => e = .returned (.tuple #[.int .i64 mfn, .int .i64 e0]) ∧ w' = w1.drewN j := by
      intro j
      have := p2m_get ((hl.keep k1 (by simp) (by simp) (by simp)).drewN j) gpfn
      rw [HG.out] at this
      exact this.mono fun _ _ ⟨a, b⟩ => ⟨a, b.symm⟩
    go_quiet ((go_at_call 91; refine Calls.quiet_of_same (HP _)))
    go_wp2
    exact bodyPost_ret (v := spotV (mfn, off, e0)) (by simp [results, Try.results140, go_sem, hc2, hs2, Nat.ne_of_lt hs2, spotV]) rfl ⟨rfl, (by repeat (first | with_reducible exact Keep.refl _ _ | with_reducible assumption | with_reducible apply Keep.alloc | with_reducible apply Keep.drewN | with_reducible apply Keep.drew | (with_reducible refine Keep.setCell ?_ ?_ _) | focus (left; simp; done) | focus (right; simp; done) | focus (right; simp; omega)))⟩
end

end Go.Proofs.Ytkicpmfhnngndaa
