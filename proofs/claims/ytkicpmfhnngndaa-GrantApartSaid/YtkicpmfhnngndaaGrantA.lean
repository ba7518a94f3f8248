/- What is proved: what the small functions of grant compute (New, none, domain, slot, joined, unmade, kind, within, frame). Conditions: the grants, the machine, the places lie in memory as GHead, PhysAt, PS say. -/
import Derived.Test.YtkicpmfhnngndaaView
set_option linter.unusedSimpArgs false
set_option linter.unusedVariables false
namespace Go.Proofs.Ytkicpmfhnngndaa
open Go.RowKit

/-- A member: its grant frame, and its places. -/
def memV (x : Int × Nat) : Value := .agg #[.int .i64 x.1, .pointer (some ⟨x.2, 0, none⟩)]
def memOf : List (Int × (Int × Nat)) → Int → Option (Int × Nat)
  | [], _ => none
  | (a, v) :: r, d => if d = a then some v else memOf r d
def memL (l : List (Int × (Int × Nat))) : List (Int × Value) := l.map fun p => (p.1, memV p.2)
theorem getOf_memL (d : Int) : ∀ l : List (Int × (Int × Nat)), getOf d (memL l) = (memOf l d).map memV
  | [] => rfl
  | (a, v) :: r => by
    have := getOf_memL d r
    simp only [memL, List.map_cons, getOf, memOf] at this ⊢
    split
    · rfl
    · exact this

/-- The grants: their head in block bg, their maps in blocks b1, b2. -/
structure GHead (w : World) (bg b1 b2 bm : Nat) (mem : List (Int × (Int × Nat))) (mp : List ((Int × Int) × Value)) : Prop where
  hd : Blk w bg 130 [.pointer (some ⟨bm, 0, none⟩), .map (some b1), .map (some b2)]
  m1 : MapAt w b1 (kv (.int .i64) (memL mem))
  m2 : MapAt w b2 (kv keyV mp)
  ne : b1 ≠ b2
/-- The places of whoever may join: of the p2m.Map in block pb they are pl pb; av: blocks that are none of theirs. -/
structure PS (w : World) (pbs : List Nat) (q1 q2 : Nat → Nat) (pl : Nat → List Int) (av : List Nat) : Prop where
  at_ : ∀ pb ∈ pbs, P2mAt w pb (q1 pb) (q2 pb) (pl pb) ∧ pb ∉ av ∧ q1 pb ∉ av ∧ q2 pb ∉ av

section
variable {w w' : World} {bg b1 b2 bm bf bv bd nv : Nat} {m : Mach} {mem : List (Int × (Int × Nat))} {mp : List ((Int × Int) × Value)} {S : List Nat}
variable {pbs : List Nat} {q1 q2 : Nat → Nat} {pl : Nat → List Int} {av : List Nat}
theorem GHead.keep (h : GHead w bg b1 b2 bm mem mp) (k : Keep S w w') (h0 : bg ∉ S) (h1 : b1 ∉ S) (h2 : b2 ∉ S) : GHead w' bg b1 b2 bm mem mp := ⟨h.hd.keep k h0, h.m1.keep k h1, h.m2.keep k h2, h.ne⟩
theorem GHead.keep0 (h : GHead w bg b1 b2 bm mem mp) (k : Keep [] w w') : GHead w' bg b1 b2 bm mem mp := h.keep k (by simp) (by simp) (by simp)
theorem GHead.alloc (h : GHead w bg b1 b2 bm mem mp) (o : Obj) : GHead (w.alloc o) bg b1 b2 bm mem mp := h.keep0 ((Keep.refl _ _).alloc o)
theorem GHead.c0 (h : GHead w bg b1 b2 bm mem mp) : w.cell? ⟨bg, 0, none⟩ = some (.pointer (some ⟨bm, 0, none⟩)) := h.hd.cell 0
theorem GHead.c1 (h : GHead w bg b1 b2 bm mem mp) : w.cell? ⟨bg, 1, none⟩ = some (.map (some b1)) := h.hd.cell 1
theorem GHead.c2 (h : GHead w bg b1 b2 bm mem mp) : w.cell? ⟨bg, 2, none⟩ = some (.map (some b2)) := h.hd.cell 2
theorem PS.keep (h : PS w pbs q1 q2 pl av) (k : Keep S w w') (hS : ∀ x ∈ S, x ∈ av) : PS w' pbs q1 q2 pl av :=
  ⟨fun pb hp => let ⟨a, b, c, d⟩ := h.at_ pb hp; ⟨a.keep k (fun e => b (hS _ e)) (fun e => c (hS _ e)) (fun e => d (hS _ e)), b, c, d⟩⟩
theorem PS.keep0 (h : PS w pbs q1 q2 pl av) (k : Keep [] w w') : PS w' pbs q1 q2 pl av := h.keep k (by simp)

theorem grant_none (h : GHead w bg b1 b2 bm mem mp) : Calls Try.prog 52 #[.pointer (some ⟨bg, 0, none⟩)] w fun e w' => e = .returned (.bool false) ∧ w = w' := by
  have c0 := h.c0
  go_enter Try.func52, Try.ntmps52
  go_wp2
  go_ret
  exact ⟨rfl, rfl⟩
theorem grant_unmade (h : ViewAt w bv bd bm nv) : Calls Try.prog 53 #[.pointer (some ⟨bv, 0, none⟩)] w fun e w' => e = .returned (.bool false) ∧ w = w' := by
  go_enter Try.func53, Try.ntmps53
  go_wp2_with (go_at_call 89; refine (view_machine h).mono ?_; rintro e w' ⟨rfl, rfl⟩)
  go_ret
  exact ⟨rfl, rfl⟩
theorem grant_domain (n : Int) (w : World) : Calls Try.prog 54 #[.int .i64 n] w fun e w' => e = .returned (.bool (isDom n)) ∧ w = w' := by
  by_cases h1 : 0 ≤ n <;> by_cases h2 : n < 8
  all_goals
    go_enter Try.func54, Try.ntmps54
    go_wp2
    go_ret
    exact ⟨by simp [isDom, h1, h2], rfl⟩
def isSlot (n : Int) : Bool := decide (0 ≤ n) && decide (n < 32)
theorem grant_slot (n : Int) (w : World) : Calls Try.prog 56 #[.int .i64 n] w fun e w' => e = .returned (.bool (isSlot n)) ∧ w = w' := by
  by_cases h1 : 0 ≤ n <;> by_cases h2 : n < 32
  all_goals
    go_enter Try.func56, Try.ntmps56
    go_wp2
    go_ret
    exact ⟨by simp [isSlot, h1, h2], rfl⟩
def isIn (off n size : Int) : Bool := decide (0 ≤ off) && decide (0 ≤ n) && decide (off ≤ size) && decide (n ≤ size - off)
theorem grant_within (off n : Int) (size : Nat) (hs : size ≤ 256) (w : World) : Calls Try.prog 64 #[.int .i64 off, .int .i64 n, .int .i64 (size : Int)] w fun e w' => e = .returned (.bool (isIn off n size)) ∧ w = w' := by
  by_cases h1 : 0 ≤ off <;> by_cases h2 : 0 ≤ n <;> by_cases h3 : off ≤ size
  case pos =>
    by_cases h4 : n ≤ size - off
    all_goals
      go_enter Try.func64, Try.ntmps64
      go_wp2
      go_ret
      exact ⟨by simp [isIn, h1, h2, h3, h4], rfl⟩
  all_goals
    go_enter Try.func64, Try.ntmps64
    go_wp2
    go_ret
    exact ⟨by first | (simp [isIn, h1, h2, h3]; done) | (simp [isIn, h1, h2, h3]; omega), rfl⟩
theorem grant_kind (b : Bool) (w : World) : Calls Try.prog 61 #[.bool b] w fun e w' => e = .returned (.int .i64 (if b then 1 else 0)) ∧ w = w' := by
  cases b
  all_goals
    go_enter Try.func61, Try.ntmps61
    go_wp2
    go_ret
    exact ⟨rfl, rfl⟩
theorem zero_mem (w : World) : (zeroValue 138).run Try.prog w = .ok (.agg #[.int .i64 0, .pointer none]) w := by kernel_rfl
theorem grant_joined (h : GHead w bg b1 b2 bm mem mp) (d : Int) : Calls Try.prog 55 #[.pointer (some ⟨bg, 0, none⟩), .int .i64 d] w fun e w' => e = .returned (.bool (memOf mem d).isSome) ∧ Keep [] w w' := by
  have c1 := h.c1
  have q := run_lookup_k key_int Try.underlying127 h.m1 d zero_mem true
  rw [getOf_memL] at q
  rcases hx : memOf mem d with _ | ⟨t, pb⟩
  · rw [hx] at q
    simp only [Option.map_none, Option.getD_none, if_true, Option.isSome_none] at q
    go_enter Try.func55, Try.ntmps55
    go_wp2
    go_ret
    exact ⟨by simp, (by repeat (first | with_reducible exact Keep.refl _ _ | with_reducible assumption | with_reducible apply Keep.alloc | with_reducible apply Keep.drewN | with_reducible apply Keep.drew | (with_reducible refine Keep.setCell ?_ ?_ _) | focus (left; simp; done) | focus (right; simp; done) | focus (right; simp; omega)))⟩
  · rw [hx] at q
    simp only [Option.map_some, Option.getD_some, if_true, Option.isSome_some, memV] at q
    go_enter Try.func55, Try.ntmps55
    go_wp2
    go_ret
    exact ⟨by simp, (by repeat (first | with_reducible exact Keep.refl _ _ | with_reducible assumption | with_reducible apply Keep.alloc | with_reducible apply Keep.drewN | with_reducible apply Keep.drew | (with_reducible refine Keep.setCell ?_ ?_ _) | focus (left; simp; done) | focus (right; simp; done) | focus (right; simp; omega)))⟩
theorem grant_new (h : PhysAt w bm bf m) (h0 : 0 < m.length) : Calls Try.prog 32 #[.pointer (some ⟨bm, 0, none⟩)] w fun e w' =>
    e = .returned (.pointer (some ⟨w.heap.size + 1 + 1, 0, none⟩)) ∧ GHead w' (w.heap.size + 1 + 1) w.heap.size (w.heap.size + 1) bm [] [] ∧ Keep [] w w' := by
  have hne := beq_no (show ¬ (m.length : Int) = 0 by omega)
  have qm : ∀ W : World, (Instr.makeMap 127 none).run Try.prog W = .ok (.map (some W.heap.size)) (W.alloc (.map #[] 0)) := fun W => rfl
  have qn : ∀ W : World, (Instr.makeMap 128 none).run Try.prog W = .ok (.map (some W.heap.size)) (W.alloc (.map #[] 0)) := fun W => rfl
  go_enter Try.func32, Try.ntmps32
  go_wp2_with (go_at_call 13; refine (phys_size h).mono ?_; rintro e w' ⟨rfl, rfl⟩)
  go_ret
  refine ⟨rfl, ⟨?_, ?_, ?_, by omega⟩, (by repeat (first | with_reducible exact Keep.refl _ _ | with_reducible assumption | with_reducible apply Keep.alloc | with_reducible apply Keep.drewN | with_reducible apply Keep.drew | (with_reducible refine Keep.setCell ?_ ?_ _) | focus (left; simp; done) | focus (right; simp; done) | focus (right; simp; omega)))⟩
  · have := Blk.new ((w.alloc (.map #[] 0)).alloc (.map #[] 0)) 130 [.pointer (some ⟨bm, 0, none⟩), .map (some w.heap.size), .map (some (w.heap.size + 1))]
    simpa using this
  · have := ((MapAt.new w).alloc (.map #[] 0)).alloc (.cells #[.pointer (some ⟨bm, 0, none⟩), .map (some w.heap.size), .map (some (w.heap.size + 1))] 130)
    simpa [kv, memL] using this
  · have := (MapAt.new (w.alloc (.map #[] 0))).alloc (.cells #[.pointer (some ⟨bm, 0, none⟩), .map (some w.heap.size), .map (some (w.heap.size + 1))] 130)
    simpa [kv] using this
end

end Go.Proofs.Ytkicpmfhnngndaa
