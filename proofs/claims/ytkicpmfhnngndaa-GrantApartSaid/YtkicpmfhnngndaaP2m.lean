/- What is proved: what New, Set, Get, Clear, Find, List of p2m compute. Conditions: the map lies in memory as P2mAt says. -/
import Derived.Test.YtkicpmfhnngndaaKeys
import Derived.Test.YtkicpmfhnngndaaPhysE
import Derived.WalkSpells
set_option linter.unusedSimpArgs false
set_option linter.unusedVariables false
namespace Go.Proofs.Ytkicpmfhnngndaa
open Go.RowKit

theorem zero_int (w : World) : (zeroValue 3).run Try.prog w = .ok (.int .i64 0) w := by kernel_rfl

def intV (x : Int) : Value := .int .i64 x
theorem eql_nil (w : World) (r : Option Nat) : (binOp .eql 172 (.map r) (.map none)).run Try.prog w = .ok (.bool r.isNone) w := run_eql_map_nil w _ _ _ r Try.underlying172
theorem getOf_append {κ : Type} [DecidableEq κ] (k a : κ) (x : Value) : ∀ al : List (κ × Value), getOf k (al ++ [(a, x)]) = (getOf k al).or (if k = a then some x else none)
  | [] => by simp [getOf]
  | (c, v) :: r => by
    simp only [List.cons_append, getOf]
    split
    · rfl
    · exact getOf_append k a x r
/-- places: the frame at each place, -1: none. As the program's two maps have them: fr the frames by places, pl the places by frames. -/
structure P2mOk (l : List Int) (fr pl : List (Int × Value)) : Prop where
  fr : ∀ g : Int, getOf g fr = if 0 ≤ g then (match l[g.toNat]? with | some m => if 0 ≤ m then some (.int .i64 m) else none | none => none) else none
  pl : ∀ (m : Int) (v : Value), getOf m pl = some v ↔ 0 ≤ m ∧ ∃ g : Nat, l[g]? = some m ∧ v = .int .i64 (g : Int)
/-- A p2m.Map: its head in block b, its maps in blocks b1, b2. -/
structure P2mAt (w : World) (b b1 b2 : Nat) (l : List Int) : Prop where
  hd : Blk w b 174 [.map (some b1), .map (some b2), .int .i64 (l.length : Int)]
  ex : ∃ fr pl, MapAt w b1 (kv (.int .i64) fr) ∧ MapAt w b2 (kv (.int .i64) pl) ∧ P2mOk l fr pl
  ne : b1 ≠ b2
  hi : l.length ≤ 48

section
variable {w w' : World} {b b1 b2 : Nat} {l : List Int} {S : List Nat}
theorem P2mAt.keep (h : P2mAt w b b1 b2 l) (k : Keep S w w') (h0 : b ∉ S) (h1 : b1 ∉ S) (h2 : b2 ∉ S) : P2mAt w' b b1 b2 l := by
  obtain ⟨hd, ⟨fr, pl, m1, m2, ok⟩, ne, hi⟩ := h
  exact ⟨hd.keep k h0, ⟨fr, pl, m1.keep k h1, m2.keep k h2, ok⟩, ne, hi⟩
theorem P2mAt.alloc (h : P2mAt w b b1 b2 l) (o : Obj) : P2mAt (w.alloc o) b b1 b2 l := by
  obtain ⟨hd, ⟨fr, pl, m1, m2, ok⟩, ne, hi⟩ := h
  exact ⟨hd.alloc o, ⟨fr, pl, m1.alloc o, m2.alloc o, ok⟩, ne, hi⟩
theorem P2mAt.drewN (h : P2mAt w b b1 b2 l) (n : Nat) : P2mAt (w.drewN n) b b1 b2 l := ⟨h.hd, h.ex, h.ne, h.hi⟩

set_option maxRecDepth 100000 in
theorem p2m_none (h : P2mAt w b b1 b2 l) : Calls Try.prog 107 #[.pointer (some ⟨b, 0, none⟩)] w fun e w' => e = .returned (.bool false) ∧ w = w' := by
  have c0 : w.cell? ⟨b, 0, none⟩ = some (.map (some b1)) := h.hd.cell 0
  have qn := eql_nil
  go_enter Try.func107, Try.ntmps107
  go_wp2
  go_ret
  exact ⟨rfl, rfl⟩

set_option maxRecDepth 100000 in
theorem p2m_place (h : P2mAt w b b1 b2 l) (g : Int) : Calls Try.prog 83 #[.pointer (some ⟨b, 0, none⟩), .int .i64 g] w fun e w' =>
    e = .returned (.int .i64 (if 0 ≤ g ∧ g < l.length then 0 else 1)) ∧ w = w' := by
  have c2 : w.cell? ⟨b, 2, none⟩ = some (.int .i64 (l.length : Int)) := h.hd.cell 2
  by_cases h1 : 0 ≤ g
  · by_cases h2 : g < l.length
    · rw [if_pos ⟨h1, h2⟩]
      go_enter Try.func83, Try.ntmps83
      go_wp2_with (go_at_call 107; refine (p2m_none h).mono ?_; rintro e w' ⟨rfl, rfl⟩)
      go_ret
      exact ⟨rfl, rfl⟩
    · rw [if_neg (by omega)]
      have h2' : (l.length : Int) ≤ g := by omega
      go_enter Try.func83, Try.ntmps83
      go_wp2_with (go_at_call 107; refine (p2m_none h).mono ?_; rintro e w' ⟨rfl, rfl⟩)
      go_ret
      exact ⟨rfl, rfl⟩
  · rw [if_neg (by omega)]
    have h1' : g < 0 := by omega
    clear h1
    go_enter Try.func83, Try.ntmps83
    go_wp2_with (go_at_call 107; refine (p2m_none h).mono ?_; rintro e w' ⟨rfl, rfl⟩)
    go_ret
    exact ⟨rfl, rfl⟩
end

end Go.Proofs.Ytkicpmfhnngndaa
