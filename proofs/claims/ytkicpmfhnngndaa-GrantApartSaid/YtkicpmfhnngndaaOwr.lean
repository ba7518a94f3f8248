/- What is proved: laws of rows that a call owns beside blocks that are known whole; no program in sight. Conditions: those that each theorem names. -/
import Derived.Test.YtkicpmfhnngndaaBase
import Derived.OneCell
import Derived.RangeFuncBox
set_option linter.unusedSimpArgs false
set_option linter.unusedVariables false
namespace Go.Proofs.Ytkicpmfhnngndaa
open Go.RowKit

section
variable {w w' wr w1 : World} {g b : Nat} {t : TypeId} {cs : List Value} {S : List Nat} {base base' size size' n n' : Nat} {e e' : TypeId} {v v' : Value} {xs xs' : List Value} {row : Option Nat}
theorem own_blk_ne (h : w.ownsRow base e size v n xs) (hg : Blk w g t cs) (hne : e ≠ t) : v.ownBlock ≠ some g := by
  rcases h.2 with ⟨rfl, _⟩ | ⟨g', cap, cur, rfl, _, hh, _⟩
  · simp [Value.ownBlock]
  · intro he
    have : g' = g := by simpa [Value.ownBlock] using he
    subst this
    unfold Blk at hg
    rw [hh] at hg
    injection hg with hg
    injection hg with _ ht
    exact hne ht
theorem own_own_ne (h : w.ownsRow base e size v n xs) (h' : w.ownsRow base' e' size' v' n' xs') (hne : e ≠ e') : v.ownBlock = none ∨ v.ownBlock ≠ v'.ownBlock := by
  rcases h.2 with ⟨rfl, _⟩ | ⟨g1, cap, cur, rfl, _, hh, _⟩
  · left; rfl
  · right
    rcases h'.2 with ⟨rfl, _⟩ | ⟨g2, cap2, cur2, rfl, _, hh2, _⟩
    · simp [Value.ownBlock]
    · intro he
      have : g1 = g2 := by simpa [Value.ownBlock] using he
      subst this
      rw [hh] at hh2
      injection hh2 with hh2
      injection hh2 with _ ht
      exact hne ht
theorem Blk.grown (h : Blk w g t cs) (hb : w.grownBy w' row) (hg : row ≠ some g) : Blk w' g t cs := (hb.block g h.lt (fun e => hg e.symm)).trans h
/-- A row was appended to: what was kept is kept. -/
theorem keep_grow' {B : Nat} (hk : Keep S w wr) (hB : w.heap.size ≤ B) (hown : wr.ownsRow B e size v n xs) {wa : World} (ha : Keep [] wr wa) (hg : wa.grownBy w1 v.ownBlock) : Keep S w w1 :=
  ⟨(hg.os).trans (ha.os.trans hk.os), (hg.tape).trans (ha.tape.trans hk.tape), (hg.output).trans (ha.output.trans hk.output), Nat.le_trans hk.size (Nat.le_trans ha.size hg.size), fun k h1 h2 => by
    have h3 := hg.block k (by have := hk.size; have := ha.size; omega) (fun e => by have := (hown.lt k e.symm).1; omega)
    exact h3.trans ((ha.block k (by have := hk.size; omega) (by simp)).trans (hk.block k h1 h2))⟩
theorem own_keep {B : Nat} (h : w.ownsRow B e size v n xs) (k : Keep S w w') (hS : ∀ x ∈ S, v.ownBlock ≠ some x) : w'.ownsRow B e size v n xs := by
  refine ⟨h.1, ?_⟩
  rcases h.2 with hn | ⟨g, cap, cur, rfl, hb, hgg, rest⟩
  · exact .inl hn
  · refine .inr ⟨g, cap, cur, rfl, hb, ?_, rest⟩
    rw [k.block g (lt_of_some hgg) (fun hm => hS g hm rfl)]
    exact hgg
end

end Go.Proofs.Ytkicpmfhnngndaa
