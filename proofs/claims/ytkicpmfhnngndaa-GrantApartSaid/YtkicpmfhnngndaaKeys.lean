/- What is proved: the program's two kinds of map keys (int, grant.key) obey the laws of XMaps. Conditions: none. -/
import Derived.Test.YtkicpmfhnngndaaProg
import Derived.Test.YtkicpmfhnngndaaMaps
set_option linter.unusedSimpArgs false
set_option linter.unusedVariables false
namespace Go.Proofs.Ytkicpmfhnngndaa
open Go.RowKit

theorem key_int : KeyLaw Try.prog 3 Int (.int .i64) := by
  refine ⟨?_, ?_, ?_⟩
  · intro e k w
    have : ∀ n, (Instr.checkKey e (n + 1) 3 (.int .i64 k)).run Try.prog w = .ok () w := by
      intro n; simp [Instr.checkKey, run_underlying Try.underlying3]
    exact this 9999
  · intro k es al w h
    have hn : ∀ (es : List MapEntry) (al : List (Int × Value)) (i : Nat), es.map (fun e => (e.key, e.val)) = kv (.int .i64) al → Instr.findNow (.int .i64) (.int .i64 k) es i = some (posOf k al i) := by
      intro es
      induction es with
      | nil => intro al i h; cases al with
        | nil => rfl
        | cons a l => simp [kv] at h
      | cons e es ih =>
        intro al i h
        cases al with
        | nil => simp [kv] at h
        | cons p al =>
          obtain ⟨a, v⟩ := p
          simp [kv] at h
          obtain ⟨⟨h1, h2⟩, h3⟩ := h
          have ih' := ih al (i + 1) (by simpa [kv] using h3)
          simp only [Instr.findNow, h1, Instr.sameNow, if_true]
          by_cases e1 : k = a
          · subst e1; simp [posOf, h2]
          · have e2 : (k == a) = false := by simpa using e1
            simp [posOf, e1, e2, ih']
    simp [Instr.findKey, run_underlying Try.underlying3, hn es al 0 h]
  · intro k
    simp [Instr.sameBits]

def keyV (k : Int × Int) : Value := .agg #[.int .i64 k.1, .int .i64 k.2]
theorem key_struct : KeyLaw Try.prog 136 (Int × Int) keyV := by
  have heq : ∀ (a b : Int × Int) (w : World), (Op.equal 136 (keyV a) (keyV b)).run Try.prog w = .ok (decide (a = b)) w := by
    intro a b w
    have hst : Try.prog.stoodInHeld 136 = false := by kernel_rfl
    have h1 : ∀ n (x y : Int), (Op.equalIn (n + 1) 3 (.int .i64 x) (.int .i64 y)).run Try.prog w = .ok (x == y) w := by
      intro n x y; simp [Op.equalIn, run_underlying Try.underlying3]
    have : ∀ n, (Op.equalIn (n + 1 + 1) 136 (keyV a) (keyV b)).run Try.prog w = .ok (decide (a = b)) w := by
      intro n
      obtain ⟨a1, a2⟩ := a
      obtain ⟨b1, b2⟩ := b
      rw [Op.equalIn]
      simp [run_underlying Try.underlying136, keyV, part, isAgg, run_underlying Try.underlying3, hst, h1, program, Sem.run]
      by_cases e1 : a1 = b1 <;> by_cases e2 : a2 = b2 <;> simp [e1, e2]
    exact this 9998
  refine ⟨?_, ?_, ?_⟩
  · intro e k w
    have : ∀ n, (Instr.checkKey e (n + 1 + 1) 136 (keyV k)).run Try.prog w = .ok () w := by
      intro n; simp [Instr.checkKey, run_underlying Try.underlying136, keyV, part, isAgg, run_underlying Try.underlying3]
    exact this 9998
  · intro k es al w h
    have hn : ∀ (es : List MapEntry) (al : List ((Int × Int) × Value)) (i : Nat), es.map (fun e => (e.key, e.val)) = kv keyV al → (Instr.findAsking 136 (keyV k) es i).run Try.prog w = .ok (posOf k al i) w := by
      intro es
      induction es with
      | nil => intro al i h; cases al with
        | nil => simp [Instr.findAsking, posOf]
        | cons a l => simp [kv] at h
      | cons e es ih =>
        intro al i h
        cases al with
        | nil => simp [kv] at h
        | cons p al =>
          obtain ⟨a, v⟩ := p
          simp [kv] at h
          obtain ⟨⟨h1, h2⟩, h3⟩ := h
          have ih' := ih al (i + 1) (by simpa [kv] using h3)
          by_cases e1 : k = a
          · subst e1; simp [Instr.findAsking, h1, heq, posOf, h2]
          · simp [Instr.findAsking, h1, heq, posOf, e1, ih']
    cases es with
    | nil =>
      cases al with
      | nil => simp [Instr.findKey, run_underlying Try.underlying136, Instr.findNow, posOf]
      | cons a l => simp [kv] at h
    | cons e es =>
      have := hn (e :: es) al 0 h
      cases al with
      | nil => simp [kv] at h
      | cons p al =>
        simp [kv] at h
        simp [Instr.findKey, run_underlying Try.underlying136, Instr.findNow, Instr.sameNow, h.1.1, this]
  · intro k
    have : ∀ n, Instr.sameBits (n + 1 + 1) (keyV k) (keyV k) = true := by
      intro n; simp [Instr.sameBits, keyV]
    exact this 9998

end Go.Proofs.Ytkicpmfhnngndaa
