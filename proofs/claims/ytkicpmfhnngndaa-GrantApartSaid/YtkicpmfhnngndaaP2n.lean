/- What is proved: what New, Set, Get, Find of p2m compute. Conditions: the map lies in memory as P2mAt says. -/
import Derived.Test.YtkicpmfhnngndaaP2m
set_option linter.unusedSimpArgs false
set_option linter.unusedVariables false
namespace Go.Proofs.Ytkicpmfhnngndaa
open Go.RowKit

/-- What Get answers. -/
def pGet (l : List Int) (g : Int) : Int × Int :=
  if 0 ≤ g then (match l[g.toNat]? with | some m => if 0 ≤ m then (m, 0) else (0, 6) | none => (0, 1)) else (0, 1)
/-- Whether a frame stands anywhere. -/
def pIn (l : List Int) (m : Int) : Prop := 0 ≤ m ∧ m ∈ l
instance (l : List Int) (m : Int) : Decidable (pIn l m) := by unfold pIn; exact inferInstance

section
variable {w w' : World} {b b1 b2 : Nat} {l : List Int} {S : List Nat}

theorem P2mAt.c0 (h : P2mAt w b b1 b2 l) : w.cell? ⟨b, 0, none⟩ = some (.map (some b1)) := h.hd.cell 0
theorem P2mAt.c1 (h : P2mAt w b b1 b2 l) : w.cell? ⟨b, 1, none⟩ = some (.map (some b2)) := h.hd.cell 1
theorem P2mAt.c2 (h : P2mAt w b b1 b2 l) : w.cell? ⟨b, 2, none⟩ = some (.int .i64 (l.length : Int)) := h.hd.cell 2
theorem P2mOk.none_pl {fr pl : List (Int × Value)} (ok : P2mOk l fr pl) {m : Int} (h : ¬ pIn l m) : getOf m pl = none := by
  rcases hg : getOf m pl with _ | v
  · rfl
  · obtain ⟨h0, g, hg', _⟩ := (ok.pl m v).1 hg
    exact absurd ⟨h0, List.mem_of_getElem? hg'⟩ h
theorem P2mOk.some_pl {fr pl : List (Int × Value)} (ok : P2mOk l fr pl) {m : Int} (h : pIn l m) : ∃ g : Nat, g < l.length ∧ l[g]? = some m ∧ getOf m pl = some (.int .i64 (g : Int)) := by
  obtain ⟨h0, hm⟩ := h
  obtain ⟨g, hg⟩ := List.mem_iff_getElem?.1 hm
  exact ⟨g, (List.getElem?_eq_some_iff.1 hg).1, hg, (ok.pl m _).2 ⟨h0, g, hg, rfl⟩⟩

set_option maxRecDepth 100000 in
theorem p2m_get (h : P2mAt w b b1 b2 l) (g : Int) : Calls Try.prog 91 #[.pointer (some ⟨b, 0, none⟩), .int .i64 g] w fun e w' =>
    e = .returned (.tuple #[.int .i64 (pGet l g).1, .int .i64 (pGet l g).2]) ∧ w = w' := by
  have c0 := h.c0
  by_cases hin : 0 ≤ g ∧ g < l.length
  · obtain ⟨h0, h1⟩ := hin
    obtain ⟨fr, pl, m1, m2, ok⟩ := h.ex
    have hl : l[g.toNat]? = some l[g.toNat] := List.getElem?_eq_getElem (by omega)
    have hf := ok.fr g
    rw [if_pos h0, hl] at hf
    generalize l[g.toNat] = m at hl hf
    by_cases hm : 0 ≤ m
    · have e : pGet l g = (m, 0) := by unfold pGet; rw [if_pos h0, hl]; simp [hm]
      rw [e]
      have hf' : getOf g fr = some (.int .i64 m) := by rw [hf]; simp [hm]
      clear hf hl
      have HG : (Instr.lookup 172 (.map (some b1)) (.int .i64 g) true).run Try.prog w = .ok (.tuple #[.int .i64 m, .bool true]) w := by rw [run_lookup_k key_int Try.underlying172 m1 g zero_int true, hf']; rfl
      clear hf'
      go_enter Try.func91, Try.ntmps91
      go_wp2_with (go_at_call 83; refine (p2m_place h g).mono ?_; rw [if_pos ⟨h0, h1⟩]; rintro e w' ⟨rfl, rfl⟩)
      go_ret2
      exact ⟨rfl, rfl⟩
    · have e : pGet l g = (0, 6) := by unfold pGet; rw [if_pos h0, hl]; simp [hm]
      rw [e]
      have hf' : getOf g fr = none := by rw [hf]; simp [hm]
      clear hf hl
      have HG : (Instr.lookup 172 (.map (some b1)) (.int .i64 g) true).run Try.prog w = .ok (.tuple #[.int .i64 0, .bool false]) w := by rw [run_lookup_k key_int Try.underlying172 m1 g zero_int true, hf']; rfl
      clear hf'
      go_enter Try.func91, Try.ntmps91
      go_wp2_with (go_at_call 83; refine (p2m_place h g).mono ?_; rw [if_pos ⟨h0, h1⟩]; rintro e w' ⟨rfl, rfl⟩)
      go_ret2
      exact ⟨rfl, rfl⟩
  · have e : pGet l g = (0, 1) := by
      unfold pGet
      split
      · rw [List.getElem?_eq_none (by omega)]
      · rfl
    rw [e]
    go_enter Try.func91, Try.ntmps91
    go_wp2_with (go_at_call 83; refine (p2m_place h g).mono ?_; rw [if_neg hin]; rintro e w' ⟨rfl, rfl⟩)
    go_ret2
    exact ⟨rfl, rfl⟩

set_option maxRecDepth 100000 in
theorem p2m_find_none (h : P2mAt w b b1 b2 l) {m : Int} (hm : ¬ pIn l m) : Calls Try.prog 85 #[.pointer (some ⟨b, 0, none⟩), .int .i64 m] w fun e w' =>
    e = .returned (.tuple #[.int .i64 0, .int .i64 6]) ∧ w = w' := by
  have c1 := h.c1
  obtain ⟨fr, pl, m1, m2, ok⟩ := h.ex
  have hf := ok.none_pl hm
  have HG : (Instr.lookup 172 (.map (some b2)) (.int .i64 m) true).run Try.prog w = .ok (.tuple #[.int .i64 0, .bool false]) w := by rw [run_lookup_k key_int Try.underlying172 m2 m zero_int true, hf]; rfl
  clear hf hm
  go_enter Try.func85, Try.ntmps85
  go_wp2_with (go_at_call 107; refine (p2m_none h).mono ?_; rintro e w' ⟨rfl, rfl⟩)
  go_ret2
  exact ⟨rfl, rfl⟩

theorem p2m_new {n : Nat} (hn : n ≤ 48) (w : World) : Calls Try.prog 34 #[.int .i64 (n : Int)] w fun e w' =>
    e = .returned (.tuple #[.pointer (some ⟨w.heap.size + 1 + 1, 0, none⟩), .int .i64 0]) ∧ P2mAt w' (w.heap.size + 1 + 1) w.heap.size (w.heap.size + 1) (List.replicate n (-1)) ∧ Keep [] w w' := by
  have hn' : ¬ (48 : Int) < n := by omega
  have qm : ∀ W : World, (Instr.makeMap 172 none).run Try.prog W = .ok (.map (some W.heap.size)) (W.alloc (.map #[] 0)) := fun W => rfl
  go_enter Try.func34, Try.ntmps34
  go_wp2
  go_ret2
  refine ⟨rfl, ⟨?_, ⟨[], [], (MapAt.new w).alloc _ |>.alloc _, ?_, ?_⟩, by omega, by simp; omega⟩, ?_⟩
  · have := Blk.new ((w.alloc (.map #[] 0)).alloc (.map #[] 0)) 174 [.map (some w.heap.size), .map (some (w.heap.size + 1)), .int .i64 (n : Int)]
    simpa using this
  · have := (MapAt.new (w.alloc (.map #[] 0))).alloc (.cells #[.map (some w.heap.size), .map (some (w.heap.size + 1)), .int .i64 (n : Int)] 174)
    simpa [kv] using this
  · constructor
    · intro g
      simp only [getOf]
      split
      · rw [List.getElem?_replicate]
        by_cases hh : g.toNat < n
        · rw [if_pos hh]; rfl
        · rw [if_neg hh]
      · rfl
    · intro m v
      simp only [getOf, reduceCtorEq, false_iff, not_and, not_exists]
      intro h0 g hg
      rw [List.getElem?_replicate] at hg
      split at hg
      · simp at hg; omega
      · simp at hg
  · exact ((Keep.refl _ _).alloc _ |>.alloc _ |>.alloc _)
end


section
variable {w w' : World} {b b1 b2 : Nat} {l : List Int} {S : List Nat}
theorem P2mOk.set {fr pl : List (Int × Value)} (ok : P2mOk l fr pl) {g : Nat} {m c : Int} (h0 : 0 ≤ m) (hc : l[g]? = some c) (hc0 : c < 0) (hm : ¬ pIn l m) :
    P2mOk (l.set g m) (fr ++ [((g : Int), .int .i64 m)]) (pl ++ [(m, .int .i64 (g : Int))]) := by
  have hlt := (List.getElem?_eq_some_iff.1 hc).1
  constructor
  · intro g'
    rw [getOf_append, ok.fr g']
    by_cases e : g' = (g : Int)
    · subst e
      rw [if_pos (by omega), Int.toNat_natCast, hc, List.getElem?_set_self hlt]
      simp [h0, show ¬ (0 ≤ c) by omega]
    · rw [if_neg e, Option.or_none]
      split
      · rename_i hg'
        rw [List.getElem?_set_ne (by omega)]
      · rfl
  · intro m' v
    rw [getOf_append]
    by_cases e : m' = m
    · subst e
      rw [ok.none_pl hm, if_pos rfl]
      constructor
      · intro h
        simp at h
        exact ⟨h0, g, by simp [hlt], h.symm⟩
      · rintro ⟨_, g', hg', rfl⟩
        by_cases e' : g' = g
        · subst e'; rfl
        · rw [List.getElem?_set_ne (by omega)] at hg'
          exact absurd ⟨h0, List.mem_of_getElem? hg'⟩ hm
    · rw [if_neg e, Option.or_none, ok.pl m' v]
      constructor
      · rintro ⟨h1, g', hg', rfl⟩
        refine ⟨h1, g', ?_, rfl⟩
        rw [List.getElem?_set_ne]
        · exact hg'
        · rintro rfl; rw [hc] at hg'; simp at hg'; omega
      · rintro ⟨h1, g', hg', rfl⟩
        refine ⟨h1, g', ?_, rfl⟩
        rw [List.getElem?_set_ne] at hg'
        · exact hg'
        · rintro rfl; rw [List.getElem?_set_self hlt] at hg'; simp at hg'; omega

set_option maxRecDepth 100000 in
theorem p2m_set (h : P2mAt w b b1 b2 l) {g : Nat} {m c : Int} (h0 : 0 ≤ m) (h1 : m < 256) (hc : l[g]? = some c) (hc0 : c < 0) (hm : ¬ pIn l m) :
    Calls Try.prog 38 #[.pointer (some ⟨b, 0, none⟩), .int .i64 (g : Int), .int .i64 m] w fun e w' =>
      e = .returned (.int .i64 0) ∧ P2mAt w' b b1 b2 (l.set g m) ∧ Keep [b1, b2] w w' := by
  have c0 := h.c0
  have c1 := h.c1
  have hlt := (List.getElem?_eq_some_iff.1 hc).1
  have hlt' : (g : Int) < l.length := by omega
  have hg0 : (0 : Int) ≤ g := by omega
  obtain ⟨fr, pl, m1, m2, ok⟩ := h.ex
  have hf1 : getOf (g : Int) fr = none := by rw [ok.fr, if_pos hg0]; simp [hc]; omega
  have hf2 : getOf m pl = none := ok.none_pl hm
  have q1 : (Instr.lookup 172 (.map (some b1)) (.int .i64 (g : Int)) true).run Try.prog w = .ok (.tuple #[.int .i64 0, .bool false]) w := by rw [run_lookup_k key_int Try.underlying172 m1 (g : Int) zero_int true, hf1]; rfl
  have q2 : (Instr.lookup 172 (.map (some b2)) (.int .i64 m) true).run Try.prog w = .ok (.tuple #[.int .i64 0, .bool false]) w := by rw [run_lookup_k key_int Try.underlying172 m2 m zero_int true, hf2]; rfl
  have hok := Lib.hid (ok.set h0 hc hc0 hm)
  obtain ⟨w1, k1, e1, kk1, s1⟩ := run_entry_k key_int Try.underlying172 (m1.drew) hf1 zero_int
  obtain ⟨w2, e2, n1, kk2⟩ := s1 w1 (.int .i64 m) 172 rfl
  have kA : Keep [b1] w.drew w2 := kk1.trans kk2
  have m2' := m2.drew.keep kA (by simpa using fun e => h.ne e.symm)
  obtain ⟨w3, k2, e3, kk3, s2⟩ := run_entry_k key_int Try.underlying172 m2' hf2 zero_int
  obtain ⟨w4, e4, n2, kk4⟩ := s2 w3 (.int .i64 (g : Int)) 172 rfl
  have kB : Keep [b2] w2 w4 := kk3.trans kk4
  have n1' := n1.keep kB (by simpa using h.ne)
  have hb1 : b ∉ [b1, b2] := by simp only [List.mem_cons, List.not_mem_nil, or_false, not_or]; exact ⟨fun e => MapAt.ne_blk m1 h.hd e.symm, fun e => MapAt.ne_blk m2 h.hd e.symm⟩
  have kC : Keep [b1, b2] w w4 := ((Keep.refl _ w).drew.trans (kA.mono (S' := [b1, b2]) (by intro x hx _; simp at hx; simp [hx]))).trans (kB.mono (S' := [b1, b2]) (by intro x hx _; simp at hx; simp [hx]))
  have RES := Lib.hid (And.intro (P2mAt.mk (w := w4) (b := b) (b1 := b1) (b2 := b2) (l := l.set g m) (by rw [List.length_set]; exact h.hd.keep kC hb1) ⟨_, _, n1', n2, hok.out⟩ h.ne (by rw [List.length_set]; exact h.hi)) kC)
  clear hc hm ok hlt hf1 hf2 kk1 s1 n1 kk2 kA m2' kk3 s2 n2 kk4 kB n1' hb1 kC hok m1 m2
  go_enter Try.func38, Try.ntmps38
  go_wp2_with (go_at_call 83; refine (p2m_place h g).mono ?_; rw [if_pos ⟨hg0, hlt'⟩]; rintro e w' ⟨rfl, rfl⟩)
  go_region
  all_goals go_wp2
  all_goals go_ret
  all_goals exact ⟨rfl, RES.out⟩
end

end Go.Proofs.Ytkicpmfhnngndaa
