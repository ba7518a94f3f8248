/- What is proved: what the small methods of phys.Machine compute (none, at, Size, kinds, Get, Put, part, Frame, rest, Give). Conditions: the machine lies in memory as PhysAt says. -/
import Derived.Test.YtkicpmfhnngndaaProg
import Derived.Test.YtkicpmfhnngndaaMach
set_option linter.unusedSimpArgs false
set_option linter.unusedVariables false
namespace Go.Proofs.Ytkicpmfhnngndaa
open Go.RowKit

section
variable {w : World} {bm bf : Nat} {m : Mach}

theorem phys_none (h : PhysAt w bm bf m) : Calls Try.prog 42 #[.pointer (some ⟨bm, 0, none⟩)] w fun e w' => e = .returned (.bool false) ∧ w = w' := by
  obtain ⟨c, h0, h1⟩ := h.heads
  go_enter Try.func42, Try.ntmps42
  go_wp2
  go_ret
  exact ⟨rfl, rfl⟩

theorem phys_domain (n : Int) (w : World) : Calls Try.prog 79 #[.int .i64 n] w fun e w' => e = .returned (.bool (isDom n)) ∧ w = w' := by
  by_cases h1 : 0 ≤ n <;> by_cases h2 : n < 8
  all_goals
    go_enter Try.func79, Try.ntmps79
    go_wp2
    go_ret
    exact ⟨by simp [isDom, h1, h2], rfl⟩

theorem phys_at_some (h : PhysAt w bm bf m) {k : Nat} {f : Fr} (hk : m[k]? = some f) :
    Calls Try.prog 48 #[.pointer (some ⟨bm, 0, none⟩), .int .i64 (k : Int)] w fun e w' => e = .returned (.tuple #[.pointer (some ⟨bf, k * 260, none⟩), .int .i64 0]) ∧ w = w' := by
  obtain ⟨c, h0, h1⟩ := h.heads
  have hl : k < m.length := (List.getElem?_eq_some_iff.1 hk).1
  have hu := h.hi
  go_enter Try.func48, Try.ntmps48
  go_wp2_with (go_at_call 42; refine (phys_none h).mono ?_; rintro e w' ⟨rfl, rfl⟩)
  go_ret2
  exact ⟨rfl, rfl⟩

theorem phys_at_none (h : PhysAt w bm bf m) {i : Int} (hi : m.idx i = none) :
    Calls Try.prog 48 #[.pointer (some ⟨bm, 0, none⟩), .int .i64 i] w fun e w' => e = .returned (.tuple #[.pointer none, .int .i64 1]) ∧ w = w' := by
  obtain ⟨c, h0, h1⟩ := h.heads
  have hu := h.hi
  have hb := Mach.idx_none hi
  clear hi
  by_cases hn : i < 0
  · go_enter Try.func48, Try.ntmps48
    go_wp2_with (go_at_call 42; refine (phys_none h).mono ?_; rintro e w' ⟨rfl, rfl⟩)
    go_ret2
    exact ⟨rfl, rfl⟩
  · have hb' : (m.length : Int) ≤ i := by omega
    go_enter Try.func48, Try.ntmps48
    go_wp2_with (go_at_call 42; refine (phys_none h).mono ?_; rintro e w' ⟨rfl, rfl⟩)
    go_ret2
    exact ⟨rfl, rfl⟩

theorem phys_size (h : PhysAt w bm bf m) : Calls Try.prog 13 #[.pointer (some ⟨bm, 0, none⟩)] w fun e w' => e = .returned (.int .i64 (m.length : Int)) ∧ w = w' := by
  obtain ⟨c, h0, h1⟩ := h.heads
  go_enter Try.func13, Try.ntmps13
  go_wp2_with (go_at_call 42; refine (phys_none h).mono ?_; rintro e w' ⟨rfl, rfl⟩)
  go_ret
  exact ⟨rfl, rfl⟩

theorem phys_kinds_some (h : PhysAt w bm bf m) {k : Nat} {f : Fr} (hk : m[k]? = some f) {kd : Int} (h0 : 0 ≤ kd) (h3 : kd ≤ 3) :
    Calls Try.prog 92 #[.pointer (some ⟨bm, 0, none⟩), .int .i64 (k : Int), .int .i64 kd] w fun e w' => e = .returned (.tuple #[.pointer (some ⟨bf, k * 260, none⟩), .int .i64 0]) ∧ w = w' := by
  go_enter Try.func92, Try.ntmps92
  go_wp2_with (go_at_call 48; refine (phys_at_some h hk).mono ?_; rintro e w' ⟨rfl, rfl⟩)
  go_ret2
  exact ⟨rfl, rfl⟩
theorem phys_kinds_bad (h : PhysAt w bm bf m) {k : Nat} {f : Fr} (hk : m[k]? = some f) {kd : Int} (hb : kd < 0 ∨ 3 < kd) :
    Calls Try.prog 92 #[.pointer (some ⟨bm, 0, none⟩), .int .i64 (k : Int), .int .i64 kd] w fun e w' => e = .returned (.tuple #[.pointer (some ⟨bf, k * 260, none⟩), .int .i64 1]) ∧ w = w' := by
  by_cases hn : kd < 0
  · go_enter Try.func92, Try.ntmps92
    go_wp2_with (go_at_call 48; refine (phys_at_some h hk).mono ?_; rintro e w' ⟨rfl, rfl⟩)
    go_ret2
    exact ⟨rfl, rfl⟩
  · have hb' : 3 < kd := by omega
    go_enter Try.func92, Try.ntmps92
    go_wp2_with (go_at_call 48; refine (phys_at_some h hk).mono ?_; rintro e w' ⟨rfl, rfl⟩)
    go_ret2
    exact ⟨rfl, rfl⟩
theorem phys_kinds_none (h : PhysAt w bm bf m) {i : Int} (hi : m.idx i = none) (kd : Int) :
    Calls Try.prog 92 #[.pointer (some ⟨bm, 0, none⟩), .int .i64 i, .int .i64 kd] w fun e w' => e = .returned (.tuple #[.pointer none, .int .i64 1]) ∧ w = w' := by
  have H := Lib.hid hi
  clear hi
  go_enter Try.func92, Try.ntmps92
  go_wp2_with (go_at_call 48; refine (phys_at_none h H.out).mono ?_; rintro e w' ⟨rfl, rfl⟩)
  go_ret2
  exact ⟨rfl, rfl⟩
end

end Go.Proofs.Ytkicpmfhnngndaa
