/-
  GrantApart: for every input the law returns true, and each argument reads afterwards as it read before. Conditions: none.
-/
import Derived.Test.YtkicpmfhnngndaaRows
import Derived.Test.YtkicpmfhnngndaaLawH
import Derived.WalkKit
import Derived.ProofKit
import Derived.OpenShut
import Derived.ShutString
import Derived.ChangeOld
import Derived.Below
import Derived.Deep.Slices
import Derived.Deep.Fields
import Derived.ChangeSame
set_option linter.unusedSimpArgs false
set_option linter.unusedVariables false
namespace Go.Proofs.Ytkicpmfhnngndaa.grantApart
open Go.ChangeShapes Go.WideShapes Go.ChangeAt Go.RowKit Go.Deep
set_option linter.unusedVariables false

theorem own : ownKnob Try.prog.godebug = none := by kernel_rfl
theorem laidOut : laidOutB Try.prog = true := by kernel_rfl
theorem cl3 : Try.prog.cellsOf 3 = 1 := by kernel_rfl
theorem cl4 : Try.prog.cellsOf 4 = 1 := by kernel_rfl
theorem cl5 : Try.prog.cellsOf 5 = 1 := by kernel_rfl
theorem clE : Try.prog.cellsOf 56 = 10 := by kernel_rfl
theorem clG : Try.prog.cellsOf 54 = 7 := by kernel_rfl
theorem clT : Try.prog.cellsOf 24 = 5 := by kernel_rfl

section
variable {H : Type} {enc : TypeId × Value → H} {w : World} {base : Nat} {spare : Nat → Bool} {held : Bool} {fuel : Nat} {cs : List Value} {x : DataW H × List MemPlace}
theorem some_at {α : Type} {xs : List α} {n i : Nat} (h : xs.length = n) (hi : i < n) : ∃ y, xs[i]? = some y := ⟨_, List.getElem?_eq_getElem (by omega)⟩
set_option maxRecDepth 100000 in
theorem gr_open (h : DataW.trod enc Try.prog w base spare held fuel 54 cs = some x) :
    ∃ (k : Int) (ro sub : Bool) (d g o l : Int), cs = [.int .i64 k, .bool ro, .bool sub, .int .i64 d, .int .i64 g, .int .i64 o, .int .i64 l] := by
  obtain ⟨xs, n, rfl, _, hl, hxl, hf⟩ := DataW.trod_struct Try.underlying54 h
  rw [clG] at hl
  match cs, hl with
  | [c0, c1, c2, c3, c4, c5, c6], _ =>
    have hx : xs.length = 7 := hxl
    obtain ⟨y0, e0⟩ := some_at hx (i := 0) (by omega)
    obtain ⟨y1, e1⟩ := some_at hx (i := 1) (by omega)
    obtain ⟨y2, e2⟩ := some_at hx (i := 2) (by omega)
    obtain ⟨y3, e3⟩ := some_at hx (i := 3) (by omega)
    obtain ⟨y4, e4⟩ := some_at hx (i := 4) (by omega)
    obtain ⟨y5, e5⟩ := some_at hx (i := 5) (by omega)
    obtain ⟨y6, e6⟩ := some_at hx (i := 6) (by omega)
    obtain ⟨n0, g0, _⟩ := DataW.trod_int Try.underlying3 ((hf 0 _ rfl).trans e0)
    obtain ⟨n1, g1, _⟩ := DataW.trod_bool Try.underlying4 ((hf 1 _ rfl).trans e1)
    obtain ⟨n2, g2, _⟩ := DataW.trod_bool Try.underlying4 ((hf 2 _ rfl).trans e2)
    obtain ⟨n3, g3, _⟩ := DataW.trod_int Try.underlying3 ((hf 3 _ rfl).trans e3)
    obtain ⟨n4, g4, _⟩ := DataW.trod_int Try.underlying3 ((hf 4 _ rfl).trans e4)
    obtain ⟨n5, g5, _⟩ := DataW.trod_int Try.underlying3 ((hf 5 _ rfl).trans e5)
    obtain ⟨n6, g6, _⟩ := DataW.trod_int Try.underlying3 ((hf 6 _ rfl).trans e6)
    simp [cl3, cl4] at g0 g1 g2 g3 g4 g5 g6
    subst g0 g1 g2 g3 g4 g5 g6
    exact ⟨n0, n1, n2, n3, n4, n5, n6, rfl⟩
set_option maxRecDepth 100000 in
theorem en_open (h : DataW.trod enc Try.prog w base spare held fuel 56 cs = some x) : ∃ e : En, cs = e.cells ∧ e.fl < 256 := by
  obtain ⟨xs, n, rfl, _, hl, hxl, hf⟩ := DataW.trod_struct Try.underlying56 h
  rw [clE] at hl
  match cs, hl with
  | [c0, c1, c2, c3, c4, c5, c6, c7, c8, c9], _ =>
    have hx : xs.length = 4 := hxl
    obtain ⟨y0, e0⟩ := some_at hx (i := 0) (by omega)
    obtain ⟨y1, e1⟩ := some_at hx (i := 1) (by omega)
    obtain ⟨y2, e2⟩ := some_at hx (i := 2) (by omega)
    obtain ⟨y3, e3⟩ := some_at hx (i := 3) (by omega)
    obtain ⟨n0, g0, _⟩ := DataW.trod_int Try.underlying3 ((hf 0 _ rfl).trans e0)
    obtain ⟨n1, g1, _⟩ := DataW.trod_int Try.underlying3 ((hf 1 _ rfl).trans e1)
    obtain ⟨k, ro, sub, d, g, o, l, g2⟩ := gr_open ((hf 2 _ rfl).trans e2)
    obtain ⟨n3, g3, _, hwf⟩ := DataW.trod_int Try.underlying5 ((hf 3 _ rfl).trans e3)
    simp [cl3, clG, cl5] at g0 g1 g2 g3
    obtain ⟨g20, g21, g22, g23, g24, g25, g26⟩ := g2
    subst g0 g1 g20 g21 g22 g23 g24 g25 g26 g3
    have hb : 0 ≤ n3 ∧ n3 ≤ 255 := bounds_u8 hwf
    obtain ⟨fl, rfl⟩ := Int.eq_ofNat_of_zero_le hb.1
    exact ⟨⟨n0, n1, k, ro, sub, d, g, o, l, fl⟩, rfl, by dsimp only; omega⟩
set_option maxRecDepth 100000 in
theorem end_open (h : DataW.trod enc Try.prog w base spare held fuel 24 cs = some x) : ∃ t : Ends, cs = [.bool t.gr, .int .i64 t.dom, .int .i64 t.ref, .int .i64 t.gpfn, .int .i64 t.off] := by
  obtain ⟨xs, n, rfl, _, hl, hxl, hf⟩ := DataW.trod_struct Try.underlying24 h
  rw [clT] at hl
  match cs, hl with
  | [c0, c1, c2, c3, c4], _ =>
    have hx : xs.length = 5 := hxl
    obtain ⟨y0, e0⟩ := some_at hx (i := 0) (by omega)
    obtain ⟨y1, e1⟩ := some_at hx (i := 1) (by omega)
    obtain ⟨y2, e2⟩ := some_at hx (i := 2) (by omega)
    obtain ⟨y3, e3⟩ := some_at hx (i := 3) (by omega)
    obtain ⟨y4, e4⟩ := some_at hx (i := 4) (by omega)
    obtain ⟨n0, g0, _⟩ := DataW.trod_bool Try.underlying4 ((hf 0 _ rfl).trans e0)
    obtain ⟨n1, g1, _⟩ := DataW.trod_int Try.underlying3 ((hf 1 _ rfl).trans e1)
    obtain ⟨n2, g2, _⟩ := DataW.trod_int Try.underlying3 ((hf 2 _ rfl).trans e2)
    obtain ⟨n3, g3, _⟩ := DataW.trod_int Try.underlying3 ((hf 3 _ rfl).trans e3)
    obtain ⟨n4, g4, _⟩ := DataW.trod_int Try.underlying3 ((hf 4 _ rfl).trans e4)
    simp [cl3, cl4] at g0 g1 g2 g3 g4
    subst g0 g1 g2 g3 g4
    exact ⟨⟨n0, n1, n2, n3, n4⟩, rfl⟩
end

theorem walk (A : Option Addr) (c : Nat) (es : List En) (caller n : Int) (fr t : Ends) (w : World) (hes : EnsAt w A es) (hlen : es.length ≤ 9223372036854775807) :
    Calls Try.prog 3 #[.slice A es.length c, .int .i64 caller, fr.v, t.v, .int .i64 n] w fun e w' => e = .returned (.bool true) ∧ Below w.heap.size w w' :=
  (law_apart w hes hlen caller n fr t).mono fun e w' ⟨h1, h2⟩ => ⟨h1, h2.below (Nat.le_refl _) (by simp)⟩

theorem slice_open {H : Type} {enc : TypeId × Value → H} {w : World} {spare : Nat → Bool} {held : Bool} {fuel : Nat} {A : Option Addr} {len c : Nat} {x : DataW H × List MemPlace}
    (h : DataW.trod enc Try.prog w 0 spare held fuel 22 [.slice A len c] = some x) : ∃ es : List En, es.length = len ∧ len ≤ 9223372036854775807 ∧ EnsAt w A es := by
  rcases open_slice Try.underlying22 h with ⟨hcs, _⟩ | ⟨a, l, cap, m, k, D, Pl, hcs, hb, hl, hm, hmm, _, hi⟩
  · simp at hcs
    obtain ⟨rfl, rfl, rfl⟩ := hcs
    exact ⟨[], rfl, by omega, fun k e he => by simp at he⟩
  · simp at hcs
    obtain ⟨rfl, rfl, rfl⟩ := hcs
    have hlm : len ≤ m := by rw [hmm]; split <;> omega
    have hex : ∀ i : Fin len, ∃ e : En, e.fl < 256 ∧ (a.add (i.1 * 10)).block < w.heap.size ∧ ∀ j v, e.cells[j]? = some v → w.cell? ((a.add (i.1 * 10)).add j) = some v := by
      intro i
      obtain ⟨cs', hc, ht⟩ := hi i.1 (by omega)
      rw [clE] at hc
      obtain ⟨e, rfl, hfl⟩ := en_open ht
      obtain ⟨_, hcl, hat⟩ := World.cells?_some hc
      have h0 : w.cell? (a.add (i.1 * 10)) = some (.int .i64 e.dom) := by have := hat 0 (by omega); rwa [Addr.add_zero'] at this
      refine ⟨e, hfl, World.block_lt_of_cell? w _ h0, fun j v hv => ?_⟩
      have hj : j < 10 := by have := (List.getElem?_eq_some_iff.1 hv).1; simpa [En.cells] using this
      rw [hat j hj, hv]
    obtain ⟨f, hf⟩ : ∃ f : Fin len → En, ∀ i, (f i).fl < 256 ∧ (a.add (i.1 * 10)).block < w.heap.size ∧ ∀ j v, (f i).cells[j]? = some v → w.cell? ((a.add (i.1 * 10)).add j) = some v := ⟨fun i => Classical.choose (hex i), fun i => Classical.choose_spec (hex i)⟩
    refine ⟨List.ofFn f, by simp, by unfold maxLen at hm; omega, fun k e he => ?_⟩
    have hk : k < len := by have := (List.getElem?_eq_some_iff.1 he).1; simpa using this
    rw [List.getElem?_ofFn, dif_pos hk] at he
    cases he
    obtain ⟨h1, h2, h3⟩ := hf ⟨k, hk⟩
    exact ⟨h1, a, rfl, by rw [show (a.add (k * 10)).block = a.block by unfold Addr.add; split <;> rfl] at h2; exact h2, h3⟩

set_option maxRecDepth 100000 in
theorem lifted (os : Os) (started : os.Started) (H : Type) (enc : TypeId × Value → H) :
    ReturnsInHanded {} Try.checked os 3 .any (Rows.grantApartSpec.pre6 enc Try.prog Try.f3 Rows.grantApartRow.domain false) (Rows.grantApartSpec.post enc Try.prog Try.f3 false true false false) := by
  refine returnsInHanded_of_change (C := Try.checked) own started (by kernel_rfl) Try.func3
    (ChangeSpec.witness6 (enc := enc) (C := Try.checked) false ⟨#[], #[.slice none 0 0, .int .i64 0, .agg #[.bool false, .int .i64 0, .int .i64 0, .int .i64 0, .int .i64 0], .agg #[.bool false, .int .i64 0, .int .i64 0, .int .i64 0, .int .i64 0], .int .i64 0], []⟩ 8 (by kernel_rfl) (by kernel_rfl) (by kernel_rfl) (by kernel_rfl)) ?_
  intro W base args ds gs before hval0 hW hcnd _
  have hval : ∀ (j : Nat) t v, Try.f3.params[j]? = some t → args[j]? = some v → Value.okWide Try.prog W .any base t v := hval0
  have hW' := hW
  obtain ⟨p, q, hA0, hV, rfl, hfz, hnd⟩ := hW
  have hA : DataW.TrodAll enc Try.prog W 0 (fun _ => true) true Try.f3.params.toList args.toList ds p := hA0
  rw [Try.params3] at hA hval
  obtain ⟨v0, vs0, d0, ds0, p0, q0, hargs, rfl, rfl, h0, r0⟩ := trodAll_cons hA
  obtain ⟨v1, vs1, d1, ds1, p1, q1, rfl, rfl, rfl, h1, r1⟩ := trodAll_cons r0
  obtain ⟨v2, vs2, d2, ds2, p2, q2, rfl, rfl, rfl, h2, r2⟩ := trodAll_cons r1
  obtain ⟨v3, vs3, d3, ds3, p3, q3, rfl, rfl, rfl, h3, r3⟩ := trodAll_cons r2
  obtain ⟨v4, vs4, d4, ds4, p4, q4, rfl, rfl, rfl, h4, r4⟩ := trodAll_cons r3
  obtain ⟨rfl, rfl, rfl⟩ := trodAll_nil r4
  obtain rfl : args = #[v0, v1, v2, v3, v4] := by cases args; simp_all
  obtain ⟨rfl, rfl⟩ := trodVars_none hV
  obtain ⟨A0, len0, cap0, rfl⟩ := okWide_slice Try.underlying22 (hval 0 22 v0 rfl rfl)
  have k0 := h0
  have lt0 : ∀ x ∈ p0, x.block < W.heap.size := by obtain ⟨m, hm⟩ := k0; exact DataW.trod_lt m _ _ _ hm
  obtain ⟨es, rfl, hlen, hes⟩ : ∃ es : List En, es.length = len0 ∧ len0 ≤ 9223372036854775807 ∧ EnsAt W A0 es := by
    obtain ⟨fuel, hf⟩ := h0
    exact slice_open (by simpa [Value.cells] using hf)
  have k1 := h1
  have lt1 : ∀ x ∈ p1, x.block < W.heap.size := by obtain ⟨m, hm⟩ := k1; exact DataW.trod_lt m _ _ _ hm
  obtain ⟨a1, rfl, rfl, rfl, w1⟩ := open_int Try.underlying3 (hval 1 3 v1 rfl rfl) h1
  have k2 := h2
  have lt2 : ∀ x ∈ p2, x.block < W.heap.size := by obtain ⟨m, hm⟩ := k2; exact DataW.trod_lt m _ _ _ hm
  obtain ⟨t2, rfl⟩ : ∃ t : Ends, v2 = t.v := by
    obtain ⟨cs, rfl, hsz⟩ := okWide_struct Try.underlying24 (hval 2 24 v2 rfl rfl)
    obtain ⟨fuel, hf⟩ := h2
    obtain ⟨t, ht⟩ := end_open (by simpa [Value.cells] using hf)
    exact ⟨t, by obtain ⟨l⟩ := cs; simp at ht; subst ht; rfl⟩
  have k3 := h3
  have lt3 : ∀ x ∈ p3, x.block < W.heap.size := by obtain ⟨m, hm⟩ := k3; exact DataW.trod_lt m _ _ _ hm
  obtain ⟨t3, rfl⟩ : ∃ t : Ends, v3 = t.v := by
    obtain ⟨cs, rfl, hsz⟩ := okWide_struct Try.underlying24 (hval 3 24 v3 rfl rfl)
    obtain ⟨fuel, hf⟩ := h3
    obtain ⟨t, ht⟩ := end_open (by simpa [Value.cells] using hf)
    exact ⟨t, by obtain ⟨l⟩ := cs; simp at ht; subst ht; rfl⟩
  have k4 := h4
  have lt4 : ∀ x ∈ p4, x.block < W.heap.size := by obtain ⟨m, hm⟩ := k4; exact DataW.trod_lt m _ _ _ hm
  obtain ⟨a4, rfl, rfl, rfl, w4⟩ := open_int Try.underlying3 (hval 4 3 v4 rfl rfl) h4
  clear hA0 hval0
  refine (walk A0 cap0 es a1 a4 t2 t3 W hes hlen).mono fun e W' ⟨he, bel⟩ => ?_
  subst he
  exact ⟨_, rfl, _, _, _, [], _, [], hW', trodAll_mk1 (shut_bool Try.underlying4 _), (trodAll_cons_mk (Below.trod laidOut (by kernel_rfl) (of_decide_eq_true (by kernel_rfl)) k0 bel lt0) (trodAll_cons_mk (shut_int Try.underlying3 w1) (trodAll_cons_mk (Below.trod laidOut (by kernel_rfl) (of_decide_eq_true (by kernel_rfl)) k2 bel lt2) (trodAll_cons_mk (Below.trod laidOut (by kernel_rfl) (of_decide_eq_true (by kernel_rfl)) k3 bel lt3) (trodAll_cons_mk (shut_int Try.underlying3 w4) trodAll_mk0))))), rfl, bel.frame _, fun h => by cases h⟩

theorem over : Rows.grantApartRow.holds Try.pinned (OpenSpec.ofChange Rows.grantApartSpec) :=
  OpenClaim.holds_of_wide 3 Try.f3 rfl rfl rfl rfl rfl rfl rfl ⟨rfl, rfl, rfl, rfl, rfl⟩ rfl rfl rfl rfl rfl (by kernel_rfl) Try.func3 (by kernel_rfl)
    (of_decide_eq_true (by kernel_rfl)) (by unfold Func.isWrapper; first | (rw [if_pos (by decide +kernel)]; kernel_rfl) | (rw [if_neg (by decide +kernel)]; exact ⟨rfl, rfl⟩))
    (fun os started H enc _ => lifted os started H enc)

end Go.Proofs.Ytkicpmfhnngndaa.grantApart

namespace Go.Proofs.Ytkicpmfhnngndaa
/-- GrantApart holds. -/
theorem grantApart_holds : Rows.GrantApartSaid := grantApart.over
#print axioms grantApart_holds
end Go.Proofs.Ytkicpmfhnngndaa
