/- What is proved: the worlds that begin makes, in memory, step by step: what each step leaves as it was. Conditions: those that each theorem names. -/
import Derived.Test.YtkicpmfhnngndaaLawC
import Derived.Test.YtkicpmfhnngndaaLawD
set_option linter.unusedSimpArgs false
set_option linter.unusedVariables false
namespace Go.Proofs.Ytkicpmfhnngndaa
open Go.RowKit

/-- Both worlds behind d joins. -/
structure St (w : World) (B : Bl) (d dj dr np nq : Nat) (mp mr : Mach) (vp vq : Value) : Prop where
  x : Blk w B.bx 35 [ptrV B.bm, ptrV B.bg, vp, ptrV B.rm, ptrV B.rg, vq]
  ph : PhysAt w B.bm B.bf mp
  gh : GHead w B.bg B.b1 B.b2 B.bm (memI dj B.pb) []
  pl : ∀ e, e < d → P2mAt w (B.pb e) (B.p1 e) (B.p2 e) (plOf e)
  r : RefAt w B.rm B.rf B.rb B.pgs mr
  h : R6At w B.rg B.rd B.rm (memQ dr B.qb) (.slice none 0 0)
  q : ∀ e, e < d → R3At w (B.qb e) (B.ql e) (plOf e)
  op : w.ownsRow (B.bx + 1) 83 1 vp np ((List.range np).map fun (e : Nat) => ptrV (B.pb e))
  oq : w.ownsRow (B.bx + 1) 86 1 vq nq ((List.range nq).map fun (e : Nat) => ptrV (B.qb e))
  am : ∀ e, e < d → B.p1 e ≠ B.b1 ∧ B.p2 e ≠ B.b1

section
variable {w w' : World} {B : Bl} {d dj dr np nq : Nat} {mp mr m' : Mach} {vp vq : Value} {S : List Nat}
theorem St.keep (h : St w B d dj dr np nq mp mr vp vq) (k : Keep S w w') (n0 : B.bx ∉ S) (n1 : B.bm ∉ S) (n2 : B.bf ∉ S) (n3 : B.bg ∉ S) (n4 : B.b1 ∉ S) (n5 : B.b2 ∉ S) (n6 : ∀ e, e < d → B.pb e ∉ S ∧ B.p1 e ∉ S ∧ B.p2 e ∉ S)
    (n7 : B.rm ∉ S) (n8 : B.rf ∉ S) (n9 : B.rb ∉ S) (n10 : ∀ g ∈ B.pgs, g ∉ S) (n11 : B.rg ∉ S) (n12 : B.rd ∉ S) (n13 : ∀ e, e < d → B.qb e ∉ S ∧ B.ql e ∉ S) (n14 : ∀ x ∈ S, vp.ownBlock ≠ some x) (n15 : ∀ x ∈ S, vq.ownBlock ≠ some x) : St w' B d dj dr np nq mp mr vp vq :=
  ⟨h.x.keep k n0, h.ph.keep k n1 n2, h.gh.keep k n3 n4 n5, fun e he => (h.pl e he).keep k (n6 e he).1 (n6 e he).2.1 (n6 e he).2.2, h.r.keep k n7 n8 n9 n10, h.h.keep k n11 n12, fun e he => (h.q e he).keep k (n13 e he).1 (n13 e he).2, own_keep h.op k n14, own_keep h.oq k n15, h.am⟩
theorem St.keep0 (h : St w B d dj dr np nq mp mr vp vq) (k : Keep [] w w') : St w' B d dj dr np nq mp mr vp vq :=
  h.keep k (by simp) (by simp) (by simp) (by simp) (by simp) (by simp) (by simp) (by simp) (by simp) (by simp) (by simp) (by simp) (by simp) (by simp) (by simp) (by simp)
/-- Block bf was written. -/
theorem St.phys (h : St w B d dj dr np nq mp mr vp vq) (k : Keep [B.bf] w w') (hp : PhysAt w' B.bm B.bf m') : St w' B d dj dr np nq m' mr vp vq := by
  obtain ⟨c0, c1, X1, X2⟩ := h.ph.ex
  have X0 := h.x
  have X3 := h.gh.hd
  have X4 := h.gh.m1
  have X5 := h.gh.m2
  obtain ⟨y0, y1, y2, y3, Y1, Y2, Y3⟩ := h.r.ex
  obtain ⟨z0, z1, Z1, Z2⟩ := h.h.ex
  refine ⟨h.x.keep k (by simp only [List.mem_cons, List.not_mem_nil, or_false, not_or, not_false_eq_true]; (repeat' apply And.intro) <;> first | trivial | assumption | exact Blk.ne_ (by assumption) (by assumption) (by decide) | exact MapAt.ne_blk (by assumption) (by assumption) | exact (MapAt.ne_blk (by assumption) (by assumption)).symm), hp, h.gh.keep k (by simp only [List.mem_cons, List.not_mem_nil, or_false, not_or, not_false_eq_true]; (repeat' apply And.intro) <;> first | trivial | assumption | exact Blk.ne_ (by assumption) (by assumption) (by decide) | exact MapAt.ne_blk (by assumption) (by assumption) | exact (MapAt.ne_blk (by assumption) (by assumption)).symm) (by simp only [List.mem_cons, List.not_mem_nil, or_false, not_or, not_false_eq_true]; (repeat' apply And.intro) <;> first | trivial | assumption | exact Blk.ne_ (by assumption) (by assumption) (by decide) | exact MapAt.ne_blk (by assumption) (by assumption) | exact (MapAt.ne_blk (by assumption) (by assumption)).symm) (by simp only [List.mem_cons, List.not_mem_nil, or_false, not_or, not_false_eq_true]; (repeat' apply And.intro) <;> first | trivial | assumption | exact Blk.ne_ (by assumption) (by assumption) (by decide) | exact MapAt.ne_blk (by assumption) (by assumption) | exact (MapAt.ne_blk (by assumption) (by assumption)).symm), fun e he => ?_, h.r.keepF h.ph k, h.h.keep k (by simp only [List.mem_cons, List.not_mem_nil, or_false, not_or, not_false_eq_true]; (repeat' apply And.intro) <;> first | trivial | assumption | exact Blk.ne_ (by assumption) (by assumption) (by decide) | exact MapAt.ne_blk (by assumption) (by assumption) | exact (MapAt.ne_blk (by assumption) (by assumption)).symm) (by simp only [List.mem_cons, List.not_mem_nil, or_false, not_or, not_false_eq_true]; (repeat' apply And.intro) <;> first | trivial | assumption | exact Blk.ne_ (by assumption) (by assumption) (by decide) | exact MapAt.ne_blk (by assumption) (by assumption) | exact (MapAt.ne_blk (by assumption) (by assumption)).symm), fun e he => ?_, own_keep h.op k ?_, own_keep h.oq k ?_, h.am⟩
  · have := (h.pl e he).apart h.ph
    exact (h.pl e he).keep k (by simpa using this.1) (by simpa using this.2.1) (by simpa using this.2.2)
  · obtain ⟨c, r, U1, U2⟩ := (h.q e he).ex
    exact (h.q e he).keep k (by simp only [List.mem_cons, List.not_mem_nil, or_false, not_or, not_false_eq_true]; (repeat' apply And.intro) <;> first | trivial | assumption | exact Blk.ne_ (by assumption) (by assumption) (by decide) | exact MapAt.ne_blk (by assumption) (by assumption) | exact (MapAt.ne_blk (by assumption) (by assumption)).symm) (by simp only [List.mem_cons, List.not_mem_nil, or_false, not_or, not_false_eq_true]; (repeat' apply And.intro) <;> first | trivial | assumption | exact Blk.ne_ (by assumption) (by assumption) (by decide) | exact MapAt.ne_blk (by assumption) (by assumption) | exact (MapAt.ne_blk (by assumption) (by assumption)).symm)
  · intro x hx; simp at hx; subst hx; exact own_blk_ne h.op X2 (by decide)
  · intro x hx; simp at hx; subst hx; exact own_blk_ne h.oq X2 (by decide)
/-- Block rf was written. -/
theorem St.refw (h : St w B d dj dr np nq mp mr vp vq) (k : Keep [B.rf] w w') (hp : RefAt w' B.rm B.rf B.rb B.pgs m') : St w' B d dj dr np nq mp m' vp vq := by
  obtain ⟨c0, c1, X1, X2⟩ := h.ph.ex
  have X0 := h.x
  have X3 := h.gh.hd
  have X4 := h.gh.m1
  have X5 := h.gh.m2
  obtain ⟨y0, y1, y2, y3, Y1, Y2, Y3⟩ := h.r.ex
  obtain ⟨z0, z1, Z1, Z2⟩ := h.h.ex
  refine ⟨h.x.keep k (by simp only [List.mem_cons, List.not_mem_nil, or_false, not_or, not_false_eq_true]; (repeat' apply And.intro) <;> first | trivial | assumption | exact Blk.ne_ (by assumption) (by assumption) (by decide) | exact MapAt.ne_blk (by assumption) (by assumption) | exact (MapAt.ne_blk (by assumption) (by assumption)).symm), h.ph.keep k (by simp only [List.mem_cons, List.not_mem_nil, or_false, not_or, not_false_eq_true]; (repeat' apply And.intro) <;> first | trivial | assumption | exact Blk.ne_ (by assumption) (by assumption) (by decide) | exact MapAt.ne_blk (by assumption) (by assumption) | exact (MapAt.ne_blk (by assumption) (by assumption)).symm) (by simp only [List.mem_cons, List.not_mem_nil, or_false, not_or, not_false_eq_true]; (repeat' apply And.intro) <;> first | trivial | assumption | exact Blk.ne_ (by assumption) (by assumption) (by decide) | exact MapAt.ne_blk (by assumption) (by assumption) | exact (MapAt.ne_blk (by assumption) (by assumption)).symm), h.gh.keep k (by simp only [List.mem_cons, List.not_mem_nil, or_false, not_or, not_false_eq_true]; (repeat' apply And.intro) <;> first | trivial | assumption | exact Blk.ne_ (by assumption) (by assumption) (by decide) | exact MapAt.ne_blk (by assumption) (by assumption) | exact (MapAt.ne_blk (by assumption) (by assumption)).symm) (by simp only [List.mem_cons, List.not_mem_nil, or_false, not_or, not_false_eq_true]; (repeat' apply And.intro) <;> first | trivial | assumption | exact Blk.ne_ (by assumption) (by assumption) (by decide) | exact MapAt.ne_blk (by assumption) (by assumption) | exact (MapAt.ne_blk (by assumption) (by assumption)).symm) (by simp only [List.mem_cons, List.not_mem_nil, or_false, not_or, not_false_eq_true]; (repeat' apply And.intro) <;> first | trivial | assumption | exact Blk.ne_ (by assumption) (by assumption) (by decide) | exact MapAt.ne_blk (by assumption) (by assumption) | exact (MapAt.ne_blk (by assumption) (by assumption)).symm), fun e he => ?_, hp, h.h.keep k (by simp only [List.mem_cons, List.not_mem_nil, or_false, not_or, not_false_eq_true]; (repeat' apply And.intro) <;> first | trivial | assumption | exact Blk.ne_ (by assumption) (by assumption) (by decide) | exact MapAt.ne_blk (by assumption) (by assumption) | exact (MapAt.ne_blk (by assumption) (by assumption)).symm) (by simp only [List.mem_cons, List.not_mem_nil, or_false, not_or, not_false_eq_true]; (repeat' apply And.intro) <;> first | trivial | assumption | exact Blk.ne_ (by assumption) (by assumption) (by decide) | exact MapAt.ne_blk (by assumption) (by assumption) | exact (MapAt.ne_blk (by assumption) (by assumption)).symm), fun e he => ?_, own_keep h.op k ?_, own_keep h.oq k ?_, h.am⟩
  · have U0 := (h.pl e he).hd
    obtain ⟨fr, pl, U1, U2, ok⟩ := (h.pl e he).ex
    exact (h.pl e he).keep k (by simp only [List.mem_cons, List.not_mem_nil, or_false, not_or, not_false_eq_true]; (repeat' apply And.intro) <;> first | trivial | assumption | exact Blk.ne_ (by assumption) (by assumption) (by decide) | exact MapAt.ne_blk (by assumption) (by assumption) | exact (MapAt.ne_blk (by assumption) (by assumption)).symm) (by simp only [List.mem_cons, List.not_mem_nil, or_false, not_or, not_false_eq_true]; (repeat' apply And.intro) <;> first | trivial | assumption | exact Blk.ne_ (by assumption) (by assumption) (by decide) | exact MapAt.ne_blk (by assumption) (by assumption) | exact (MapAt.ne_blk (by assumption) (by assumption)).symm) (by simp only [List.mem_cons, List.not_mem_nil, or_false, not_or, not_false_eq_true]; (repeat' apply And.intro) <;> first | trivial | assumption | exact Blk.ne_ (by assumption) (by assumption) (by decide) | exact MapAt.ne_blk (by assumption) (by assumption) | exact (MapAt.ne_blk (by assumption) (by assumption)).symm)
  · obtain ⟨c, r, U1, U2⟩ := (h.q e he).ex
    exact (h.q e he).keep k (by simp only [List.mem_cons, List.not_mem_nil, or_false, not_or, not_false_eq_true]; (repeat' apply And.intro) <;> first | trivial | assumption | exact Blk.ne_ (by assumption) (by assumption) (by decide) | exact MapAt.ne_blk (by assumption) (by assumption) | exact (MapAt.ne_blk (by assumption) (by assumption)).symm) (by simp only [List.mem_cons, List.not_mem_nil, or_false, not_or, not_false_eq_true]; (repeat' apply And.intro) <;> first | trivial | assumption | exact Blk.ne_ (by assumption) (by assumption) (by decide) | exact MapAt.ne_blk (by assumption) (by assumption) | exact (MapAt.ne_blk (by assumption) (by assumption)).symm)
  · intro x hx; simp at hx; subst hx; exact own_blk_ne h.op Y2 (by decide)
  · intro x hx; simp at hx; subst hx; exact own_blk_ne h.oq Y2 (by decide)

/-- The places of the domain that is being made. -/
structure Mid (w : World) (B : Bl) (d i j bp c1 c2 bq cq : Nat) : Prop where
  p : P2mAt w bp c1 c2 (plI d i)
  q : R3At w bq cq (plI d j)
  a1 : c1 ≠ B.b1 ∧ c1 ≠ B.b2 ∧ c2 ≠ B.b1 ∧ c2 ≠ B.b2
  a2 : ∀ e, e < d → c1 ≠ B.p1 e ∧ c1 ≠ B.p2 e ∧ c2 ≠ B.p1 e ∧ c2 ≠ B.p2 e ∧ cq ≠ B.ql e

variable {i j bp c1 c2 bq cq : Nat}
theorem Mid.keep0 (h : Mid w B d i j bp c1 c2 bq cq) (k : Keep [] w w') : Mid w' B d i j bp c1 c2 bq cq := ⟨h.p.keep k (by simp) (by simp) (by simp), h.q.keep0 k, h.a1, h.a2⟩
theorem Mid.phys (h : Mid w B d i j bp c1 c2 bq cq) {bm bf : Nat} {m : Mach} (hp : PhysAt w bm bf m) (k : Keep [bf] w w') : Mid w' B d i j bp c1 c2 bq cq := by
  obtain ⟨c0, c1, X1, X2⟩ := hp.ex
  have := h.p.apart hp
  obtain ⟨c, r, U1, U2⟩ := h.q.ex
  exact ⟨h.p.keep k (by simpa using this.1) (by simpa using this.2.1) (by simpa using this.2.2), h.q.keep k (by simp only [List.mem_cons, List.not_mem_nil, or_false, not_or, not_false_eq_true]; (repeat' apply And.intro) <;> first | trivial | assumption | exact Blk.ne_ (by assumption) (by assumption) (by decide) | exact MapAt.ne_blk (by assumption) (by assumption) | exact (MapAt.ne_blk (by assumption) (by assumption)).symm) (by simp only [List.mem_cons, List.not_mem_nil, or_false, not_or, not_false_eq_true]; (repeat' apply And.intro) <;> first | trivial | assumption | exact Blk.ne_ (by assumption) (by assumption) (by decide) | exact MapAt.ne_blk (by assumption) (by assumption) | exact (MapAt.ne_blk (by assumption) (by assumption)).symm), h.a1, h.a2⟩
theorem Mid.refw (h : Mid w B d i j bp c1 c2 bq cq) {rm rf rb : Nat} {pgs : List Nat} {m : Mach} (hr : RefAt w rm rf rb pgs m) (k : Keep [rf] w w') : Mid w' B d i j bp c1 c2 bq cq := by
  obtain ⟨y0, y1, y2, y3, Y1, Y2, Y3⟩ := hr.ex
  have U0 := h.p.hd
  obtain ⟨fr, pl, V1, V2, ok⟩ := h.p.ex
  obtain ⟨c, r, U1, U2⟩ := h.q.ex
  exact ⟨h.p.keep k (by simp only [List.mem_cons, List.not_mem_nil, or_false, not_or, not_false_eq_true]; (repeat' apply And.intro) <;> first | trivial | assumption | exact Blk.ne_ (by assumption) (by assumption) (by decide) | exact MapAt.ne_blk (by assumption) (by assumption) | exact (MapAt.ne_blk (by assumption) (by assumption)).symm) (by simp only [List.mem_cons, List.not_mem_nil, or_false, not_or, not_false_eq_true]; (repeat' apply And.intro) <;> first | trivial | assumption | exact Blk.ne_ (by assumption) (by assumption) (by decide) | exact MapAt.ne_blk (by assumption) (by assumption) | exact (MapAt.ne_blk (by assumption) (by assumption)).symm) (by simp only [List.mem_cons, List.not_mem_nil, or_false, not_or, not_false_eq_true]; (repeat' apply And.intro) <;> first | trivial | assumption | exact Blk.ne_ (by assumption) (by assumption) (by decide) | exact MapAt.ne_blk (by assumption) (by assumption) | exact (MapAt.ne_blk (by assumption) (by assumption)).symm), h.q.keep k (by simp only [List.mem_cons, List.not_mem_nil, or_false, not_or, not_false_eq_true]; (repeat' apply And.intro) <;> first | trivial | assumption | exact Blk.ne_ (by assumption) (by assumption) (by decide) | exact MapAt.ne_blk (by assumption) (by assumption) | exact (MapAt.ne_blk (by assumption) (by assumption)).symm) (by simp only [List.mem_cons, List.not_mem_nil, or_false, not_or, not_false_eq_true]; (repeat' apply And.intro) <;> first | trivial | assumption | exact Blk.ne_ (by assumption) (by assumption) (by decide) | exact MapAt.ne_blk (by assumption) (by assumption) | exact (MapAt.ne_blk (by assumption) (by assumption)).symm), h.a1, h.a2⟩
/-- The new domain's maps were written. -/
theorem St.mapw (h : St w B d dj dr np nq mp mr vp vq) (hm : Mid w B d i j bp c1 c2 bq cq) (k : Keep [c1, c2] w w') : St w' B d dj dr np nq mp mr vp vq := by
  obtain ⟨x0, x1, X1, X2⟩ := h.ph.ex
  have X0 := h.x
  have X3 := h.gh.hd
  obtain ⟨y0, y1, y2, y3, Y1, Y2, Y3⟩ := h.r.ex
  obtain ⟨z0, z1, Z1, Z2⟩ := h.h.ex
  obtain ⟨fr, pl, V1, V2, ok⟩ := hm.p.ex
  obtain ⟨a1, a2, a3, a4⟩ := hm.a1
  refine h.keep k (by simp only [List.mem_cons, List.not_mem_nil, or_false, not_or, not_false_eq_true]; (repeat' apply And.intro) <;> first | trivial | assumption | exact Blk.ne_ (by assumption) (by assumption) (by decide) | exact MapAt.ne_blk (by assumption) (by assumption) | exact (MapAt.ne_blk (by assumption) (by assumption)).symm) (by simp only [List.mem_cons, List.not_mem_nil, or_false, not_or, not_false_eq_true]; (repeat' apply And.intro) <;> first | trivial | assumption | exact Blk.ne_ (by assumption) (by assumption) (by decide) | exact MapAt.ne_blk (by assumption) (by assumption) | exact (MapAt.ne_blk (by assumption) (by assumption)).symm) (by simp only [List.mem_cons, List.not_mem_nil, or_false, not_or, not_false_eq_true]; (repeat' apply And.intro) <;> first | trivial | assumption | exact Blk.ne_ (by assumption) (by assumption) (by decide) | exact MapAt.ne_blk (by assumption) (by assumption) | exact (MapAt.ne_blk (by assumption) (by assumption)).symm) (by simp only [List.mem_cons, List.not_mem_nil, or_false, not_or, not_false_eq_true]; (repeat' apply And.intro) <;> first | trivial | assumption | exact Blk.ne_ (by assumption) (by assumption) (by decide) | exact MapAt.ne_blk (by assumption) (by assumption) | exact (MapAt.ne_blk (by assumption) (by assumption)).symm) (by simp; exact ⟨a1.symm, a3.symm⟩) (by simp; exact ⟨a2.symm, a4.symm⟩) (fun e he => ?_) (by simp only [List.mem_cons, List.not_mem_nil, or_false, not_or, not_false_eq_true]; (repeat' apply And.intro) <;> first | trivial | assumption | exact Blk.ne_ (by assumption) (by assumption) (by decide) | exact MapAt.ne_blk (by assumption) (by assumption) | exact (MapAt.ne_blk (by assumption) (by assumption)).symm) (by simp only [List.mem_cons, List.not_mem_nil, or_false, not_or, not_false_eq_true]; (repeat' apply And.intro) <;> first | trivial | assumption | exact Blk.ne_ (by assumption) (by assumption) (by decide) | exact MapAt.ne_blk (by assumption) (by assumption) | exact (MapAt.ne_blk (by assumption) (by assumption)).symm) (by simp only [List.mem_cons, List.not_mem_nil, or_false, not_or, not_false_eq_true]; (repeat' apply And.intro) <;> first | trivial | assumption | exact Blk.ne_ (by assumption) (by assumption) (by decide) | exact MapAt.ne_blk (by assumption) (by assumption) | exact (MapAt.ne_blk (by assumption) (by assumption)).symm) (fun g hg => ?_) (by simp only [List.mem_cons, List.not_mem_nil, or_false, not_or, not_false_eq_true]; (repeat' apply And.intro) <;> first | trivial | assumption | exact Blk.ne_ (by assumption) (by assumption) (by decide) | exact MapAt.ne_blk (by assumption) (by assumption) | exact (MapAt.ne_blk (by assumption) (by assumption)).symm) (by simp only [List.mem_cons, List.not_mem_nil, or_false, not_or, not_false_eq_true]; (repeat' apply And.intro) <;> first | trivial | assumption | exact Blk.ne_ (by assumption) (by assumption) (by decide) | exact MapAt.ne_blk (by assumption) (by assumption) | exact (MapAt.ne_blk (by assumption) (by assumption)).symm) (fun e he => ?_) ?_ ?_
  · have U0 := (h.pl e he).hd
    obtain ⟨b1, b2, b3, b4, b5⟩ := hm.a2 e he
    exact ⟨(by simp only [List.mem_cons, List.not_mem_nil, or_false, not_or, not_false_eq_true]; (repeat' apply And.intro) <;> first | trivial | assumption | exact Blk.ne_ (by assumption) (by assumption) (by decide) | exact MapAt.ne_blk (by assumption) (by assumption) | exact (MapAt.ne_blk (by assumption) (by assumption)).symm), by simp; exact ⟨b1.symm, b3.symm⟩, by simp; exact ⟨b2.symm, b4.symm⟩⟩
  · obtain ⟨cs, hc⟩ := h.r.page hg
    exact (by simp only [List.mem_cons, List.not_mem_nil, or_false, not_or, not_false_eq_true]; (repeat' apply And.intro) <;> first | trivial | assumption | exact Blk.ne_ (by assumption) (by assumption) (by decide) | exact MapAt.ne_blk (by assumption) (by assumption) | exact (MapAt.ne_blk (by assumption) (by assumption)).symm)
  · obtain ⟨c, r, U1, U2⟩ := (h.q e he).ex
    exact ⟨(by simp only [List.mem_cons, List.not_mem_nil, or_false, not_or, not_false_eq_true]; (repeat' apply And.intro) <;> first | trivial | assumption | exact Blk.ne_ (by assumption) (by assumption) (by decide) | exact MapAt.ne_blk (by assumption) (by assumption) | exact (MapAt.ne_blk (by assumption) (by assumption)).symm), (by simp only [List.mem_cons, List.not_mem_nil, or_false, not_or, not_false_eq_true]; (repeat' apply And.intro) <;> first | trivial | assumption | exact Blk.ne_ (by assumption) (by assumption) (by decide) | exact MapAt.ne_blk (by assumption) (by assumption) | exact (MapAt.ne_blk (by assumption) (by assumption)).symm)⟩
  · intro x hx he
    obtain ⟨hb, hlt⟩ := h.op.lt _ he
    rcases h.op.2 with ⟨rfl, _⟩ | ⟨g, cap, cur, rfl, _, hg, _⟩
    · simp [Value.ownBlock] at he
    · have : g = x := by simpa [Value.ownBlock] using he
      subst this
      simp at hx
      rcases hx with rfl | rfl
      · obtain ⟨es, clk, hb', _⟩ := V1; rw [hb'] at hg; cases hg
      · obtain ⟨es, clk, hb', _⟩ := V2; rw [hb'] at hg; cases hg
  · intro x hx he
    rcases h.oq.2 with ⟨rfl, _⟩ | ⟨g, cap, cur, rfl, _, hg, _⟩
    · simp [Value.ownBlock] at he
    · have : g = x := by simpa [Value.ownBlock] using he
      subst this
      simp at hx
      rcases hx with rfl | rfl
      · obtain ⟨es, clk, hb', _⟩ := V1; rw [hb'] at hg; cases hg
      · obtain ⟨es, clk, hb', _⟩ := V2; rw [hb'] at hg; cases hg
/-- The new domain's row of the reference was written. -/
theorem St.roww (h : St w B d dj dr np nq mp mr vp vq) (hm : Mid w B d i j bp c1 c2 bq cq) (k : Keep [cq] w w') : St w' B d dj dr np nq mp mr vp vq := by
  obtain ⟨x0, x1, X1, X2⟩ := h.ph.ex
  have X0 := h.x
  have X3 := h.gh.hd
  have X4 := h.gh.m1
  have X5 := h.gh.m2
  obtain ⟨y0, y1, y2, y3, Y1, Y2, Y3⟩ := h.r.ex
  obtain ⟨z0, z1, Z1, Z2⟩ := h.h.ex
  obtain ⟨cc, rr, V1, V2⟩ := hm.q.ex
  refine h.keep k (by simp only [List.mem_cons, List.not_mem_nil, or_false, not_or, not_false_eq_true]; (repeat' apply And.intro) <;> first | trivial | assumption | exact Blk.ne_ (by assumption) (by assumption) (by decide) | exact MapAt.ne_blk (by assumption) (by assumption) | exact (MapAt.ne_blk (by assumption) (by assumption)).symm) (by simp only [List.mem_cons, List.not_mem_nil, or_false, not_or, not_false_eq_true]; (repeat' apply And.intro) <;> first | trivial | assumption | exact Blk.ne_ (by assumption) (by assumption) (by decide) | exact MapAt.ne_blk (by assumption) (by assumption) | exact (MapAt.ne_blk (by assumption) (by assumption)).symm) (by simp only [List.mem_cons, List.not_mem_nil, or_false, not_or, not_false_eq_true]; (repeat' apply And.intro) <;> first | trivial | assumption | exact Blk.ne_ (by assumption) (by assumption) (by decide) | exact MapAt.ne_blk (by assumption) (by assumption) | exact (MapAt.ne_blk (by assumption) (by assumption)).symm) (by simp only [List.mem_cons, List.not_mem_nil, or_false, not_or, not_false_eq_true]; (repeat' apply And.intro) <;> first | trivial | assumption | exact Blk.ne_ (by assumption) (by assumption) (by decide) | exact MapAt.ne_blk (by assumption) (by assumption) | exact (MapAt.ne_blk (by assumption) (by assumption)).symm) (by simp only [List.mem_cons, List.not_mem_nil, or_false, not_or, not_false_eq_true]; (repeat' apply And.intro) <;> first | trivial | assumption | exact Blk.ne_ (by assumption) (by assumption) (by decide) | exact MapAt.ne_blk (by assumption) (by assumption) | exact (MapAt.ne_blk (by assumption) (by assumption)).symm) (by simp only [List.mem_cons, List.not_mem_nil, or_false, not_or, not_false_eq_true]; (repeat' apply And.intro) <;> first | trivial | assumption | exact Blk.ne_ (by assumption) (by assumption) (by decide) | exact MapAt.ne_blk (by assumption) (by assumption) | exact (MapAt.ne_blk (by assumption) (by assumption)).symm) (fun e he => ?_) (by simp only [List.mem_cons, List.not_mem_nil, or_false, not_or, not_false_eq_true]; (repeat' apply And.intro) <;> first | trivial | assumption | exact Blk.ne_ (by assumption) (by assumption) (by decide) | exact MapAt.ne_blk (by assumption) (by assumption) | exact (MapAt.ne_blk (by assumption) (by assumption)).symm) (by simp only [List.mem_cons, List.not_mem_nil, or_false, not_or, not_false_eq_true]; (repeat' apply And.intro) <;> first | trivial | assumption | exact Blk.ne_ (by assumption) (by assumption) (by decide) | exact MapAt.ne_blk (by assumption) (by assumption) | exact (MapAt.ne_blk (by assumption) (by assumption)).symm) (by simp only [List.mem_cons, List.not_mem_nil, or_false, not_or, not_false_eq_true]; (repeat' apply And.intro) <;> first | trivial | assumption | exact Blk.ne_ (by assumption) (by assumption) (by decide) | exact MapAt.ne_blk (by assumption) (by assumption) | exact (MapAt.ne_blk (by assumption) (by assumption)).symm) (fun g hg => ?_) (by simp only [List.mem_cons, List.not_mem_nil, or_false, not_or, not_false_eq_true]; (repeat' apply And.intro) <;> first | trivial | assumption | exact Blk.ne_ (by assumption) (by assumption) (by decide) | exact MapAt.ne_blk (by assumption) (by assumption) | exact (MapAt.ne_blk (by assumption) (by assumption)).symm) (by simp only [List.mem_cons, List.not_mem_nil, or_false, not_or, not_false_eq_true]; (repeat' apply And.intro) <;> first | trivial | assumption | exact Blk.ne_ (by assumption) (by assumption) (by decide) | exact MapAt.ne_blk (by assumption) (by assumption) | exact (MapAt.ne_blk (by assumption) (by assumption)).symm) (fun e he => ?_) ?_ ?_
  · have U0 := (h.pl e he).hd
    obtain ⟨fr, pl, W1, W2, ok⟩ := (h.pl e he).ex
    exact ⟨(by simp only [List.mem_cons, List.not_mem_nil, or_false, not_or, not_false_eq_true]; (repeat' apply And.intro) <;> first | trivial | assumption | exact Blk.ne_ (by assumption) (by assumption) (by decide) | exact MapAt.ne_blk (by assumption) (by assumption) | exact (MapAt.ne_blk (by assumption) (by assumption)).symm), (by simp only [List.mem_cons, List.not_mem_nil, or_false, not_or, not_false_eq_true]; (repeat' apply And.intro) <;> first | trivial | assumption | exact Blk.ne_ (by assumption) (by assumption) (by decide) | exact MapAt.ne_blk (by assumption) (by assumption) | exact (MapAt.ne_blk (by assumption) (by assumption)).symm), (by simp only [List.mem_cons, List.not_mem_nil, or_false, not_or, not_false_eq_true]; (repeat' apply And.intro) <;> first | trivial | assumption | exact Blk.ne_ (by assumption) (by assumption) (by decide) | exact MapAt.ne_blk (by assumption) (by assumption) | exact (MapAt.ne_blk (by assumption) (by assumption)).symm)⟩
  · obtain ⟨cs, hc⟩ := h.r.page hg
    exact (by simp only [List.mem_cons, List.not_mem_nil, or_false, not_or, not_false_eq_true]; (repeat' apply And.intro) <;> first | trivial | assumption | exact Blk.ne_ (by assumption) (by assumption) (by decide) | exact MapAt.ne_blk (by assumption) (by assumption) | exact (MapAt.ne_blk (by assumption) (by assumption)).symm)
  · obtain ⟨b1, b2, b3, b4, b5⟩ := hm.a2 e he
    obtain ⟨c, r, U1, U2⟩ := (h.q e he).ex
    exact ⟨(by simp only [List.mem_cons, List.not_mem_nil, or_false, not_or, not_false_eq_true]; (repeat' apply And.intro) <;> first | trivial | assumption | exact Blk.ne_ (by assumption) (by assumption) (by decide) | exact MapAt.ne_blk (by assumption) (by assumption) | exact (MapAt.ne_blk (by assumption) (by assumption)).symm), by simp; exact b5.symm⟩
  · intro x hx; simp at hx; subst hx; exact own_blk_ne h.op V2 (by decide)
  · intro x hx; simp at hx; subst hx; exact own_blk_ne h.oq V2 (by decide)

def rowS (v : Value) : List Nat := v.ownBlock.toList
theorem keep_row {w w1 : World} {v : Value} (hg : w.grownBy w1 v.ownBlock) : Keep (rowS v) w w1 :=
  ⟨hg.os, hg.tape, hg.output, hg.size, fun k hk hn => hg.block k hk (fun e => hn (by unfold rowS; rw [← e]; simp))⟩
theorem not_row {v : Value} {g : Nat} (h : v.ownBlock ≠ some g) : g ∉ rowS v := by
  unfold rowS; intro hm; exact h (by simpa using hm)
theorem own_map_ne {base size n b : Nat} {e : TypeId} {v : Value} {xs : List Value} {l : List (Value × Value)} (h : w.ownsRow base e size v n xs) (hm : MapAt w b l) : v.ownBlock ≠ some b := by
  intro he
  rcases h.2 with ⟨rfl, _⟩ | ⟨g, cap, cur, rfl, _, hg, _⟩
  · simp [Value.ownBlock] at he
  · have : g = b := by simpa [Value.ownBlock] using he
    subst this
    obtain ⟨es, clk, hb', _⟩ := hm
    rw [hb'] at hg; cases hg
/-- Behind an append and a store into both's block: what is kept. -/
theorem push_keep {w w1 : World} {v v' : Value} {o : Obj} {bx j : Nat} (hg : (w.alloc o).grownBy w1 v.ownBlock) : Keep (bx :: rowS v) w (w1.setCell ⟨bx, j, none⟩ v') :=
  ((((Keep.refl [] w).alloc o).mono (S' := bx :: rowS v) (by simp)).trans ((keep_row hg).mono (by intro x hx _; simp [hx]))).setCell (.inl (by simp)) _

theorem St.pushP (h : St w B d dj dr np nq mp mr vp vq) {w1 : World} {v' : Value} {o : Obj} (hown : w1.ownsRow (B.bx + 1) 83 1 v' (np + 1) (((List.range np).map fun (e : Nat) => ptrV (B.pb e)) ++ [ptrV (B.pb np)])) (hg : (w.alloc o).grownBy w1 vp.ownBlock) :
    St (w1.setCell ⟨B.bx, 2, none⟩ v') B d dj dr (np + 1) nq mp mr v' vq := by
  have k : Keep (B.bx :: rowS vp) w (w1.setCell ⟨B.bx, 2, none⟩ v') := push_keep hg
  have key : ∀ g t cs, Blk w g t cs → t ≠ 35 → 83 ≠ t → g ∉ B.bx :: rowS vp := by
    intro g t cs hb h1 h2 hm
    rcases List.mem_cons.1 hm with hm | hm
    · exact hb.ne_ h.x h1 hm
    · exact not_row (own_blk_ne h.op hb h2) hm
  have keym : ∀ g l, MapAt w g l → g ∉ B.bx :: rowS vp := by
    intro g l hb hm
    rcases List.mem_cons.1 hm with hm | hm
    · exact hb.ne_blk h.x hm
    · exact not_row (own_map_ne h.op hb) hm
  obtain ⟨c0, c1, X1, X2⟩ := h.ph.ex
  obtain ⟨y0, y1, y2, y3, Y1, Y2, Y3⟩ := h.r.ex
  obtain ⟨z0, z1, Z1, Z2⟩ := h.h.ex
  have hx2 : vp.ownBlock ≠ some B.bx := own_blk_ne h.op h.x (by decide)
  refine ⟨?_, h.ph.keep k (key _ _ _ X1 (by decide) (by decide)) (key _ _ _ X2 (by decide) (by decide)), h.gh.keep k (key _ _ _ h.gh.hd (by decide) (by decide)) (keym _ _ h.gh.m1) (keym _ _ h.gh.m2), fun e he => ?_,
    h.r.keep k (key _ _ _ Y1 (by decide) (by decide)) (key _ _ _ Y2 (by decide) (by decide)) (key _ _ _ Y3 (by decide) (by decide)) (fun g hgm => ?_), h.h.keep k (key _ _ _ Z1 (by decide) (by decide)) (key _ _ _ Z2 (by decide) (by decide)), fun e he => ?_, ?_, own_keep h.oq k ?_, h.am⟩
  · exact ((h.x.alloc o).grown hg hx2).set_ 2 v'
  · obtain ⟨fr, pl, U1, U2, ok⟩ := (h.pl e he).ex
    exact (h.pl e he).keep k (key _ _ _ (h.pl e he).hd (by decide) (by decide)) (keym _ _ U1) (keym _ _ U2)
  · obtain ⟨cs, hc⟩ := h.r.page hgm
    exact key _ _ _ hc (by decide) (by decide)
  · obtain ⟨c, r, U1, U2⟩ := (h.q e he).ex
    exact (h.q e he).keep k (key _ _ _ U1 (by decide) (by decide)) (key _ _ _ U2 (by decide) (by decide))
  · rw [List.range_succ, List.map_append]
    exact ownsRow_setCell_below hown (by simp) _
  · intro x hx he
    rcases List.mem_cons.1 hx with hx | hx
    · subst hx; exact own_blk_ne h.oq h.x (by decide) he
    · have hv : vp.ownBlock = some x := by unfold rowS at hx; simpa using hx
      rcases own_own_ne h.op h.oq (by decide) with h1 | h1
      · rw [hv] at h1; cases h1
      · exact h1 (hv.trans he.symm)
theorem St.pushQ (h : St w B d dj dr np nq mp mr vp vq) {w1 : World} {v' : Value} {o : Obj} (hown : w1.ownsRow (B.bx + 1) 86 1 v' (nq + 1) (((List.range nq).map fun (e : Nat) => ptrV (B.qb e)) ++ [ptrV (B.qb nq)])) (hg : (w.alloc o).grownBy w1 vq.ownBlock) :
    St (w1.setCell ⟨B.bx, 5, none⟩ v') B d dj dr np (nq + 1) mp mr vp v' := by
  have k : Keep (B.bx :: rowS vq) w (w1.setCell ⟨B.bx, 5, none⟩ v') := push_keep hg
  have key : ∀ g t cs, Blk w g t cs → t ≠ 35 → 86 ≠ t → g ∉ B.bx :: rowS vq := by
    intro g t cs hb h1 h2 hm
    rcases List.mem_cons.1 hm with hm | hm
    · exact hb.ne_ h.x h1 hm
    · exact not_row (own_blk_ne h.oq hb h2) hm
  have keym : ∀ g l, MapAt w g l → g ∉ B.bx :: rowS vq := by
    intro g l hb hm
    rcases List.mem_cons.1 hm with hm | hm
    · exact hb.ne_blk h.x hm
    · exact not_row (own_map_ne h.oq hb) hm
  obtain ⟨c0, c1, X1, X2⟩ := h.ph.ex
  obtain ⟨y0, y1, y2, y3, Y1, Y2, Y3⟩ := h.r.ex
  obtain ⟨z0, z1, Z1, Z2⟩ := h.h.ex
  have hx2 : vq.ownBlock ≠ some B.bx := own_blk_ne h.oq h.x (by decide)
  refine ⟨?_, h.ph.keep k (key _ _ _ X1 (by decide) (by decide)) (key _ _ _ X2 (by decide) (by decide)), h.gh.keep k (key _ _ _ h.gh.hd (by decide) (by decide)) (keym _ _ h.gh.m1) (keym _ _ h.gh.m2), fun e he => ?_,
    h.r.keep k (key _ _ _ Y1 (by decide) (by decide)) (key _ _ _ Y2 (by decide) (by decide)) (key _ _ _ Y3 (by decide) (by decide)) (fun g hgm => ?_), h.h.keep k (key _ _ _ Z1 (by decide) (by decide)) (key _ _ _ Z2 (by decide) (by decide)), fun e he => ?_, own_keep h.op k ?_, ?_, h.am⟩
  · exact ((h.x.alloc o).grown hg hx2).set_ 5 v'
  · obtain ⟨fr, pl, U1, U2, ok⟩ := (h.pl e he).ex
    exact (h.pl e he).keep k (key _ _ _ (h.pl e he).hd (by decide) (by decide)) (keym _ _ U1) (keym _ _ U2)
  · obtain ⟨cs, hc⟩ := h.r.page hgm
    exact key _ _ _ hc (by decide) (by decide)
  · obtain ⟨c, r, U1, U2⟩ := (h.q e he).ex
    exact (h.q e he).keep k (key _ _ _ U1 (by decide) (by decide)) (key _ _ _ U2 (by decide) (by decide))
  · intro x hx he
    rcases List.mem_cons.1 hx with hx | hx
    · subst hx; exact own_blk_ne h.op h.x (by decide) he
    · have hv : vq.ownBlock = some x := by unfold rowS at hx; simpa using hx
      rcases own_own_ne h.oq h.op (by decide) with h1 | h1
      · rw [hv] at h1; cases h1
      · exact h1 (hv.trans he.symm)
  · rw [List.range_succ, List.map_append]
    exact ownsRow_setCell_below hown (by simp) _
/-- The new domain's places stay behind an append. -/
theorem Mid.push (h : Mid w B d i j bp c1 c2 bq cq) {e : TypeId} {cs xs : List Value} {base n : Nat} {w' : World} {v : Value} (k : Keep (B.bx :: rowS v) w w') (hx : Blk w B.bx 35 cs) (ho : w.ownsRow base e 1 v n xs) (h1 : e ≠ 174) (h2 : e ≠ 176) (h3 : e ≠ 3) : Mid w' B d i j bp c1 c2 bq cq := by
  have key : ∀ g t cs, Blk w g t cs → t ≠ 35 → e ≠ t → g ∉ B.bx :: rowS v := by
    intro g t cs hb h1 h2 hm
    rcases List.mem_cons.1 hm with hm | hm
    · exact hb.ne_ hx h1 hm
    · exact not_row (own_blk_ne ho hb h2) hm
  have keym : ∀ g l, MapAt w g l → g ∉ B.bx :: rowS v := by
    intro g l hb hm
    rcases List.mem_cons.1 hm with hm | hm
    · exact hb.ne_blk hx hm
    · exact not_row (own_map_ne ho hb) hm
  obtain ⟨fr, pl, U1, U2, ok⟩ := h.p.ex
  obtain ⟨c, r, V1, V2⟩ := h.q.ex
  exact ⟨h.p.keep k (key _ _ _ h.p.hd (by decide) h1) (keym _ _ U1) (keym _ _ U2), h.q.keep k (key _ _ _ V1 (by decide) h2) (key _ _ _ V2 (by decide) h3), h.a1, h.a2⟩
/-- The program's Join. -/
theorem St.joinP (h : St w B d dj dr np nq mp mr vp vq) (k : Keep [B.bf, B.b1] w w') (hp : PhysAt w' B.bm B.bf m') (hg : GHead w' B.bg B.b1 B.b2 B.bm (memI (dj + 1) B.pb) []) : St w' B d (dj + 1) dr np nq m' mr vp vq := by
  obtain ⟨c0, c1, X1, X2⟩ := h.ph.ex
  have X0 := h.x
  have X4 := h.gh.m1
  obtain ⟨y0, y1, y2, y3, Y1, Y2, Y3⟩ := h.r.ex
  obtain ⟨z0, z1, Z1, Z2⟩ := h.h.ex
  have keyo : ∀ {e : TypeId} {base n : Nat} {v : Value} {xs : List Value}, w.ownsRow base e 1 v n xs → e ≠ 113 → ∀ x ∈ [B.bf, B.b1], v.ownBlock ≠ some x := by
    intro e base n v xs ho h1 x hx
    simp at hx
    rcases hx with rfl | rfl
    · exact own_blk_ne ho X2 h1
    · exact own_map_ne ho X4
  refine ⟨h.x.keep k (by simp only [List.mem_cons, List.not_mem_nil, or_false, not_or, not_false_eq_true]; (repeat' apply And.intro) <;> first | trivial | assumption | exact Blk.ne_ (by assumption) (by assumption) (by decide) | exact MapAt.ne_blk (by assumption) (by assumption) | exact (MapAt.ne_blk (by assumption) (by assumption)).symm), hp, hg, fun e he => ?_, h.r.keep k (by simp only [List.mem_cons, List.not_mem_nil, or_false, not_or, not_false_eq_true]; (repeat' apply And.intro) <;> first | trivial | assumption | exact Blk.ne_ (by assumption) (by assumption) (by decide) | exact MapAt.ne_blk (by assumption) (by assumption) | exact (MapAt.ne_blk (by assumption) (by assumption)).symm) (by simp only [List.mem_cons, List.not_mem_nil, or_false, not_or, not_false_eq_true]; (repeat' apply And.intro) <;> first | trivial | assumption | exact Blk.ne_ (by assumption) (by assumption) (by decide) | exact MapAt.ne_blk (by assumption) (by assumption) | exact (MapAt.ne_blk (by assumption) (by assumption)).symm) (by simp only [List.mem_cons, List.not_mem_nil, or_false, not_or, not_false_eq_true]; (repeat' apply And.intro) <;> first | trivial | assumption | exact Blk.ne_ (by assumption) (by assumption) (by decide) | exact MapAt.ne_blk (by assumption) (by assumption) | exact (MapAt.ne_blk (by assumption) (by assumption)).symm) (fun g hgm => ?_), h.h.keep k (by simp only [List.mem_cons, List.not_mem_nil, or_false, not_or, not_false_eq_true]; (repeat' apply And.intro) <;> first | trivial | assumption | exact Blk.ne_ (by assumption) (by assumption) (by decide) | exact MapAt.ne_blk (by assumption) (by assumption) | exact (MapAt.ne_blk (by assumption) (by assumption)).symm) (by simp only [List.mem_cons, List.not_mem_nil, or_false, not_or, not_false_eq_true]; (repeat' apply And.intro) <;> first | trivial | assumption | exact Blk.ne_ (by assumption) (by assumption) (by decide) | exact MapAt.ne_blk (by assumption) (by assumption) | exact (MapAt.ne_blk (by assumption) (by assumption)).symm), fun e he => ?_, own_keep h.op k (keyo h.op (by decide)), own_keep h.oq k (keyo h.oq (by decide)), h.am⟩
  · have U0 := (h.pl e he).hd
    obtain ⟨fr, pl, U1, U2, ok⟩ := (h.pl e he).ex
    have a1 := (h.am e he).1
    have a2 := (h.am e he).2
    exact (h.pl e he).keep k (by simp only [List.mem_cons, List.not_mem_nil, or_false, not_or, not_false_eq_true]; (repeat' apply And.intro) <;> first | trivial | assumption | exact Blk.ne_ (by assumption) (by assumption) (by decide) | exact MapAt.ne_blk (by assumption) (by assumption) | exact (MapAt.ne_blk (by assumption) (by assumption)).symm) (by simp only [List.mem_cons, List.not_mem_nil, or_false, not_or, not_false_eq_true]; (repeat' apply And.intro) <;> first | trivial | assumption | exact Blk.ne_ (by assumption) (by assumption) (by decide) | exact MapAt.ne_blk (by assumption) (by assumption) | exact (MapAt.ne_blk (by assumption) (by assumption)).symm) (by simp only [List.mem_cons, List.not_mem_nil, or_false, not_or, not_false_eq_true]; (repeat' apply And.intro) <;> first | trivial | assumption | exact Blk.ne_ (by assumption) (by assumption) (by decide) | exact MapAt.ne_blk (by assumption) (by assumption) | exact (MapAt.ne_blk (by assumption) (by assumption)).symm)
  · obtain ⟨cs, hc⟩ := h.r.page hgm
    exact (by simp only [List.mem_cons, List.not_mem_nil, or_false, not_or, not_false_eq_true]; (repeat' apply And.intro) <;> first | trivial | assumption | exact Blk.ne_ (by assumption) (by assumption) (by decide) | exact MapAt.ne_blk (by assumption) (by assumption) | exact (MapAt.ne_blk (by assumption) (by assumption)).symm)
  · obtain ⟨c, r, U1, U2⟩ := (h.q e he).ex
    exact (h.q e he).keep k (by simp only [List.mem_cons, List.not_mem_nil, or_false, not_or, not_false_eq_true]; (repeat' apply And.intro) <;> first | trivial | assumption | exact Blk.ne_ (by assumption) (by assumption) (by decide) | exact MapAt.ne_blk (by assumption) (by assumption) | exact (MapAt.ne_blk (by assumption) (by assumption)).symm) (by simp only [List.mem_cons, List.not_mem_nil, or_false, not_or, not_false_eq_true]; (repeat' apply And.intro) <;> first | trivial | assumption | exact Blk.ne_ (by assumption) (by assumption) (by decide) | exact MapAt.ne_blk (by assumption) (by assumption) | exact (MapAt.ne_blk (by assumption) (by assumption)).symm)
theorem Mid.joinP (hm : Mid w B d i j bp c1 c2 bq cq) (h : St w B d dj dr np nq mp mr vp vq) (k : Keep [B.bf, B.b1] w w') : Mid w' B d i j bp c1 c2 bq cq := by
  obtain ⟨c0, c1, X1, X2⟩ := h.ph.ex
  have X4 := h.gh.m1
  obtain ⟨a1, a2, a3, a4⟩ := hm.a1
  have U0 := hm.p.hd
  obtain ⟨fr, pl, U1, U2, ok⟩ := hm.p.ex
  obtain ⟨c, r, V1, V2⟩ := hm.q.ex
  exact ⟨hm.p.keep k (by simp only [List.mem_cons, List.not_mem_nil, or_false, not_or, not_false_eq_true]; (repeat' apply And.intro) <;> first | trivial | assumption | exact Blk.ne_ (by assumption) (by assumption) (by decide) | exact MapAt.ne_blk (by assumption) (by assumption) | exact (MapAt.ne_blk (by assumption) (by assumption)).symm) (by simp only [List.mem_cons, List.not_mem_nil, or_false, not_or, not_false_eq_true]; (repeat' apply And.intro) <;> first | trivial | assumption | exact Blk.ne_ (by assumption) (by assumption) (by decide) | exact MapAt.ne_blk (by assumption) (by assumption) | exact (MapAt.ne_blk (by assumption) (by assumption)).symm) (by simp only [List.mem_cons, List.not_mem_nil, or_false, not_or, not_false_eq_true]; (repeat' apply And.intro) <;> first | trivial | assumption | exact Blk.ne_ (by assumption) (by assumption) (by decide) | exact MapAt.ne_blk (by assumption) (by assumption) | exact (MapAt.ne_blk (by assumption) (by assumption)).symm), hm.q.keep k (by simp only [List.mem_cons, List.not_mem_nil, or_false, not_or, not_false_eq_true]; (repeat' apply And.intro) <;> first | trivial | assumption | exact Blk.ne_ (by assumption) (by assumption) (by decide) | exact MapAt.ne_blk (by assumption) (by assumption) | exact (MapAt.ne_blk (by assumption) (by assumption)).symm) (by simp only [List.mem_cons, List.not_mem_nil, or_false, not_or, not_false_eq_true]; (repeat' apply And.intro) <;> first | trivial | assumption | exact Blk.ne_ (by assumption) (by assumption) (by decide) | exact MapAt.ne_blk (by assumption) (by assumption) | exact (MapAt.ne_blk (by assumption) (by assumption)).symm), hm.a1, hm.a2⟩
/-- The reference's Join. -/
theorem St.joinR (h : St w B d dj dr np nq mp mr vp vq) (k : Keep [B.rf, B.rd] w w') (hp : RefAt w' B.rm B.rf B.rb B.pgs m') (hg : R6At w' B.rg B.rd B.rm (memQ (dr + 1) B.qb) (.slice none 0 0)) : St w' B d dj (dr + 1) np nq mp m' vp vq := by
  obtain ⟨c0, c1, X1, X2⟩ := h.ph.ex
  have X0 := h.x
  have X3 := h.gh.hd
  have X4 := h.gh.m1
  have X5 := h.gh.m2
  obtain ⟨y0, y1, y2, y3, Y1, Y2, Y3⟩ := h.r.ex
  obtain ⟨z0, z1, Z1, Z2⟩ := h.h.ex
  have keyo : ∀ {e : TypeId} {base n : Nat} {v : Value} {xs : List Value}, w.ownsRow base e 1 v n xs → e ≠ 46 → e ≠ 171 → ∀ x ∈ [B.rf, B.rd], v.ownBlock ≠ some x := by
    intro e base n v xs ho h1 h2 x hx
    simp at hx
    rcases hx with rfl | rfl
    · exact own_blk_ne ho Y2 h1
    · exact own_blk_ne ho Z2 h2
  refine ⟨h.x.keep k (by simp only [List.mem_cons, List.not_mem_nil, or_false, not_or, not_false_eq_true]; (repeat' apply And.intro) <;> first | trivial | assumption | exact Blk.ne_ (by assumption) (by assumption) (by decide) | exact MapAt.ne_blk (by assumption) (by assumption) | exact (MapAt.ne_blk (by assumption) (by assumption)).symm), h.ph.keep k (by simp only [List.mem_cons, List.not_mem_nil, or_false, not_or, not_false_eq_true]; (repeat' apply And.intro) <;> first | trivial | assumption | exact Blk.ne_ (by assumption) (by assumption) (by decide) | exact MapAt.ne_blk (by assumption) (by assumption) | exact (MapAt.ne_blk (by assumption) (by assumption)).symm) (by simp only [List.mem_cons, List.not_mem_nil, or_false, not_or, not_false_eq_true]; (repeat' apply And.intro) <;> first | trivial | assumption | exact Blk.ne_ (by assumption) (by assumption) (by decide) | exact MapAt.ne_blk (by assumption) (by assumption) | exact (MapAt.ne_blk (by assumption) (by assumption)).symm), h.gh.keep k (by simp only [List.mem_cons, List.not_mem_nil, or_false, not_or, not_false_eq_true]; (repeat' apply And.intro) <;> first | trivial | assumption | exact Blk.ne_ (by assumption) (by assumption) (by decide) | exact MapAt.ne_blk (by assumption) (by assumption) | exact (MapAt.ne_blk (by assumption) (by assumption)).symm) (by simp only [List.mem_cons, List.not_mem_nil, or_false, not_or, not_false_eq_true]; (repeat' apply And.intro) <;> first | trivial | assumption | exact Blk.ne_ (by assumption) (by assumption) (by decide) | exact MapAt.ne_blk (by assumption) (by assumption) | exact (MapAt.ne_blk (by assumption) (by assumption)).symm) (by simp only [List.mem_cons, List.not_mem_nil, or_false, not_or, not_false_eq_true]; (repeat' apply And.intro) <;> first | trivial | assumption | exact Blk.ne_ (by assumption) (by assumption) (by decide) | exact MapAt.ne_blk (by assumption) (by assumption) | exact (MapAt.ne_blk (by assumption) (by assumption)).symm), fun e he => ?_, hp, hg, fun e he => ?_, own_keep h.op k (keyo h.op (by decide) (by decide)), own_keep h.oq k (keyo h.oq (by decide) (by decide)), h.am⟩
  · have U0 := (h.pl e he).hd
    obtain ⟨fr, pl, U1, U2, ok⟩ := (h.pl e he).ex
    exact (h.pl e he).keep k (by simp only [List.mem_cons, List.not_mem_nil, or_false, not_or, not_false_eq_true]; (repeat' apply And.intro) <;> first | trivial | assumption | exact Blk.ne_ (by assumption) (by assumption) (by decide) | exact MapAt.ne_blk (by assumption) (by assumption) | exact (MapAt.ne_blk (by assumption) (by assumption)).symm) (by simp only [List.mem_cons, List.not_mem_nil, or_false, not_or, not_false_eq_true]; (repeat' apply And.intro) <;> first | trivial | assumption | exact Blk.ne_ (by assumption) (by assumption) (by decide) | exact MapAt.ne_blk (by assumption) (by assumption) | exact (MapAt.ne_blk (by assumption) (by assumption)).symm) (by simp only [List.mem_cons, List.not_mem_nil, or_false, not_or, not_false_eq_true]; (repeat' apply And.intro) <;> first | trivial | assumption | exact Blk.ne_ (by assumption) (by assumption) (by decide) | exact MapAt.ne_blk (by assumption) (by assumption) | exact (MapAt.ne_blk (by assumption) (by assumption)).symm)
  · obtain ⟨c, r, U1, U2⟩ := (h.q e he).ex
    exact (h.q e he).keep k (by simp only [List.mem_cons, List.not_mem_nil, or_false, not_or, not_false_eq_true]; (repeat' apply And.intro) <;> first | trivial | assumption | exact Blk.ne_ (by assumption) (by assumption) (by decide) | exact MapAt.ne_blk (by assumption) (by assumption) | exact (MapAt.ne_blk (by assumption) (by assumption)).symm) (by simp only [List.mem_cons, List.not_mem_nil, or_false, not_or, not_false_eq_true]; (repeat' apply And.intro) <;> first | trivial | assumption | exact Blk.ne_ (by assumption) (by assumption) (by decide) | exact MapAt.ne_blk (by assumption) (by assumption) | exact (MapAt.ne_blk (by assumption) (by assumption)).symm)
theorem Mid.joinR (hm : Mid w B d i j bp c1 c2 bq cq) (h : St w B d dj dr np nq mp mr vp vq) (k : Keep [B.rf, B.rd] w w') : Mid w' B d i j bp c1 c2 bq cq := by
  obtain ⟨y0, y1, y2, y3, Y1, Y2, Y3⟩ := h.r.ex
  obtain ⟨z0, z1, Z1, Z2⟩ := h.h.ex
  have U0 := hm.p.hd
  obtain ⟨fr, pl, U1, U2, ok⟩ := hm.p.ex
  obtain ⟨c, r, V1, V2⟩ := hm.q.ex
  exact ⟨hm.p.keep k (by simp only [List.mem_cons, List.not_mem_nil, or_false, not_or, not_false_eq_true]; (repeat' apply And.intro) <;> first | trivial | assumption | exact Blk.ne_ (by assumption) (by assumption) (by decide) | exact MapAt.ne_blk (by assumption) (by assumption) | exact (MapAt.ne_blk (by assumption) (by assumption)).symm) (by simp only [List.mem_cons, List.not_mem_nil, or_false, not_or, not_false_eq_true]; (repeat' apply And.intro) <;> first | trivial | assumption | exact Blk.ne_ (by assumption) (by assumption) (by decide) | exact MapAt.ne_blk (by assumption) (by assumption) | exact (MapAt.ne_blk (by assumption) (by assumption)).symm) (by simp only [List.mem_cons, List.not_mem_nil, or_false, not_or, not_false_eq_true]; (repeat' apply And.intro) <;> first | trivial | assumption | exact Blk.ne_ (by assumption) (by assumption) (by decide) | exact MapAt.ne_blk (by assumption) (by assumption) | exact (MapAt.ne_blk (by assumption) (by assumption)).symm), hm.q.keep k (by simp only [List.mem_cons, List.not_mem_nil, or_false, not_or, not_false_eq_true]; (repeat' apply And.intro) <;> first | trivial | assumption | exact Blk.ne_ (by assumption) (by assumption) (by decide) | exact MapAt.ne_blk (by assumption) (by assumption) | exact (MapAt.ne_blk (by assumption) (by assumption)).symm) (by simp only [List.mem_cons, List.not_mem_nil, or_false, not_or, not_false_eq_true]; (repeat' apply And.intro) <;> first | trivial | assumption | exact Blk.ne_ (by assumption) (by assumption) (by decide) | exact MapAt.ne_blk (by assumption) (by assumption) | exact (MapAt.ne_blk (by assumption) (by assumption)).symm), hm.a1, hm.a2⟩
/-- The new domain is one of them. -/
theorem St.close (h : St w B d dj dr np nq mp mr vp vq) (hm : Mid w B d 4 4 (B.pb d) (B.p1 d) (B.p2 d) (B.qb d) (B.ql d)) : St w B (d + 1) dj dr np nq mp mr vp vq := by
  refine ⟨h.x, h.ph, h.gh, fun e he => ?_, h.r, h.h, fun e he => ?_, h.op, h.oq, fun e he => ?_⟩
  · by_cases e1 : e = d
    · subst e1; rw [← plI_four]; exact hm.p
    · exact h.pl e (by omega)
  · by_cases e1 : e = d
    · subst e1; rw [← plI_four]; exact hm.q
    · exact h.q e (by omega)
  · by_cases e1 : e = d
    · subst e1; exact ⟨hm.a1.1, hm.a1.2.2.1⟩
    · exact h.am e (by omega)
def Bl.upd (B : Bl) (d bp c1 c2 bq cq : Nat) : Bl :=
  { B with pb := fun e => if e = d then bp else B.pb e, p1 := fun e => if e = d then c1 else B.p1 e, p2 := fun e => if e = d then c2 else B.p2 e, qb := fun e => if e = d then bq else B.qb e, ql := fun e => if e = d then cq else B.ql e }
theorem memI_congr {d : Nat} {f g : Nat → Nat} (h : ∀ e, e < d → f e = g e) : memI d f = memI d g := List.map_congr_left fun e he => by rw [h e (List.mem_range.1 he)]
theorem memQ_congr {d : Nat} {f g : Nat → Nat} (h : ∀ e, e < d → f e = g e) : memQ d f = memQ d g := List.map_congr_left fun e he => by
  by_cases h1 : e < d
  · rw [if_pos h1, if_pos h1, h e h1]
  · rw [if_neg h1, if_neg h1]
theorem Keep.fresh {w wi : World} (K : Keep [] w wi) (hk : Keep S wi w') (hS : ∀ x ∈ S, w.heap.size ≤ x) : Keep [] w w' :=
  ((K.mono (S' := S) (by simp)).trans hk).mono (by intro x hx hl; have := hS x hx; omega)
theorem St.upd (h : St w B d d d d d mp mr vp vq) : St w (B.upd d bp c1 c2 bq cq) d d d d d mp mr vp vq := by
  have hne : ∀ {e : Nat}, e < d → ¬ e = d := by intro e he; omega
  have f1 : ∀ e, e < d → (B.upd d bp c1 c2 bq cq).pb e = B.pb e := fun e he => if_neg (hne he)
  have f2 : ∀ e, e < d → (B.upd d bp c1 c2 bq cq).p1 e = B.p1 e := fun e he => if_neg (hne he)
  have f3 : ∀ e, e < d → (B.upd d bp c1 c2 bq cq).p2 e = B.p2 e := fun e he => if_neg (hne he)
  have f4 : ∀ e, e < d → (B.upd d bp c1 c2 bq cq).qb e = B.qb e := fun e he => if_neg (hne he)
  have f5 : ∀ e, e < d → (B.upd d bp c1 c2 bq cq).ql e = B.ql e := fun e he => if_neg (hne he)
  have g1 : ((List.range d).map fun (e : Nat) => ptrV ((B.upd d bp c1 c2 bq cq).pb e)) = (List.range d).map fun (e : Nat) => ptrV (B.pb e) := List.map_congr_left fun e he => by rw [f1 e (List.mem_range.1 he)]
  have g2 : ((List.range d).map fun (e : Nat) => ptrV ((B.upd d bp c1 c2 bq cq).qb e)) = (List.range d).map fun (e : Nat) => ptrV (B.qb e) := List.map_congr_left fun e he => by rw [f4 e (List.mem_range.1 he)]
  refine ⟨h.x, h.ph, by rw [memI_congr f1]; exact h.gh, fun e he => by rw [f1 e he, f2 e he, f3 e he]; exact h.pl e he, h.r, by rw [memQ_congr f4]; exact h.h, fun e he => by rw [f4 e he, f5 e he]; exact h.q e he, by rw [g1]; exact h.op, by rw [g2]; exact h.oq, fun e he => by rw [f2 e he, f3 e he]; exact h.am e he⟩
end

end Go.Proofs.Ytkicpmfhnngndaa
