/- What is proved: what begin makes. Conditions: the entries lie in memory. -/
import Derived.Test.YtkicpmfhnngndaaLawE
import Derived.Deep.DeepCutAuto
set_option linter.unusedSimpArgs false
set_option linter.unusedVariables false
namespace Go.Proofs.Ytkicpmfhnngndaa
open Go.RowKit

theorem St.both {w : World} {B : Bl} {m : Mach} {vp vq : Value} (h : St w B 3 3 3 3 3 m m vp vq) (hm : Good m) : ∃ B' : Bl, Both w B' m ∧ B'.bx = B.bx ∧ B'.bf = B.bf ∧ B'.rf = B.rf ∧ B'.rd = B.rd ∧ B'.b1 = B.b1 ∧ B'.pgs = B.pgs := by
  obtain ⟨gp, cp, rp, rfl, -, hp⟩ := own_pos (by omega) h.op
  obtain ⟨gq, cq, rq, rfl, -, hq⟩ := own_pos (by omega) h.oq
  exact ⟨{ B with gp := gp, gq := gq }, ⟨⟨cp, cq, h.x⟩, ⟨h.ph, hm, h.gh, h.pl⟩, h.r, h.h, h.q, ⟨rp, hp⟩, ⟨rq, hq⟩⟩, rfl, rfl, rfl, rfl, rfl, rfl⟩
/-- The blocks that are written are new ones. -/
def Fresh (n : Nat) (B : Bl) : Prop := n ≤ B.bx ∧ n ≤ B.bf ∧ n ≤ B.rf ∧ n ≤ B.rd ∧ n ≤ B.b1 ∧ ∀ g ∈ B.pgs, n ≤ g
/-- Behind the first part of begin. -/
def Begun (w w' : World) : Prop := ∃ (B : Bl), B.bx = w.heap.size ∧ St w' B 0 0 0 0 0 (mk 0 0) (mk 0 0) (.slice none 0 0) (.slice none 0 0) ∧ Keep [] w w' ∧ Fresh w.heap.size B

section
variable {w : World} {bx : Nat} {cs : List Value} {m : Mach}
theorem keep_bx (w : World) (bx j : Nat) (v : Value) : Keep [bx] w (w.setCell ⟨bx, j, none⟩ v) := (Keep.refl _ _).setCell (.inl (by simp)) _
theorem PhysAt.farX {bm bf : Nat} (h : PhysAt w bm bf m) (hx : Blk w bx 35 cs) (j : Nat) (v : Value) : PhysAt (w.setCell ⟨bx, j, none⟩ v) bm bf m := by
  obtain ⟨c0, c1, X1, X2⟩ := h.ex
  exact h.keep (keep_bx w bx j v) (by simp only [List.mem_cons, List.not_mem_nil, or_false, not_or, not_false_eq_true]; (repeat' apply And.intro) <;> first | trivial | assumption | exact Blk.ne_ (by assumption) (by assumption) (by decide) | exact MapAt.ne_blk (by assumption) (by assumption) | exact (MapAt.ne_blk (by assumption) (by assumption)).symm) (by simp only [List.mem_cons, List.not_mem_nil, or_false, not_or, not_false_eq_true]; (repeat' apply And.intro) <;> first | trivial | assumption | exact Blk.ne_ (by assumption) (by assumption) (by decide) | exact MapAt.ne_blk (by assumption) (by assumption) | exact (MapAt.ne_blk (by assumption) (by assumption)).symm)
theorem RefAt.farX {rm rf rb : Nat} {pgs : List Nat} (h : RefAt w rm rf rb pgs m) (hx : Blk w bx 35 cs) (j : Nat) (v : Value) : RefAt (w.setCell ⟨bx, j, none⟩ v) rm rf rb pgs m := by
  obtain ⟨y0, y1, y2, y3, Y1, Y2, Y3⟩ := h.ex
  refine h.keep (keep_bx w bx j v) (by simp only [List.mem_cons, List.not_mem_nil, or_false, not_or, not_false_eq_true]; (repeat' apply And.intro) <;> first | trivial | assumption | exact Blk.ne_ (by assumption) (by assumption) (by decide) | exact MapAt.ne_blk (by assumption) (by assumption) | exact (MapAt.ne_blk (by assumption) (by assumption)).symm) (by simp only [List.mem_cons, List.not_mem_nil, or_false, not_or, not_false_eq_true]; (repeat' apply And.intro) <;> first | trivial | assumption | exact Blk.ne_ (by assumption) (by assumption) (by decide) | exact MapAt.ne_blk (by assumption) (by assumption) | exact (MapAt.ne_blk (by assumption) (by assumption)).symm) (by simp only [List.mem_cons, List.not_mem_nil, or_false, not_or, not_false_eq_true]; (repeat' apply And.intro) <;> first | trivial | assumption | exact Blk.ne_ (by assumption) (by assumption) (by decide) | exact MapAt.ne_blk (by assumption) (by assumption) | exact (MapAt.ne_blk (by assumption) (by assumption)).symm) (fun g hg => ?_)
  obtain ⟨cs, hc⟩ := h.page hg
  exact (by simp only [List.mem_cons, List.not_mem_nil, or_false, not_or, not_false_eq_true]; (repeat' apply And.intro) <;> first | trivial | assumption | exact Blk.ne_ (by assumption) (by assumption) (by decide) | exact MapAt.ne_blk (by assumption) (by assumption) | exact (MapAt.ne_blk (by assumption) (by assumption)).symm)
theorem GHead.farX {bg b1 b2 bm : Nat} {mem : List (Int × (Int × Nat))} {mp : List ((Int × Int) × Value)} (h : GHead w bg b1 b2 bm mem mp) (hx : Blk w bx 35 cs) (j : Nat) (v : Value) : GHead (w.setCell ⟨bx, j, none⟩ v) bg b1 b2 bm mem mp := by
  have X3 := h.hd
  have X4 := h.m1
  have X5 := h.m2
  exact h.keep (keep_bx w bx j v) (by simp only [List.mem_cons, List.not_mem_nil, or_false, not_or, not_false_eq_true]; (repeat' apply And.intro) <;> first | trivial | assumption | exact Blk.ne_ (by assumption) (by assumption) (by decide) | exact MapAt.ne_blk (by assumption) (by assumption) | exact (MapAt.ne_blk (by assumption) (by assumption)).symm) (by simp only [List.mem_cons, List.not_mem_nil, or_false, not_or, not_false_eq_true]; (repeat' apply And.intro) <;> first | trivial | assumption | exact Blk.ne_ (by assumption) (by assumption) (by decide) | exact MapAt.ne_blk (by assumption) (by assumption) | exact (MapAt.ne_blk (by assumption) (by assumption)).symm) (by simp only [List.mem_cons, List.not_mem_nil, or_false, not_or, not_false_eq_true]; (repeat' apply And.intro) <;> first | trivial | assumption | exact Blk.ne_ (by assumption) (by assumption) (by decide) | exact MapAt.ne_blk (by assumption) (by assumption) | exact (MapAt.ne_blk (by assumption) (by assumption)).symm)
theorem R6At.farX {rg rd rm : Nat} {D : List (Option (Int × Nat))} {vL : Value} (h : R6At w rg rd rm D vL) (hx : Blk w bx 35 cs) (j : Nat) (v : Value) : R6At (w.setCell ⟨bx, j, none⟩ v) rg rd rm D vL := by
  obtain ⟨z0, z1, Z1, Z2⟩ := h.ex
  exact h.keep (keep_bx w bx j v) (by simp only [List.mem_cons, List.not_mem_nil, or_false, not_or, not_false_eq_true]; (repeat' apply And.intro) <;> first | trivial | assumption | exact Blk.ne_ (by assumption) (by assumption) (by decide) | exact MapAt.ne_blk (by assumption) (by assumption) | exact (MapAt.ne_blk (by assumption) (by assumption)).symm) (by simp only [List.mem_cons, List.not_mem_nil, or_false, not_or, not_false_eq_true]; (repeat' apply And.intro) <;> first | trivial | assumption | exact Blk.ne_ (by assumption) (by assumption) (by decide) | exact MapAt.ne_blk (by assumption) (by assumption) | exact (MapAt.ne_blk (by assumption) (by assumption)).symm)
end

abbrev MidD (w : World) (B : Bl) (d i j : Nat) : Prop := Mid w B d i j (B.pb d) (B.p1 d) (B.p2 d) (B.qb d) (B.ql d)
/-- Within a round of the inner loop: na, nb frames taken in the two machines, i, j places set. -/
def InvJ (w : World) (B : Bl) (d na nb i j : Nat) (vp vq : Value) (w' : World) : Prop :=
  St w' B d d d d d (mk na d) (mk nb d) vp vq ∧ MidD w' B d i j ∧ Keep [] w w' ∧ w.heap.size ≤ B.p1 d ∧ w.heap.size ≤ B.p2 d ∧ w.heap.size ≤ B.ql d
/-- Behind d domains. -/
def InvO (w : World) (d : Nat) (wr : World) : Prop := ∃ (B : Bl) (vp vq : Value), B.bx = w.heap.size ∧ St wr B d d d d d (mk (4 * d) d) (mk (4 * d) d) vp vq ∧ Keep [] w wr ∧ Fresh w.heap.size B
theorem Begun.inv {w w' : World} (h : Begun w w') : InvO w 0 w' := by
  obtain ⟨B, h1, h2, h3, h4⟩ := h
  exact ⟨B, _, _, h1, h2, h3, h4⟩
theorem InvJ.start {w wr w1 w2 : World} {B : Bl} {d : Nat} {vp vq : Value} {bq cq : Nat} (S : St wr B d d d d d (mk (4 * d) d) (mk (4 * d) d) vp vq) (K : Keep [] w wr)
    (h1 : P2mAt w1 (wr.heap.size + 1 + 1) wr.heap.size (wr.heap.size + 1) (List.replicate 8 (-1))) (k1 : Keep [] wr w1) (h2 : R3At w2 bq cq (List.replicate 8 (-1))) (k2 : Keep [] w1 w2) (hc : w1.heap.size ≤ cq) :
    InvJ w (B.upd d (wr.heap.size + 1 + 1) wr.heap.size (wr.heap.size + 1) bq cq) d (4 * d + 0) (4 * d + 0) 0 0 vp vq w2 := by
  have f : (B.upd d (wr.heap.size + 1 + 1) wr.heap.size (wr.heap.size + 1) bq cq).pb d = wr.heap.size + 1 + 1 ∧ (B.upd d (wr.heap.size + 1 + 1) wr.heap.size (wr.heap.size + 1) bq cq).p1 d = wr.heap.size ∧ (B.upd d (wr.heap.size + 1 + 1) wr.heap.size (wr.heap.size + 1) bq cq).p2 d = wr.heap.size + 1 ∧ (B.upd d (wr.heap.size + 1 + 1) wr.heap.size (wr.heap.size + 1) bq cq).qb d = bq ∧ (B.upd d (wr.heap.size + 1 + 1) wr.heap.size (wr.heap.size + 1) bq cq).ql d = cq := by
    simp [Bl.upd]
  have K1 := K.size
  have K2 := k1.size
  refine ⟨((S.keep0 k1).keep0 k2).upd, ?_, (K.trans k1).trans k2, by rw [f.2.1]; exact K1, by rw [f.2.2.1]; omega, by rw [f.2.2.2.2]; omega⟩
  unfold MidD
  rw [f.1, f.2.1, f.2.2.1, f.2.2.2.1, f.2.2.2.2]
  have e1 := S.gh.m1.lt
  have e2 := S.gh.m2.lt
  refine ⟨by rw [plI_zero]; exact h1.keep k2 (by simp) (by simp) (by simp), by rw [plI_zero]; exact h2, ?_, fun e he => ?_⟩
  · have g1 : (B.upd d (wr.heap.size + 1 + 1) wr.heap.size (wr.heap.size + 1) bq cq).b1 = B.b1 := rfl
    have g2 : (B.upd d (wr.heap.size + 1 + 1) wr.heap.size (wr.heap.size + 1) bq cq).b2 = B.b2 := rfl
    rw [g1, g2]
    omega
  · have hne : ¬ e = d := by omega
    have g1 : (B.upd d (wr.heap.size + 1 + 1) wr.heap.size (wr.heap.size + 1) bq cq).p1 e = B.p1 e := if_neg hne
    have g2 : (B.upd d (wr.heap.size + 1 + 1) wr.heap.size (wr.heap.size + 1) bq cq).p2 e = B.p2 e := if_neg hne
    have g3 : (B.upd d (wr.heap.size + 1 + 1) wr.heap.size (wr.heap.size + 1) bq cq).ql e = B.ql e := if_neg hne
    rw [g1, g2, g3]
    obtain ⟨fr, pl, U1, U2, ok⟩ := (S.pl e he).ex
    have a1 := U1.lt
    have a2 := U2.lt
    have a3 := (S.q e he).lt1
    have a4 := k1.size
    omega
theorem mk_alloc' {d i : Nat} (hd : d < 3) (hi : i < 4) : (mk (4 * d + i) d).alloc (d : Int) = (((4 * d + i : Nat) : Int), 0, mk (4 * d + (i + 1)) d) := by
  have := mk_alloc (n := 4 * d + i) (j := d) (d := d) (by omega) (by omega)
  rwa [show 4 * d + i + 1 = 4 * d + (i + 1) by omega] at this

section
variable {w wi : World} {B : Bl} {d i : Nat} {vp vq : Value}
theorem InvJ.alloc (hd : d < 3) (hi : i < 4) (h : InvJ w B d (4 * d + i) (4 * d + i) i i vp vq wi) (F : Fresh w.heap.size B) :
    Calls Try.prog 36 #[.pointer (some ⟨B.bm, 0, none⟩), .int .i64 (d : Int)] wi fun e w' => e = .returned (.tuple #[.int .i64 ((4 * d + i : Nat) : Int), .int .i64 0]) ∧ InvJ w B d (4 * d + (i + 1)) (4 * d + i) i i vp vq w' := by
  obtain ⟨S, M, K, f1, f2, f3⟩ := h
  refine (phys_alloc S.ph (d : Int)).mono ?_
  rw [mk_alloc' hd hi]
  rintro e w' ⟨rfl, hp, hk⟩
  exact ⟨rfl, S.phys hk hp, M.phys S.ph hk, K.fresh hk (by intro x hx; simp at hx; subst hx; exact F.2.1), f1, f2, f3⟩
theorem InvJ.ralloc (hd : d < 3) (hi : i < 4) (h : InvJ w B d (4 * d + (i + 1)) (4 * d + i) i i vp vq wi) (F : Fresh w.heap.size B) :
    Calls Try.prog 37 #[.pointer (some ⟨B.rm, 0, none⟩), .int .i64 (d : Int)] wi fun e w' => e = .returned (.tuple #[.int .i64 ((4 * d + i : Nat) : Int), .int .i64 0]) ∧ InvJ w B d (4 * d + (i + 1)) (4 * d + (i + 1)) i i vp vq w' := by
  obtain ⟨S, M, K, f1, f2, f3⟩ := h
  refine (ref_alloc S.r (d : Int)).mono ?_
  rw [mk_alloc' hd hi]
  rintro e w' ⟨rfl, hp, hk⟩
  exact ⟨rfl, S.refw hk hp, M.refw S.r hk, K.fresh hk (by intro x hx; simp at hx; subst hx; exact F.2.2.1), f1, f2, f3⟩
theorem InvJ.set_ (hd : d < 3) (hi : i < 4) {n : Nat} (h : InvJ w B d n n i i vp vq wi) :
    Calls Try.prog 38 #[.pointer (some ⟨B.pb d, 0, none⟩), .int .i64 (i : Int), .int .i64 (4 * (d : Int) + (i : Int))] wi fun e w' => e = .returned (.int .i64 0) ∧ InvJ w B d n n (i + 1) i vp vq w' := by
  obtain ⟨S, M, K, f1, f2, f3⟩ := h
  refine (p2m_set M.p (g := i) (m := 4 * (d : Int) + (i : Int)) (by omega) (by omega) (plI_none (by omega)) (by omega) plI_in).mono ?_
  rw [plI_set (by omega)]
  rintro e w' ⟨rfl, hp, hk⟩
  refine ⟨rfl, S.mapw M hk, ⟨hp, ?_, M.a1, M.a2⟩, K.fresh hk (by intro x hx; simp at hx; rcases hx with rfl | rfl <;> assumption), f1, f2, f3⟩
  obtain ⟨fr, pl, U1, U2, ok⟩ := M.p.ex
  obtain ⟨c, r, V1, V2⟩ := M.q.ex
  exact M.q.keep hk (by simp only [List.mem_cons, List.not_mem_nil, or_false, not_or, not_false_eq_true]; (repeat' apply And.intro) <;> first | trivial | assumption | exact Blk.ne_ (by assumption) (by assumption) (by decide) | exact MapAt.ne_blk (by assumption) (by assumption) | exact (MapAt.ne_blk (by assumption) (by assumption)).symm) (by simp only [List.mem_cons, List.not_mem_nil, or_false, not_or, not_false_eq_true]; (repeat' apply And.intro) <;> first | trivial | assumption | exact Blk.ne_ (by assumption) (by assumption) (by decide) | exact MapAt.ne_blk (by assumption) (by assumption) | exact (MapAt.ne_blk (by assumption) (by assumption)).symm)
theorem InvJ.rset (hd : d < 3) (hi : i < 4) {n : Nat} (h : InvJ w B d n n (i + 1) i vp vq wi) :
    Calls Try.prog 39 #[.pointer (some ⟨B.qb d, 0, none⟩), .int .i64 (i : Int), .int .i64 (4 * (d : Int) + (i : Int))] wi fun e w' => e = .returned (.int .i64 0) ∧ InvJ w B d n n (i + 1) (i + 1) vp vq w' := by
  obtain ⟨S, M, K, f1, f2, f3⟩ := h
  refine (ref3_set M.q (g := i) (m := 4 * (d : Int) + (i : Int)) (by omega) (by omega) (plI_none (by omega)) (by omega) plI_in).mono ?_
  rw [plI_set (by omega)]
  rintro e w' ⟨rfl, hp, hk⟩
  refine ⟨rfl, S.roww M hk, ⟨?_, hp, M.a1, M.a2⟩, K.fresh hk (by intro x hx; simp at hx; subst hx; exact f3), f1, f2, f3⟩
  obtain ⟨fr, pl, U1, U2, ok⟩ := M.p.ex
  have U0 := M.p.hd
  obtain ⟨c, r, V1, V2⟩ := M.q.ex
  exact M.p.keep hk (by simp only [List.mem_cons, List.not_mem_nil, or_false, not_or, not_false_eq_true]; (repeat' apply And.intro) <;> first | trivial | assumption | exact Blk.ne_ (by assumption) (by assumption) (by decide) | exact MapAt.ne_blk (by assumption) (by assumption) | exact (MapAt.ne_blk (by assumption) (by assumption)).symm) (by simp only [List.mem_cons, List.not_mem_nil, or_false, not_or, not_false_eq_true]; (repeat' apply And.intro) <;> first | trivial | assumption | exact Blk.ne_ (by assumption) (by assumption) (by decide) | exact MapAt.ne_blk (by assumption) (by assumption) | exact (MapAt.ne_blk (by assumption) (by assumption)).symm) (by simp only [List.mem_cons, List.not_mem_nil, or_false, not_or, not_false_eq_true]; (repeat' apply And.intro) <;> first | trivial | assumption | exact Blk.ne_ (by assumption) (by assumption) (by decide) | exact MapAt.ne_blk (by assumption) (by assumption) | exact (MapAt.ne_blk (by assumption) (by assumption)).symm)
end

/-- Behind the inner loop: np, nq places noted. -/
def InvK (w : World) (B : Bl) (d np nq : Nat) (vp vq : Value) (w' : World) : Prop :=
  St w' B d d d np nq (mk (4 * d + 4) d) (mk (4 * d + 4) d) vp vq ∧ MidD w' B d 4 4 ∧ Keep [] w w'
/-- Behind the program's Join. -/
def InvL (w : World) (B : Bl) (d : Nat) (vp vq : Value) (w' : World) : Prop :=
  St w' B d (d + 1) d (d + 1) (d + 1) (mk (4 * d + 4) (d + 1)) (mk (4 * d + 4) d) vp vq ∧ MidD w' B d 4 4 ∧ Keep [] w w'
section
variable {w wi w1 : World} {B : Bl} {d : Nat} {vp vq v' : Value} {o : Obj}
theorem InvK.pushP (h : InvK w B d d d vp vq wi) (hbx : B.bx = w.heap.size) (hown : w1.ownsRow (w.heap.size + 1) 83 1 v' (d + 1) (((List.range d).map fun (e : Nat) => ptrV (B.pb e)) ++ [ptrV (B.pb d)])) (hg : (wi.alloc o).grownBy w1 vp.ownBlock) :
    InvK w B d (d + 1) d v' vq (w1.setCell ⟨w.heap.size, 2, none⟩ v') := by
  obtain ⟨S, M, K⟩ := h
  have h1 := S.pushP (v' := v') (by rw [hbx]; exact hown) hg
  have hk : Keep (B.bx :: rowS vp) wi (w1.setCell ⟨B.bx, 2, none⟩ v') := push_keep hg
  have h2 := M.push hk S.x S.op (by decide) (by decide) (by decide)
  rw [hbx] at h1 h2 hk
  refine ⟨h1, h2, K.fresh hk ?_⟩
  intro x hx
  rcases List.mem_cons.1 hx with hx | hx
  · omega
  · have hv : vp.ownBlock = some x := by unfold rowS at hx; simpa using hx
    have := (S.op.lt x hv).1
    omega
theorem InvK.pushQ (h : InvK w B d (d + 1) d vp vq wi) (hbx : B.bx = w.heap.size) (hown : w1.ownsRow (w.heap.size + 1) 86 1 v' (d + 1) (((List.range d).map fun (e : Nat) => ptrV (B.qb e)) ++ [ptrV (B.qb d)])) (hg : (wi.alloc o).grownBy w1 vq.ownBlock) :
    InvK w B d (d + 1) (d + 1) vp v' (w1.setCell ⟨w.heap.size, 5, none⟩ v') := by
  obtain ⟨S, M, K⟩ := h
  have h1 := S.pushQ (v' := v') (by rw [hbx]; exact hown) hg
  have hk : Keep (B.bx :: rowS vq) wi (w1.setCell ⟨B.bx, 5, none⟩ v') := push_keep hg
  have h2 := M.push hk S.x S.oq (by decide) (by decide) (by decide)
  rw [hbx] at h1 h2 hk
  refine ⟨h1, h2, K.fresh hk ?_⟩
  intro x hx
  rcases List.mem_cons.1 hx with hx | hx
  · omega
  · have hv : vq.ownBlock = some x := by unfold rowS at hx; simpa using hx
    have := (S.oq.lt x hv).1
    omega
theorem InvK.joinP (hd : d < 3) (h : InvK w B d (d + 1) (d + 1) vp vq wi) (F : Fresh w.heap.size B) :
    Calls Try.prog 40 #[.pointer (some ⟨B.bg, 0, none⟩), .int .i64 (d : Int), .int .i64 (4 * (d : Int)), .pointer (some ⟨B.pb d, 0, none⟩)] wi fun e w' => e = .returned (.int .i64 0) ∧ InvL w B d vp vq w' := by
  obtain ⟨S, M, K⟩ := h
  have e4 : ((4 * d : Nat) : Int) = 4 * (d : Int) := by omega
  have hg := (mk_get1 hd).1
  rw [e4] at hg
  refine (grant_join S.gh S.ph M.p (by omega) (memI_none d B.pb) hg).mono ?_
  have hm := memI_succ d B.pb
  rw [e4] at hm
  rw [← hm]
  rintro e w' ⟨rfl, hgh, hp, hk⟩
  exact ⟨rfl, S.joinP hk hp hgh, M.joinP S hk, K.fresh hk (by intro x hx; simp at hx; rcases hx with rfl | rfl; (exact F.2.1); (exact F.2.2.2.2.1))⟩
theorem InvL.joinR (hd : d < 3) (h : InvL w B d vp vq wi) (hbx : B.bx = w.heap.size) (F : Fresh w.heap.size B) :
    Calls Try.prog 41 #[.pointer (some ⟨B.rg, 0, none⟩), .int .i64 (d : Int), .int .i64 (4 * (d : Int)), .pointer (some ⟨B.qb d, 0, none⟩)] wi fun e w' => e = .returned (.int .i64 0) ∧ InvO w (d + 1) w' := by
  obtain ⟨S, M, K⟩ := h
  have e4 : ((4 * d : Nat) : Int) = 4 * (d : Int) := by omega
  have hg := (mk_get1 hd).2
  rw [e4] at hg
  have hx : (memQ d B.qb)[d]? = some none := by rw [memQ_get _ _ (by omega), if_neg (by omega)]
  refine (ref6_join S.h S.r hx hg (B.qb d)).mono ?_
  have hm := memQ_succ (d := d) (by omega) B.qb
  rw [e4] at hm
  rw [hm]
  rintro e w' ⟨rfl, hgh, hp, hk⟩
  refine ⟨rfl, B, vp, vq, hbx, ?_, K.fresh hk (by intro x hx; simp at hx; rcases hx with rfl | rfl; (exact F.2.2.1); (exact F.2.2.2.1)), F⟩
  have := (S.joinR hk hp hgh).close (M.joinR S hk)
  rwa [show 4 * d + 4 = 4 * (d + 1) by omega] at this
end
def En.cells (e : En) : List Value := [.int .i64 e.dom, .int .i64 e.ref, .int .i64 e.kind, .bool e.ro, .bool e.sub, .int .i64 e.gdom, .int .i64 e.gpfn, .int .i64 e.off, .int .i64 e.len, .int .u8 (e.fl : Int)]
/-- A slice of entries. -/
def EnsAt (w : World) (A : Option Addr) (es : List En) : Prop := ∀ (k : Nat) (e : En), es[k]? = some e → e.fl < 256 ∧ ∃ a, A = some a ∧ a.block < w.heap.size ∧ ∀ j v, e.cells[j]? = some v → w.cell? ((a.add (k * 10)).add j) = some v
/-- Both worlds are made, and the entries laid. -/
def BeginOk (w : World) (es : List En) (e : Ending) (w' : World) : Prop := ∃ B, e = .returned (.tuple #[ptrV B.bx, .bool true]) ∧ Both w' B (es.foldl layM (mk 12 3)) ∧ Keep [] w w' ∧ Fresh w.heap.size B
/-- Behind k entries. -/
def LayI (w : World) (B : Bl) (es : List En) (k : Nat) (wi : World) : Prop := Both wi B ((es.take k).foldl layM (mk 12 3)) ∧ Keep [] w wi
theorem info_pp : (Try.prog.info? 83).map (fun i => (i.zero, i.size, i.bytes)) = some (some (.pointer none), 1, 8) := by kernel_rfl
theorem info_pq : (Try.prog.info? 86).map (fun i => (i.zero, i.size, i.bytes)) = some (some (.pointer none), 1, 8) := by kernel_rfl

set_option maxRecDepth 100000 in
set_option maxHeartbeats 8000000 in
theorem law_begin {A : Option Addr} {es : List En} {c : Nat} (w : World) (hes : EnsAt w A es) (hlen : es.length ≤ 9223372036854775807) : Calls Try.prog 6 #[.slice A es.length c] w fun e w' => BeginOk w es e w' := by
  obtain ⟨iP, hiP, hzP, hsP, hbP⟩ := info_parts3 info_pp
  obtain ⟨iQ, hiQ, hzQ, hsQ, hbQ⟩ := info_parts3 info_pq
  go_enter Try.func6, Try.ntmps6
  go_wp2_with (first
    | (go_at_call 30; refine (phys_new (n := 13) (by omega) (by omega) _).mono ?_; rintro e w1 ⟨bm, bf, rfl, HP1, HK1, hb1, hb2⟩
       rw [World.size_alloc] at hb1 hb2
       have x1 := (Blk.new w 35 [.pointer none, .pointer none, .slice none 0 0, .pointer none, .pointer none, .slice none 0 0]).keep HK1 (by simp)
       have k1 : Keep [] w (w1.setCell ⟨w.heap.size, 0, none⟩ (.pointer (some ⟨bm, 0, none⟩))) := (Keep.trans (S := []) (by repeat (first | with_reducible exact Keep.refl _ _ | with_reducible assumption | with_reducible apply Keep.alloc | with_reducible apply Keep.drewN | with_reducible apply Keep.drew | (with_reducible refine Keep.setCell ?_ ?_ _) | focus (left; simp; done) | focus (right; simp; done) | focus (right; simp; omega))) HK1).setCell (.inr (by simp)) _
       have x10 : w1.cell? ⟨w.heap.size, 0, none⟩ = some (.pointer none) := x1.cell 0
       have x1f := x1.frozen)
    | (go_at_call 31; refine (ref_new (n := 13) (by omega) (by omega) _).mono ?_; rintro e w2 ⟨rm, rf, rb, pgs, rfl, HR2, HK2, hb3, hb4⟩
       have x2 := (x1.set_ 0 (.pointer (some ⟨bm, 0, none⟩))).keep HK2 (by simp)
       have HP2 := (HP1.farX x1 0 (.pointer (some ⟨bm, 0, none⟩))).keep HK2 (by simp) (by simp)
       have k2 := k1.trans HK2
       have hs1 := k1.size
       have x20 : w2.cell? ⟨w.heap.size, 0, none⟩ = some (.pointer (some ⟨bm, 0, none⟩)) := x2.cell 0
       have x23 : w2.cell? ⟨w.heap.size, 3, none⟩ = some (.pointer none) := x2.cell 3
       have x2f := x2.frozen)
    | (go_at_call 32
       have HP3 := HP2.farX x2 3 (.pointer (some ⟨rm, 0, none⟩))
       have HR3 := HR2.farX x2 3 (.pointer (some ⟨rm, 0, none⟩))
       have k3 : Keep [] w (w2.setCell ⟨w.heap.size, 3, none⟩ (.pointer (some ⟨rm, 0, none⟩))) := k2.setCell (.inr (by simp)) _
       have hs2 := k3.size
       refine (grant_new HP3 (by simp)).mono ?_; rintro e w3 ⟨rfl, HG3, HK3⟩
       have hse : (w2.setCell ⟨w.heap.size, 3, none⟩ (.pointer (some ⟨rm, 0, none⟩))).heap.size = w2.heap.size := by simp [World.setCell]
       rw [hse] at HG3
       have x3 := (x2.set_ 3 (.pointer (some ⟨rm, 0, none⟩))).keep HK3 (by simp)
       have HP4 := (HP3.keep HK3 (by simp) (by simp))
       have HR4 := HR3.keep0 HK3
       have k4 := k3.trans HK3
       have x33 : w3.cell? ⟨w.heap.size, 3, none⟩ = some (.pointer (some ⟨rm, 0, none⟩)) := x3.cell 3
       have x31 : w3.cell? ⟨w.heap.size, 1, none⟩ = some (.pointer none) := x3.cell 1
       have x3f := x3.frozen)
    | (go_at_call 33; refine (ref6_new rm _).mono ?_; rintro e w4 ⟨rg, rd, rfl, HH4, HK4, hb5⟩
       have x4 := (x3.set_ 1 (.pointer (some ⟨w2.heap.size + 1 + 1, 0, none⟩))).keep HK4 (by simp)
       have HP5 := (HP4.farX x3 1 (.pointer (some ⟨w2.heap.size + 1 + 1, 0, none⟩))).keep HK4 (by simp) (by simp)
       have HR5 := (HR4.farX x3 1 (.pointer (some ⟨w2.heap.size + 1 + 1, 0, none⟩))).keep0 HK4
       have HG5 := (HG3.farX x3 1 (.pointer (some ⟨w2.heap.size + 1 + 1, 0, none⟩))).keep0 HK4
       have k5 : Keep [] w w4 := (k4.setCell (.inr (by simp)) _).trans HK4
       have hs3 := k4.size
       have x44 : w4.cell? ⟨w.heap.size, 4, none⟩ = some (.pointer none) := x4.cell 4
       have x4f := x4.frozen
       have e1 : (w1.setCell ⟨w.heap.size, 0, none⟩ (.pointer (some ⟨bm, 0, none⟩))).heap.size = w1.heap.size := by simp [World.setCell]
       have e3 : (w3.setCell ⟨w.heap.size, 1, none⟩ (.pointer (some ⟨w2.heap.size + 1 + 1, 0, none⟩))).heap.size = w3.heap.size := by simp [World.setCell]
       have fr1 : w.heap.size ≤ rf := by omega
       have fr2 : w.heap.size ≤ rd := by omega
       have fr3 : w.heap.size ≤ w2.heap.size := by omega
       have fr4 : ∀ g ∈ pgs, w.heap.size ≤ g := fun g hg => by
         have := hb4 g hg
         omega
       have HZ : Hid (Begun w (w4.setCell ⟨w.heap.size, 4, none⟩ (.pointer (some ⟨rg, 0, none⟩)))) := Lib.hid ⟨⟨w.heap.size, bm, bf, w2.heap.size + 1 + 1, w2.heap.size, w2.heap.size + 1, fun _ => 0, fun _ => 0, fun _ => 0, 0, rm, rf, rb, pgs, rg, rd, fun _ => 0, fun _ => 0, 0⟩, rfl,
           ⟨x4.set_ 4 _, by rw [mk_zero]; exact HP5.farX x4 4 _, HG5.farX x4 4 _, fun e he => absurd he (Nat.not_lt_zero e), by rw [mk_zero]; exact HR5.farX x4 4 _, by rw [memQ_zero]; exact HH4.farX x4 4 _, fun e he => absurd he (Nat.not_lt_zero e), World.ownsRow_nil _ _ _ _, World.ownsRow_nil _ _ _ _, fun e he => absurd he (Nat.not_lt_zero e)⟩,
           k5.setCell (.inr (by simp)) _, ⟨Nat.le_refl _, Nat.le_trans (Nat.le_succ _) hb2, fr1, fr2, fr3, fr4⟩⟩
       clear x1 x2 x3 x4 HP1 HP2 HP3 HP4 HP5 HR2 HR3 HR4 HR5 HG3 HG5 HH4 k1 k2 k3 k4 k5 HK1 HK2 HK3 HK4 e1 e3 hse hb4))
  clear x10 x1f x20 x23 x2f x33 x31 x3f x44 x4f hb1 hb2 hb3 hb5 hs1 hs2 hs3 fr1 fr2 fr3 fr4
  go_loopw [5] (fun dv wr => ∃ d : Nat, d ≤ 3 ∧ dv = .int .i64 (d : Int) ∧ InvO w d wr) (fun dv _ => 3 - (intOf dv).toNat)
  case atStart => exact ⟨0, by omega, rfl, HZ.out.inv⟩
  case round =>
    obtain ⟨d, hd, rfl, HH⟩ := hrel
    by_cases hlt : d < 3
    · obtain ⟨B, vp, vq, hbx, S, K, F⟩ := HH
      have HB := Lib.hid hbx
      have SX := S.x
      rw [hbx] at SX
      have c1 : wr.cell? ⟨w.heap.size, 1, none⟩ = some (.pointer (some ⟨B.bg, 0, none⟩)) := SX.cell 1
      have HS := Lib.hid (And.intro S (And.intro K F))
      clear hbx S K F SX HZ
      go_wp2_with (first
        | (go_at_call 34; refine (p2m_new (n := 8) (by omega) _).mono ?_; rintro e w1 ⟨rfl, HP1, HK1⟩)
        | (go_at_call 35; refine (ref3_new (n := 8) (by omega) (by omega) _).mono ?_; rintro e w2 ⟨bq, cq, rfl, HQ2, HK2, hq1, hq2⟩
           have c2 : w2.cell? ⟨w.heap.size, 1, none⟩ = some (.pointer (some ⟨B.bg, 0, none⟩)) := (HK1.trans HK2).cell_some c1 (by simp)
           have HI := Lib.hid (InvJ.start HS.out.1 HS.out.2.1 HP1 HK1 HQ2 HK2 hq2)
           clear HP1 HK1 HQ2 HK2 hq1 hq2))
      have hu : Hid ((B.upd d (wr.heap.size + 1 + 1) wr.heap.size (wr.heap.size + 1) bq cq).pb d = wr.heap.size + 1 + 1 ∧ (B.upd d (wr.heap.size + 1 + 1) wr.heap.size (wr.heap.size + 1) bq cq).qb d = bq ∧ (B.upd d (wr.heap.size + 1 + 1) wr.heap.size (wr.heap.size + 1) bq cq).bx = w.heap.size ∧ Fresh w.heap.size (B.upd d (wr.heap.size + 1 + 1) wr.heap.size (wr.heap.size + 1) bq cq)) := Lib.hid ⟨by simp [Bl.upd], by simp [Bl.upd], HB.out, HS.out.2.2⟩
      generalize B.upd d (wr.heap.size + 1 + 1) wr.heap.size (wr.heap.size + 1) bq cq = B2 at HI hu
      generalize hz1 : wr.heap.size + 1 + 1 = zp at hu ⊢
      clear hz1 c1 c2 HS HB
      go_loopw [10] (fun iv wi => ∃ i : Nat, i ≤ 4 ∧ iv = .int .i64 (i : Int) ∧ InvJ w B2 d (4 * d + i) (4 * d + i) i i vp vq wi) (fun iv _ => 4 - (intOf iv).toNat)
      case atStart => exact ⟨0, by omega, rfl, HI.out⟩
      case round =>
        obtain ⟨i, hi, rfl, HH⟩ := hrel
        by_cases hlt4 : i < 4
        · have HX : Hid (∀ (W : World) (na nb i j : Nat), InvJ w B2 d na nb i j vp vq W → W.cell? ⟨w.heap.size, 0, none⟩ = some (.pointer (some ⟨B2.bm, 0, none⟩)) ∧ W.cell? ⟨w.heap.size, 3, none⟩ = some (.pointer (some ⟨B2.rm, 0, none⟩))) := Lib.hid (by
            intro W na nb i j h
            have SX := h.1.x
            rw [hu.out.2.2.1] at SX
            exact ⟨SX.cell 0, SX.cell 3⟩)
          have c1 := (HX.out _ _ _ _ _ HH).1
          have HJ := Lib.hid HH
          clear HH
          go_wp2_with (first
            | (go_at_call 36; refine (HJ.out.alloc hlt hlt4 hu.out.2.2.2).mono ?_; rintro e w1 ⟨rfl, J1⟩; have J1 := Lib.hid J1; have c2 := (HX.out _ _ _ _ _ J1.out).2)
            | (go_at_call 37; refine (J1.out.ralloc hlt hlt4 hu.out.2.2.2).mono ?_; rintro e w2 ⟨rfl, J2⟩; have J2 := Lib.hid J2)
            | (go_at_call 38; have CC := J2.out.set_ hlt hlt4; rw [hu.out.1] at CC; refine CC.mono ?_; clear CC; rintro e w3 ⟨rfl, J3⟩; have J3 := Lib.hid J3)
            | (go_at_call 39; have CC := J3.out.rset hlt hlt4; rw [hu.out.2.1] at CC; refine CC.mono ?_; clear CC; rintro e w4 ⟨rfl, J4⟩; have J4 := Lib.hid J4))
          go_roundw
          case rel => exact ⟨i + 1, by omega, by go_num, J4.out⟩
          case measure => simp [intOf]; omega
        · obtain rfl : i = 4 := by omega
          have HK : Hid (InvK w B2 d d d vp vq wr) := Lib.hid ⟨HH.1, HH.2.1, HH.2.2.1⟩
          obtain ⟨S, -, -⟩ := id HH
          have SX := S.x
          have SO := S.op
          have SQ := S.oq
          rw [hu.out.2.2.1] at SX SO SQ
          have x2 : wr.cell? ⟨w.heap.size, 2, none⟩ = some vp := SX.cell 2
          have xf := SX.frozen
          have hsz := SX.lt
          have hnp : vp.ownBlock ≠ some w.heap.size := own_blk_ne SO SX (by decide)
          have hnq : vq.ownBlock ≠ some w.heap.size := own_blk_ne SQ SX (by decide)
          clear HH HI S
          go_upto_region 23 with ((at_builtin; refine wpList_append_own _ rfl (.tmp 106) (.tmp 108) 30 rfl (w.heap.size + 1) 83 iP _ 1 8 Try.underlying30 hiP hzP hsP hbP rfl (by decide) vp d _ rfl (SO.alloc _) ⟨wr.heap.size, 0, none⟩ 1 1 [ptrV zp] rfl rfl (cell_one_new _ _ _) (by simp [Value.oneCell', ptrV]) (by unfold maxLen; omega) (by omega) (by simp; omega) ?_; intro v' w5 hown' hgrow _; obtain ⟨g', cap', rfl⟩ := ownsRow_succ hown'; have K1 := Lib.hid (HK.out.pushP hu.out.2.2.1 (by rw [hu.out.1]; exact hown') hgrow); have hb1 := (SX.alloc _).grown hgrow hnp; have x22 : w5.cell? ⟨w.heap.size, 2, none⟩ = some vp := hb1.cell 2; have xf2 := hb1.frozen; clear hown' hgrow hb1 SO SX x2 xf hnp))
          generalize w5.setCell ⟨w.heap.size, 2, none⟩ (Value.slice (some ⟨g', 0, none⟩) (d + 1) cap') = wb at K1 ⊢
          clear x22 xf2 SQ hsz
          have SQ := K1.out.1.oq
          have SX := K1.out.1.x
          rw [hu.out.2.2.1] at SQ SX
          have x5 : wb.cell? ⟨w.heap.size, 5, none⟩ = some vq := SX.cell 5
          have xf := SX.frozen
          have hsz := SX.lt
          go_wp2_with (first
            | (at_builtin; refine wpList_append_own _ rfl (.tmp 116) (.tmp 118) 33 rfl (w.heap.size + 1) 86 iQ _ 1 8 Try.underlying33 hiQ hzQ hsQ hbQ rfl (by decide) vq d _ rfl (SQ.alloc _) ⟨wb.heap.size, 0, none⟩ 1 1 [ptrV bq] rfl rfl (cell_one_new _ _ _) (by simp [Value.oneCell', ptrV]) (by unfold maxLen; omega) (by omega) (by simp; omega) ?_; intro v'' w6 hown' hgrow _; obtain ⟨g'', cap'', rfl⟩ := ownsRow_succ hown'; have K2 := Lib.hid (K1.out.pushQ hu.out.2.2.1 (by rw [hu.out.2.1]; exact hown') hgrow); have hb1 := (SX.alloc _).grown hgrow hnq; have x35 : w6.cell? ⟨w.heap.size, 5, none⟩ = some vq := hb1.cell 5; have x31 : w6.cell? ⟨w.heap.size, 1, none⟩ = some (.pointer (some ⟨B2.bg, 0, none⟩)) := hb1.cell 1; have xf3 := hb1.frozen; clear hown' hgrow hb1 SQ SX x5 xf hnq)
            | (go_at_call 40; have CC := K2.out.joinP hlt hu.out.2.2.2; rw [hu.out.1] at CC; refine CC.mono ?_; clear CC; rintro e w7 ⟨rfl, K3⟩; have K3 := Lib.hid K3; have SX3 := K3.out.1.x; rw [hu.out.2.2.1] at SX3; have x44 : w7.cell? ⟨w.heap.size, 4, none⟩ = some (.pointer (some ⟨B2.rg, 0, none⟩)) := SX3.cell 4; clear SX3)
            | (go_at_call 41; have CC := K3.out.joinR hlt hu.out.2.2.1 hu.out.2.2.2; rw [hu.out.2.1] at CC; refine CC.mono ?_; clear CC; rintro e w8 ⟨rfl, K4⟩; have K4 := Lib.hid K4))
          go_roundw
          case rel => exact ⟨d + 1, by omega, by go_num, K4.out⟩
          case measure => simp [intOf]; omega
    · have hd3 : (3 : Int) ≤ (d : Int) := by omega
      obtain ⟨B0, vp, vq, hbx, S, K, F⟩ := HH
      rw [show d = 3 by omega] at S
      obtain ⟨B, hB, q1, q2, q3, q4, q5, q6⟩ := S.both mk_good
      have F' : Fresh w.heap.size B := by unfold Fresh at F ⊢; rw [q1, q2, q3, q4, q5, q6]; exact F
      rw [← q1] at hbx
      have HB := Lib.hid (And.intro hbx F')
      have HL : Hid (LayI w B es 0 wr) := Lib.hid ⟨by rw [List.take_zero]; exact hB, K⟩
      clear q1 q2 q3 q4 q5 q6 hB F'
      have HE := Lib.hid hes
      clear hbx S K F HZ hes hlt
      go_wp2
      go_loopw [11] (fun iv wi => ∃ k : Nat, k ≤ es.length ∧ iv = .int .i64 (k : Int) ∧ LayI w B es k wi) (fun iv _ => es.length - (intOf iv).toNat)
      case atStart => exact ⟨0, Nat.zero_le _, rfl, HL.out⟩
      case round =>
        obtain ⟨k, hk, rfl, HH⟩ := hrel
        by_cases hkl : k < es.length
        · have hek : es[k]? = some es[k] := List.getElem?_eq_getElem hkl
          obtain ⟨hfl, a, rfl, hab, hcl⟩ := HE.out k _ hek
          have k0 : (0 : Int) ≤ (k : Int) := by omega
          have k1 : (k : Int) < (es.length : Int) := by omega
          generalize es[k] = e at hek hfl hcl
          have HKK := HH.2
          have f0 : wr.cell? (a.add (k * 10)) = some (.int .i64 e.dom) := by have := HKK.cell_some (hcl 0 _ rfl) (by simp); rwa [Addr.add_zero'] at this
          have f1 : wr.cell? ⟨(a.add (k * 10)).block, (a.add (k * 10)).off + 1, none⟩ = some (.int .i64 e.ref) := by have := HKK.cell_some (hcl 1 _ rfl) (by simp); rwa [Addr.add_succ'] at this
          have f2 : wr.cell? ⟨(a.add (k * 10)).block, (a.add (k * 10)).off + 2, none⟩ = some (.int .i64 e.kind) := by have := HKK.cell_some (hcl 2 _ rfl) (by simp); rwa [Addr.add_succ'] at this
          have f3 : wr.cell? ⟨(a.add (k * 10)).block, (a.add (k * 10)).off + 3, none⟩ = some (.bool e.ro) := by have := HKK.cell_some (hcl 3 _ rfl) (by simp); rwa [Addr.add_succ'] at this
          have f4 : wr.cell? ⟨(a.add (k * 10)).block, (a.add (k * 10)).off + 4, none⟩ = some (.bool e.sub) := by have := HKK.cell_some (hcl 4 _ rfl) (by simp); rwa [Addr.add_succ'] at this
          have f5 : wr.cell? ⟨(a.add (k * 10)).block, (a.add (k * 10)).off + 5, none⟩ = some (.int .i64 e.gdom) := by have := HKK.cell_some (hcl 5 _ rfl) (by simp); rwa [Addr.add_succ'] at this
          have f6 : wr.cell? ⟨(a.add (k * 10)).block, (a.add (k * 10)).off + 6, none⟩ = some (.int .i64 e.gpfn) := by have := HKK.cell_some (hcl 6 _ rfl) (by simp); rwa [Addr.add_succ'] at this
          have f7 : wr.cell? ⟨(a.add (k * 10)).block, (a.add (k * 10)).off + 7, none⟩ = some (.int .i64 e.off) := by have := HKK.cell_some (hcl 7 _ rfl) (by simp); rwa [Addr.add_succ'] at this
          have f8 : wr.cell? ⟨(a.add (k * 10)).block, (a.add (k * 10)).off + 8, none⟩ = some (.int .i64 e.len) := by have := HKK.cell_some (hcl 8 _ rfl) (by simp); rwa [Addr.add_succ'] at this
          have f9 : wr.cell? ⟨(a.add (k * 10)).block, (a.add (k * 10)).off + 9, none⟩ = some (.int .u8 (e.fl : Int)) := by have := HKK.cell_some (hcl 9 _ rfl) (by simp); rwa [Addr.add_succ'] at this
          have HJ := Lib.hid HH
          have HF := Lib.hid hfl
          have HEK := Lib.hid hek
          clear HH HKK hek hfl hcl
          go_wp2_with (go_at_call 14; have CC := law_lay HJ.out.1 e HF.out; rw [HB.out.1] at CC; unfold En.v at CC; refine CC.mono ?_; clear CC; rintro ee w5 ⟨rfl, B5, K5⟩; have J5 := Lib.hid (And.intro B5 K5); clear B5 K5)
          go_roundw
          case rel =>
            refine ⟨k + 1, by omega, by go_num, ?_, HJ.out.2.fresh J5.out.2 ?_⟩
            · rw [List.take_add_one, HEK.out]
              simp only [Option.toList_some, List.foldl_append, List.foldl_cons, List.foldl_nil]
              exact J5.out.1
            · intro x hx
              rcases List.mem_cons.1 hx with rfl | hx
              · exact HB.out.2.2.1
              · exact HB.out.2.2.2.2.2.2 x hx
          case measure => simp [intOf]; omega
        · obtain rfl : k = es.length := by omega
          have HX : Hid (BeginOk w es (.returned (.tuple #[.pointer (some ⟨w.heap.size, 0, none⟩), .bool true])) wr) := Lib.hid ⟨B, by rw [← HB.out.1]; rfl, by have := HH.1; rwa [List.take_length] at this, HH.2, HB.out.2⟩
          clear HH
          go_wp2
          exact bodyPost_ret (v := .tuple #[.pointer (some ⟨w.heap.size, 0, none⟩), .bool true]) (by simp [results, Try.results6, go_sem]) rfl HX.out

end Go.Proofs.Ytkicpmfhnngndaa
