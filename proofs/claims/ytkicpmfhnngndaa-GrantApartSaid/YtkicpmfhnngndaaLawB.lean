/- What is proved: both worlds of begin (the program's, the reference's) in memory, and what lay does to them. Conditions: the worlds lie in memory as Both says. -/
import Derived.Test.YtkicpmfhnngndaaGrantJ
import Derived.Test.YtkicpmfhnngndaaRefG
import Derived.Test.YtkicpmfhnngndaaRefI
import Derived.Test.YtkicpmfhnngndaaRefJ
import Derived.Laws.BitsAllLaws
set_option linter.unusedSimpArgs false
set_option linter.unusedVariables false
namespace Go.Proofs.Ytkicpmfhnngndaa
open Go.RowKit
attribute [local go_sem ↓] Go.wp_at_zero Go.wp_at_succ

/-- The reference's members behind begin. -/
def mem8 (qb : Nat → Nat) : List (Option (Int × Nat)) := [some (0, qb 0), some (4, qb 1), some (8, qb 2), none, none, none, none, none]
def ptrV (b : Nat) : Value := .pointer (some ⟨b, 0, none⟩)
/-- The blocks of both worlds. -/
structure Bl where
  bx : Nat
  bm : Nat
  bf : Nat
  bg : Nat
  b1 : Nat
  b2 : Nat
  pb : Nat → Nat
  p1 : Nat → Nat
  p2 : Nat → Nat
  gp : Nat
  rm : Nat
  rf : Nat
  rb : Nat
  pgs : List Nat
  rg : Nat
  rd : Nat
  qb : Nat → Nat
  ql : Nat → Nat
  gq : Nat
/-- Both worlds, of one machine. -/
structure Both (w : World) (B : Bl) (m : Mach) : Prop where
  x : ∃ cp cq, Blk w B.bx 35 [ptrV B.bm, ptrV B.bg, .slice (some ⟨B.gp, 0, none⟩) 3 cp, ptrV B.rm, ptrV B.rg, .slice (some ⟨B.gq, 0, none⟩) 3 cq]
  g : G6 w B.bm B.bf B.bg B.b1 B.b2 B.pb B.p1 B.p2 m
  r : RefAt w B.rm B.rf B.rb B.pgs m
  h : R6At w B.rg B.rd B.rm (mem8 B.qb) (.slice none 0 0)
  q : ∀ d, d < 3 → R3At w (B.qb d) (B.ql d) (plOf d)
  xp : ∃ r, Blk w B.gp 83 ([ptrV (B.pb 0), ptrV (B.pb 1), ptrV (B.pb 2)] ++ r)
  xq : ∃ r, Blk w B.gq 86 ([ptrV (B.qb 0), ptrV (B.qb 1), ptrV (B.qb 2)] ++ r)

/-- An entry, and its flags. -/
structure En where
  dom : Int
  ref : Int
  kind : Int
  ro : Bool
  sub : Bool
  gdom : Int
  gpfn : Int
  off : Int
  len : Int
  fl : Nat
def En.v (e : En) : Value := .agg #[.int .i64 e.dom, .int .i64 e.ref, .int .i64 e.kind, .bool e.ro, .bool e.sub, .int .i64 e.gdom, .int .i64 e.gpfn, .int .i64 e.off, .int .i64 e.len, .int .u8 (e.fl : Int)]
def En.ok (e : En) : Prop := packOk e.kind e.gdom e.gpfn e.off e.len ∧ 0 ≤ e.dom ∧ e.dom ≤ 2 ∧ 0 ≤ e.ref ∧ e.ref < 32
def En.bytes (e : En) : List UInt8 := match packN e.kind e.ro e.sub e.gdom e.gpfn e.off e.len with
  | a :: r => UInt8.ofNat (a ^^^ e.fl) :: r.map UInt8.ofNat
  | [] => []
open Classical in
noncomputable def layM (m : Mach) (e : En) : Mach := if e.ok then (m.write (4 * e.dom) (8 * e.ref) e.bytes).2 else m

section
variable {w w' : World} {B : Bl} {m m' : Mach} {S : List Nat}
theorem En.bytes_length (e : En) : e.bytes.length = 8 := rfl
theorem layM_ok {e : En} (hm : Good m) (h : e.ok) : ∃ (d r : Nat) (f : Fr), e.dom = d ∧ d < 3 ∧ e.ref = r ∧ r < 32 ∧ m[4 * d]? = some f ∧ f.o ≠ -1 ∧ f.b.length = 256 ∧ layM m e = m.set (4 * d) { f with b := laid f.b (8 * r) e.bytes } ∧ m.write (4 * e.dom) (8 * e.ref) e.bytes = (0, m.set (4 * d) { f with b := laid f.b (8 * r) e.bytes }) := by
  obtain ⟨hp, h0, h2, h3, h4⟩ := id h
  obtain ⟨d, hd⟩ := Int.eq_ofNat_of_zero_le h0
  obtain ⟨r, hr⟩ := Int.eq_ofNat_of_zero_le h3
  obtain ⟨f, hf, hb, ho, -⟩ := hm.get (k := 4 * d) (by omega)
  have ho' : f.o ≠ -1 := by rw [ho]; unfold OwnerOf; rw [if_pos (by omega)]; omega
  have hw : m.write (4 * e.dom) (8 * e.ref) e.bytes = (0, m.set (4 * d) { f with b := laid f.b (8 * r) e.bytes }) := by
    unfold Mach.write Mach.has
    rw [hd, hr, show (4 * (d : Int)) = ((4 * d : Nat) : Int) by omega, Mach.idx_cast, hf, show (8 * (r : Int)) = ((8 * r : Nat) : Int) by omega]
    have hl : e.bytes.length = 8 := rfl
    simp only [hl]
    rw [if_neg (by omega)]
    simp only [if_neg ho', Int.toNat_natCast]
  exact ⟨d, r, f, hd, by omega, hr, by omega, hf, ho', hb, by unfold layM; rw [if_pos h, hw], hw⟩
theorem layM_good {e : En} (hm : Good m) : Good (layM m e) := by
  by_cases h : e.ok
  · obtain ⟨d, r, f, -, h1, -, h2, hf, -, hb, he, -⟩ := layM_ok hm h
    rw [he]
    exact hm.set hf (by rw [laid_length (by rw [En.bytes_length]; omega)]; exact hb)
  · unfold layM; rw [if_neg h]; exact hm

theorem P2mAt.apart {b b1 b2 bm bf : Nat} {l : List Int} (h : P2mAt w b b1 b2 l) (hp : PhysAt w bm bf m) : b ≠ bf ∧ b1 ≠ bf ∧ b2 ≠ bf := by
  obtain ⟨c, r, x, y⟩ := hp.ex
  obtain ⟨hd, ⟨fr, pl, m1, m2, ok⟩, ne, hi⟩ := h
  exact ⟨hd.ne_ y (by decide), m1.ne_blk y, m2.ne_blk y⟩
theorem GHead.apart {bg b1 b2 bm bf : Nat} {mem : List (Int × (Int × Nat))} {mp : List ((Int × Int) × Value)} (h : GHead w bg b1 b2 bm mem mp) (hp : PhysAt w bm bf m) : bg ≠ bf ∧ b1 ≠ bf ∧ b2 ≠ bf := by
  obtain ⟨c, r, x, y⟩ := hp.ex
  exact ⟨h.hd.ne_ y (by decide), h.m1.ne_blk y, h.m2.ne_blk y⟩
/-- The machine's bytes were written: the program's half. -/
theorem G6.wrote {bm bf bg b1 b2 : Nat} {pb p1 p2 : Nat → Nat} (h : G6 w bm bf bg b1 b2 pb p1 p2 m) (k : Keep [bf] w w') (hp : PhysAt w' bm bf m') (hm : Good m') : G6 w' bm bf bg b1 b2 pb p1 p2 m' := by
  obtain ⟨a1, a2, a3⟩ := h.gh.apart h.ph
  refine ⟨hp, hm, h.gh.keep k (by simpa using a1) (by simpa using a2) (by simpa using a3), fun d hd => ?_⟩
  obtain ⟨e1, e2, e3⟩ := (h.pl d hd).apart h.ph
  exact (h.pl d hd).keep k (by simpa using e1) (by simpa using e2) (by simpa using e3)
theorem MapAt.ne_page {b : Nat} {l : List (Value × Value)} {rm rf rb : Nat} {pgs : List Nat} (h : MapAt w b l) (hr : RefAt w rm rf rb pgs m) : b ∉ pgs := by
  intro hb
  obtain ⟨cs, hc⟩ := hr.page hb
  exact h.ne_blk hc rfl
theorem Blk.ne_page {b : Nat} {t : TypeId} {cs : List Value} {rm rf rb : Nat} {pgs : List Nat} (h : Blk w b t cs) (hr : RefAt w rm rf rb pgs m) (ht : t ≠ 5) : b ∉ pgs := by
  intro hb
  obtain ⟨cs', hc⟩ := hr.page hb
  exact h.ne_ hc ht rfl
/-- The reference's bytes were written: the program's half stays. -/
theorem G6.pages {bm bf bg b1 b2 : Nat} {pb p1 p2 : Nat → Nat} {rm rf rb : Nat} {pgs : List Nat} {m2 : Mach} (h : G6 w bm bf bg b1 b2 pb p1 p2 m) (hr : RefAt w rm rf rb pgs m2) (k : Keep pgs w w') : G6 w' bm bf bg b1 b2 pb p1 p2 m := by
  obtain ⟨c, r, x, y⟩ := h.ph.ex
  refine ⟨h.ph.keep k (x.ne_page hr (by decide)) (y.ne_page hr (by decide)), h.gd, h.gh.keep k (h.gh.hd.ne_page hr (by decide)) (h.gh.m1.ne_page hr) (h.gh.m2.ne_page hr), fun d hd => ?_⟩
  obtain ⟨fr, pl, m1, m2, ok⟩ := (h.pl d hd).ex
  exact (h.pl d hd).keep k ((h.pl d hd).hd.ne_page hr (by decide)) (m1.ne_page hr) (m2.ne_page hr)
theorem Both.keep0 (h : Both w B m) (k : Keep [] w w') : Both w' B m := by
  obtain ⟨⟨cp, cq, x⟩, g, r, hh, q, ⟨rp, xp⟩, ⟨rq, xq⟩⟩ := h
  exact ⟨⟨cp, cq, x.keep k (by simp)⟩, g.keep0 k, r.keep0 k, hh.keep0 k, fun d hd => (q d hd).keep0 k, ⟨rp, xp.keep k (by simp)⟩, ⟨rq, xq.keep k (by simp)⟩⟩
/-- The same bytes were written into both machines. -/
theorem Both.wrote {w1 w2 : World} (h : Both w B m) (hm : Good m') (k1 : Keep [B.bf] w w1) (hp : PhysAt w1 B.bm B.bf m') (k2 : Keep B.pgs w1 w2) (hr : RefAt w2 B.rm B.rf B.rb B.pgs m') : Both w2 B m' := by
  obtain ⟨⟨cp, cq, x⟩, g, r, hh, q, ⟨rp, xp⟩, ⟨rq, xq⟩⟩ := h
  obtain ⟨c, rr, hx, hy⟩ := g.ph.ex
  have g1 := g.wrote k1 hp hm
  obtain ⟨d1, d2, r1, r2, y1, y2, y3⟩ := r.ex
  have r1' : RefAt w1 B.rm B.rf B.rb B.pgs m := r.keep k1 (by simpa using y1.ne_ hy (by decide)) (by simpa using y2.ne_ hy (by decide)) (by simpa using y3.ne_ hy (by decide)) (fun gg hgg => by
    obtain ⟨cs, hc⟩ := r.page hgg
    simpa using hc.ne_ hy (by decide))
  have x1 := x.keep k1 (by simpa using x.ne_ hy (by decide))
  obtain ⟨⟨cc, rrr, z1, z2⟩, hl⟩ := id hh
  have hh1 := hh.keep k1 (by simpa using z1.ne_ hy (by decide)) (by simpa using z2.ne_ hy (by decide))
  have q1 : ∀ d, d < 3 → R3At w1 (B.qb d) (B.ql d) (plOf d) := fun d hd => by
    obtain ⟨c, r, a, b⟩ := (q d hd).ex
    exact (q d hd).keep k1 (by simpa using a.ne_ hy (by decide)) (by simpa using b.ne_ hy (by decide))
  have xp1 := xp.keep k1 (by simpa using xp.ne_ hy (by decide))
  have xq1 := xq.keep k1 (by simpa using xq.ne_ hy (by decide))
  refine ⟨⟨cp, cq, x1.keep k2 (x1.ne_page r1' (by decide))⟩, g1.pages r1' k2, hr, ?_, ?_, ⟨rp, xp1.keep k2 (xp1.ne_page r1' (by decide))⟩, ⟨rq, xq1.keep k2 (xq1.ne_page r1' (by decide))⟩⟩
  · obtain ⟨⟨cc, rrr, z1, z2⟩, hl⟩ := id hh1
    exact hh1.keep k2 (z1.ne_page r1' (by decide)) (z2.ne_page r1' (by decide))
  · intro d hd
    obtain ⟨c, r, a, b⟩ := (q1 d hd).ex
    exact (q1 d hd).keep k2 (a.ne_page r1' (by decide)) (b.ne_page r1' (by decide))
end

end Go.Proofs.Ytkicpmfhnngndaa
