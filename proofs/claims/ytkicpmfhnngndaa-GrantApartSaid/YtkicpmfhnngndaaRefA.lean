/- What is proved: how the reference's machine (frames, rows of bytes) lies in memory. Conditions: those that each theorem names. -/
import Derived.Test.YtkicpmfhnngndaaPhysD
import Derived.Deep.AppendLies
import Derived.Deep.RegionHeld3
import Derived.Deep.DrawnRows
set_option linter.unusedSimpArgs false
set_option linter.unusedVariables false
namespace Go.Proofs.Ytkicpmfhnngndaa
open Go.RowKit

/-- A frame's four numbers. -/
def Fr.hcells (f : Fr) : List Value := [.int .i64 f.o, .int .i64 f.ty, .int .i64 f.c, .int .i64 f.t]
def heads (m : Mach) : List Value := m.flatMap Fr.hcells
theorem Fr.hcells_length (f : Fr) : f.hcells.length = 4 := rfl
theorem heads_cons (f : Fr) (m : Mach) : heads (f :: m) = f.hcells ++ heads m := rfl
theorem heads_length (m : Mach) : (heads m).length = m.length * 4 := by
  induction m with
  | nil => rfl
  | cons f m ih => rw [heads_cons, List.length_append, ih, Fr.hcells_length, List.length_cons]; omega
theorem heads_get {m : Mach} : ∀ {k : Nat} {f : Fr} (_ : m[k]? = some f) {j : Nat} (_ : j < 4), (heads m)[k * 4 + j]? = f.hcells[j]? := by
  induction m with
  | nil => intro k f hk; simp at hk
  | cons g m ih =>
    intro k f hk j hj
    rw [heads_cons]
    cases k with
    | zero =>
      simp at hk; subst hk
      rw [List.getElem?_append_left (by rw [Fr.hcells_length]; omega)]; simp
    | succ k =>
      rw [List.getElem?_append_right (by rw [Fr.hcells_length]; omega), Fr.hcells_length, show (k + 1) * 4 + j - 4 = k * 4 + j by omega]
      exact ih (by simpa using hk) hj
theorem heads_splice {m : Mach} : ∀ {k : Nat} {f : Fr} (g : Fr) (_ : m[k]? = some f), splice (heads m) (k * 4) g.hcells = heads (m.set k g) := by
  induction m with
  | nil => intro k f g hk; simp at hk
  | cons x m ih =>
    intro k f g hk
    cases k with
    | zero =>
      simp at hk; subst hk
      rw [List.set_cons_zero, heads_cons, heads_cons, splice_left _ _ _ (by simp [Fr.hcells])]
      congr 1
    | succ k =>
      rw [List.set_cons_succ, heads_cons, heads_cons, splice_right _ _ _ (by rw [Fr.hcells_length]; omega), Fr.hcells_length, show (k + 1) * 4 - 4 = k * 4 by omega, ih g (by simpa using hk)]
theorem heads_set {m : Mach} : ∀ {k : Nat} {f g : Fr} (_ : m[k]? = some f) {j : Nat} (_ : j < 4) {v : Value} (_ : g.hcells = f.hcells.set j v), (heads m).set (k * 4 + j) v = heads (m.set k g) := by
  induction m with
  | nil => intro k f g hk; simp at hk
  | cons x m ih =>
    intro k f g hk j hj v hv
    cases k with
    | zero =>
      simp at hk; subst hk
      rw [heads_cons, List.set_cons_zero, heads_cons, hv, List.set_append_left _ _ (by rw [Fr.hcells_length]; omega)]; simp
    | succ k =>
      rw [heads_cons, List.set_cons_succ, heads_cons, List.set_append_right _ _ (by rw [Fr.hcells_length]; omega), Fr.hcells_length, show (k + 1) * 4 + j - 4 = k * 4 + j by omega, ih (by simpa using hk) hj hv]
theorem heads_bytes {m : Mach} : ∀ {k : Nat} {f : Fr} (_ : m[k]? = some f) (x : List UInt8), heads (m.set k { f with b := x }) = heads m := by
  induction m with
  | nil => intro k f hk; simp at hk
  | cons g m ih =>
    intro k f hk x
    cases k with
    | zero => simp at hk; subst hk; rfl
    | succ k => rw [List.set_cons_succ, heads_cons, heads_cons, ih (by simpa using hk)]
theorem heads_append (a b : Mach) : heads (a ++ b) = heads a ++ heads b := by simp [heads]
def pageV (g : Nat) : Value := .slice (some ⟨g, 0, none⟩) 256 256

/-- The reference's machine: its head in block rm, its frames' row in block rf, its rows' row in block rb, the rows in the blocks pgs. -/
structure RefAt (w : World) (rm rf rb : Nat) (pgs : List Nat) (m : Mach) : Prop where
  ex : ∃ c1 c2 r1 r2, Blk w rm 166 [.slice (some ⟨rf, 0, none⟩) m.length c1, .slice (some ⟨rb, 0, none⟩) m.length c2] ∧ Blk w rf 46 (heads m ++ r1) ∧ Blk w rb 42 (pgs.map pageV ++ r2)
  len : pgs.length = m.length
  nd : pgs.Nodup
  pg : ∀ (k : Nat) (f : Fr) (g : Nat), m[k]? = some f → pgs[k]? = some g → Blk w g 5 (f.b.map byteV)
  ps : Pages m
  lo : 1 ≤ m.length
  hi : m.length ≤ 256

section
variable {w w' : World} {rm rf rb : Nat} {pgs : List Nat} {m : Mach} {S : List Nat}
theorem RefAt.keep (h : RefAt w rm rf rb pgs m) (k : Keep S w w') (h1 : rm ∉ S) (h2 : rf ∉ S) (h3 : rb ∉ S) (h4 : ∀ g ∈ pgs, g ∉ S) : RefAt w' rm rf rb pgs m := by
  obtain ⟨⟨c1, c2, r1, r2, a, b, c⟩, l, nd, pg, ps, lo, hi⟩ := h
  exact ⟨⟨c1, c2, r1, r2, a.keep k h1, b.keep k h2, c.keep k h3⟩, l, nd, fun j f g hj hg => (pg j f g hj hg).keep k (h4 g (List.mem_of_getElem? hg)), ps, lo, hi⟩
theorem RefAt.keep0 (h : RefAt w rm rf rb pgs m) (k : Keep [] w w') : RefAt w' rm rf rb pgs m := h.keep k (by simp) (by simp) (by simp) (by simp)
theorem RefAt.page (h : RefAt w rm rf rb pgs m) {g : Nat} (hg : g ∈ pgs) : ∃ cs, Blk w g 5 cs := by
  obtain ⟨k, hk⟩ := List.mem_iff_getElem?.1 hg
  have hl : k < pgs.length := (List.getElem?_eq_some_iff.1 hk).1
  have := h.len
  exact ⟨_, h.pg k m[k] g (List.getElem?_eq_getElem (by omega)) hk⟩
theorem RefAt.ne_fm (h : RefAt w rm rf rb pgs m) : rf ≠ rm := by
  obtain ⟨c1, c2, r1, r2, a, b, c⟩ := h.ex
  exact b.ne_ a (by decide)
theorem RefAt.ne_bm (h : RefAt w rm rf rb pgs m) : rb ≠ rm := by
  obtain ⟨c1, c2, r1, r2, a, b, c⟩ := h.ex
  exact c.ne_ a (by decide)
theorem RefAt.ne_bf (h : RefAt w rm rf rb pgs m) : rb ≠ rf := by
  obtain ⟨c1, c2, r1, r2, a, b, c⟩ := h.ex
  exact c.ne_ b (by decide)
theorem RefAt.pg_m (h : RefAt w rm rf rb pgs m) {g : Nat} (hg : g ∈ pgs) : g ≠ rm := by
  obtain ⟨c1, c2, r1, r2, a, b, c⟩ := h.ex
  obtain ⟨cs, hb⟩ := h.page hg
  exact hb.ne_ a (by decide)
theorem RefAt.pg_f (h : RefAt w rm rf rb pgs m) {g : Nat} (hg : g ∈ pgs) : g ≠ rf := by
  obtain ⟨c1, c2, r1, r2, a, b, c⟩ := h.ex
  obtain ⟨cs, hb⟩ := h.page hg
  exact hb.ne_ b (by decide)
theorem RefAt.pg_b (h : RefAt w rm rf rb pgs m) {g : Nat} (hg : g ∈ pgs) : g ≠ rb := by
  obtain ⟨c1, c2, r1, r2, a, b, c⟩ := h.ex
  obtain ⟨cs, hb⟩ := h.page hg
  exact hb.ne_ c (by decide)
theorem RefAt.heads_ (h : RefAt w rm rf rb pgs m) : ∃ c1 c2 : Nat, w.cell? ⟨rm, 0, none⟩ = some (.slice (some ⟨rf, 0, none⟩) m.length c1) ∧ w.cell? ⟨rm, 1, none⟩ = some (.slice (some ⟨rb, 0, none⟩) m.length c2) := by
  obtain ⟨c1, c2, r1, r2, a, b, c⟩ := h.ex
  exact ⟨c1, c2, a.cell 0, a.cell 1⟩
theorem RefAt.at_ (h : RefAt w rm rf rb pgs m) {k : Nat} {f : Fr} (hk : m[k]? = some f) {j : Nat} (hj : j < 4) : w.cell? ⟨rf, k * 4 + j, none⟩ = f.hcells[j]? := by
  obtain ⟨c1, c2, r1, r2, a, b, c⟩ := h.ex
  have hl : k < m.length := (List.getElem?_eq_some_iff.1 hk).1
  rw [b.cell, List.getElem?_append_left (by rw [heads_length]; omega), heads_get hk hj]
theorem RefAt.c0 (h : RefAt w rm rf rb pgs m) {k : Nat} {f : Fr} (hk : m[k]? = some f) : w.cell? ⟨rf, k * 4, none⟩ = some (.int .i64 f.o) := by
  have h0 := h.at_ hk (j := 0) (by omega)
  rw [Nat.add_zero] at h0
  exact h0
theorem RefAt.c1 (h : RefAt w rm rf rb pgs m) {k : Nat} {f : Fr} (hk : m[k]? = some f) : w.cell? ⟨rf, k * 4 + 1, none⟩ = some (.int .i64 f.ty) := h.at_ hk (j := 1) (by omega)
theorem RefAt.c2 (h : RefAt w rm rf rb pgs m) {k : Nat} {f : Fr} (hk : m[k]? = some f) : w.cell? ⟨rf, k * 4 + 2, none⟩ = some (.int .i64 f.c) := h.at_ hk (j := 2) (by omega)
theorem RefAt.c3 (h : RefAt w rm rf rb pgs m) {k : Nat} {f : Fr} (hk : m[k]? = some f) : w.cell? ⟨rf, k * 4 + 3, none⟩ = some (.int .i64 f.t) := h.at_ hk (j := 3) (by omega)
theorem RefAt.frozen (h : RefAt w rm rf rb pgs m) : ∀ j, w.frozen? ⟨rf, j, none⟩ = false := by
  obtain ⟨c1, c2, r1, r2, a, b, c⟩ := h.ex
  exact b.frozen
theorem RefAt.pgc (h : RefAt w rm rf rb pgs m) {k : Nat} {g : Nat} (hg : pgs[k]? = some g) : w.cell? ⟨rb, k, none⟩ = some (pageV g) := by
  obtain ⟨c1, c2, r1, r2, a, b, c⟩ := h.ex
  have hl : k < pgs.length := (List.getElem?_eq_some_iff.1 hg).1
  rw [c.cell, List.getElem?_append_left (by simpa using hl), List.getElem?_map, hg]; rfl
/-- Block rf was written: a frame is another one, its bytes as they were. -/
theorem RefAt.frame (h : RefAt w rm rf rb pgs m) {k : Nat} {f g : Fr} (hk : m[k]? = some f) (hg : g.b = f.b) (kk : Keep [rf] w w') (hb : ∀ cur, Blk w rf 46 cur → m.length * 4 ≤ cur.length → Blk w' rf 46 (splice cur (k * 4) g.hcells)) : RefAt w' rm rf rb pgs (m.set k g) := by
  have n1 := h.ne_fm
  have n2 := h.ne_bf
  have n3 := fun x => h.pg_f (g := x)
  obtain ⟨⟨c1, c2, r1, r2, a, b, c⟩, l, nd, pg, ps, lo, hi⟩ := h
  have hl : k < m.length := (List.getElem?_eq_some_iff.1 hk).1
  refine ⟨⟨c1, c2, r1, r2, ?_, ?_, c.keep kk (by simpa using n2)⟩, by simpa using l, nd, ?_, ?_, by simpa using lo, by simpa using hi⟩
  · simpa using a.keep kk (by simpa using n1.symm)
  · have := hb _ b (by rw [List.length_append, heads_length]; omega)
    rwa [splice_left _ _ _ (by rw [heads_length, Fr.hcells_length]; omega), heads_splice g hk] at this
  · intro j f' g' hj hg'
    have hne := n3 g' (List.mem_of_getElem? hg')
    rw [List.getElem?_set] at hj
    by_cases e : k = j
    · subst e
      rw [if_pos rfl, if_pos hl] at hj
      simp at hj; subst hj
      rw [hg]
      exact (pg k f g' hk hg').keep kk (by simpa using hne)
    · rw [if_neg e] at hj
      exact (pg j f' g' hj hg').keep kk (by simpa using hne)
  · exact ps.set (by rw [hg]; exact ps.get hk)
/-- A cell of block rf was stored into. -/
theorem RefAt.set_ (h : RefAt w rm rf rb pgs m) {k : Nat} {f g : Fr} (hk : m[k]? = some f) {j : Nat} (hj : j < 4) {v : Value} (hv : g.hcells = f.hcells.set j v) (hg : g.b = f.b) : RefAt (w.setCell ⟨rf, k * 4 + j, none⟩ v) rm rf rb pgs (m.set k g) := by
  have n1 := h.ne_fm
  have n2 := h.ne_bf
  have n3 := fun x => h.pg_f (g := x)
  obtain ⟨⟨c1, c2, r1, r2, a, b, c⟩, l, nd, pg, ps, lo, hi⟩ := h
  have hl : k < m.length := (List.getElem?_eq_some_iff.1 hk).1
  refine ⟨⟨c1, c2, r1, r2, ?_, ?_, c.far (p := ⟨rf, k * 4 + j, none⟩) n2 v⟩, by simpa using l, nd, ?_, ?_, by simpa using lo, by simpa using hi⟩
  · simpa using a.far (p := ⟨rf, k * 4 + j, none⟩) n1.symm v
  · have := b.set_ (k * 4 + j) v
    rwa [List.set_append_left _ _ (by rw [heads_length]; omega), heads_set hk hj hv] at this
  · intro j' f' g' hj' hg'
    have hne := n3 g' (List.mem_of_getElem? hg')
    rw [List.getElem?_set] at hj'
    by_cases e : k = j'
    · subst e
      rw [if_pos rfl, if_pos hl] at hj'
      simp at hj'; subst hj'
      rw [hg]
      exact (pg k f g' hk hg').far (p := ⟨rf, k * 4 + j, none⟩) hne v
    · rw [if_neg e] at hj'
      exact (pg j' f' g' hj' hg').far (p := ⟨rf, k * 4 + j, none⟩) hne v
  · exact ps.set (by rw [hg]; exact ps.get hk)
/-- The four cells of a frame were stored into. -/
theorem RefAt.set4 (h : RefAt w rm rf rb pgs m) {k : Nat} {f : Fr} (hk : m[k]? = some f) (o ty c t : Int) :
    RefAt ((((w.setCell ⟨rf, k * 4, none⟩ (.int .i64 o)).setCell ⟨rf, k * 4 + 1, none⟩ (.int .i64 ty)).setCell ⟨rf, k * 4 + 2, none⟩ (.int .i64 c)).setCell ⟨rf, k * 4 + 3, none⟩ (.int .i64 t)) rm rf rb pgs (m.set k { f with o := o, ty := ty, c := c, t := t }) := by
  have hl : k < m.length := (List.getElem?_eq_some_iff.1 hk).1
  have h0 := h.set_ hk (j := 0) (g := { f with o := o }) (v := .int .i64 o) (by omega) rfl rfl
  rw [Nat.add_zero] at h0
  have h1 := h0.set_ (f := { f with o := o }) (g := { f with o := o, ty := ty }) (List.getElem?_set_self hl) (j := 1) (v := .int .i64 ty) (by omega) rfl rfl
  rw [List.set_set] at h1
  have h2 := h1.set_ (f := { f with o := o, ty := ty }) (g := { f with o := o, ty := ty, c := c }) (List.getElem?_set_self hl) (j := 2) (v := .int .i64 c) (by omega) rfl rfl
  rw [List.set_set] at h2
  have h3 := h2.set_ (f := { f with o := o, ty := ty, c := c }) (g := { f with o := o, ty := ty, c := c, t := t }) (List.getElem?_set_self hl) (j := 3) (v := .int .i64 t) (by omega) rfl rfl
  rwa [List.set_set] at h3
theorem RefAt.ltf (h : RefAt w rm rf rb pgs m) : rf < w.heap.size := by obtain ⟨c1, c2, r1, r2, a, b, c⟩ := h.ex; exact b.lt
theorem RefAt.ltm (h : RefAt w rm rf rb pgs m) : rm < w.heap.size := by obtain ⟨c1, c2, r1, r2, a, b, c⟩ := h.ex; exact a.lt
theorem RefAt.ltb (h : RefAt w rm rf rb pgs m) : rb < w.heap.size := by obtain ⟨c1, c2, r1, r2, a, b, c⟩ := h.ex; exact c.lt
theorem RefAt.alloc (h : RefAt w rm rf rb pgs m) (o : Obj) : RefAt (w.alloc o) rm rf rb pgs m := h.keep0 ((Keep.refl _ _).alloc o)
theorem RefAt.drew (h : RefAt w rm rf rb pgs m) : RefAt w.drew rm rf rb pgs m := h.keep0 (Keep.refl _ _).drew
end

end Go.Proofs.Ytkicpmfhnngndaa
