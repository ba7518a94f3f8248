/- What is proved: laws of the abstract machine (frames and their bytes) and how it lies in one row of cells. Conditions: those that each theorem names. -/
import Derived.Test.YtkicpmfhnngndaaBase
set_option linter.unusedSimpArgs false
set_option linter.unusedVariables false
namespace Go.Proofs.Ytkicpmfhnngndaa
open Go.RowKit

/-- A frame: owner, type, count, total, bytes. -/
structure Fr where
  o : Int
  ty : Int
  c : Int
  t : Int
  b : List UInt8
abbrev Mach := List Fr

def byteV (x : UInt8) : Value := .int .u8 (x.toNat : Int)
def Fr.cells (f : Fr) : List Value := .int .i64 f.o :: .int .i64 f.ty :: .int .i64 f.c :: .int .i64 f.t :: f.b.map byteV
def flat (m : Mach) : List Value := m.flatMap Fr.cells
def Pages (m : Mach) : Prop := ∀ f ∈ m, f.b.length = 256

theorem Fr.cells_length {f : Fr} (h : f.b.length = 256) : f.cells.length = 260 := by simp [Fr.cells, h]
theorem flat_nil : flat [] = [] := rfl
theorem flat_cons (f : Fr) (m : Mach) : flat (f :: m) = f.cells ++ flat m := rfl
theorem flat_length {m : Mach} (h : Pages m) : (flat m).length = m.length * 260 := by
  induction m with
  | nil => rfl
  | cons f m ih =>
    rw [flat_cons, List.length_append, Fr.cells_length (h f (by simp)), ih (fun g hg => h g (by simp [hg])), List.length_cons]
    omega
theorem flat_get {m : Mach} (h : Pages m) : ∀ {k : Nat} {f : Fr} (_ : m[k]? = some f) {j : Nat} (_ : j < 260), (flat m)[k * 260 + j]? = f.cells[j]? := by
  induction m with
  | nil => intro k f hk; simp at hk
  | cons g m ih =>
    intro k f hk j hj
    have hg := Fr.cells_length (h g (by simp))
    rw [flat_cons]
    cases k with
    | zero =>
      simp at hk; subst hk
      rw [List.getElem?_append_left (by omega)]; simp
    | succ k =>
      rw [List.getElem?_append_right (by omega), hg]
      rw [show (k + 1) * 260 + j - 260 = k * 260 + j by omega]
      exact ih (fun x hx => h x (by simp [hx])) (by simpa using hk) hj
theorem flat_set {m : Mach} (h : Pages m) : ∀ {k : Nat} {f g : Fr} (_ : m[k]? = some f) {j : Nat} (_ : j < 260) {v : Value} (_ : g.cells = f.cells.set j v), (flat m).set (k * 260 + j) v = flat (m.set k g) := by
  induction m with
  | nil => intro k f g hk; simp at hk
  | cons x m ih =>
    intro k f g hk j hj v hv
    have hx := Fr.cells_length (h x (by simp))
    cases k with
    | zero =>
      simp at hk; subst hk
      rw [flat_cons, List.set_cons_zero, flat_cons, hv, List.set_append_left _ _ (by omega)]; simp
    | succ k =>
      rw [flat_cons, List.set_cons_succ, flat_cons, List.set_append_right _ _ (by omega), hx]
      rw [show (k + 1) * 260 + j - 260 = k * 260 + j by omega]
      rw [ih (fun y hy => h y (by simp [hy])) (by simpa using hk) hj hv]
theorem Pages.set {m : Mach} (h : Pages m) {k : Nat} {g : Fr} (hg : g.b.length = 256) : Pages (m.set k g) := by
  intro f hf
  rcases List.mem_or_eq_of_mem_set hf with h1 | h1
  · exact h f h1
  · subst h1; exact hg
theorem Pages.get {m : Mach} (h : Pages m) {k : Nat} {f : Fr} (hk : m[k]? = some f) : f.b.length = 256 := h f (List.mem_of_getElem? hk)

/-- The frame of a number. -/
def Mach.idx (m : Mach) (i : Int) : Option Fr := if i < 0 then none else m[i.toNat]?
theorem Mach.idx_some {m : Mach} {i : Int} {f : Fr} (h : m.idx i = some f) : ∃ k : Nat, i = k ∧ m[k]? = some f ∧ k < m.length := by
  unfold Mach.idx at h
  split at h
  · cases h
  · exact ⟨i.toNat, by omega, h, (List.getElem?_eq_some_iff.1 h).1⟩
theorem Mach.idx_none {m : Mach} {i : Int} (h : m.idx i = none) : i < 0 ∨ (m.length : Int) ≤ i := by
  unfold Mach.idx at h
  split at h
  · exact .inl ‹_›
  · have := List.getElem?_eq_none_iff.1 h
    exact .inr (by omega)
theorem Mach.idx_cast {m : Mach} {k : Nat} : m.idx (k : Int) = m[k]? := by
  unfold Mach.idx
  rw [if_neg (by omega)]; simp

def isDom (n : Int) : Bool := decide (0 ≤ n) && decide (n < 8)

/-- The first free frame. -/
def Mach.free (m : Mach) : Option Nat := m.findIdx? (·.o == -1)
def Mach.put (m : Mach) (k : Nat) (g : Fr → Fr) : Mach := m.modify k g

def Mach.alloc (m : Mach) (owner : Int) : Int × Int × Mach :=
  if !isDom owner && owner != -2 then (0, 1, m) else
  match m.free with
  | none => (0, 10, m)
  | some k => (k, 0, m.modify k fun f => { f with o := owner })

def Fr.rest (f : Fr) : Int := if f.o = -1 then 11 else if f.t ≠ 0 then 9 else 0
def Fr.zero : Fr := ⟨-1, 0, 0, 0, List.replicate 256 0⟩

def Mach.freeF (m : Mach) (mfn : Int) : Int × Mach :=
  match m.idx mfn with
  | none => (1, m)
  | some f => if f.rest ≠ 0 then (f.rest, m) else (0, m.set mfn.toNat Fr.zero)
def Mach.give (m : Mach) (mfn to : Int) : Int × Mach :=
  match m.idx mfn with
  | none => (1, m)
  | some f => if isDom to = false then (1, m) else if f.rest ≠ 0 then (f.rest, m) else (0, m.set mfn.toNat { f with o := to })
def Mach.get (m : Mach) (mfn owner kind : Int) : Int × Mach :=
  match m.idx mfn with
  | none => (1, m)
  | some f =>
    if kind < 0 ∨ 3 < kind then (1, m) else
    if f.o = -1 then (11, m) else
    if f.o ≠ owner then (12, m) else
    if kind ≠ 0 ∧ f.ty ≠ 0 ∧ f.ty ≠ kind then (13, m) else
    (0, m.set mfn.toNat (if kind ≠ 0 then { f with t := wrap64 (f.t + 1), ty := kind, c := wrap64 (f.c + 1) } else { f with t := wrap64 (f.t + 1) }))
def Mach.putR (m : Mach) (mfn kind : Int) : Int × Mach :=
  match m.idx mfn with
  | none => (1, m)
  | some f =>
    if kind < 0 ∨ 3 < kind then (1, m) else
    if (kind ≠ 0 ∧ f.ty ≠ kind) ∨ (kind = 0 ∧ f.t = f.c) then (14, m) else
    let t := wrap64 (f.t - 1)
    let c := if kind ≠ 0 then wrap64 (f.c - 1) else f.c
    (0, m.set mfn.toNat { f with t := t, c := c, ty := if c = 0 then 0 else f.ty })
/-- Does a part lie in a frame? -/
def Mach.has (m : Mach) (mfn off n : Int) : Option Fr :=
  match m.idx mfn with
  | none => none
  | some f => if off < 0 ∨ n < 0 ∨ 256 < off ∨ 256 - off < n then none else some f
def Mach.read (m : Mach) (mfn off n : Int) : List UInt8 × Int :=
  match m.has mfn off n with
  | none => ([], 1)
  | some f => ((f.b.drop off.toNat).take n.toNat, 0)
def laid (b : List UInt8) (off : Nat) (x : List UInt8) : List UInt8 := b.take off ++ x ++ b.drop (off + x.length)
def Mach.write (m : Mach) (mfn off : Int) (x : List UInt8) : Int × Mach :=
  match m.has mfn off x.length with
  | none => (1, m)
  | some f => if f.o = -1 then (11, m) else (0, m.set mfn.toNat { f with b := laid f.b off.toNat x })
def Mach.owned (m : Mach) (owner : Int) : List Int := (m.zipIdx.filter (·.1.o == owner)).map (fun p => (p.2 : Int))

theorem splice_left {α : Type} (A B cs : List α) {o : Nat} (h : o + cs.length ≤ A.length) : splice (A ++ B) o cs = splice A o cs ++ B := by
  unfold splice
  rw [List.take_append_of_le_length (by omega), List.drop_append_of_le_length (by omega)]
  simp
theorem splice_right {α : Type} (A B cs : List α) {o : Nat} (h : A.length ≤ o) : splice (A ++ B) o cs = A ++ splice B (o - A.length) cs := by
  unfold splice
  rw [List.take_append, List.drop_append, List.take_of_length_le h, List.drop_of_length_le (by omega)]
  rw [show o + cs.length - A.length = o - A.length + cs.length by omega]
  simp
theorem Fr.cells_laid (f : Fr) (off : Nat) (l : List UInt8) : splice f.cells (4 + off) (l.map byteV) = ({ f with b := laid f.b off l } : Fr).cells := by
  have e : f.cells = [.int .i64 f.o, .int .i64 f.ty, .int .i64 f.c, .int .i64 f.t] ++ f.b.map byteV := rfl
  rw [e, splice_right _ _ _ (by simp)]
  simp [Fr.cells, splice, laid, Nat.add_sub_cancel_left]
theorem flat_splice_frame {m : Mach} (h : Pages m) : ∀ {k : Nat} {f g : Fr} (_ : m[k]? = some f) (_ : g.b.length = 256), splice (flat m) (k * 260) g.cells = flat (m.set k g) := by
  induction m with
  | nil => intro k f g hk; simp at hk
  | cons x m ih =>
    intro k f g hk hg
    have hx := Fr.cells_length (h x (by simp))
    have hg' := Fr.cells_length hg
    cases k with
    | zero =>
      simp at hk; subst hk
      rw [flat_cons, List.set_cons_zero, flat_cons, splice_left _ _ _ (by omega)]
      congr 1
      simp [splice, hg', hx]
    | succ k =>
      rw [flat_cons, List.set_cons_succ, flat_cons, splice_right _ _ _ (by omega), hx]
      rw [show (k + 1) * 260 - 260 = k * 260 by omega]
      rw [ih (fun y hy => h y (by simp [hy])) (by simpa using hk) hg]
theorem laid_length {b l : List UInt8} {off : Nat} (h : off + l.length ≤ b.length) : (laid b off l).length = b.length := by
  simp [laid]; omega
theorem flat_splice {m : Mach} (h : Pages m) : ∀ {k : Nat} {f : Fr} (_ : m[k]? = some f) {off : Nat} {l : List UInt8} (_ : off + l.length ≤ 256), splice (flat m) (k * 260 + 4 + off) (l.map byteV) = flat (m.set k { f with b := laid f.b off l }) := by
  induction m with
  | nil => intro k f hk; simp at hk
  | cons x m ih =>
    intro k f hk off l hl
    have hx := Fr.cells_length (h x (by simp))
    cases k with
    | zero =>
      simp at hk; subst hk
      rw [flat_cons, List.set_cons_zero, flat_cons, splice_left _ _ _ (by simp; omega)]
      rw [show 0 * 260 + 4 + off = 4 + off by omega, Fr.cells_laid]
    | succ k =>
      rw [flat_cons, List.set_cons_succ, flat_cons, splice_right _ _ _ (by omega), hx]
      rw [show (k + 1) * 260 + 4 + off - 260 = k * 260 + 4 + off by omega]
      rw [ih (fun y hy => h y (by simp [hy])) (by simpa using hk) hl]

/-- A slice's bytes. N: of what kind its block's number is. -/
def BytesAt (w : World) (N : Nat → Prop) (A : Option Addr) (l : List UInt8) : Prop := l ≠ [] → ∃ a, A = some a ∧ N a.block ∧ ∀ j x, l[j]? = some x → w.cell? (a.add j) = some (byteV x)

/-- The machine lies in memory: its head in block bm, its frames in block bf. -/
structure PhysAt (w : World) (bm bf : Nat) (m : Mach) : Prop where
  ex : ∃ c rest, Blk w bm 96 [.bool true, .slice (some ⟨bf, 0, none⟩) m.length c] ∧ Blk w bf 113 (flat m ++ rest)
  pg : Pages m
  lo : 1 ≤ m.length
  hi : m.length ≤ 256

section
variable {w w' : World} {bm bf : Nat} {m : Mach} {S : List Nat}
theorem PhysAt.keep (h : PhysAt w bm bf m) (k : Keep S w w') (h1 : bm ∉ S) (h2 : bf ∉ S) : PhysAt w' bm bf m := by
  obtain ⟨⟨c, r, a, b⟩, p, l, u⟩ := h
  exact ⟨⟨c, r, a.keep k h1, b.keep k h2⟩, p, l, u⟩
theorem PhysAt.ne (h : PhysAt w bm bf m) : bm ≠ bf := by
  obtain ⟨⟨c, r, a, b⟩, -, -, -⟩ := h
  exact a.ne_ b (by decide)
theorem PhysAt.alloc (h : PhysAt w bm bf m) (o : Obj) : PhysAt (w.alloc o) bm bf m := by
  obtain ⟨⟨c, r, a, b⟩, p, l, u⟩ := h
  exact ⟨⟨c, r, a.alloc o, b.alloc o⟩, p, l, u⟩
theorem PhysAt.drew (h : PhysAt w bm bf m) : PhysAt w.drew bm bf m := ⟨h.ex, h.pg, h.lo, h.hi⟩
theorem PhysAt.drewN (h : PhysAt w bm bf m) (n : Nat) : PhysAt (w.drewN n) bm bf m := ⟨h.ex, h.pg, h.lo, h.hi⟩
theorem PhysAt.ltm (h : PhysAt w bm bf m) : bm < w.heap.size := by obtain ⟨⟨c, r, a, b⟩, p, l, u⟩ := h; exact a.lt
theorem PhysAt.ltf (h : PhysAt w bm bf m) : bf < w.heap.size := by obtain ⟨⟨c, r, a, b⟩, p, l, u⟩ := h; exact b.lt
theorem PhysAt.far (h : PhysAt w bm bf m) {p : Addr} (h1 : bm ≠ p.block) (h2 : bf ≠ p.block) (u : Value) : PhysAt (w.setCell p u) bm bf m := by
  obtain ⟨⟨c, r, a, b⟩, q, l, hi⟩ := h
  exact ⟨⟨c, r, a.far h1 u, b.far h2 u⟩, q, l, hi⟩
theorem PhysAt.heads (h : PhysAt w bm bf m) : ∃ c : Nat, w.cell? ⟨bm, 0, none⟩ = some (.bool true) ∧ w.cell? ⟨bm, 1, none⟩ = some (.slice (some ⟨bf, 0, none⟩) m.length c) := by
  obtain ⟨⟨c, r, a, b⟩, -, -, -⟩ := h
  exact ⟨c, a.cell 0, a.cell 1⟩
theorem PhysAt.frozen (h : PhysAt w bm bf m) : ∀ j, w.frozen? ⟨bf, j, none⟩ = false := by
  obtain ⟨⟨c, r, a, b⟩, -, -, -⟩ := h
  exact b.frozen
theorem PhysAt.at_ (h : PhysAt w bm bf m) {k : Nat} {f : Fr} (hk : m[k]? = some f) {j : Nat} (hj : j < 260) : w.cell? ⟨bf, k * 260 + j, none⟩ = f.cells[j]? := by
  obtain ⟨⟨c, r, a, b⟩, p, -, -⟩ := h
  have hl : k < m.length := (List.getElem?_eq_some_iff.1 hk).1
  rw [b.cell, List.getElem?_append_left (by rw [flat_length p]; omega), flat_get p hk hj]
theorem PhysAt.c0 (h : PhysAt w bm bf m) {k : Nat} {f : Fr} (hk : m[k]? = some f) : w.cell? ⟨bf, k * 260, none⟩ = some (.int .i64 f.o) := by
  have h0 := h.at_ hk (j := 0) (by omega)
  rw [Nat.add_zero] at h0
  exact h0
theorem PhysAt.c1 (h : PhysAt w bm bf m) {k : Nat} {f : Fr} (hk : m[k]? = some f) : w.cell? ⟨bf, k * 260 + 1, none⟩ = some (.int .i64 f.ty) := h.at_ hk (j := 1) (by omega)
theorem PhysAt.c2 (h : PhysAt w bm bf m) {k : Nat} {f : Fr} (hk : m[k]? = some f) : w.cell? ⟨bf, k * 260 + 2, none⟩ = some (.int .i64 f.c) := h.at_ hk (j := 2) (by omega)
theorem PhysAt.c3 (h : PhysAt w bm bf m) {k : Nat} {f : Fr} (hk : m[k]? = some f) : w.cell? ⟨bf, k * 260 + 3, none⟩ = some (.int .i64 f.t) := h.at_ hk (j := 3) (by omega)
theorem PhysAt.byte (h : PhysAt w bm bf m) {k : Nat} {f : Fr} (hk : m[k]? = some f) {j : Nat} {x : UInt8} (hj : f.b[j]? = some x) : w.cell? ⟨bf, k * 260 + 4 + j, none⟩ = some (byteV x) := by
  have hb := h.pg.get hk
  have hl : j < f.b.length := (List.getElem?_eq_some_iff.1 hj).1
  have := h.at_ hk (j := 4 + j) (by omega)
  rw [show k * 260 + 4 + j = k * 260 + (4 + j) by omega, this]
  simp only [Fr.cells]
  rw [show 4 + j = j + 1 + 1 + 1 + 1 by omega]
  simp [hj]
theorem PhysAt.set_ (h : PhysAt w bm bf m) {k : Nat} {f g : Fr} (hk : m[k]? = some f) {j : Nat} (hj : j < 260) {v : Value} (hv : g.cells = f.cells.set j v) :
    PhysAt (w.setCell ⟨bf, k * 260 + j, none⟩ v) bm bf (m.set k g) := by
  have hne := h.ne
  obtain ⟨⟨c, r, a, b⟩, p, l, u⟩ := h
  have hl : k < m.length := (List.getElem?_eq_some_iff.1 hk).1
  have hgl : g.b.length = 256 := by
    have h1 := Fr.cells_length (p.get hk)
    have h2 : g.cells.length = 260 := by rw [hv, List.length_set, h1]
    simp [Fr.cells] at h2; omega
  refine ⟨⟨c, r, by simpa using a.far (p := ⟨bf, k * 260 + j, none⟩) hne v, ?_⟩, p.set hgl, by simpa using l, by simpa using u⟩
  have := b.set_ (k * 260 + j) v
  rwa [List.set_append_left _ _ (by rw [flat_length p]; omega), flat_set p hk hj hv] at this
theorem PhysAt.laidAt (h : PhysAt w bm bf m) {k : Nat} {f : Fr} (hk : m[k]? = some f) {off : Nat} {l : List UInt8} (hl : off + l.length ≤ 256) {cur : List Value} {T : TypeId} (hc : Blk w bf T cur) (w' : World)
    (hb : Blk w' bf T (splice cur (k * 260 + 4 + off) (l.map byteV))) (hk' : Keep [bf] w w') : PhysAt w' bm bf (m.set k { f with b := laid f.b off l }) := by
  have hne := h.ne
  obtain ⟨⟨c, r, a, b⟩, p, lo, hi⟩ := h
  have hlt : k < m.length := (List.getElem?_eq_some_iff.1 hk).1
  have e : some (Obj.cells cur.toArray T (0, 0)) = some (Obj.cells (flat m ++ r).toArray 113 (0, 0)) := hc.symm.trans b
  injection e with e
  injection e with e1 e2
  subst e2
  have e1' : cur = flat m ++ r := by simpa using e1
  subst e1'
  rw [splice_left _ _ _ (by rw [flat_length p]; simp; omega), flat_splice p hk hl] at hb
  refine ⟨⟨c, r, by simpa using a.keep hk' (by simpa using hne), hb⟩, p.set (by rw [laid_length (by rw [p.get hk]; exact hl)]; exact p.get hk), by simpa using lo, by simpa using hi⟩
theorem PhysAt.frameAt (h : PhysAt w bm bf m) {k : Nat} {f g : Fr} (hk : m[k]? = some f) (hg : g.b.length = 256) {cur : List Value} {T : TypeId} (hc : Blk w bf T cur) (w' : World)
    (hb : Blk w' bf T (splice cur (k * 260) g.cells)) (hk' : Keep [bf] w w') : PhysAt w' bm bf (m.set k g) := by
  have hne := h.ne
  obtain ⟨⟨c, r, a, b⟩, p, lo, hi⟩ := h
  have hlt : k < m.length := (List.getElem?_eq_some_iff.1 hk).1
  have e : some (Obj.cells cur.toArray T (0, 0)) = some (Obj.cells (flat m ++ r).toArray 113 (0, 0)) := hc.symm.trans b
  injection e with e
  injection e with e1 e2
  subst e2
  have e1' : cur = flat m ++ r := by simpa using e1
  subst e1'
  rw [splice_left _ _ _ (by rw [flat_length p, Fr.cells_length hg]; omega), flat_splice_frame p hk hg] at hb
  exact ⟨⟨c, r, by simpa using a.keep hk' (by simpa using hne), hb⟩, p.set hg, by simpa using lo, by simpa using hi⟩
theorem PhysAt.row (h : PhysAt w bm bf m) : ∃ cur, Blk w bf 113 cur ∧ m.length * 260 ≤ cur.length := by
  obtain ⟨⟨c, r, a, b⟩, p, lo, hi⟩ := h
  exact ⟨_, b, by rw [List.length_append, flat_length p]; omega⟩
theorem PhysAt.setO (h : PhysAt w bm bf m) {k : Nat} {f : Fr} (hk : m[k]? = some f) (x : Int) : PhysAt (w.setCell ⟨bf, k * 260, none⟩ (.int .i64 x)) bm bf (m.set k { f with o := x }) := by
  have h0 := h.set_ hk (j := 0) (g := { f with o := x }) (v := .int .i64 x) (by omega) rfl
  rwa [Nat.add_zero] at h0
theorem PhysAt.setTy (h : PhysAt w bm bf m) {k : Nat} {f : Fr} (hk : m[k]? = some f) (x : Int) : PhysAt (w.setCell ⟨bf, k * 260 + 1, none⟩ (.int .i64 x)) bm bf (m.set k { f with ty := x }) := h.set_ hk (j := 1) (by omega) rfl
theorem PhysAt.setC (h : PhysAt w bm bf m) {k : Nat} {f : Fr} (hk : m[k]? = some f) (x : Int) : PhysAt (w.setCell ⟨bf, k * 260 + 2, none⟩ (.int .i64 x)) bm bf (m.set k { f with c := x }) := h.set_ hk (j := 2) (by omega) rfl
theorem PhysAt.setT (h : PhysAt w bm bf m) {k : Nat} {f : Fr} (hk : m[k]? = some f) (x : Int) : PhysAt (w.setCell ⟨bf, k * 260 + 3, none⟩ (.int .i64 x)) bm bf (m.set k { f with t := x }) := h.set_ hk (j := 3) (by omega) rfl
end

end Go.Proofs.Ytkicpmfhnngndaa
