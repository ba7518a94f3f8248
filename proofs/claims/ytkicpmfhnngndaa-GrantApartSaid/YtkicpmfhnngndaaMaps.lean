/- What is proved: laws of maps in memory (lookup, store, delete, len) whose keys are of one kind; no program in sight. Conditions: those that each theorem names. -/
import Derived.Test.YtkicpmfhnngndaaBase
import Derived.RangeFuncRecord
set_option linter.unusedSimpArgs false
set_option linter.unusedVariables false
namespace Go.Proofs.Ytkicpmfhnngndaa
open Go.RowKit

/-- Block b is a map with the entries l, in the order in which they came. -/
def MapAt (w : World) (b : Nat) (l : List (Value × Value)) : Prop :=
  ∃ (es : List MapEntry) (clk : Nat), w.heap[b]? = some (.map es.toArray clk) ∧ es.map (fun e => (e.key, e.val)) = l ∧ (∀ e ∈ es, e.born < clk) ∧ (es.map (·.born)).Nodup

section
variable {w w' : World} {b : Nat} {l : List (Value × Value)} {S : List Nat}
theorem MapAt.lt (h : MapAt w b l) : b < w.heap.size := by obtain ⟨es, clk, hb, _⟩ := h; exact lt_of_some hb
theorem MapAt.keep (h : MapAt w b l) (k : Keep S w w') (hn : b ∉ S) : MapAt w' b l := by
  obtain ⟨es, clk, hb, r⟩ := h
  exact ⟨es, clk, k.obj hb hn, r⟩
theorem MapAt.of_eq (h : MapAt w b l) (e : w'.heap[b]? = w.heap[b]?) : MapAt w' b l := by
  obtain ⟨es, clk, hb, r⟩ := h
  exact ⟨es, clk, e.trans hb, r⟩
theorem MapAt.alloc (h : MapAt w b l) (o : Obj) : MapAt (w.alloc o) b l := h.of_eq (Below.heap_alloc w o b h.lt)
theorem MapAt.drew (h : MapAt w b l) : MapAt w.drew b l := h
theorem MapAt.drewN (h : MapAt w b l) (n : Nat) : MapAt (w.drewN n) b l := h
theorem MapAt.setCell (h : MapAt w b l) (p : Addr) (v : Value) : MapAt (w.setCell p v) b l := by
  obtain ⟨es, clk, hb, r⟩ := h
  refine ⟨es, clk, ?_, r⟩
  by_cases e : p.block = b
  · subst e
    simp [World.setCell, Array.getElem?_modify, hb]
  · rw [Below.heap_setCell _ _ _ _ (fun h => e h.symm)]; exact hb
theorem MapAt.new (w : World) : MapAt (w.alloc (.map #[] 0)) w.heap.size [] := ⟨[], 0, heap_alloc_new w _, rfl, by simp, by simp⟩
theorem MapAt.ne_blk (h : MapAt w b l) {g : Nat} {t : TypeId} {cs : List Value} (h' : Blk w g t cs) : b ≠ g := by
  rintro rfl
  obtain ⟨es, clk, hb, _⟩ := h
  unfold Blk at h'
  rw [hb] at h'; cases h'
theorem keep_putMap {es : List MapEntry} {clk : Nat} (h : w.heap[b]? = some (.map es.toArray clk)) (o : Obj) : Keep [b] w (w.putObj b o) :=
  ⟨rfl, rfl, rfl, by simp [World.putObj], fun k _ hn => World.putObj_heap_other (by simpa using hn)⟩
end

/-- Where a key stands, and what stands there. -/
def posOf {κ : Type} [DecidableEq κ] (k : κ) : List (κ × Value) → Nat → Option (Nat × Value)
  | [], _ => none
  | (a, v) :: r, i => if k = a then some (i, v) else posOf k r (i + 1)
def getOf {κ : Type} [DecidableEq κ] (k : κ) : List (κ × Value) → Option Value
  | [] => none
  | (a, v) :: r => if k = a then some v else getOf k r
def delOf {κ : Type} [DecidableEq κ] (k : κ) : List (κ × Value) → List (κ × Value)
  | [] => []
  | (a, v) :: r => if k = a then r else (a, v) :: delOf k r
def setOf {κ : Type} [DecidableEq κ] (k : κ) (x : Value) : List (κ × Value) → List (κ × Value)
  | [] => [(k, x)]
  | (a, v) :: r => if k = a then (a, x) :: r else (a, v) :: setOf k x r
def kv {κ : Type} (enc : κ → Value) (al : List (κ × Value)) : List (Value × Value) := al.map fun p => (enc p.1, p.2)

theorem map_eraseIdx' {α β : Type} (f : α → β) : ∀ (l : List α) (i : Nat), (l.eraseIdx i).map f = (l.map f).eraseIdx i
  | [], i => by simp
  | a :: l, 0 => by simp
  | a :: l, i + 1 => by simp [map_eraseIdx' f l i]
theorem modify_last {α : Type} (f : α → α) : ∀ (l : List α) (a : α), (l ++ [a]).modify l.length f = l ++ [f a]
  | [], a => by simp
  | b :: l, a => by simp [modify_last f l a]
theorem posOf_some {κ : Type} [DecidableEq κ] (k : κ) : ∀ (al : List (κ × Value)) (i j : Nat) (v : Value), posOf k al i = some (j, v) → i ≤ j ∧ j - i < al.length ∧ getOf k al = some v ∧ delOf k al = al.eraseIdx (j - i) ∧ ∀ x, setOf k x al = al.modify (j - i) fun p => (p.1, x)
  | [], i, j, v, h => by cases h
  | (a, u) :: r, i, j, v, h => by
    unfold posOf at h
    split at h
    · rename_i e
      cases h
      simp [getOf, delOf, setOf, e]
    · rename_i e
      obtain ⟨h1, h2, h3, h4, h5⟩ := posOf_some k r (i + 1) j v h
      obtain ⟨d, rfl⟩ : ∃ d, j = i + 1 + d := ⟨j - (i + 1), by omega⟩
      rw [show i + 1 + d - (i + 1) = d by omega] at h2 h4
      rw [show i + 1 + d - i = d + 1 by omega]
      refine ⟨by omega, by simp; omega, by simp [getOf, e, h3], by simp [delOf, e, h4], fun x => ?_⟩
      have := h5 x
      rw [show i + 1 + d - (i + 1) = d by omega] at this
      simp [setOf, e, this]
theorem posOf_key {κ : Type} [DecidableEq κ] (k : κ) : ∀ (al : List (κ × Value)) (i j : Nat) (v : Value), posOf k al i = some (j, v) → (al[j - i]?).map (·.1) = some k
  | [], i, j, v, h => by cases h
  | (a, u) :: r, i, j, v, h => by
    have h0 := (posOf_some k ((a, u) :: r) i j v h).1
    unfold posOf at h
    split at h
    · rename_i e
      cases h
      simp [e]
    · have := posOf_key k r (i + 1) j v h
      have h1 := (posOf_some k r (i + 1) j v h).1
      rw [show j - i = (j - (i + 1)) + 1 by omega]
      simpa using this
theorem posOf_none {κ : Type} [DecidableEq κ] (k : κ) : ∀ (al : List (κ × Value)) (i : Nat), posOf k al i = none → getOf k al = none ∧ delOf k al = al ∧ ∀ x, setOf k x al = al ++ [(k, x)]
  | [], i, h => by simp [getOf, delOf, setOf]
  | (a, u) :: r, i, h => by
    unfold posOf at h
    split at h
    · cases h
    · rename_i e
      obtain ⟨h1, h2, h3⟩ := posOf_none k r (i + 1) h
      simp [getOf, delOf, setOf, e, h1, h2, h3]

/-- Keys of one kind, as the model compares them. -/
structure KeyLaw (P : Program) (K : TypeId) (κ : Type) [DecidableEq κ] (enc : κ → Value) : Prop where
  ok : ∀ (e : Bool) (k : κ) (w : World), (Instr.checkKey e 10000 K (enc k)).run P w = .ok () w
  find : ∀ (k : κ) (es : List MapEntry) (al : List (κ × Value)) (w : World), es.map (fun e => (e.key, e.val)) = kv enc al → (Instr.findKey K (enc k) es).run P w = .ok (posOf k al 0) w
  same : ∀ (k : κ), Instr.sameBits 10000 (enc k) (enc k) = true

section
variable {P : Program} {T K E : TypeId} {κ : Type} [DecidableEq κ] {enc : κ → Value} (law : KeyLaw P K κ enc) (hT : P.underlying T = some (.map K E))
include law hT

theorem run_lookup_k {w : World} {b : Nat} {al : List (κ × Value)} (h : MapAt w b (kv enc al)) (k : κ) {z : Value} (hz : ∀ w : World, (zeroValue E).run P w = .ok z w) (ok : Bool) :
    (Instr.lookup T (.map (some b)) (enc k) ok).run P w = .ok (if ok then .tuple #[(getOf k al).getD z, .bool (getOf k al).isSome] else (getOf k al).getD z) w := by
  obtain ⟨es, clk, hb, hl, _⟩ := h
  have hf := law.find k es al w hl
  have hc := law.ok es.toArray.isEmpty k w
  simp only [List.isEmpty_toArray] at hc
  cases hp : posOf k al 0 with
  | none =>
    have h1 := (posOf_none k al 0 hp).1
    rw [hp] at hf
    cases ok <;> simp [Instr.lookup, run_underlying hT, getObj, Sem.run, hb, hc, hf, hz, h1]
  | some p =>
    obtain ⟨j, v⟩ := p
    have h1 := (posOf_some k al 0 j v hp).2.2.1
    rw [hp] at hf
    cases ok <;> simp [Instr.lookup, run_underlying hT, getObj, Sem.run, hb, hc, hf, h1]

theorem run_update_k {w : World} {b : Nat} {al : List (κ × Value)} (h : MapAt w b (kv enc al)) (k : κ) (x : Value) :
    ∃ w', (Instr.mapUpdate T (.map (some b)) (enc k) x).run P w = .ok () w' ∧ MapAt w' b (kv enc (setOf k x al)) ∧ Keep [b] w w' := by
  obtain ⟨es, clk, hb, hl, hlt, hnd⟩ := h
  have hf := law.find k es al w hl
  have hc := law.ok false k w
  have hlen : es.length = al.length := by have := congrArg List.length hl; simpa [kv] using this
  cases hp : posOf k al 0 with
  | none =>
    have h1 := (posOf_none k al 0 hp).2.2 x
    rw [hp] at hf
    refine ⟨w.putObj b (.map (es ++ [({ key := enc k, val := x, born := clk } : MapEntry)]).toArray (clk + 1)), ?_, ⟨_, _, World.putObj_heap_same (lt_of_some hb), ?_, ?_, ?_⟩, keep_putMap hb _⟩
    · simp [Instr.mapUpdate, run_underlying hT, getObj, setObj, Sem.run, hb, hc, hf, World.putObj]
    · rw [h1]; simp [kv] at hl ⊢; exact hl
    · intro e he
      rcases List.mem_append.1 he with he | he
      · have := hlt e he; omega
      · simp at he; subst he; simp
    · rw [List.map_append, List.nodup_append]
      refine ⟨hnd, by simp, ?_⟩
      intro a ha c hc' e
      obtain ⟨e1, he1, rfl⟩ := List.mem_map.1 ha
      simp at hc'
      have := hlt e1 he1
      omega
  | some p =>
    obtain ⟨j, v⟩ := p
    obtain ⟨_, hj, h1, _, h2⟩ := posOf_some k al 0 j v hp
    rw [hp] at hf
    have hjl : j < es.length := by omega
    have hkey : (es[j]'hjl).key = enc k := by
      have h3 := posOf_key k al 0 j v hp
      change (al[j]?).map _ = _ at h3
      rw [List.getElem?_eq_getElem (show j < al.length from hj)] at h3
      have h4 := congrArg (fun l => (l[j]?).map (·.1)) hl
      simp only [kv, List.getElem?_map, List.getElem?_eq_getElem hjl] at h4
      rw [List.getElem?_eq_getElem (show j < al.length from hj)] at h4
      simp at h3 h4
      rw [h4, h3]
    have hs : ∀ w : World, (Instr.keyThatStays (enc k) (enc k)).run P w = .ok (enc k) w := fun w => by simp [Instr.keyThatStays, law.same k]
    refine ⟨w.putObj b (.map (es.modify j fun e => { e with key := enc k, val := x }).toArray clk), ?_, ⟨_, _, World.putObj_heap_same (lt_of_some hb), ?_, ?_, ?_⟩, keep_putMap hb _⟩
    · simp [Instr.mapUpdate, run_underlying hT, getObj, setObj, Sem.run, hb, hc, hf, World.putObj, hjl, hkey, hs]
    · rw [h2 x, Nat.sub_zero]
      apply List.ext_getElem?
      intro i
      have h4 := congrArg (fun l => l[i]?) hl
      simp only [kv, List.getElem?_map, List.getElem?_modify] at h4 ⊢
      by_cases e : j = i
      · subst e
        rw [List.getElem?_eq_getElem hjl, List.getElem?_eq_getElem (show j < al.length from hj)] at h4 ⊢
        simp at h4 ⊢
        rw [← h4.1, hkey]
      · simp only [if_neg e, id_map']
        exact h4
    · intro e he
      obtain ⟨i, hi, rfl⟩ := List.getElem_of_mem he
      have hi' : i < es.length := by simpa using hi
      have h5 := hlt _ (List.getElem_mem hi')
      rw [List.getElem_modify]
      split
      · simpa using h5
      · exact h5
    · have : (es.modify j fun e => { e with key := enc k, val := x }).map (·.born) = es.map (·.born) := by
        apply List.ext_getElem?
        intro i
        simp only [List.getElem?_map, List.getElem?_modify]
        by_cases e : j = i
        · subst e; rw [List.getElem?_eq_getElem hjl]; simp
        · simp [e]
      rw [this]; exact hnd

theorem run_delete_k {w : World} {b : Nat} {al : List (κ × Value)} (h : MapAt w b (kv enc al)) (k : κ) (ty t2 : TypeId) :
    ∃ w', (Builtin.delete_ #[T, t2] ty #[.map (some b), enc k]).run P w = .ok (.tuple #[]) w' ∧ MapAt w' b (kv enc (delOf k al)) ∧ Keep [b] w w' := by
  obtain ⟨es, clk, hb, hl, hlt, hnd⟩ := h
  have hf := law.find k es al w hl
  have hc := law.ok es.toArray.isEmpty k w
  simp only [List.isEmpty_toArray] at hc
  have hlen : es.length = al.length := by have := congrArg List.length hl; simpa [kv] using this
  cases hp : posOf k al 0 with
  | none =>
    have h1 := (posOf_none k al 0 hp).2.1
    rw [hp] at hf
    refine ⟨w.putObj b (.map es.toArray clk), ?_, ⟨_, _, World.putObj_heap_same (lt_of_some hb), by rw [h1]; exact hl, hlt, hnd⟩, keep_putMap hb _⟩
    simp [Builtin.delete_, run_underlying hT, getObj, setObj, Sem.run, hb, hc, hf, World.putObj]
  | some p =>
    obtain ⟨j, v⟩ := p
    obtain ⟨_, hj, _, h1, _⟩ := posOf_some k al 0 j v hp
    rw [hp] at hf
    have hjl : j < es.length := by omega
    refine ⟨w.putObj b (.map (es.eraseIdx j).toArray clk), ?_, ⟨_, _, World.putObj_heap_same (lt_of_some hb), ?_, ?_, ?_⟩, keep_putMap hb _⟩
    · simp [Builtin.delete_, run_underlying hT, getObj, setObj, Sem.run, hb, hc, hf, World.putObj, Array.eraseIdxIfInBounds, hjl]
    · rw [h1, Nat.sub_zero]
      unfold kv at hl ⊢
      rw [map_eraseIdx', hl, map_eraseIdx']
    · exact fun e he => hlt e (List.mem_of_mem_eraseIdx he)
    · rw [map_eraseIdx']; exact hnd.sublist (List.eraseIdx_sublist _ _)

/-- 'm[k], .. = ..' at a new key: the entry is made, with the element's zero; its stamp. -/
theorem run_entry_k {w : World} {b : Nat} {al : List (κ × Value)} (h : MapAt w b (kv enc al)) {k : κ} (hk : getOf k al = none) {z : Value} (hz : ∀ w : World, (zeroValue E).run P w = .ok z w) :
    ∃ (w' : World) (c : Nat), (Instr.mapEntry T (.map (some b)) (enc k)).run P w = .ok (.tuple #[z, .int .i64 (c : Int)]) w' ∧ Keep [b] w w' ∧
      (∀ (W : World) (x : Value) (t2 : TypeId), W.heap[b]? = w'.heap[b]? → ∃ W', (Instr.entryStore t2 (.map (some b)) (.int .i64 (c : Int)) x).run P W = .ok () W' ∧ MapAt W' b (kv enc (al ++ [(k, x)])) ∧ Keep [b] W W') := by
  obtain ⟨es, clk, hb, hl, hlt, hnd⟩ := h
  have hf := law.find k es al w hl
  have hc := law.ok false k w
  have hp : posOf k al 0 = none := by
    cases hp : posOf k al 0 with
    | none => rfl
    | some p => obtain ⟨j, v⟩ := p; have := (posOf_some k al 0 j v hp).2.2.1; rw [hk] at this; cases this
  rw [hp] at hf
  refine ⟨w.putObj b (.map (es ++ [({ key := enc k, val := z, born := clk } : MapEntry)]).toArray (clk + 1)), clk, ?_, keep_putMap hb _, ?_⟩
  · simp [Instr.mapEntry, run_underlying hT, getObj, setObj, Sem.run, hb, hc, hf, World.putObj, hz, goInt]
  · intro W x t2 hW
    rw [World.putObj_heap_same (lt_of_some hb)] at hW
    refine ⟨W.putObj b (.map (es ++ [({ key := enc k, val := x, born := clk } : MapEntry)]).toArray (clk + 1)), ?_, ⟨_, _, World.putObj_heap_same (lt_of_some hW), ?_, ?_, ?_⟩, keep_putMap hW _⟩
    · simp [Instr.entryStore, getObj, setObj, Sem.run, hW, World.putObj, asInt, asIntOf]
      rw [List.findIdx?_eq_none_iff.2 (by intro e he; have := hlt e he; simp; omega), Option.getD_none, modify_last]
    · simp [kv] at hl ⊢; exact hl
    · intro e he
      rcases List.mem_append.1 he with he | he
      · have := hlt e he; omega
      · simp at he; subst he; simp
    · rw [List.map_append, List.nodup_append]
      refine ⟨hnd, by simp, ?_⟩
      intro a ha c hc' e
      obtain ⟨e1, he1, rfl⟩ := List.mem_map.1 ha
      simp at hc'
      have := hlt e1 he1
      omega

variable {ops : Array Oper} {rest : List Oper} {o : Oper} {a : Act} {Q : Exit → Act → World → Prop}
theorem wpList_lookup_k {w : World} (hgd : o.guard = none) (x y : Operand) (ok : Bool) (ho : o.op = .lookup T x y ok) {b : Nat} {al : List (κ × Value)} (k : κ) (hx : a.eval x = .map (some b)) (hy : a.eval y = enc k)
    (h : MapAt w b (kv enc al)) {z : Value} (hz : ∀ w : World, (zeroValue E).run P w = .ok z w)
    (hK : wpList P ops Q rest (a.put o.dst (if ok then .tuple #[(getOf k al).getD z, .bool (getOf k al).isSome] else (getOf k al).getD z)) w) : wpList P ops Q (o :: rest) a w := by
  refine wpList_plain hgd fun K hK' => ?_
  have hrun := run_lookup_k law hT h k hz ok
  unfold Oper.wp
  simp [execOp, ho, hx, hy, hrun, Result.andThen]
  exact hK' _ _ hK
theorem wpList_update_k {w : World} (hgd : o.guard = none) (x y v : Operand) (ho : o.op = .mapUpdate T x y v) {b : Nat} {al : List (κ × Value)} (k : κ) (u : Value) (hx : a.eval x = .map (some b)) (hy : a.eval y = enc k) (hv : a.eval v = u)
    (h : MapAt w b (kv enc al)) (hK : ∀ w', Hid (MapAt w' b (kv enc (setOf k u al))) → Keep [b] w w' → wpList P ops Q rest (a.put o.dst undef) w') : wpList P ops Q (o :: rest) a w := by
  refine wpList_plain hgd fun K hK' => ?_
  obtain ⟨w', hrun, h1, h2⟩ := run_update_k law hT h k u
  unfold Oper.wp
  simp [execOp, ho, hx, hy, hv, hrun, Result.andThen]
  exact hK' _ _ (hK _ h1 h2)
theorem wpList_delete_k {w : World} (hgd : o.guard = none) (x y : Operand) (t2 : TypeId) (ho : o.op = .call { callee := .builtin .delete, args := #[x, y], argTypes := #[T, t2] }) {b : Nat} {al : List (κ × Value)} (k : κ) (hx : a.eval x = .map (some b)) (hy : a.eval y = enc k)
    (h : MapAt w b (kv enc al)) (hK : ∀ w', Hid (MapAt w' b (kv enc (delOf k al))) → Keep [b] w w' → wpList P ops Q rest (a.put o.dst (.tuple #[])) w') : wpList P ops Q (o :: rest) a w := by
  refine wpList_plain hgd fun K hK' => ?_
  obtain ⟨w', hrun, h1, h2⟩ := run_delete_k law hT h k o.type t2
  unfold Oper.wp
  simp [execOp, ho, resolve, invoke, builtin, hx, hy, hrun, Result.andThen]
  exact hK' _ _ (hK _ h1 h2)
end

end Go.Proofs.Ytkicpmfhnngndaa
