/- What is proved: what Alloc, Left of phys compute. Conditions: the machine lies in memory as PhysAt says. -/
import Derived.Test.YtkicpmfhnngndaaOwned
set_option linter.unusedSimpArgs false
set_option linter.unusedVariables false
namespace Go.Proofs.Ytkicpmfhnngndaa
open Go.RowKit
attribute [local go_sem] Oper.semAt_some

theorem Mach.ownerAt_of {m : Mach} {k : Nat} {f : Fr} (h : m[k]? = some f) : m.ownerAt k = f.o := by unfold Mach.ownerAt; rw [h]
theorem Mach.free_none {m : Mach} (h : m.ownN (-1) m.length = []) : m.free = none := by
  unfold Mach.free
  rw [List.findIdx?_eq_none_iff]
  intro f hf
  obtain ⟨k, hk, rfl⟩ := List.getElem_of_mem hf
  have h1 : k ∉ m.ownN (-1) m.length := by rw [h]; simp
  unfold Mach.ownN at h1
  rw [List.mem_filter, Mach.ownerAt_of (List.getElem?_eq_getElem hk)] at h1
  have := fun hh => h1 ⟨List.mem_range.2 hk, hh⟩
  simpa using this
theorem Mach.free_some {m : Mach} {k : Nat} (hk : k < m.length) (ho : m.ownerAt k = -1) (h : m.ownN (-1) k = []) : m.free = some k := by
  unfold Mach.free
  rw [List.findIdx?_eq_some_iff_getElem]
  refine ⟨hk, ?_, ?_⟩
  · rw [Mach.ownerAt_of (List.getElem?_eq_getElem hk)] at ho
    simpa using ho
  · intro j hj
    have h1 : j ∉ m.ownN (-1) k := by rw [h]; simp
    unfold Mach.ownN at h1
    rw [List.mem_filter, Mach.ownerAt_of (List.getElem?_eq_getElem (Nat.lt_trans hj hk))] at h1
    have := fun hh => h1 ⟨List.mem_range.2 hj, hh⟩
    simpa using this

section
variable {w : World} {bm bf : Nat} {m : Mach}

set_option maxRecDepth 100000 in
theorem phys_alloc_bad (h : PhysAt w bm bf m) {owner : Int} (h1 : isDom owner = false) (h2 : owner ≠ -2) :
    Calls Try.prog 36 #[.pointer (some ⟨bm, 0, none⟩), .int .i64 owner] w fun e w' =>
      e = .returned (.tuple #[.int .i64 0, .int .i64 1]) ∧ Keep [] w w' := by
  have h2' := bne_yes h2
  have lm := h.ltm
  clear h2
  go_enter Try.func36, Try.ntmps36
  go_wp2_with (first | (go_at_call 42; refine (phys_none ((((h.alloc _).alloc _).alloc _).alloc _)).mono ?_; rintro e w' ⟨rfl, rfl⟩) | (go_at_call 79; refine (phys_domain _ _).mono ?_; rintro e w' ⟨rfl, rfl⟩))
  refine bodyPost_ret (v := .tuple #[.int .i64 0, .int .i64 1]) (by simp [results, Try.results36, go_sem]) rfl ⟨rfl, ?_⟩
  exact (by repeat (first | with_reducible exact Keep.refl _ _ | with_reducible assumption | with_reducible apply Keep.alloc | with_reducible apply Keep.drewN | with_reducible apply Keep.drew | (with_reducible refine Keep.setCell ?_ ?_ _) | focus (left; simp; done) | focus (right; simp; done) | focus (right; simp; omega)))


/-- What Alloc keeps in its own boxes while it goes over the frames. -/
structure AllocI (w : World) (bm bf : Nat) (m : Mach) (owner : Int) (r1 r2 : Value) (W : World) : Prop where
  mach : PhysAt W bm bf m
  b2 : Boxed W w.heap.size 28 (.pointer (some ⟨bm, 0, none⟩))
  b3 : Boxed W (w.heap.size + 1) 3 (.int .i64 owner)
  b4 : Boxed W (w.heap.size + 1 + 1) 3 r1
  b5 : Boxed W (w.heap.size + 1 + 1 + 1) 38 r2
  kept : Keep [bf] w W
  size : w.heap.size + 6 ≤ W.heap.size
theorem allocI_own {β : Type} (w : World) (bm bf : Nat) (m : Mach) (owner : Int) (r1 r2 : Value) (B : Nat) (hB : w.heap.size ≤ B) : OwnFrom B (fun (_ : β) W => AllocI w bm bf m owner r1 r2 W) := by
  intro s X Y row hs hg hr
  have hne : ∀ {j : Nat} {o : Obj}, X.heap[j]? = some o → o.isCells = true → Y.heap[j]? = X.heap[j]? := by
    intro j o hj ho
    refine hg.block j (lt_of_some hj) (fun e => ?_)
    obtain ⟨_, o', ho', hc⟩ := hr j e.symm
    rw [hj] at ho'; cases ho'
    rw [ho] at hc; cases hc
  obtain ⟨⟨⟨c, rr, a, b⟩, p, lo, hi⟩, h2, h3, h4, h5, hk, hsz⟩ := hs
  refine ⟨⟨⟨c, rr, (hne a rfl).trans a, (hne b rfl).trans b⟩, p, lo, hi⟩, (hne h2 rfl).trans h2, (hne h3 rfl).trans h3, (hne h4 rfl).trans h4, (hne h5 rfl).trans h5, ?_, Nat.le_trans hsz hg.size⟩
  exact ⟨hg.os.trans hk.os, hg.tape.trans hk.tape, hg.output.trans hk.output, Nat.le_trans hk.size hg.size, fun k hk' hn => (hg.block k (Nat.lt_of_lt_of_le hk' hk.size) (fun e => by have := (hr k e.symm).1; omega)).trans (hk.block k hk' hn)⟩
theorem allocI_step {w : World} {bm bf : Nat} {m : Mach} {owner : Int} {r1 r2 : Value} {W : World} (hm : bm < w.heap.size) (hb : bf < w.heap.size) (hI : AllocI w bm bf m owner r1 r2 W) {x : Nat} {f : Fr} (hf : m[x]? = some f) (B : Nat) :
    KeepsFrom B W (((W.setCell ⟨bf, x * 260, none⟩ (.int .i64 owner)).setCell ⟨w.heap.size + 1 + 1, 0, none⟩ (.int .i64 (x : Int))).setCell ⟨w.heap.size + 1 + 1 + 1, 0, none⟩ (.int .i64 0)).drew ∧
    AllocI w bm bf (m.set x { f with o := owner }) owner (.int .i64 (x : Int)) (.int .i64 0) (((W.setCell ⟨bf, x * 260, none⟩ (.int .i64 owner)).setCell ⟨w.heap.size + 1 + 1, 0, none⟩ (.int .i64 (x : Int))).setCell ⟨w.heap.size + 1 + 1 + 1, 0, none⟩ (.int .i64 0)).drew := by
  obtain ⟨hp, i2, i3, i4, i5, ik, isz⟩ := hI
  have j2 : Blk W w.heap.size 28 [_] := i2
  have j3 : Blk W (w.heap.size + 1) 3 [_] := i3
  have j4 : Blk W (w.heap.size + 1 + 1) 3 [_] := i4
  have j5 : Blk W (w.heap.size + 1 + 1 + 1) 38 [_] := i5
  refine ⟨?_, ?_⟩
  · have h := (((KeepsOthers.setCell W ⟨bf, x * 260, none⟩ (.int .i64 owner)).trans (KeepsOthers.setCell _ ⟨w.heap.size + 1 + 1, 0, none⟩ (.int .i64 (x : Int)))).trans (KeepsOthers.setCell _ ⟨w.heap.size + 1 + 1 + 1, 0, none⟩ (.int .i64 0))).from B
    exact ⟨h.size, h.same⟩
  · refine ⟨(((hp.setO hf owner).far (p := ⟨w.heap.size + 1 + 1, 0, none⟩) (by dsimp only; omega) (by dsimp only; omega) _).far (p := ⟨w.heap.size + 1 + 1 + 1, 0, none⟩) (by dsimp only; omega) (by dsimp only; omega) _).drew, ?_, ?_, ?_, ?_, ?_, ?_⟩
    · exact ((j2.far (p := ⟨bf, x * 260, none⟩) (by dsimp only; omega) _).far (p := ⟨w.heap.size + 1 + 1, 0, none⟩) (by dsimp only; omega) _).far (p := ⟨w.heap.size + 1 + 1 + 1, 0, none⟩) (by dsimp only; omega) _
    · exact ((j3.far (p := ⟨bf, x * 260, none⟩) (by dsimp only; omega) _).far (p := ⟨w.heap.size + 1 + 1, 0, none⟩) (by dsimp only; omega) _).far (p := ⟨w.heap.size + 1 + 1 + 1, 0, none⟩) (by dsimp only; omega) _
    · exact ((j4.far (p := ⟨bf, x * 260, none⟩) (by dsimp only; omega) _).set_ 0 (.int .i64 (x : Int))).far (p := ⟨w.heap.size + 1 + 1 + 1, 0, none⟩) (by dsimp only; omega) _
    · exact ((j5.far (p := ⟨bf, x * 260, none⟩) (by dsimp only; omega) _).far (p := ⟨w.heap.size + 1 + 1, 0, none⟩) (by dsimp only; omega) _).set_ 0 (.int .i64 0)
    · exact (((ik.setCell (p := ⟨bf, x * 260, none⟩) (.inl (by simp)) _).setCell (p := ⟨w.heap.size + 1 + 1, 0, none⟩) (.inr (by dsimp only; omega)) _).setCell (p := ⟨w.heap.size + 1 + 1 + 1, 0, none⟩) (.inr (by dsimp only; omega)) _).drew
    · simpa [World.setCell] using isz
theorem cell_putObj {W : World} {D : Nat} {o : Obj} {p : Addr} (h : p.block ≠ D) : (W.putObj D o).cell? p = W.cell? p := World.cell?_of_block (World.putObj_heap_other h)
theorem keep_putObj {S : List Nat} {w W : World} (h : Keep S w W) {D : Nat} (hD : w.heap.size ≤ D) (o : Obj) : Keep S w (W.putObj D o) :=
  ⟨h.os, h.tape, h.output, by simpa using h.size, fun k hk hn => (World.putObj_heap_other (by omega)).trans (h.block k hk hn)⟩
theorem PhysAt.putObj {W : World} {bm bf : Nat} {m : Mach} (h : PhysAt W bm bf m) {D : Nat} {o' : Obj} (hK : W.heap[D]? = some o') (hc : o'.isCells = false) (o : Obj) : PhysAt (W.putObj D o) bm bf m := by
  obtain ⟨⟨c, r, a, b⟩, p, l, u⟩ := h
  have h1 : bm ≠ D := fun e => by subst e; rw [show W.heap[bm]? = _ from a] at hK; cases hK; cases hc
  have h2 : bf ≠ D := fun e => by subst e; rw [show W.heap[bf]? = _ from b] at hK; cases hK; cases hc
  exact ⟨⟨c, r, (World.putObj_heap_other h1).trans a, (World.putObj_heap_other h2).trans b⟩, p, l, u⟩

set_option maxRecDepth 100000 in
set_option maxHeartbeats 1000000 in
theorem phys_alloc_dom (h : PhysAt w bm bf m) {owner : Int} (hd : isDom owner = true) :
    Calls Try.prog 36 #[.pointer (some ⟨bm, 0, none⟩), .int .i64 owner] w fun e w' =>
      (m.free = none ∧ e = .returned (.tuple #[.int .i64 0, .int .i64 10]) ∧ PhysAt w' bm bf m ∧ Keep [bf] w w') ∨
      (∃ (k : Nat) (f : Fr), m.free = some k ∧ m[k]? = some f ∧ e = .returned (.tuple #[.int .i64 (k : Int), .int .i64 0]) ∧ PhysAt w' bm bf (m.set k { f with o := owner }) ∧ Keep [bf] w w') := by
  have hF : ∀ k, Fence.wide.fn k := fun _ => trivial
  have hD : Fence.wide.depth.isSome = false := rfl
  have lm := h.ltm
  have lf := h.ltf
  refine (callsIn_wide (n := 5)).1 ?_
  refine callsIn_of_wp_marks Try.func36 rfl trivial ?_ rfl
  simp only [Try.ntmps36, List.size_toArray, List.length_cons, List.length_nil, Nat.reduceAdd, Nat.reduceSub, Array.replicate_succ, Array.replicate_zero, List.push_toArray, List.append_toArray, List.nil_append, List.cons_append]
  gi_wp2_with (first | (gi_at_call 42; refine (callsIn_wide.2 (phys_none ((((h.alloc _).alloc _).alloc _).alloc _))).mono ?_; rintro e w' ⟨rfl, rfl⟩) | (gi_at_call 79; refine (callsIn_wide.2 (phys_domain _ _)).mono ?_; rintro e w' ⟨rfl, rfl⟩) | (gi_at_call 80; refine (callsIn_wide.2 (phys_of _ _ _)).mono ?_; rintro e w' ⟨rfl, rfl⟩))
  have b2 : Boxed ((((((w.alloc (.cells #[.pointer (some ⟨bm, 0, none⟩)] 28)).alloc (.cells #[.int .i64 owner] 3)).alloc (.cells #[.int .i64 0] 3)).alloc (.cells #[.int .i64 0] 38)).alloc (.cells #[.pointer (some ⟨bm, 0, none⟩)] 28)).alloc (.cells #[.int .i64 (-1)] 3)) w.heap.size 28 (.pointer (some ⟨bm, 0, none⟩)) := (((((Boxed.new w _ _).alloc _).alloc _).alloc _).alloc _).alloc _
  have b3 : Boxed ((((((w.alloc (.cells #[.pointer (some ⟨bm, 0, none⟩)] 28)).alloc (.cells #[.int .i64 owner] 3)).alloc (.cells #[.int .i64 0] 3)).alloc (.cells #[.int .i64 0] 38)).alloc (.cells #[.pointer (some ⟨bm, 0, none⟩)] 28)).alloc (.cells #[.int .i64 (-1)] 3)) (w.heap.size + 1) 3 (.int .i64 owner) := by
    have := Boxed.new (w.alloc (.cells #[.pointer (some ⟨bm, 0, none⟩)] 28)) 3 (.int .i64 owner)
    simp only [World.size_alloc] at this
    exact (((this.alloc _).alloc _).alloc _).alloc _
  have b4 : Boxed ((((((w.alloc (.cells #[.pointer (some ⟨bm, 0, none⟩)] 28)).alloc (.cells #[.int .i64 owner] 3)).alloc (.cells #[.int .i64 0] 3)).alloc (.cells #[.int .i64 0] 38)).alloc (.cells #[.pointer (some ⟨bm, 0, none⟩)] 28)).alloc (.cells #[.int .i64 (-1)] 3)) (w.heap.size + 1 + 1) 3 (.int .i64 0) := by
    have := Boxed.new ((w.alloc (.cells #[.pointer (some ⟨bm, 0, none⟩)] 28)).alloc (.cells #[.int .i64 owner] 3)) 3 (.int .i64 0)
    simp only [World.size_alloc] at this
    exact ((this.alloc _).alloc _).alloc _
  have b5 : Boxed ((((((w.alloc (.cells #[.pointer (some ⟨bm, 0, none⟩)] 28)).alloc (.cells #[.int .i64 owner] 3)).alloc (.cells #[.int .i64 0] 3)).alloc (.cells #[.int .i64 0] 38)).alloc (.cells #[.pointer (some ⟨bm, 0, none⟩)] 28)).alloc (.cells #[.int .i64 (-1)] 3)) (w.heap.size + 1 + 1 + 1) 38 (.int .i64 0) := by
    have := Boxed.new (((w.alloc (.cells #[.pointer (some ⟨bm, 0, none⟩)] 28)).alloc (.cells #[.int .i64 owner] 3)).alloc (.cells #[.int .i64 0] 3)) 38 (.int .i64 0)
    simp only [World.size_alloc] at this
    exact (this.alloc _).alloc _
  have b6 : Blk ((((((w.alloc (.cells #[.pointer (some ⟨bm, 0, none⟩)] 28)).alloc (.cells #[.int .i64 owner] 3)).alloc (.cells #[.int .i64 0] 3)).alloc (.cells #[.int .i64 0] 38)).alloc (.cells #[.pointer (some ⟨bm, 0, none⟩)] 28)).alloc (.cells #[.int .i64 (-1)] 3)) (w.heap.size + 1 + 1 + 1 + 1) 28 [.pointer (some ⟨bm, 0, none⟩)] := by
    have := Blk.new ((((w.alloc (.cells #[.pointer (some ⟨bm, 0, none⟩)] 28)).alloc (.cells #[.int .i64 owner] 3)).alloc (.cells #[.int .i64 0] 3)).alloc (.cells #[.int .i64 0] 38)) 28 [.pointer (some ⟨bm, 0, none⟩)]
    simp only [World.size_alloc] at this
    exact this.alloc _
  have b7 : Blk ((((((w.alloc (.cells #[.pointer (some ⟨bm, 0, none⟩)] 28)).alloc (.cells #[.int .i64 owner] 3)).alloc (.cells #[.int .i64 0] 3)).alloc (.cells #[.int .i64 0] 38)).alloc (.cells #[.pointer (some ⟨bm, 0, none⟩)] 28)).alloc (.cells #[.int .i64 (-1)] 3)) (w.heap.size + 1 + 1 + 1 + 1 + 1) 3 [.int .i64 (-1)] := by
    have := Blk.new (((((w.alloc (.cells #[.pointer (some ⟨bm, 0, none⟩)] 28)).alloc (.cells #[.int .i64 owner] 3)).alloc (.cells #[.int .i64 0] 3)).alloc (.cells #[.int .i64 0] 38)).alloc (.cells #[.pointer (some ⟨bm, 0, none⟩)] 28)) 3 [.int .i64 (-1)]
    simp only [World.size_alloc] at this
    exact this
  have hk0 : Keep [] w ((((((w.alloc (.cells #[.pointer (some ⟨bm, 0, none⟩)] 28)).alloc (.cells #[.int .i64 owner] 3)).alloc (.cells #[.int .i64 0] 3)).alloc (.cells #[.int .i64 0] 38)).alloc (.cells #[.pointer (some ⟨bm, 0, none⟩)] 28)).alloc (.cells #[.int .i64 (-1)] 3)) := (by repeat (first | with_reducible exact Keep.refl _ _ | with_reducible assumption | with_reducible apply Keep.alloc | with_reducible apply Keep.drewN | with_reducible apply Keep.drew | (with_reducible refine Keep.setCell ?_ ?_ _) | focus (left; simp; done) | focus (right; simp; done) | focus (right; simp; omega)))
  have hp0 : PhysAt ((((((w.alloc (.cells #[.pointer (some ⟨bm, 0, none⟩)] 28)).alloc (.cells #[.int .i64 owner] 3)).alloc (.cells #[.int .i64 0] 3)).alloc (.cells #[.int .i64 0] 38)).alloc (.cells #[.pointer (some ⟨bm, 0, none⟩)] 28)).alloc (.cells #[.int .i64 (-1)] 3)) bm bf m := (((((h.alloc _).alloc _).alloc _).alloc _).alloc _).alloc _
  have hsz : (((((((w.alloc (.cells #[.pointer (some ⟨bm, 0, none⟩)] 28)).alloc (.cells #[.int .i64 owner] 3)).alloc (.cells #[.int .i64 0] 3)).alloc (.cells #[.int .i64 0] 38)).alloc (.cells #[.pointer (some ⟨bm, 0, none⟩)] 28)).alloc (.cells #[.int .i64 (-1)] 3))).heap.size = w.heap.size + 6 := by simp
  generalize hW : ((((((w.alloc (.cells #[.pointer (some ⟨bm, 0, none⟩)] 28)).alloc (.cells #[.int .i64 owner] 3)).alloc (.cells #[.int .i64 0] 3)).alloc (.cells #[.int .i64 0] 38)).alloc (.cells #[.pointer (some ⟨bm, 0, none⟩)] 28)).alloc (.cells #[.int .i64 (-1)] 3)) = WW at b2 b3 b4 b5 b6 b7 hk0 hp0 hsz ⊢
  clear hW
  have hle := h.hi
  refine wpIn_rangeFunc_ownG rfl (by omega) (gf := 106) (lb := #[.pointer (some ⟨w.heap.size + 1 + 1 + 1 + 1, 0, none⟩), .pointer (some ⟨w.heap.size + 1 + 1 + 1 + 1 + 1, 0, none⟩)]) rfl trivial (enters_of Try.func106 (by kernel_rfl) rfl)
    (of_stops _ hp0 b6 b7) keepB_t (keepB_b (by intro x hx; simp at hx; rw [hsz]; omega)) (Below.refl _ _) (fun _ => rfl)
    (fun (pre : List (Fin m.length)) W => pre = [] ∧ AllocI w bm bf m owner (.int .i64 0) (.int .i64 0) W)
    (fun c pre W => c = .ret ∧ ∃ (x : Nat) (f : Fr), pre.map (·.1) = [x] ∧ m[x]? = some f ∧ AllocI w bm bf (m.set x { f with o := owner }) owner (.int .i64 (x : Int)) (.int .i64 0) W)
    ((ownFrom_pure _ _).and (allocI_own _ _ _ _ _ _ _ _ (by omega)))
    (fun c s A B row hs hg hr => by
      obtain ⟨hc, x, f, hp, hm, hI⟩ := hs
      exact ⟨hc, x, f, hp, hm, allocI_own (β := Unit) _ _ _ _ _ _ _ _ (by omega) () A B row hI hg hr⟩)
    ⟨rfl, ⟨hp0, b2, b3, b4, b5, hk0.mono (by simp), by omega⟩⟩
    (fun x => { tmps := #[.pointer (some ⟨bm, 0, none⟩), .int .i64 owner, .pointer (some ⟨w.heap.size, 0, none⟩), .pointer (some ⟨w.heap.size + 1, 0, none⟩), .pointer (some ⟨w.heap.size + 1 + 1, 0, none⟩), .pointer (some ⟨w.heap.size + 1 + 1 + 1, 0, none⟩), .int .i64 (x.1 : Int), .bool false, .pointer (some ⟨bm, 0, none⟩), .bool false, .bool false, .int .i64 owner, .bool true, .bool false, .bool false, undef, undef, .bool false, .pointer (some ⟨bm, 0, none⟩), .func (.func 106) #[] #[.pointer (some ⟨w.heap.size + 1 + 1 + 1 + 1, 0, none⟩), .pointer (some ⟨w.heap.size + 1 + 1 + 1 + 1 + 1, 0, none⟩)], .int .i64 (x.1 : Int), undef, undef, undef, undef, undef, undef, undef, undef, undef, undef], defers := [] }) ?assign ?body ?done ?stop
  case assign =>
    intro l x W K hK
    gi_wp2
    exact hK
  case body =>
    rintro l pre x W ⟨rfl, hI⟩ hlen
    obtain ⟨x, hx⟩ := x
    obtain ⟨f, hf⟩ : ∃ f, m[x]? = some f := ⟨_, List.getElem?_eq_getElem hx⟩
    have HS := Lib.hid (allocI_step lm lf hI hf WW.heap.size)
    have HFX := Lib.hid hf
    obtain ⟨hp, i2, i3, i4, i5, ik, isz⟩ := hI
    have hc2 := i2.cell
    have hc3 := i3.cell
    have hc4 := i4.cell
    have hc5 := i5.cell
    have hf4 := i4.frozen
    have hf5 := i5.frozen
    obtain ⟨c, hh0, hh1⟩ := hp.heads
    have hc0 := hp.c0 hf
    have hfz := hp.frozen
    clear hp i2 i3 i4 i5 ik hf b2 b3 b4 b5 b6 b7 hk0 hp0 h
    gi_wp2
    gi_region
    all_goals gi_wp2
    all_goals exact ⟨HS.out.1, rfl, x, f, rfl, HFX.out, HS.out.2⟩
  case done =>
    rintro D ys W hD hys ⟨hnil, hI⟩ hK
    subst hnil
    obtain ⟨hp, i2, i3, i4, i5, ik, isz⟩ := hI
    have j4 : Blk W (w.heap.size + 1 + 1) 3 [_] := i4
    have j5 : Blk W (w.heap.size + 1 + 1 + 1) 38 [_] := i5
    have hc4 := i4.cell
    have hc5 := i5.cell
    have hf4 := i4.frozen
    have hf5 := i5.frozen
    have hK2 : ((W.setCell ⟨w.heap.size + 1 + 1, 0, none⟩ (.int .i64 0)).setCell ⟨w.heap.size + 1 + 1 + 1, 0, none⟩ (.int .i64 10)).heap[D]? = some (.deferred (some [])) :=
      ((KeepsOthers.setCell W ⟨w.heap.size + 1 + 1, 0, none⟩ (.int .i64 0)).trans (KeepsOthers.setCell _ ⟨w.heap.size + 1 + 1 + 1, 0, none⟩ (.int .i64 10))).same D _ hK rfl
    have q4 : (((W.setCell ⟨w.heap.size + 1 + 1, 0, none⟩ (.int .i64 0)).setCell ⟨w.heap.size + 1 + 1 + 1, 0, none⟩ (.int .i64 10)).putObj D (.deferred none)).cell? ⟨w.heap.size + 1 + 1, 0, none⟩ = some (.int .i64 0) :=
      (cell_putObj (by dsimp only; omega)).trans (((j4.set_ 0 (.int .i64 0)).far (p := ⟨w.heap.size + 1 + 1 + 1, 0, none⟩) (by dsimp only; omega) _).cell 0)
    have q5 : (((W.setCell ⟨w.heap.size + 1 + 1, 0, none⟩ (.int .i64 0)).setCell ⟨w.heap.size + 1 + 1 + 1, 0, none⟩ (.int .i64 10)).putObj D (.deferred none)).cell? ⟨w.heap.size + 1 + 1 + 1, 0, none⟩ = some (.int .i64 10) :=
      (cell_putObj (by dsimp only; omega)).trans (((j5.far (p := ⟨w.heap.size + 1 + 1, 0, none⟩) (by dsimp only; omega) (.int .i64 0)).set_ 0 (.int .i64 10)).cell 0)
    have kk := keep_putObj (((ik.setCell (p := ⟨w.heap.size + 1 + 1, 0, none⟩) (.inr (by dsimp only; omega)) (.int .i64 0)).setCell (p := ⟨w.heap.size + 1 + 1 + 1, 0, none⟩) (.inr (by dsimp only; omega)) (.int .i64 10))) (D := D) (by omega) (.deferred none)
    have km := ((hp.far (p := ⟨w.heap.size + 1 + 1, 0, none⟩) (by dsimp only; omega) (by dsimp only; omega) (.int .i64 0)).far (p := ⟨w.heap.size + 1 + 1 + 1, 0, none⟩) (by dsimp only; omega) (by dsimp only; omega) (.int .i64 10)).putObj hK2 rfl (.deferred none)
    have HX := Lib.hid (And.intro (Mach.free_none (m := m) (by rw [← hys]; rfl)) (And.intro km kk))
    have HK := Lib.hid hK2
    clear hp i2 i3 i4 i5 ik hys b2 b3 b4 b5 b6 b7 hk0 hp0 h hK hK2 kk km j4 j5
    gi_wp2
    refine ⟨by simp, .inl ⟨_, _, rfl, run_takeDeferred HK.out, ?_⟩⟩
    refine ⟨.tuple #[.int .i64 0, .int .i64 10], ?_, .inl ⟨HX.out.1, rfl, HX.out.2⟩⟩
    simp [results, Try.results36, go_sem, q4, q5]
  case stop =>
    rintro D c pre W hD ⟨k, hk, hko, hpre⟩ ⟨rfl, x, f, hx, hf, hI⟩ hK
    rw [hx] at hpre
    obtain ⟨hown, rfl⟩ : m.ownN (-1) k = [] ∧ x = k := by
      rcases hl : m.ownN (-1) k with _ | ⟨a, l⟩
      · rw [hl] at hpre; simp at hpre; exact ⟨rfl, hpre⟩
      · rw [hl] at hpre; simp at hpre
    obtain ⟨hp, i2, i3, i4, i5, ik, isz⟩ := hI
    have q4 : (W.putObj D (.deferred none)).cell? ⟨w.heap.size + 1 + 1, 0, none⟩ = some (.int .i64 (x : Int)) := (cell_putObj (by dsimp only; omega)).trans i4.cell
    have q5 : (W.putObj D (.deferred none)).cell? ⟨w.heap.size + 1 + 1 + 1, 0, none⟩ = some (.int .i64 0) := (cell_putObj (by dsimp only; omega)).trans i5.cell
    have HX := Lib.hid (And.intro (Mach.free_some hk hko hown) (And.intro hf (And.intro (hp.putObj hK rfl (.deferred none)) (keep_putObj ik (D := D) (by omega) (.deferred none)))))
    have HK := Lib.hid hK
    clear hp i2 i3 i4 i5 ik hx hpre hown hko hf b2 b3 b4 b5 b6 b7 hk0 hp0 h hK
    gi_wp2
    refine ⟨by simp, .inl ⟨_, _, rfl, run_takeDeferred HK.out, ?_⟩⟩
    refine ⟨.tuple #[.int .i64 (x : Int), .int .i64 0], ?_, .inr ⟨x, f, HX.out.1, HX.out.2.1, rfl, HX.out.2.2.1, HX.out.2.2.2⟩⟩
    simp [results, Try.results36, go_sem, q4, q5]

set_option maxRecDepth 100000 in
set_option maxHeartbeats 1000000 in
theorem phys_alloc_hyper (h : PhysAt w bm bf m)  :
    Calls Try.prog 36 #[.pointer (some ⟨bm, 0, none⟩), .int .i64 (-2)] w fun e w' =>
      (m.free = none ∧ e = .returned (.tuple #[.int .i64 0, .int .i64 10]) ∧ PhysAt w' bm bf m ∧ Keep [bf] w w') ∨
      (∃ (k : Nat) (f : Fr), m.free = some k ∧ m[k]? = some f ∧ e = .returned (.tuple #[.int .i64 (k : Int), .int .i64 0]) ∧ PhysAt w' bm bf (m.set k { f with o := (-2) }) ∧ Keep [bf] w w') := by
  have hF : ∀ k, Fence.wide.fn k := fun _ => trivial
  have hD : Fence.wide.depth.isSome = false := rfl
  have lm := h.ltm
  have lf := h.ltf
  have hd : isDom (-2) = false := rfl
  refine (callsIn_wide (n := 5)).1 ?_
  refine callsIn_of_wp_marks Try.func36 rfl trivial ?_ rfl
  simp only [Try.ntmps36, List.size_toArray, List.length_cons, List.length_nil, Nat.reduceAdd, Nat.reduceSub, Array.replicate_succ, Array.replicate_zero, List.push_toArray, List.append_toArray, List.nil_append, List.cons_append]
  gi_wp2_with (first | (gi_at_call 42; refine (callsIn_wide.2 (phys_none ((((h.alloc _).alloc _).alloc _).alloc _))).mono ?_; rintro e w' ⟨rfl, rfl⟩) | (gi_at_call 79; refine (callsIn_wide.2 (phys_domain _ _)).mono ?_; rintro e w' ⟨rfl, rfl⟩) | (gi_at_call 80; refine (callsIn_wide.2 (phys_of _ _ _)).mono ?_; rintro e w' ⟨rfl, rfl⟩))
  have b2 : Boxed ((((((w.alloc (.cells #[.pointer (some ⟨bm, 0, none⟩)] 28)).alloc (.cells #[.int .i64 (-2)] 3)).alloc (.cells #[.int .i64 0] 3)).alloc (.cells #[.int .i64 0] 38)).alloc (.cells #[.pointer (some ⟨bm, 0, none⟩)] 28)).alloc (.cells #[.int .i64 (-1)] 3)) w.heap.size 28 (.pointer (some ⟨bm, 0, none⟩)) := (((((Boxed.new w _ _).alloc _).alloc _).alloc _).alloc _).alloc _
  have b3 : Boxed ((((((w.alloc (.cells #[.pointer (some ⟨bm, 0, none⟩)] 28)).alloc (.cells #[.int .i64 (-2)] 3)).alloc (.cells #[.int .i64 0] 3)).alloc (.cells #[.int .i64 0] 38)).alloc (.cells #[.pointer (some ⟨bm, 0, none⟩)] 28)).alloc (.cells #[.int .i64 (-1)] 3)) (w.heap.size + 1) 3 (.int .i64 (-2)) := by
    have := Boxed.new (w.alloc (.cells #[.pointer (some ⟨bm, 0, none⟩)] 28)) 3 (.int .i64 (-2))
    simp only [World.size_alloc] at this
    exact (((this.alloc _).alloc _).alloc _).alloc _
  have b4 : Boxed ((((((w.alloc (.cells #[.pointer (some ⟨bm, 0, none⟩)] 28)).alloc (.cells #[.int .i64 (-2)] 3)).alloc (.cells #[.int .i64 0] 3)).alloc (.cells #[.int .i64 0] 38)).alloc (.cells #[.pointer (some ⟨bm, 0, none⟩)] 28)).alloc (.cells #[.int .i64 (-1)] 3)) (w.heap.size + 1 + 1) 3 (.int .i64 0) := by
    have := Boxed.new ((w.alloc (.cells #[.pointer (some ⟨bm, 0, none⟩)] 28)).alloc (.cells #[.int .i64 (-2)] 3)) 3 (.int .i64 0)
    simp only [World.size_alloc] at this
    exact ((this.alloc _).alloc _).alloc _
  have b5 : Boxed ((((((w.alloc (.cells #[.pointer (some ⟨bm, 0, none⟩)] 28)).alloc (.cells #[.int .i64 (-2)] 3)).alloc (.cells #[.int .i64 0] 3)).alloc (.cells #[.int .i64 0] 38)).alloc (.cells #[.pointer (some ⟨bm, 0, none⟩)] 28)).alloc (.cells #[.int .i64 (-1)] 3)) (w.heap.size + 1 + 1 + 1) 38 (.int .i64 0) := by
    have := Boxed.new (((w.alloc (.cells #[.pointer (some ⟨bm, 0, none⟩)] 28)).alloc (.cells #[.int .i64 (-2)] 3)).alloc (.cells #[.int .i64 0] 3)) 38 (.int .i64 0)
    simp only [World.size_alloc] at this
    exact (this.alloc _).alloc _
  have b6 : Blk ((((((w.alloc (.cells #[.pointer (some ⟨bm, 0, none⟩)] 28)).alloc (.cells #[.int .i64 (-2)] 3)).alloc (.cells #[.int .i64 0] 3)).alloc (.cells #[.int .i64 0] 38)).alloc (.cells #[.pointer (some ⟨bm, 0, none⟩)] 28)).alloc (.cells #[.int .i64 (-1)] 3)) (w.heap.size + 1 + 1 + 1 + 1) 28 [.pointer (some ⟨bm, 0, none⟩)] := by
    have := Blk.new ((((w.alloc (.cells #[.pointer (some ⟨bm, 0, none⟩)] 28)).alloc (.cells #[.int .i64 (-2)] 3)).alloc (.cells #[.int .i64 0] 3)).alloc (.cells #[.int .i64 0] 38)) 28 [.pointer (some ⟨bm, 0, none⟩)]
    simp only [World.size_alloc] at this
    exact this.alloc _
  have b7 : Blk ((((((w.alloc (.cells #[.pointer (some ⟨bm, 0, none⟩)] 28)).alloc (.cells #[.int .i64 (-2)] 3)).alloc (.cells #[.int .i64 0] 3)).alloc (.cells #[.int .i64 0] 38)).alloc (.cells #[.pointer (some ⟨bm, 0, none⟩)] 28)).alloc (.cells #[.int .i64 (-1)] 3)) (w.heap.size + 1 + 1 + 1 + 1 + 1) 3 [.int .i64 (-1)] := by
    have := Blk.new (((((w.alloc (.cells #[.pointer (some ⟨bm, 0, none⟩)] 28)).alloc (.cells #[.int .i64 (-2)] 3)).alloc (.cells #[.int .i64 0] 3)).alloc (.cells #[.int .i64 0] 38)).alloc (.cells #[.pointer (some ⟨bm, 0, none⟩)] 28)) 3 [.int .i64 (-1)]
    simp only [World.size_alloc] at this
    exact this
  have hk0 : Keep [] w ((((((w.alloc (.cells #[.pointer (some ⟨bm, 0, none⟩)] 28)).alloc (.cells #[.int .i64 (-2)] 3)).alloc (.cells #[.int .i64 0] 3)).alloc (.cells #[.int .i64 0] 38)).alloc (.cells #[.pointer (some ⟨bm, 0, none⟩)] 28)).alloc (.cells #[.int .i64 (-1)] 3)) := (by repeat (first | with_reducible exact Keep.refl _ _ | with_reducible assumption | with_reducible apply Keep.alloc | with_reducible apply Keep.drewN | with_reducible apply Keep.drew | (with_reducible refine Keep.setCell ?_ ?_ _) | focus (left; simp; done) | focus (right; simp; done) | focus (right; simp; omega)))
  have hp0 : PhysAt ((((((w.alloc (.cells #[.pointer (some ⟨bm, 0, none⟩)] 28)).alloc (.cells #[.int .i64 (-2)] 3)).alloc (.cells #[.int .i64 0] 3)).alloc (.cells #[.int .i64 0] 38)).alloc (.cells #[.pointer (some ⟨bm, 0, none⟩)] 28)).alloc (.cells #[.int .i64 (-1)] 3)) bm bf m := (((((h.alloc _).alloc _).alloc _).alloc _).alloc _).alloc _
  have hsz : (((((((w.alloc (.cells #[.pointer (some ⟨bm, 0, none⟩)] 28)).alloc (.cells #[.int .i64 (-2)] 3)).alloc (.cells #[.int .i64 0] 3)).alloc (.cells #[.int .i64 0] 38)).alloc (.cells #[.pointer (some ⟨bm, 0, none⟩)] 28)).alloc (.cells #[.int .i64 (-1)] 3))).heap.size = w.heap.size + 6 := by simp
  generalize hW : ((((((w.alloc (.cells #[.pointer (some ⟨bm, 0, none⟩)] 28)).alloc (.cells #[.int .i64 (-2)] 3)).alloc (.cells #[.int .i64 0] 3)).alloc (.cells #[.int .i64 0] 38)).alloc (.cells #[.pointer (some ⟨bm, 0, none⟩)] 28)).alloc (.cells #[.int .i64 (-1)] 3)) = WW at b2 b3 b4 b5 b6 b7 hk0 hp0 hsz ⊢
  clear hW
  have hle := h.hi
  refine wpIn_rangeFunc_ownG rfl (by omega) (gf := 106) (lb := #[.pointer (some ⟨w.heap.size + 1 + 1 + 1 + 1, 0, none⟩), .pointer (some ⟨w.heap.size + 1 + 1 + 1 + 1 + 1, 0, none⟩)]) rfl trivial (enters_of Try.func106 (by kernel_rfl) rfl)
    (of_stops _ hp0 b6 b7) keepB_t (keepB_b (by intro x hx; simp at hx; rw [hsz]; omega)) (Below.refl _ _) (fun _ => rfl)
    (fun (pre : List (Fin m.length)) W => pre = [] ∧ AllocI w bm bf m (-2) (.int .i64 0) (.int .i64 0) W)
    (fun c pre W => c = .ret ∧ ∃ (x : Nat) (f : Fr), pre.map (·.1) = [x] ∧ m[x]? = some f ∧ AllocI w bm bf (m.set x { f with o := (-2) }) (-2) (.int .i64 (x : Int)) (.int .i64 0) W)
    ((ownFrom_pure _ _).and (allocI_own _ _ _ _ _ _ _ _ (by omega)))
    (fun c s A B row hs hg hr => by
      obtain ⟨hc, x, f, hp, hm, hI⟩ := hs
      exact ⟨hc, x, f, hp, hm, allocI_own (β := Unit) _ _ _ _ _ _ _ _ (by omega) () A B row hI hg hr⟩)
    ⟨rfl, ⟨hp0, b2, b3, b4, b5, hk0.mono (by simp), by omega⟩⟩
    (fun x => { tmps := #[.pointer (some ⟨bm, 0, none⟩), .int .i64 (-2), .pointer (some ⟨w.heap.size, 0, none⟩), .pointer (some ⟨w.heap.size + 1, 0, none⟩), .pointer (some ⟨w.heap.size + 1 + 1, 0, none⟩), .pointer (some ⟨w.heap.size + 1 + 1 + 1, 0, none⟩), .int .i64 (x.1 : Int), .bool false, .pointer (some ⟨bm, 0, none⟩), .bool false, .bool false, .int .i64 (-2), .bool false, .bool true, .bool true, .int .i64 (-2), .bool false, .bool false, .pointer (some ⟨bm, 0, none⟩), .func (.func 106) #[] #[.pointer (some ⟨w.heap.size + 1 + 1 + 1 + 1, 0, none⟩), .pointer (some ⟨w.heap.size + 1 + 1 + 1 + 1 + 1, 0, none⟩)], .int .i64 (x.1 : Int), undef, undef, undef, undef, undef, undef, undef, undef, undef, undef], defers := [] }) ?assign ?body ?done ?stop
  case assign =>
    intro l x W K hK
    gi_wp2
    exact hK
  case body =>
    rintro l pre x W ⟨rfl, hI⟩ hlen
    obtain ⟨x, hx⟩ := x
    obtain ⟨f, hf⟩ : ∃ f, m[x]? = some f := ⟨_, List.getElem?_eq_getElem hx⟩
    have HS := Lib.hid (allocI_step lm lf hI hf WW.heap.size)
    have HFX := Lib.hid hf
    obtain ⟨hp, i2, i3, i4, i5, ik, isz⟩ := hI
    have hc2 := i2.cell
    have hc3 := i3.cell
    have hc4 := i4.cell
    have hc5 := i5.cell
    have hf4 := i4.frozen
    have hf5 := i5.frozen
    obtain ⟨c, hh0, hh1⟩ := hp.heads
    have hc0 := hp.c0 hf
    have hfz := hp.frozen
    clear hp i2 i3 i4 i5 ik hf b2 b3 b4 b5 b6 b7 hk0 hp0 h
    gi_wp2
    gi_region
    all_goals gi_wp2
    all_goals exact ⟨HS.out.1, rfl, x, f, rfl, HFX.out, HS.out.2⟩
  case done =>
    rintro D ys W hD hys ⟨hnil, hI⟩ hK
    subst hnil
    obtain ⟨hp, i2, i3, i4, i5, ik, isz⟩ := hI
    have j4 : Blk W (w.heap.size + 1 + 1) 3 [_] := i4
    have j5 : Blk W (w.heap.size + 1 + 1 + 1) 38 [_] := i5
    have hc4 := i4.cell
    have hc5 := i5.cell
    have hf4 := i4.frozen
    have hf5 := i5.frozen
    have hK2 : ((W.setCell ⟨w.heap.size + 1 + 1, 0, none⟩ (.int .i64 0)).setCell ⟨w.heap.size + 1 + 1 + 1, 0, none⟩ (.int .i64 10)).heap[D]? = some (.deferred (some [])) :=
      ((KeepsOthers.setCell W ⟨w.heap.size + 1 + 1, 0, none⟩ (.int .i64 0)).trans (KeepsOthers.setCell _ ⟨w.heap.size + 1 + 1 + 1, 0, none⟩ (.int .i64 10))).same D _ hK rfl
    have q4 : (((W.setCell ⟨w.heap.size + 1 + 1, 0, none⟩ (.int .i64 0)).setCell ⟨w.heap.size + 1 + 1 + 1, 0, none⟩ (.int .i64 10)).putObj D (.deferred none)).cell? ⟨w.heap.size + 1 + 1, 0, none⟩ = some (.int .i64 0) :=
      (cell_putObj (by dsimp only; omega)).trans (((j4.set_ 0 (.int .i64 0)).far (p := ⟨w.heap.size + 1 + 1 + 1, 0, none⟩) (by dsimp only; omega) _).cell 0)
    have q5 : (((W.setCell ⟨w.heap.size + 1 + 1, 0, none⟩ (.int .i64 0)).setCell ⟨w.heap.size + 1 + 1 + 1, 0, none⟩ (.int .i64 10)).putObj D (.deferred none)).cell? ⟨w.heap.size + 1 + 1 + 1, 0, none⟩ = some (.int .i64 10) :=
      (cell_putObj (by dsimp only; omega)).trans (((j5.far (p := ⟨w.heap.size + 1 + 1, 0, none⟩) (by dsimp only; omega) (.int .i64 0)).set_ 0 (.int .i64 10)).cell 0)
    have kk := keep_putObj (((ik.setCell (p := ⟨w.heap.size + 1 + 1, 0, none⟩) (.inr (by dsimp only; omega)) (.int .i64 0)).setCell (p := ⟨w.heap.size + 1 + 1 + 1, 0, none⟩) (.inr (by dsimp only; omega)) (.int .i64 10))) (D := D) (by omega) (.deferred none)
    have km := ((hp.far (p := ⟨w.heap.size + 1 + 1, 0, none⟩) (by dsimp only; omega) (by dsimp only; omega) (.int .i64 0)).far (p := ⟨w.heap.size + 1 + 1 + 1, 0, none⟩) (by dsimp only; omega) (by dsimp only; omega) (.int .i64 10)).putObj hK2 rfl (.deferred none)
    have HX := Lib.hid (And.intro (Mach.free_none (m := m) (by rw [← hys]; rfl)) (And.intro km kk))
    have HK := Lib.hid hK2
    clear hp i2 i3 i4 i5 ik hys b2 b3 b4 b5 b6 b7 hk0 hp0 h hK hK2 kk km j4 j5
    gi_wp2
    refine ⟨by simp, .inl ⟨_, _, rfl, run_takeDeferred HK.out, ?_⟩⟩
    refine ⟨.tuple #[.int .i64 0, .int .i64 10], ?_, .inl ⟨HX.out.1, rfl, HX.out.2⟩⟩
    simp [results, Try.results36, go_sem, q4, q5]
  case stop =>
    rintro D c pre W hD ⟨k, hk, hko, hpre⟩ ⟨rfl, x, f, hx, hf, hI⟩ hK
    rw [hx] at hpre
    obtain ⟨hown, rfl⟩ : m.ownN (-1) k = [] ∧ x = k := by
      rcases hl : m.ownN (-1) k with _ | ⟨a, l⟩
      · rw [hl] at hpre; simp at hpre; exact ⟨rfl, hpre⟩
      · rw [hl] at hpre; simp at hpre
    obtain ⟨hp, i2, i3, i4, i5, ik, isz⟩ := hI
    have q4 : (W.putObj D (.deferred none)).cell? ⟨w.heap.size + 1 + 1, 0, none⟩ = some (.int .i64 (x : Int)) := (cell_putObj (by dsimp only; omega)).trans i4.cell
    have q5 : (W.putObj D (.deferred none)).cell? ⟨w.heap.size + 1 + 1 + 1, 0, none⟩ = some (.int .i64 0) := (cell_putObj (by dsimp only; omega)).trans i5.cell
    have HX := Lib.hid (And.intro (Mach.free_some hk hko hown) (And.intro hf (And.intro (hp.putObj hK rfl (.deferred none)) (keep_putObj ik (D := D) (by omega) (.deferred none)))))
    have HK := Lib.hid hK
    clear hp i2 i3 i4 i5 ik hx hpre hown hko hf b2 b3 b4 b5 b6 b7 hk0 hp0 h hK
    gi_wp2
    refine ⟨by simp, .inl ⟨_, _, rfl, run_takeDeferred HK.out, ?_⟩⟩
    refine ⟨.tuple #[.int .i64 (x : Int), .int .i64 0], ?_, .inr ⟨x, f, HX.out.1, HX.out.2.1, rfl, HX.out.2.2.1, HX.out.2.2.2⟩⟩
    simp [results, Try.results36, go_sem, q4, q5]

end

end Go.Proofs.Ytkicpmfhnngndaa
