/- What is proved: the iterator of phys.Machine.of, and Owned, Left, Alloc over it. Conditions: the machine lies in memory as PhysAt says. -/
import Derived.Test.YtkicpmfhnngndaaPhysD
import Derived.RangeFuncNested
import Derived.RangeFuncBound
import Derived.RangeFuncCalls
import Derived.RangeFuncLeaves
import Derived.Shelf.Abstract
import Derived.Shelf.RegionOpen
import Derived.OwnWalkIn
import Derived.TacticsInMore
import Derived.LoopNIn
import Derived.LoopIn
import Derived.Stop.RegionWithIn
import Derived.Maps.AppendAt
import Derived.RangeFuncBox
set_option linter.unusedSimpArgs false
set_option linter.unusedVariables false
namespace Go.Proofs.Ytkicpmfhnngndaa
open Go.RowKit
attribute [local go_sem] Oper.semAt_some

def Mach.ownerAt (m : Mach) (i : Nat) : Int := match m[i]? with | some f => f.o | none => 0
/-- The frames of an owner, of the first k. -/
def Mach.ownN (m : Mach) (o : Int) (k : Nat) : List Nat := (List.range k).filter fun i => m.ownerAt i == o
theorem Mach.ownN_succ (m : Mach) (o : Int) (k : Nat) : m.ownN o (k + 1) = m.ownN o k ++ (if m.ownerAt k == o then [k] else []) := by
  simp [Mach.ownN, List.range_succ, List.filter_append, List.filter_cons]
theorem Mach.ownN_le (m : Mach) (o : Int) (k : Nat) : (m.ownN o k).length ≤ k := by
  have := List.length_filter_le (fun i => m.ownerAt i == o) (List.range k)
  simpa [Mach.ownN] using this
theorem Mach.ownN_prefix (m : Mach) (o : Int) {k j : Nat} (h : k ≤ j) : m.ownN o k <+: m.ownN o j := by
  induction j with
  | zero => obtain rfl : k = 0 := by omega
            exact List.prefix_rfl
  | succ j ih =>
    rcases Nat.lt_or_ge k (j + 1) with hlt | hge
    · rw [Mach.ownN_succ]; exact (ih (by omega)).trans (List.prefix_append _ _)
    · obtain rfl : k = j + 1 := by omega
      exact List.prefix_rfl

/-- What a round that goes on keeps. -/
structure KeepB (L : List Nat) (W W' : World) : Prop where
  size : W.heap.size ≤ W'.heap.size
  same : ∀ k, k ∈ L → k < W.heap.size → W'.heap[k]? = W.heap[k]?

section
variable {w : World} {bm bf : Nat} {m : Mach}

theorem PhysAt.keepB (h : PhysAt w bm bf m) {w' : World} {L : List Nat} (k : KeepB L w w') (h1 : bm ∈ L) (h2 : bf ∈ L) : PhysAt w' bm bf m := by
  have l1 := h.ltm
  have l2 := h.ltf
  obtain ⟨⟨c, r, a, b⟩, p, lo, hi⟩ := h
  exact ⟨⟨c, r, (k.same bm h1 l1).trans a, (k.same bf h2 l2).trans b⟩, p, lo, hi⟩
theorem Blk.keepB {g : Nat} {t : TypeId} {cs : List Value} (h : Blk w g t cs) {w' : World} {L : List Nat} (k : KeepB L w w') (h1 : g ∈ L) : Blk w' g t cs := (k.same g h1 h.lt).trans h
theorem PhysAt.grown (h : PhysAt w bm bf m) {w' : World} (g : w.grownBy w' none) : PhysAt w' bm bf m :=
  h.keepB (L := [bm, bf]) ⟨g.size, fun k _ hk => g.block k hk (by simp)⟩ (by simp) (by simp)

set_option maxRecDepth 100000 in
set_option maxHeartbeats 4000000 in
theorem of_run (n : Nat) (l B1 B2 : Nat) (o : Int) (W : World) (h : PhysAt W bm bf m) (h1 : Blk W B1 28 [.pointer (some ⟨bm, 0, none⟩)]) (h2 : Blk W B2 3 [.int .i64 o])
    (J Jx : List Nat → World → Prop) (hJ : AbidesFrom W.heap.size J) (hJx : AbidesFrom W.heap.size Jx)
    (hY : ∀ pre x W1, J pre W1 → pre.length < m.length → x < m.length → YieldAt Fence.wide (n - 1) Try.prog l #[.int .i64 (x : Nat)] W1 fun e W' =>
      (e = .returned (.bool true) ∧ J (pre ++ [x]) W' ∧ KeepB [bm, bf, B1, B2] W1 W') ∨ (e = .returned (.bool false) ∧ Jx (pre ++ [x]) W'))
    (h0 : J [] W) :
    CallsIn Fence.wide n Try.prog 106 #[.func (.yield l) #[] #[], .pointer (some ⟨B1, 0, none⟩), .pointer (some ⟨B2, 0, none⟩)] W fun e W' => (∃ v, e = .returned v) ∧
      (J (m.ownN o m.length) W' ∨ (∃ k, k < m.length ∧ m.ownerAt k = o ∧ Jx (m.ownN o k ++ [k]) W')) := by
  refine callsIn_of_wp Try.func106 rfl trivial ?_ rfl
  simp only [Try.ntmps106, List.size_toArray, List.length_cons, List.length_nil, Nat.reduceAdd, Nat.reduceSub, Array.replicate_succ, Array.replicate_zero, List.push_toArray, List.append_toArray, List.nil_append, List.cons_append]
  have c1 := h1.cell 0
  have c2 := h2.cell 0
  have H0 := Lib.hid h0
  clear h0
  have hF : ∀ k, Fence.wide.fn k := fun _ => trivial
  have hD : Fence.wide.depth.isSome = false := rfl
  gi_wp2_with (gi_at_call 13; refine (callsIn_wide.2 (phys_size h)).mono ?_; rintro e w' ⟨rfl, rfl⟩)
  have hu := h.hi
  gi_loopw [7] (fun c wr => ∃ k : Nat, k ≤ m.length ∧ c = .int .i64 k ∧ Hid (J (m.ownN o k) wr ∧ PhysAt wr bm bf m ∧ Blk wr B1 28 [.pointer (some ⟨bm, 0, none⟩)] ∧ Blk wr B2 3 [.int .i64 o])) (fun c _ => m.length - (intOf c).toNat)
  case atStart => exact ⟨0, Nat.zero_le _, rfl, H0.out, h, h1, h2⟩
  case round =>
    obtain ⟨k, hk, rfl, HH⟩ := hrel
    obtain ⟨hj, hp, hb1, hb2⟩ := HH.out
    clear HH
    by_cases hlt : k < m.length
    · obtain ⟨f, hf⟩ : ∃ f, m[k]? = some f := ⟨_, List.getElem?_eq_getElem hlt⟩
      have hoa : m.ownerAt k = f.o := by unfold Mach.ownerAt; rw [hf]
      have hc1 := hb1.cell 0
      have hc2 := hb2.cell 0
      obtain ⟨c, hh0, hh1⟩ := hp.heads
      have hc0 := hp.c0 hf
      by_cases ho : f.o = o
      · have ho1 := beq_yes ho
        have HY := Lib.hid ((hY (m.ownN o k) k wr.drew (hJ _ wr wr.drew none hj ⟨rfl, rfl, rfl, Nat.le_refl _, fun _ _ _ => rfl⟩ (fun r e => by cases e)) (by have := m.ownN_le o k; omega) hlt).mono (R' := fun e W' => ∃ b : Bool, e = .returned (.bool b) ∧ Hid ((b = true → J (m.ownN o k ++ [k]) W' ∧ KeepB [bm, bf, B1, B2] wr.drew W') ∧ (b = false → Jx (m.ownN o k ++ [k]) W'))) (by
            rintro e W' (⟨rfl, a, b⟩ | ⟨rfl, a⟩)
            · exact ⟨true, rfl, fun _ => ⟨a, b⟩, fun h => by cases h⟩
            · exact ⟨false, rfl, fun h => (by cases h), fun _ => a⟩))
        have HX := Lib.hid (And.intro hj (And.intro hoa (And.intro hf ho)))
        clear hj hoa hf ho hY h1 h2 h c1 c2 H0 hJ hJx
        obtain ⟨fn, tmps, assign, body, hy, hR⟩ := HY.out
        clear HY
        have HR := Lib.hid hR
        clear hR
        gi_wp2
        gi_region_with ((with_reducible refine HR.out.mono ?_); rintro e W' ⟨b, rfl, HB⟩)
        all_goals
          cases b
          · have HB2 := Lib.hid (HB.out.2 rfl)
            clear HB
            gi_wp2
            refine bodyPost_ret (results_none rfl _ _ _) rfl ?_
            exact ⟨⟨_, rfl⟩, .inr ⟨k, hlt, HX.out.2.1.trans HX.out.2.2.2, HB2.out⟩⟩
          · have HB1 := Lib.hid (HB.out.1 rfl)
            clear HB
            gi_wp2
            go_roundw
            case rel =>
              obtain ⟨hj', hkp⟩ := HB1.out
              refine ⟨k + 1, by omega, by go_num, ?_, hp.drew.keepB hkp (by simp) (by simp), Blk.keepB (w := wr.drew) hb1 hkp (by simp), Blk.keepB (w := wr.drew) hb2 hkp (by simp)⟩
              rw [Mach.ownN_succ, HX.out.2.1, if_pos ho1]
              exact hj'
            case measure => simp [intOf]; omega
      · have ho1 := beq_no ho
        have HX := Lib.hid (And.intro hj (And.intro hoa ho))
        clear hj hoa hf ho hY h1 h2 h c1 c2 H0 hJx
        have HJ := Lib.hid hJ
        clear hJ
        gi_wp2
        refine wpIn_wide.2 ?_
        go_quiet (fail)
        gi_wp2
        go_roundw
        case rel =>
          refine ⟨k + 1, by omega, by go_num, ?_, hp.drewN _, hb1, hb2⟩
          rw [Mach.ownN_succ, HX.out.2.1, if_neg (by rw [ho1]; simp), List.append_nil]
          exact HJ.out _ wr _ none HX.out.1 ⟨rfl, rfl, rfl, Nat.le_refl _, fun _ _ _ => rfl⟩ (fun r e => by cases e)
        case measure => simp [intOf]; omega
    · obtain rfl : k = m.length := by omega
      clear hY h1 h2 h c1 c2 H0 hJx hJ
      have HX := Lib.hid hj
      clear hj
      gi_wp2
      go_end0
      exact ⟨⟨_, rfl⟩, .inl HX.out⟩

theorem of_stops (n : Nat) {B1 B2 : Nat} {o : Int} (h : PhysAt w bm bf m) (h1 : Blk w B1 28 [.pointer (some ⟨bm, 0, none⟩)]) (h2 : Blk w B2 3 [.int .i64 o]) :
    SeqStopsK Fence.wide n Try.prog 106 #[.pointer (some ⟨B1, 0, none⟩), .pointer (some ⟨B2, 0, none⟩)] (fun k : Fin m.length => #[.int .i64 (k.1 : Int)]) (KeepB [bm, bf, B1, B2])
      (fun xs => xs.map (·.1) = m.ownN o m.length) (fun pre => ∃ k, k < m.length ∧ m.ownerAt k = o ∧ pre.map (·.1) = m.ownN o k ++ [k]) m.length w := by
  intro l J Jx W hW hJ hJx hY h0
  have hb : ∀ k, k < w.heap.size → W.heap[k]? = w.heap[k]? := fun k hk => hW.block k hk
  refine (of_run n l B1 B2 o W (h.keepB (L := [bm, bf]) ⟨hW.size, fun k _ hk => hb k hk⟩ (by simp) (by simp)) ((hb _ h1.lt).trans h1) ((hb _ h2.lt).trans h2)
    (fun l W => ∃ l' : List (Fin m.length), l'.map (·.1) = l ∧ J l' W) (fun l W => ∃ l' : List (Fin m.length), l'.map (·.1) = l ∧ Jx l' W)
    (fun s A B row hs hg hr => by obtain ⟨l', e, hj⟩ := hs; exact ⟨l', e, hJ l' A B row hj hg hr⟩) (fun s A B row hs hg hr => by obtain ⟨l', e, hj⟩ := hs; exact ⟨l', e, hJx l' A B row hj hg hr⟩)
    (fun pre x W1 hs hl hx => by
      obtain ⟨l', rfl, hj⟩ := hs
      refine (hY l' ⟨x, hx⟩ W1 hj (by simpa using hl)).mono ?_
      rintro e W' (⟨rfl, a, b⟩ | ⟨rfl, a⟩)
      · exact .inl ⟨rfl, ⟨_, by simp, a⟩, b⟩
      · exact .inr ⟨rfl, _, by simp, a⟩) ⟨[], rfl, h0⟩).mono ?_
  rintro e W' ⟨hv, hj⟩
  refine ⟨hv, ?_⟩
  rcases hj with ⟨l', e', hj⟩ | ⟨k, hk, ho, l', e', hj⟩
  · exact .inl ⟨l', e', hj⟩
  · exact .inr ⟨l', ⟨k, hk, ho, e'⟩, hj⟩

theorem phys_of (a : Option Addr) (o : Int) (w : World) :
    Calls Try.prog 80 #[.pointer a, .int .i64 o] w fun e w' =>
      e = .returned (.func (.func 106) #[] #[.pointer (some ⟨w.heap.size, 0, none⟩), .pointer (some ⟨w.heap.size + 1, 0, none⟩)]) ∧
      w' = (w.alloc (.cells #[.pointer a] 28)).alloc (.cells #[.int .i64 o] 3) := by
  go_enter Try.func80, Try.ntmps80
  go_wp2
  go_ret
  exact ⟨rfl, rfl⟩

theorem keepB_t {L : List Nat} {A B C : World} (h : KeepB L A B) (k : KeepB L B C) : KeepB L A C := ⟨Nat.le_trans h.size k.size, fun i hi hl => (k.same i hi (Nat.lt_of_lt_of_le hl h.size)).trans (h.same i hi hl)⟩
theorem keepB_b {L : List Nat} (hL : ∀ x ∈ L, x < w.heap.size) (W : World) (l : Nat) (o o' : Obj) (hl : w.heap.size ≤ l) (_ : W.heap[l]? = some o) (_ : o.isCells = false) (_ : o.isWalk = false) : KeepB L W (W.putObj l o') :=
  ⟨by simp, fun k hk _ => World.putObj_heap_other (fun e => by have := hL k hk; omega)⟩
theorem info_int : (Try.prog.info? 3).map (fun i => (i.zero, i.size, i.bytes)) = some (some (.int .i64 0), 1, 8) := by kernel_rfl
theorem ownsRow_down {W : World} {B B' : Nat} {e : TypeId} {size : Nat} {v : Value} {k : Nat} {xs : List Value} (h : W.ownsRow B e size v k xs) (hB : B' ≤ B) : W.ownsRow B' e size v k xs := by
  obtain ⟨h1, h2⟩ := h
  refine ⟨h1, ?_⟩
  rcases h2 with h2 | ⟨g, cap, cur, hv, hg, r⟩
  · exact .inl h2
  · exact .inr ⟨g, cap, cur, hv, Nat.le_trans hB hg, r⟩
theorem Boxed.appendedK {W w1 : World} {n₀ B : Nat} {t e : TypeId} {size : Nat} {v v' : Value} {k m : Nat} {xs ys : List Value} {tmp : Obj}
    (hv : Boxed W B t v) (hte : t ≠ e) (hrow : W.ownsRow n₀ e size v k xs) (hn₀ : n₀ ≤ W.heap.size)
    (hown' : w1.ownsRow n₀ e size v' m ys) (hgrow : (W.alloc tmp).grownBy w1 v.ownBlock) :
    Boxed w1 B t v ∧ Boxed (w1.setCell ⟨B, 0, none⟩ v') B t v' ∧ (w1.setCell ⟨B, 0, none⟩ v').ownsRow n₀ e size v' m ys ∧ KeepsOthers W (w1.setCell ⟨B, 0, none⟩ v') ∧
      (∀ j, j < n₀ → j ≠ B → (w1.setCell ⟨B, 0, none⟩ v').heap[j]? = W.heap[j]?) ∧ (∀ b0, b0 ≤ n₀ → b0 ≤ B → Below b0 W (w1.setCell ⟨B, 0, none⟩ v')) := by
  have hv1 : Boxed w1 B t v := (hv.alloc tmp).kept hgrow (hv.not_row hte hrow)
  have hnb : ∀ j, v.ownBlock = some j → n₀ ≤ j := by
    intro j ej
    rcases hrow.2 with ⟨rfl, _⟩ | ⟨g, cap, cur, rfl, hb, _, _⟩
    · simp [Value.ownBlock] at ej
    · obtain rfl : g = j := by simpa [Value.ownBlock] using ej
      exact hb
  have hko : KeepsOthers W (w1.setCell ⟨B, 0, none⟩ v') := by
    refine ((KeepsOthers.alloc W tmp).trans (KeepsOthers.of_grownBy hgrow fun j o ej hj => ?_)).trans (KeepsOthers.setCell _ _ _)
    rcases (hrow.alloc tmp).2 with ⟨rfl, _⟩ | ⟨g, cap, cur, rfl, _, hgb, _⟩
    · simp [Value.ownBlock] at ej
    · obtain rfl : g = j := by simpa [Value.ownBlock] using ej
      rw [hgb] at hj; cases hj; rfl
  have hsame : ∀ j, j < n₀ → j ≠ B → (w1.setCell ⟨B, 0, none⟩ v').heap[j]? = W.heap[j]? := by
    intro j hj hne
    rw [Below.heap_setCell _ _ _ _ hne, hgrow.block j (by simp; omega) (fun e => by have := hnb j e.symm; omega), Below.heap_alloc _ _ _ (by omega)]
  refine ⟨hv1, hv1.set v', hown'.kept (grownBy_setCell' w1 B v') (.inr (hv1.not_row hte hown').symm), hko, hsame, fun b0 h1 h2 => ⟨hgrow.os, hgrow.tape, hgrow.output, hko.size, fun j hj => hsame j (by omega) (by omega)⟩⟩

set_option maxRecDepth 100000 in
set_option maxHeartbeats 1000000 in
theorem phys_owned (h : PhysAt w bm bf m) (o : Int) :
    Calls Try.prog 70 #[.pointer (some ⟨bm, 0, none⟩), .int .i64 o] w fun e w' =>
      ∃ v, e = .returned v ∧ w'.ownsRow w.heap.size 3 1 v (m.ownN o m.length).length ((m.ownN o m.length).map fun (k : Nat) => .int .i64 (k : Int)) ∧ Below w.heap.size w w' := by
  have hF : ∀ k, Fence.wide.fn k := fun _ => trivial
  have hD : Fence.wide.depth.isSome = false := rfl
  have lm := h.ltm
  have lf := h.ltf
  refine (callsIn_wide (n := 5)).1 ?_
  refine callsIn_of_wp_marks Try.func70 rfl trivial ?_ rfl
  simp only [Try.ntmps70, List.size_toArray, List.length_cons, List.length_nil, Nat.reduceAdd, Nat.reduceSub, Array.replicate_succ, Array.replicate_zero, List.push_toArray, List.append_toArray, List.nil_append, List.cons_append]
  gi_wp2_with (gi_at_call 80; refine (callsIn_wide.2 (phys_of _ _ _)).mono ?_; rintro e w' ⟨rfl, rfl⟩)
  have b1 : Blk (((w.alloc (.cells #[.slice none 0 0] 66)).alloc (.cells #[.pointer (some ⟨bm, 0, none⟩)] 28)).alloc (.cells #[.int .i64 o] 3)) (w.heap.size + 1) 28 [.pointer (some ⟨bm, 0, none⟩)] := by
    have := Blk.new (w.alloc (.cells #[.slice none 0 0] 66)) 28 [.pointer (some ⟨bm, 0, none⟩)]
    rw [World.size_alloc] at this
    exact this.alloc _
  have b2 : Blk (((w.alloc (.cells #[.slice none 0 0] 66)).alloc (.cells #[.pointer (some ⟨bm, 0, none⟩)] 28)).alloc (.cells #[.int .i64 o] 3)) (w.heap.size + 1 + 1) 3 [.int .i64 o] := by
    have := Blk.new ((w.alloc (.cells #[.slice none 0 0] 66)).alloc (.cells #[.pointer (some ⟨bm, 0, none⟩)] 28)) 3 [.int .i64 o]
    rw [World.size_alloc, World.size_alloc] at this
    exact this
  have bL : Boxed (((w.alloc (.cells #[.slice none 0 0] 66)).alloc (.cells #[.pointer (some ⟨bm, 0, none⟩)] 28)).alloc (.cells #[.int .i64 o] 3)) w.heap.size 66 (.slice none 0 0) :=
    ((Boxed.new w _ _).alloc _).alloc _
  have hw0 : Below w.heap.size w (((w.alloc (.cells #[.slice none 0 0] 66)).alloc (.cells #[.pointer (some ⟨bm, 0, none⟩)] 28)).alloc (.cells #[.int .i64 o] 3)) :=
    (((Below.refl _ _).alloc (Nat.le_refl _) _).alloc (by simp) _).alloc (by simp; omega) _
  have hp0 : PhysAt (((w.alloc (.cells #[.slice none 0 0] 66)).alloc (.cells #[.pointer (some ⟨bm, 0, none⟩)] 28)).alloc (.cells #[.int .i64 o] 3)) bm bf m := ((h.alloc _).alloc _).alloc _
  have hsz : (((w.alloc (.cells #[.slice none 0 0] 66)).alloc (.cells #[.pointer (some ⟨bm, 0, none⟩)] 28)).alloc (.cells #[.int .i64 o] 3)).heap.size = w.heap.size + 3 := by simp
  generalize hW : (((w.alloc (.cells #[.slice none 0 0] 66)).alloc (.cells #[.pointer (some ⟨bm, 0, none⟩)] 28)).alloc (.cells #[.int .i64 o] 3)) = W0 at b1 b2 bL hw0 hp0 hsz ⊢
  clear hW
  have hle := h.hi
  refine wpIn_rangeFunc_ownG rfl (by omega) (gf := 106) (lb := #[.pointer (some ⟨w.heap.size + 1, 0, none⟩), .pointer (some ⟨w.heap.size + 1 + 1, 0, none⟩)]) rfl trivial (enters_of Try.func106 (by kernel_rfl) rfl)
    (of_stops _ hp0 b1 b2) keepB_t (keepB_b (by intro x hx; simp at hx; rw [hsz]; omega)) (Below.refl _ _) (fun _ => rfl)
    (fun pre W => (∃ v, Boxed W w.heap.size 66 v ∧ W.ownsRow (w.heap.size + 3) 3 1 v pre.length (pre.map fun (k : Fin m.length) => .int .i64 (k.1 : Int)) ∧ True) ∧ Below w.heap.size w W ∧ w.heap.size + 3 ≤ W.heap.size)
    (fun _ _ _ => False)
    ((Own.from (holdsRow_own (w.heap.size + 3) w.heap.size 66 3 1 (fun pre : List (Fin m.length) => pre.length) (fun pre => pre.map fun (k : Fin m.length) => .int .i64 (k.1 : Int)) (fun _ _ => True)) _).and ((ownFrom_below (Nat.le_refl _) (by omega)).and (fun s A B row hs hg hr => Nat.le_trans hs hg.size)))
    (fun _ _ _ _ _ hs _ _ => hs)
    ⟨⟨_, bL, World.ownsRow_nil _ _ _ _, trivial⟩, hw0, by omega⟩
    (fun x => { tmps := #[.pointer (some ⟨bm, 0, none⟩), .int .i64 o, undef, undef, .slice none 0 0, .pointer (some ⟨w.heap.size, 0, none⟩), .int .i64 (x.1 : Int), .pointer (some ⟨bm, 0, none⟩), .int .i64 o, .func (.func 106) #[] #[.pointer (some ⟨w.heap.size + 1, 0, none⟩), .pointer (some ⟨w.heap.size + 1 + 1, 0, none⟩)], .int .i64 (x.1 : Int), undef, undef, undef, undef, undef], defers := [] }) ?assign ?body ?done ?stop
  case assign =>
    intro l x W K hK
    gi_wp2
    exact hK
  case body =>
    rintro l pre x W ⟨⟨v, hv, hrow, _⟩, hB, hs3⟩ hlen
    obtain ⟨i0, hi, hz0, hz1, hz2⟩ := info_parts3 info_int
    have hvc := hv.cell
    gi_wp2_with (gi_at_builtin; refine wpListIn_append_own _ rfl _ _ 66 rfl (w.heap.size + 3) 3 i0 (.int .i64 0) 1 8 Try.underlying66 hi hz0 hz1 hz2 rfl (by decide) _ _ _ rfl (hrow.alloc _) ⟨W.heap.size, 0, none⟩ 1 1 [.int .i64 (x.1 : Int)] rfl rfl (cell_one_new _ _ _) (by simp [Value.oneCell']) (by unfold maxLen; omega) (by omega) (by simp; omega) ?_; intro v' w1 hown' hgrow _; obtain ⟨g', cap', rfl⟩ := ownsRow_succ hown'; obtain ⟨hv1, hv2, hr2, hk2, hs2, hb2⟩ := Boxed.appendedK hv (by decide) hrow hs3 hown' hgrow; have hc1 := hv1.cell; have hf1 := hv1.frozen)
    refine ⟨hk2.from _, ⟨hk2.size, fun k hk _ => hs2 k (by simp at hk; omega) (by simp at hk; omega)⟩, ⟨_, hv2, by simpa using hr2, trivial⟩, hB.trans (hb2 _ (by omega) (Nat.le_refl _)), Nat.le_trans hs3 hk2.size⟩
  case done =>
    rintro D ys W hD hys ⟨⟨v, hv, hrow, _⟩, hB, hs3⟩ hK
    have e1 : ys.length = (m.ownN o m.length).length := by rw [← hys]; simp
    have e2 : (ys.map fun (k : Fin m.length) => Value.int .i64 (k.1 : Int)) = (m.ownN o m.length).map fun (k : Nat) => .int .i64 (k : Int) := by rw [← hys]; simp
    rw [e1, e2] at hrow
    clear hys e1 e2
    have hvc := hv.cell
    have HR := Lib.hid (ownsRow_down (B' := w.heap.size) (ownsRow_putObj hrow (.deferred none) hK rfl) (by omega))
    have HB := Lib.hid (hB.trans (belowK_b (w := w) (Nat.le_refl _) W D _ (.deferred none) (by omega) hK rfl rfl))
    clear hrow hB
    gi_wp2
    refine ⟨by simp, .inl ⟨_, _, rfl, run_takeDeferred hK, ?_⟩⟩
    refine ⟨_, results_tmp rfl _ _ _, ?_⟩
    exact ⟨v, rfl, HR.out, HB.out⟩
  case stop =>
    rintro D c pre W hD _ hf _
    exact hf.elim
end

end Go.Proofs.Ytkicpmfhnngndaa
