/- What is proved: what Alloc, Left, New, Copy of phys compute. Conditions: the machine lies in memory as PhysAt says. -/
import Derived.Test.YtkicpmfhnngndaaAlloc
set_option linter.unusedSimpArgs false
set_option linter.unusedVariables false
namespace Go.Proofs.Ytkicpmfhnngndaa
open Go.RowKit

section
variable {w : World} {bm bf : Nat} {m : Mach}

theorem phys_alloc (h : PhysAt w bm bf m) (owner : Int) :
    Calls Try.prog 36 #[.pointer (some ⟨bm, 0, none⟩), .int .i64 owner] w fun e w' =>
      e = .returned (.tuple #[.int .i64 (m.alloc owner).1, .int .i64 (m.alloc owner).2.1]) ∧ PhysAt w' bm bf (m.alloc owner).2.2 ∧ Keep [bf] w w' := by
  have fin : ∀ (e : Ending) (w' : World), (isDom owner = true ∨ owner = -2) → ((m.free = none ∧ e = .returned (.tuple #[.int .i64 0, .int .i64 10]) ∧ PhysAt w' bm bf m ∧ Keep [bf] w w') ∨
      (∃ (k : Nat) (f : Fr), m.free = some k ∧ m[k]? = some f ∧ e = .returned (.tuple #[.int .i64 (k : Int), .int .i64 0]) ∧ PhysAt w' bm bf (m.set k { f with o := owner }) ∧ Keep [bf] w w')) →
      e = .returned (.tuple #[.int .i64 (m.alloc owner).1, .int .i64 (m.alloc owner).2.1]) ∧ PhysAt w' bm bf (m.alloc owner).2.2 ∧ Keep [bf] w w' := by
    intro e w' hok hr
    have hc : ¬ ((!isDom owner && owner != -2) = true) := by
      rcases hok with h1 | h1
      · simp [h1]
      · simp [h1]
    rcases hr with ⟨h1, rfl, h3, h4⟩ | ⟨k, f, h1, h2, rfl, h3, h4⟩
    · have e1 : m.alloc owner = (0, 10, m) := by unfold Mach.alloc; rw [if_neg hc, h1]
      rw [e1]; exact ⟨rfl, h3, h4⟩
    · have e1 : m.alloc owner = ((k : Int), 0, m.set k { f with o := owner }) := by
        unfold Mach.alloc; rw [if_neg hc, h1]
        simp only [Prod.mk.injEq, true_and]
        apply List.ext_getElem?
        intro j
        rw [List.getElem?_modify, List.getElem?_set]
        by_cases hj : k = j
        · subst hj
          obtain ⟨hlt, hv⟩ := List.getElem?_eq_some_iff.1 h2
          rw [h2, if_pos rfl, if_pos hlt]
          simp
        · simp [hj]
      rw [e1]; exact ⟨rfl, h3, h4⟩
  by_cases hd : isDom owner = true
  · exact (phys_alloc_dom h hd).mono fun e w' hr => fin e w' (.inl hd) hr
  · by_cases h2 : owner = -2
    · subst h2
      exact (phys_alloc_hyper h).mono fun e w' hr => fin e w' (.inr rfl) hr
    · have e1 : m.alloc owner = (0, 1, m) := by
        unfold Mach.alloc
        rw [if_pos (by simp [h2]; simpa using hd)]
      rw [e1]
      refine (phys_alloc_bad h (by simpa using hd) h2).mono ?_
      rintro e w' ⟨rfl, hk⟩
      exact ⟨rfl, h.keep hk (by simp) (by simp), hk.mono (by simp)⟩

def Fr.zero0 : Fr := ⟨0, 0, 0, 0, List.replicate 256 0⟩
theorem info_frame : (Try.prog.info? 113).map (fun i => (i.zero, i.size, i.bytes)) = some (some (.agg Fr.zero0.cells.toArray), 260, 288) := by kernel_rfl
theorem flat_replicate (f : Fr) (hf : f.b.length = 256) (n : Nat) : (flat (List.replicate n f)).toArray = madeCells f.cells.toArray (n * 260) := by
  have hp : Pages (List.replicate n f) := fun g hg => by rw [List.eq_of_mem_replicate hg]; exact hf
  have hl := Fr.cells_length hf
  apply Array.ext
  · simp [flat_length hp, size_madeCells]
  · intro i h1 h2
    have hi : i < n * 260 := by simpa [size_madeCells] using h2
    have h3 := flat_get hp (k := i / 260) (f := f) (by rw [List.getElem?_replicate, if_pos (by omega)]) (j := i % 260) (by omega)
    rw [show i / 260 * 260 + i % 260 = i by omega] at h3
    have h4 : (flat (List.replicate n f))[i]? = some ((flat (List.replicate n f)).toArray[i]) := by
      rw [List.getElem?_eq_getElem (by simpa using h1)]; simp
    rw [h4] at h3
    have h5 : (madeCells f.cells.toArray (n * 260))[i] = f.cells[i % 260]'(by omega) := by
      simp only [madeCells, Array.getElem_map, Array.getElem_range]
      have : f.cells.toArray.size = 260 := by simpa using hl
      rw [this]
      simp [hl]
      rw [List.getElem?_eq_getElem (by omega)]
      rfl
    rw [h5]
    rw [List.getElem?_eq_getElem (by omega)] at h3
    exact Option.some.inj h3
theorem replicate_step {α : Type} (a b : α) (n k : Nat) (hk : k < n) : (List.replicate k a ++ List.replicate (n - k) b).set k a = List.replicate (k + 1) a ++ List.replicate (n - (k + 1)) b := by
  obtain ⟨d, rfl⟩ : ∃ d, n = k + 1 + d := ⟨n - (k + 1), by omega⟩
  rw [show k + 1 + d - k = d + 1 by omega, show k + 1 + d - (k + 1) = d by omega]
  rw [List.set_append_right _ _ (by simp), List.replicate_succ]
  simp [List.replicate_succ']

set_option maxRecDepth 100000 in
theorem phys_new {n : Nat} (h1 : 1 ≤ n) (h2 : n ≤ 256) (w : World) :
    Calls Try.prog 30 #[.int .i64 (n : Int)] w fun e w' =>
      ∃ bm bf, e = .returned (.tuple #[.pointer (some ⟨bm, 0, none⟩), .int .i64 0]) ∧ PhysAt w' bm bf (List.replicate n Fr.zero) ∧ Keep [] w w' ∧ w.heap.size ≤ bm ∧ w.heap.size ≤ bf := by
  obtain ⟨i, hi, hz, hs, hb⟩ := info_parts3 info_frame
  have hmk : ∀ W : World, (Instr.makeSlice 94 (.int .i64 (n : Int)) (.int .i64 (n : Int))).run Try.prog W = .ok (.slice (some ⟨W.heap.size, 0, none⟩) n n) (W.alloc (.cells (flat (List.replicate n Fr.zero0)).toArray 113)) := by
    intro W
    have hr := run_make (P := Try.prog) W 94 113 i _ Try.underlying94 hi hz .i64 .i64 n n (by omega) (by omega) (by rw [hb]; omega) (by omega)
    simp only [Int.toNat_natCast] at hr
    rw [hr, hs, flat_replicate Fr.zero0 (by simp [Fr.zero0])]
    rfl
  clear hi hz hs hb
  go_enter Try.func30, Try.ntmps30
  go_wp2
  have hz0 : Fr.zero0.b.length = 256 := by simp [Fr.zero0]
  have hz1 : Fr.zero.b.length = 256 := by simp [Fr.zero]
  have hp0 : PhysAt ((w.alloc (.cells (flat (List.replicate n Fr.zero0)).toArray 113)).alloc (.cells #[.bool true, .slice (some ⟨w.heap.size, 0, none⟩) n n] 96)) (w.heap.size + 1) w.heap.size (List.replicate 0 Fr.zero ++ List.replicate (n - 0) Fr.zero0) := by
    refine ⟨⟨n, [], ?_, ?_⟩, ?_, by simp; omega, by simp; omega⟩
    · have := Blk.new (w.alloc (.cells (flat (List.replicate n Fr.zero0)).toArray 113)) 96 [.bool true, .slice (some ⟨w.heap.size, 0, none⟩) n n]
      rw [World.size_alloc] at this
      simpa using this
    · simpa using (Blk.new w 113 (flat (List.replicate n Fr.zero0))).alloc _
    · intro f hf
      simp at hf
      rw [hf.2]; exact hz0
  have hk0 : Keep [] w ((w.alloc (.cells (flat (List.replicate n Fr.zero0)).toArray 113)).alloc (.cells #[.bool true, .slice (some ⟨w.heap.size, 0, none⟩) n n] 96)) := (by repeat (first | with_reducible exact Keep.refl _ _ | with_reducible assumption | with_reducible apply Keep.alloc | with_reducible apply Keep.drewN | with_reducible apply Keep.drew | (with_reducible refine Keep.setCell ?_ ?_ _) | focus (left; simp; done) | focus (right; simp; done) | focus (right; simp; omega)))
  have HP := Lib.hid (And.intro hp0 hk0)
  clear hp0 hk0 hmk
  go_loopw [21] (fun c wr => ∃ k : Nat, k ≤ n ∧ c = .int .i64 k ∧ Hid (PhysAt wr (w.heap.size + 1) w.heap.size (List.replicate k Fr.zero ++ List.replicate (n - k) Fr.zero0) ∧ Keep [] w wr)) (fun c _ => n - (intOf c).toNat)
  case atStart => exact ⟨0, Nat.zero_le _, rfl, HP.out⟩
  case round =>
    obtain ⟨k, hk, rfl, HH⟩ := hrel
    obtain ⟨hp, hkp⟩ := HH.out
    have hlen : (List.replicate k Fr.zero ++ List.replicate (n - k) Fr.zero0).length = n := by simp; omega
    obtain ⟨c, hh0, hh1⟩ := hp.heads
    rw [hlen] at hh1
    by_cases hlt : k < n
    · have hfk : (List.replicate k Fr.zero ++ List.replicate (n - k) Fr.zero0)[k]? = some Fr.zero0 := by
        rw [List.getElem?_append_right (by simp), List.getElem?_replicate, if_pos (by simp; omega)]
      have hc0 := hp.c0 hfk
      have hfz := hp.frozen
      have hs : Hid (PhysAt (wr.setCell ⟨w.heap.size, k * 260, none⟩ (.int .i64 (-1))) (w.heap.size + 1) w.heap.size (List.replicate (k + 1) Fr.zero ++ List.replicate (n - (k + 1)) Fr.zero0)) := by
        have h5 := hp.setO hfk (-1)
        rw [show ({ Fr.zero0 with o := -1 } : Fr) = Fr.zero from rfl, replicate_step _ _ _ _ hlt] at h5
        exact h5
      have HK := Lib.hid hkp
      clear hp hkp hfk hlen HH HP
      go_wp2
      go_roundw
      case rel => exact ⟨k + 1, by omega, by go_num, hs.out, HK.out.setCell (.inr (by dsimp only; omega)) _⟩
      case measure => simp [intOf]; omega
    · obtain rfl : k = n := by omega
      have HX := Lib.hid (And.intro hp hkp)
      clear hp hkp hlen HH HP
      go_wp2
      go_ret2
      refine ⟨w.heap.size + 1, w.heap.size, rfl, ?_, HX.out.2, by omega, by omega⟩
      have := HX.out.1
      rwa [Nat.sub_self, List.replicate_zero, List.append_nil] at this

theorem own_pos {W : World} {base : Nat} {e : TypeId} {size : Nat} {v : Value} {n : Nat} {xs : List Value} (hn : 0 < n) (h : W.ownsRow base e size v n xs) :
    ∃ g cap cur, v = .slice (some ⟨g, 0, none⟩) n cap ∧ base ≤ g ∧ Blk W g e (xs ++ cur) := by
  obtain ⟨h1, h2 | ⟨g, cap, cur, hv, hb, hg, h3, h4, h5, h6⟩⟩ := h
  · omega
  · refine ⟨g, cap, cur.toList.drop (n * size), hv, hb, ?_⟩
    unfold Blk
    rw [hg, ← h6, List.take_append_drop]
theorem keep_grownNone {w w' : World} (h : w.grownBy w' none) : Keep [] w w' := ⟨h.os, h.tape, h.output, h.size, fun k hk _ => h.block k hk (by simp)⟩
theorem flat_one (m : Mach) : ∀ v ∈ flat m, v.oneCell' = true := by
  intro v hv
  obtain ⟨f, _, hf⟩ := List.mem_flatMap.1 hv
  exact Fr.cells_one f v hf

set_option maxRecDepth 100000 in
theorem phys_copy (h : PhysAt w bm bf m) :
    Calls Try.prog 7 #[.pointer (some ⟨bm, 0, none⟩)] w fun e w' =>
      ∃ bm' bf', e = .returned (.pointer (some ⟨bm', 0, none⟩)) ∧ PhysAt w' bm' bf' m ∧ Keep [] w w' ∧ w.heap.size ≤ bm' ∧ w.heap.size ≤ bf' := by
  obtain ⟨i, hi, hz, hs, hb⟩ := info_parts3 info_frame
  have hp := h.pg
  have hlo := h.lo
  have hhi := h.hi
  have hl := flat_length hp
  obtain ⟨c, hh0, hh1⟩ := h.heads
  have HC : Hid (∀ j v, (flat m)[j]? = some v → w.cell? ((⟨bf, 0, none⟩ : Addr).add j) = some v) := by
    show ∀ _ _, _ → _
    intro j v hj
    have hjl := (List.getElem?_eq_some_iff.1 hj).1
    have h3 := h.at_ (k := j / 260) (f := m[j / 260]'(by omega)) (List.getElem?_eq_getElem (by omega)) (j := j % 260) (by omega)
    rw [← flat_get hp (List.getElem?_eq_getElem (by omega)) (by omega), show j / 260 * 260 + j % 260 = j by omega, hj] at h3
    unfold Addr.add
    split
    · subst j; exact h3
    · simpa using h3
  go_enter Try.func7, Try.ntmps7
  go_wp2_with (first | (go_at_call 42; refine (phys_none h).mono ?_; rintro e w' ⟨rfl, rfl⟩) | (at_builtin; refine wpList_append_own _ rfl (.const (.slice none 0 0)) (.tmp 8) 94 rfl w.heap.size 113 i _ 260 288 Try.underlying94 hi hz hs hb (by kernel_rfl) (by omega) (.slice none 0 0) 0 [] rfl (World.ownsRow_nil _ _ _ _) ⟨bf, 0, none⟩ m.length c (flat m) rfl hl HC.out (flat_one m) (by unfold maxLen; omega) (by omega) (Nat.le_refl _) ?_; intro v' w1 hown hgrow hnil; obtain ⟨g', cap', cur', rfl, hg', hgb⟩ := own_pos (by omega) hown; have hgb := Lib.hid hgb; have hgrow' := Lib.hid hgrow; clear hgrow hown hnil))
  go_ret
  have hk : Keep [] w w1 := keep_grownNone hgrow'.out
  have hgb' := hgb.out
  rw [List.nil_append] at hgb'
  refine ⟨w1.heap.size, g', rfl, ⟨⟨cap', cur', ?_, hgb'.alloc _⟩, hp, hlo, hhi⟩, hk.alloc _, hk.size, hg'⟩
  have := Blk.new w1 96 [.bool true, .slice (some ⟨g', 0, none⟩) m.length cap']
  simpa using this
end

end Go.Proofs.Ytkicpmfhnngndaa
