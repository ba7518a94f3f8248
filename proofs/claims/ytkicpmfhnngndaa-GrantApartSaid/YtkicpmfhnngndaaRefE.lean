/- What is proved: what New of the reference's machine makes. Conditions: the number of frames is one that may be. -/
import Derived.Test.YtkicpmfhnngndaaRefD
import Derived.Test.YtkicpmfhnngndaaOwr
import Derived.Deep.AppendLies
set_option linter.unusedSimpArgs false
set_option linter.unusedVariables false
namespace Go.Proofs.Ytkicpmfhnngndaa
open Go.RowKit
attribute [local go_sem ↓] Go.wp_at_zero Go.wp_at_succ

def zeros256 : List Value := List.replicate 256 (.int .u8 0)
theorem zeros256_eq : zeros256 = Fr.zero.b.map byteV := by unfold zeros256 Fr.zero; rw [List.map_replicate]; rfl
/-- What New has made: kf frames, kb rows. -/
def RNewI (w : World) (kf kb : Nat) (vF vB : Value) (pgs : List Nat) (wr : World) : Prop :=
  Blk wr w.heap.size 166 [vF, vB] ∧ wr.ownsRow (w.heap.size + 1) 46 4 vF kf (heads (List.replicate kf Fr.zero)) ∧ wr.ownsRow (w.heap.size + 1) 42 1 vB kb (pgs.map pageV) ∧
    pgs.length = kb ∧ pgs.Nodup ∧ (∀ g ∈ pgs, Blk wr g 5 zeros256 ∧ w.heap.size < g) ∧ Keep [] w wr
/-- The reference's machine was made. -/
def RNewOk (w : World) (n : Nat) (e : Ending) (w' : World) : Prop :=
  ∃ rm rf rb pgs, e = .returned (.tuple #[.pointer (some ⟨rm, 0, none⟩), .int .i64 0]) ∧ RefAt w' rm rf rb pgs (List.replicate n Fr.zero) ∧ Keep [] w w' ∧ w.heap.size ≤ rf ∧ ∀ g ∈ pgs, w.heap.size ≤ g
theorem info_apiframe : (Try.prog.info? 46).map (fun i => (i.zero, i.size, i.bytes)) = some (some (.agg #[.int .i64 0, .int .i64 0, .int .i64 0, .int .i64 0]), 4, 32) := by kernel_rfl
theorem info_sl8 : (Try.prog.info? 42).map (fun i => (i.zero, i.size, i.bytes)) = some (some (.slice none 0 0), 1, 24) := by kernel_rfl

theorem RNewI.done {w wr : World} {n : Nat} {vF vB : Value} {pgs : List Nat} (h1 : 1 ≤ n) (h2 : n ≤ 256) (h : RNewI w n n vF vB pgs wr) : RNewOk w n (.returned (.tuple #[.pointer (some ⟨w.heap.size, 0, none⟩), .int .i64 0])) wr := by
  obtain ⟨hb, ho1, ho2, hl, hnd, hpg, hk⟩ := h
  obtain ⟨gF, cF, curF, rfl, hF1, hF2⟩ := own_pos (by omega) ho1
  obtain ⟨gB, cB, curB, rfl, hB1, hB2⟩ := own_pos (by omega) ho2
  refine ⟨w.heap.size, gF, gB, pgs, rfl, ⟨⟨cF, cB, curF, curB, ?_, hF2, hB2⟩, by simpa using hl, hnd, ?_, ?_, by simpa using h1, by simpa using h2⟩, hk, by omega, fun g hg => Nat.le_of_lt (hpg g hg).2⟩
  · simpa using hb
  · intro k f g hf hg
    rw [List.getElem?_replicate] at hf
    split at hf
    · cases hf
      rw [← zeros256_eq]
      exact (hpg g (List.mem_of_getElem? hg)).1
    · cases hf
  · intro f hf
    rw [List.eq_of_mem_replicate hf]
    exact List.length_replicate

theorem heads_snoc (n : Nat) (f : Fr) : heads (List.replicate n f) ++ f.hcells = heads (List.replicate (n + 1) f) := by
  rw [List.replicate_succ', heads_append]; congr 1
theorem RNewI.stepF {w wr w1 : World} {kf kb : Nat} {vF vB v' : Value} {pgs : List Nat} {o : Obj} (h : RNewI w kf kb vF vB pgs wr) (hown : w1.ownsRow (w.heap.size + 1) 46 4 v' (kf + 1) (heads (List.replicate kf Fr.zero) ++ Fr.zero.hcells)) (hg : (wr.alloc o).grownBy w1 vF.ownBlock) :
    RNewI w (kf + 1) kb v' vB pgs (w1.setCell ⟨w.heap.size, 0, none⟩ v') := by
  obtain ⟨hb, ho1, ho2, hl, hnd, hpg, hk⟩ := h
  have hk1 := keep_grow' hk (by omega) ho1 ((Keep.refl _ _).alloc o) hg
  have hne : vF.ownBlock ≠ some w.heap.size := by
    intro he
    have := (ho1.lt _ he).1
    omega
  refine ⟨?_, ?_, ?_, hl, hnd, ?_, hk1.setCell (.inr (by simp)) _⟩
  · exact ((hb.alloc o).grown hg hne).set_ 0 v'
  · rw [← heads_snoc]
    exact ownsRow_setCell_below hown (by simp) _
  · exact ownsRow_setCell_below ((ho2.alloc o).kept hg (own_own_ne ho2 ho1 (by decide))) (by simp) _
  · intro g hgm
    obtain ⟨h1, h2⟩ := hpg g hgm
    exact ⟨((h1.alloc o).grown hg (own_blk_ne ho1 h1 (by decide))).far (p := ⟨w.heap.size, 0, none⟩) (by simp; omega) _, h2⟩
theorem RNewI.stepB {w wr w1 : World} {kf kb : Nat} {vF vB v' : Value} {pgs : List Nat} {o : Obj} (h : RNewI w kf kb vF vB pgs wr) (hown : w1.ownsRow (w.heap.size + 1) 42 1 v' (kb + 1) (pgs.map pageV ++ [pageV wr.heap.size])) (hg : (((wr.alloc (.cells zeros256.toArray 5)).alloc o)).drew.grownBy w1 vB.ownBlock) :
    RNewI w kf (kb + 1) vF v' (pgs ++ [wr.heap.size]) (w1.setCell ⟨w.heap.size, 1, none⟩ v') := by
  obtain ⟨hb, ho1, ho2, hl, hnd, hpg, hk⟩ := h
  have hk0 : Keep [] wr (((wr.alloc (.cells zeros256.toArray 5)).alloc o)).drew := (((Keep.refl _ _).alloc _).alloc o).drew
  have hk1 := keep_grow' hk (by omega) ho2 hk0 hg
  have hne : vB.ownBlock ≠ some w.heap.size := by
    intro he
    have := (ho2.lt _ he).1
    omega
  have hlt : ∀ g ∈ pgs, g < wr.heap.size := fun g hgm => (hpg g hgm).1.lt
  refine ⟨?_, ?_, ?_, by simp [hl], ?_, ?_, hk1.setCell (.inr (by simp)) _⟩
  · exact ((hb.keep hk0 (by simp)).grown hg hne).set_ 1 v'
  · exact ownsRow_setCell_below ((own_keep ho1 hk0 (by simp)).kept hg (own_own_ne ho1 ho2 (by decide))) (by simp) _
  · rw [List.map_append]
    exact ownsRow_setCell_below hown (by simp) _
  · rw [List.nodup_append]
    refine ⟨hnd, by simp, ?_⟩
    intro a ha c hc e
    simp at hc
    have := hlt a ha
    omega
  · intro g hgm
    rcases List.mem_append.1 hgm with hgm | hgm
    · obtain ⟨h1, h2⟩ := hpg g hgm
      exact ⟨((h1.keep hk0 (by simp)).grown hg (own_blk_ne ho2 h1 (by decide))).far (p := ⟨w.heap.size, 1, none⟩) (by simp; omega) _, h2⟩
    · simp at hgm
      subst hgm
      have hn : Blk (((wr.alloc (.cells zeros256.toArray 5)).alloc o)).drew wr.heap.size 5 zeros256 := (Blk.new wr 5 zeros256).alloc o
      have hsz := hb.lt
      refine ⟨(hn.grown hg ?_).far (p := ⟨w.heap.size, 1, none⟩) (by simp; omega) _, hsz⟩
      intro he
      have := (ho2.lt _ he).2
      omega

set_option maxRecDepth 100000 in
set_option maxHeartbeats 4000000 in
theorem ref_new {n : Nat} (h1 : 1 ≤ n) (h2 : n ≤ 256) (w : World) :
    Calls Try.prog 31 #[.int .i64 (n : Int)] w fun e w' => RNewOk w n e w' := by
  obtain ⟨iF, hiF, hzF, hsF, hbF⟩ := info_parts3 info_apiframe
  obtain ⟨iS, hiS, hzS, hsS, hbS⟩ := info_parts3 info_sl8
  have hmk : ∀ W : World, (Instr.makeSlice 42 (.int .i64 256) (.int .i64 256)).run Try.prog W = .ok (.slice (some ⟨W.heap.size, 0, none⟩) 256 256) (W.alloc (.cells zeros256.toArray 5)) := run_make_u8 256 (by omega)
  have a1 : ¬ (n : Int) < 1 := by omega
  have a2 : ¬ 256 < (n : Int) := by omega
  go_enter Try.func31, Try.ntmps31
  go_wp2
  go_loopw [5] (fun i wr => ∃ k : Nat, k ≤ n ∧ i = .int .i64 (k : Int) ∧ ∃ vF vB pgs, RNewI w k k vF vB pgs wr) (fun i _ => n - (intOf i).toNat)
  case atStart =>
    refine ⟨0, Nat.zero_le _, rfl, .slice none 0 0, .slice none 0 0, [], by simpa using Blk.new w 166 [.slice none 0 0, .slice none 0 0], World.ownsRow_nil _ _ _ _, World.ownsRow_nil _ _ _ _, rfl, List.nodup_nil, by simp, (by repeat (first | with_reducible exact Keep.refl _ _ | with_reducible assumption | with_reducible apply Keep.alloc | with_reducible apply Keep.drewN | with_reducible apply Keep.drew | (with_reducible refine Keep.setCell ?_ ?_ _) | focus (left; simp; done) | focus (right; simp; done) | focus (right; simp; omega)))⟩
  case round =>
    obtain ⟨k, hk, rfl, vF, vB, pgs, HH⟩ := hrel
    by_cases hlt : k < n
    · obtain ⟨hb, ho1, ho2, -, -, -, -⟩ := id HH
      have hc0 := hb.cell 0
      have hf0 := hb.frozen
      simp only [List.getElem?_cons_zero] at hc0
      have hsz := hb.lt
      have hne : vF.ownBlock ≠ some w.heap.size := by
        intro he
        have := (ho1.lt _ he).1
        omega
      go_wp2_with (at_builtin; refine wpList_append_own _ rfl (.tmp 23) (.tmp 25) 163 rfl (w.heap.size + 1) 46 iF _ 4 32 Try.underlying163 hiF hzF hsF hbF rfl (by decide) vF k _ rfl (ho1.alloc _) ⟨wr.heap.size, 0, none⟩ 1 1 Fr.zero.hcells rfl rfl (World.news_of_block (cs := Fr.zero.hcells.toArray) (t := 46) (fr := (0, 0)) (heap_alloc_new wr _)) (by simp [Value.oneCell', Fr.hcells]) (by unfold maxLen; omega) (by omega) (by simp; omega) ?_; intro v' w1 hown' hgrow _; obtain ⟨g', cap', rfl⟩ := ownsRow_succ hown'; have HM := Lib.hid (HH.stepF hown' hgrow); have hb1 := (hb.alloc _).grown hgrow hne; have hd0 := hb1.cell 0; have hd1 := hb1.frozen; simp only [List.getElem?_cons_zero] at hd0; clear hown' hgrow hb1 hc0 hf0 ho1 ho2 hb HH hne)
      generalize w1.setCell ⟨w.heap.size, 0, none⟩ (Value.slice (some ⟨g', 0, none⟩) (k + 1) cap') = w2 at HM ⊢
      clear hd0 hd1 hsz
      obtain ⟨hb, ho1, ho2, hl, -, -, -⟩ := id HM.out
      have hc1 := hb.cell 1
      have hf1 := hb.frozen
      simp only [List.getElem?_cons_zero, List.getElem?_cons_succ] at hc1
      have hsz := hb.lt
      have hne : vB.ownBlock ≠ some w.heap.size := by
        intro he
        have := (ho2.lt _ he).1
        omega
      have HB := Lib.hid hb
      clear hb
      have HL := Lib.hid hl
      clear hl
      have hnew : (((w2.alloc (.cells zeros256.toArray 5)).alloc (.cells #[.slice (some ⟨w2.heap.size, 0, none⟩) 256 256] 42)).drew).heap[w2.heap.size + 1]? = some (.cells #[.slice (some ⟨w2.heap.size, 0, none⟩) 256 256] 42 (0, 0)) := by
        have := heap_alloc_new (w2.alloc (.cells zeros256.toArray 5)) (.cells #[.slice (some ⟨w2.heap.size, 0, none⟩) 256 256] 42)
        rw [World.size_alloc] at this
        exact this
      have hone : ∀ u ∈ [Value.slice (some ⟨w2.heap.size, 0, none⟩) 256 256], u.oneCell' = true := by simp [Value.oneCell']
      have hmax : k + 1 ≤ maxLen := by unfold maxLen; omega
      have hbyt : (k + 1) * 24 ≤ 140737488355328 := by omega
      have hbase : w.heap.size + 1 ≤ (((w2.alloc (.cells zeros256.toArray 5)).alloc (.cells #[.slice (some ⟨w2.heap.size, 0, none⟩) 256 256] 42)).drew).heap.size := by simp; omega
      have hnews := World.news_of_block (cs := #[.slice (some ⟨w2.heap.size, 0, none⟩) 256 256]) (t := 42) (fr := (0, 0)) hnew
      have hown2 := ((ho2.alloc (.cells zeros256.toArray 5)).alloc (.cells #[.slice (some ⟨w2.heap.size, 0, none⟩) 256 256] 42)).drew
      have HP := Lib.hid (And.intro hnews (And.intro hown2 hbase))
      clear hnew hnews hown2 hbase ho2
      have T3 : ∀ (ops : Array Oper) (o : Oper) (a : Act) (K : Act → World → Prop) (Q : Exit → Act → World → Prop) (E : Prop), o.guard = none → o.op = .call { callee := .builtin .append, args := #[.tmp 33, .tmp 35], argTypes := #[164, 164] } → a.eval (.tmp 33) = vB → a.eval (.tmp 35) = .slice (some ⟨w2.heap.size + 1, 0, none⟩) 1 1 →
          (∀ g2 cap2 w3, Hid (RNewI w (k + 1) (k + 1) (.slice (some ⟨g', 0, none⟩) (k + 1) cap') (.slice (some ⟨g2, 0, none⟩) (k + 1) cap2) (pgs ++ [w2.heap.size]) (w3.setCell ⟨w.heap.size, 1, none⟩ (.slice (some ⟨g2, 0, none⟩) (k + 1) cap2))) → w3.cell? ⟨w.heap.size, 1, none⟩ = some vB → (∀ i, w3.frozen? ⟨w.heap.size, i, none⟩ = false) → K (a.put o.dst (.slice (some ⟨g2, 0, none⟩) (k + 1) cap2)) w3) →
          if Region.wanted o (yielded ops a.tmps) = true then Oper.wp Try.prog o a (((w2.alloc (.cells zeros256.toArray 5)).alloc (.cells #[.slice (some ⟨w2.heap.size, 0, none⟩) 256 256] 42)).drew) K Q else E := by
        intro ops o a K Q E h0 ho hs hx h
        refine step_append_lies _ h0 (.tmp 33) (.tmp 35) _ ho (w.heap.size + 1) 42 iS _ 1 24 Try.underlying164 hiS hzS hsS hbS rfl Nat.one_pos vB k _ hs HP.out.2.1 ⟨w2.heap.size + 1, 0, none⟩ 1 1 [.slice (some ⟨w2.heap.size, 0, none⟩) 256 256] hx rfl HP.out.1 hone Nat.one_pos hmax hbyt HP.out.2.2 _ rfl ?_
        intro g2 cap2 w3 hown' hgrow hat hlt2
        have hb1 := (HB.out.keep (S := []) (((Keep.refl _ _).alloc _).alloc _).drew (by simp)).grown hgrow hne
        exact h g2 cap2 w3 (HM.out.stepB hown' hgrow) (hb1.cell 1) hb1.frozen
      have T3 := Lib.hid T3
      go_region_law ((refine T3.out _ _ _ _ _ _ rfl rfl rfl rfl ?_; intro g2 cap2 w3 HN hd1 hd2))
      all_goals
        go_wp2
        go_roundw
        case rel => exact ⟨k + 1, by omega, by go_num, _, _, _, HN.out⟩
        case measure => simp [intOf]; omega
    · obtain rfl : k = n := by omega
      have HX := Lib.hid (RNewI.done h1 h2 HH)
      clear HH
      go_wp2
      exact bodyPost_ret (v := .tuple #[.pointer (some ⟨w.heap.size, 0, none⟩), .int .i64 0]) (by simp [results, Try.results31, go_sem]) rfl HX.out

end Go.Proofs.Ytkicpmfhnngndaa
