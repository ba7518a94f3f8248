/- What is proved: what New, Find, Set of the reference's places compute. Conditions: the map lies in memory as R3At says. -/
import Derived.Test.YtkicpmfhnngndaaP2n
import Derived.Test.YtkicpmfhnngndaaOwr
set_option linter.unusedSimpArgs false
set_option linter.unusedVariables false
namespace Go.Proofs.Ytkicpmfhnngndaa
open Go.RowKit

/-- The reference's places: the head in block b, the row in block bl. -/
structure R3At (w : World) (b bl : Nat) (l : List Int) : Prop where
  ex : ∃ c r, Blk w b 176 [.slice (some ⟨bl, 0, none⟩) l.length c] ∧ Blk w bl 3 (l.map intV ++ r)
  lo : 1 ≤ l.length
  hi : l.length ≤ 48
/-- The places were made. -/
def R3NewOk (w : World) (n : Nat) (e : Ending) (w' : World) : Prop :=
  ∃ b bl, e = .returned (.tuple #[.pointer (some ⟨b, 0, none⟩), .int .i64 0]) ∧ R3At w' b bl (List.replicate n (-1)) ∧ Keep [] w w' ∧ w.heap.size ≤ b ∧ w.heap.size ≤ bl

section
variable {w w' : World} {b bl : Nat} {l : List Int} {S : List Nat}
theorem R3At.keep (h : R3At w b bl l) (k : Keep S w w') (h0 : b ∉ S) (h1 : bl ∉ S) : R3At w' b bl l := by
  obtain ⟨⟨c, r, a, d⟩, lo, hi⟩ := h
  exact ⟨⟨c, r, a.keep k h0, d.keep k h1⟩, lo, hi⟩
theorem R3At.keep0 (h : R3At w b bl l) (k : Keep [] w w') : R3At w' b bl l := h.keep k (by simp) (by simp)
theorem R3At.ne (h : R3At w b bl l) : b ≠ bl := by
  obtain ⟨⟨c, r, a, d⟩, lo, hi⟩ := h
  exact a.ne_ d (by decide)
theorem R3At.lt0 (h : R3At w b bl l) : b < w.heap.size := by obtain ⟨⟨c, r, a, d⟩, lo, hi⟩ := h; exact a.lt
theorem R3At.lt1 (h : R3At w b bl l) : bl < w.heap.size := by obtain ⟨⟨c, r, a, d⟩, lo, hi⟩ := h; exact d.lt
theorem R3At.c0 (h : R3At w b bl l) : ∃ c : Nat, w.cell? ⟨b, 0, none⟩ = some (.slice (some ⟨bl, 0, none⟩) l.length c) := by
  obtain ⟨⟨c, r, a, d⟩, lo, hi⟩ := h
  exact ⟨c, a.cell 0⟩
theorem R3At.at_ (h : R3At w b bl l) {k : Nat} {x : Int} (hx : l[k]? = some x) : w.cell? ⟨bl, k, none⟩ = some (.int .i64 x) := by
  obtain ⟨⟨c, r, a, d⟩, lo, hi⟩ := h
  have := (List.getElem?_eq_some_iff.1 hx).1
  rw [d.cell, List.getElem?_append_left (by simpa using this), List.getElem?_map, hx]; rfl
theorem R3At.frozen (h : R3At w b bl l) : ∀ j, w.frozen? ⟨bl, j, none⟩ = false := by
  obtain ⟨⟨c, r, a, d⟩, lo, hi⟩ := h
  exact d.frozen
theorem R3At.set_ (h : R3At w b bl l) {k : Nat} (hk : k < l.length) (x : Int) : R3At (w.setCell ⟨bl, k, none⟩ (.int .i64 x)) b bl (l.set k x) := by
  have hne := h.ne
  obtain ⟨⟨c, r, a, d⟩, lo, hi⟩ := h
  refine ⟨⟨c, r, by simpa using a.far (p := ⟨bl, k, none⟩) hne (.int .i64 x), ?_⟩, by simpa using lo, by simpa using hi⟩
  have := d.set_ k (.int .i64 x)
  rwa [List.set_append_left _ _ (by simpa using hk), show (Value.int .i64 x) = intV x from rfl, ← List.map_set] at this

set_option maxRecDepth 100000 in
theorem ref3_find_none (h : R3At w b bl l) {m : Int} (hm : ¬ pIn l m) :
    Calls Try.prog 84 #[.pointer (some ⟨b, 0, none⟩), .int .i64 m] w fun e w' => e = .returned (.tuple #[.int .i64 0, .int .i64 6]) ∧ w = w' := by
  obtain ⟨c, hc0⟩ := h.c0
  have hi := h.hi
  have HM := Lib.hid hm
  clear hm
  go_enter Try.func84, Try.ntmps84
  go_wp2
  go_loop [6] (fun i => ∃ k : Nat, k ≤ l.length ∧ i = .int .i64 (k : Int)) (fun i => l.length - (intOf i).toNat)
  case atStart => exact ⟨0, Nat.zero_le _, rfl⟩
  case round =>
    obtain ⟨k, hk, rfl⟩ := hrel
    by_cases hlt : k < l.length
    · have hx : l[k]? = some l[k] := List.getElem?_eq_getElem hlt
      have hcx := h.at_ hx
      have hmem := List.mem_of_getElem? hx
      generalize l[k] = x at hx hcx hmem
      have k0 : (0 : Int) ≤ (k : Int) := by omega
      have k1 : (k : Int) < (l.length : Int) := by omega
      clear hx
      by_cases h0 : 0 ≤ x
      · have hne : ¬ x = m := by rintro rfl; exact HM.out ⟨h0, hmem⟩
        have hne' := beq_no hne
        clear hne hmem
        go_wp2
        go_round
        case rel => exact ⟨k + 1, by omega, by go_num⟩
        case measure => simp [intOf]; omega
      · have h0' : x < 0 := by omega
        clear h0 hmem
        go_wp2
        go_round
        case rel => exact ⟨k + 1, by omega, by go_num⟩
        case measure => simp [intOf]; omega
    · obtain rfl : k = l.length := by omega
      go_wp2
      go_ret2
      exact ⟨rfl, rfl⟩

set_option maxRecDepth 100000 in
theorem ref3_set (h : R3At w b bl l) {g : Nat} {m c : Int} (h0 : 0 ≤ m) (h1 : m < 256) (hc : l[g]? = some c) (hc0 : c < 0) (hm : ¬ pIn l m) :
    Calls Try.prog 39 #[.pointer (some ⟨b, 0, none⟩), .int .i64 (g : Int), .int .i64 m] w fun e w' =>
      e = .returned (.int .i64 0) ∧ R3At w' b bl (l.set g m) ∧ Keep [bl] w w' := by
  obtain ⟨cc, hcc⟩ := h.c0
  have hcx := h.at_ hc
  have hlt := (List.getElem?_eq_some_iff.1 hc).1
  have k0 : (0 : Int) ≤ (g : Int) := by omega
  have k1 : (g : Int) < (l.length : Int) := by omega
  have hf := h.frozen
  have HF := Lib.hid (ref3_find_none h hm)
  have HS := Lib.hid (h.set_ hlt m)
  clear hc hm hlt
  go_enter Try.func39, Try.ntmps39
  go_wp2_with (go_at_call 84; refine HF.out.mono ?_; rintro e w' ⟨rfl, rfl⟩)
  go_ret
  exact ⟨rfl, HS.out, (by repeat (first | with_reducible exact Keep.refl _ _ | with_reducible assumption | with_reducible apply Keep.alloc | with_reducible apply Keep.drewN | with_reducible apply Keep.drew | (with_reducible refine Keep.setCell ?_ ?_ _) | focus (left; simp; done) | focus (right; simp; done) | focus (right; simp; omega)))⟩

/-- What New has made. -/
def R3NewI (w : World) (k : Nat) (v : Value) (wr : World) : Prop :=
  Blk wr w.heap.size 176 [v] ∧ wr.ownsRow (w.heap.size + 1) 3 1 v k ((List.replicate k (-1 : Int)).map intV) ∧ Keep [] w wr
theorem R3NewI.done {w wr : World} {n : Nat} {v : Value} (h1 : 1 ≤ n) (h2 : n ≤ 48) (h : R3NewI w n v wr) : R3NewOk w n (.returned (.tuple #[.pointer (some ⟨w.heap.size, 0, none⟩), .int .i64 0])) wr := by
  obtain ⟨hb, ho, hk⟩ := h
  obtain ⟨g, c, cur, rfl, hg1, hg2⟩ := own_pos (by omega) ho
  refine ⟨w.heap.size, g, rfl, ⟨⟨c, cur, ?_, hg2⟩, by simpa using h1, by simpa using h2⟩, hk, Nat.le_refl _, by omega⟩
  simpa using hb
theorem R3NewI.step {w wr w1 : World} {k : Nat} {v v' : Value} {o : Obj} (h : R3NewI w k v wr) (hown : w1.ownsRow (w.heap.size + 1) 3 1 v' (k + 1) ((List.replicate k (-1 : Int)).map intV ++ [.int .i64 (-1)])) (hg : (wr.alloc o).grownBy w1 v.ownBlock) :
    R3NewI w (k + 1) v' (w1.setCell ⟨w.heap.size, 0, none⟩ v') := by
  obtain ⟨hb, ho, hk⟩ := h
  have hk1 := keep_grow' hk (by omega) ho ((Keep.refl _ _).alloc o) hg
  have hne : v.ownBlock ≠ some w.heap.size := by
    intro he
    have := (ho.lt _ he).1
    omega
  refine ⟨((hb.alloc o).grown hg hne).set_ 0 v', ?_, hk1.setCell (.inr (by simp)) _⟩
  rw [List.replicate_succ', List.map_append]
  exact ownsRow_setCell_below hown (by simp) _

set_option maxRecDepth 100000 in
set_option maxHeartbeats 4000000 in
theorem ref3_new {n : Nat} (h1 : 1 ≤ n) (h2 : n ≤ 48) (w : World) :
    Calls Try.prog 35 #[.int .i64 (n : Int)] w fun e w' => R3NewOk w n e w' := by
  obtain ⟨iF, hiF, hzF, hsF, hbF⟩ := info_parts3 info_int
  have a1 : ¬ (n : Int) < 0 := by omega
  have a2 : ¬ 48 < (n : Int) := by omega
  go_enter Try.func35, Try.ntmps35
  go_wp2
  go_loopw [5] (fun i wr => ∃ k : Nat, k ≤ n ∧ i = .int .i64 (k : Int) ∧ ∃ v, R3NewI w k v wr) (fun i _ => n - (intOf i).toNat)
  case atStart =>
    refine ⟨0, Nat.zero_le _, rfl, .slice none 0 0, by simpa using Blk.new w 176 [.slice none 0 0], World.ownsRow_nil _ _ _ _, (by repeat (first | with_reducible exact Keep.refl _ _ | with_reducible assumption | with_reducible apply Keep.alloc | with_reducible apply Keep.drewN | with_reducible apply Keep.drew | (with_reducible refine Keep.setCell ?_ ?_ _) | focus (left; simp; done) | focus (right; simp; done) | focus (right; simp; omega)))⟩
  case round =>
    obtain ⟨k, hk, rfl, v, HH⟩ := hrel
    by_cases hlt : k < n
    · obtain ⟨hb, ho, -⟩ := id HH
      have hc0 := hb.cell 0
      have hf0 := hb.frozen
      simp only [List.getElem?_cons_zero] at hc0
      have hsz := hb.lt
      have hne : v.ownBlock ≠ some w.heap.size := by
        intro he
        have := (ho.lt _ he).1
        omega
      go_wp2_with (at_builtin; refine wpList_append_own _ rfl (.tmp 23) (.tmp 24) 66 rfl (w.heap.size + 1) 3 iF _ 1 8 Try.underlying66 hiF hzF hsF hbF rfl (by decide) v k _ rfl (ho.alloc _) ⟨wr.heap.size, 0, none⟩ 1 1 [.int .i64 (-1)] rfl rfl (cell_one_new _ _ _) (by simp [Value.oneCell']) (by unfold maxLen; omega) (by omega) (by simp; omega) ?_; intro v' w1 hown' hgrow _; obtain ⟨g', cap', rfl⟩ := ownsRow_succ hown'; have HM := Lib.hid (HH.step hown' hgrow); have hb1 := (hb.alloc _).grown hgrow hne; have hd0 := hb1.cell 0; have hd1 := hb1.frozen; simp only [List.getElem?_cons_zero] at hd0; clear hown' hgrow hb1 hc0 hf0 ho hb HH hne)
      go_roundw
      case rel => exact ⟨k + 1, by omega, by go_num, _, HM.out⟩
      case measure => simp [intOf]; omega
    · obtain rfl : k = n := by omega
      have HX := Lib.hid (R3NewI.done h1 h2 HH)
      clear HH
      go_wp2
      exact bodyPost_ret (v := .tuple #[.pointer (some ⟨w.heap.size, 0, none⟩), .int .i64 0]) (by simp [results, Try.results35, go_sem]) rfl HX.out
end

end Go.Proofs.Ytkicpmfhnngndaa
