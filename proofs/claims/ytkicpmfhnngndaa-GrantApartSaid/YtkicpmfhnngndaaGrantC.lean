/- What is proved: what grant's entry and permit compute, with a view without rewrites. Conditions: the grants, the machine, the view lie in memory as GHead, PhysAt, ViewAt say. -/
import Derived.Test.YtkicpmfhnngndaaGrantB
import Derived.Test.YtkicpmfhnngndaaGrantU
set_option linter.unusedSimpArgs false
set_option linter.unusedVariables false
namespace Go.Proofs.Ytkicpmfhnngndaa
open Go.RowKit

/-- The entry at a place of a table. -/
def entryG (m : Mach) (t r : Nat) : Option Gr := match m[t]? with
  | some f => unpackG ((f.b.drop (8 * r)).take 8)
  | none => none
def permG (m : Mach) (t r : Nat) (caller : Int) : Option Gr := match entryG m t r with
  | some g => if g.kind = 1 ∧ (g.dom : Int) = caller then some g else none
  | none => none

section
variable {w w' : World} {bg b1 b2 bm bf bv bd nv : Nat} {m : Mach} {mem : List (Int × (Int × Nat))} {mp : List ((Int × Int) × Value)} {S : List Nat}
variable {pb p1 p2 : Nat} {l : List Int}

theorem grant_unpack {N : Nat → Prop} {A : Option Addr} {cp : Nat} {l : List UInt8} (hl : l.length = 8) (hv : BytesAt w N A l) :
    Calls Try.prog 109 #[.slice A 8 cp] w fun e w' => e = .returned (upV (unpackG l)) ∧ Keep [] w w' := by
  have h6 := byteAt_lt l 6
  have h7 := byteAt_lt l 7
  have hx0 := byteAt_lt l 0
  have hx1 := byteAt_lt l 1
  obtain ⟨x6, e6, n6⟩ := byteAt_some (l := l) (i := 6) (by omega)
  obtain ⟨x7, e7, n7⟩ := byteAt_some (l := l) (i := 7) (by omega)
  have hvv := hv
  obtain ⟨a, rfl, hN, ha⟩ := hv (by rintro rfl; simp at hl)
  refine unpack_walk (by unfold wordAt; have hx1 : byteAt l (0 + 1) < 256 := hx1; omega) h6 h7 ?_ ?_ ?_ ?_ ?_
  · have := ha 6 x6 e6; rw [← n6]; simpa [Addr.add, byteV] using this
  · have := ha 7 x7 e7; rw [← n7]; simpa [Addr.add, byteV] using this
  · exact fun W c hc k => unpack_word' hc hl (hvv.keep k (by simp)) 0 (by omega)
  · exact fun W c hc k => unpack_word' hc hl (hvv.keep k (by simp)) 2 (by omega)
  · exact fun W c hc k => unpack_word' hc hl (hvv.keep k (by simp)) 4 (by omega)

theorem BytesAt.ofBlk {g : Nat} {t : TypeId} {l : List UInt8} (h : Blk w g t (l.map byteV)) : BytesAt w (· = g) (some ⟨g, 0, none⟩) l := by
  intro _
  refine ⟨_, rfl, rfl, fun j x hx => ?_⟩
  have := h.cell j
  rw [List.getElem?_map, hx] at this
  rw [show (Addr.add ⟨g, 0, none⟩ j) = ⟨g, j, none⟩ by rw [Addr.add_lit]; simp]
  exact this

set_option maxRecDepth 100000 in
set_option maxHeartbeats 4000000 in
theorem grant_entry (h : GHead w bg b1 b2 bm mem mp) (hp : PhysAt w bm bf m) (v : ViewAt w bv bd bm nv) (hn : nv < 1000) (hvf : bv ≠ bf) (hvm : bv ≠ bm) {owner : Int} {t r : Nat} {f : Fr} (hm : memOf mem owner = some ((t : Int), pb)) (hf : m[t]? = some f) (hr : r < 32) :
    Calls Try.prog 90 #[.pointer (some ⟨bg, 0, none⟩), .pointer (some ⟨bv, 0, none⟩), .int .i64 owner, .int .i64 (r : Int)] w fun e w' =>
      e = .returned (upV (unpackG ((f.b.drop (8 * r)).take 8))) ∧ Keep [bv] w w' ∧ ViewAt w' bv bd bm (nv + 1) := by
  have c1 := h.c1
  have hfd : ∀ W : World, (Instr.field 138 (.agg #[.int .i64 (t : Int), .pointer (some ⟨pb, 0, none⟩)]) 0).run Try.prog W = .ok (.int .i64 (t : Int)) W := fun _ => by kernel_rfl
  have q := fun o => run_lookup_k key_int Try.underlying127 (h.alloc o).m1 owner zero_mem false
  rw [getOf_memL, hm] at q
  simp only [Option.map_some, Option.getD_some, Bool.false_eq_true, if_false, memV] at q
  have e8 : ((8 * r : Nat) : Int) = 8 * (r : Int) := by omega
  have lg := h.hd.lt
  have HV := Lib.hid (fun W (k : Keep [] w W) => view_read_some (v.keep k (by simp) (by simp)) (hp.keep k (by simp) (by simp)) hn hvf hvm hf (off := 8 * r) (l := 8) (by omega) (by omega))
  rw [e8] at HV
  clear e8
  have hfl : f.b.length = 256 := hp.pg.get hf
  have HL : Hid (((f.b.drop (8 * r)).take 8).length = 8) := by show _ = _; simp [hfl]; omega
  have lv := v.hd.lt
  have lv2 := v.mp.lt
  clear hm hf hfl
  generalize (f.b.drop (8 * r)).take 8 = l at HL HV ⊢
  rcases hu : unpackG l with _ | g
  · have HU := Lib.hid hu
    clear hu
    unfold upV
    go_enter Try.func90, Try.ntmps90
    go_wp2_with (first
      | (go_at_call 65; refine (HV.out _ (by repeat (first | with_reducible exact Keep.refl _ _ | with_reducible assumption | with_reducible apply Keep.alloc | with_reducible apply Keep.drewN | with_reducible apply Keep.drew | (with_reducible refine Keep.setCell ?_ ?_ _) | focus (left; simp; done) | focus (right; simp; done) | focus (right; simp; omega)))).mono ?_; rintro e w1 ⟨rfl, HB, HK, HVV⟩
         have HB1 : Blk w1 (w.heap.size + 1) 5 (l.map byteV) := by simpa using HB)
      | (go_at_call 109; refine (grant_unpack HL.out (BytesAt.ofBlk HB1)).mono ?_; rw [HU.out]; unfold upV; rintro e w2 ⟨rfl, HK2⟩
         have hb2 := ((Blk.new w 54 [.int .i64 0, .bool false, .bool false, .int .i64 0, .int .i64 0, .int .i64 0, .int .i64 0]).keep HK (by simp; omega)).keep HK2 (by simp)
         have hc2 := hb2.cell
         have hf2 := hb2.frozen
         have hs2 := hb2.lt
         unfold grZ))
    have k2 : Keep [bv] w w2 := (((Keep.refl [bv] w).alloc _).trans HK).trans (HK2.mono (by simp))
    have v2 := HVV.keep HK2 (by simp) (by simp)
    refine bodyPost_ret (v := .tuple #[.agg #[.int .i64 0, .bool false, .bool false, .int .i64 0, .int .i64 0, .int .i64 0, .int .i64 0], .int .i64 60]) (by simp [results, Try.results90, go_sem, hc2, hs2, Nat.ne_of_lt hs2]) rfl ⟨rfl, ?_, ?_⟩
    · exact (by repeat (first | with_reducible exact Keep.refl _ _ | with_reducible assumption | with_reducible apply Keep.alloc | with_reducible apply Keep.drewN | with_reducible apply Keep.drew | (with_reducible refine Keep.setCell ?_ ?_ _) | focus (left; simp; done) | focus (right; simp; done) | focus (right; simp; omega)))
    · exact v2.keep (S := [w.heap.size]) (by repeat (first | with_reducible exact Keep.refl _ _ | with_reducible assumption | with_reducible apply Keep.alloc | with_reducible apply Keep.drewN | with_reducible apply Keep.drew | (with_reducible refine Keep.setCell ?_ ?_ _) | focus (left; simp; done) | focus (right; simp; done) | focus (right; simp; omega))) (by simp; omega) (by simp; omega)
  · have HU := Lib.hid hu
    clear hu
    unfold upV
    go_enter Try.func90, Try.ntmps90
    go_wp2_with (first
      | (go_at_call 65; refine (HV.out _ (by repeat (first | with_reducible exact Keep.refl _ _ | with_reducible assumption | with_reducible apply Keep.alloc | with_reducible apply Keep.drewN | with_reducible apply Keep.drew | (with_reducible refine Keep.setCell ?_ ?_ _) | focus (left; simp; done) | focus (right; simp; done) | focus (right; simp; omega)))).mono ?_; rintro e w1 ⟨rfl, HB, HK, HVV⟩
         have HB1 : Blk w1 (w.heap.size + 1) 5 (l.map byteV) := by simpa using HB)
      | (go_at_call 109; refine (grant_unpack HL.out (BytesAt.ofBlk HB1)).mono ?_; rw [HU.out]; unfold upV; rintro e w2 ⟨rfl, HK2⟩
         have hb2 := ((Blk.new w 54 [.int .i64 0, .bool false, .bool false, .int .i64 0, .int .i64 0, .int .i64 0, .int .i64 0]).keep HK (by simp; omega)).keep HK2 (by simp)
         have hc2 := hb2.cell
         have hf2 := hb2.frozen
         have hs2 := hb2.lt
         unfold Gr.v))
    have k2 : Keep [bv] w w2 := (((Keep.refl [bv] w).alloc _).trans HK).trans (HK2.mono (by simp))
    have v2 := HVV.keep HK2 (by simp) (by simp)
    refine bodyPost_ret (v := .tuple #[.agg #[.int .i64 (g.kind : Int), .bool g.ro, .bool g.sub, .int .i64 (g.dom : Int), .int .i64 (g.gpfn : Int), .int .i64 (g.off : Int), .int .i64 (g.len : Int)], .int .i64 0]) (by simp [results, Try.results90, go_sem, hc2, hs2, Nat.ne_of_lt hs2]) rfl ⟨rfl, ?_, ?_⟩
    · exact (by repeat (first | with_reducible exact Keep.refl _ _ | with_reducible assumption | with_reducible apply Keep.alloc | with_reducible apply Keep.drewN | with_reducible apply Keep.drew | (with_reducible refine Keep.setCell ?_ ?_ _) | focus (left; simp; done) | focus (right; simp; done) | focus (right; simp; omega)))
    · exact v2.keep (S := [w.heap.size]) (by repeat (first | with_reducible exact Keep.refl _ _ | with_reducible assumption | with_reducible apply Keep.alloc | with_reducible apply Keep.drewN | with_reducible apply Keep.drew | (with_reducible refine Keep.setCell ?_ ?_ _) | focus (left; simp; done) | focus (right; simp; done) | focus (right; simp; omega))) (by simp; omega) (by simp; omega)

def permOf (o : Option Gr) (caller : Int) : Option Gr := match o with
  | some g => if g.kind = 1 ∧ (g.dom : Int) = caller then some g else none
  | none => none
/-- What permit answers: the entry, and whether it permits. -/
def permV (o : Option Gr) (caller : Int) : Value := match o with
  | some g => .tuple #[g.v, .int .i64 (if g.kind = 1 ∧ (g.dom : Int) = caller then 0 else 60)]
  | none => .tuple #[grZ, .int .i64 60]

set_option maxRecDepth 100000 in
set_option maxHeartbeats 4000000 in
theorem grant_permit (h : GHead w bg b1 b2 bm mem mp) (hp : PhysAt w bm bf m) (v : ViewAt w bv bd bm nv) (hn : nv < 1000) (hvf : bv ≠ bf) (hvm : bv ≠ bm) (caller : Int) {owner : Int} {t r : Nat} {f : Fr} (hm : memOf mem owner = some ((t : Int), pb)) (hf : m[t]? = some f) (hr : r < 32) :
    Calls Try.prog 58 #[.pointer (some ⟨bg, 0, none⟩), .pointer (some ⟨bv, 0, none⟩), .int .i64 caller, .int .i64 owner, .int .i64 (r : Int)] w fun e w' =>
      e = .returned (permV (unpackG ((f.b.drop (8 * r)).take 8)) caller) ∧ Keep [bv] w w' ∧ ViewAt w' bv bd bm (nv + 1) := by
  have HE := Lib.hid (fun W (k : Keep [] w W) => grant_entry (h.keep0 k) (hp.keep k (by simp) (by simp)) (v.keep k (by simp) (by simp)) hn hvf hvm hm hf hr)
  have lv := v.hd.lt
  have lv2 := v.mp.lt
  clear hm hf
  generalize unpackG ((f.b.drop (8 * r)).take 8) = u at HE ⊢
  rcases u with _ | g
  · simp only [permV]
    unfold upV at HE
    go_enter Try.func58, Try.ntmps58
    go_wp2_with (first
      | (go_at_call 90; refine (HE.out _ (by repeat (first | with_reducible exact Keep.refl _ _ | with_reducible assumption | with_reducible apply Keep.alloc | with_reducible apply Keep.drewN | with_reducible apply Keep.drew | (with_reducible refine Keep.setCell ?_ ?_ _) | focus (left; simp; done) | focus (right; simp; done) | focus (right; simp; omega)))).mono ?_; rintro e w2 ⟨rfl, HK, HVV⟩
         have hb2 := (Blk.new w 54 [.int .i64 0, .bool false, .bool false, .int .i64 0, .int .i64 0, .int .i64 0, .int .i64 0]).keep HK (by simp; omega)
         have hc2 := hb2.cell
         have hf2 := hb2.frozen
         have hs2 := hb2.lt
         unfold grZ))
    have k2 : Keep [bv] w w2 := ((Keep.refl [bv] w).alloc _).trans HK
    refine bodyPost_ret (v := .tuple #[.agg #[.int .i64 0, .bool false, .bool false, .int .i64 0, .int .i64 0, .int .i64 0, .int .i64 0], .int .i64 60]) (by simp [results, Try.results58, go_sem, hc2, hs2, Nat.ne_of_lt hs2]) rfl ⟨rfl, ?_, ?_⟩
    · exact (by repeat (first | with_reducible exact Keep.refl _ _ | with_reducible assumption | with_reducible apply Keep.alloc | with_reducible apply Keep.drewN | with_reducible apply Keep.drew | (with_reducible refine Keep.setCell ?_ ?_ _) | focus (left; simp; done) | focus (right; simp; done) | focus (right; simp; omega)))
    · exact HVV.keep (S := [w.heap.size]) (by repeat (first | with_reducible exact Keep.refl _ _ | with_reducible assumption | with_reducible apply Keep.alloc | with_reducible apply Keep.drewN | with_reducible apply Keep.drew | (with_reducible refine Keep.setCell ?_ ?_ _) | focus (left; simp; done) | focus (right; simp; done) | focus (right; simp; omega))) (by simp; omega) (by simp; omega)
  · by_cases h1 : g.kind = 1
    · have h1' := bne_no (show (g.kind : Int) = 1 by omega)
      by_cases h2 : (g.dom : Int) = caller
      · simp only [permV, if_pos (And.intro h1 h2)]
        have h2' := bne_no h2
        unfold upV at HE
        clear h1 h2
        go_enter Try.func58, Try.ntmps58
        go_wp2_with (first
          | (go_at_call 90; refine (HE.out _ (by repeat (first | with_reducible exact Keep.refl _ _ | with_reducible assumption | with_reducible apply Keep.alloc | with_reducible apply Keep.drewN | with_reducible apply Keep.drew | (with_reducible refine Keep.setCell ?_ ?_ _) | focus (left; simp; done) | focus (right; simp; done) | focus (right; simp; omega)))).mono ?_; rintro e w2 ⟨rfl, HK, HVV⟩
             have hb2 := (Blk.new w 54 [.int .i64 0, .bool false, .bool false, .int .i64 0, .int .i64 0, .int .i64 0, .int .i64 0]).keep HK (by simp; omega)
             have hc2 := hb2.cell
             have hf2 := hb2.frozen
             have hs2 := hb2.lt
             unfold Gr.v))
        have k2 : Keep [bv] w w2 := ((Keep.refl [bv] w).alloc _).trans HK
        refine bodyPost_ret (v := .tuple #[.agg #[.int .i64 (g.kind : Int), .bool g.ro, .bool g.sub, .int .i64 (g.dom : Int), .int .i64 (g.gpfn : Int), .int .i64 (g.off : Int), .int .i64 (g.len : Int)], .int .i64 0]) (by simp [results, Try.results58, go_sem, hc2, hs2, Nat.ne_of_lt hs2]) rfl ⟨rfl, ?_, ?_⟩
        · exact (by repeat (first | with_reducible exact Keep.refl _ _ | with_reducible assumption | with_reducible apply Keep.alloc | with_reducible apply Keep.drewN | with_reducible apply Keep.drew | (with_reducible refine Keep.setCell ?_ ?_ _) | focus (left; simp; done) | focus (right; simp; done) | focus (right; simp; omega)))
        · exact HVV.keep (S := [w.heap.size]) (by repeat (first | with_reducible exact Keep.refl _ _ | with_reducible assumption | with_reducible apply Keep.alloc | with_reducible apply Keep.drewN | with_reducible apply Keep.drew | (with_reducible refine Keep.setCell ?_ ?_ _) | focus (left; simp; done) | focus (right; simp; done) | focus (right; simp; omega))) (by simp; omega) (by simp; omega)
      · simp only [permV, if_neg (fun e : g.kind = 1 ∧ (g.dom : Int) = caller => h2 e.2)]
        have h2' := bne_yes h2
        unfold upV at HE
        clear h1 h2
        go_enter Try.func58, Try.ntmps58
        go_wp2_with (first
          | (go_at_call 90; refine (HE.out _ (by repeat (first | with_reducible exact Keep.refl _ _ | with_reducible assumption | with_reducible apply Keep.alloc | with_reducible apply Keep.drewN | with_reducible apply Keep.drew | (with_reducible refine Keep.setCell ?_ ?_ _) | focus (left; simp; done) | focus (right; simp; done) | focus (right; simp; omega)))).mono ?_; rintro e w2 ⟨rfl, HK, HVV⟩
             have hb2 := (Blk.new w 54 [.int .i64 0, .bool false, .bool false, .int .i64 0, .int .i64 0, .int .i64 0, .int .i64 0]).keep HK (by simp; omega)
             have hc2 := hb2.cell
             have hf2 := hb2.frozen
             have hs2 := hb2.lt
             unfold Gr.v))
        have k2 : Keep [bv] w w2 := ((Keep.refl [bv] w).alloc _).trans HK
        refine bodyPost_ret (v := .tuple #[.agg #[.int .i64 (g.kind : Int), .bool g.ro, .bool g.sub, .int .i64 (g.dom : Int), .int .i64 (g.gpfn : Int), .int .i64 (g.off : Int), .int .i64 (g.len : Int)], .int .i64 60]) (by simp [results, Try.results58, go_sem, hc2, hs2, Nat.ne_of_lt hs2]) rfl ⟨rfl, ?_, ?_⟩
        · exact (by repeat (first | with_reducible exact Keep.refl _ _ | with_reducible assumption | with_reducible apply Keep.alloc | with_reducible apply Keep.drewN | with_reducible apply Keep.drew | (with_reducible refine Keep.setCell ?_ ?_ _) | focus (left; simp; done) | focus (right; simp; done) | focus (right; simp; omega)))
        · exact HVV.keep (S := [w.heap.size]) (by repeat (first | with_reducible exact Keep.refl _ _ | with_reducible assumption | with_reducible apply Keep.alloc | with_reducible apply Keep.drewN | with_reducible apply Keep.drew | (with_reducible refine Keep.setCell ?_ ?_ _) | focus (left; simp; done) | focus (right; simp; done) | focus (right; simp; omega))) (by simp; omega) (by simp; omega)
    · have h1' := bne_yes (show ¬ (g.kind : Int) = 1 by omega)
      simp only [permV, if_neg (fun e : g.kind = 1 ∧ (g.dom : Int) = caller => h1 e.1)]
      unfold upV at HE
      clear h1
      go_enter Try.func58, Try.ntmps58
      go_wp2_with (first
        | (go_at_call 90; refine (HE.out _ (by repeat (first | with_reducible exact Keep.refl _ _ | with_reducible assumption | with_reducible apply Keep.alloc | with_reducible apply Keep.drewN | with_reducible apply Keep.drew | (with_reducible refine Keep.setCell ?_ ?_ _) | focus (left; simp; done) | focus (right; simp; done) | focus (right; simp; omega)))).mono ?_; rintro e w2 ⟨rfl, HK, HVV⟩
           have hb2 := (Blk.new w 54 [.int .i64 0, .bool false, .bool false, .int .i64 0, .int .i64 0, .int .i64 0, .int .i64 0]).keep HK (by simp; omega)
           have hc2 := hb2.cell
           have hf2 := hb2.frozen
           have hs2 := hb2.lt
           unfold Gr.v))
      have k2 : Keep [bv] w w2 := ((Keep.refl [bv] w).alloc _).trans HK
      refine bodyPost_ret (v := .tuple #[.agg #[.int .i64 (g.kind : Int), .bool g.ro, .bool g.sub, .int .i64 (g.dom : Int), .int .i64 (g.gpfn : Int), .int .i64 (g.off : Int), .int .i64 (g.len : Int)], .int .i64 60]) (by simp [results, Try.results58, go_sem, hc2, hs2, Nat.ne_of_lt hs2]) rfl ⟨rfl, ?_, ?_⟩
      · exact (by repeat (first | with_reducible exact Keep.refl _ _ | with_reducible assumption | with_reducible apply Keep.alloc | with_reducible apply Keep.drewN | with_reducible apply Keep.drew | (with_reducible refine Keep.setCell ?_ ?_ _) | focus (left; simp; done) | focus (right; simp; done) | focus (right; simp; omega)))
      · exact HVV.keep (S := [w.heap.size]) (by repeat (first | with_reducible exact Keep.refl _ _ | with_reducible assumption | with_reducible apply Keep.alloc | with_reducible apply Keep.drewN | with_reducible apply Keep.drew | (with_reducible refine Keep.setCell ?_ ?_ _) | focus (left; simp; done) | focus (right; simp; done) | focus (right; simp; omega))) (by simp; omega) (by simp; omega)
end

end Go.Proofs.Ytkicpmfhnngndaa
