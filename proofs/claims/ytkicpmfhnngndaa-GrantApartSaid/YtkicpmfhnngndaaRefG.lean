/- What is proved: what New, Join of the reference's grants compute. Conditions: the grants and the machine lie in memory as R6At and RefAt say. -/
import Derived.Test.YtkicpmfhnngndaaRefF
import Derived.Test.YtkicpmfhnngndaaRefE
set_option linter.unusedSimpArgs false
set_option linter.unusedVariables false
namespace Go.Proofs.Ytkicpmfhnngndaa
open Go.RowKit

/-- A member of the reference: its grant frame and its places. -/
def memR : Option (Int × Nat) → List Value
  | none => [.int .i64 (-1), .pointer none]
  | some (t, pb) => [.int .i64 t, .pointer (some ⟨pb, 0, none⟩)]
def memRs (D : List (Option (Int × Nat))) : List Value := D.flatMap memR
theorem memR_length (x : Option (Int × Nat)) : (memR x).length = 2 := by rcases x with _ | ⟨t, pb⟩ <;> rfl
theorem memRs_cons (x : Option (Int × Nat)) (D : List (Option (Int × Nat))) : memRs (x :: D) = memR x ++ memRs D := rfl
theorem memRs_length (D : List (Option (Int × Nat))) : (memRs D).length = D.length * 2 := by
  induction D with
  | nil => rfl
  | cons f m ih => rw [memRs_cons, List.length_append, ih, memR_length, List.length_cons]; omega
theorem memRs_get {D : List (Option (Int × Nat))} : ∀ {k : Nat} {x : Option (Int × Nat)} (_ : D[k]? = some x) {j : Nat} (_ : j < 2), (memRs D)[k * 2 + j]? = (memR x)[j]? := by
  induction D with
  | nil => intro k f hk; simp at hk
  | cons g m ih =>
    intro k f hk j hj
    rw [memRs_cons]
    cases k with
    | zero =>
      simp at hk; subst hk
      rw [List.getElem?_append_left (by rw [memR_length]; omega)]; simp
    | succ k =>
      rw [List.getElem?_append_right (by rw [memR_length]; omega), memR_length, show (k + 1) * 2 + j - 2 = k * 2 + j by omega]
      exact ih (by simpa using hk) hj
theorem memRs_set {D : List (Option (Int × Nat))} : ∀ {k : Nat} {x : Option (Int × Nat)} (_ : D[k]? = some x) (t : Int) (pb : Nat), ((memRs D).set (k * 2) (.int .i64 t)).set (k * 2 + 1) (.pointer (some ⟨pb, 0, none⟩)) = memRs (D.set k (some (t, pb))) := by
  induction D with
  | nil => intro k f hk; simp at hk
  | cons g m ih =>
    intro k f hk t pb
    cases k with
    | zero =>
      simp at hk; subst hk
      rw [memRs_cons, List.set_cons_zero, memRs_cons, List.set_append_left _ _ (by rw [memR_length]; omega), List.set_append_left _ _ (by rw [List.length_set, memR_length]; omega)]
      congr 1
      rcases g with _ | ⟨a, b⟩ <;> rfl
    | succ k =>
      rw [memRs_cons, List.set_cons_succ, memRs_cons, List.set_append_right _ _ (by rw [memR_length]; omega), memR_length, show (k + 1) * 2 - 2 = k * 2 by omega, List.set_append_right _ _ (by rw [memR_length]; omega), memR_length, show (k + 1) * 2 + 1 - 2 = k * 2 + 1 by omega, ih (by simpa using hk)]

/-- The reference's grants: the head in block rg, the members' row in block rd; vL: the maps. -/
structure R6At (w : World) (rg rd rm : Nat) (D : List (Option (Int × Nat))) (vL : Value) : Prop where
  ex : ∃ c r, Blk w rg 169 [.pointer (some ⟨rm, 0, none⟩), .slice (some ⟨rd, 0, none⟩) 8 c, vL] ∧ Blk w rd 171 (memRs D ++ r)
  len : D.length = 8
/-- The grants were made. -/
def R6NewOk (w : World) (rm : Nat) (e : Ending) (w' : World) : Prop :=
  ∃ rg rd, e = .returned (.pointer (some ⟨rg, 0, none⟩)) ∧ R6At w' rg rd rm (List.replicate 8 none) (.slice none 0 0) ∧ Keep [] w w' ∧ w.heap.size ≤ rd

section
variable {w w' : World} {rg rd rm rf rb : Nat} {pgs : List Nat} {m : Mach} {D : List (Option (Int × Nat))} {vL : Value} {S : List Nat}
theorem R6At.keep (h : R6At w rg rd rm D vL) (k : Keep S w w') (h0 : rg ∉ S) (h1 : rd ∉ S) : R6At w' rg rd rm D vL := by
  obtain ⟨⟨c, r, a, d⟩, l⟩ := h
  exact ⟨⟨c, r, a.keep k h0, d.keep k h1⟩, l⟩
theorem R6At.keep0 (h : R6At w rg rd rm D vL) (k : Keep [] w w') : R6At w' rg rd rm D vL := h.keep k (by simp) (by simp)
theorem R6At.ne (h : R6At w rg rd rm D vL) : rg ≠ rd := by
  obtain ⟨⟨c, r, a, d⟩, l⟩ := h
  exact a.ne_ d (by decide)
theorem R6At.lt0 (h : R6At w rg rd rm D vL) : rg < w.heap.size := by obtain ⟨⟨c, r, a, d⟩, l⟩ := h; exact a.lt
theorem R6At.lt1 (h : R6At w rg rd rm D vL) : rd < w.heap.size := by obtain ⟨⟨c, r, a, d⟩, l⟩ := h; exact d.lt
theorem R6At.c0 (h : R6At w rg rd rm D vL) : w.cell? ⟨rg, 0, none⟩ = some (.pointer (some ⟨rm, 0, none⟩)) := by obtain ⟨⟨c, r, a, d⟩, l⟩ := h; exact a.cell 0
theorem R6At.c1 (h : R6At w rg rd rm D vL) : ∃ c : Nat, w.cell? ⟨rg, 1, none⟩ = some (.slice (some ⟨rd, 0, none⟩) 8 c) := by obtain ⟨⟨c, r, a, d⟩, l⟩ := h; exact ⟨c, a.cell 1⟩
theorem R6At.at_ (h : R6At w rg rd rm D vL) {k : Nat} {x : Option (Int × Nat)} (hx : D[k]? = some x) {j : Nat} (hj : j < 2) : w.cell? ⟨rd, k * 2 + j, none⟩ = (memR x)[j]? := by
  obtain ⟨⟨c, r, a, d⟩, l⟩ := h
  have := (List.getElem?_eq_some_iff.1 hx).1
  rw [d.cell, List.getElem?_append_left (by rw [memRs_length]; omega), memRs_get hx hj]
theorem R6At.frozen (h : R6At w rg rd rm D vL) : ∀ j, w.frozen? ⟨rd, j, none⟩ = false := by obtain ⟨⟨c, r, a, d⟩, l⟩ := h; exact d.frozen
theorem R6At.set_ (h : R6At w rg rd rm D vL) {k : Nat} {x : Option (Int × Nat)} (hx : D[k]? = some x) (t : Int) (pb : Nat) : R6At ((w.setCell ⟨rd, k * 2, none⟩ (.int .i64 t)).setCell ⟨rd, k * 2 + 1, none⟩ (.pointer (some ⟨pb, 0, none⟩))) rg rd rm (D.set k (some (t, pb))) vL := by
  have hne := h.ne
  obtain ⟨⟨c, r, a, d⟩, l⟩ := h
  have hl := (List.getElem?_eq_some_iff.1 hx).1
  refine ⟨⟨c, r, (a.far (p := ⟨rd, k * 2, none⟩) hne _).far (p := ⟨rd, k * 2 + 1, none⟩) hne _, ?_⟩, by simpa using l⟩
  have := (d.set_ (k * 2) (.int .i64 t)).set_ (k * 2 + 1) (.pointer (some ⟨pb, 0, none⟩))
  rwa [List.set_append_left _ _ (by rw [memRs_length]; omega), List.set_append_left _ _ (by rw [List.length_set, memRs_length]; omega), memRs_set hx] at this

theorem R6At.apart (h : R6At w rg rd rm D vL) (hr : RefAt w rm rf rb pgs m) : rg ≠ rf ∧ rd ≠ rf ∧ rm ≠ rd ∧ rb ≠ rd ∧ ∀ g ∈ pgs, g ≠ rd := by
  have hp := fun g (hg : g ∈ pgs) => hr.page hg
  obtain ⟨⟨c, r, a, d⟩, l⟩ := h
  obtain ⟨c1, c2, r1, r2, x, y, z⟩ := hr.ex
  exact ⟨a.ne_ y (by decide), d.ne_ y (by decide), x.ne_ d (by decide), z.ne_ d (by decide), fun g hg => let ⟨cs, hb⟩ := hp g hg; hb.ne_ d (by decide)⟩

def R6NewI (w : World) (rm k : Nat) (v : Value) (wr : World) : Prop :=
  Blk wr w.heap.size 169 [.pointer (some ⟨rm, 0, none⟩), v, .slice none 0 0] ∧ wr.ownsRow (w.heap.size + 1) 171 2 v k (memRs (List.replicate k none)) ∧ Keep [] w wr
theorem R6NewI.done {w wr : World} {v : Value} (h : R6NewI w rm 8 v wr) : R6NewOk w rm (.returned (.pointer (some ⟨w.heap.size, 0, none⟩))) wr := by
  obtain ⟨hb, ho, hk⟩ := h
  obtain ⟨g, c, cur, rfl, hg1, hg2⟩ := own_pos (by omega) ho
  exact ⟨w.heap.size, g, rfl, ⟨⟨c, cur, hb, hg2⟩, by simp⟩, hk, by omega⟩
theorem memRs_snoc (n : Nat) (x : Option (Int × Nat)) : memRs (List.replicate n x) ++ memR x = memRs (List.replicate (n + 1) x) := by
  rw [List.replicate_succ']; simp [memRs]
theorem R6NewI.step {w wr w1 : World} {k : Nat} {v v' : Value} {o : Obj} (h : R6NewI w rm k v wr) (hown : w1.ownsRow (w.heap.size + 1) 171 2 v' (k + 1) (memRs (List.replicate k none) ++ memR none)) (hg : (wr.alloc o).grownBy w1 v.ownBlock) :
    R6NewI w rm (k + 1) v' (w1.setCell ⟨w.heap.size, 1, none⟩ v') := by
  obtain ⟨hb, ho, hk⟩ := h
  have hk1 := keep_grow' hk (by omega) ho ((Keep.refl _ _).alloc o) hg
  have hne : v.ownBlock ≠ some w.heap.size := by
    intro he
    have := (ho.lt _ he).1
    omega
  refine ⟨((hb.alloc o).grown hg hne).set_ 1 v', ?_, hk1.setCell (.inr (by simp)) _⟩
  rw [← memRs_snoc]
  exact ownsRow_setCell_below hown (by simp) _
theorem info_member : (Try.prog.info? 171).map (fun i => (i.zero, i.size, i.bytes)) = some (some (.agg #[.int .i64 0, .pointer none]), 2, 16) := by kernel_rfl

set_option maxRecDepth 100000 in
set_option maxHeartbeats 4000000 in
theorem ref6_new (rm : Nat) (w : World) :
    Calls Try.prog 33 #[.pointer (some ⟨rm, 0, none⟩)] w fun e w' => R6NewOk w rm e w' := by
  obtain ⟨iF, hiF, hzF, hsF, hbF⟩ := info_parts3 info_member
  go_enter Try.func33, Try.ntmps33
  go_wp2
  go_loopw [4] (fun i wr => ∃ k : Nat, k ≤ 8 ∧ i = .int .i64 (k : Int) ∧ ∃ v, R6NewI w rm k v wr) (fun i _ => 8 - (intOf i).toNat)
  case atStart =>
    refine ⟨0, Nat.zero_le _, rfl, .slice none 0 0, by simpa using Blk.new w 169 [.pointer (some ⟨rm, 0, none⟩), .slice none 0 0, .slice none 0 0], World.ownsRow_nil _ _ _ _, (by repeat (first | with_reducible exact Keep.refl _ _ | with_reducible assumption | with_reducible apply Keep.alloc | with_reducible apply Keep.drewN | with_reducible apply Keep.drew | (with_reducible refine Keep.setCell ?_ ?_ _) | focus (left; simp; done) | focus (right; simp; done) | focus (right; simp; omega)))⟩
  case round =>
    obtain ⟨k, hk, rfl, v, HH⟩ := hrel
    by_cases hlt : k < 8
    · obtain ⟨hb, ho, -⟩ := id HH
      have hc0 : wr.cell? ⟨w.heap.size, 1, none⟩ = some v := hb.cell 1
      have hf0 := hb.frozen
      have hsz := hb.lt
      have hne : v.ownBlock ≠ some w.heap.size := by
        intro he
        have := (ho.lt _ he).1
        omega
      go_wp2_with (at_builtin; refine wpList_append_own _ rfl (.tmp 16) (.tmp 18) 167 rfl (w.heap.size + 1) 171 iF _ 2 16 Try.underlying167 hiF hzF hsF hbF rfl (by decide) v k _ rfl (ho.alloc _) ⟨wr.heap.size, 0, none⟩ 1 1 (memR none) rfl rfl (World.news_of_block (cs := (memR none).toArray) (t := 171) (fr := (0, 0)) (heap_alloc_new wr _)) (by simp [Value.oneCell', memR]) (by unfold maxLen; omega) (by omega) (by simp; omega) ?_; intro v' w1 hown' hgrow _; obtain ⟨g', cap', rfl⟩ := ownsRow_succ hown'; have HM := Lib.hid (HH.step hown' hgrow); have hb1 := (hb.alloc _).grown hgrow hne; have hd0 : w1.cell? ⟨w.heap.size, 1, none⟩ = some v := hb1.cell 1; have hd1 := hb1.frozen; clear hown' hgrow hb1 hc0 hf0 ho hb HH hne)
      go_roundw
      case rel => exact ⟨k + 1, by omega, by go_num, _, HM.out⟩
      case measure => simp [intOf]; omega
    · obtain rfl : k = 8 := by omega
      have HX := Lib.hid (R6NewI.done HH)
      clear HH
      go_wp2
      exact bodyPost_ret (v := .pointer (some ⟨w.heap.size, 0, none⟩)) (by simp [results, Try.results33, go_sem]) rfl HX.out

set_option maxRecDepth 100000 in
set_option maxHeartbeats 4000000 in
/-- A domain that had not joined does. -/
theorem ref6_join (h : R6At w rg rd rm D vL) (hr : RefAt w rm rf rb pgs m) {d : Nat} {mfn : Int} {m' : Mach} (hx : D[d]? = some none) (hg : m.getR mfn d 1 = (0, m')) (pb : Nat) :
    Calls Try.prog 41 #[.pointer (some ⟨rg, 0, none⟩), .int .i64 (d : Int), .int .i64 mfn, .pointer (some ⟨pb, 0, none⟩)] w fun e w' =>
      e = .returned (.int .i64 0) ∧ R6At w' rg rd rm (D.set d (some (mfn, pb))) vL ∧ RefAt w' rm rf rb pgs m' ∧ Keep [rf, rd] w w' := by
  obtain ⟨h1, h2, h3, h4, h5⟩ := h.apart hr
  have hlt := (List.getElem?_eq_some_iff.1 hx).1
  have hl8 := h.len
  have HD : Hid (isDom (d : Int) = true) := by show _ = _; simp [isDom]; omega
  have c0 := h.c0
  obtain ⟨cc, c1⟩ := h.c1
  have d0 : w.cell? ⟨rd, d * 2, none⟩ = some (.int .i64 (-1)) := by have := h.at_ hx (j := 0) (by omega); rwa [Nat.add_zero] at this
  have HG := Lib.hid (ref_get hr mfn d 1)
  rw [hg] at HG
  have HX := Lib.hid hx
  have H0 := Lib.hid h
  have k0 : (0 : Int) ≤ (d : Int) := by omega
  have k1 : (d : Int) < 8 := by omega
  clear hx hg hlt
  go_enter Try.func41, Try.ntmps41
  go_wp2_with (first
    | (go_at_call 81; refine (ref_domain _ _).mono ?_; rw [HD.out]; rintro e w' ⟨rfl, rfl⟩)
    | (go_at_call 86; refine HG.out.mono ?_; rintro e w1 ⟨rfl, HR, HK⟩
       have hk1 := H0.out.keep HK (by simpa using h1) (by simpa using h2)
       have c11 : w1.cell? ⟨rg, 1, none⟩ = some (.slice (some ⟨rd, 0, none⟩) 8 cc) := HK.cell_some c1 (by simpa using h1)
       have e0 : w1.cell? ⟨rd, d * 2, none⟩ = some (.int .i64 (-1)) := by have := hk1.at_ HX.out (j := 0) (by omega); rwa [Nat.add_zero] at this
       have e1 : w1.cell? ⟨rd, d * 2 + 1, none⟩ = some (.pointer none) := hk1.at_ HX.out (j := 1) (by omega)
       have e2 := hk1.frozen
       have HS := Lib.hid (hk1.set_ HX.out mfn pb)
       have HKK := Lib.hid HK
       have HRR := Lib.hid HR
       clear HR HK hk1))
  go_ret
  have hkd : Keep [rd] w1 ((w1.setCell ⟨rd, d * 2, none⟩ (.int .i64 mfn)).setCell ⟨rd, d * 2 + 1, none⟩ (.pointer (some ⟨pb, 0, none⟩))) := ((Keep.refl _ _).setCell (.inl (by simp)) _).setCell (.inl (by simp)) _
  refine ⟨rfl, HS.out, HRR.out.keep hkd (by simpa using h3) (by simpa using h2.symm) (by simpa using h4) (by simpa using h5), ?_⟩
  exact (HKK.out.mono (by simp)).trans (hkd.mono (by simp))
end

end Go.Proofs.Ytkicpmfhnngndaa
