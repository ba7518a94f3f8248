/- What is proved: GrantApart answers true, whatever entries, ends and length. Conditions: the entries lie in memory. -/
import Derived.Test.YtkicpmfhnngndaaLawF
import Derived.Test.YtkicpmfhnngndaaLawG
import Derived.Deep.RegionHeld3
import Derived.Deep.DrawnRows
import Derived.BigQuiet
set_option linter.unusedSimpArgs false
set_option linter.unusedVariables false
namespace Go.Proofs.Ytkicpmfhnngndaa
open Go.RowKit
attribute [local go_sem ↓] Go.wp_at_zero Go.wp_at_succ

/-- An end of a copy, as it came in. -/
structure Ends where
  gr : Bool
  dom : Int
  ref : Int
  gpfn : Int
  off : Int
def Ends.v (t : Ends) : Value := endV t.gr t.dom t.ref t.gpfn t.off
/-- Behind the copy: both machines (the one that was, the one that is), the law's own variables. -/
structure Seen (w0 w : World) (bx bm bf bo fo : Nat) (m m' : Mach) (t : Ends) (bt : Nat) : Prop where
  k : Keep [] w0 w
  p : PhysAt w bm bf m'
  o : PhysAt w bo fo m
  x : ∃ cs, Blk w bx 35 (ptrV bm :: cs)
  t : Blk w bt 24 [.bool t.gr, .int .i64 t.dom, .int .i64 t.ref, .int .i64 t.gpfn, .int .i64 t.off]
theorem Seen.keep0 {w0 w w' : World} {bx bm bf bo fo bt : Nat} {m m' : Mach} {t : Ends} (h : Seen w0 w bx bm bf bo fo m m' t bt) (k : Keep [] w w') : Seen w0 w' bx bm bf bo fo m m' t bt := by
  obtain ⟨cs, hx⟩ := h.x
  exact ⟨h.k.trans k, h.p.keep k (by simp) (by simp), h.o.keep k (by simp) (by simp), ⟨cs, hx.keep k (by simp)⟩, h.t.keep k (by simp)⟩

/-- Within a frame's comparison: its bytes as they were, as they are, what was told of it. -/
def Comp (w0 w : World) (bx bm bf bo fo : Nat) (m m' : Mach) (t : Ends) (bt ga gb gt : Nat) (f f' : Fr) : Prop :=
  Seen w0 w bx bm bf bo fo m m' t bt ∧ Blk w ga 5 (f.b.map byteV) ∧ Blk w gb 5 (f'.b.map byteV) ∧ Blk w gt 46 [.int .i64 f.o, .int .i64 f.ty, .int .i64 f.c, .int .i64 f.t]
theorem Comp.keep0 {w0 w w' : World} {bx bm bf bo fo bt ga gb gt : Nat} {m m' : Mach} {t : Ends} {f f' : Fr} (h : Comp w0 w bx bm bf bo fo m m' t bt ga gb gt f f') (k : Keep [] w w') : Comp w0 w' bx bm bf bo fo m m' t bt ga gb gt f f' :=
  ⟨h.1.keep0 k, h.2.1.keep k (by simp), h.2.2.1.keep k (by simp), h.2.2.2.keep k (by simp)⟩
theorem PhysAt.keep0' {w w' : World} {bm bf : Nat} {m : Mach} (h : PhysAt w bm bf m) (k : Keep [] w w') : PhysAt w' bm bf m := h.keep k (by simp) (by simp)

set_option maxRecDepth 100000 in
set_option maxHeartbeats 16000000 in
theorem law_apart {A : Option Addr} {es : List En} {c : Nat} (w : World) (hes : EnsAt w A es) (hlen : es.length ≤ 9223372036854775807) (caller n : Int) (fr t : Ends) :
    Calls Try.prog 3 #[.slice A es.length c, .int .i64 caller, fr.v, t.v, .int .i64 n] w fun e w' => e = .returned (.bool true) ∧ Keep [] w w' := by
  have HE : Hid (∀ W, Keep [] w W → EnsAt W A es) := Lib.hid (by
    intro W k kk e he
    obtain ⟨h1, a, h2, h3, h4⟩ := hes kk e he
    exact ⟨h1, a, h2, Nat.lt_of_lt_of_le h3 k.size, fun j v hv => k.cell_some (h4 j v hv) (by simp)⟩)
  clear hes
  unfold Ends.v endV
  go_enter Try.func3, Try.ntmps3
  go_wp2_with (first
    | (go_at_call 6; refine (law_begin _ (HE.out _ (by repeat (first | with_reducible exact Keep.refl _ _ | with_reducible assumption | with_reducible apply Keep.alloc | with_reducible apply Keep.drewN | with_reducible apply Keep.drew | (with_reducible refine Keep.setCell ?_ ?_ _) | focus (left; simp; done) | focus (right; simp; done) | focus (right; simp; omega)))) hlen).mono ?_; rintro e w1 ⟨B, rfl, HB, HK, HF⟩
       unfold ptrV
       obtain ⟨cp, cq, hx⟩ := id HB.x
       have x0 : w1.cell? ⟨B.bx, 0, none⟩ = some (.pointer (some ⟨B.bm, 0, none⟩)) := hx.cell 0
       have hb1 := (Blk.new w 24 [.bool fr.gr, .int .i64 fr.dom, .int .i64 fr.ref, .int .i64 fr.gpfn, .int .i64 fr.off]).alloc (.cells #[.bool t.gr, .int .i64 t.dom, .int .i64 t.ref, .int .i64 t.gpfn, .int .i64 t.off] 24) |>.keep HK (by simp)
       have hb2 := (Blk.new1 w (.cells #[.bool fr.gr, .int .i64 fr.dom, .int .i64 fr.ref, .int .i64 fr.gpfn, .int .i64 fr.off] 24) 24 [.bool t.gr, .int .i64 t.dom, .int .i64 t.ref, .int .i64 t.gpfn, .int .i64 t.off]).keep HK (by simp)
       have k1 : Keep [] w w1 := Keep.trans (by repeat (first | with_reducible exact Keep.refl _ _ | with_reducible assumption | with_reducible apply Keep.alloc | with_reducible apply Keep.drewN | with_reducible apply Keep.drew | (with_reducible refine Keep.setCell ?_ ?_ _) | focus (left; simp; done) | focus (right; simp; done) | focus (right; simp; omega))) HK)
    | (go_at_call 7; refine (phys_copy HB.g.ph).mono ?_; rintro e w2 ⟨bo, fo, rfl, HO, HK2, ho1, ho2⟩
       have x02 := HK2.cell_some x0 (by simp))
    | (go_at_call 8; refine (view_new (HB.keep0 HK2).g.ph (by rw [(HB.g.gd).1]; omega)).mono ?_; rintro e w3 ⟨rfl, HV, HK3⟩))
  have G3 := ((HB.keep0 HK2).keep0 HK3).g
  have k3 : Keep [] w w3 := (k1.trans HK2).trans HK3
  have k13 : Keep [] w1 w3 := HK2.trans HK3
  have x1 : w3.cell? ⟨B.bx, 1, none⟩ = some (.pointer (some ⟨B.bg, 0, none⟩)) := (hx.keep k13 (by simp)).cell 1
  have hb13 := hb1.keep k13 (by simp)
  have hb23 := hb2.keep k13 (by simp)
  have f0 : w3.cell? ⟨w.heap.size, 0, none⟩ = some (.bool fr.gr) := hb13.cell 0
  have f1 : w3.cell? ⟨w.heap.size, 1, none⟩ = some (.int .i64 fr.dom) := hb13.cell 1
  have f2 : w3.cell? ⟨w.heap.size, 2, none⟩ = some (.int .i64 fr.ref) := hb13.cell 2
  have f3 : w3.cell? ⟨w.heap.size, 3, none⟩ = some (.int .i64 fr.gpfn) := hb13.cell 3
  have f4 : w3.cell? ⟨w.heap.size, 4, none⟩ = some (.int .i64 fr.off) := hb13.cell 4
  have t0 : w3.cell? ⟨w.heap.size + 1, 0, none⟩ = some (.bool t.gr) := hb23.cell 0
  have t1 : w3.cell? ⟨w.heap.size + 1, 1, none⟩ = some (.int .i64 t.dom) := hb23.cell 1
  have t2 : w3.cell? ⟨w.heap.size + 1, 2, none⟩ = some (.int .i64 t.ref) := hb23.cell 2
  have t3 : w3.cell? ⟨w.heap.size + 1, 3, none⟩ = some (.int .i64 t.gpfn) := hb23.cell 3
  have t4 : w3.cell? ⟨w.heap.size + 1, 4, none⟩ = some (.int .i64 t.off) := hb23.cell 4
  have hxlt := hx.lt
  have hfresh : w.heap.size + 2 ≤ B.bf := by have := HF.2.1; simpa using this
  have hs12 := HK2.size
  have hs01 := k1.size
  have hlt2 := hb2.lt
  have n1 : B.bx ≠ B.bf := by
    obtain ⟨c, r, u, v⟩ := G3.ph.ex
    exact (hx.keep k13 (by simp)).ne_ v (by decide)
  have n2 : B.bx ∉ [w2.heap.size + 1, B.bf] := by simp; exact ⟨by omega, n1⟩
  have n3 : w.heap.size ∉ [w2.heap.size + 1, B.bf] := by simp; omega
  have n4 : w.heap.size + 1 ∉ [w2.heap.size + 1, B.bf] := by simp; omega
  have hbflt := HB.g.ph.ltf
  have hfolt := HO.ltf
  have n5 : fo ∉ [w2.heap.size + 1, B.bf] := by simp; omega
  have n6 : bo ∉ [w2.heap.size + 1, B.bf] := by
    obtain ⟨c, r, u, v⟩ := HO.ex
    obtain ⟨c', r', u', v'⟩ := (HB.keep0 HK2).g.ph.ex
    have := u.lt
    have := u.ne_ v' (by decide)
    simp
    exact ⟨by omega, this⟩
  have HSEEN : Hid (∀ (W : World) (m' : Mach), PhysAt W B.bm B.bf m' → Keep [w2.heap.size + 1, B.bf] w3 W → Seen w W B.bx B.bm B.bf bo fo (es.foldl layM (mk 12 3)) m' t (w.heap.size + 1)) := Lib.hid (by
    intro W m' hp hk
    exact ⟨k3.fresh hk (by intro x hx; simp at hx; omega), hp, (HO.keep0' HK3).keep hk n6 n5, ⟨_, (hx.keep k13 (by simp)).keep hk n2⟩, hb23.keep hk n4⟩)
  have HGOOD := Lib.hid HB.g.gd
  have HCOPY := Lib.hid (fun (W : World) (k : Keep [] w3 W) => grant_copy (G3.keep0 k) (HV.keep0 k) (by omega) caller fr.gr fr.dom fr.ref fr.gpfn fr.off t.gr t.dom t.ref t.gpfn t.off n)
  unfold endV at HCOPY
  clear hx hb1 hb2 hb13 hb23 G3 HB HO HV HF HK HK2 HK3 x0 x02 k1 k3 k13 ho1 ho2
  go_region_held3 (fun W => W.cell? ⟨B.bx, 1, none⟩ = some (.pointer (some ⟨B.bg, 0, none⟩)) ∧ W.cell? ⟨w.heap.size, 0, none⟩ = some (.bool fr.gr) ∧ W.cell? ⟨w.heap.size, 1, none⟩ = some (.int .i64 fr.dom) ∧ W.cell? ⟨w.heap.size, 2, none⟩ = some (.int .i64 fr.ref) ∧ W.cell? ⟨w.heap.size, 3, none⟩ = some (.int .i64 fr.gpfn) ∧ W.cell? ⟨w.heap.size, 4, none⟩ = some (.int .i64 fr.off)
      ∧ W.cell? ⟨w.heap.size + 1, 0, none⟩ = some (.bool t.gr) ∧ W.cell? ⟨w.heap.size + 1, 1, none⟩ = some (.int .i64 t.dom) ∧ W.cell? ⟨w.heap.size + 1, 2, none⟩ = some (.int .i64 t.ref) ∧ W.cell? ⟨w.heap.size + 1, 3, none⟩ = some (.int .i64 t.gpfn) ∧ W.cell? ⟨w.heap.size + 1, 4, none⟩ = some (.int .i64 t.off))
    (first | go_keep | exact HSS)
    (((go_at_call 9; refine (HCOPY.out _ (by repeat (first | with_reducible exact Keep.refl _ _ | with_reducible assumption | with_reducible apply Keep.alloc | with_reducible apply Keep.drewN | with_reducible apply Keep.drew | (with_reducible refine Keep.setCell ?_ ?_ _) | focus (left; simp; done) | focus (right; simp; done) | focus (right; simp; omega)))).mono ?_; rintro e w4 ⟨er, m', rfl, HP4, HC4, HK4⟩
       have HK4' : Keep [w2.heap.size + 1, B.bf] w3 w4 := Keep.trans (by repeat (first | with_reducible exact Keep.refl _ _ | with_reducible assumption | with_reducible apply Keep.alloc | with_reducible apply Keep.drewN | with_reducible apply Keep.drew | (with_reducible refine Keep.setCell ?_ ?_ _) | focus (left; simp; done) | focus (right; simp; done) | focus (right; simp; omega))) HK4
       have HSS := And.intro (HK4'.cell_some x1 n2) (And.intro (HK4'.cell_some f0 n3) (And.intro (HK4'.cell_some f1 n3) (And.intro (HK4'.cell_some f2 n3) (And.intro (HK4'.cell_some f3 n3) (And.intro (HK4'.cell_some f4 n3) (And.intro (HK4'.cell_some t0 n4) (And.intro (HK4'.cell_some t1 n4) (And.intro (HK4'.cell_some t2 n4) (And.intro (HK4'.cell_some t3 n4) (HK4'.cell_some t4 n4))))))))))
       have HS4 := Lib.hid (And.intro (HSEEN.out w4 m' HP4 HK4') HC4))))
  clear HCOPY HSEEN HSS HC4 HP4 HK4 HK4' x1 f0 f1 f2 f3 f4 t0 t1 t2 t3 t4 n1 n2 n3 n4 n5 n6 hfresh hs12 hs01 hlt2 hxlt hbflt hfolt
  generalize es.foldl layM (mk 12 3) = m0 at HS4 HGOOD
  have HE4 := Lib.hid HS4.out.1
  have HC := Lib.hid HS4.out.2
  clear HS4
  go_wp2
  go_loopw [16] (fun iv wr => ∃ k : Nat, k ≤ 13 ∧ iv = .int .i64 (k : Int) ∧ Seen w wr B.bx B.bm B.bf bo fo m0 m' t (w.heap.size + 1)) (fun iv _ => 13 - (intOf iv).toNat)
  case atStart => exact ⟨0, by omega, rfl, HE4.out⟩
  case round =>
    obtain ⟨k, hk, rfl, HS⟩ := hrel
    by_cases hk13 : k < 13
    · obtain ⟨f, hf, hfb, hfo, -⟩ := HGOOD.out.get hk13
      obtain ⟨f', hf', hfb', -⟩ := (HC.out.good HGOOD.out).get hk13
      have R1 : ∀ W, Seen w W B.bx B.bm B.bf bo fo m0 m' t (w.heap.size + 1) → Calls Try.prog 10 #[.pointer (some ⟨bo, 0, none⟩), .int .i64 (k : Int), .int .i64 0, .int .i64 256] W fun e w' =>
          e = .returned (.tuple #[.slice (some ⟨W.heap.size, 0, none⟩) 256 256, .int .i64 0]) ∧ Blk w' W.heap.size 5 (((f.b.drop 0).take 256).map byteV) ∧ Keep [] W w' := fun W h => phys_read_some h.o hf (off := 0) (n := 256) (by omega) (by omega)
      have R2 : ∀ W, Seen w W B.bx B.bm B.bf bo fo m0 m' t (w.heap.size + 1) → Calls Try.prog 10 #[.pointer (some ⟨B.bm, 0, none⟩), .int .i64 (k : Int), .int .i64 0, .int .i64 256] W fun e w' =>
          e = .returned (.tuple #[.slice (some ⟨W.heap.size, 0, none⟩) 256 256, .int .i64 0]) ∧ Blk w' W.heap.size 5 (((f'.b.drop 0).take 256).map byteV) ∧ Keep [] W w' := fun W h => phys_read_some h.p hf' (off := 0) (n := 256) (by omega) (by omega)
      rw [List.drop_zero, List.take_of_length_le (by omega)] at R1 R2
      have R1 := Lib.hid R1
      have R2 := Lib.hid R2
      have R3 := Lib.hid (fun W (h : Seen w W B.bx B.bm B.bf bo fo m0 m' t (w.heap.size + 1)) => phys_frame h.o (k : Int))
      have HV : Hid (m0.frameV (k : Int) = .tuple #[f.head, .int .i64 0]) := by show _ = _; simp [Mach.frameV, Mach.idx_cast, hf]
      unfold Fr.head at HV
      have HAT := Lib.hid (fun j => HC.out.at_ HGOOD.out hf hf' (k := j))
      have HX0 : Hid (∀ W, Seen w W B.bx B.bm B.bf bo fo m0 m' t (w.heap.size + 1) → W.cell? ⟨B.bx, 0, none⟩ = some (.pointer (some ⟨B.bm, 0, none⟩))) := Lib.hid (by
        intro W h
        obtain ⟨cs, hx⟩ := h.x
        exact hx.cell 0)
      have HS0 := Lib.hid HS
      have HF := Lib.hid (And.intro hfb hfb')
      clear HS hf hf' hfb hfb' hfo
      go_wp2_with fail
      refine (R1.out wr HS0.out).mono ?_
      rintro e w1 ⟨rfl, HB1, HK1⟩
      have HS1 := Lib.hid (HS0.out.keep0 HK1)
      have x0 := HX0.out _ HS1.out
      go_wp2_with fail
      refine (R2.out w1 HS1.out).mono ?_
      rintro e w2 ⟨rfl, HB2, HK2⟩
      have HS2 := Lib.hid (HS1.out.keep0 HK2)
      clear x0
      go_wp2_with fail
      refine (R3.out w2 HS2.out).mono ?_
      rw [HV.out]
      rintro e w3 ⟨rfl, HK3⟩
      go_wp2
      have hz1 : w1.heap.size = w1.heap.size := rfl
      have HCO : Hid (Comp w (w3.alloc (.cells #[.int .i64 f.o, .int .i64 f.ty, .int .i64 f.c, .int .i64 f.t] 46)) B.bx B.bm B.bf bo fo m0 m' t (w.heap.size + 1) wr.heap.size w1.heap.size w3.heap.size f f') :=
        Lib.hid ⟨(HS2.out.keep0 HK3).keep0 ((Keep.refl _ _).alloc _), ((HB1.keep HK2 (by simp)).keep HK3 (by simp)).alloc _, (HB2.keep HK3 (by simp)).alloc _, Blk.new w3 46 _⟩
      clear HB1 HB2 HK1 HK2 HK3 hz1
      generalize wr.heap.size = ga at HCO ⊢
      generalize w1.heap.size = gb at HCO ⊢
      generalize w3.heap.size = gt at HCO ⊢
      go_loopw [23] (fun jv wk => ∃ j : Nat, j ≤ 256 ∧ jv = .int .i64 (j : Int) ∧ Comp w wk B.bx B.bm B.bf bo fo m0 m' t (w.heap.size + 1) ga gb gt f f') (fun jv _ => 256 - (intOf jv).toNat)
      case atStart => exact ⟨0, by omega, rfl, HCO.out⟩
      case round =>
        obtain ⟨j, hj, rfl, HH⟩ := hrel
        by_cases hj256 : j < 256
        · obtain ⟨x, hx⟩ : ∃ x, f.b[j]? = some x := ⟨_, List.getElem?_eq_getElem (by have := HF.out.1; omega)⟩
          obtain ⟨y, hy⟩ : ∃ y, f'.b[j]? = some y := ⟨_, List.getElem?_eq_getElem (by have := HF.out.2; omega)⟩
          have a1 : wr.cell? ⟨ga, j, none⟩ = some (.int .u8 (x.toNat : Int)) := by rw [HH.2.1.cell, List.getElem?_map, hx]; rfl
          have a2 : wr.cell? ⟨gb, j, none⟩ = some (.int .u8 (y.toNat : Int)) := by rw [HH.2.2.1.cell, List.getElem?_map, hy]; rfl
          have a3 : wr.cell? ⟨gt, 0, none⟩ = some (.int .i64 f.o) := HH.2.2.2.cell 0
          have j0 : (0 : Int) ≤ (j : Int) := by omega
          have j1 : (j : Int) < 256 := by omega
          by_cases hxy : x = y
          · have c1 := bne_no (show (x.toNat : Int) = (y.toNat : Int) by rw [hxy])
            have HJ := Lib.hid HH
            clear hx hy hxy HH
            go_wp2
            go_quiet (fail)
            go_wp2
            go_roundw
            case rel => exact ⟨j + 1, by omega, by go_num, HJ.out.keep0 ((Keep.refl _ _).drewN _)⟩
            case measure => simp [intOf]; omega
          have hne : (x.toNat : Int) ≠ (y.toNat : Int) := by
            intro e
            exact hxy (UInt8.toNat_inj.1 (by omega))
          have c1 := bne_yes hne
          by_cases ho : f.o = caller
          · have c2 := bne_no ho
            have HJ := Lib.hid HH
            clear hx hy hxy HH hne ho
            go_wp2
            go_quiet (fail)
            go_wp2
            go_roundw
            case rel => exact ⟨j + 1, by omega, by go_num, HJ.out.keep0 ((Keep.refl _ _).drewN _)⟩
            case measure => simp [intOf]; omega
          have c2 := bne_yes ho
          have HP : Hid (Permit m0 caller t.gr t.dom t.ref f.o k j) := Lib.hid (by
            rcases HAT.out j (by rw [hx, hy]; simpa using hxy) with h | h
            · exact absurd h ho
            · exact h)
          have t0 : wr.cell? ⟨w.heap.size + 1, 0, none⟩ = some (.bool t.gr) := HH.1.t.cell 0
          have t1 : wr.cell? ⟨w.heap.size + 1, 1, none⟩ = some (.int .i64 t.dom) := HH.1.t.cell 1
          have t2 : wr.cell? ⟨w.heap.size + 1, 2, none⟩ = some (.int .i64 t.ref) := HH.1.t.cell 2
          have t3 : wr.cell? ⟨w.heap.size + 1, 3, none⟩ = some (.int .i64 t.gpfn) := HH.1.t.cell 3
          have t4 : wr.cell? ⟨w.heap.size + 1, 4, none⟩ = some (.int .i64 t.off) := HH.1.t.cell 4
          have HJ := Lib.hid HH
          have HPM := Lib.hid (fun W (kk : Keep [] wr W) => law_permits (HJ.out.keep0 kk).1.o t.gpfn t.off hj256 hk13 HP.out)
          unfold endV at HPM
          clear hx hy hxy HH hne ho
          go_wp2
          go_region_held3 (fun W => W.cell? ⟨ga, j, none⟩ = some (.int .u8 (x.toNat : Int)) ∧ W.cell? ⟨gb, j, none⟩ = some (.int .u8 (y.toNat : Int)) ∧ W.cell? ⟨gt, 0, none⟩ = some (.int .i64 f.o)
              ∧ W.cell? ⟨w.heap.size + 1, 0, none⟩ = some (.bool t.gr) ∧ W.cell? ⟨w.heap.size + 1, 1, none⟩ = some (.int .i64 t.dom) ∧ W.cell? ⟨w.heap.size + 1, 2, none⟩ = some (.int .i64 t.ref) ∧ W.cell? ⟨w.heap.size + 1, 3, none⟩ = some (.int .i64 t.gpfn) ∧ W.cell? ⟨w.heap.size + 1, 4, none⟩ = some (.int .i64 t.off))
            (first | go_keep | exact HSS)
            (((go_at_call 12; refine (HPM.out _ (by repeat (first | with_reducible exact Keep.refl _ _ | with_reducible assumption | with_reducible apply Keep.alloc | with_reducible apply Keep.drewN | with_reducible apply Keep.drew | (with_reducible refine Keep.setCell ?_ ?_ _) | focus (left; simp; done) | focus (right; simp; done) | focus (right; simp; omega)))).mono ?_; rintro e w5 ⟨rfl, HK5⟩
               have HK6 : Keep [] wr w5 := Keep.trans (by repeat (first | with_reducible exact Keep.refl _ _ | with_reducible assumption | with_reducible apply Keep.alloc | with_reducible apply Keep.drewN | with_reducible apply Keep.drew | (with_reducible refine Keep.setCell ?_ ?_ _) | focus (left; simp; done) | focus (right; simp; done) | focus (right; simp; omega))) HK5
               have HSS := And.intro (HK6.cell_some a1 (by simp)) (And.intro (HK6.cell_some a2 (by simp)) (And.intro (HK6.cell_some a3 (by simp)) (And.intro (HK6.cell_some t0 (by simp)) (And.intro (HK6.cell_some t1 (by simp)) (And.intro (HK6.cell_some t2 (by simp)) (And.intro (HK6.cell_some t3 (by simp)) (HK6.cell_some t4 (by simp))))))))
               have HJ5 := Lib.hid (HJ.out.keep0 HK6))))
          go_wp2
          go_roundw
          case rel => exact ⟨j + 1, by omega, by go_num, HJ5.out⟩
          case measure => simp [intOf]; omega
        · obtain rfl : j = 256 := by omega
          have HJ := Lib.hid HH.1
          clear HH
          go_wp2
          go_roundw
          case rel => exact ⟨k + 1, by omega, by go_num, HJ.out⟩
          case measure => simp [intOf]; omega
    · have hge : (13 : Int) ≤ (k : Int) := by omega
      obtain ⟨cs, hx⟩ := HS.x
      have x0 : wr.cell? ⟨B.bx, 0, none⟩ = some (.pointer (some ⟨B.bm, 0, none⟩)) := hx.cell 0
      have hl := (HC.out.good HGOOD.out).1
      have HZ := Lib.hid (phys_size HS.p)
      rw [hl] at HZ
      have HK := Lib.hid HS.k
      clear HS hx hl hk13
      go_wp2_with (go_at_call 13; refine HZ.out.mono ?_; rintro e w5 ⟨rfl, rfl⟩)
      go_ret
      exact ⟨rfl, HK.out⟩

end Go.Proofs.Ytkicpmfhnngndaa
