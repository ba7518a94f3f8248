/- What is proved: what lay does to both worlds. Conditions: the worlds lie in memory as Both says. -/
import Derived.Test.YtkicpmfhnngndaaLawB
import Derived.Deep.RegionHeld3
import Derived.Deep.DrawnRows
set_option linter.unusedSimpArgs false
set_option linter.unusedVariables false
namespace Go.Proofs.Ytkicpmfhnngndaa
open Go.RowKit
attribute [local go_sem ↓] Go.wp_at_zero Go.wp_at_succ

/-- An entry was laid. -/
def LayPost (w : World) (B : Bl) (m : Mach) (e : Ending) (w' : World) : Prop := e = .returned (.tuple #[]) ∧ Both w' B m ∧ Keep (B.bf :: B.pgs) w w'

section
variable {w w' : World} {B : Bl} {m m' : Mach} {S : List Nat}
theorem bytes_blk {w : World} {g : Nat} {e : En} {a : Nat} {r : List Nat} (hp : packN e.kind e.ro e.sub e.gdom e.gpfn e.off e.len = a :: r) (h : Blk w g 5 (natB (a ^^^ e.fl) :: r.map natB)) (ha : a ^^^ e.fl < 256) (hr : ∀ n ∈ r, n < 256) : Blk w g 5 (e.bytes.map byteV) := by
  have e1 : e.bytes = UInt8.ofNat (a ^^^ e.fl) :: r.map UInt8.ofNat := by unfold En.bytes; rw [hp]
  have e2 : ∀ n, n < 256 → byteV (UInt8.ofNat n) = natB n := by
    intro n hn
    unfold byteV natB
    rw [UInt8.toNat_ofNat_of_lt' (by simpa using hn)]
  rw [e1, List.map_cons, e2 _ ha, List.map_map]
  have e3 : r.map (byteV ∘ UInt8.ofNat) = r.map natB := List.map_congr_left fun n hn => e2 n (hr n hn)
  rw [e3]; exact h

set_option maxRecDepth 100000 in
set_option maxHeartbeats 8000000 in
theorem law_lay_no (h : Both w B m) {e : En} (hn : ¬ e.ok) :
    Calls Try.prog 14 #[.pointer (some ⟨B.bx, 0, none⟩), e.v] w fun ee w' => ee = .returned (.tuple #[]) ∧ Keep [] w w' := by
  obtain ⟨dom, ref, kind, ro, sub, gdom, gpfn, off, len, fl⟩ := e
  unfold En.v
  dsimp only
  by_cases hp : packOk kind gdom gpfn off len
  · have HP := Lib.hid (fun W => ref6_pack_ok (w := W) kind ro sub gdom gpfn off len hp)
    have hx : dom < 0 ∨ 2 < dom ∨ ref < 0 ∨ 32 ≤ ref := by
      unfold En.ok at hn
      dsimp only at hn
      by_cases h1 : dom < 0 ∨ 2 < dom ∨ ref < 0 ∨ 32 ≤ ref
      · exact h1
      · exact absurd ⟨hp, by omega⟩ hn
    clear hn hp
    unfold grV at HP
    by_cases c1 : dom < 0
    · clear hx
      go_enter Try.func14, Try.ntmps14
      go_wp2_with (go_at_call 50; refine (HP.out _).mono ?_; rintro e w1 ⟨g, rfl, HB, hg, HK⟩
                   have hb := (Blk.new w 56 [.int .i64 dom, .int .i64 ref, .int .i64 kind, .bool ro, .bool sub, .int .i64 gdom, .int .i64 gpfn, .int .i64 off, .int .i64 len, .int .u8 (fl : Int)]).keep HK (by simp)
                   have d0 : w1.cell? ⟨w.heap.size, 0, none⟩ = some (.int .i64 dom) := hb.cell 0)
      exact bodyPost_ret (v := .tuple #[]) (by simp [results, Try.results14, go_sem]) rfl ⟨rfl, Keep.trans (by repeat (first | with_reducible exact Keep.refl _ _ | with_reducible assumption | with_reducible apply Keep.alloc | with_reducible apply Keep.drewN | with_reducible apply Keep.drew | (with_reducible refine Keep.setCell ?_ ?_ _) | focus (left; simp; done) | focus (right; simp; done) | focus (right; simp; omega))) HK⟩
    by_cases c2 : 2 < dom
    · clear hx
      go_enter Try.func14, Try.ntmps14
      go_wp2_with (go_at_call 50; refine (HP.out _).mono ?_; rintro e w1 ⟨g, rfl, HB, hg, HK⟩
                   have hb := (Blk.new w 56 [.int .i64 dom, .int .i64 ref, .int .i64 kind, .bool ro, .bool sub, .int .i64 gdom, .int .i64 gpfn, .int .i64 off, .int .i64 len, .int .u8 (fl : Int)]).keep HK (by simp)
                   have d0 : w1.cell? ⟨w.heap.size, 0, none⟩ = some (.int .i64 dom) := hb.cell 0)
      exact bodyPost_ret (v := .tuple #[]) (by simp [results, Try.results14, go_sem]) rfl ⟨rfl, Keep.trans (by repeat (first | with_reducible exact Keep.refl _ _ | with_reducible assumption | with_reducible apply Keep.alloc | with_reducible apply Keep.drewN | with_reducible apply Keep.drew | (with_reducible refine Keep.setCell ?_ ?_ _) | focus (left; simp; done) | focus (right; simp; done) | focus (right; simp; omega))) HK⟩
    by_cases c3 : ref < 0
    · clear hx
      go_enter Try.func14, Try.ntmps14
      go_wp2_with (go_at_call 50; refine (HP.out _).mono ?_; rintro e w1 ⟨g, rfl, HB, hg, HK⟩
                   have hb := (Blk.new w 56 [.int .i64 dom, .int .i64 ref, .int .i64 kind, .bool ro, .bool sub, .int .i64 gdom, .int .i64 gpfn, .int .i64 off, .int .i64 len, .int .u8 (fl : Int)]).keep HK (by simp)
                   have d0 : w1.cell? ⟨w.heap.size, 0, none⟩ = some (.int .i64 dom) := hb.cell 0
                   have d1 : w1.cell? ⟨w.heap.size, 1, none⟩ = some (.int .i64 ref) := hb.cell 1)
      exact bodyPost_ret (v := .tuple #[]) (by simp [results, Try.results14, go_sem]) rfl ⟨rfl, Keep.trans (by repeat (first | with_reducible exact Keep.refl _ _ | with_reducible assumption | with_reducible apply Keep.alloc | with_reducible apply Keep.drewN | with_reducible apply Keep.drew | (with_reducible refine Keep.setCell ?_ ?_ _) | focus (left; simp; done) | focus (right; simp; done) | focus (right; simp; omega))) HK⟩
    have c4 : 32 ≤ ref := by omega
    clear hx
    go_enter Try.func14, Try.ntmps14
    go_wp2_with (go_at_call 50; refine (HP.out _).mono ?_; rintro e w1 ⟨g, rfl, HB, hg, HK⟩
                 have hb := (Blk.new w 56 [.int .i64 dom, .int .i64 ref, .int .i64 kind, .bool ro, .bool sub, .int .i64 gdom, .int .i64 gpfn, .int .i64 off, .int .i64 len, .int .u8 (fl : Int)]).keep HK (by simp)
                 have d0 : w1.cell? ⟨w.heap.size, 0, none⟩ = some (.int .i64 dom) := hb.cell 0
                 have d1 : w1.cell? ⟨w.heap.size, 1, none⟩ = some (.int .i64 ref) := hb.cell 1)
    exact bodyPost_ret (v := .tuple #[]) (by simp [results, Try.results14, go_sem]) rfl ⟨rfl, Keep.trans (by repeat (first | with_reducible exact Keep.refl _ _ | with_reducible assumption | with_reducible apply Keep.alloc | with_reducible apply Keep.drewN | with_reducible apply Keep.drew | (with_reducible refine Keep.setCell ?_ ?_ _) | focus (left; simp; done) | focus (right; simp; done) | focus (right; simp; omega))) HK⟩
  · have HP := Lib.hid (fun W => ref6_pack_bad (w := W) kind ro sub gdom gpfn off len hp)
    clear hn hp
    unfold grV at HP
    go_enter Try.func14, Try.ntmps14
    go_wp2_with (go_at_call 50; refine (HP.out _).mono ?_; rintro e w1 ⟨rfl, HK⟩)
    exact bodyPost_ret (v := .tuple #[]) (by simp [results, Try.results14, go_sem]) rfl ⟨rfl, Keep.trans (by repeat (first | with_reducible exact Keep.refl _ _ | with_reducible assumption | with_reducible apply Keep.alloc | with_reducible apply Keep.drewN | with_reducible apply Keep.drew | (with_reducible refine Keep.setCell ?_ ?_ _) | focus (left; simp; done) | focus (right; simp; done) | focus (right; simp; omega))) HK⟩

theorem RefAt.keepF {rm rf rb bm bf : Nat} {pgs : List Nat} {m2 : Mach} (r : RefAt w rm rf rb pgs m) (hp : PhysAt w bm bf m2) (k1 : Keep [bf] w w') : RefAt w' rm rf rb pgs m := by
  obtain ⟨c, rr, hx, hy⟩ := hp.ex
  obtain ⟨d1, d2, r1, r2, y1, y2, y3⟩ := r.ex
  exact r.keep k1 (by simpa using y1.ne_ hy (by decide)) (by simpa using y2.ne_ hy (by decide)) (by simpa using y3.ne_ hy (by decide)) (fun gg hgg => by
    obtain ⟨cs, hc⟩ := r.page hgg
    simpa using hc.ne_ hy (by decide))

set_option maxRecDepth 100000 in
set_option maxHeartbeats 8000000 in
theorem law_lay_yes (h : Both w B m) {e : En} (hn : e.ok) (hfl : e.fl < 256) :
    Calls Try.prog 14 #[.pointer (some ⟨B.bx, 0, none⟩), e.v] w fun ee w' => LayPost w B (layM m e) ee w' := by
  obtain ⟨d, r, f, hd, hd3, hr, hr32, hf, ho, hfb, hl, hw⟩ := layM_ok h.g.gd hn
  have HG := Lib.hid (layM_good (e := e) h.g.gd)
  rw [hl] at HG ⊢
  have hok := hn.1
  obtain ⟨a, rs, hpk, ha, hrs⟩ : ∃ a rs, packN e.kind e.ro e.sub e.gdom e.gpfn e.off e.len = a :: rs ∧ a < 256 ∧ ∀ n ∈ rs, n < 256 := by
    refine ⟨_, _, rfl, ?_, ?_⟩
    · obtain ⟨p1, p2, -⟩ := hok
      split <;> split <;> omega
    · obtain ⟨p1, p2, p3, p4, p5, p6, p7, p8, p9, p10, p11⟩ := hok
      intro n hn
      simp only [List.mem_cons, List.not_mem_nil, or_false] at hn
      rcases hn with rfl | rfl | rfl | rfl | rfl | rfl | rfl
      · omega
      · omega
      · omega
      · omega
      · omega
      · split <;> omega
      · split <;> omega
  have hax : a ^^^ e.fl < 256 := by have : a ^^^ e.fl < 2 ^ 8 := Nat.xor_lt_two_pow (by omega) (by omega); omega
  have hxor := u8_xor_nat a e.fl ha hfl
  have HBB := Lib.hid (fun (W : World) (g : Nat) (hb : Blk W g 5 (natB (a ^^^ e.fl) :: rs.map natB)) => bytes_blk hpk hb hax hrs)
  have hrl : rs.length = 7 := by have := congrArg List.length hpk; simpa [packN] using this.symm
  have HP := Lib.hid (fun W => ref6_pack_ok (w := W) e.kind e.ro e.sub e.gdom e.gpfn e.off e.len hok)
  unfold PackOk at HP
  rw [hpk] at HP
  have HW := Lib.hid hw
  have H0 := Lib.hid h
  have hbl := En.bytes_length e
  obtain ⟨dom, ref, kind, ro, sub, gdom, gpfn, off, len, fl⟩ := e
  generalize hbs : (En.bytes ⟨dom, ref, kind, ro, sub, gdom, gpfn, off, len, fl⟩) = bs at HG HBB HW hbl ⊢
  clear hbs
  dsimp only at hd hr HP HW HBB hxor
  subst hd
  subst hr
  unfold En.v
  unfold grV at HP
  dsimp only
  obtain ⟨cp, cq, hx⟩ := h.x
  have x0 : w.cell? ⟨B.bx, 0, none⟩ = some (.pointer (some ⟨B.bm, 0, none⟩)) := hx.cell 0
  have x3 : w.cell? ⟨B.bx, 3, none⟩ = some (.pointer (some ⟨B.rm, 0, none⟩)) := hx.cell 3
  have hxl := hx.lt
  have HW1 := Lib.hid (fun (W : World) (k : Keep [] w W) (g : Nat) (hb : Blk W g 5 (bs.map byteV)) => phys_write (c := 8) (H0.out.keep0 k).g.ph (4 * (d : Int)) (8 * (r : Int)) (BytesAt.ofBlk hb))
  rw [HW.out, hbl] at HW1
  clear hpk hok hf hfb hl hw hn h hax hx
  go_enter Try.func14, Try.ntmps14
  go_wp2_with (go_at_call 50; refine (HP.out _).mono ?_; rintro e w1 ⟨g, rfl, HB, hg, HK⟩
               have hb := (Blk.new w 56 [.int .i64 d, .int .i64 r, .int .i64 kind, .bool ro, .bool sub, .int .i64 gdom, .int .i64 gpfn, .int .i64 off, .int .i64 len, .int .u8 (fl : Int)]).keep HK (by simp)
               have d0 : w1.cell? ⟨w.heap.size, 0, none⟩ = some (.int .i64 d) := hb.cell 0
               have d1 : w1.cell? ⟨w.heap.size, 1, none⟩ = some (.int .i64 r) := hb.cell 1
               have d9 : w1.cell? ⟨w.heap.size, 9, none⟩ = some (.int .u8 (fl : Int)) := hb.cell 9
               have k1 : Keep [] w w1 := Keep.trans (by repeat (first | with_reducible exact Keep.refl _ _ | with_reducible assumption | with_reducible apply Keep.alloc | with_reducible apply Keep.drewN | with_reducible apply Keep.drew | (with_reducible refine Keep.setCell ?_ ?_ _) | focus (left; simp; done) | focus (right; simp; done) | focus (right; simp; omega))) HK
               have y0 := k1.cell_some x0 (by simp)
               have y3 := k1.cell_some x3 (by simp)
               have e0 : w1.cell? ⟨g, 0, none⟩ = some (.int .u8 (a : Int)) := HB.cell 0
               have e1 := HB.frozen)
  have hne : ¬ g = w.heap.size := by
    have := HB.ne_ hb (by decide)
    exact this
  have hg' : w.heap.size + 1 ≤ g := by simpa using hg
  have hgx : ¬ g = B.bx := by omega
  have hv4 : IntKind.i64.wrap (4 * (d : Int)) = 4 * (d : Int) := IntWalk.i64_in _ (by omega)
  have hv8 : IntKind.i64.wrap (8 * (r : Int)) = 8 * (r : Int) := IntWalk.i64_in _ (by omega)
  go_region
  generalize hw2 : (w1.setCell ⟨g, 0, none⟩ (Value.int IntKind.u8 ((a ^^^ fl : Nat) : Int))).drew = w2
  have HB2 : Blk w2 g 5 (bs.map byteV) := by rw [← hw2]; exact HBB.out _ _ (HB.set_ 0 (natB (a ^^^ fl)))
  have k2 : Keep [] w w2 := by rw [← hw2]; exact (k1.setCell (p := ⟨g, 0, none⟩) (.inr (by dsimp only; omega)) _).drew
  have hb2 : Blk w2 w.heap.size 56 [.int .i64 d, .int .i64 r, .int .i64 kind, .bool ro, .bool sub, .int .i64 gdom, .int .i64 gpfn, .int .i64 off, .int .i64 len, .int .u8 (fl : Int)] := by rw [← hw2]; exact hb.far (p := ⟨g, 0, none⟩) (fun e => hne e.symm) _
  clear hw2 d0 d1 d9 y0 y3 e0 e1 HB hb HK k1 hxor
  have d0 : w2.cell? ⟨w.heap.size, 0, none⟩ = some (.int .i64 d) := hb2.cell 0
  have d1 : w2.cell? ⟨w.heap.size, 1, none⟩ = some (.int .i64 r) := hb2.cell 1
  have y0 := k2.cell_some x0 (by simp)
  have y3 := k2.cell_some x3 (by simp)
  have hbf : ¬ w.heap.size = B.bf := by have := H0.out.g.ph.ltf; omega
  have hxf : ¬ B.bx = B.bf := by
    obtain ⟨cp, cq, hx⟩ := H0.out.x
    obtain ⟨c, r, u, v⟩ := H0.out.g.ph.ex
    exact hx.ne_ v (by decide)
  have hgf : ¬ g = B.bf := by have := H0.out.g.ph.ltf; omega
  have hpg : ∀ x ∈ B.pgs, x < w.heap.size := fun x hx => by obtain ⟨cs, hc⟩ := H0.out.r.page hx; exact hc.lt
  have hxp : (⟨B.bx, 0, none⟩ : Addr).block ∉ B.pgs := by
    obtain ⟨cp, cq, hx⟩ := H0.out.x
    exact hx.ne_page H0.out.r (by decide)
  have hep : (⟨w.heap.size, 0, none⟩ : Addr).block ∉ B.pgs := fun hx => by have := hpg _ hx; simp at this
  have HPG := Lib.hid hpg
  clear hpg
  go_wp2
  go_region_held3 (fun W => W.cell? ⟨B.bx, 0, none⟩ = some (.pointer (some ⟨B.bm, 0, none⟩)) ∧ W.cell? ⟨B.bx, 3, none⟩ = some (.pointer (some ⟨B.rm, 0, none⟩)) ∧ W.cell? ⟨w.heap.size, 0, none⟩ = some (.int .i64 d) ∧ W.cell? ⟨w.heap.size, 1, none⟩ = some (.int .i64 r))
    (go_keep)
    (((go_at_call 15; refine (HW1.out _ k2.drew g HB2).mono ?_; rintro e w3 ⟨rfl, HP3, HK3⟩
       have z0 : w3.cell? ⟨B.bx, 0, none⟩ = some (.pointer (some ⟨B.bm, 0, none⟩)) := HK3.cell_some (p := ⟨B.bx, 0, none⟩) (by go_keep) (by simpa using hxf)
       have z3 : w3.cell? ⟨B.bx, 3, none⟩ = some (.pointer (some ⟨B.rm, 0, none⟩)) := HK3.cell_some (p := ⟨B.bx, 3, none⟩) (by go_keep) (by simpa using hxf)
       have f0 : w3.cell? ⟨w.heap.size, 0, none⟩ = some (.int .i64 d) := HK3.cell_some (p := ⟨w.heap.size, 0, none⟩) (by go_keep) (by simpa using hbf)
       have f1 : w3.cell? ⟨w.heap.size, 1, none⟩ = some (.int .i64 r) := HK3.cell_some (p := ⟨w.heap.size, 1, none⟩) (by go_keep) (by simpa using hbf))))
  have HB3 := HB2.keep (S := [B.bf]) (Keep.trans (Keep.refl _ _).drew HK3) (by simpa using hgf)
  have RF3 := (H0.out.r.keep0 k2.drew).keepF (H0.out.keep0 k2.drew).g.ph HK3
  have HW5 := Lib.hid (fun (W : World) (k : Keep [] w3 W) => ref_write (c := 8) (RF3.keep0 k) (4 * (d : Int)) (8 * (r : Int)) (by omega) (BytesAt.ofBlk (HB3.keep k (by simp))) (fun x hx e => by have := HPG.out x hx; omega))
  rw [HW.out, hbl] at HW5
  have H3 := Lib.hid (And.intro (H0.out.keep0 k2.drew) (And.intro HK3 (And.intro HP3 k2)))
  clear HP3 HK3 HB3 RF3 k2 HW1 HB2 hb2
  have n0 := World.new_ne w3 _ z0
  have n1 := World.new_ne w3 _ f0
  go_wp2
  go_region_held3 (fun W => W.cell? ⟨B.bx, 0, none⟩ = some (.pointer (some ⟨B.bm, 0, none⟩)) ∧ W.cell? ⟨B.bx, 3, none⟩ = some (.pointer (some ⟨B.rm, 0, none⟩)) ∧ W.cell? ⟨w.heap.size, 0, none⟩ = some (.int .i64 d) ∧ W.cell? ⟨w.heap.size, 1, none⟩ = some (.int .i64 r))
    (go_keep)
    (((go_at_call 51; refine (HW5.out _ (by repeat (first | with_reducible exact Keep.refl _ _ | with_reducible assumption | with_reducible apply Keep.alloc | with_reducible apply Keep.drewN | with_reducible apply Keep.drew | (with_reducible refine Keep.setCell ?_ ?_ _) | focus (left; simp; done) | focus (right; simp; done) | focus (right; simp; omega)))).mono ?_; rintro e w4 ⟨rfl, HP4, HK4⟩
       have u0 : w4.cell? ⟨B.bx, 0, none⟩ = some (.pointer (some ⟨B.bm, 0, none⟩)) := HK4.cell_some (p := ⟨B.bx, 0, none⟩) (by go_keep) hxp
       have u3 : w4.cell? ⟨B.bx, 3, none⟩ = some (.pointer (some ⟨B.rm, 0, none⟩)) := HK4.cell_some (p := ⟨B.bx, 3, none⟩) (by go_keep) hxp
       have v0 : w4.cell? ⟨w.heap.size, 0, none⟩ = some (.int .i64 d) := HK4.cell_some (p := ⟨w.heap.size, 0, none⟩) (by go_keep) hep
       have v1 : w4.cell? ⟨w.heap.size, 1, none⟩ = some (.int .i64 r) := HK4.cell_some (p := ⟨w.heap.size, 1, none⟩) (by go_keep) hep)))
  go_wp2
  go_end0
  obtain ⟨A1, A2, A3, A4⟩ := H3.out
  have A5 : Keep B.pgs w3 w4 := Keep.trans (Keep.refl _ _).drew HK4
  refine ⟨rfl, A1.wrote HG.out A2 A3 A5 HP4, ?_⟩
  exact (A4.drew.mono (by simp)).trans ((A2.mono (by simp)).trans (A5.mono (by intro x hx _; simp [hx])))

theorem law_lay (h : Both w B m) (e : En) (hfl : e.fl < 256) :
    Calls Try.prog 14 #[.pointer (some ⟨B.bx, 0, none⟩), e.v] w fun ee w' => LayPost w B (layM m e) ee w' := by
  by_cases hn : e.ok
  · exact law_lay_yes h hn hfl
  · refine (law_lay_no h hn).mono ?_
    rintro ee w' ⟨rfl, hk⟩
    have e1 : layM m e = m := by unfold layM; rw [if_neg hn]
    rw [e1]
    exact ⟨rfl, h.keep0 hk, hk.mono (by simp)⟩
end

end Go.Proofs.Ytkicpmfhnngndaa
