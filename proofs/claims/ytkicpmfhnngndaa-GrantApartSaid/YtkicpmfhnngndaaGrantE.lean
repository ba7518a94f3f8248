/- What is proved: where a granted end of a copy lies (find of lent), with a view without rewrites. Conditions: the grants, the machine, the view, the places lie in memory. -/
import Derived.Test.YtkicpmfhnngndaaGrantD
set_option linter.unusedSimpArgs false
set_option linter.unusedVariables false
namespace Go.Proofs.Ytkicpmfhnngndaa
open Go.RowKit

/-- The view, at most so many reads on. -/
def ViewTo (w : World) (bv bd bm n : Nat) : Prop := ∃ k, k ≤ n ∧ ViewAt w bv bd bm k
theorem ViewAt.to {w w' : World} {bv bd bm k n : Nat} {S : List Nat} (h : ViewAt w bv bd bm k) (hk : k ≤ n) (kk : Keep S w w') (h0 : bv ∉ S) (h1 : bd ∉ S) : ViewTo w' bv bd bm n := ⟨k, hk, h.keep kk h0 h1⟩

/-- A granted place. u: the entry; l: the owner's places. -/
def lentSpot (m : Mach) (u : Option Gr) (l : List Int) (caller dom off n : Int) (wr : Bool) : Int × Int × Int := match u with
  | none => (0, 0, 60)
  | some g =>
    if ¬ (g.kind = 1 ∧ (g.dom : Int) = caller) then (0, 0, 60) else
    if (gFrame m l dom g.gpfn).2 ≠ 0 then (0, 0, (gFrame m l dom g.gpfn).2) else
    if wr = true ∧ g.ro = true then (0, 0, 62) else
    if isIn off n g.len = false then (0, 0, 63) else ((gFrame m l dom g.gpfn).1, g.off + off, 0)

theorem unpackG_le {l : List UInt8} {g : Gr} (h : unpackG l = some g) : g.off + g.len ≤ 256 := by
  unfold unpackG unpackN at h
  split at h
  · split at h
    · cases h
    · rename_i hn
      simp only [Option.some.injEq] at h
      subst h
      show byteAt l 6 + (byteAt l 7 + 1) ≤ 256
      omega
  · split at h
    · cases h
    · simp only [Option.some.injEq] at h
      subst h
      show 0 + 256 ≤ 256
      omega

section
variable {w w' : World} {bg b1 b2 bm bf bv bd nv : Nat} {m : Mach} {mem : List (Int × (Int × Nat))} {mp : List ((Int × Int) × Value)} {S : List Nat}
variable {pb p1 p2 : Nat} {l : List Int}

set_option maxRecDepth 100000 in
set_option maxHeartbeats 8000000 in
theorem lent_find_none (h : GHead w bg b1 b2 bm mem mp) (v : ViewAt w bv bd bm nv) {dom : Int} (ref off : Int) (wr : Bool) (caller n : Int) (hm : memOf mem dom = none ∨ isSlot ref = false) :
    Calls Try.prog 141 #[.agg #[.int .i64 dom, .int .i64 ref, .int .i64 off, .bool wr], .pointer (some ⟨bg, 0, none⟩), .pointer (some ⟨bv, 0, none⟩), .int .i64 caller, .int .i64 n] w fun e w' =>
      e = .returned (spotV (0, 0, 1)) ∧ Keep [bv] w w' ∧ ViewTo w' bv bd bm (nv + 1) := by
  have HJ := Lib.hid (fun W (k : Keep [] w W) => grant_joined (h.keep0 k) dom)
  have lv := v.hd.lt
  have lv2 := v.mp.lt
  rcases hx : memOf mem dom with _ | ⟨t, pb⟩
  · rw [hx] at HJ
    clear hm hx
    go_enter Try.func141, Try.ntmps141
    go_wp2_with (first
      | (go_at_call 55; refine (HJ.out _ (by repeat (first | with_reducible exact Keep.refl _ _ | with_reducible assumption | with_reducible apply Keep.alloc | with_reducible apply Keep.drewN | with_reducible apply Keep.drew | (with_reducible refine Keep.setCell ?_ ?_ _) | focus (left; simp; done) | focus (right; simp; done) | focus (right; simp; omega)))).mono ?_; rintro e w1 ⟨rfl, HK⟩
         have k1 : Keep [] w w1 := (((Keep.refl [] w).alloc _).alloc _).trans HK
         have hb1 := ((Blk.new w 222 [.int .i64 dom, .int .i64 ref, .int .i64 off, .bool wr]).alloc (.cells #[.int .i64 0, .int .i64 0] 182)).keep HK (by simp)
         have hb2 := (Blk.new1 w (.cells #[.int .i64 dom, .int .i64 ref, .int .i64 off, .bool wr] 222) 182 [.int .i64 0, .int .i64 0]).keep HK (by simp)
         have hc1 := hb1.cell
         have hc2 := hb2.cell
         have hf2 := hb2.frozen
         have hs1 := hb1.lt
         have hs2 := hb2.lt))
    have v1 := v.keep k1 (by simp) (by simp)
    have k4 : Keep [bv] w w1 := k1.mono (by simp)
    exact bodyPost_ret (v := spotV (0, 0, 1)) (by simp [results, Try.results141, go_sem, hc2, hs2, Nat.ne_of_lt hs2, spotV]) rfl ⟨rfl, (by repeat (first | with_reducible exact Keep.refl _ _ | with_reducible assumption | with_reducible apply Keep.alloc | with_reducible apply Keep.drewN | with_reducible apply Keep.drew | (with_reducible refine Keep.setCell ?_ ?_ _) | focus (left; simp; done) | focus (right; simp; done) | focus (right; simp; omega))), v1.to (S := [w.heap.size + 1]) (by omega) (by repeat (first | with_reducible exact Keep.refl _ _ | with_reducible assumption | with_reducible apply Keep.alloc | with_reducible apply Keep.drewN | with_reducible apply Keep.drew | (with_reducible refine Keep.setCell ?_ ?_ _) | focus (left; simp; done) | focus (right; simp; done) | focus (right; simp; omega))) (by simp; omega) (by simp; omega)⟩
  · rw [hx] at HJ hm
    have hs : isSlot ref = false := by rcases hm with h | h; · cases h
                                       · exact h
    have HS := Lib.hid hs
    clear hm hx hs
    go_enter Try.func141, Try.ntmps141
    go_wp2_with (first
      | (go_at_call 55; refine (HJ.out _ (by repeat (first | with_reducible exact Keep.refl _ _ | with_reducible assumption | with_reducible apply Keep.alloc | with_reducible apply Keep.drewN | with_reducible apply Keep.drew | (with_reducible refine Keep.setCell ?_ ?_ _) | focus (left; simp; done) | focus (right; simp; done) | focus (right; simp; omega)))).mono ?_; rintro e w1 ⟨rfl, HK⟩
         have k1 : Keep [] w w1 := (((Keep.refl [] w).alloc _).alloc _).trans HK
         have hb1 := ((Blk.new w 222 [.int .i64 dom, .int .i64 ref, .int .i64 off, .bool wr]).alloc (.cells #[.int .i64 0, .int .i64 0] 182)).keep HK (by simp)
         have hb2 := (Blk.new1 w (.cells #[.int .i64 dom, .int .i64 ref, .int .i64 off, .bool wr] 222) 182 [.int .i64 0, .int .i64 0]).keep HK (by simp)
         have hc1 := hb1.cell
         have hc2 := hb2.cell
         have hf2 := hb2.frozen
         have hs1 := hb1.lt
         have hs2 := hb2.lt)
      | (go_at_call 56; refine (grant_slot _ _).mono ?_; rw [HS.out]; rintro e w' ⟨rfl, rfl⟩))
    have v1 := v.keep k1 (by simp) (by simp)
    have k4 : Keep [bv] w w1 := k1.mono (by simp)
    exact bodyPost_ret (v := spotV (0, 0, 1)) (by simp [results, Try.results141, go_sem, hc2, hs2, Nat.ne_of_lt hs2, spotV]) rfl ⟨rfl, (by repeat (first | with_reducible exact Keep.refl _ _ | with_reducible assumption | with_reducible apply Keep.alloc | with_reducible apply Keep.drewN | with_reducible apply Keep.drew | (with_reducible refine Keep.setCell ?_ ?_ _) | focus (left; simp; done) | focus (right; simp; done) | focus (right; simp; omega))), v1.to (S := [w.heap.size + 1]) (by omega) (by repeat (first | with_reducible exact Keep.refl _ _ | with_reducible assumption | with_reducible apply Keep.alloc | with_reducible apply Keep.drewN | with_reducible apply Keep.drew | (with_reducible refine Keep.setCell ?_ ?_ _) | focus (left; simp; done) | focus (right; simp; done) | focus (right; simp; omega))) (by simp; omega) (by simp; omega)⟩

set_option maxRecDepth 100000 in
set_option maxHeartbeats 40000000 in
theorem lent_find_some (h : GHead w bg b1 b2 bm mem mp) (hp : PhysAt w bm bf m) (v : ViewAt w bv bd bm nv) (hn : nv < 1000) (hvf : bv ≠ bf) (hvm : bv ≠ bm) (hg1 : bg ≠ bv) (hg2 : b1 ≠ bv) (hg3 : b2 ≠ bv) (hq1 : pb ≠ bv) (hq2 : p1 ≠ bv) (hq3 : p2 ≠ bv)
    {dom : Int} {ref : Nat} (off : Int) (wr : Bool) (caller n : Int) {t : Nat} {f : Fr} (hm : memOf mem dom = some ((t : Int), pb)) (hl : P2mAt w pb p1 p2 l) (hf : m[t]? = some f) (hr : ref < 32) :
    Calls Try.prog 141 #[.agg #[.int .i64 dom, .int .i64 (ref : Int), .int .i64 off, .bool wr], .pointer (some ⟨bg, 0, none⟩), .pointer (some ⟨bv, 0, none⟩), .int .i64 caller, .int .i64 n] w fun e w' =>
      e = .returned (spotV (lentSpot m (unpackG ((f.b.drop (8 * ref)).take 8)) l caller dom off n wr)) ∧ Keep [bv] w w' ∧ ViewTo w' bv bd bm (nv + 1) := by
  have HJ := Lib.hid (fun W (k : Keep [] w W) => grant_joined (h.keep0 k) dom)
  rw [hm] at HJ
  have HS : Hid (isSlot (ref : Int) = true) := by show _ = _; simp [isSlot]; omega
  have HP := Lib.hid (fun W (k : Keep [] w W) => grant_permit (h.keep0 k) (hp.keep k (by simp) (by simp)) (v.keep k (by simp) (by simp)) hn hvf hvm caller hm hf hr)
  have HF := Lib.hid (fun W (k : Keep [bv] w W) (g : Int) => grant_frame (h.keep k (by simpa using hg1) (by simpa using hg2) (by simpa using hg3)) (hp.keep k (by simpa using fun e => hvm e.symm) (by simpa using fun e => hvf e.symm)) hm (hl.keep k (by simpa using hq1) (by simpa using hq2) (by simpa using hq3)) g)
  have lv := v.hd.lt
  have lv2 := v.mp.lt
  clear hm hf
  have hgb : ∀ g, unpackG ((f.b.drop (8 * ref)).take 8) = some g → g.off + g.len ≤ 256 := fun g hg => unpackG_le hg
  generalize unpackG ((f.b.drop (8 * ref)).take 8) = u at HP hgb ⊢
  rcases u with _ | g
  · clear hgb
    have HU : Hid (permV none caller = .tuple #[grZ, .int .i64 60]) := rfl
    simp only [lentSpot]
    go_enter Try.func141, Try.ntmps141
    go_wp2_with (first
      | (go_at_call 55; refine (HJ.out _ (by repeat (first | with_reducible exact Keep.refl _ _ | with_reducible assumption | with_reducible apply Keep.alloc | with_reducible apply Keep.drewN | with_reducible apply Keep.drew | (with_reducible refine Keep.setCell ?_ ?_ _) | focus (left; simp; done) | focus (right; simp; done) | focus (right; simp; omega)))).mono ?_; rintro e w1 ⟨rfl, HK⟩
         have k1 : Keep [] w w1 := (((Keep.refl [] w).alloc _).alloc _).trans HK
         have hb1 := ((Blk.new w 222 [.int .i64 dom, .int .i64 (ref : Int), .int .i64 off, .bool wr]).alloc (.cells #[.int .i64 0, .int .i64 0] 182)).keep HK (by simp)
         have hb2 := (Blk.new1 w (.cells #[.int .i64 dom, .int .i64 (ref : Int), .int .i64 off, .bool wr] 222) 182 [.int .i64 0, .int .i64 0]).keep HK (by simp)
         have hc1 := hb1.cell
         have hc2 := hb2.cell
         have hf2 := hb2.frozen
         have hs1 := hb1.lt
         have hs2 := hb2.lt)
      | (go_at_call 56; refine (grant_slot _ _).mono ?_; rw [HS.out]; rintro e w' ⟨rfl, rfl⟩)
      | (go_at_call 58; refine (HP.out _ k1).mono ?_; rw [HU.out]; rintro e w2 ⟨rfl, HK2, HV2⟩
         have k2 : Keep [bv] w w2 := (k1.mono (by simp)).trans HK2
         have hb1' := hb1.keep HK2 (by simp; omega)
         have hb2' := hb2.keep HK2 (by simp; omega)
         have hd1 := hb1'.cell
         have hd2 := hb2'.cell
         have hg2 := hb2'.frozen
         have ht1 := hb1'.lt
         have ht2 := hb2'.lt
         unfold grZ))
    exact bodyPost_ret (v := spotV (0, 0, 60)) (by simp [results, Try.results141, go_sem, hd2, ht2, Nat.ne_of_lt ht2, spotV]) rfl ⟨rfl, (by repeat (first | with_reducible exact Keep.refl _ _ | with_reducible assumption | with_reducible apply Keep.alloc | with_reducible apply Keep.drewN | with_reducible apply Keep.drew | (with_reducible refine Keep.setCell ?_ ?_ _) | focus (left; simp; done) | focus (right; simp; done) | focus (right; simp; omega))), HV2.to (S := [w.heap.size + 1]) (by omega) (by repeat (first | with_reducible exact Keep.refl _ _ | with_reducible assumption | with_reducible apply Keep.alloc | with_reducible apply Keep.drewN | with_reducible apply Keep.drew | (with_reducible refine Keep.setCell ?_ ?_ _) | focus (left; simp; done) | focus (right; simp; done) | focus (right; simp; omega))) (by simp; omega) (by simp; omega)⟩
  · have hgl := hgb g rfl
    have hlen : g.len ≤ 256 := by omega
    have HI := Lib.hid (fun W => grant_within off n g.len hlen W)
    by_cases hpm : g.kind = 1 ∧ (g.dom : Int) = caller
    · have HU : Hid (permV (some g) caller = .tuple #[g.v, .int .i64 0]) := by show _ = _; simp only [permV]; rw [if_pos hpm]
      rcases hG : gFrame m l dom g.gpfn with ⟨mfn, e0⟩
      have HE := Lib.hid hG
      by_cases he : e0 = 0
      · subst he
        rcases hI : isIn off n (g.len : Int) with _ | _
        · rw [hI] at HI
          cases wr
          · rw [show lentSpot m (some g) l caller dom off n false = (0, 0, 63) by simp [lentSpot, hpm, hG, hI]]
            clear hpm hG hI hgb
            go_enter Try.func141, Try.ntmps141
            go_wp2_with (first
              | (go_at_call 55; refine (HJ.out _ (by repeat (first | with_reducible exact Keep.refl _ _ | with_reducible assumption | with_reducible apply Keep.alloc | with_reducible apply Keep.drewN | with_reducible apply Keep.drew | (with_reducible refine Keep.setCell ?_ ?_ _) | focus (left; simp; done) | focus (right; simp; done) | focus (right; simp; omega)))).mono ?_; rintro e w1 ⟨rfl, HK⟩
                 have k1 : Keep [] w w1 := (((Keep.refl [] w).alloc _).alloc _).trans HK
                 have hb1 := ((Blk.new w 222 [.int .i64 dom, .int .i64 (ref : Int), .int .i64 off, .bool false]).alloc (.cells #[.int .i64 0, .int .i64 0] 182)).keep HK (by simp)
                 have hb2 := (Blk.new1 w (.cells #[.int .i64 dom, .int .i64 (ref : Int), .int .i64 off, .bool false] 222) 182 [.int .i64 0, .int .i64 0]).keep HK (by simp)
                 have hc1 := hb1.cell
                 have hc2 := hb2.cell
                 have hf2 := hb2.frozen
                 have hs1 := hb1.lt
                 have hs2 := hb2.lt)
              | (go_at_call 56; refine (grant_slot _ _).mono ?_; rw [HS.out]; rintro e w' ⟨rfl, rfl⟩)
              | (go_at_call 58; refine (HP.out _ k1).mono ?_; rw [HU.out]; rintro e w2 ⟨rfl, HK2, HV2⟩
                 have k2 : Keep [bv] w w2 := (k1.mono (by simp)).trans HK2
                 have hb1' := hb1.keep HK2 (by simp; omega)
                 have hb2' := hb2.keep HK2 (by simp; omega)
                 have hd1 := hb1'.cell
                 have hd2 := hb2'.cell
                 have hg2 := hb2'.frozen
                 have ht1 := hb1'.lt
                 have ht2 := hb2'.lt
                 unfold Gr.v)
              | (go_at_call 59; refine (HF.out _ (by repeat (first | with_reducible exact Keep.refl _ _ | with_reducible assumption | with_reducible apply Keep.alloc | with_reducible apply Keep.drewN | with_reducible apply Keep.drew | (with_reducible refine Keep.setCell ?_ ?_ _) | focus (left; simp; done) | focus (right; simp; done) | focus (right; simp; omega))) _).mono ?_; rw [HE.out]; rintro e w3 ⟨rfl, HK3⟩
                 have k3 : Keep [] w2 w3 := ((Keep.refl [] w2).alloc _).trans HK3
                 have hb3 := (Blk.new w2 54 [.int .i64 (g.kind : Int), .bool g.ro, .bool g.sub, .int .i64 (g.dom : Int), .int .i64 (g.gpfn : Int), .int .i64 (g.off : Int), .int .i64 (g.len : Int)]).keep HK3 (by simp)
                 have hb1'' := hb1'.keep k3 (by simp)
                 have hb2'' := hb2'.keep k3 (by simp)
                 have he1 := hb1''.cell
                 have he2 := hb2''.cell
                 have he3 := hb3.cell
                 have hh2 := hb2''.frozen
                 have hu1 := hb1''.lt
                 have hu2 := hb2''.lt
                 have hu3 := hb3.lt
                 have HV3 := HV2.keep k3 (by simp) (by simp)
                 have k4 : Keep [bv] w w3 := k2.trans (k3.mono (by simp)))
              | (go_at_call 64; refine (HI.out _).mono ?_; rintro e w' ⟨rfl, rfl⟩))
            exact bodyPost_ret (v := spotV (0, 0, 63)) (by simp [results, Try.results141, go_sem, he1, he2, hu2, Nat.ne_of_lt hu2, spotV]) rfl ⟨rfl, (by repeat (first | with_reducible exact Keep.refl _ _ | with_reducible assumption | with_reducible apply Keep.alloc | with_reducible apply Keep.drewN | with_reducible apply Keep.drew | (with_reducible refine Keep.setCell ?_ ?_ _) | focus (left; simp; done) | focus (right; simp; done) | focus (right; simp; omega))), HV3.to (S := [w.heap.size + 1]) (by omega) (by repeat (first | with_reducible exact Keep.refl _ _ | with_reducible assumption | with_reducible apply Keep.alloc | with_reducible apply Keep.drewN | with_reducible apply Keep.drew | (with_reducible refine Keep.setCell ?_ ?_ _) | focus (left; simp; done) | focus (right; simp; done) | focus (right; simp; omega))) (by simp; omega) (by simp; omega)⟩
          · rcases hro : g.ro with _ | _
            · rw [show lentSpot m (some g) l caller dom off n true = (0, 0, 63) by simp [lentSpot, hpm, hG, hI, hro]]
              clear hpm hG hI hgb
              go_enter Try.func141, Try.ntmps141
              go_wp2_with (first
                | (go_at_call 55; refine (HJ.out _ (by repeat (first | with_reducible exact Keep.refl _ _ | with_reducible assumption | with_reducible apply Keep.alloc | with_reducible apply Keep.drewN | with_reducible apply Keep.drew | (with_reducible refine Keep.setCell ?_ ?_ _) | focus (left; simp; done) | focus (right; simp; done) | focus (right; simp; omega)))).mono ?_; rintro e w1 ⟨rfl, HK⟩
                   have k1 : Keep [] w w1 := (((Keep.refl [] w).alloc _).alloc _).trans HK
                   have hb1 := ((Blk.new w 222 [.int .i64 dom, .int .i64 (ref : Int), .int .i64 off, .bool true]).alloc (.cells #[.int .i64 0, .int .i64 0] 182)).keep HK (by simp)
                   have hb2 := (Blk.new1 w (.cells #[.int .i64 dom, .int .i64 (ref : Int), .int .i64 off, .bool true] 222) 182 [.int .i64 0, .int .i64 0]).keep HK (by simp)
                   have hc1 := hb1.cell
                   have hc2 := hb2.cell
                   have hf2 := hb2.frozen
                   have hs1 := hb1.lt
                   have hs2 := hb2.lt)
                | (go_at_call 56; refine (grant_slot _ _).mono ?_; rw [HS.out]; rintro e w' ⟨rfl, rfl⟩)
                | (go_at_call 58; refine (HP.out _ k1).mono ?_; rw [HU.out]; rintro e w2 ⟨rfl, HK2, HV2⟩
                   have k2 : Keep [bv] w w2 := (k1.mono (by simp)).trans HK2
                   have hb1' := hb1.keep HK2 (by simp; omega)
                   have hb2' := hb2.keep HK2 (by simp; omega)
                   have hd1 := hb1'.cell
                   have hd2 := hb2'.cell
                   have hg2 := hb2'.frozen
                   have ht1 := hb1'.lt
                   have ht2 := hb2'.lt
                   unfold Gr.v)
                | (go_at_call 59; refine (HF.out _ (by repeat (first | with_reducible exact Keep.refl _ _ | with_reducible assumption | with_reducible apply Keep.alloc | with_reducible apply Keep.drewN | with_reducible apply Keep.drew | (with_reducible refine Keep.setCell ?_ ?_ _) | focus (left; simp; done) | focus (right; simp; done) | focus (right; simp; omega))) _).mono ?_; rw [HE.out]; rintro e w3 ⟨rfl, HK3⟩
                   have k3 : Keep [] w2 w3 := ((Keep.refl [] w2).alloc _).trans HK3
                   have hb3 := (Blk.new w2 54 [.int .i64 (g.kind : Int), .bool false, .bool g.sub, .int .i64 (g.dom : Int), .int .i64 (g.gpfn : Int), .int .i64 (g.off : Int), .int .i64 (g.len : Int)]).keep HK3 (by simp)
                   have hb1'' := hb1'.keep k3 (by simp)
                   have hb2'' := hb2'.keep k3 (by simp)
                   have he1 := hb1''.cell
                   have he2 := hb2''.cell
                   have he3 := hb3.cell
                   have hh2 := hb2''.frozen
                   have hu1 := hb1''.lt
                   have hu2 := hb2''.lt
                   have hu3 := hb3.lt
                   have HV3 := HV2.keep k3 (by simp) (by simp)
                   have k4 : Keep [bv] w w3 := k2.trans (k3.mono (by simp)))
                | (go_at_call 64; refine (HI.out _).mono ?_; rintro e w' ⟨rfl, rfl⟩))
              exact bodyPost_ret (v := spotV (0, 0, 63)) (by simp [results, Try.results141, go_sem, he1, he2, hu2, Nat.ne_of_lt hu2, spotV]) rfl ⟨rfl, (by repeat (first | with_reducible exact Keep.refl _ _ | with_reducible assumption | with_reducible apply Keep.alloc | with_reducible apply Keep.drewN | with_reducible apply Keep.drew | (with_reducible refine Keep.setCell ?_ ?_ _) | focus (left; simp; done) | focus (right; simp; done) | focus (right; simp; omega))), HV3.to (S := [w.heap.size + 1]) (by omega) (by repeat (first | with_reducible exact Keep.refl _ _ | with_reducible assumption | with_reducible apply Keep.alloc | with_reducible apply Keep.drewN | with_reducible apply Keep.drew | (with_reducible refine Keep.setCell ?_ ?_ _) | focus (left; simp; done) | focus (right; simp; done) | focus (right; simp; omega))) (by simp; omega) (by simp; omega)⟩
            · rw [show lentSpot m (some g) l caller dom off n true = (0, 0, 62) by simp [lentSpot, hpm, hG, hro]]
              clear hpm hG hI hgb
              go_enter Try.func141, Try.ntmps141
              go_wp2_with (first
                | (go_at_call 55; refine (HJ.out _ (by repeat (first | with_reducible exact Keep.refl _ _ | with_reducible assumption | with_reducible apply Keep.alloc | with_reducible apply Keep.drewN | with_reducible apply Keep.drew | (with_reducible refine Keep.setCell ?_ ?_ _) | focus (left; simp; done) | focus (right; simp; done) | focus (right; simp; omega)))).mono ?_; rintro e w1 ⟨rfl, HK⟩
                   have k1 : Keep [] w w1 := (((Keep.refl [] w).alloc _).alloc _).trans HK
                   have hb1 := ((Blk.new w 222 [.int .i64 dom, .int .i64 (ref : Int), .int .i64 off, .bool true]).alloc (.cells #[.int .i64 0, .int .i64 0] 182)).keep HK (by simp)
                   have hb2 := (Blk.new1 w (.cells #[.int .i64 dom, .int .i64 (ref : Int), .int .i64 off, .bool true] 222) 182 [.int .i64 0, .int .i64 0]).keep HK (by simp)
                   have hc1 := hb1.cell
                   have hc2 := hb2.cell
                   have hf2 := hb2.frozen
                   have hs1 := hb1.lt
                   have hs2 := hb2.lt)
                | (go_at_call 56; refine (grant_slot _ _).mono ?_; rw [HS.out]; rintro e w' ⟨rfl, rfl⟩)
                | (go_at_call 58; refine (HP.out _ k1).mono ?_; rw [HU.out]; rintro e w2 ⟨rfl, HK2, HV2⟩
                   have k2 : Keep [bv] w w2 := (k1.mono (by simp)).trans HK2
                   have hb1' := hb1.keep HK2 (by simp; omega)
                   have hb2' := hb2.keep HK2 (by simp; omega)
                   have hd1 := hb1'.cell
                   have hd2 := hb2'.cell
                   have hg2 := hb2'.frozen
                   have ht1 := hb1'.lt
                   have ht2 := hb2'.lt
                   unfold Gr.v)
                | (go_at_call 59; refine (HF.out _ (by repeat (first | with_reducible exact Keep.refl _ _ | with_reducible assumption | with_reducible apply Keep.alloc | with_reducible apply Keep.drewN | with_reducible apply Keep.drew | (with_reducible refine Keep.setCell ?_ ?_ _) | focus (left; simp; done) | focus (right; simp; done) | focus (right; simp; omega))) _).mono ?_; rw [HE.out]; rintro e w3 ⟨rfl, HK3⟩
                   have k3 : Keep [] w2 w3 := ((Keep.refl [] w2).alloc _).trans HK3
                   have hb3 := (Blk.new w2 54 [.int .i64 (g.kind : Int), .bool true, .bool g.sub, .int .i64 (g.dom : Int), .int .i64 (g.gpfn : Int), .int .i64 (g.off : Int), .int .i64 (g.len : Int)]).keep HK3 (by simp)
                   have hb1'' := hb1'.keep k3 (by simp)
                   have hb2'' := hb2'.keep k3 (by simp)
                   have he1 := hb1''.cell
                   have he2 := hb2''.cell
                   have he3 := hb3.cell
                   have hh2 := hb2''.frozen
                   have hu1 := hb1''.lt
                   have hu2 := hb2''.lt
                   have hu3 := hb3.lt
                   have HV3 := HV2.keep k3 (by simp) (by simp)
                   have k4 : Keep [bv] w w3 := k2.trans (k3.mono (by simp))))
              exact bodyPost_ret (v := spotV (0, 0, 62)) (by simp [results, Try.results141, go_sem, he1, he2, hu2, Nat.ne_of_lt hu2, spotV]) rfl ⟨rfl, (by repeat (first | with_reducible exact Keep.refl _ _ | with_reducible assumption | with_reducible apply Keep.alloc | with_reducible apply Keep.drewN | with_reducible apply Keep.drew | (with_reducible refine Keep.setCell ?_ ?_ _) | focus (left; simp; done) | focus (right; simp; done) | focus (right; simp; omega))), HV3.to (S := [w.heap.size + 1]) (by omega) (by repeat (first | with_reducible exact Keep.refl _ _ | with_reducible assumption | with_reducible apply Keep.alloc | with_reducible apply Keep.drewN | with_reducible apply Keep.drew | (with_reducible refine Keep.setCell ?_ ?_ _) | focus (left; simp; done) | focus (right; simp; done) | focus (right; simp; omega))) (by simp; omega) (by simp; omega)⟩
        · rw [hI] at HI
          have hI' : 0 ≤ off ∧ off ≤ g.len := by simp [isIn] at hI; omega
          obtain ⟨hI1, hI2⟩ := hI'
          have hw : IntKind.i64.wrap ((g.off : Int) + off) = (g.off : Int) + off := IntWalk.i64_in _ (by omega)
          cases wr
          · rw [show lentSpot m (some g) l caller dom off n false = (mfn, g.off + off, 0) by simp [lentSpot, hpm, hG, hI]]
            clear hpm hG hI hgb
            go_enter Try.func141, Try.ntmps141
            go_wp2_with (first
              | (go_at_call 55; refine (HJ.out _ (by repeat (first | with_reducible exact Keep.refl _ _ | with_reducible assumption | with_reducible apply Keep.alloc | with_reducible apply Keep.drewN | with_reducible apply Keep.drew | (with_reducible refine Keep.setCell ?_ ?_ _) | focus (left; simp; done) | focus (right; simp; done) | focus (right; simp; omega)))).mono ?_; rintro e w1 ⟨rfl, HK⟩
                 have k1 : Keep [] w w1 := (((Keep.refl [] w).alloc _).alloc _).trans HK
                 have hb1 := ((Blk.new w 222 [.int .i64 dom, .int .i64 (ref : Int), .int .i64 off, .bool false]).alloc (.cells #[.int .i64 0, .int .i64 0] 182)).keep HK (by simp)
                 have hb2 := (Blk.new1 w (.cells #[.int .i64 dom, .int .i64 (ref : Int), .int .i64 off, .bool false] 222) 182 [.int .i64 0, .int .i64 0]).keep HK (by simp)
                 have hc1 := hb1.cell
                 have hc2 := hb2.cell
                 have hf2 := hb2.frozen
                 have hs1 := hb1.lt
                 have hs2 := hb2.lt)
              | (go_at_call 56; refine (grant_slot _ _).mono ?_; rw [HS.out]; rintro e w' ⟨rfl, rfl⟩)
              | (go_at_call 58; refine (HP.out _ k1).mono ?_; rw [HU.out]; rintro e w2 ⟨rfl, HK2, HV2⟩
                 have k2 : Keep [bv] w w2 := (k1.mono (by simp)).trans HK2
                 have hb1' := hb1.keep HK2 (by simp; omega)
                 have hb2' := hb2.keep HK2 (by simp; omega)
                 have hd1 := hb1'.cell
                 have hd2 := hb2'.cell
                 have hg2 := hb2'.frozen
                 have ht1 := hb1'.lt
                 have ht2 := hb2'.lt
                 unfold Gr.v)
              | (go_at_call 59; refine (HF.out _ (by repeat (first | with_reducible exact Keep.refl _ _ | with_reducible assumption | with_reducible apply Keep.alloc | with_reducible apply Keep.drewN | with_reducible apply Keep.drew | (with_reducible refine Keep.setCell ?_ ?_ _) | focus (left; simp; done) | focus (right; simp; done) | focus (right; simp; omega))) _).mono ?_; rw [HE.out]; rintro e w3 ⟨rfl, HK3⟩
                 have k3 : Keep [] w2 w3 := ((Keep.refl [] w2).alloc _).trans HK3
                 have hb3 := (Blk.new w2 54 [.int .i64 (g.kind : Int), .bool g.ro, .bool g.sub, .int .i64 (g.dom : Int), .int .i64 (g.gpfn : Int), .int .i64 (g.off : Int), .int .i64 (g.len : Int)]).keep HK3 (by simp)
                 have hb1'' := hb1'.keep k3 (by simp)
                 have hb2'' := hb2'.keep k3 (by simp)
                 have he1 := hb1''.cell
                 have he2 := hb2''.cell
                 have he3 := hb3.cell
                 have hh2 := hb2''.frozen
                 have hu1 := hb1''.lt
                 have hu2 := hb2''.lt
                 have hu3 := hb3.lt
                 have HV3 := HV2.keep k3 (by simp) (by simp)
                 have k4 : Keep [bv] w w3 := k2.trans (k3.mono (by simp)))
              | (go_at_call 64; refine (HI.out _).mono ?_; rintro e w' ⟨rfl, rfl⟩))
            exact bodyPost_ret (v := spotV (mfn, g.off + off, 0)) (by simp [results, Try.results141, go_sem, he1, he2, hu2, Nat.ne_of_lt hu2, spotV]) rfl ⟨rfl, (by repeat (first | with_reducible exact Keep.refl _ _ | with_reducible assumption | with_reducible apply Keep.alloc | with_reducible apply Keep.drewN | with_reducible apply Keep.drew | (with_reducible refine Keep.setCell ?_ ?_ _) | focus (left; simp; done) | focus (right; simp; done) | focus (right; simp; omega))), HV3.to (S := [w.heap.size + 1]) (by omega) (by repeat (first | with_reducible exact Keep.refl _ _ | with_reducible assumption | with_reducible apply Keep.alloc | with_reducible apply Keep.drewN | with_reducible apply Keep.drew | (with_reducible refine Keep.setCell ?_ ?_ _) | focus (left; simp; done) | focus (right; simp; done) | focus (right; simp; omega))) (by simp; omega) (by simp; omega)⟩
          · rcases hro : g.ro with _ | _
            · rw [show lentSpot m (some g) l caller dom off n true = (mfn, g.off + off, 0) by simp [lentSpot, hpm, hG, hI, hro]]
              clear hpm hG hI hgb
              go_enter Try.func141, Try.ntmps141
              go_wp2_with (first
                | (go_at_call 55; refine (HJ.out _ (by repeat (first | with_reducible exact Keep.refl _ _ | with_reducible assumption | with_reducible apply Keep.alloc | with_reducible apply Keep.drewN | with_reducible apply Keep.drew | (with_reducible refine Keep.setCell ?_ ?_ _) | focus (left; simp; done) | focus (right; simp; done) | focus (right; simp; omega)))).mono ?_; rintro e w1 ⟨rfl, HK⟩
                   have k1 : Keep [] w w1 := (((Keep.refl [] w).alloc _).alloc _).trans HK
                   have hb1 := ((Blk.new w 222 [.int .i64 dom, .int .i64 (ref : Int), .int .i64 off, .bool true]).alloc (.cells #[.int .i64 0, .int .i64 0] 182)).keep HK (by simp)
                   have hb2 := (Blk.new1 w (.cells #[.int .i64 dom, .int .i64 (ref : Int), .int .i64 off, .bool true] 222) 182 [.int .i64 0, .int .i64 0]).keep HK (by simp)
                   have hc1 := hb1.cell
                   have hc2 := hb2.cell
                   have hf2 := hb2.frozen
                   have hs1 := hb1.lt
                   have hs2 := hb2.lt)
                | (go_at_call 56; refine (grant_slot _ _).mono ?_; rw [HS.out]; rintro e w' ⟨rfl, rfl⟩)
                | (go_at_call 58; refine (HP.out _ k1).mono ?_; rw [HU.out]; rintro e w2 ⟨rfl, HK2, HV2⟩
                   have k2 : Keep [bv] w w2 := (k1.mono (by simp)).trans HK2
                   have hb1' := hb1.keep HK2 (by simp; omega)
                   have hb2' := hb2.keep HK2 (by simp; omega)
                   have hd1 := hb1'.cell
                   have hd2 := hb2'.cell
                   have hg2 := hb2'.frozen
                   have ht1 := hb1'.lt
                   have ht2 := hb2'.lt
                   unfold Gr.v)
                | (go_at_call 59; refine (HF.out _ (by repeat (first | with_reducible exact Keep.refl _ _ | with_reducible assumption | with_reducible apply Keep.alloc | with_reducible apply Keep.drewN | with_reducible apply Keep.drew | (with_reducible refine Keep.setCell ?_ ?_ _) | focus (left; simp; done) | focus (right; simp; done) | focus (right; simp; omega))) _).mono ?_; rw [HE.out]; rintro e w3 ⟨rfl, HK3⟩
                   have k3 : Keep [] w2 w3 := ((Keep.refl [] w2).alloc _).trans HK3
                   have hb3 := (Blk.new w2 54 [.int .i64 (g.kind : Int), .bool false, .bool g.sub, .int .i64 (g.dom : Int), .int .i64 (g.gpfn : Int), .int .i64 (g.off : Int), .int .i64 (g.len : Int)]).keep HK3 (by simp)
                   have hb1'' := hb1'.keep k3 (by simp)
                   have hb2'' := hb2'.keep k3 (by simp)
                   have he1 := hb1''.cell
                   have he2 := hb2''.cell
                   have he3 := hb3.cell
                   have hh2 := hb2''.frozen
                   have hu1 := hb1''.lt
                   have hu2 := hb2''.lt
                   have hu3 := hb3.lt
                   have HV3 := HV2.keep k3 (by simp) (by simp)
                   have k4 : Keep [bv] w w3 := k2.trans (k3.mono (by simp)))
                | (go_at_call 64; refine (HI.out _).mono ?_; rintro e w' ⟨rfl, rfl⟩))
              exact bodyPost_ret (v := spotV (mfn, g.off + off, 0)) (by simp [results, Try.results141, go_sem, he1, he2, hu2, Nat.ne_of_lt hu2, spotV]) rfl ⟨rfl, (by repeat (first | with_reducible exact Keep.refl _ _ | with_reducible assumption | with_reducible apply Keep.alloc | with_reducible apply Keep.drewN | with_reducible apply Keep.drew | (with_reducible refine Keep.setCell ?_ ?_ _) | focus (left; simp; done) | focus (right; simp; done) | focus (right; simp; omega))), HV3.to (S := [w.heap.size + 1]) (by omega) (by repeat (first | with_reducible exact Keep.refl _ _ | with_reducible assumption | with_reducible apply Keep.alloc | with_reducible apply Keep.drewN | with_reducible apply Keep.drew | (with_reducible refine Keep.setCell ?_ ?_ _) | focus (left; simp; done) | focus (right; simp; done) | focus (right; simp; omega))) (by simp; omega) (by simp; omega)⟩
            · rw [show lentSpot m (some g) l caller dom off n true = (0, 0, 62) by simp [lentSpot, hpm, hG, hro]]
              clear hpm hG hI hgb
              go_enter Try.func141, Try.ntmps141
              go_wp2_with (first
                | (go_at_call 55; refine (HJ.out _ (by repeat (first | with_reducible exact Keep.refl _ _ | with_reducible assumption | with_reducible apply Keep.alloc | with_reducible apply Keep.drewN | with_reducible apply Keep.drew | (with_reducible refine Keep.setCell ?_ ?_ _) | focus (left; simp; done) | focus (right; simp; done) | focus (right; simp; omega)))).mono ?_; rintro e w1 ⟨rfl, HK⟩
                   have k1 : Keep [] w w1 := (((Keep.refl [] w).alloc _).alloc _).trans HK
                   have hb1 := ((Blk.new w 222 [.int .i64 dom, .int .i64 (ref : Int), .int .i64 off, .bool true]).alloc (.cells #[.int .i64 0, .int .i64 0] 182)).keep HK (by simp)
                   have hb2 := (Blk.new1 w (.cells #[.int .i64 dom, .int .i64 (ref : Int), .int .i64 off, .bool true] 222) 182 [.int .i64 0, .int .i64 0]).keep HK (by simp)
                   have hc1 := hb1.cell
                   have hc2 := hb2.cell
                   have hf2 := hb2.frozen
                   have hs1 := hb1.lt
                   have hs2 := hb2.lt)
                | (go_at_call 56; refine (grant_slot _ _).mono ?_; rw [HS.out]; rintro e w' ⟨rfl, rfl⟩)
                | (go_at_call 58; refine (HP.out _ k1).mono ?_; rw [HU.out]; rintro e w2 ⟨rfl, HK2, HV2⟩
                   have k2 : Keep [bv] w w2 := (k1.mono (by simp)).trans HK2
                   have hb1' := hb1.keep HK2 (by simp; omega)
                   have hb2' := hb2.keep HK2 (by simp; omega)
                   have hd1 := hb1'.cell
                   have hd2 := hb2'.cell
                   have hg2 := hb2'.frozen
                   have ht1 := hb1'.lt
                   have ht2 := hb2'.lt
                   unfold Gr.v)
                | (go_at_call 59; refine (HF.out _ (by repeat (first | with_reducible exact Keep.refl _ _ | with_reducible assumption | with_reducible apply Keep.alloc | with_reducible apply Keep.drewN | with_reducible apply Keep.drew | (with_reducible refine Keep.setCell ?_ ?_ _) | focus (left; simp; done) | focus (right; simp; done) | focus (right; simp; omega))) _).mono ?_; rw [HE.out]; rintro e w3 ⟨rfl, HK3⟩
                   have k3 : Keep [] w2 w3 := ((Keep.refl [] w2).alloc _).trans HK3
                   have hb3 := (Blk.new w2 54 [.int .i64 (g.kind : Int), .bool true, .bool g.sub, .int .i64 (g.dom : Int), .int .i64 (g.gpfn : Int), .int .i64 (g.off : Int), .int .i64 (g.len : Int)]).keep HK3 (by simp)
                   have hb1'' := hb1'.keep k3 (by simp)
                   have hb2'' := hb2'.keep k3 (by simp)
                   have he1 := hb1''.cell
                   have he2 := hb2''.cell
                   have he3 := hb3.cell
                   have hh2 := hb2''.frozen
                   have hu1 := hb1''.lt
                   have hu2 := hb2''.lt
                   have hu3 := hb3.lt
                   have HV3 := HV2.keep k3 (by simp) (by simp)
                   have k4 : Keep [bv] w w3 := k2.trans (k3.mono (by simp))))
              exact bodyPost_ret (v := spotV (0, 0, 62)) (by simp [results, Try.results141, go_sem, he1, he2, hu2, Nat.ne_of_lt hu2, spotV]) rfl ⟨rfl, (by repeat (first | with_reducible exact Keep.refl _ _ | with_reducible assumption | with_reducible apply Keep.alloc | with_reducible apply Keep.drewN | with_reducible apply Keep.drew | (with_reducible refine Keep.setCell ?_ ?_ _) | focus (left; simp; done) | focus (right; simp; done) | focus (right; simp; omega))), HV3.to (S := [w.heap.size + 1]) (by omega) (by repeat (first | with_reducible exact Keep.refl _ _ | with_reducible assumption | with_reducible apply Keep.alloc | with_reducible apply Keep.drewN | with_reducible apply Keep.drew | (with_reducible refine Keep.setCell ?_ ?_ _) | focus (left; simp; done) | focus (right; simp; done) | focus (right; simp; omega))) (by simp; omega) (by simp; omega)⟩
      · rw [show lentSpot m (some g) l caller dom off n wr = (0, 0, e0) by simp [lentSpot, hpm, hG, he]]
        have he' := bne_yes he
        clear hpm hG he hgb
        go_enter Try.func141, Try.ntmps141
        go_wp2_with (first
          | (go_at_call 55; refine (HJ.out _ (by repeat (first | with_reducible exact Keep.refl _ _ | with_reducible assumption | with_reducible apply Keep.alloc | with_reducible apply Keep.drewN | with_reducible apply Keep.drew | (with_reducible refine Keep.setCell ?_ ?_ _) | focus (left; simp; done) | focus (right; simp; done) | focus (right; simp; omega)))).mono ?_; rintro e w1 ⟨rfl, HK⟩
             have k1 : Keep [] w w1 := (((Keep.refl [] w).alloc _).alloc _).trans HK
             have hb1 := ((Blk.new w 222 [.int .i64 dom, .int .i64 (ref : Int), .int .i64 off, .bool wr]).alloc (.cells #[.int .i64 0, .int .i64 0] 182)).keep HK (by simp)
             have hb2 := (Blk.new1 w (.cells #[.int .i64 dom, .int .i64 (ref : Int), .int .i64 off, .bool wr] 222) 182 [.int .i64 0, .int .i64 0]).keep HK (by simp)
             have hc1 := hb1.cell
             have hc2 := hb2.cell
             have hf2 := hb2.frozen
             have hs1 := hb1.lt
             have hs2 := hb2.lt)
          | (go_at_call 56; refine (grant_slot _ _).mono ?_; rw [HS.out]; rintro e w' ⟨rfl, rfl⟩)
          | (go_at_call 58; refine (HP.out _ k1).mono ?_; rw [HU.out]; rintro e w2 ⟨rfl, HK2, HV2⟩
             have k2 : Keep [bv] w w2 := (k1.mono (by simp)).trans HK2
             have hb1' := hb1.keep HK2 (by simp; omega)
             have hb2' := hb2.keep HK2 (by simp; omega)
             have hd1 := hb1'.cell
             have hd2 := hb2'.cell
             have hg2 := hb2'.frozen
             have ht1 := hb1'.lt
             have ht2 := hb2'.lt
             unfold Gr.v)
          | (go_at_call 59; refine (HF.out _ (by repeat (first | with_reducible exact Keep.refl _ _ | with_reducible assumption | with_reducible apply Keep.alloc | with_reducible apply Keep.drewN | with_reducible apply Keep.drew | (with_reducible refine Keep.setCell ?_ ?_ _) | focus (left; simp; done) | focus (right; simp; done) | focus (right; simp; omega))) _).mono ?_; rw [HE.out]; rintro e w3 ⟨rfl, HK3⟩
             have k3 : Keep [] w2 w3 := ((Keep.refl [] w2).alloc _).trans HK3
             have hb3 := (Blk.new w2 54 [.int .i64 (g.kind : Int), .bool g.ro, .bool g.sub, .int .i64 (g.dom : Int), .int .i64 (g.gpfn : Int), .int .i64 (g.off : Int), .int .i64 (g.len : Int)]).keep HK3 (by simp)
             have hb1'' := hb1'.keep k3 (by simp)
             have hb2'' := hb2'.keep k3 (by simp)
             have he1 := hb1''.cell
             have he2 := hb2''.cell
             have he3 := hb3.cell
             have hh2 := hb2''.frozen
             have hu1 := hb1''.lt
             have hu2 := hb2''.lt
             have hu3 := hb3.lt
             have HV3 := HV2.keep k3 (by simp) (by simp)
             have k4 : Keep [bv] w w3 := k2.trans (k3.mono (by simp))))
        exact bodyPost_ret (v := spotV (0, 0, e0)) (by simp [results, Try.results141, go_sem, he1, he2, hu2, Nat.ne_of_lt hu2, spotV]) rfl ⟨rfl, (by repeat (first | with_reducible exact Keep.refl _ _ | with_reducible assumption | with_reducible apply Keep.alloc | with_reducible apply Keep.drewN | with_reducible apply Keep.drew | (with_reducible refine Keep.setCell ?_ ?_ _) | focus (left; simp; done) | focus (right; simp; done) | focus (right; simp; omega))), HV3.to (S := [w.heap.size + 1]) (by omega) (by repeat (first | with_reducible exact Keep.refl _ _ | with_reducible assumption | with_reducible apply Keep.alloc | with_reducible apply Keep.drewN | with_reducible apply Keep.drew | (with_reducible refine Keep.setCell ?_ ?_ _) | focus (left; simp; done) | focus (right; simp; done) | focus (right; simp; omega))) (by simp; omega) (by simp; omega)⟩
    · have HU : Hid (permV (some g) caller = .tuple #[g.v, .int .i64 60]) := by show _ = _; simp only [permV]; rw [if_neg hpm]
      rw [show lentSpot m (some g) l caller dom off n wr = (0, 0, 60) by simp only [lentSpot, if_pos hpm]]
      clear hpm hgb
      go_enter Try.func141, Try.ntmps141
      go_wp2_with (first
        | (go_at_call 55; refine (HJ.out _ (by repeat (first | with_reducible exact Keep.refl _ _ | with_reducible assumption | with_reducible apply Keep.alloc | with_reducible apply Keep.drewN | with_reducible apply Keep.drew | (with_reducible refine Keep.setCell ?_ ?_ _) | focus (left; simp; done) | focus (right; simp; done) | focus (right; simp; omega)))).mono ?_; rintro e w1 ⟨rfl, HK⟩
           have k1 : Keep [] w w1 := (((Keep.refl [] w).alloc _).alloc _).trans HK
           have hb1 := ((Blk.new w 222 [.int .i64 dom, .int .i64 (ref : Int), .int .i64 off, .bool wr]).alloc (.cells #[.int .i64 0, .int .i64 0] 182)).keep HK (by simp)
           have hb2 := (Blk.new1 w (.cells #[.int .i64 dom, .int .i64 (ref : Int), .int .i64 off, .bool wr] 222) 182 [.int .i64 0, .int .i64 0]).keep HK (by simp)
           have hc1 := hb1.cell
           have hc2 := hb2.cell
           have hf2 := hb2.frozen
           have hs1 := hb1.lt
           have hs2 := hb2.lt)
        | (go_at_call 56; refine (grant_slot _ _).mono ?_; rw [HS.out]; rintro e w' ⟨rfl, rfl⟩)
        | (go_at_call 58; refine (HP.out _ k1).mono ?_; rw [HU.out]; rintro e w2 ⟨rfl, HK2, HV2⟩
           have k2 : Keep [bv] w w2 := (k1.mono (by simp)).trans HK2
           have hb1' := hb1.keep HK2 (by simp; omega)
           have hb2' := hb2.keep HK2 (by simp; omega)
           have hd1 := hb1'.cell
           have hd2 := hb2'.cell
           have hg2 := hb2'.frozen
           have ht1 := hb1'.lt
           have ht2 := hb2'.lt
           unfold Gr.v))
      exact bodyPost_ret (v := spotV (0, 0, 60)) (by simp [results, Try.results141, go_sem, hd1, hd2, ht2, Nat.ne_of_lt ht2, spotV]) rfl ⟨rfl, (by repeat (first | with_reducible exact Keep.refl _ _ | with_reducible assumption | with_reducible apply Keep.alloc | with_reducible apply Keep.drewN | with_reducible apply Keep.drew | (with_reducible refine Keep.setCell ?_ ?_ _) | focus (left; simp; done) | focus (right; simp; done) | focus (right; simp; omega))), HV2.to (S := [w.heap.size + 1]) (by omega) (by repeat (first | with_reducible exact Keep.refl _ _ | with_reducible assumption | with_reducible apply Keep.alloc | with_reducible apply Keep.drewN | with_reducible apply Keep.drew | (with_reducible refine Keep.setCell ?_ ?_ _) | focus (left; simp; done) | focus (right; simp; done) | focus (right; simp; omega))) (by simp; omega) (by simp; omega)⟩
end

end Go.Proofs.Ytkicpmfhnngndaa
