/- What is proved: where an end of a copy lies (find of Grants), with a view without rewrites. Conditions: the grants, the machine, the view, the places lie in memory. -/
import Derived.Test.YtkicpmfhnngndaaGrantE
set_option linter.unusedSimpArgs false
set_option linter.unusedVariables false
namespace Go.Proofs.Ytkicpmfhnngndaa
open Go.RowKit

theorem meth_own (d : Nat) (x : Value) (w : World) : (method (d + 1) 218 x "tenement/grant.find").run Try.prog w = .ok (140, x) w := by kernel_rfl
theorem meth_lent (d : Nat) (x : Value) (w : World) : (method (d + 1) 222 x "tenement/grant.find").run Try.prog w = .ok (141, x) w := by kernel_rfl
theorem as_own (x : Value) (w : World) : (Instr.typeAssert (.iface 218 x) 220 222 true).run Try.prog w = .ok (.tuple #[.agg #[.int .i64 0, .int .i64 0, .int .i64 0, .bool false], .bool false]) w := by kernel_rfl
theorem as_lent (x : Value) (w : World) : (Instr.typeAssert (.iface 222 x) 220 222 true).run Try.prog w = .ok (.tuple #[x, .bool true]) w := by kernel_rfl

def endV (gr : Bool) (dom ref gpfn off : Int) : Value := .agg #[.bool gr, .int .i64 dom, .int .i64 ref, .int .i64 gpfn, .int .i64 off]

section
variable {w w' : World} {bg b1 b2 bm bf bv bd nv : Nat} {m : Mach} {mem : List (Int × (Int × Nat))} {mp : List ((Int × Int) × Value)} {S : List Nat}

set_option maxRecDepth 100000 in
set_option maxHeartbeats 8000000 in
theorem grant_find_own (h : GHead w bg b1 b2 bm mem mp) (v : ViewAt w bv bd bm nv) {caller : Int} (hc : isDom caller = true) (dom ref gpfn : Int) {off n : Int} (h0 : 0 ≤ n) (h1 : 0 ≤ off) (wr : Bool) {s : Int × Int × Int} {k : Nat}
    (HO : ∀ W, Keep [] w W → Calls Try.prog 140 #[.agg #[.int .i64 gpfn, .int .i64 off], .pointer (some ⟨bg, 0, none⟩), .pointer (some ⟨bv, 0, none⟩), .int .i64 caller, .int .i64 n] W fun e w' => e = .returned (spotV s) ∧ Keep [bv] W w' ∧ ViewTo w' bv bd bm k) :
    Calls Try.prog 87 #[.pointer (some ⟨bg, 0, none⟩), .pointer (some ⟨bv, 0, none⟩), .int .i64 caller, endV false dom ref gpfn off, .int .i64 n, .bool wr] w fun e w' =>
      e = .returned (spotV s) ∧ Keep [bv] w w' ∧ ViewTo w' bv bd bm k := by
  obtain ⟨s0, s1, s2⟩ := s
  have HO := Lib.hid HO
  have HG := Lib.hid (fun W (k : Keep [] w W) => grant_none (h.keep0 k))
  have HV := Lib.hid (fun W (k : Keep [] w W) => grant_unmade (v.keep k (by simp) (by simp)))
  have HD := Lib.hid (fun W => grant_domain caller W)
  rw [hc] at HD
  have a1 := as_own
  have i1 := meth_own
  have lv := v.hd.lt
  have lv2 := v.mp.lt
  unfold endV
  unfold spotV at HO
  clear hc
  go_enter Try.func87, Try.ntmps87
  go_wp2_with (first
    | (go_at_call 52; refine (HG.out _ (by repeat (first | with_reducible exact Keep.refl _ _ | with_reducible assumption | with_reducible apply Keep.alloc | with_reducible apply Keep.drewN | with_reducible apply Keep.drew | (with_reducible refine Keep.setCell ?_ ?_ _) | focus (left; simp; done) | focus (right; simp; done) | focus (right; simp; omega)))).mono ?_; rintro e w1 ⟨rfl, rfl⟩)
    | (go_at_call 53; refine (HV.out _ (by repeat (first | with_reducible exact Keep.refl _ _ | with_reducible assumption | with_reducible apply Keep.alloc | with_reducible apply Keep.drewN | with_reducible apply Keep.drew | (with_reducible refine Keep.setCell ?_ ?_ _) | focus (left; simp; done) | focus (right; simp; done) | focus (right; simp; omega)))).mono ?_; rintro e w1 ⟨rfl, rfl⟩)
    | (go_at_call 54; refine (HD.out _).mono ?_; rintro e w1 ⟨rfl, rfl⟩)
    | (go_at_call 140; refine (HO.out _ (by repeat (first | with_reducible exact Keep.refl _ _ | with_reducible assumption | with_reducible apply Keep.alloc | with_reducible apply Keep.drewN | with_reducible apply Keep.drew | (with_reducible refine Keep.setCell ?_ ?_ _) | focus (left; simp; done) | focus (right; simp; done) | focus (right; simp; omega)))).mono ?_; rintro e w1 ⟨rfl, HK, HVV⟩
       have hb2 := ((Blk.new1 w (.cells #[.bool false, .int .i64 dom, .int .i64 ref, .int .i64 gpfn, .int .i64 off] 24) 182 [.int .i64 0, .int .i64 0]).alloc (.cells #[.int .i64 0, .int .i64 0, .int .i64 0, .bool false] 222)).keep HK (by simp; omega)
       have hc2 := hb2.cell
       have hf2 := hb2.frozen
       have hs2 := hb2.lt))
  have k4 : Keep [bv] w w1 := ((((Keep.refl [bv] w).alloc _).alloc _).alloc _).trans HK
  obtain ⟨kk, hkk, hvv⟩ := HVV
  exact bodyPost_ret (v := spotV (s0, s1, s2)) (by simp [results, Try.results87, go_sem, hc2, hs2, Nat.ne_of_lt hs2, spotV]) rfl ⟨rfl, (by repeat (first | with_reducible exact Keep.refl _ _ | with_reducible assumption | with_reducible apply Keep.alloc | with_reducible apply Keep.drewN | with_reducible apply Keep.drew | (with_reducible refine Keep.setCell ?_ ?_ _) | focus (left; simp; done) | focus (right; simp; done) | focus (right; simp; omega))), hvv.to (S := [w.heap.size + 1]) hkk (by repeat (first | with_reducible exact Keep.refl _ _ | with_reducible assumption | with_reducible apply Keep.alloc | with_reducible apply Keep.drewN | with_reducible apply Keep.drew | (with_reducible refine Keep.setCell ?_ ?_ _) | focus (left; simp; done) | focus (right; simp; done) | focus (right; simp; omega))) (by simp; omega) (by simp; omega)⟩
set_option maxRecDepth 100000 in
set_option maxHeartbeats 8000000 in
theorem grant_find_lent (h : GHead w bg b1 b2 bm mem mp) (v : ViewAt w bv bd bm nv) {caller : Int} (hc : isDom caller = true) (dom ref gpfn : Int) {off n : Int} (h0 : 0 ≤ n) (h1 : 0 ≤ off) (wr : Bool) {s : Int × Int × Int} {k : Nat}
    (HO : ∀ W, Keep [] w W → Calls Try.prog 141 #[.agg #[.int .i64 dom, .int .i64 ref, .int .i64 off, .bool wr], .pointer (some ⟨bg, 0, none⟩), .pointer (some ⟨bv, 0, none⟩), .int .i64 caller, .int .i64 n] W fun e w' => e = .returned (spotV s) ∧ Keep [bv] W w' ∧ ViewTo w' bv bd bm k) :
    Calls Try.prog 87 #[.pointer (some ⟨bg, 0, none⟩), .pointer (some ⟨bv, 0, none⟩), .int .i64 caller, endV true dom ref gpfn off, .int .i64 n, .bool wr] w fun e w' =>
      e = .returned (spotV s) ∧ Keep [bv] w w' ∧ ViewTo w' bv bd bm k := by
  obtain ⟨s0, s1, s2⟩ := s
  have HO := Lib.hid HO
  have HG := Lib.hid (fun W (k : Keep [] w W) => grant_none (h.keep0 k))
  have HV := Lib.hid (fun W (k : Keep [] w W) => grant_unmade (v.keep k (by simp) (by simp)))
  have HD := Lib.hid (fun W => grant_domain caller W)
  rw [hc] at HD
  have a1 := as_lent
  have i1 := meth_lent
  have lv := v.hd.lt
  have lv2 := v.mp.lt
  unfold endV
  unfold spotV at HO
  clear hc
  go_enter Try.func87, Try.ntmps87
  go_wp2_with (first
    | (go_at_call 52; refine (HG.out _ (by repeat (first | with_reducible exact Keep.refl _ _ | with_reducible assumption | with_reducible apply Keep.alloc | with_reducible apply Keep.drewN | with_reducible apply Keep.drew | (with_reducible refine Keep.setCell ?_ ?_ _) | focus (left; simp; done) | focus (right; simp; done) | focus (right; simp; omega)))).mono ?_; rintro e w1 ⟨rfl, rfl⟩)
    | (go_at_call 53; refine (HV.out _ (by repeat (first | with_reducible exact Keep.refl _ _ | with_reducible assumption | with_reducible apply Keep.alloc | with_reducible apply Keep.drewN | with_reducible apply Keep.drew | (with_reducible refine Keep.setCell ?_ ?_ _) | focus (left; simp; done) | focus (right; simp; done) | focus (right; simp; omega)))).mono ?_; rintro e w1 ⟨rfl, rfl⟩)
    | (go_at_call 54; refine (HD.out _).mono ?_; rintro e w1 ⟨rfl, rfl⟩)
    | (go_at_call 141; refine (HO.out _ (by repeat (first | with_reducible exact Keep.refl _ _ | with_reducible assumption | with_reducible apply Keep.alloc | with_reducible apply Keep.drewN | with_reducible apply Keep.drew | (with_reducible refine Keep.setCell ?_ ?_ _) | focus (left; simp; done) | focus (right; simp; done) | focus (right; simp; omega)))).mono ?_; rintro e w1 ⟨rfl, HK, HVV⟩
       have hb2 := ((Blk.new1 w (.cells #[.bool true, .int .i64 dom, .int .i64 ref, .int .i64 gpfn, .int .i64 off] 24) 182 [.int .i64 0, .int .i64 0]).alloc (.cells #[.int .i64 dom, .int .i64 ref, .int .i64 off, .bool wr] 222)).keep HK (by simp; omega)
       have hc2 := hb2.cell
       have hf2 := hb2.frozen
       have hs2 := hb2.lt))
  have k4 : Keep [bv] w w1 := ((((Keep.refl [bv] w).alloc _).alloc _).alloc _).trans HK
  obtain ⟨kk, hkk, hvv⟩ := HVV
  exact bodyPost_ret (v := spotV (s0, s1, s2)) (by simp [results, Try.results87, go_sem, hc2, hs2, Nat.ne_of_lt hs2, spotV]) rfl ⟨rfl, (by repeat (first | with_reducible exact Keep.refl _ _ | with_reducible assumption | with_reducible apply Keep.alloc | with_reducible apply Keep.drewN | with_reducible apply Keep.drew | (with_reducible refine Keep.setCell ?_ ?_ _) | focus (left; simp; done) | focus (right; simp; done) | focus (right; simp; omega))), hvv.to (S := [w.heap.size + 1]) hkk (by repeat (first | with_reducible exact Keep.refl _ _ | with_reducible assumption | with_reducible apply Keep.alloc | with_reducible apply Keep.drewN | with_reducible apply Keep.drew | (with_reducible refine Keep.setCell ?_ ?_ _) | focus (left; simp; done) | focus (right; simp; done) | focus (right; simp; omega))) (by simp; omega) (by simp; omega)⟩

set_option maxRecDepth 100000 in
set_option maxHeartbeats 8000000 in
theorem grant_find_bad (h : GHead w bg b1 b2 bm mem mp) (v : ViewAt w bv bd bm nv) {caller : Int} (gr : Bool) (dom ref gpfn : Int) {off n : Int} (hx : isDom caller = false ∨ n < 0 ∨ off < 0) (wr : Bool) :
    Calls Try.prog 87 #[.pointer (some ⟨bg, 0, none⟩), .pointer (some ⟨bv, 0, none⟩), .int .i64 caller, endV gr dom ref gpfn off, .int .i64 n, .bool wr] w fun e w' =>
      e = .returned (spotV (0, 0, 1)) ∧ Keep [bv] w w' ∧ ViewTo w' bv bd bm (nv + 1) := by
  have HG := Lib.hid (fun W (k : Keep [] w W) => grant_none (h.keep0 k))
  have HV := Lib.hid (fun W (k : Keep [] w W) => grant_unmade (v.keep k (by simp) (by simp)))
  have HD := Lib.hid (fun W => grant_domain caller W)
  have lv := v.hd.lt
  have lv2 := v.mp.lt
  unfold endV
  have fin : Keep [bv] w w := Keep.refl _ _
  rcases hd : isDom caller with _ | _
  · rw [hd] at HD
    clear hx hd
    go_enter Try.func87, Try.ntmps87
    go_wp2_with (first
      | (go_at_call 52; refine (HG.out _ (by repeat (first | with_reducible exact Keep.refl _ _ | with_reducible assumption | with_reducible apply Keep.alloc | with_reducible apply Keep.drewN | with_reducible apply Keep.drew | (with_reducible refine Keep.setCell ?_ ?_ _) | focus (left; simp; done) | focus (right; simp; done) | focus (right; simp; omega)))).mono ?_; rintro e w1 ⟨rfl, rfl⟩)
      | (go_at_call 53; refine (HV.out _ (by repeat (first | with_reducible exact Keep.refl _ _ | with_reducible assumption | with_reducible apply Keep.alloc | with_reducible apply Keep.drewN | with_reducible apply Keep.drew | (with_reducible refine Keep.setCell ?_ ?_ _) | focus (left; simp; done) | focus (right; simp; done) | focus (right; simp; omega)))).mono ?_; rintro e w1 ⟨rfl, rfl⟩)
      | (go_at_call 54; refine (HD.out _).mono ?_; rintro e w1 ⟨rfl, rfl⟩))
    exact bodyPost_ret (v := spotV (0, 0, 1)) (by simp [results, Try.results87, go_sem, spotV]) rfl ⟨rfl, (by repeat (first | with_reducible exact Keep.refl _ _ | with_reducible assumption | with_reducible apply Keep.alloc | with_reducible apply Keep.drewN | with_reducible apply Keep.drew | (with_reducible refine Keep.setCell ?_ ?_ _) | focus (left; simp; done) | focus (right; simp; done) | focus (right; simp; omega))), v.to (S := []) (by omega) (by repeat (first | with_reducible exact Keep.refl _ _ | with_reducible assumption | with_reducible apply Keep.alloc | with_reducible apply Keep.drewN | with_reducible apply Keep.drew | (with_reducible refine Keep.setCell ?_ ?_ _) | focus (left; simp; done) | focus (right; simp; done) | focus (right; simp; omega))) (by simp) (by simp)⟩
  · rw [hd] at HD hx
    have hx' : n < 0 ∨ off < 0 := by rcases hx with h | h
                                     · cases h
                                     · exact h
    clear hx hd
    by_cases hn : n < 0
    · clear hx'
      go_enter Try.func87, Try.ntmps87
      go_wp2_with (first
        | (go_at_call 52; refine (HG.out _ (by repeat (first | with_reducible exact Keep.refl _ _ | with_reducible assumption | with_reducible apply Keep.alloc | with_reducible apply Keep.drewN | with_reducible apply Keep.drew | (with_reducible refine Keep.setCell ?_ ?_ _) | focus (left; simp; done) | focus (right; simp; done) | focus (right; simp; omega)))).mono ?_; rintro e w1 ⟨rfl, rfl⟩)
        | (go_at_call 53; refine (HV.out _ (by repeat (first | with_reducible exact Keep.refl _ _ | with_reducible assumption | with_reducible apply Keep.alloc | with_reducible apply Keep.drewN | with_reducible apply Keep.drew | (with_reducible refine Keep.setCell ?_ ?_ _) | focus (left; simp; done) | focus (right; simp; done) | focus (right; simp; omega)))).mono ?_; rintro e w1 ⟨rfl, rfl⟩)
        | (go_at_call 54; refine (HD.out _).mono ?_; rintro e w1 ⟨rfl, rfl⟩))
      exact bodyPost_ret (v := spotV (0, 0, 1)) (by simp [results, Try.results87, go_sem, spotV]) rfl ⟨rfl, (by repeat (first | with_reducible exact Keep.refl _ _ | with_reducible assumption | with_reducible apply Keep.alloc | with_reducible apply Keep.drewN | with_reducible apply Keep.drew | (with_reducible refine Keep.setCell ?_ ?_ _) | focus (left; simp; done) | focus (right; simp; done) | focus (right; simp; omega))), v.to (S := []) (by omega) (by repeat (first | with_reducible exact Keep.refl _ _ | with_reducible assumption | with_reducible apply Keep.alloc | with_reducible apply Keep.drewN | with_reducible apply Keep.drew | (with_reducible refine Keep.setCell ?_ ?_ _) | focus (left; simp; done) | focus (right; simp; done) | focus (right; simp; omega))) (by simp) (by simp)⟩
    · have ho : off < 0 := by omega
      clear hx'
      go_enter Try.func87, Try.ntmps87
      go_wp2_with (first
        | (go_at_call 52; refine (HG.out _ (by repeat (first | with_reducible exact Keep.refl _ _ | with_reducible assumption | with_reducible apply Keep.alloc | with_reducible apply Keep.drewN | with_reducible apply Keep.drew | (with_reducible refine Keep.setCell ?_ ?_ _) | focus (left; simp; done) | focus (right; simp; done) | focus (right; simp; omega)))).mono ?_; rintro e w1 ⟨rfl, rfl⟩)
        | (go_at_call 53; refine (HV.out _ (by repeat (first | with_reducible exact Keep.refl _ _ | with_reducible assumption | with_reducible apply Keep.alloc | with_reducible apply Keep.drewN | with_reducible apply Keep.drew | (with_reducible refine Keep.setCell ?_ ?_ _) | focus (left; simp; done) | focus (right; simp; done) | focus (right; simp; omega)))).mono ?_; rintro e w1 ⟨rfl, rfl⟩)
        | (go_at_call 54; refine (HD.out _).mono ?_; rintro e w1 ⟨rfl, rfl⟩))
      exact bodyPost_ret (v := spotV (0, 0, 1)) (by simp [results, Try.results87, go_sem, spotV]) rfl ⟨rfl, (by repeat (first | with_reducible exact Keep.refl _ _ | with_reducible assumption | with_reducible apply Keep.alloc | with_reducible apply Keep.drewN | with_reducible apply Keep.drew | (with_reducible refine Keep.setCell ?_ ?_ _) | focus (left; simp; done) | focus (right; simp; done) | focus (right; simp; omega))), v.to (S := []) (by omega) (by repeat (first | with_reducible exact Keep.refl _ _ | with_reducible assumption | with_reducible apply Keep.alloc | with_reducible apply Keep.drewN | with_reducible apply Keep.drew | (with_reducible refine Keep.setCell ?_ ?_ _) | focus (left; simp; done) | focus (right; simp; done) | focus (right; simp; omega))) (by simp) (by simp)⟩
end

end Go.Proofs.Ytkicpmfhnngndaa
