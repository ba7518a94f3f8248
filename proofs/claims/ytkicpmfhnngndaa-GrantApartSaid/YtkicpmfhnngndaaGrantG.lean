/- What is proved: what Pull, Push, Copy of grant compute, with a view without rewrites. Conditions: the grants, the machine, the view, the places lie in memory. -/
import Derived.Test.YtkicpmfhnngndaaGrantF
set_option linter.unusedSimpArgs false
set_option linter.unusedVariables false
namespace Go.Proofs.Ytkicpmfhnngndaa
open Go.RowKit

/-- Bytes were pulled. -/
def PullOk (e : Ending) (w w' : World) (bs : List UInt8) (n bv bd bm k : Nat) : Prop :=
  ∃ g, e = .returned (.tuple #[.slice (some ⟨g, 0, none⟩) n n, .int .i64 0]) ∧ Blk w' g 5 (bs.map byteV) ∧ w.heap.size ≤ g ∧ Keep [bv] w w' ∧ ViewTo w' bv bd bm k

section
variable {w w' : World} {bg b1 b2 bm bf bv bd nv : Nat} {m : Mach} {mem : List (Int × (Int × Nat))} {mp : List ((Int × Int) × Value)} {S : List Nat}

set_option maxRecDepth 100000 in
set_option maxHeartbeats 8000000 in
/-- Where the end is refused. -/
theorem grant_pull_no (gr : Bool) (caller dom ref gpfn off n : Int) {s0 s1 s2 : Int} {k : Nat} (hs : s2 ≠ 0) (hbv : bv < w.heap.size) (hbd : bd < w.heap.size)
    (HF : ∀ W, Keep [] w W → Calls Try.prog 87 #[.pointer (some ⟨bg, 0, none⟩), .pointer (some ⟨bv, 0, none⟩), .int .i64 caller, endV gr dom ref gpfn off, .int .i64 n, .bool false] W fun e w' => e = .returned (spotV (s0, s1, s2)) ∧ Keep [bv] W w' ∧ ViewTo w' bv bd bm k) :
    Calls Try.prog 45 #[.pointer (some ⟨bg, 0, none⟩), .pointer (some ⟨bv, 0, none⟩), .int .i64 caller, endV gr dom ref gpfn off, .int .i64 n] w fun e w' =>
      e = .returned (.tuple #[.slice none 0 0, .int .i64 s2]) ∧ Keep [bv] w w' ∧ ViewTo w' bv bd bm k := by
  have HF := Lib.hid HF
  have hs' := bne_yes hs
  clear hs
  unfold endV at HF ⊢
  unfold spotV at HF
  go_enter Try.func45, Try.ntmps45
  go_wp2_with (first
    | (go_at_call 87; refine (HF.out _ (by repeat (first | with_reducible exact Keep.refl _ _ | with_reducible assumption | with_reducible apply Keep.alloc | with_reducible apply Keep.drewN | with_reducible apply Keep.drew | (with_reducible refine Keep.setCell ?_ ?_ _) | focus (left; simp; done) | focus (right; simp; done) | focus (right; simp; omega)))).mono ?_; rintro e w1 ⟨rfl, HK, HVV⟩))
  go_ret2
  have k4 : Keep [bv] w w1 := ((Keep.refl [bv] w).alloc _).trans HK
  obtain ⟨kk, hkk, hvv⟩ := HVV
  exact ⟨rfl, (by repeat (first | with_reducible exact Keep.refl _ _ | with_reducible assumption | with_reducible apply Keep.alloc | with_reducible apply Keep.drewN | with_reducible apply Keep.drew | (with_reducible refine Keep.setCell ?_ ?_ _) | focus (left; simp; done) | focus (right; simp; done) | focus (right; simp; omega))), hvv.to (S := []) hkk (by repeat (first | with_reducible exact Keep.refl _ _ | with_reducible assumption | with_reducible apply Keep.alloc | with_reducible apply Keep.drewN | with_reducible apply Keep.drew | (with_reducible refine Keep.setCell ?_ ?_ _) | focus (left; simp; done) | focus (right; simp; done) | focus (right; simp; omega))) (by simp) (by simp)⟩

set_option maxRecDepth 100000 in
set_option maxHeartbeats 8000000 in
/-- Where the end is told. -/
theorem grant_pull_yes (hp : PhysAt w bm bf m) (hvf : bv ≠ bf) (hvm : bv ≠ bm) (gr : Bool) (caller dom ref gpfn off : Int) {mf so n : Nat} {f : Fr} (hk : m[mf]? = some f) (h3 : so ≤ 256) (h4 : n ≤ 256 - so) {k : Nat} (hk1 : k < 1000) (hbv : bv < w.heap.size) (hbd : bd < w.heap.size)
    (HF : ∀ W, Keep [] w W → Calls Try.prog 87 #[.pointer (some ⟨bg, 0, none⟩), .pointer (some ⟨bv, 0, none⟩), .int .i64 caller, endV gr dom ref gpfn off, .int .i64 (n : Int), .bool false] W fun e w' => e = .returned (spotV ((mf : Int), (so : Int), 0)) ∧ Keep [bv] W w' ∧ ViewTo w' bv bd bm k) :
    Calls Try.prog 45 #[.pointer (some ⟨bg, 0, none⟩), .pointer (some ⟨bv, 0, none⟩), .int .i64 caller, endV gr dom ref gpfn off, .int .i64 (n : Int)] w fun e w' => PullOk e w w' ((f.b.drop so).take n) n bv bd bm (k + 1) := by
  have HF := Lib.hid HF
  have HR := Lib.hid (show ∀ (W : World) (kk : Nat), kk ≤ k → Keep [bv] w W → ViewAt W bv bd bm kk → _ from fun W kk hkk kw v => view_read_some v (hp.keep kw (by simpa using fun e => hvm e.symm) (by simpa using fun e => hvf e.symm)) (by omega) hvf hvm hk h3 h4)
  clear hk h3 h4
  unfold endV at HF ⊢
  unfold spotV at HF
  go_enter Try.func45, Try.ntmps45
  go_wp2_with (first
    | (go_at_call 87; refine (HF.out _ (by repeat (first | with_reducible exact Keep.refl _ _ | with_reducible assumption | with_reducible apply Keep.alloc | with_reducible apply Keep.drewN | with_reducible apply Keep.drew | (with_reducible refine Keep.setCell ?_ ?_ _) | focus (left; simp; done) | focus (right; simp; done) | focus (right; simp; omega)))).mono ?_; rintro e w1 ⟨rfl, HK, HVV⟩
       obtain ⟨kk, hkk, hvv⟩ := HVV
       have k1 : Keep [bv] w w1 := ((Keep.refl [bv] w).alloc _).trans HK
       have hvw := hvv.alloc (.cells #[.int .i64 (mf : Int), .int .i64 (so : Int)] 182))
    | (go_at_call 65; refine (HR.out _ kk hkk (by repeat (first | with_reducible exact Keep.refl _ _ | with_reducible assumption | with_reducible apply Keep.alloc | with_reducible apply Keep.drewN | with_reducible apply Keep.drew | (with_reducible refine Keep.setCell ?_ ?_ _) | focus (left; simp; done) | focus (right; simp; done) | focus (right; simp; omega))) hvw).mono ?_; rintro e w2 ⟨rfl, HB, HK2, HV2⟩))
  go_ret2
  have HB2 : Blk w2 (w1.heap.size + 1) 5 (((f.b.drop so).take n).map byteV) := by simpa using HB
  have hsz : w.heap.size ≤ w1.heap.size := k1.size
  have k4 : Keep [bv] w w2 := (k1.alloc _).trans HK2
  exact ⟨w1.heap.size + 1, by simp, HB2, by omega, k4, kk + 1, by omega, HV2⟩
end

end Go.Proofs.Ytkicpmfhnngndaa
