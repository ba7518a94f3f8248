/- What is proved: what Join of grant does for a domain that had not joined. Conditions: the grants, the machine, the places lie in memory. -/
import Derived.Test.YtkicpmfhnngndaaGrantI
set_option linter.unusedSimpArgs false
set_option linter.unusedVariables false
namespace Go.Proofs.Ytkicpmfhnngndaa
open Go.RowKit

theorem memOf_append (d a : Int) (x : Int × Nat) : ∀ l : List (Int × (Int × Nat)), memOf (l ++ [(a, x)]) d = (memOf l d).or (if d = a then some x else none)
  | [] => by simp [memOf]
  | (c, v) :: r => by
    simp only [List.cons_append, memOf]
    split
    · rfl
    · exact memOf_append d a x r
theorem setOf_new {κ : Type} [DecidableEq κ] (k : κ) (x : Value) : ∀ al : List (κ × Value), getOf k al = none → setOf k x al = al ++ [(k, x)]
  | [], _ => rfl
  | (a, v) :: r, h => by
    unfold getOf at h
    split at h
    · cases h
    · rename_i hne
      simp only [setOf, if_neg hne, List.cons_append]
      rw [setOf_new k x r h]

section
variable {w w' : World} {bg b1 b2 bm bf : Nat} {m m' : Mach} {mem : List (Int × (Int × Nat))} {mp : List ((Int × Int) × Value)} {S : List Nat}
variable {pb p1 p2 : Nat} {l : List Int}

set_option maxRecDepth 100000 in
set_option maxHeartbeats 4000000 in
theorem grant_join (h : GHead w bg b1 b2 bm mem mp) (hp : PhysAt w bm bf m) (hl : P2mAt w pb p1 p2 l) {d : Nat} (hd : d < 8) {mfn : Int} (hn : memOf mem (d : Int) = none) (hg : m.get mfn d 1 = (0, m')) :
    Calls Try.prog 40 #[.pointer (some ⟨bg, 0, none⟩), .int .i64 (d : Int), .int .i64 mfn, .pointer (some ⟨pb, 0, none⟩)] w fun e w' =>
      e = .returned (.int .i64 0) ∧ GHead w' bg b1 b2 bm (mem ++ [((d : Int), (mfn, pb))]) mp ∧ PhysAt w' bm bf m' ∧ Keep [bf, b1] w w' := by
  have c0 := h.c0
  have c1 := h.c1
  have lg := h.hd.lt
  have HD : Hid (isDom (d : Int) = true) := by show _ = _; simp [isDom]; omega
  have HF := Lib.hid (p2m_find_none hl (m := -1) (by rintro ⟨h0, _⟩; omega))
  have q := run_lookup_k key_int Try.underlying127 h.m1 (d : Int) zero_mem true
  have hgn : getOf (d : Int) (memL mem) = none := by rw [getOf_memL, hn]; rfl
  rw [hgn] at q
  simp only [Option.getD_none, if_true, Option.isSome_none] at q
  have HG := Lib.hid (fun W (k : Keep [] w W) => phys_get (hp.keep k (by simp) (by simp)) mfn d 1)
  rw [hg] at HG
  have hgf : bg ≠ bf := by obtain ⟨cc, r1, x, y⟩ := hp.ex; exact h.hd.ne_ y (by decide)
  have h1f : b1 ≠ bf := by obtain ⟨cc, r1, x, y⟩ := hp.ex; exact h.m1.ne_blk y
  have h2f : b2 ≠ bf := by obtain ⟨cc, r1, x, y⟩ := hp.ex; exact h.m2.ne_blk y
  have hmm : b1 ≠ bm := by obtain ⟨cc, r1, x, y⟩ := hp.ex; exact h.m1.ne_blk x
  have hg1 : b1 ≠ bg := h.m1.ne_blk h.hd
  have H0 := Lib.hid h
  have HN := Lib.hid hgn
  clear hn hg hgn
  go_enter Try.func40, Try.ntmps40
  go_wp2_with (first
    | (go_at_call 52; refine (grant_none H0.out).mono ?_; rintro e w1 ⟨rfl, rfl⟩)
    | (go_at_call 85; refine HF.out.mono ?_; rintro e w1 ⟨rfl, rfl⟩)
    | (go_at_call 54; refine (grant_domain _ _).mono ?_; rw [HD.out]; rintro e w1 ⟨rfl, rfl⟩)
    | (go_at_call 60; refine (HG.out _ (by repeat (first | with_reducible exact Keep.refl _ _ | with_reducible assumption | with_reducible apply Keep.alloc | with_reducible apply Keep.drewN | with_reducible apply Keep.drew | (with_reducible refine Keep.setCell ?_ ?_ _) | focus (left; simp; done) | focus (right; simp; done) | focus (right; simp; omega)))).mono ?_; rintro e w1 ⟨rfl, HP, HK⟩
       have k1 : Keep [bf] w w1 := Keep.trans (by repeat (first | with_reducible exact Keep.refl _ _ | with_reducible assumption | with_reducible apply Keep.alloc | with_reducible apply Keep.drewN | with_reducible apply Keep.drew | (with_reducible refine Keep.setCell ?_ ?_ _) | focus (left; simp; done) | focus (right; simp; done) | focus (right; simp; omega))) HK
       have g1 := H0.out.keep k1 (by simpa using hgf) (by simpa using h1f) (by simpa using h2f)
       have c11 := g1.c1
       obtain ⟨w2, r2, M2, K2⟩ := run_update_k key_int Try.underlying127 g1.m1 (d : Int) (memV (mfn, pb))
       simp only [memV] at r2
       have HX := Lib.hid (And.intro HP (And.intro k1 (And.intro g1 (And.intro M2 K2))))
       clear HP HK k1 g1 M2 K2))
  go_ret
  obtain ⟨HP, k1, g1, M2, K2⟩ := HX.out
  rw [setOf_new _ _ _ HN.out] at M2
  refine ⟨rfl, ⟨g1.hd.keep K2 (by simpa using hg1.symm), ?_, g1.m2.keep K2 (by simpa using g1.ne.symm), g1.ne⟩, HP.keep K2 (by simpa using hmm.symm) (by simpa using h1f.symm), (k1.mono (by simp)).trans (K2.mono (by simp))⟩
  simpa [memL] using M2
end

end Go.Proofs.Ytkicpmfhnngndaa
