/- What is proved: permits says yes where the entry permits. Conditions: the machine lies in memory as PhysAt says. -/
import Derived.Test.YtkicpmfhnngndaaLawA
import Derived.Test.YtkicpmfhnngndaaRefJ
set_option linter.unusedSimpArgs false
set_option linter.unusedVariables false
namespace Go.Proofs.Ytkicpmfhnngndaa
open Go.RowKit

section
variable {w w' : World} {bm bf : Nat} {m : Mach}

set_option maxRecDepth 100000 in
set_option maxHeartbeats 8000000 in
theorem law_permits (hp : PhysAt w bm bf m) {caller : Int} {gr : Bool} {dom ref : Int} (gpfn off : Int) {owner : Int} {mf at_ : Nat} (hat : at_ < 256) (hm13 : mf < 13) (hP : Permit m caller gr dom ref owner mf at_) :
    Calls Try.prog 12 #[.pointer (some ⟨bm, 0, none⟩), .int .i64 caller, endV gr dom ref gpfn off, .int .i64 owner, .int .i64 (mf : Int), .int .i64 (at_ : Int)] w fun e w' => e = .returned (.bool true) ∧ Keep [] w w' := by
  obtain ⟨rfl, rfl, d, r, f, g, rfl, hd, rfl, hr, hf, hu, hk, hro, hgd, hmf, h1, h2⟩ := hP
  have hle := unpackG_le hu
  have HR := Lib.hid (fun W (k : Keep [] w W) => phys_read_some (hp.keep k (by simp) (by simp)) hf (off := 8 * r) (n := 8) (by omega) (by omega))
  have e1 : ((4 * d : Nat) : Int) = 4 * (d : Int) := by omega
  have e2 : ((8 * r : Nat) : Int) = 8 * (r : Int) := by omega
  have e3 : ((8 : Nat) : Int) = 8 := rfl
  rw [e1, e2, e3] at HR
  have hl : ((f.b.drop (8 * r)).take 8).length = 8 := by have := hp.pg.get hf; simp; omega
  have HL := Lib.hid hl
  have HU := Lib.hid hu
  have t1 := beq_yes (show (g.kind : Int) = 1 by omega)
  have t2 := beq_yes hgd
  have t3 := beq_yes (show (mf : Int) = 4 * (d : Int) + (g.gpfn : Int) by omega)
  have t4 : (g.off : Int) ≤ (at_ : Int) := by omega
  have t5 : (at_ : Int) < (g.off : Int) + (g.len : Int) := by omega
  have t0 := bne_no (show (d : Int) = (d : Int) from rfl)
  have b1 : (g.gpfn : Int) ≤ 13 := by omega
  have b2 : (g.off : Int) + (g.len : Int) ≤ 256 := by omega
  have b3 : (0 : Int) ≤ (g.gpfn : Int) := by omega
  have b4 : (0 : Int) ≤ (g.off : Int) := by omega
  have b5 : (0 : Int) ≤ (g.len : Int) := by omega
  clear hle
  clear e1 e2 e3 hl hu hf hk hgd hmf h1 h2
  unfold endV
  go_enter Try.func12, Try.ntmps12
  go_wp2_with (first
    | (go_at_call 10; refine (HR.out _ (by repeat (first | with_reducible exact Keep.refl _ _ | with_reducible assumption | with_reducible apply Keep.alloc | with_reducible apply Keep.drewN | with_reducible apply Keep.drew | (with_reducible refine Keep.setCell ?_ ?_ _) | focus (left; simp; done) | focus (right; simp; done) | focus (right; simp; omega)))).mono ?_; rintro e w1 ⟨rfl, HB, HK⟩
       have k1 : Keep [] w w1 := Keep.trans (by repeat (first | with_reducible exact Keep.refl _ _ | with_reducible assumption | with_reducible apply Keep.alloc | with_reducible apply Keep.drewN | with_reducible apply Keep.drew | (with_reducible refine Keep.setCell ?_ ?_ _) | focus (left; simp; done) | focus (right; simp; done) | focus (right; simp; omega))) HK
       rw [World.size_alloc] at HB)
    | (go_at_call 49; refine (ref6_unpack HL.out (BytesAt.ofBlk HB)).mono ?_; rw [HU.out]; unfold upV Gr.v; rintro e w2 ⟨rfl, HK2⟩))
  go_ret
  have k2 : Keep [] w w2 := k1.trans HK2
  exact ⟨rfl, (by repeat (first | with_reducible exact Keep.refl _ _ | with_reducible assumption | with_reducible apply Keep.alloc | with_reducible apply Keep.drewN | with_reducible apply Keep.drew | (with_reducible refine Keep.setCell ?_ ?_ _) | focus (left; simp; done) | focus (right; simp; done) | focus (right; simp; omega)))⟩
end

end Go.Proofs.Ytkicpmfhnngndaa
