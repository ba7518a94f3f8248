/- What is proved: what Domain, Is, In, Get of the reference's machine compute. Conditions: the machine lies in memory as RefAt says. -/
import Derived.Test.YtkicpmfhnngndaaRefA
set_option linter.unusedSimpArgs false
set_option linter.unusedVariables false
namespace Go.Proofs.Ytkicpmfhnngndaa
open Go.RowKit

section
variable {w w' : World} {rm rf rb : Nat} {pgs : List Nat} {m : Mach} {S : List Nat}

theorem ref_domain (n : Int) (w : World) : Calls Try.prog 81 #[.int .i64 n] w fun e w' => e = .returned (.bool (isDom n)) ∧ w = w' := by
  by_cases h1 : 0 ≤ n <;> by_cases h2 : n < 8
  all_goals
    go_enter Try.func81, Try.ntmps81
    go_wp2
    go_ret
    exact ⟨by simp [isDom, h1, h2], rfl⟩

theorem ref_is (h : RefAt w rm rf rb pgs m) (mfn : Int) : Calls Try.prog 108 #[.pointer (some ⟨rm, 0, none⟩), .int .i64 mfn] w fun e w' => e = .returned (.bool (decide (0 ≤ mfn) && decide (mfn < m.length))) ∧ w = w' := by
  obtain ⟨c1, c2, h0, h1⟩ := h.heads_
  by_cases g1 : 0 ≤ mfn
  · by_cases g2 : mfn < m.length
    all_goals
      go_enter Try.func108, Try.ntmps108
      go_wp2
      go_ret
      exact ⟨by simp [g1, g2], rfl⟩
  · have g2 : decide (0 ≤ mfn) = false := by simp; omega
    rw [g2]
    clear g2
    go_enter Try.func108, Try.ntmps108
    go_wp2
    go_ret
    exact ⟨by simp, rfl⟩

def inPg (off n : Int) : Bool := decide (0 ≤ off) && decide (0 ≤ n) && decide (off ≤ 256) && decide (n ≤ 256 - off)
theorem ref_in (h : RefAt w rm rf rb pgs m) (mfn off n : Int) : Calls Try.prog 88 #[.pointer (some ⟨rm, 0, none⟩), .int .i64 mfn, .int .i64 off, .int .i64 n] w fun e w' =>
    e = .returned (.bool (decide (0 ≤ mfn) && decide (mfn < m.length) && inPg off n)) ∧ w = w' := by
  by_cases g0 : (decide (0 ≤ mfn) && decide (mfn < m.length)) = true
  · have HI := Lib.hid (ref_is h mfn)
    rw [g0] at HI
    rw [g0]
    clear g0
    by_cases h1 : 0 ≤ off <;> by_cases h2 : 0 ≤ n <;> by_cases h3 : off ≤ 256
    case pos =>
      by_cases h4 : n ≤ 256 - off
      all_goals
        go_enter Try.func88, Try.ntmps88
        go_wp2_with (go_at_call 108; refine HI.out.mono ?_; rintro e w' ⟨rfl, rfl⟩)
        go_ret
        exact ⟨by simp [inPg, h1, h2, h3, h4], rfl⟩
    all_goals
      go_enter Try.func88, Try.ntmps88
      go_wp2_with (go_at_call 108; refine HI.out.mono ?_; rintro e w' ⟨rfl, rfl⟩)
      all_goals go_ret
      all_goals exact ⟨by first | (simp [inPg, h1, h2, h3]; done) | (simp [inPg, h1, h2, h3]; intros; omega) | (simp [inPg]; intros; omega) | (simp [inPg]; omega), rfl⟩
  · have HI := Lib.hid (ref_is h mfn)
    have g1 : (decide (0 ≤ mfn) && decide (mfn < m.length)) = false := by simpa using g0
    rw [g1] at HI
    rw [g1]
    clear g0 g1
    go_enter Try.func88, Try.ntmps88
    go_wp2_with (go_at_call 108; refine HI.out.mono ?_; rintro e w' ⟨rfl, rfl⟩)
    go_ret
    exact ⟨by simp, rfl⟩

/-- What the reference's Get does. -/
def Mach.getR (m : Mach) (mfn owner kind : Int) : Int × Mach :=
  match m.idx mfn with
  | none => (1, m)
  | some f =>
    if kind < 0 ∨ 3 < kind then (1, m) else
    if f.o = -1 then (11, m) else
    if f.o ≠ owner then (12, m) else
    if kind ≠ 0 ∧ f.c ≠ 0 ∧ f.ty ≠ kind then (13, m) else
    (0, m.set mfn.toNat (if kind ≠ 0 then { f with t := wrap64 (f.t + 1), ty := kind, c := wrap64 (f.c + 1) } else { f with t := wrap64 (f.t + 1) }))

set_option maxRecDepth 100000 in
set_option maxHeartbeats 2000000 in
theorem ref_get (h : RefAt w rm rf rb pgs m) (mfn owner kd : Int) :
    Calls Try.prog 86 #[.pointer (some ⟨rm, 0, none⟩), .int .i64 mfn, .int .i64 owner, .int .i64 kd] w fun e w' =>
      e = .returned (.int .i64 (m.getR mfn owner kd).1) ∧ RefAt w' rm rf rb pgs (m.getR mfn owner kd).2 ∧ Keep [rf] w w' := by
  have HI := Lib.hid (ref_is h mfn)
  rcases hx : m.idx mfn with _ | f
  · rw [show m.getR mfn owner kd = (1, m) by simp [Mach.getR, hx]]
    have hb := Mach.idx_none hx
    have g1 : (decide (0 ≤ mfn) && decide (mfn < m.length)) = false := by
      rcases hb with hb | hb
      · simp; omega
      · simp; omega
    rw [g1] at HI
    clear hx hb g1
    go_enter Try.func86, Try.ntmps86
    go_wp2_with (go_at_call 108; refine HI.out.mono ?_; rintro e w' ⟨rfl, rfl⟩)
    go_ret
    exact ⟨rfl, h, Keep.refl _ _⟩
  obtain ⟨k, rfl, hk, hl⟩ := Mach.idx_some hx
  have g1 : (decide (0 ≤ (k : Int)) && decide ((k : Int) < m.length)) = true := by simp; omega
  rw [g1] at HI
  clear g1
  by_cases hb : kd < 0 ∨ 3 < kd
  · rw [show m.getR k owner kd = (1, m) by simp [Mach.getR, hx, hb]]
    clear hx hk hl
    by_cases hn : kd < 0
    all_goals
      (have hb' : kd < 0 ∨ 3 < kd := hb)
      clear hb
      go_enter Try.func86, Try.ntmps86
      go_wp2_with (go_at_call 108; refine HI.out.mono ?_; rintro e w' ⟨rfl, rfl⟩)
      first
        | (go_ret; exact ⟨rfl, h, Keep.refl _ _⟩)
        | (exfalso; omega)
  have hb0 : 0 ≤ kd := by omega
  have hb3 : kd ≤ 3 := by omega
  obtain ⟨ca, cb, hh0, hh1⟩ := h.heads_
  have c0 := h.c0 hk
  have c1 := h.c1 hk
  have c2 := h.c2 hk
  have c3 := h.c3 hk
  have hf := h.frozen
  have lf := h.ltf
  have lm := h.ltm
  have nf : ¬ rf = w.heap.size := by omega
  have nm : ¬ rm = w.heap.size := by omega
  have k0 : (0 : Int) ≤ (k : Int) := by omega
  have k1 : (k : Int) < (m.length : Int) := by omega
  have H := Lib.hid hk
  by_cases ho : f.o = -1
  · rw [show m.getR k owner kd = (11, m) by simp [Mach.getR, hx, hb, ho]]
    clear hx hk hb
    have ho1 := beq_yes ho
    clear ho
    go_enter Try.func86, Try.ntmps86
    go_wp2_with (go_at_call 108; refine HI.out.mono ?_; rintro e w' ⟨rfl, rfl⟩)
    go_ret
    exact ⟨rfl, h.alloc _, (by repeat (first | with_reducible exact Keep.refl _ _ | with_reducible assumption | with_reducible apply Keep.alloc | with_reducible apply Keep.drewN | with_reducible apply Keep.drew | (with_reducible refine Keep.setCell ?_ ?_ _) | focus (left; simp; done) | focus (right; simp; done) | focus (right; simp; omega)))⟩
  by_cases hw : f.o = owner
  case neg =>
    rw [show m.getR k owner kd = (12, m) by simp [Mach.getR, hx, hb, ho, hw]]
    clear hx hk hb
    have ho1 := beq_no ho
    have hw1 := bne_yes hw
    clear ho hw
    go_enter Try.func86, Try.ntmps86
    go_wp2_with (go_at_call 108; refine HI.out.mono ?_; rintro e w' ⟨rfl, rfl⟩)
    go_ret
    exact ⟨rfl, h.alloc _, (by repeat (first | with_reducible exact Keep.refl _ _ | with_reducible assumption | with_reducible apply Keep.alloc | with_reducible apply Keep.drewN | with_reducible apply Keep.drew | (with_reducible refine Keep.setCell ?_ ?_ _) | focus (left; simp; done) | focus (right; simp; done) | focus (right; simp; omega)))⟩
  by_cases h0 : kd = 0
  · rw [show m.getR k owner kd = (0, m.set k { f with t := wrap64 (f.t + 1) }) by simp [Mach.getR, hx, hb, ho, hw, h0]; intro hh; omega]
    have H4 := Lib.hid (fun W (hW : RefAt W rm rf rb pgs m) => hW.set4 hk f.o f.ty f.c (wrap64 (f.t + 1)))
    clear hx hk hb
    have ho1 := beq_no ho
    have hw1 := bne_no hw
    have h1 := bne_no h0
    clear ho hw h0
    go_enter Try.func86, Try.ntmps86
    go_wp2_with (go_at_call 108; refine HI.out.mono ?_; rintro e w' ⟨rfl, rfl⟩)
    go_region
    all_goals go_wp2
    all_goals go_ret
    all_goals exact ⟨rfl, ((H4.out _ h).alloc _).drew, (by repeat (first | with_reducible exact Keep.refl _ _ | with_reducible assumption | with_reducible apply Keep.alloc | with_reducible apply Keep.drewN | with_reducible apply Keep.drew | (with_reducible refine Keep.setCell ?_ ?_ _) | focus (left; simp; done) | focus (right; simp; done) | focus (right; simp; omega)))⟩
  by_cases hc : f.c = 0
  · rw [show m.getR k owner kd = (0, m.set k { f with t := wrap64 (f.t + 1), ty := kd, c := wrap64 (f.c + 1) }) by simp [Mach.getR, hx, hb, ho, hw, h0, hc]; intro hh; omega]
    have H4 := Lib.hid (fun W (hW : RefAt W rm rf rb pgs m) => hW.set4 hk f.o kd (wrap64 (f.c + 1)) (wrap64 (f.t + 1)))
    clear hx hk hb
    have ho1 := beq_no ho
    have hw1 := bne_no hw
    have h1 := bne_yes h0
    have h2 := bne_no hc
    clear ho hw h0 hc
    go_enter Try.func86, Try.ntmps86
    go_wp2_with (go_at_call 108; refine HI.out.mono ?_; rintro e w' ⟨rfl, rfl⟩)
    go_region
    all_goals go_wp2
    all_goals go_ret
    all_goals exact ⟨rfl, ((H4.out _ h).alloc _).drew, (by repeat (first | with_reducible exact Keep.refl _ _ | with_reducible assumption | with_reducible apply Keep.alloc | with_reducible apply Keep.drewN | with_reducible apply Keep.drew | (with_reducible refine Keep.setCell ?_ ?_ _) | focus (left; simp; done) | focus (right; simp; done) | focus (right; simp; omega)))⟩
  by_cases hty : f.ty = kd
  · rw [show m.getR k owner kd = (0, m.set k { f with t := wrap64 (f.t + 1), ty := kd, c := wrap64 (f.c + 1) }) by simp [Mach.getR, hx, hb, ho, hw, h0, hty]; intro hh; omega]
    have H4 := Lib.hid (fun W (hW : RefAt W rm rf rb pgs m) => hW.set4 hk f.o kd (wrap64 (f.c + 1)) (wrap64 (f.t + 1)))
    clear hx hk hb
    have ho1 := beq_no ho
    have hw1 := bne_no hw
    have h1 := bne_yes h0
    have h2 := bne_yes hc
    have h3 := bne_no hty
    clear ho hw h0 hc hty
    go_enter Try.func86, Try.ntmps86
    go_wp2_with (go_at_call 108; refine HI.out.mono ?_; rintro e w' ⟨rfl, rfl⟩)
    go_region
    all_goals go_wp2
    all_goals go_ret
    all_goals exact ⟨rfl, ((H4.out _ h).alloc _).drew, (by repeat (first | with_reducible exact Keep.refl _ _ | with_reducible assumption | with_reducible apply Keep.alloc | with_reducible apply Keep.drewN | with_reducible apply Keep.drew | (with_reducible refine Keep.setCell ?_ ?_ _) | focus (left; simp; done) | focus (right; simp; done) | focus (right; simp; omega)))⟩
  · rw [show m.getR k owner kd = (13, m) by simp [Mach.getR, hx, hb, ho, hw, h0, hc, hty]; intro hh; omega]
    clear hx hk hb
    have ho1 := beq_no ho
    have hw1 := bne_no hw
    have h1 := bne_yes h0
    have h2 := bne_yes hc
    have h3 := bne_yes hty
    clear ho hw h0 hc hty
    go_enter Try.func86, Try.ntmps86
    go_wp2_with (go_at_call 108; refine HI.out.mono ?_; rintro e w' ⟨rfl, rfl⟩)
    go_ret
    exact ⟨rfl, h.alloc _, (by repeat (first | with_reducible exact Keep.refl _ _ | with_reducible assumption | with_reducible apply Keep.alloc | with_reducible apply Keep.drewN | with_reducible apply Keep.drew | (with_reducible refine Keep.setCell ?_ ?_ _) | focus (left; simp; done) | focus (right; simp; done) | focus (right; simp; omega)))⟩
end

end Go.Proofs.Ytkicpmfhnngndaa
