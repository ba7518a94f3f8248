/- What is proved: what Get, Put, rest, Give, part, Frame of phys compute. Conditions: the machine lies in memory as PhysAt says. -/
import Derived.Test.YtkicpmfhnngndaaPhysA
set_option linter.unusedSimpArgs false
set_option linter.unusedVariables false
namespace Go.Proofs.Ytkicpmfhnngndaa
open Go.RowKit

section
variable {w : World} {bm bf : Nat} {m : Mach}

theorem beq_no {a b : Int} (h : a ≠ b) : (a == b) = false := by simpa using h
theorem beq_yes {a b : Int} (h : a = b) : (a == b) = true := by simpa using h
theorem bne_yes {a b : Int} (h : a ≠ b) : (a != b) = true := by simpa using h
theorem bne_no {a b : Int} (h : a = b) : (a != b) = false := by simpa using h

set_option maxRecDepth 100000 in
theorem phys_get (h : PhysAt w bm bf m) (mfn owner kd : Int) :
    Calls Try.prog 60 #[.pointer (some ⟨bm, 0, none⟩), .int .i64 mfn, .int .i64 owner, .int .i64 kd] w fun e w' =>
      e = .returned (.int .i64 (m.get mfn owner kd).1) ∧ PhysAt w' bm bf (m.get mfn owner kd).2 ∧ Keep [bf] w w' := by
  rcases hx : m.idx mfn with _ | f
  · rw [show m.get mfn owner kd = (1, m) by simp [Mach.get, hx]]
    have H := Lib.hid hx
    clear hx
    go_enter Try.func60, Try.ntmps60
    go_wp2_with (go_at_call 92; refine (phys_kinds_none h H.out kd).mono ?_; rintro e w' ⟨rfl, rfl⟩)
    go_ret
    exact ⟨rfl, h, Keep.refl _ _⟩
  obtain ⟨k, rfl, hk, hl⟩ := Mach.idx_some hx
  by_cases hb : kd < 0 ∨ 3 < kd
  · rw [show m.get k owner kd = (1, m) by simp [Mach.get, hx, hb]]
    clear hx
    have H := Lib.hid hk
    clear hk
    have hb' := Lib.hid hb
    clear hb
    go_enter Try.func60, Try.ntmps60
    go_wp2_with (go_at_call 92; refine (phys_kinds_bad h H.out hb'.out).mono ?_; rintro e w' ⟨rfl, rfl⟩)
    go_ret
    exact ⟨rfl, h, Keep.refl _ _⟩
  have hb0 : 0 ≤ kd := by omega
  have hb3 : kd ≤ 3 := by omega
  have c0 := h.c0 hk
  have c1 := h.c1 hk
  have c2 := h.c2 hk
  have c3 := h.c3 hk
  have hf := h.frozen
  have H := Lib.hid hk
  by_cases ho : f.o = -1
  · rw [show m.get k owner kd = (11, m) by simp [Mach.get, hx, hb, ho]]
    clear hx hk hb
    have ho1 := beq_yes ho
    clear ho
    go_enter Try.func60, Try.ntmps60
    go_wp2_with (go_at_call 92; refine (phys_kinds_some h H.out hb0 hb3).mono ?_; rintro e w' ⟨rfl, rfl⟩)
    go_ret
    exact ⟨rfl, h, Keep.refl _ _⟩
  by_cases hw : f.o = owner
  case neg =>
    rw [show m.get k owner kd = (12, m) by simp [Mach.get, hx, hb, ho, hw]]
    clear hx hk hb
    have ho1 := beq_no ho
    have hw1 := bne_yes hw
    clear ho hw
    go_enter Try.func60, Try.ntmps60
    go_wp2_with (go_at_call 92; refine (phys_kinds_some h H.out hb0 hb3).mono ?_; rintro e w' ⟨rfl, rfl⟩)
    go_ret
    exact ⟨rfl, h, Keep.refl _ _⟩
  by_cases h0 : kd = 0
  · rw [show m.get k owner kd = (0, m.set k { f with t := wrap64 (f.t + 1) }) by simp [Mach.get, hx, hb, ho, hw, h0]; intro hh; omega]
    clear hx hk hb
    have ho1 := beq_no ho
    have hw1 := bne_no hw
    have h1 := bne_no h0
    clear ho hw h0
    go_enter Try.func60, Try.ntmps60
    go_wp2_with (go_at_call 92; refine (phys_kinds_some h H.out hb0 hb3).mono ?_; rintro e w' ⟨rfl, rfl⟩)
    go_ret
    exact ⟨rfl, h.setT H.out _, (Keep.refl _ _).setCell (.inl (by simp)) _⟩
  by_cases hty : f.ty = 0
  · rw [show m.get k owner kd = (0, m.set k { f with t := wrap64 (f.t + 1), ty := kd, c := wrap64 (f.c + 1) }) by simp [Mach.get, hx, hb, ho, hw, h0, hty]; intro hh; omega]
    clear hx hk hb
    have ho1 := beq_no ho
    have hw1 := bne_no hw
    have h1 := bne_yes h0
    have h2 := bne_no hty
    clear ho hw h0 hty
    have h3 := h.setT H.out (wrap64 (f.t + 1))
    have h4 := h3.setTy (f := { f with t := wrap64 (f.t + 1) }) (List.getElem?_set_self hl) kd
    rw [List.set_set] at h4
    have h5 := h4.setC (f := { f with t := wrap64 (f.t + 1), ty := kd }) (List.getElem?_set_self hl) (wrap64 (f.c + 1))
    rw [List.set_set] at h5
    have H5 := Lib.hid h5
    clear h3 h4 h5
    go_enter Try.func60, Try.ntmps60
    go_wp2_with (go_at_call 92; refine (phys_kinds_some h H.out hb0 hb3).mono ?_; rintro e w' ⟨rfl, rfl⟩)
    go_ret
    exact ⟨rfl, H5.out, (((Keep.refl _ _).setCell (.inl (by simp)) _).setCell (.inl (by simp)) _).setCell (.inl (by simp)) _⟩
  by_cases hty' : f.ty = kd
  · rw [show m.get k owner kd = (0, m.set k { f with t := wrap64 (f.t + 1), ty := kd, c := wrap64 (f.c + 1) }) by simp [Mach.get, hx, hb, ho, hw, h0, hty, hty']; intro hh; omega]
    clear hx hk hb
    have ho1 := beq_no ho
    have hw1 := bne_no hw
    have h1 := bne_yes h0
    have h2 := bne_yes hty
    have h2' := bne_no hty'
    clear ho hw h0 hty hty'
    have h3 := h.setT H.out (wrap64 (f.t + 1))
    have h4 := h3.setTy (f := { f with t := wrap64 (f.t + 1) }) (List.getElem?_set_self hl) kd
    rw [List.set_set] at h4
    have h5 := h4.setC (f := { f with t := wrap64 (f.t + 1), ty := kd }) (List.getElem?_set_self hl) (wrap64 (f.c + 1))
    rw [List.set_set] at h5
    have H5 := Lib.hid h5
    clear h3 h4 h5
    go_enter Try.func60, Try.ntmps60
    go_wp2_with (go_at_call 92; refine (phys_kinds_some h H.out hb0 hb3).mono ?_; rintro e w' ⟨rfl, rfl⟩)
    go_ret
    exact ⟨rfl, H5.out, (((Keep.refl _ _).setCell (.inl (by simp)) _).setCell (.inl (by simp)) _).setCell (.inl (by simp)) _⟩
  · rw [show m.get k owner kd = (13, m) by simp [Mach.get, hx, hb, ho, hw, h0, hty, hty']; intro hh; omega]
    clear hx hk hb
    have ho1 := beq_no ho
    have hw1 := bne_no hw
    have h1 := bne_yes h0
    have h2 := bne_yes hty
    have h2' := bne_yes hty'
    clear ho hw h0 hty hty'
    go_enter Try.func60, Try.ntmps60
    go_wp2_with (go_at_call 92; refine (phys_kinds_some h H.out hb0 hb3).mono ?_; rintro e w' ⟨rfl, rfl⟩)
    go_ret
    exact ⟨rfl, h, Keep.refl _ _⟩
end

end Go.Proofs.Ytkicpmfhnngndaa
