/- What is proved: what Owned, Alloc of the reference's machine compute. Conditions: the machine lies in memory as RefAt says. -/
import Derived.Test.YtkicpmfhnngndaaRefB
import Derived.Test.YtkicpmfhnngndaaPhysE
set_option linter.unusedSimpArgs false
set_option linter.unusedVariables false
namespace Go.Proofs.Ytkicpmfhnngndaa
open Go.RowKit

def natV (k : Nat) : Value := .int .i64 (k : Int)
theorem Mach.ownN_mem {m : Mach} {o : Int} {k j : Nat} (h : j ∈ m.ownN o k) : j < k ∧ m.ownerAt j = o := by
  unfold Mach.ownN at h
  rw [List.mem_filter, List.mem_range] at h
  exact ⟨h.1, by simpa using h.2⟩
theorem Mach.free_head {m : Mach} {k : Nat} {r : List Nat} (h : m.ownN (-1) m.length = k :: r) : m.free = some k ∧ k < m.length := by
  have hk := Mach.ownN_mem (m := m) (o := -1) (k := m.length) (j := k) (by rw [h]; simp)
  refine ⟨Mach.free_some hk.1 hk.2 ?_, hk.1⟩
  have hp := Mach.ownN_prefix m (-1) (k := k) (j := m.length) (by omega)
  rcases hx : m.ownN (-1) k with _ | ⟨a, l⟩
  · rfl
  · have ha := Mach.ownN_mem (m := m) (o := -1) (k := k) (j := a) (by rw [hx]; simp)
    rw [hx, h] at hp
    have : a = k := by
      obtain ⟨t, ht⟩ := hp
      simp at ht
      exact ht.1
    omega

/-- The numbers of an owner's frames were told. -/
def OwnedOk (w : World) (ns : List Nat) (e : Ending) (w' : World) : Prop :=
  ∃ v, e = .returned v ∧ w'.ownsRow w.heap.size 3 1 v ns.length (ns.map natV) ∧ Keep [] w w'

section
variable {w w' : World} {rm rf rb : Nat} {pgs : List Nat} {m : Mach} {S : List Nat}

theorem keep_grow {w wr w1 : World} {v : Value} {e : TypeId} {size n : Nat} {xs : List Value} (hk : Keep S w wr) (hown : wr.ownsRow w.heap.size e size v n xs) (o : Obj) (hg : (wr.alloc o).grownBy w1 v.ownBlock) : Keep S w w1 :=
  ⟨(hg.os).trans hk.os, (hg.tape).trans hk.tape, (hg.output).trans hk.output, Nat.le_trans hk.size (Nat.le_trans (by simp) hg.size), fun k h1 h2 => by
    have h3 := hg.block k (by have := hk.size; simp; omega) (fun e => by have := (hown.lt k e.symm).1; omega)
    exact h3.trans ((Below.heap_alloc wr o k (by have := hk.size; omega)).trans (hk.block k h1 h2))⟩

set_option maxRecDepth 100000 in
set_option maxHeartbeats 2000000 in
theorem ref_owned (h : RefAt w rm rf rb pgs m) (o : Int) :
    Calls Try.prog 82 #[.pointer (some ⟨rm, 0, none⟩), .int .i64 o] w fun e w' => OwnedOk w (m.ownN o m.length) e w' := by
  obtain ⟨i0, hi, hz0, hz1, hz2⟩ := info_parts3 info_int
  have hle := h.hi
  go_enter Try.func82, Try.ntmps82
  go_wp2
  go_loopw [5, 6] (fun v i wr => ∃ k : Nat, k ≤ m.length ∧ i = .int .i64 (k : Int) ∧ Hid (wr.ownsRow w.heap.size 3 1 v (m.ownN o k).length ((m.ownN o k).map natV) ∧ Keep [] w wr)) (fun _ i _ => m.length - (intOf i).toNat)
  case atStart => exact ⟨0, Nat.zero_le _, rfl, World.ownsRow_nil _ _ _ _, Keep.refl _ _⟩
  case round =>
    obtain ⟨k, hk, rfl, HH⟩ := hrel
    obtain ⟨hown, hkp⟩ := HH.out
    have hr := h.keep0 hkp
    obtain ⟨ca, cb, hh0, hh1⟩ := hr.heads_
    have hs0 := hkp.size
    have hol := Mach.ownN_le m o k
    by_cases hlt : k < m.length
    · have k0 : (0 : Int) ≤ (k : Int) := by omega
      have k1 : (k : Int) < (m.length : Int) := by omega
      have hf : m[k]? = some m[k] := List.getElem?_eq_getElem hlt
      have hc0 := hr.c0 hf
      have hsucc := Mach.ownN_succ m o k
      rw [Mach.ownerAt_of hf] at hsucc
      generalize m[k] = f at hf hc0 hsucc
      by_cases ho : f.o = o
      · rw [if_pos (by simpa using ho)] at hsucc
        have HS := Lib.hid hsucc
        have ho1 := beq_yes ho
        clear hf ho hsucc HH
        go_wp2_with (at_builtin; refine wpList_append_own _ rfl _ _ 66 rfl w.heap.size 3 i0 (.int .i64 0) 1 8 Try.underlying66 hi hz0 hz1 hz2 rfl (by decide) _ _ _ rfl (hown.alloc _) ⟨wr.heap.size, 0, none⟩ 1 1 [.int .i64 (k : Int)] rfl rfl (cell_one_new _ _ _) (by simp [Value.oneCell']) (by unfold maxLen; omega) (by omega) (by simp; omega) ?_; intro v' w1 hown' hgrow _; have HX := Lib.hid (And.intro hown' (keep_grow hkp hown _ hgrow)); clear hown' hgrow hown hkp hr)
        go_roundw
        case rel => exact ⟨k + 1, by omega, by go_num, by rw [HS.out]; show _ ∧ _; simpa [natV] using HX.out⟩
        case measure => simp [intOf]; omega
      · rw [if_neg (by simpa using ho), List.append_nil] at hsucc
        have HS := Lib.hid hsucc
        have ho1 := beq_no ho
        clear hf ho hsucc hown hkp hr
        go_wp2
        go_roundw
        case rel => exact ⟨k + 1, by omega, by go_num, by rw [HS.out]; exact HH.out⟩
        case measure => simp [intOf]; omega
    · obtain rfl : k = m.length := by omega
      have HX := Lib.hid (And.intro hown hkp)
      clear hown hkp hr HH
      go_wp2
      go_ret
      exact ⟨_, rfl, HX.out⟩

theorem own_slice {W : World} {base : Nat} {e : TypeId} {size : Nat} {v : Value} {n : Nat} {xs : List Value} (h : W.ownsRow base e size v n xs) : ∃ A c, v = .slice A n c := by
  obtain ⟨h1, ⟨rfl, rfl⟩ | ⟨g, cap, cur, hv, _⟩⟩ := h
  · exact ⟨_, _, rfl⟩
  · exact ⟨_, _, hv⟩

set_option maxRecDepth 100000 in
set_option maxHeartbeats 2000000 in
theorem ref_alloc (h : RefAt w rm rf rb pgs m) (owner : Int) :
    Calls Try.prog 37 #[.pointer (some ⟨rm, 0, none⟩), .int .i64 owner] w fun e w' =>
      e = .returned (.tuple #[.int .i64 (m.alloc owner).1, .int .i64 (m.alloc owner).2.1]) ∧ RefAt w' rm rf rb pgs (m.alloc owner).2.2 ∧ Keep [rf] w w' := by
  by_cases hbad : (!isDom owner && owner != -2) = true
  · rw [show m.alloc owner = (0, 1, m) by unfold Mach.alloc; rw [if_pos hbad]]
    simp only [Bool.and_eq_true, Bool.not_eq_true', bne_iff_ne, ne_eq] at hbad
    obtain ⟨hd, h2⟩ := hbad
    have HD := Lib.hid (fun W => ref_domain owner W)
    rw [hd] at HD
    have h2' := bne_yes h2
    clear hd h2
    go_enter Try.func37, Try.ntmps37
    go_wp2_with (go_at_call 81; refine (HD.out _).mono ?_; rintro e w' ⟨rfl, rfl⟩)
    go_ret2
    exact ⟨rfl, h, Keep.refl _ _⟩
  have e0 : m.alloc owner = match m.free with | none => (0, 10, m) | some k => ((k : Int), 0, m.modify k fun f => { f with o := owner }) := by unfold Mach.alloc; rw [if_neg hbad]; rfl
  rw [e0]
  clear e0
  have HD := Lib.hid (fun W => ref_domain owner W)
  have HO := Lib.hid (ref_owned h (-1))
  have lm := h.ltm
  have lf := h.ltf
  rcases hns : m.ownN (-1) m.length with _ | ⟨k, r⟩
  · rw [Mach.free_none hns]
    rw [hns] at HO
    have H0 := Lib.hid h
    rcases hd : isDom owner with _ | _
    · rw [hd] at HD hbad
      have h2 : owner = -2 := by simpa using hbad
      subst h2
      clear hbad hns hd h
      go_enter Try.func37, Try.ntmps37
      go_wp2_with (first
        | (go_at_call 81; refine (HD.out _).mono ?_; rintro e w' ⟨rfl, rfl⟩)
        | (go_at_call 82; refine HO.out.mono ?_; rintro e w1 ⟨v, rfl, hown, hk⟩; obtain ⟨A, c, rfl⟩ := own_slice hown; have HX := Lib.hid hk; clear hown hk))
      go_ret2
      exact ⟨rfl, H0.out.keep0 HX.out, HX.out.mono (by simp)⟩
    · rw [hd] at HD
      clear hbad hns hd h
      go_enter Try.func37, Try.ntmps37
      go_wp2_with (first
        | (go_at_call 81; refine (HD.out _).mono ?_; rintro e w' ⟨rfl, rfl⟩)
        | (go_at_call 82; refine HO.out.mono ?_; rintro e w1 ⟨v, rfl, hown, hk⟩; obtain ⟨A, c, rfl⟩ := own_slice hown; have HX := Lib.hid hk; clear hown hk))
      go_ret2
      exact ⟨rfl, H0.out.keep0 HX.out, HX.out.mono (by simp)⟩
  · obtain ⟨hfr, hlt⟩ := Mach.free_head hns
    rw [hfr]
    rw [hns] at HO
    have hfk : m[k]? = some m[k] := List.getElem?_eq_getElem hlt
    have HM : Hid (m.modify k (fun f => { f with o := owner }) = m.set k { m[k] with o := owner }) := by
      show _ = _
      apply List.ext_getElem?
      intro j
      rw [List.getElem?_modify, List.getElem?_set]
      by_cases hj : k = j
      · subst hj; simp [hlt]
      · simp [hj]
    generalize m[k] = f at hfk HM
    have HF := Lib.hid hfk
    have H0 := Lib.hid h
    have k0 : (0 : Int) ≤ (k : Int) := by omega
    have k1 : (k : Int) < (m.length : Int) := by omega
    have fin : ∀ w1, Keep [] w w1 → Hid (RefAt (w1.setCell ⟨rf, k * 4, none⟩ (.int .i64 owner)) rm rf rb pgs (m.set k { f with o := owner }) ∧ Keep [rf] w (w1.setCell ⟨rf, k * 4, none⟩ (.int .i64 owner))) := by
      intro w1 hk
      refine Lib.hid ⟨?_, (hk.mono (by simp)).setCell (.inl (by simp)) _⟩
      have := (H0.out.keep0 hk).set_ HF.out (j := 0) (g := { f with o := owner }) (v := .int .i64 owner) (by omega) rfl rfl
      rwa [Nat.add_zero] at this
    have FIN := Lib.hid fin
    clear fin
    rcases hd : isDom owner with _ | _
    · rw [hd] at HD hbad
      have h2 : owner = -2 := by simpa using hbad
      subst h2
      clear hbad hns hd h hfk hfr hlt
      go_enter Try.func37, Try.ntmps37
      go_wp2_with (first
        | (go_at_call 81; refine (HD.out _).mono ?_; rintro e w' ⟨rfl, rfl⟩)
        | (go_at_call 82; refine HO.out.mono ?_; rintro e w1 ⟨v, rfl, hown, hk⟩; obtain ⟨g, c, cur, rfl, hg, hgb⟩ := own_pos (by simp) hown; obtain ⟨ca, cb, hh0, hh1⟩ := (H0.out.keep0 hk).heads_; have hg0 : w1.cell? ⟨g, 0, none⟩ = some (.int .i64 (k : Int)) := hgb.cell 0; have hc0 := (H0.out.keep0 hk).c0 HF.out; have hfz := (H0.out.keep0 hk).frozen; have hne : g ≠ rf := (by have := H0.out.ltf; omega); have FX := FIN.out w1 hk; clear hown hk hgb))
      go_region
      all_goals go_wp2
      all_goals go_ret2
      all_goals exact ⟨rfl, by rw [HM.out]; exact FX.out.1.drew, FX.out.2.drew⟩
    · rw [hd] at HD
      clear hbad hns hd h hfk hfr hlt
      go_enter Try.func37, Try.ntmps37
      go_wp2_with (first
        | (go_at_call 81; refine (HD.out _).mono ?_; rintro e w' ⟨rfl, rfl⟩)
        | (go_at_call 82; refine HO.out.mono ?_; rintro e w1 ⟨v, rfl, hown, hk⟩; obtain ⟨g, c, cur, rfl, hg, hgb⟩ := own_pos (by simp) hown; obtain ⟨ca, cb, hh0, hh1⟩ := (H0.out.keep0 hk).heads_; have hg0 : w1.cell? ⟨g, 0, none⟩ = some (.int .i64 (k : Int)) := hgb.cell 0; have hc0 := (H0.out.keep0 hk).c0 HF.out; have hfz := (H0.out.keep0 hk).frozen; have hne : g ≠ rf := (by have := H0.out.ltf; omega); have FX := FIN.out w1 hk; clear hown hk hgb))
      go_region
      all_goals go_wp2
      all_goals go_ret2
      all_goals exact ⟨rfl, by rw [HM.out]; exact FX.out.1.drew, FX.out.2.drew⟩
end

end Go.Proofs.Ytkicpmfhnngndaa
