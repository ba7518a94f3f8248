/- What is proved: what Put, rest, Give, Frame, part of phys compute. Conditions: the machine lies in memory as PhysAt says. -/
import Derived.Test.YtkicpmfhnngndaaPhysB
set_option linter.unusedSimpArgs false
set_option linter.unusedVariables false
namespace Go.Proofs.Ytkicpmfhnngndaa
open Go.RowKit

section
variable {w : World} {bm bf : Nat} {m : Mach}

set_option maxRecDepth 100000 in
theorem phys_put (h : PhysAt w bm bf m) (mfn kd : Int) :
    Calls Try.prog 62 #[.pointer (some ⟨bm, 0, none⟩), .int .i64 mfn, .int .i64 kd] w fun e w' =>
      e = .returned (.int .i64 (m.putR mfn kd).1) ∧ PhysAt w' bm bf (m.putR mfn kd).2 ∧ Keep [bf] w w' := by
  rcases hx : m.idx mfn with _ | f
  · rw [show m.putR mfn kd = (1, m) by simp [Mach.putR, hx]]
    have H := Lib.hid hx
    clear hx
    go_enter Try.func62, Try.ntmps62
    go_wp2_with (go_at_call 92; refine (phys_kinds_none h H.out kd).mono ?_; rintro e w' ⟨rfl, rfl⟩)
    go_ret
    exact ⟨rfl, h, Keep.refl _ _⟩
  obtain ⟨k, rfl, hk, hl⟩ := Mach.idx_some hx
  by_cases hb : kd < 0 ∨ 3 < kd
  · rw [show m.putR k kd = (1, m) by simp [Mach.putR, hx, hb]]
    clear hx
    have H := Lib.hid hk
    clear hk
    have hb' := Lib.hid hb
    clear hb
    go_enter Try.func62, Try.ntmps62
    go_wp2_with (go_at_call 92; refine (phys_kinds_bad h H.out hb'.out).mono ?_; rintro e w' ⟨rfl, rfl⟩)
    go_ret
    exact ⟨rfl, h, Keep.refl _ _⟩
  have hb0 : 0 ≤ kd := by omega
  have hb3 : kd ≤ 3 := by omega
  have c1 := h.c1 hk
  have c2 := h.c2 hk
  have c3 := h.c3 hk
  have hf := h.frozen
  have H := Lib.hid hk
  by_cases h0 : kd = 0
  · subst h0
    by_cases ht : f.t = f.c
    · rw [show m.putR k 0 = (14, m) by simp [Mach.putR, hx, ht]]
      clear hx hk hb
      have ht1 := beq_yes ht
      clear ht
      go_enter Try.func62, Try.ntmps62
      go_wp2_with (go_at_call 92; refine (phys_kinds_some h H.out hb0 hb3).mono ?_; rintro e w' ⟨rfl, rfl⟩)
      go_quiet (fail)
      go_wp2
      go_ret
      exact ⟨rfl, h.drewN _, (Keep.refl _ _).drewN _⟩
    · by_cases hc : f.c = 0
      · rw [show m.putR k 0 = (0, m.set k { f with t := wrap64 (f.t - 1), ty := 0 }) by simp [Mach.putR, hx, hc]; rw [hc] at ht; simp [ht]]
        have h3 := h.setT hk (wrap64 (f.t - 1))
        have h4 := h3.setTy (f := { f with t := wrap64 (f.t - 1) }) (List.getElem?_set_self hl) 0
        rw [List.set_set] at h4
        have H4 := Lib.hid h4
        clear h3 h4
        clear hx hk hb
        have ht1 := beq_no ht
        have hc1 := beq_yes hc
        clear ht hc
        go_enter Try.func62, Try.ntmps62
        go_wp2_with (go_at_call 92; refine (phys_kinds_some h H.out hb0 hb3).mono ?_; rintro e w' ⟨rfl, rfl⟩)
        go_quiet (fail)
        go_wp2
        go_ret
        exact ⟨rfl, (H4.out.drewN _), (((Keep.refl _ _).drewN _).setCell (.inl (by simp)) _).setCell (.inl (by simp)) _⟩
      · rw [show m.putR k 0 = (0, m.set k { f with t := wrap64 (f.t - 1) }) by simp [Mach.putR, hx, hc, ht]]
        have h3 := h.setT hk (wrap64 (f.t - 1))
        have H4 := Lib.hid h3
        clear h3
        clear hx hk hb
        have ht1 := beq_no ht
        have hc1 := beq_no hc
        clear ht hc
        go_enter Try.func62, Try.ntmps62
        go_wp2_with (go_at_call 92; refine (phys_kinds_some h H.out hb0 hb3).mono ?_; rintro e w' ⟨rfl, rfl⟩)
        go_quiet (fail)
        go_wp2
        go_ret
        exact ⟨rfl, (H4.out.drewN _), ((Keep.refl _ _).drewN _).setCell (.inl (by simp)) _⟩
  have hk1 := bne_yes h0
  have hk2 := beq_no h0
  by_cases hty : f.ty = kd
  case neg =>
    rw [show m.putR k kd = (14, m) by simp [Mach.putR, hx, hb, h0, hty]]
    clear hx hk hb h0
    have h2 := bne_yes hty
    clear hty
    go_enter Try.func62, Try.ntmps62
    go_wp2_with (go_at_call 92; refine (phys_kinds_some h H.out hb0 hb3).mono ?_; rintro e w' ⟨rfl, rfl⟩)
    go_ret
    exact ⟨rfl, h, Keep.refl _ _⟩
  have h3 := h.setT hk (wrap64 (f.t - 1))
  have h4 := h3.setC (f := { f with t := wrap64 (f.t - 1) }) (List.getElem?_set_self hl) (wrap64 (f.c - 1))
  rw [List.set_set] at h4
  have h2 := bne_no hty
  by_cases hc : wrap64 (f.c - 1) = 0
  · rw [show m.putR k kd = (0, m.set k { f with t := wrap64 (f.t - 1), c := wrap64 (f.c - 1), ty := 0 }) by simp [Mach.putR, hx, hb, h0, hty, hc]]
    have h5 := h4.setTy (f := { f with t := wrap64 (f.t - 1), c := wrap64 (f.c - 1) }) (List.getElem?_set_self hl) 0
    rw [List.set_set] at h5
    have H5 := Lib.hid h5
    have hc1 := beq_yes hc
    clear h3 h4 h5 hx hk hb h0 hty hc
    go_enter Try.func62, Try.ntmps62
    go_wp2_with (go_at_call 92; refine (phys_kinds_some h H.out hb0 hb3).mono ?_; rintro e w' ⟨rfl, rfl⟩)
    go_quiet (fail)
    go_wp2
    go_ret
    exact ⟨rfl, H5.out.drewN _, ((((Keep.refl _ _).drewN _).setCell (.inl (by simp)) _).setCell (.inl (by simp)) _).setCell (.inl (by simp)) _⟩
  · rw [show m.putR k kd = (0, m.set k { f with t := wrap64 (f.t - 1), c := wrap64 (f.c - 1) }) by simp [Mach.putR, hx, hb, h0, hty, hc]]
    have H5 := Lib.hid h4
    have hc1 := beq_no hc
    clear h3 h4 hx hk hb h0 hty hc
    go_enter Try.func62, Try.ntmps62
    go_wp2_with (go_at_call 92; refine (phys_kinds_some h H.out hb0 hb3).mono ?_; rintro e w' ⟨rfl, rfl⟩)
    go_quiet (fail)
    go_wp2
    go_ret
    exact ⟨rfl, H5.out.drewN _, (((Keep.refl _ _).drewN _).setCell (.inl (by simp)) _).setCell (.inl (by simp)) _⟩

set_option maxRecDepth 100000 in
theorem phys_rest (h : PhysAt w bm bf m) {k : Nat} {f : Fr} (hk : m[k]? = some f) :
    Calls Try.prog 66 #[.pointer (some ⟨bf, k * 260, none⟩)] w fun e w' => e = .returned (.int .i64 f.rest) ∧ w = w' := by
  have c0 := h.c0 hk
  have c3 := h.c3 hk
  clear hk
  by_cases ho : f.o = -1
  · rw [show f.rest = 11 by simp [Fr.rest, ho]]
    have h1 := beq_yes ho
    clear ho
    go_enter Try.func66, Try.ntmps66
    go_wp2
    go_ret
    exact ⟨rfl, rfl⟩
  by_cases ht : f.t = 0
  · rw [show f.rest = 0 by simp [Fr.rest, ho, ht]]
    have h1 := beq_no ho
    have h2 := bne_no ht
    clear ho ht
    go_enter Try.func66, Try.ntmps66
    go_wp2
    go_ret
    exact ⟨rfl, rfl⟩
  · rw [show f.rest = 9 by simp [Fr.rest, ho, ht]]
    have h1 := beq_no ho
    have h2 := bne_yes ht
    clear ho ht
    go_enter Try.func66, Try.ntmps66
    go_wp2
    go_ret
    exact ⟨rfl, rfl⟩

/-- A frame's head, as Frame tells it. -/
def Fr.head (f : Fr) : Value := .agg #[.int .i64 f.o, .int .i64 f.ty, .int .i64 f.c, .int .i64 f.t]
def Mach.frameV (m : Mach) (mfn : Int) : Value := match m.idx mfn with
  | none => .tuple #[.agg #[.int .i64 0, .int .i64 0, .int .i64 0, .int .i64 0], .int .i64 1]
  | some f => .tuple #[f.head, .int .i64 0]

set_option maxRecDepth 100000 in
theorem phys_frame (h : PhysAt w bm bf m) (mfn : Int) :
    Calls Try.prog 11 #[.pointer (some ⟨bm, 0, none⟩), .int .i64 mfn] w fun e w' => e = .returned (m.frameV mfn) ∧ Keep [] w w' := by
  rcases hx : m.idx mfn with _ | f
  · simp only [Mach.frameV, hx]
    have H := Lib.hid hx
    clear hx
    go_enter Try.func11, Try.ntmps11
    go_wp2_with (go_at_call 48; refine (phys_at_none (h.alloc _) H.out).mono ?_; rintro e w' ⟨rfl, rfl⟩)
    refine bodyPost_ret (v := .tuple #[.agg #[.int .i64 0, .int .i64 0, .int .i64 0, .int .i64 0], .int .i64 1]) (by simp [results, Try.results11, go_sem]) rfl ⟨rfl, ?_⟩
    exact (by repeat (first | with_reducible exact Keep.refl _ _ | with_reducible assumption | with_reducible apply Keep.alloc | with_reducible apply Keep.drewN | with_reducible apply Keep.drew | (with_reducible refine Keep.setCell ?_ ?_ _) | focus (left; simp; done) | focus (right; simp; done) | focus (right; simp; omega)))
  · obtain ⟨k, rfl, hk, hl⟩ := Mach.idx_some hx
    simp only [Mach.frameV, hx, Fr.head]
    have lf := h.ltf
    have c0 := h.c0 hk
    have c1 := h.c1 hk
    have c2 := h.c2 hk
    have c3 := h.c3 hk
    have H := Lib.hid hk
    clear hx hk
    go_enter Try.func11, Try.ntmps11
    go_wp2_with (go_at_call 48; refine (phys_at_some (h.alloc _) H.out).mono ?_; rintro e w' ⟨rfl, rfl⟩)
    refine bodyPost_ret (v := .tuple #[.agg #[.int .i64 f.o, .int .i64 f.ty, .int .i64 f.c, .int .i64 f.t], .int .i64 0]) (by simp [results, Try.results11, go_sem]) rfl ⟨rfl, ?_⟩
    exact (by repeat (first | with_reducible exact Keep.refl _ _ | with_reducible assumption | with_reducible apply Keep.alloc | with_reducible apply Keep.drewN | with_reducible apply Keep.drew | (with_reducible refine Keep.setCell ?_ ?_ _) | focus (left; simp; done) | focus (right; simp; done) | focus (right; simp; omega)))

theorem Mach.has_some {m : Mach} {mfn off n : Int} {f : Fr} (h : m.has mfn off n = some f) : ∃ k : Nat, mfn = k ∧ m[k]? = some f ∧ k < m.length ∧ 0 ≤ off ∧ 0 ≤ n ∧ off ≤ 256 ∧ n ≤ 256 - off := by
  unfold Mach.has at h
  rcases hx : m.idx mfn with _ | g
  · rw [hx] at h; cases h
  · rw [hx] at h
    dsimp only at h
    split at h
    · cases h
    · cases h
      obtain ⟨k, rfl, hk, hl⟩ := Mach.idx_some hx
      exact ⟨k, rfl, hk, hl, by omega, by omega, by omega, by omega⟩

set_option maxRecDepth 100000 in
theorem phys_part_some (h : PhysAt w bm bf m) {k : Nat} {f : Fr} (hk : m[k]? = some f) {off n : Int} (h1 : 0 ≤ off) (h2 : 0 ≤ n) (h3 : off ≤ 256) (h4 : n ≤ 256 - off) :
    Calls Try.prog 47 #[.pointer (some ⟨bm, 0, none⟩), .int .i64 (k : Int), .int .i64 off, .int .i64 n] w fun e w' => e = .returned (.tuple #[.pointer (some ⟨bf, k * 260, none⟩), .int .i64 0]) ∧ w = w' := by
  go_enter Try.func47, Try.ntmps47
  go_wp2_with (go_at_call 48; refine (phys_at_some h hk).mono ?_; rintro e w' ⟨rfl, rfl⟩)
  go_ret2
  exact ⟨rfl, rfl⟩

set_option maxRecDepth 100000 in
theorem phys_part_none (h : PhysAt w bm bf m) {mfn off n : Int} (hx : m.has mfn off n = none) :
    Calls Try.prog 47 #[.pointer (some ⟨bm, 0, none⟩), .int .i64 mfn, .int .i64 off, .int .i64 n] w fun e w' => (∃ p, e = .returned (.tuple #[p, .int .i64 1])) ∧ w = w' := by
  unfold Mach.has at hx
  rcases hi : m.idx mfn with _ | f
  · clear hx
    have H := Lib.hid hi
    clear hi
    go_enter Try.func47, Try.ntmps47
    go_wp2_with (go_at_call 48; refine (phys_at_none h H.out).mono ?_; rintro e w' ⟨rfl, rfl⟩)
    go_ret2
    exact ⟨⟨_, rfl⟩, rfl⟩
  · obtain ⟨k, rfl, hk, hl⟩ := Mach.idx_some hi
    simp only [hi] at hx
    have hx' : off < 0 ∨ n < 0 ∨ 256 < off ∨ 256 - off < n := by
      by_cases hc : off < 0 ∨ n < 0 ∨ 256 < off ∨ 256 - off < n
      · exact hc
      · rw [if_neg hc] at hx; cases hx
    have H := Lib.hid hk
    clear hi hx hk
    by_cases g1 : off < 0
    · go_enter Try.func47, Try.ntmps47
      go_wp2_with (go_at_call 48; refine (phys_at_some h H.out).mono ?_; rintro e w' ⟨rfl, rfl⟩)
      go_ret2
      exact ⟨⟨_, rfl⟩, rfl⟩
    by_cases g2 : n < 0
    · have g1' : 0 ≤ off := by omega
      clear hx' g1
      go_enter Try.func47, Try.ntmps47
      go_wp2_with (go_at_call 48; refine (phys_at_some h H.out).mono ?_; rintro e w' ⟨rfl, rfl⟩)
      go_ret2
      exact ⟨⟨_, rfl⟩, rfl⟩
    by_cases g3 : 256 < off
    · have g1' : 0 ≤ off := by omega
      have g2' : 0 ≤ n := by omega
      clear hx' g1 g2
      go_enter Try.func47, Try.ntmps47
      go_wp2_with (go_at_call 48; refine (phys_at_some h H.out).mono ?_; rintro e w' ⟨rfl, rfl⟩)
      go_ret2
      exact ⟨⟨_, rfl⟩, rfl⟩
    · have g1' : 0 ≤ off := by omega
      have g2' : 0 ≤ n := by omega
      have g3' : off ≤ 256 := by omega
      have g4' : 256 - off < n := by omega
      clear hx' g1 g2 g3
      go_enter Try.func47, Try.ntmps47
      go_wp2_with (go_at_call 48; refine (phys_at_some h H.out).mono ?_; rintro e w' ⟨rfl, rfl⟩)
      go_ret2
      exact ⟨⟨_, rfl⟩, rfl⟩

end

end Go.Proofs.Ytkicpmfhnngndaa
