/- What is proved: the plain law of a copy: where an end lies in the machine that begin made, and what a copy may change. No program is walked. Conditions: those that each theorem names. -/
import Derived.Test.YtkicpmfhnngndaaGrantG
set_option linter.unusedSimpArgs false
set_option linter.unusedVariables false
namespace Go.Proofs.Ytkicpmfhnngndaa
open Go.RowKit

/-- The owner of a frame. -/
def OwnerOf (k : Nat) : Int := if k < 12 then ((k / 4 : Nat) : Int) else -1
/-- Thirteen frames: four to each of three domains, one free. -/
def Good (m : Mach) : Prop := m.length = 13 ∧ ∀ (k : Nat) (f : Fr), m[k]? = some f → f.b.length = 256 ∧ f.o = OwnerOf k ∧ f.ty ≠ 2 ∧ f.ty ≠ 3
/-- A domain's places. -/
def plOf (d : Nat) : List Int := [4 * (d : Int), 4 * (d : Int) + 1, 4 * (d : Int) + 2, 4 * (d : Int) + 3, -1, -1, -1, -1]

theorem OwnerOf.some_ {k : Nat} (h : OwnerOf k ≠ -1) : k < 12 := by unfold OwnerOf at h; split at h <;> omega
theorem Good.get {m : Mach} (h : Good m) {k : Nat} (hk : k < 13) : ∃ f, m[k]? = some f ∧ f.b.length = 256 ∧ f.o = OwnerOf k ∧ f.ty ≠ 2 ∧ f.ty ≠ 3 := by
  obtain ⟨h1, h2⟩ := h
  exact ⟨_, List.getElem?_eq_getElem (by omega), h2 _ _ (List.getElem?_eq_getElem (by omega))⟩
theorem Good.lt {m : Mach} (h : Good m) {k : Nat} {f : Fr} (hk : m[k]? = some f) : k < 13 := by
  have := (List.getElem?_eq_some_iff.1 hk).1
  have := h.1
  omega
theorem Good.set {m : Mach} (h : Good m) {k : Nat} {f : Fr} (hk : m[k]? = some f) {x : List UInt8} (hx : x.length = 256) : Good (m.set k { f with b := x }) := by
  obtain ⟨h1, h2⟩ := h
  refine ⟨by simpa using h1, fun j g hj => ?_⟩
  have hl := (List.getElem?_eq_some_iff.1 hk).1
  rw [List.getElem?_set] at hj
  by_cases e : k = j
  · subst e
    rw [if_pos rfl, if_pos hl] at hj
    simp at hj; subst hj
    obtain ⟨_, b, c, d⟩ := h2 k f hk
    exact ⟨hx, b, c, d⟩
  · rw [if_neg e] at hj
    exact h2 j g hj

theorem pGet_plOf {d : Nat} {g x : Int} (h : pGet (plOf d) g = (x, 0)) : 0 ≤ g ∧ g < 4 ∧ x = 4 * (d : Int) + g := by
  unfold pGet at h
  split at h
  · rename_i h0
    obtain ⟨n, rfl⟩ := Int.eq_ofNat_of_zero_le h0
    rw [Int.toNat_natCast] at h
    match n, h with
    | 0, h => simp [plOf] at h; split at h <;> simp at h <;> omega
    | 1, h => simp [plOf] at h; split at h <;> simp at h <;> omega
    | 2, h => simp [plOf] at h; split at h <;> simp at h <;> omega
    | 3, h => simp [plOf] at h; split at h <;> simp at h <;> omega
    | 4, h => simp [plOf] at h
    | 5, h => simp [plOf] at h
    | 6, h => simp [plOf] at h
    | 7, h => simp [plOf] at h
    | n + 8, h => simp [plOf] at h
  · simp at h

/-- Does the entry that an end names let the caller write a byte of an owner's frame? -/
def Permit (m : Mach) (caller : Int) (gr : Bool) (dom ref : Int) (owner : Int) (mf at_ : Nat) : Prop :=
  gr = true ∧ dom = owner ∧ ∃ (d r : Nat) (f : Fr) (g : Gr), owner = d ∧ d < 3 ∧ ref = r ∧ r < 32 ∧ m[4 * d]? = some f ∧ unpackG ((f.b.drop (8 * r)).take 8) = some g ∧ g.kind = 1 ∧ g.ro = false ∧ (g.dom : Int) = caller ∧ mf = 4 * d + g.gpfn ∧ g.off ≤ at_ ∧ at_ < g.off + g.len

/-- A spot that was told: a frame with room for so many bytes; where it is to be written, the caller's, or permitted. -/
def SpotOk (m : Mach) (caller : Int) (gr : Bool) (dom ref : Int) (n : Int) (wr : Bool) (s : Int × Int × Int) : Prop :=
  s.2.2 = 0 → ∃ (mf so n' : Nat) (f : Fr), n = n' ∧ s = ((mf : Int), (so : Int), 0) ∧ m[mf]? = some f ∧ f.o ≠ -1 ∧ so + n' ≤ 256 ∧
    (wr = true → ∀ k, so ≤ k → k < so + n' → f.o = caller ∨ Permit m caller gr dom ref f.o mf k)

theorem isIn_true {off n size : Int} (h : isIn off n size = true) : 0 ≤ off ∧ 0 ≤ n ∧ off ≤ size ∧ n ≤ size - off := by
  simp [isIn] at h; exact ⟨h.1.1.1, h.1.1.2, h.1.2, h.2⟩

theorem own_ok {m : Mach} (hm : Good m) {d : Nat} (hd : d < 3) (dom ref gpfn off n : Int) (wr : Bool) : SpotOk m d false dom ref n wr (ownSpot (some (plOf d)) gpfn off n) := by
  intro h
  rcases hp : pGet (plOf d) gpfn with ⟨x, e⟩
  simp only [ownSpot, hp] at h ⊢
  by_cases hc : e = 0 ∧ isIn off n 256 = false
  · rw [if_pos hc] at h; omega
  · rw [if_neg hc] at h
    subst h
    obtain ⟨h0, h1, rfl⟩ := pGet_plOf hp
    have hi : isIn off n 256 = true := by
      cases hx : isIn off n 256
      · exact absurd ⟨rfl, hx⟩ hc
      · rfl
    obtain ⟨a, b, c, e⟩ := isIn_true hi
    obtain ⟨g, rfl⟩ := Int.eq_ofNat_of_zero_le h0
    obtain ⟨o, rfl⟩ := Int.eq_ofNat_of_zero_le a
    obtain ⟨n', rfl⟩ := Int.eq_ofNat_of_zero_le b
    obtain ⟨f, hf, _, ho, _⟩ := hm.get (k := 4 * d + g) (by omega)
    have hoo : f.o = (d : Int) := by rw [ho]; unfold OwnerOf; rw [if_pos (by omega)]; omega
    exact ⟨4 * d + g, o, n', f, rfl, by rw [if_neg hc]; simp, hf, by rw [hoo]; omega, by omega, fun _ k _ _ => .inl hoo⟩

theorem gFrame_ok {m : Mach} (hm : Good m) {d : Nat} {g x : Int} (h : gFrame m (plOf d) d g = (x, 0)) : ∃ (k : Nat) (f : Fr), g = (k : Int) ∧ x = ((4 * d + k : Nat) : Int) ∧ k < 4 ∧ m[4 * d + k]? = some f ∧ f.o = d := by
  rcases hp : pGet (plOf d) g with ⟨y, e⟩
  unfold gFrame at h
  rw [hp] at h
  by_cases he : e = 0
  · subst he
    obtain ⟨h0, h1, rfl⟩ := pGet_plOf hp
    obtain ⟨k, rfl⟩ := Int.eq_ofNat_of_zero_le h0
    simp only [ne_eq, not_true_eq_false, if_false] at h
    rw [show (4 * (d : Int) + (k : Int)) = ((4 * d + k : Nat) : Int) by omega, Mach.idx_cast] at h
    rcases hf : m[4 * d + k]? with _ | f
    · rw [hf] at h; simp at h
    · rw [hf] at h
      simp only at h
      split at h
      · simp at h
      · rename_i ho
        simp at h
        exact ⟨k, f, rfl, h.symm, by omega, hf, by simpa using ho⟩
  · simp [he] at h

theorem lent_ok {m : Mach} (hm : Good m) (caller : Int) {d r : Nat} (hd : d < 3) (hr : r < 32) {ft : Fr} (hft : m[4 * d]? = some ft) (off n : Int) (wr : Bool) :
    SpotOk m caller true d r n wr (lentSpot m (unpackG ((ft.b.drop (8 * r)).take 8)) (plOf d) caller d off n wr) := by
  intro h
  rcases hu : unpackG ((ft.b.drop (8 * r)).take 8) with _ | g
  · rw [hu] at h; simp [lentSpot] at h
  rw [hu] at h
  have hle := unpackG_le hu
  rcases hG : gFrame m (plOf d) d g.gpfn with ⟨x, e⟩
  unfold lentSpot at h ⊢
  simp only [hG] at h ⊢
  by_cases h1 : g.kind = 1 ∧ (g.dom : Int) = caller
  case neg => rw [if_pos h1] at h; simp at h
  rw [if_neg (not_not_intro h1)] at h ⊢
  by_cases h2 : e = 0
  case neg => rw [if_pos h2] at h; exact absurd h h2
  rw [if_neg (by simpa using h2)] at h ⊢
  by_cases h3 : wr = true ∧ g.ro = true
  · rw [if_pos h3] at h; simp at h
  rw [if_neg h3] at h ⊢
  rcases h4 : isIn off n g.len with _ | _
  · rw [h4, if_pos rfl] at h; simp at h
  rw [if_neg (by simp)]
  subst h2
  obtain ⟨k, f, hk, rfl, hk4, hf, ho⟩ := gFrame_ok hm hG
  obtain ⟨a, b, c, e⟩ := isIn_true h4
  obtain ⟨o, rfl⟩ := Int.eq_ofNat_of_zero_le a
  obtain ⟨n', rfl⟩ := Int.eq_ofNat_of_zero_le b
  refine ⟨4 * d + k, g.off + o, n', f, rfl, by simp, hf, by rw [ho]; omega, by omega, fun hw j hj1 hj2 => .inr ?_⟩
  refine ⟨rfl, ho.symm, d, r, ft, g, ho, hd, rfl, hr, hft, hu, h1.1, ?_, h1.2, by omega, by omega, by omega⟩
  cases hro : g.ro
  · rfl
  · exact absurd ⟨hw, hro⟩ h3

/-- What a copy may have done. -/
def CopyOk (m m' : Mach) (caller : Int) (gr : Bool) (dom ref : Int) : Prop :=
  m' = m ∨ ∃ (mf so : Nat) (l : List UInt8) (f : Fr), m[mf]? = some f ∧ so + l.length ≤ 256 ∧ m' = m.set mf { f with b := laid f.b so l } ∧
    ∀ k, so ≤ k → k < so + l.length → f.o = caller ∨ Permit m caller gr dom ref f.o mf k

theorem laid_get {b l : List UInt8} {off k : Nat} (h : off + l.length ≤ b.length) (hk : k < off ∨ off + l.length ≤ k) : (laid b off l)[k]? = b[k]? := by
  unfold laid
  rcases hk with hk | hk
  · rw [List.append_assoc, List.getElem?_append_left (by simp; omega), List.getElem?_take, if_pos hk]
  · rw [List.getElem?_append_right (by simp; omega), List.getElem?_drop]
    congr 1
    simp; omega
/-- Behind a copy: a byte that is another one is the caller's, or permitted. -/
theorem CopyOk.at_ {m m' : Mach} {caller : Int} {gr : Bool} {dom ref : Int} (hm : Good m) (h : CopyOk m m' caller gr dom ref) {i : Nat} {f f' : Fr} (hf : m[i]? = some f) (hf' : m'[i]? = some f') {k : Nat} (hk : f.b[k]? ≠ f'.b[k]?) :
    f.o = caller ∨ Permit m caller gr dom ref f.o i k := by
  rcases h with rfl | ⟨mf, so, l, g, hg, hl, rfl, hok⟩
  · rw [hf] at hf'; cases hf'; exact absurd rfl hk
  · by_cases e : mf = i
    · subst e
      have hlt := (List.getElem?_eq_some_iff.1 hg).1
      rw [hf] at hg; cases hg
      rw [List.getElem?_set_self hlt] at hf'
      cases hf'
      have hb := (hm.2 _ _ hf).1
      by_cases hk1 : k < so ∨ so + l.length ≤ k
      · exact absurd (laid_get (by omega) hk1).symm hk
      · exact hok k (by omega) (by omega)
    · rw [List.getElem?_set_ne e, hf] at hf'
      cases hf'
      exact absurd rfl hk
theorem CopyOk.good {m m' : Mach} {caller : Int} {gr : Bool} {dom ref : Int} (hm : Good m) (h : CopyOk m m' caller gr dom ref) : Good m' := by
  rcases h with rfl | ⟨mf, so, l, g, hg, hl, rfl, hok⟩
  · exact hm
  · exact hm.set hg (by have := (hm.2 _ _ hg).1; rw [laid_length (by omega)]; exact this)

end Go.Proofs.Ytkicpmfhnngndaa
