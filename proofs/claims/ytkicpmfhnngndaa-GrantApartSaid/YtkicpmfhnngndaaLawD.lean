/- What is proved: the machine that begin makes, step by step: the plain law. Conditions: none. -/
import Derived.Test.YtkicpmfhnngndaaLawB
set_option linter.unusedSimpArgs false
set_option linter.unusedVariables false
namespace Go.Proofs.Ytkicpmfhnngndaa
open Go.RowKit

def zB : List UInt8 := List.replicate 256 0
/-- n frames are taken, j domains have joined. -/
def mk (n j : Nat) : Mach := (List.range 13).map fun k => ⟨if k < n then ((k / 4 : Nat) : Int) else -1, if k % 4 = 0 ∧ k / 4 < j then 1 else 0, if k % 4 = 0 ∧ k / 4 < j then 1 else 0, if k % 4 = 0 ∧ k / 4 < j then 1 else 0, zB⟩
theorem mk_length (n j : Nat) : (mk n j).length = 13 := by simp [mk]
theorem mk_get (n j : Nat) {k : Nat} (hk : k < 13) : (mk n j)[k]? = some ⟨if k < n then ((k / 4 : Nat) : Int) else -1, if k % 4 = 0 ∧ k / 4 < j then 1 else 0, if k % 4 = 0 ∧ k / 4 < j then 1 else 0, if k % 4 = 0 ∧ k / 4 < j then 1 else 0, zB⟩ := by
  unfold mk
  rw [List.getElem?_map, List.getElem?_range hk]; rfl
theorem mk_zero : mk 0 0 = List.replicate 13 Fr.zero := by
  apply List.ext_getElem?
  intro k
  by_cases hk : k < 13
  · rw [mk_get 0 0 hk, List.getElem?_replicate, if_pos hk, if_neg (by omega), if_neg (by omega)]
    rfl
  · rw [List.getElem?_eq_none (by rw [mk_length]; omega), List.getElem?_eq_none (by simp; omega)]
theorem mk_alloc {n j d : Nat} (hn : n < 12) (hd : d = n / 4) : (mk n j).alloc (d : Int) = ((n : Int), 0, mk (n + 1) j) := by
  have hfr : (mk n j).free = some n := by
    unfold Mach.free
    rw [List.findIdx?_eq_some_iff_getElem]
    refine ⟨by rw [mk_length]; omega, ?_, ?_⟩
    · have h := mk_get n j (k := n) (by omega)
      rw [List.getElem?_eq_getElem (by rw [mk_length]; omega)] at h
      rw [Option.some.inj h]; simp
    · intro i hi
      have h := mk_get n j (k := i) (by omega)
      rw [List.getElem?_eq_getElem (by rw [mk_length]; omega)] at h
      rw [Option.some.inj h]; simp [hi]; omega
  unfold Mach.alloc
  rw [if_neg (by simp [isDom]; omega), hfr]
  simp only [Prod.mk.injEq, true_and]
  apply List.ext_getElem?
  intro k
  rw [List.getElem?_modify]
  by_cases hk : k < 13
  · rw [mk_get n j hk, mk_get (n + 1) j hk]
    by_cases e : n = k
    · subst e; subst hd; simp
    · have hh : (k < n) ↔ (k < n + 1) := by omega
      simp [e, hh]
  · rw [List.getElem?_eq_none (by rw [mk_length]; omega), List.getElem?_eq_none (by rw [mk_length]; omega)]; rfl
theorem mk_get1 {d : Nat} (hd : d < 3) : (mk (4 * d + 4) d).get ((4 * d : Nat) : Int) (d : Int) 1 = (0, mk (4 * d + 4) (d + 1)) ∧ (mk (4 * d + 4) d).getR ((4 * d : Nat) : Int) (d : Int) 1 = (0, mk (4 * d + 4) (d + 1)) := by
  have hf := mk_get (4 * d + 4) d (k := 4 * d) (by omega)
  rw [if_pos (by omega), if_neg (by omega), show 4 * d / 4 = d by omega] at hf
  have hs : (mk (4 * d + 4) d).set (4 * d) ⟨(d : Int), 1, 1, 1, zB⟩ = mk (4 * d + 4) (d + 1) := by
    apply List.ext_getElem?
    intro k
    rw [List.getElem?_set]
    by_cases hk : k < 13
    · by_cases e : 4 * d = k
      · subst e
        rw [if_pos rfl, if_pos (by rw [mk_length]; omega), mk_get _ _ hk, if_pos (by omega), if_pos (by omega), show 4 * d / 4 = d by omega]
      · rw [if_neg e, mk_get _ _ hk, mk_get _ _ hk]
        have : (k % 4 = 0 ∧ k / 4 < d) ↔ (k % 4 = 0 ∧ k / 4 < d + 1) := by omega
        simp only [this]
    · rw [if_neg (by omega), List.getElem?_eq_none (by rw [mk_length]; omega), List.getElem?_eq_none (by rw [mk_length]; omega)]
  have hne : (d : Int) ≠ -1 := by omega
  have w1 : wrap64 (0 + 1) = 1 := by unfold wrap64; omega
  constructor
  · unfold Mach.get
    rw [Mach.idx_cast, hf]
    simp only [Int.toNat_natCast]
    rw [if_neg (by omega), if_neg hne, if_neg (by simp), if_neg (by simp), if_pos (by decide)]
    simp only [w1]
    rw [hs]
  · unfold Mach.getR
    rw [Mach.idx_cast, hf]
    simp only [Int.toNat_natCast]
    rw [if_neg (by omega), if_neg hne, if_neg (by simp), if_neg (by simp), if_pos (by decide)]
    simp only [w1]
    rw [hs]
theorem mk_good : Good (mk 12 3) := by
  refine ⟨mk_length _ _, fun k f hf => ?_⟩
  have hk : k < 13 := by have := (List.getElem?_eq_some_iff.1 hf).1; rwa [mk_length] at this
  rw [mk_get _ _ hk] at hf
  cases hf
  refine ⟨List.length_replicate, rfl, ?_, ?_⟩
  · dsimp only; split <;> omega
  · dsimp only; split <;> omega

/-- A domain's places, i of them filled. -/
def plI (d i : Nat) : List Int := (List.range 8).map fun k => if k < i then 4 * (d : Int) + (k : Int) else -1
theorem plI_length (d i : Nat) : (plI d i).length = 8 := by simp [plI]
theorem plI_get (d i : Nat) {k : Nat} (hk : k < 8) : (plI d i)[k]? = some (if k < i then 4 * (d : Int) + (k : Int) else -1) := by
  unfold plI
  rw [List.getElem?_map, List.getElem?_range hk]; rfl
theorem plI_zero (d : Nat) : plI d 0 = List.replicate 8 (-1) := by
  apply List.ext_getElem?
  intro k
  by_cases hk : k < 8
  · rw [plI_get d 0 hk, List.getElem?_replicate, if_pos hk]; rfl
  · rw [List.getElem?_eq_none (by rw [plI_length]; omega), List.getElem?_eq_none (by simp; omega)]
theorem plI_four (d : Nat) : plI d 4 = plOf d := by simp [plI, plOf, List.range, List.range.loop]
theorem plI_set {d i : Nat} (hi : i < 8) : (plI d i).set i (4 * (d : Int) + (i : Int)) = plI d (i + 1) := by
  apply List.ext_getElem?
  intro k
  rw [List.getElem?_set, plI_length]
  by_cases hk : k < 8
  · by_cases e : i = k
    · subst e; rw [if_pos rfl, if_pos hi, plI_get _ _ hi, if_pos (by omega)]
    · rw [if_neg e, plI_get _ _ hk, plI_get _ _ hk]
      congr 1
      split <;> split <;> omega
  · rw [List.getElem?_eq_none (l := plI d i) (by rw [plI_length]; omega), List.getElem?_eq_none (l := plI d (i + 1)) (by rw [plI_length]; omega)]
    split <;> simp_all
theorem plI_none {d i : Nat} (hi : i < 8) : (plI d i)[i]? = some (-1) := by rw [plI_get _ _ hi, if_neg (by omega)]
theorem plI_in {d i : Nat} : ¬ pIn (plI d i) (4 * (d : Int) + (i : Int)) := by
  rintro ⟨h0, hm⟩
  unfold plI at hm
  obtain ⟨k, hk, he⟩ := List.mem_map.1 hm
  split at he <;> omega

def memI (d : Nat) (pb : Nat → Nat) : List (Int × (Int × Nat)) := (List.range d).map fun (e : Nat) => ((e : Int), (((4 * e : Nat) : Int), pb e))
def memQ (d : Nat) (qb : Nat → Nat) : List (Option (Int × Nat)) := (List.range 8).map fun (e : Nat) => if e < d then some (((4 * e : Nat) : Int), qb e) else none
theorem memI_three (pb : Nat → Nat) : memI 3 pb = mem3 pb := rfl
theorem memQ_three (qb : Nat → Nat) : memQ 3 qb = mem8 qb := rfl
theorem memI_succ (d : Nat) (pb : Nat → Nat) : memI (d + 1) pb = memI d pb ++ [((d : Int), (((4 * d : Nat) : Int), pb d))] := by simp [memI, List.range_succ]
theorem memI_none (d : Nat) (pb : Nat → Nat) : memOf (memI d pb) (d : Int) = none := by
  have : ∀ l : List Nat, (∀ e ∈ l, e < d) → memOf (l.map fun (e : Nat) => ((e : Int), (((4 * e : Nat) : Int), pb e))) (d : Int) = none := by
    intro l
    induction l with
    | nil => intro _; rfl
    | cons e l ih =>
      intro h
      have h1 := h e (by simp)
      simp only [List.map_cons, memOf]
      rw [if_neg (by omega)]
      exact ih fun x hx => h x (by simp [hx])
  exact this _ fun e he => List.mem_range.1 he
theorem memQ_get (d : Nat) (qb : Nat → Nat) {k : Nat} (hk : k < 8) : (memQ d qb)[k]? = some (if k < d then some (((4 * k : Nat) : Int), qb k) else none) := by
  unfold memQ
  rw [List.getElem?_map, List.getElem?_range hk]; rfl
theorem memQ_zero (qb : Nat → Nat) : memQ 0 qb = List.replicate 8 none := by simp [memQ, List.range, List.range.loop, List.replicate]
theorem memQ_succ {d : Nat} (hd : d < 8) (qb : Nat → Nat) : (memQ d qb).set d (some (((4 * d : Nat) : Int), qb d)) = memQ (d + 1) qb := by
  apply List.ext_getElem?
  intro k
  rw [List.getElem?_set]
  by_cases hk : k < 8
  · by_cases e : d = k
    · subst e; rw [if_pos rfl, if_pos (by simp [memQ]; omega), memQ_get _ _ hk, if_pos (by omega)]
    · rw [if_neg e, memQ_get _ _ hk, memQ_get _ _ hk]
      congr 1
      by_cases h : k < d
      · rw [if_pos h, if_pos (by omega)]
      · rw [if_neg h, if_neg (by omega)]
  · rw [List.getElem?_eq_none (l := memQ d qb) (by simp [memQ]; omega), List.getElem?_eq_none (l := memQ (d + 1) qb) (by simp [memQ]; omega)]
    split <;> simp_all [memQ]

end Go.Proofs.Ytkicpmfhnngndaa
