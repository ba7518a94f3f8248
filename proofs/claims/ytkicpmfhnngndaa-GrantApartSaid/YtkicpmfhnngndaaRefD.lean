/- What is proved: what Write of the reference's machine does. Conditions: the machine lies in memory as RefAt says, the bytes lie elsewhere. -/
import Derived.Test.YtkicpmfhnngndaaRefC
set_option linter.unusedSimpArgs false
set_option linter.unusedVariables false
namespace Go.Proofs.Ytkicpmfhnngndaa
open Go.RowKit

theorem laid_nil {b : List UInt8} {off : Nat} (h : off ≤ b.length) : laid b off [] = b := by simp [laid]
theorem laid_set {b l : List UInt8} {off k : Nat} {x : UInt8} (h : off + l.length ≤ b.length) (hx : l[k]? = some x) : (laid b off (l.take k)).set (off + k) x = laid b off (l.take (k + 1)) := by
  have hk := (List.getElem?_eq_some_iff.1 hx).1
  have e : l.take (k + 1) = l.take k ++ [x] := by rw [List.take_add_one, hx]; rfl
  unfold laid
  rw [e]
  have hd : b.drop (off + (l.take k).length) = b[off + k]'(by omega) :: b.drop (off + (l.take k ++ [x]).length) := by
    simp only [List.length_take, List.length_append, List.length_cons, List.length_nil, Nat.min_eq_left (Nat.le_of_lt hk)]
    rw [List.drop_eq_getElem_cons (show off + k < b.length by omega)]; rfl
  rw [hd, List.set_append_right _ _ (by simp; omega)]
  simp only [List.length_append, List.length_take, Nat.min_eq_left (Nat.le_of_lt hk), Nat.min_eq_left (show off ≤ b.length by omega)]
  rw [show off + k - (off + k) = 0 by omega]
  simp

section
variable {w w' : World} {rm rf rb : Nat} {pgs : List Nat} {m : Mach} {S : List Nat}

theorem RefAt.setB (h : RefAt w rm rf rb pgs m) {k g : Nat} {f : Fr} (hk : m[k]? = some f) (hg : pgs[k]? = some g) (j : Nat) (x : UInt8) : RefAt (w.setCell ⟨g, j, none⟩ (byteV x)) rm rf rb pgs (m.set k { f with b := f.b.set j x }) := by
  have hm := List.mem_of_getElem? hg
  have n1 := h.pg_m hm
  have n2 := h.pg_f hm
  have n3 := h.pg_b hm
  obtain ⟨⟨c1, c2, r1, r2, a, b, c⟩, l, nd, pg, ps, lo, hi⟩ := h
  have hl : k < m.length := (List.getElem?_eq_some_iff.1 hk).1
  refine ⟨⟨c1, c2, r1, r2, ?_, ?_, c.far (p := ⟨g, j, none⟩) n3.symm _⟩, by simpa using l, nd, ?_, ?_, by simpa using lo, by simpa using hi⟩
  · simpa using a.far (p := ⟨g, j, none⟩) n1.symm _
  · rw [heads_bytes hk]; exact b.far (p := ⟨g, j, none⟩) n2.symm _
  · intro j' f' g' hj' hg'
    rw [List.getElem?_set] at hj'
    by_cases e : k = j'
    · subst e
      rw [if_pos rfl, if_pos hl] at hj'
      simp at hj'; subst hj'
      rw [hg] at hg'; cases hg'
      have := (pg k f g hk hg).set_ j (byteV x)
      rwa [← List.map_set] at this
    · rw [if_neg e] at hj'
      refine (pg j' f' g' hj' hg').far (p := ⟨g, j, none⟩) ?_ _
      rintro rfl
      have h1 := List.getElem?_eq_some_iff.1 hg
      have h2 := List.getElem?_eq_some_iff.1 hg'
      exact e ((List.getElem_inj nd).1 (h1.2.trans h2.2.symm))
  · exact ps.set (by simpa using ps.get hk)

set_option maxRecDepth 100000 in
set_option maxHeartbeats 2000000 in
theorem ref_write (h : RefAt w rm rf rb pgs m) (mfn off : Int) {N : Nat → Prop} {A : Option Addr} {l : List UInt8} {c : Nat} (hl : l.length ≤ 65536) (hv : BytesAt w N A l) (hN : ∀ g ∈ pgs, ¬ N g) :
    Calls Try.prog 51 #[.pointer (some ⟨rm, 0, none⟩), .int .i64 mfn, .int .i64 off, .slice A l.length c] w fun e w' =>
      e = .returned (.int .i64 (m.write mfn off l).1) ∧ RefAt w' rm rf rb pgs (m.write mfn off l).2 ∧ Keep pgs w w' := by
  have HI := Lib.hid (ref_in h mfn off l.length)
  rcases hx : m.has mfn off l.length with _ | f
  · rw [show m.write mfn off l = (1, m) by simp [Mach.write, hx]]
    have g1 : (decide (0 ≤ mfn) && decide (mfn < m.length) && inPg off l.length) = false := by
      unfold Mach.has at hx
      rcases hi : m.idx mfn with _ | f
      · rcases Mach.idx_none hi with hb | hb
        · simp; omega
        · simp; omega
      · rw [hi] at hx
        simp only at hx
        split at hx
        · rename_i hh
          simp only [inPg, Bool.and_eq_false_iff, decide_eq_false_iff_not]
          omega
        · cases hx
    rw [g1] at HI
    clear hx g1 hv
    go_enter Try.func51, Try.ntmps51
    go_wp2_with (go_at_call 88; refine HI.out.mono ?_; rintro e w' ⟨rfl, rfl⟩)
    go_ret
    exact ⟨rfl, h, Keep.refl _ _⟩
  obtain ⟨k, rfl, hk, hlt, ho0, hn0, ho1, hn1⟩ := Mach.has_some hx
  have g1 : (decide (0 ≤ (k : Int)) && decide ((k : Int) < m.length) && inPg off l.length) = true := by simp [inPg]; omega
  rw [g1] at HI
  clear g1
  obtain ⟨o, rfl⟩ := Int.eq_ofNat_of_zero_le ho0
  obtain ⟨ca, cb, hh0, hh1⟩ := h.heads_
  have c0 := h.c0 hk
  have k0 : (0 : Int) ≤ (k : Int) := by omega
  have k1 : (k : Int) < (m.length : Int) := by omega
  by_cases ho : f.o = -1
  · rw [show m.write k o l = (11, m) by simp [Mach.write, hx, ho]]
    have ho1 := beq_yes ho
    clear hx hk hv ho
    go_enter Try.func51, Try.ntmps51
    go_wp2_with (go_at_call 88; refine HI.out.mono ?_; rintro e w' ⟨rfl, rfl⟩)
    go_ret
    exact ⟨rfl, h, Keep.refl _ _⟩
  · rw [show m.write k o l = (0, m.set k { f with b := laid f.b o l }) by simp [Mach.write, hx, ho]]
    have hfl := h.ps.get hk
    have hle : o + l.length ≤ 256 := by omega
    have hbo := beq_no ho
    obtain ⟨g, hg⟩ : ∃ g, pgs[k]? = some g := ⟨pgs[k]'(by have := h.len; omega), List.getElem?_eq_getElem _⟩
    have hgm := List.mem_of_getElem? hg
    have hself : m.set k { f with b := laid f.b o [] } = m := by
      rw [laid_nil (by omega)]
      apply List.ext_getElem?
      intro j
      rw [List.getElem?_set]
      split
      · rename_i e; subst e; rw [hk]
      · rfl
    have HS := Lib.hid hself
    have HK := Lib.hid hk
    have HG := Lib.hid hg
    have HV := Lib.hid hv
    clear hx hk hg hv hself ho
    go_enter Try.func51, Try.ntmps51
    go_wp2_with (go_at_call 88; refine HI.out.mono ?_; rintro e w' ⟨rfl, rfl⟩)
    go_loopw [9] (fun i wr => ∃ j : Nat, j ≤ l.length ∧ i = .int .i64 (j : Int) ∧ Hid (RefAt wr rm rf rb pgs (m.set k { f with b := laid f.b o (l.take j) }) ∧ Keep pgs w wr)) (fun i _ => l.length - (intOf i).toNat)
    case atStart => exact ⟨0, Nat.zero_le _, rfl, by show RefAt _ _ _ _ _ (m.set k { f with b := laid f.b o [] }) ∧ _; rw [HS.out]; exact ⟨h, Keep.refl _ _⟩⟩
    case round =>
      obtain ⟨j, hj, rfl, HH⟩ := hrel
      by_cases hjl : j < l.length
      · obtain ⟨x, hx⟩ : ∃ x, l[j]? = some x := ⟨_, List.getElem?_eq_getElem hjl⟩
        have hr := HH.out.1
        have hkp := HH.out.2
        have hmk : (m.set k { f with b := laid f.b o (l.take j) })[k]? = some { f with b := laid f.b o (l.take j) } := List.getElem?_set_self hlt
        obtain ⟨cc, cd, hg0, hg1⟩ := hr.heads_
        rw [List.length_set] at hg1
        have hpc : wr.cell? ⟨rb, k, none⟩ = some (.slice (some ⟨g, 0, none⟩) 256 256) := hr.pgc HG.out
        obtain ⟨ad, hA, hNa, hsa⟩ := HV.out (by rintro rfl; simp at hjl)
        have hsc : wr.cell? (ad.add j) = some (.int .u8 (x.toNat : Int)) := by
          refine hkp.cell_some (hsa j x hx) ?_
          rw [show (ad.add j).block = ad.block by unfold Addr.add; split <;> rfl]
          exact fun hm => hN _ hm hNa
        have hne : (ad.add j).block ≠ g := by
          rw [show (ad.add j).block = ad.block by unfold Addr.add; split <;> rfl]
          rintro rfl; exact hN _ hgm hNa
        have hpb := hr.pg k _ g hmk HG.out
        have hlaid : (laid f.b o (l.take j)).length = 256 := by rw [laid_length (by simp; omega), hfl]
        have hdc : ∃ y, wr.cell? ⟨g, o + j, none⟩ = some y := by
          rw [hpb.cell]
          exact ⟨_, List.getElem?_eq_getElem (by simp; omega)⟩
        obtain ⟨y, hdc⟩ := hdc
        have hdf := hpb.frozen
        have hsum : IntKind.i64.wrap ((o : Int) + (j : Int)) = (o : Int) + (j : Int) := IntWalk.i64_in _ (by omega)
        have hs0 : 0 ≤ (o : Int) + (j : Int) := by omega
        have hs1 : (o : Int) + (j : Int) < 256 := by omega
        have hs2 : ((o : Int) + (j : Int)).toNat = o + j := by omega
        have FX : Hid (RefAt (wr.setCell ⟨g, o + j, none⟩ (.int .u8 (x.toNat : Int))) rm rf rb pgs (m.set k { f with b := laid f.b o (l.take (j + 1)) }) ∧ Keep pgs w (wr.setCell ⟨g, o + j, none⟩ (.int .u8 (x.toNat : Int)))) := by
          refine Lib.hid ⟨?_, hkp.setCell (.inl hgm) _⟩
          have := hr.setB hmk HG.out (o + j) x
          rw [List.set_set] at this
          dsimp only at this
          rw [laid_set (by omega) hx] at this
          exact this
        subst hA
        clear hr hkp hmk hg0 hsa hpb hlaid hx HH
        go_wp2
        go_region
        all_goals go_wp2
        all_goals go_roundw
        case rel => exact ⟨j + 1, by omega, by go_num, Lib.hid ⟨FX.out.1.drew, FX.out.2.drew⟩⟩
        case measure => simp [intOf]; omega
      · obtain rfl : j = l.length := by omega
        go_wp2
        go_ret
        have := HH.out
        rw [List.take_length] at this
        exact ⟨rfl, this⟩
end

end Go.Proofs.Ytkicpmfhnngndaa
