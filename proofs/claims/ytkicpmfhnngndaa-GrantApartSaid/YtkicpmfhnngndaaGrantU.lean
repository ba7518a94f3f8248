/- What is proved: what grant.Unpack computes. Conditions: the bytes lie in memory. -/
import Derived.Test.YtkicpmfhnngndaaGrantA
import Derived.Laws.BitsAllLaws
set_option linter.unusedSimpArgs false
set_option linter.unusedVariables false
namespace Go.Proofs.Ytkicpmfhnngndaa
open Go.RowKit

section
variable {w w' : World} {S : List Nat}

theorem i64_nat {n : Nat} (h : n < 2 ^ 63) : IntKind.wrap .i64 (n : Int) = (n : Int) := IntWalk.i64_in _ (by omega)
theorem ofInt_i64 (a : Nat) (ha : a < 2 ^ 63) : (BitVec.ofInt 64 (a : Int)).toNat = a := by
  rw [BitVec.ofInt_natCast, BitVec.toNat_ofNat]; exact Nat.mod_eq_of_lt (by omega)
theorem i64_or_nat (a b : Nat) (ha : a < 2 ^ 63) (hb : b < 2 ^ 63) : bits .or .i64 (a : Int) (b : Int) = ((a ||| b : Nat) : Int) := by
  show IntKind.i64.wrap ((BitVec.ofInt 64 (a : Int) ||| BitVec.ofInt 64 (b : Int)).toNat : Int) = _
  rw [BitVec.toNat_or, ofInt_i64 a ha, ofInt_i64 b hb, i64_nat (Nat.or_lt_two_pow ha hb)]
theorem i64_and_nat (a b : Nat) (ha : a < 2 ^ 63) (hb : b < 2 ^ 63) : bits .and .i64 (a : Int) (b : Int) = ((a &&& b : Nat) : Int) := by
  show IntKind.i64.wrap ((BitVec.ofInt 64 (a : Int) &&& BitVec.ofInt 64 (b : Int)).toNat : Int) = _
  rw [BitVec.toNat_and, ofInt_i64 a ha, ofInt_i64 b hb, i64_nat (Nat.lt_of_le_of_lt Nat.and_le_left ha)]
theorem word_or (x y : UInt8) : bits .or .i64 (x.toNat : Int) ((y.toNat : Int) * 256) = ((x.toNat + 256 * y.toNat : Nat) : Int) := by
  have hx : x.toNat < 256 := x.toNat_lt
  have hy : y.toNat < 256 := y.toNat_lt
  have e : ((y.toNat : Int) * 256) = ((256 * y.toNat : Nat) : Int) := by omega
  rw [e, i64_or_nat _ _ (by omega) (by omega)]
  have := Nat.two_pow_add_eq_or_of_lt (i := 8) hx y.toNat
  rw [Nat.or_comm, ← this]; omega
theorem and3_ (n : Nat) (h : n < 65536) : bits .and .i64 (n : Int) 3 = ((n % 4 : Nat) : Int) := by
  rw [show (3 : Int) = ((3 : Nat) : Int) from rfl, i64_and_nat n 3 (by omega) (by omega), Nat.and_two_pow_sub_one_eq_mod n 2]
theorem and4_ (n : Nat) (h : n < 65536) : bits .and .i64 (n : Int) 4 = ((n / 4 % 2 * 4 : Nat) : Int) := by
  rw [show (4 : Int) = ((4 : Nat) : Int) from rfl, i64_and_nat n 4 (by omega) (by omega), nat_midmask 3 2 n (by decide)]; omega
theorem and8_ (n : Nat) (h : n < 65536) : bits .and .i64 (n : Int) 8 = ((n / 8 % 2 * 8 : Nat) : Int) := by
  rw [show (8 : Int) = ((8 : Nat) : Int) from rfl, i64_and_nat n 8 (by omega) (by omega), nat_midmask 4 3 n (by decide)]; omega
theorem run_byte_int (x : UInt8) (w : World) : (convert 5 3 (.int .u8 (x.toNat : Int))).run Try.prog w = .ok (.int .i64 (x.toNat : Int)) w := by
  have hx : x.toNat < 256 := x.toNat_lt
  simp [convert, run_underlying Try.underlying5, run_underlying Try.underlying3, Conv.intToInt, i64_nat (show x.toNat < 2 ^ 63 by omega)]

set_option maxRecDepth 100000 in
theorem unpack_word {c cp : Nat} {A : Option Addr} {N : Nat → Prop} {l : List UInt8} (hc : w.cell? ⟨c, 0, none⟩ = some (.slice A l.length cp)) (hv : BytesAt w N A l) {i : Nat} {x y : UInt8} (hi : i < 100) (hx : l[i]? = some x) (hy : l[i + 1]? = some y) :
    Calls Try.prog 114 #[.int .i64 (i : Int), .pointer (some ⟨c, 0, none⟩)] w fun e w' => e = .returned (.int .i64 ((x.toNat + 256 * y.toNat : Nat) : Int)) ∧ ∃ n, w' = w.drewN n := by
  obtain ⟨a, rfl, hN, ha⟩ := hv (by rintro rfl; simp at hx)
  have hc0 : w.cell? (a.add i) = some (.int .u8 (x.toNat : Int)) := ha i x hx
  have hc1 : w.cell? ⟨a.block, a.off + (i + 1), none⟩ = some (.int .u8 (y.toNat : Int)) := by have := ha (i + 1) y hy; simpa [Addr.add, byteV] using this
  have hx8 : x.toNat < 256 := x.toNat_lt
  have hy8 : y.toNat < 256 := y.toNat_lt
  have hl := (List.getElem?_eq_some_iff.1 hy).1
  have hl' : (i : Int) + 1 < l.length := by omega
  have hl2 : (i : Int) < l.length := by omega
  have hw : IntKind.i64.wrap ((i : Int) + 1) = (i : Int) + 1 := IntWalk.i64_in _ (by omega)
  have hn1 : 0 ≤ (i : Int) + 1 := by omega
  have ht1 : ((i : Int) + 1).toNat = i + 1 := by omega
  have cv := run_byte_int
  clear hx hy hv ha hl
  go_enter Try.func114, Try.ntmps114
  go_wp2
  go_quiet (fail)
  go_wp2
  go_ret
  rw [← word_or x y]
  exact ⟨rfl, _, rfl⟩

/-- An entry. -/
structure Gr where
  kind : Nat
  ro : Bool
  sub : Bool
  dom : Nat
  gpfn : Nat
  off : Nat
  len : Nat
def Gr.v (g : Gr) : Value := .agg #[.int .i64 (g.kind : Int), .bool g.ro, .bool g.sub, .int .i64 (g.dom : Int), .int .i64 (g.gpfn : Int), .int .i64 (g.off : Int), .int .i64 (g.len : Int)]
def grZ : Value := .agg #[.int .i64 0, .bool false, .bool false, .int .i64 0, .int .i64 0, .int .i64 0, .int .i64 0]
/-- The entry of three words and two bytes. -/
def unpackN (fl dm gp o6 o7 : Nat) : Option Gr :=
  if fl / 8 % 2 = 1 then
    (if 16 ≤ fl ∨ fl % 4 = 3 ∨ 256 < o6 + (o7 + 1) then none else some ⟨fl % 4, decide (fl / 4 % 2 = 1), true, dm, gp, o6, o7 + 1⟩)
  else (if 16 ≤ fl ∨ fl % 4 = 3 then none else some ⟨fl % 4, decide (fl / 4 % 2 = 1), false, dm, gp, 0, 256⟩)
def byteAt (l : List UInt8) (i : Nat) : Nat := (l[i]?.getD 0).toNat
def wordAt (l : List UInt8) (i : Nat) : Nat := byteAt l i + 256 * byteAt l (i + 1)
/-- The entry of eight bytes. -/
def unpackG (l : List UInt8) : Option Gr := unpackN (wordAt l 0) (wordAt l 2) (wordAt l 4) (byteAt l 6) (byteAt l 7)
def upV : Option Gr → Value
  | some g => .tuple #[g.v, .int .i64 0]
  | none => .tuple #[grZ, .int .i64 60]
theorem byteAt_lt (l : List UInt8) (i : Nat) : byteAt l i < 256 := UInt8.toNat_lt _
theorem byteAt_some {l : List UInt8} {i : Nat} (h : i < l.length) : ∃ x : UInt8, l[i]? = some x ∧ x.toNat = byteAt l i := ⟨l[i], List.getElem?_eq_getElem h, by simp [byteAt, h]⟩

theorem BytesAt.keep {N : Nat → Prop} {A : Option Addr} {l : List UInt8} (h : BytesAt w N A l) (k : Keep S w w') (hS : ∀ x ∈ S, ¬ N x) : BytesAt w' N A l := by
  intro hl
  obtain ⟨a, ha, hN, hc⟩ := h hl
  exact ⟨a, ha, hN, fun j x hx => k.cell_some (hc j x hx) (by rw [show (a.add j).block = a.block by unfold Addr.add; split <;> rfl]; exact fun hm => hS _ hm hN)⟩

theorem unpack_word' {c cp : Nat} {A : Option Addr} {N : Nat → Prop} {l : List UInt8} (hc : w.cell? ⟨c, 0, none⟩ = some (.slice A 8 cp)) (hl : l.length = 8) (hv : BytesAt w N A l) (i : Nat) (hi : i < 7) :
    Calls Try.prog 114 #[.int .i64 (i : Int), .pointer (some ⟨c, 0, none⟩)] w fun e w' => e = .returned (.int .i64 ((wordAt l i : Nat) : Int)) ∧ ∃ n, w' = w.drewN n := by
  obtain ⟨x, hx, hx'⟩ := byteAt_some (l := l) (i := i) (by omega)
  obtain ⟨y, hy, hy'⟩ := byteAt_some (l := l) (i := i + 1) (by omega)
  rw [← hl] at hc
  have := unpack_word hc hv (i := i) (by omega) hx hy
  unfold wordAt
  rw [← hx', ← hy']
  exact this

/-- The closure tells the word at i. -/
abbrev Tells (w : World) (s : Value) (i : Int) (x : Nat) : Prop :=
  ∀ (W : World) (c : Nat), W.cell? ⟨c, 0, none⟩ = some s → Keep [] w W →
    Calls Try.prog 114 #[.int .i64 i, .pointer (some ⟨c, 0, none⟩)] W fun e w' => e = .returned (.int .i64 (x : Int)) ∧ ∃ n, w' = W.drewN n

set_option maxRecDepth 100000 in
set_option maxHeartbeats 4000000 in
theorem unpack_walk {a : Addr} {cp fl dm gp o6 o7 : Nat} (hfl' : fl < 65536) (h6 : o6 < 256) (h7 : o7 < 256)
    (d6 : w.cell? ⟨a.block, a.off + 6, none⟩ = some (.int .u8 (o6 : Int))) (d7 : w.cell? ⟨a.block, a.off + 7, none⟩ = some (.int .u8 (o7 : Int)))
    (HW0 : Hid (Tells w (.slice (some a) 8 cp) 0 fl)) (HW2 : Hid (Tells w (.slice (some a) 8 cp) 2 dm)) (HW4 : Hid (Tells w (.slice (some a) 8 cp) 4 gp)) :
    Calls Try.prog 109 #[.slice (some a) 8 cp] w fun e w' => e = .returned (upV (unpackN fl dm gp o6 o7)) ∧ Keep [] w w' := by
  have ld : a.block < w.heap.size := by have := World.block_lt_of_cell? w _ d6; exact this
  have D6 : ∀ o1 o2 n o3, ((((w.alloc o1).alloc o2).drewN n).alloc o3).cell? ⟨a.block, a.off + 6, none⟩ = some (.int .u8 (o6 : Int)) := fun o1 o2 n o3 => Keep.cell_some (S := []) ((((Keep.refl _ w).alloc o1).alloc o2).drewN n |>.alloc o3) d6 (by simp)
  have D7 : ∀ o1 o2 n o3, ((((w.alloc o1).alloc o2).drewN n).alloc o3).cell? ⟨a.block, a.off + 7, none⟩ = some (.int .u8 (o7 : Int)) := fun o1 o2 n o3 => Keep.cell_some (S := []) ((((Keep.refl _ w).alloc o1).alloc o2).drewN n |>.alloc o3) d7 (by simp)
  have ne2 : ¬ a.block = w.heap.size + 1 + 1 := by omega
  clear d6 d7
  obtain ⟨kd, hkd⟩ : ∃ kd, kd = fl % 4 := ⟨_, rfl⟩
  have k3 := and3_ fl hfl'
  rw [← hkd] at k3
  obtain ⟨r4, k4⟩ : ∃ r4, bits .and .i64 (fl : Int) 4 = r4 := ⟨_, rfl⟩
  have hro : (r4 != 0) = decide (fl / 4 % 2 = 1) := by
    rw [← k4, and4_ fl hfl']
    by_cases h : fl / 4 % 2 = 1
    · rw [h]; rfl
    · rw [show fl / 4 % 2 = 0 by omega]; rfl
  obtain ⟨ro, hro2⟩ : ∃ ro, ro = decide (fl / 4 % 2 = 1) := ⟨_, rfl⟩
  rw [← hro2] at hro
  have k8 := and8_ fl hfl'
  by_cases hs : fl / 8 % 2 = 1
  · rw [hs] at k8
    have k8 : bits .and .i64 (fl : Int) 8 = 8 := k8
    by_cases hA : 16 ≤ fl
    · rw [show unpackN fl dm gp o6 o7 = none by simp [unpackN, hs, hA]]
      have hA' : (16 : Int) ≤ fl := by omega
      clear hs hkd hro2
      go_enter Try.func109, Try.ntmps109
      go_wp2_with (first | (go_at_call 114; with_reducible refine (HW0.out _ _ (by simp [go_sem]) (by repeat (first | with_reducible exact Keep.refl _ _ | with_reducible assumption | with_reducible apply Keep.alloc | with_reducible apply Keep.drewN | with_reducible apply Keep.drew | (with_reducible refine Keep.setCell ?_ ?_ _) | focus (left; simp; done) | focus (right; simp; done) | focus (right; simp; omega)))).mono ?_; rintro e w' ⟨rfl, n0, rfl⟩) | (go_at_call 114; with_reducible refine (HW2.out _ _ (by simp [go_sem]) (by repeat (first | with_reducible exact Keep.refl _ _ | with_reducible assumption | with_reducible apply Keep.alloc | with_reducible apply Keep.drewN | with_reducible apply Keep.drew | (with_reducible refine Keep.setCell ?_ ?_ _) | focus (left; simp; done) | focus (right; simp; done) | focus (right; simp; omega)))).mono ?_; rintro e w' ⟨rfl, n2, rfl⟩) | (go_at_call 114; with_reducible refine (HW4.out _ _ (by simp [go_sem]) (by repeat (first | with_reducible exact Keep.refl _ _ | with_reducible assumption | with_reducible apply Keep.alloc | with_reducible apply Keep.drewN | with_reducible apply Keep.drew | (with_reducible refine Keep.setCell ?_ ?_ _) | focus (left; simp; done) | focus (right; simp; done) | focus (right; simp; omega)))).mono ?_; rintro e w' ⟨rfl, n4, rfl⟩))
      go_region
      all_goals go_wp2
      all_goals exact bodyPost_ret (v := (upV none)) (by simp [results, Try.results109, go_sem, upV, grZ, Gr.v]) rfl ⟨rfl, (by repeat (first | with_reducible exact Keep.refl _ _ | with_reducible assumption | with_reducible apply Keep.alloc | with_reducible apply Keep.drewN | with_reducible apply Keep.drew | (with_reducible refine Keep.setCell ?_ ?_ _) | focus (left; simp; done) | focus (right; simp; done) | focus (right; simp; omega)))⟩
    · by_cases hB : kd = 3
      · rw [show unpackN fl dm gp o6 o7 = none by simp [unpackN, hs, ← hkd, hB]]
        have hA' : ¬ (16 : Int) ≤ fl := by omega
        have hB' := beq_yes (show (kd : Int) = 3 by omega)
        clear hs hkd hro2
        go_enter Try.func109, Try.ntmps109
        go_wp2_with (first | (go_at_call 114; with_reducible refine (HW0.out _ _ (by simp [go_sem]) (by repeat (first | with_reducible exact Keep.refl _ _ | with_reducible assumption | with_reducible apply Keep.alloc | with_reducible apply Keep.drewN | with_reducible apply Keep.drew | (with_reducible refine Keep.setCell ?_ ?_ _) | focus (left; simp; done) | focus (right; simp; done) | focus (right; simp; omega)))).mono ?_; rintro e w' ⟨rfl, n0, rfl⟩) | (go_at_call 114; with_reducible refine (HW2.out _ _ (by simp [go_sem]) (by repeat (first | with_reducible exact Keep.refl _ _ | with_reducible assumption | with_reducible apply Keep.alloc | with_reducible apply Keep.drewN | with_reducible apply Keep.drew | (with_reducible refine Keep.setCell ?_ ?_ _) | focus (left; simp; done) | focus (right; simp; done) | focus (right; simp; omega)))).mono ?_; rintro e w' ⟨rfl, n2, rfl⟩) | (go_at_call 114; with_reducible refine (HW4.out _ _ (by simp [go_sem]) (by repeat (first | with_reducible exact Keep.refl _ _ | with_reducible assumption | with_reducible apply Keep.alloc | with_reducible apply Keep.drewN | with_reducible apply Keep.drew | (with_reducible refine Keep.setCell ?_ ?_ _) | focus (left; simp; done) | focus (right; simp; done) | focus (right; simp; omega)))).mono ?_; rintro e w' ⟨rfl, n4, rfl⟩))
        go_region
        all_goals go_wp2
        all_goals exact bodyPost_ret (v := (upV none)) (by simp [results, Try.results109, go_sem, upV, grZ, Gr.v]) rfl ⟨rfl, (by repeat (first | with_reducible exact Keep.refl _ _ | with_reducible assumption | with_reducible apply Keep.alloc | with_reducible apply Keep.drewN | with_reducible apply Keep.drew | (with_reducible refine Keep.setCell ?_ ?_ _) | focus (left; simp; done) | focus (right; simp; done) | focus (right; simp; omega)))⟩
      · by_cases hC : 256 < o6 + (o7 + 1)
        · rw [show unpackN fl dm gp o6 o7 = none by simp [unpackN, hs, hC]]
          have hA' : ¬ (16 : Int) ≤ fl := by omega
          have hB' := beq_no (show ¬ (kd : Int) = 3 by omega)
          have hC' : (256 : Int) < (o6 : Int) + ((o7 : Int) + 1) := by omega
          clear hs hkd hro2
          go_enter Try.func109, Try.ntmps109
          go_wp2_with (first | (go_at_call 114; with_reducible refine (HW0.out _ _ (by simp [go_sem]) (by repeat (first | with_reducible exact Keep.refl _ _ | with_reducible assumption | with_reducible apply Keep.alloc | with_reducible apply Keep.drewN | with_reducible apply Keep.drew | (with_reducible refine Keep.setCell ?_ ?_ _) | focus (left; simp; done) | focus (right; simp; done) | focus (right; simp; omega)))).mono ?_; rintro e w' ⟨rfl, n0, rfl⟩) | (go_at_call 114; with_reducible refine (HW2.out _ _ (by simp [go_sem]) (by repeat (first | with_reducible exact Keep.refl _ _ | with_reducible assumption | with_reducible apply Keep.alloc | with_reducible apply Keep.drewN | with_reducible apply Keep.drew | (with_reducible refine Keep.setCell ?_ ?_ _) | focus (left; simp; done) | focus (right; simp; done) | focus (right; simp; omega)))).mono ?_; rintro e w' ⟨rfl, n2, rfl⟩) | (go_at_call 114; with_reducible refine (HW4.out _ _ (by simp [go_sem]) (by repeat (first | with_reducible exact Keep.refl _ _ | with_reducible assumption | with_reducible apply Keep.alloc | with_reducible apply Keep.drewN | with_reducible apply Keep.drew | (with_reducible refine Keep.setCell ?_ ?_ _) | focus (left; simp; done) | focus (right; simp; done) | focus (right; simp; omega)))).mono ?_; rintro e w' ⟨rfl, n4, rfl⟩))
          go_region
          all_goals go_wp2
          all_goals exact bodyPost_ret (v := (upV none)) (by simp [results, Try.results109, go_sem, upV, grZ, Gr.v]) rfl ⟨rfl, (by repeat (first | with_reducible exact Keep.refl _ _ | with_reducible assumption | with_reducible apply Keep.alloc | with_reducible apply Keep.drewN | with_reducible apply Keep.drew | (with_reducible refine Keep.setCell ?_ ?_ _) | focus (left; simp; done) | focus (right; simp; done) | focus (right; simp; omega)))⟩
        · rw [show unpackN fl dm gp o6 o7 = some ⟨kd, ro, true, dm, gp, o6, o7 + 1⟩ by simp [unpackN, hs, hA, ← hkd, hB, hC, hro2]]
          have hA' : ¬ (16 : Int) ≤ fl := by omega
          have hB' := beq_no (show ¬ (kd : Int) = 3 by omega)
          have hC' : ¬ (256 : Int) < (o6 : Int) + ((o7 : Int) + 1) := by omega
          clear hs hkd hro2
          go_enter Try.func109, Try.ntmps109
          go_wp2_with (first | (go_at_call 114; with_reducible refine (HW0.out _ _ (by simp [go_sem]) (by repeat (first | with_reducible exact Keep.refl _ _ | with_reducible assumption | with_reducible apply Keep.alloc | with_reducible apply Keep.drewN | with_reducible apply Keep.drew | (with_reducible refine Keep.setCell ?_ ?_ _) | focus (left; simp; done) | focus (right; simp; done) | focus (right; simp; omega)))).mono ?_; rintro e w' ⟨rfl, n0, rfl⟩) | (go_at_call 114; with_reducible refine (HW2.out _ _ (by simp [go_sem]) (by repeat (first | with_reducible exact Keep.refl _ _ | with_reducible assumption | with_reducible apply Keep.alloc | with_reducible apply Keep.drewN | with_reducible apply Keep.drew | (with_reducible refine Keep.setCell ?_ ?_ _) | focus (left; simp; done) | focus (right; simp; done) | focus (right; simp; omega)))).mono ?_; rintro e w' ⟨rfl, n2, rfl⟩) | (go_at_call 114; with_reducible refine (HW4.out _ _ (by simp [go_sem]) (by repeat (first | with_reducible exact Keep.refl _ _ | with_reducible assumption | with_reducible apply Keep.alloc | with_reducible apply Keep.drewN | with_reducible apply Keep.drew | (with_reducible refine Keep.setCell ?_ ?_ _) | focus (left; simp; done) | focus (right; simp; done) | focus (right; simp; omega)))).mono ?_; rintro e w' ⟨rfl, n4, rfl⟩))
          go_region
          all_goals go_wp2
          all_goals exact bodyPost_ret (v := (upV (some ⟨kd, ro, true, dm, gp, o6, o7 + 1⟩))) (by simp [results, Try.results109, go_sem, upV, grZ, Gr.v]) rfl ⟨rfl, (by repeat (first | with_reducible exact Keep.refl _ _ | with_reducible assumption | with_reducible apply Keep.alloc | with_reducible apply Keep.drewN | with_reducible apply Keep.drew | (with_reducible refine Keep.setCell ?_ ?_ _) | focus (left; simp; done) | focus (right; simp; done) | focus (right; simp; omega)))⟩
  · have k8 : bits .and .i64 (fl : Int) 8 = 0 := by rw [k8, show fl / 8 % 2 = 0 by omega]; rfl
    by_cases hA : 16 ≤ fl
    · rw [show unpackN fl dm gp o6 o7 = none by simp [unpackN, hA]]
      have hA' : (16 : Int) ≤ fl := by omega
      clear hs hkd hro2
      go_enter Try.func109, Try.ntmps109
      go_wp2_with (first | (go_at_call 114; with_reducible refine (HW0.out _ _ (by simp [go_sem]) (by repeat (first | with_reducible exact Keep.refl _ _ | with_reducible assumption | with_reducible apply Keep.alloc | with_reducible apply Keep.drewN | with_reducible apply Keep.drew | (with_reducible refine Keep.setCell ?_ ?_ _) | focus (left; simp; done) | focus (right; simp; done) | focus (right; simp; omega)))).mono ?_; rintro e w' ⟨rfl, n0, rfl⟩) | (go_at_call 114; with_reducible refine (HW2.out _ _ (by simp [go_sem]) (by repeat (first | with_reducible exact Keep.refl _ _ | with_reducible assumption | with_reducible apply Keep.alloc | with_reducible apply Keep.drewN | with_reducible apply Keep.drew | (with_reducible refine Keep.setCell ?_ ?_ _) | focus (left; simp; done) | focus (right; simp; done) | focus (right; simp; omega)))).mono ?_; rintro e w' ⟨rfl, n2, rfl⟩) | (go_at_call 114; with_reducible refine (HW4.out _ _ (by simp [go_sem]) (by repeat (first | with_reducible exact Keep.refl _ _ | with_reducible assumption | with_reducible apply Keep.alloc | with_reducible apply Keep.drewN | with_reducible apply Keep.drew | (with_reducible refine Keep.setCell ?_ ?_ _) | focus (left; simp; done) | focus (right; simp; done) | focus (right; simp; omega)))).mono ?_; rintro e w' ⟨rfl, n4, rfl⟩))
      all_goals exact bodyPost_ret (v := (upV none)) (by simp [results, Try.results109, go_sem, upV, grZ, Gr.v]) rfl ⟨rfl, (by repeat (first | with_reducible exact Keep.refl _ _ | with_reducible assumption | with_reducible apply Keep.alloc | with_reducible apply Keep.drewN | with_reducible apply Keep.drew | (with_reducible refine Keep.setCell ?_ ?_ _) | focus (left; simp; done) | focus (right; simp; done) | focus (right; simp; omega)))⟩
    · by_cases hB : kd = 3
      · rw [show unpackN fl dm gp o6 o7 = none by simp [unpackN, ← hkd, hB]]
        have hA' : ¬ (16 : Int) ≤ fl := by omega
        have hB' := beq_yes (show (kd : Int) = 3 by omega)
        clear hs hkd hro2
        go_enter Try.func109, Try.ntmps109
        go_wp2_with (first | (go_at_call 114; with_reducible refine (HW0.out _ _ (by simp [go_sem]) (by repeat (first | with_reducible exact Keep.refl _ _ | with_reducible assumption | with_reducible apply Keep.alloc | with_reducible apply Keep.drewN | with_reducible apply Keep.drew | (with_reducible refine Keep.setCell ?_ ?_ _) | focus (left; simp; done) | focus (right; simp; done) | focus (right; simp; omega)))).mono ?_; rintro e w' ⟨rfl, n0, rfl⟩) | (go_at_call 114; with_reducible refine (HW2.out _ _ (by simp [go_sem]) (by repeat (first | with_reducible exact Keep.refl _ _ | with_reducible assumption | with_reducible apply Keep.alloc | with_reducible apply Keep.drewN | with_reducible apply Keep.drew | (with_reducible refine Keep.setCell ?_ ?_ _) | focus (left; simp; done) | focus (right; simp; done) | focus (right; simp; omega)))).mono ?_; rintro e w' ⟨rfl, n2, rfl⟩) | (go_at_call 114; with_reducible refine (HW4.out _ _ (by simp [go_sem]) (by repeat (first | with_reducible exact Keep.refl _ _ | with_reducible assumption | with_reducible apply Keep.alloc | with_reducible apply Keep.drewN | with_reducible apply Keep.drew | (with_reducible refine Keep.setCell ?_ ?_ _) | focus (left; simp; done) | focus (right; simp; done) | focus (right; simp; omega)))).mono ?_; rintro e w' ⟨rfl, n4, rfl⟩))
        all_goals exact bodyPost_ret (v := (upV none)) (by simp [results, Try.results109, go_sem, upV, grZ, Gr.v]) rfl ⟨rfl, (by repeat (first | with_reducible exact Keep.refl _ _ | with_reducible assumption | with_reducible apply Keep.alloc | with_reducible apply Keep.drewN | with_reducible apply Keep.drew | (with_reducible refine Keep.setCell ?_ ?_ _) | focus (left; simp; done) | focus (right; simp; done) | focus (right; simp; omega)))⟩
      · rw [show unpackN fl dm gp o6 o7 = some ⟨kd, ro, false, dm, gp, 0, 256⟩ by simp [unpackN, hs, hA, ← hkd, hB, hro2]]
        have hA' : ¬ (16 : Int) ≤ fl := by omega
        have hB' := beq_no (show ¬ (kd : Int) = 3 by omega)
        clear hs hkd hro2
        go_enter Try.func109, Try.ntmps109
        go_wp2_with (first | (go_at_call 114; with_reducible refine (HW0.out _ _ (by simp [go_sem]) (by repeat (first | with_reducible exact Keep.refl _ _ | with_reducible assumption | with_reducible apply Keep.alloc | with_reducible apply Keep.drewN | with_reducible apply Keep.drew | (with_reducible refine Keep.setCell ?_ ?_ _) | focus (left; simp; done) | focus (right; simp; done) | focus (right; simp; omega)))).mono ?_; rintro e w' ⟨rfl, n0, rfl⟩) | (go_at_call 114; with_reducible refine (HW2.out _ _ (by simp [go_sem]) (by repeat (first | with_reducible exact Keep.refl _ _ | with_reducible assumption | with_reducible apply Keep.alloc | with_reducible apply Keep.drewN | with_reducible apply Keep.drew | (with_reducible refine Keep.setCell ?_ ?_ _) | focus (left; simp; done) | focus (right; simp; done) | focus (right; simp; omega)))).mono ?_; rintro e w' ⟨rfl, n2, rfl⟩) | (go_at_call 114; with_reducible refine (HW4.out _ _ (by simp [go_sem]) (by repeat (first | with_reducible exact Keep.refl _ _ | with_reducible assumption | with_reducible apply Keep.alloc | with_reducible apply Keep.drewN | with_reducible apply Keep.drew | (with_reducible refine Keep.setCell ?_ ?_ _) | focus (left; simp; done) | focus (right; simp; done) | focus (right; simp; omega)))).mono ?_; rintro e w' ⟨rfl, n4, rfl⟩))
        all_goals exact bodyPost_ret (v := (upV (some ⟨kd, ro, false, dm, gp, 0, 256⟩))) (by simp [results, Try.results109, go_sem, upV, grZ, Gr.v]) rfl ⟨rfl, (by repeat (first | with_reducible exact Keep.refl _ _ | with_reducible assumption | with_reducible apply Keep.alloc | with_reducible apply Keep.drewN | with_reducible apply Keep.drew | (with_reducible refine Keep.setCell ?_ ?_ _) | focus (left; simp; done) | focus (right; simp; done) | focus (right; simp; omega)))⟩
end

end Go.Proofs.Ytkicpmfhnngndaa
