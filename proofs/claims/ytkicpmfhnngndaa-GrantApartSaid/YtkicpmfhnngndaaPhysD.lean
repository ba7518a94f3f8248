/- What is proved: what Read, Write, Free of phys compute. Conditions: the machine lies in memory as PhysAt says. -/
import Derived.Test.YtkicpmfhnngndaaPhysC
set_option linter.unusedSimpArgs false
set_option linter.unusedVariables false
namespace Go.Proofs.Ytkicpmfhnngndaa
open Go.RowKit

section
variable {w : World} {bm bf : Nat} {m : Mach}

theorem info_u8 : (Try.prog.info? 5).map (fun i => (i.zero, i.size, i.bytes)) = some (some (.int .u8 0), 1, 1) := by kernel_rfl
theorem size_u8 : (Try.prog.info? 5).map (·.size) = some 1 := by kernel_rfl
theorem info_parts3 {P : Program} {t : TypeId} {z : Value} {s b : Nat} (h : (P.info? t).map (fun i => (i.zero, i.size, i.bytes)) = some (some z, s, b)) : ∃ i, P.info? t = some i ∧ i.zero = some z ∧ i.size = s ∧ i.bytes = b := by
  cases hi : P.info? t with
  | none => rw [hi] at h; cases h
  | some i =>
    rw [hi] at h
    simp only [Option.map_some, Option.some.injEq, Prod.mk.injEq] at h
    exact ⟨i, rfl, h.1, h.2.1, h.2.2⟩
theorem run_make_u8 (n : Nat) (hn : n ≤ 65536) (w : World) :
    (Instr.makeSlice 42 (.int .i64 (n : Int)) (.int .i64 (n : Int))).run Try.prog w = .ok (.slice (some ⟨w.heap.size, 0, none⟩) n n) (w.alloc (.cells (zeros n (.int .u8 0)).toArray 5)) := by
  obtain ⟨i, hi, hz, hs, hb⟩ := info_parts3 info_u8
  exact run_make_zeros _ _ i _ Try.underlying42 hi hz rfl hs n (by omega) hn w

/-- Where a page's bytes from a place on lie. -/
def pageAt (b o off : Nat) : Addr := if 256 = off then ⟨b, o, none⟩ else ⟨b, o + off, none⟩
theorem run_slice_page (b o off : Nat) (h : off ≤ 256) (W : World) :
    (Instr.sliceAt 111 (.pointer (some ⟨b, o, none⟩)) (some (.int .i64 (off : Int))) none none).run Try.prog W = .ok (.slice (some (pageAt b o off)) (256 - off) (256 - off)) W := by
  have hs : (Try.prog.info? 5).map (fun i => (i.zero, i.size, i.bytes)) = some (some (.int .u8 0), 1, 1) := info_u8
  obtain ⟨i, hi, hz, h1, hb⟩ := info_parts3 hs
  have hu : Try.prog.underlying 111 = some (.array 256 5) := by kernel_rfl
  simp [Instr.sliceAt, run_underlying hu, Instr.sureAddr, Instr.sliceBounds, Instr.sliceBound, asIntOf, sizeOf, typeInfo, hi, h1, h, pageAt, Addr.add]
  split
  · rfl
  · split
    · simp_all
    · rfl

theorem byteV_one (l : List UInt8) : ∀ v ∈ l.map byteV, v.oneCell' = true := by
  intro v hv
  obtain ⟨x, _, rfl⟩ := List.mem_map.1 hv
  rfl
def readV (f : Fr) (off n : Nat) : List Value := ((f.b.drop off).take n).map byteV
theorem readV_length {f : Fr} (hb : f.b.length = 256) {off n : Nat} (h3 : off ≤ 256) (h4 : n ≤ 256 - off) : (readV f off n).length = n := by
  simp [readV, hb]; omega
theorem PhysAt.page (h : PhysAt w bm bf m) {k : Nat} {f : Fr} (hk : m[k]? = some f) {off n : Nat} (h3 : off ≤ 256) (h4 : n ≤ 256 - off) :
    ∀ j v, (readV f off n)[j]? = some v → w.cell? ((pageAt bf (k * 260 + 4) off).add j) = some v := by
  intro j v hj
  have hl := (List.getElem?_eq_some_iff.1 hj).1
  rw [readV_length (h.pg.get hk) h3 h4] at hl
  unfold readV at hj
  rw [List.getElem?_map] at hj
  rcases hx : ((f.b.drop off).take n)[j]? with _ | x
  · rw [hx] at hj; cases hj
  · rw [hx] at hj
    cases hj
    have hx' : f.b[off + j]? = some x := by
      rw [List.getElem?_take, if_pos hl, List.getElem?_drop] at hx
      exact hx
    have := h.byte hk hx'
    unfold pageAt
    rw [if_neg (by omega)]
    unfold Addr.add
    split
    · subst j; simpa using this
    · simpa [Nat.add_assoc] using this

set_option maxRecDepth 100000 in
theorem phys_read_some (h : PhysAt w bm bf m) {k : Nat} {f : Fr} (hk : m[k]? = some f) {off n : Nat} (h3 : off ≤ 256) (h4 : n ≤ 256 - off) :
    Calls Try.prog 10 #[.pointer (some ⟨bm, 0, none⟩), .int .i64 (k : Int), .int .i64 (off : Int), .int .i64 (n : Int)] w fun e w' =>
      e = .returned (.tuple #[.slice (some ⟨w.heap.size, 0, none⟩) n n, .int .i64 0]) ∧ Blk w' w.heap.size 5 (((f.b.drop off).take n).map byteV) ∧ Keep [] w w' := by
  have hmk := run_make_u8 n (by omega)
  have hb := h.pg.get hk
  have hsl := run_slice_page bf (k * 260 + 4) off h3
  have hl := readV_length hb h3 h4
  have HN : Hid ((readV f off n).length = Nat.min (256 - off) n) := by rw [hl]; exact (Nat.min_eq_right h4).symm
  have HP := Lib.hid ((h.alloc (.cells (zeros n (.int .u8 0)).toArray 5)).page hk h3 h4)
  have HF : Hid (0 + (readV f off n).length ≤ (zeros n (.int .u8 0)).length) := by show _ ≤ _; rw [hl, zeros_length]; omega
  have HS : Hid (splice (zeros n (.int .u8 0)) 0 (readV f off n) = ((f.b.drop off).take n).map byteV) := by
    show _ = _
    simp [splice, hl, zeros]
    simp [readV]
  have HK := Lib.hid hk
  have lf := h.ltf
  clear hk hl hb
  go_enter Try.func10, Try.ntmps10
  go_wp2_with (first | (go_at_call 47; refine (phys_part_some h HK.out (by omega) (by omega) (by omega) (by omega)).mono ?_; rintro e w' ⟨rfl, rfl⟩) | (refine wpList_copy_k rfl (.tmp 26) (.tmp 31) 42 42 rfl 5 Try.underlying42 size_u8 _ _ _ _ _ _ rfl rfl w.heap.size 0 (zeros n (.int .u8 0)) 5 (Blk.new _ _ _) (readV f off n) HN.out (fun _ => ⟨rfl, _, rfl, HP.out⟩) HF.out (byteV_one _) ?_; intro w1 hb1 hk1))
  go_ret2
  rw [← HS.out]
  exact ⟨rfl, hb1.out, (((Keep.refl _ _).alloc _).trans (hk1.mono (S' := [w.heap.size]) (by simp))).mono (by intro x hx; simp at hx; omega)⟩

theorem phys_read_none (h : PhysAt w bm bf m) {mfn off n : Int} (hx : m.has mfn off n = none) :
    Calls Try.prog 10 #[.pointer (some ⟨bm, 0, none⟩), .int .i64 mfn, .int .i64 off, .int .i64 n] w fun e w' =>
      e = .returned (.tuple #[.slice none 0 0, .int .i64 1]) ∧ w = w' := by
  have H := Lib.hid hx
  clear hx
  go_enter Try.func10, Try.ntmps10
  go_wp2_with (go_at_call 47; refine (phys_part_none h H.out).mono ?_; rintro e w' ⟨⟨p, rfl⟩, rfl⟩)
  go_ret2
  exact ⟨rfl, rfl⟩

set_option maxRecDepth 100000 in
theorem phys_write_some (h : PhysAt w bm bf m) {k : Nat} {f : Fr} (hk : m[k]? = some f) (ho : f.o ≠ -1) {off : Nat} {N : Nat → Prop} {A : Option Addr} {l : List UInt8} {c : Nat} (hl : off + l.length ≤ 256) (hv : BytesAt w N A l) :
    Calls Try.prog 15 #[.pointer (some ⟨bm, 0, none⟩), .int .i64 (k : Int), .int .i64 (off : Int), .slice A l.length c] w fun e w' =>
      e = .returned (.int .i64 0) ∧ PhysAt w' bm bf (m.set k { f with b := laid f.b off l }) ∧ Keep [bf] w w' := by
  have hsl := run_slice_page bf (k * 260 + 4) off (by omega)
  have hlt : k < m.length := (List.getElem?_eq_some_iff.1 hk).1
  obtain ⟨cur, hcur, hcl⟩ := h.row
  have HN : Hid ((l.map byteV).length = Nat.min l.length (256 - off)) := by
    show _ = _
    rw [List.length_map]; exact (Nat.min_eq_left (by omega)).symm
  have HP : Hid (0 < (l.map byteV).length → pageAt bf (k * 260 + 4) off = ⟨bf, k * 260 + 4 + off, none⟩ ∧ ∃ ad, A = some ad ∧ ∀ j v, (l.map byteV)[j]? = some v → w.cell? (ad.add j) = some v) := by
    show _ → _
    intro hp
    rw [List.length_map] at hp
    obtain ⟨a, ha, _, hc⟩ := hv (by intro e; rw [e] at hp; simp at hp)
    refine ⟨by unfold pageAt; rw [if_neg (by omega)], a, ha, fun j v hj => ?_⟩
    rw [List.getElem?_map] at hj
    rcases hx : l[j]? with _ | x
    · rw [hx] at hj; cases hj
    · rw [hx] at hj; cases hj; exact hc j x hx
  have HF : Hid (k * 260 + 4 + off + (l.map byteV).length ≤ cur.length) := by show _ ≤ _; rw [List.length_map]; omega
  have HC := Lib.hid hcur
  have HK := Lib.hid hk
  have c0 := h.c0 hk
  have ho1 := beq_no ho
  clear hk ho hcur hv
  have hn0 : (0 : Int) ≤ (l.length : Int) := by omega
  go_enter Try.func15, Try.ntmps15
  go_wp2_with (first | (go_at_call 47; refine (phys_part_some h HK.out (by omega) (by omega) (by omega) (by omega)).mono ?_; rintro e w' ⟨rfl, rfl⟩) | (refine wpList_copy_k rfl (.tmp 35) (.tmp 36) 42 42 rfl 5 Try.underlying42 size_u8 _ _ _ _ _ _ rfl rfl bf (k * 260 + 4 + off) cur 113 HC.out (l.map byteV) HN.out (fun hp => ⟨by rw [(HP.out hp).1], (HP.out hp).2⟩) HF.out (byteV_one _) ?_; intro w1 hb1 hk1))
  go_ret
  exact ⟨rfl, h.laidAt HK.out hl HC.out _ hb1.out hk1, hk1⟩

set_option maxRecDepth 100000 in
theorem phys_write_free (h : PhysAt w bm bf m) {k : Nat} {f : Fr} (hk : m[k]? = some f) (ho : f.o = -1) {off : Int} {A : Option Addr} {n c : Nat} (h1 : 0 ≤ off) (h2 : off ≤ 256) (h3 : n ≤ 256 - off) :
    Calls Try.prog 15 #[.pointer (some ⟨bm, 0, none⟩), .int .i64 (k : Int), .int .i64 off, .slice A n c] w fun e w' =>
      e = .returned (.int .i64 11) ∧ w = w' := by
  have HK := Lib.hid hk
  have c0 := h.c0 hk
  have ho1 := beq_yes ho
  clear hk ho
  go_enter Try.func15, Try.ntmps15
  go_wp2_with (go_at_call 47; refine (phys_part_some h HK.out (by omega) (by omega) (by omega) (by omega)).mono ?_; rintro e w' ⟨rfl, rfl⟩)
  go_ret
  exact ⟨rfl, rfl⟩

theorem phys_write_none (h : PhysAt w bm bf m) {mfn off : Int} {A : Option Addr} {n c : Nat} (hx : m.has mfn off n = none) :
    Calls Try.prog 15 #[.pointer (some ⟨bm, 0, none⟩), .int .i64 mfn, .int .i64 off, .slice A n c] w fun e w' =>
      e = .returned (.int .i64 1) ∧ w = w' := by
  have H := Lib.hid hx
  clear hx
  go_enter Try.func15, Try.ntmps15
  go_wp2_with (go_at_call 47; refine (phys_part_none h H.out).mono ?_; rintro e w' ⟨⟨p, rfl⟩, rfl⟩)
  go_ret
  exact ⟨rfl, rfl⟩

theorem phys_write (h : PhysAt w bm bf m) (mfn off : Int) {N : Nat → Prop} {A : Option Addr} {l : List UInt8} {c : Nat} (hv : BytesAt w N A l) :
    Calls Try.prog 15 #[.pointer (some ⟨bm, 0, none⟩), .int .i64 mfn, .int .i64 off, .slice A l.length c] w fun e w' =>
      e = .returned (.int .i64 (m.write mfn off l).1) ∧ PhysAt w' bm bf (m.write mfn off l).2 ∧ Keep [bf] w w' := by
  rcases hx : m.has mfn off l.length with _ | f
  · simp only [Mach.write, hx]
    refine (phys_write_none h hx).mono ?_
    rintro e w' ⟨rfl, rfl⟩
    exact ⟨rfl, h, Keep.refl _ _⟩
  obtain ⟨k, rfl, hk, hl, h1, h2, h3, h4⟩ := Mach.has_some hx
  simp only [Mach.write, hx]
  by_cases ho : f.o = -1
  · simp only [if_pos ho]
    refine (phys_write_free h hk ho h1 h3 h4).mono ?_
    rintro e w' ⟨rfl, rfl⟩
    exact ⟨rfl, h, Keep.refl _ _⟩
  · simp only [if_neg ho, Int.toNat_natCast]
    obtain ⟨o, rfl⟩ := Int.eq_ofNat_of_zero_le h1
    exact phys_write_some h hk ho (by omega) hv

set_option maxRecDepth 100000 in
theorem phys_free_no (h : PhysAt w bm bf m) {mfn : Int} (hx : ∀ f, m.idx mfn = some f → f.rest ≠ 0) :
    Calls Try.prog 21 #[.pointer (some ⟨bm, 0, none⟩), .int .i64 mfn] w fun e w' => e = .returned (.int .i64 (m.freeF mfn).1) ∧ w = w' := by
  rcases hi : m.idx mfn with _ | f
  · rw [show m.freeF mfn = (1, m) by simp [Mach.freeF, hi]]
    have H := Lib.hid hi
    clear hi hx
    go_enter Try.func21, Try.ntmps21
    go_wp2_with (go_at_call 48; refine (phys_at_none h H.out).mono ?_; rintro e w' ⟨rfl, rfl⟩)
    go_ret
    exact ⟨rfl, rfl⟩
  · have hr := hx f hi
    obtain ⟨k, rfl, hk, hl⟩ := Mach.idx_some hi
    rw [show m.freeF k = (f.rest, m) by simp [Mach.freeF, hi, hr]]
    have H := Lib.hid hk
    have hr1 := beq_no hr
    clear hi hx hk hr
    go_enter Try.func21, Try.ntmps21
    go_wp2_with (first | (go_at_call 48; refine (phys_at_some h H.out).mono ?_; rintro e w' ⟨rfl, rfl⟩) | (go_at_call 66; refine (phys_rest h H.out).mono ?_; rintro e w' ⟨rfl, rfl⟩))
    go_ret
    exact ⟨rfl, rfl⟩

theorem zero_cells : ((((Try.zeroCells113.setIfInBounds 0 (Value.int IntKind.i64 (-1))).setIfInBounds 1 (Value.int IntKind.i64 0)).setIfInBounds 2 (Value.int IntKind.i64 0)).setIfInBounds 3 (Value.int IntKind.i64 0)) = Fr.zero.cells.toArray := by kernel_rfl
theorem size_frame : (Try.prog.info? 113).map (·.size) = some Fr.zero.cells.length := by kernel_rfl
theorem Fr.cells_one (f : Fr) : ∀ v ∈ f.cells, v.oneCell' = true := by
  intro v hv
  simp only [Fr.cells, List.mem_cons] at hv
  rcases hv with rfl | rfl | rfl | rfl | hv
  · rfl
  · rfl
  · rfl
  · rfl
  · exact byteV_one _ v hv

set_option maxRecDepth 100000 in
theorem phys_free_yes (h : PhysAt w bm bf m) {k : Nat} {f : Fr} (hk : m[k]? = some f) (hr : f.rest = 0) :
    Calls Try.prog 21 #[.pointer (some ⟨bm, 0, none⟩), .int .i64 (k : Int)] w fun e w' => e = .returned (.int .i64 0) ∧ PhysAt w' bm bf (m.set k Fr.zero) ∧ Keep [bf] w w' := by
  have hlt : k < m.length := (List.getElem?_eq_some_iff.1 hk).1
  obtain ⟨cur, hcur, hcl⟩ := h.row
  have hfit : Hid (k * 260 + Fr.zero.cells.length ≤ cur.length) := by show _ ≤ _; rw [Fr.cells_length (by simp [Fr.zero])]; omega
  have HC := Lib.hid hcur
  have HK := Lib.hid hk
  have hr1 := beq_yes hr
  have hr0 := Lib.hid hr
  clear hk hr hcur
  go_enter Try.func21, Try.ntmps21
  go_wp2_with (first | (go_at_call 48; refine (phys_at_some h HK.out).mono ?_; rintro e w' ⟨rfl, rfl⟩) | (go_at_call 66; refine (phys_rest h HK.out).mono ?_; rintro e w' ⟨rfl, rfl⟩) | (refine wpList_store_k rfl 113 (.tmp 22) (.tmp 21) rfl bf (k * 260) rfl Fr.zero.cells _ rfl zero_cells cur 113 HC.out size_frame hfit.out (Fr.cells_one _) ?_; intro w1 hb1 hk1))
  go_ret
  exact ⟨by rw [hr0.out]; rfl, h.frameAt HK.out (by simp [Fr.zero]) HC.out _ hb1.out hk1, hk1⟩
end

end Go.Proofs.Ytkicpmfhnngndaa
