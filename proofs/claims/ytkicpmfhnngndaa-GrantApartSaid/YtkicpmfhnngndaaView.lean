/- What is proved: what New, none, Machine, Read of view compute where no rewrite is given. Conditions: the machine and the view lie in memory as PhysAt and ViewAt say. -/
import Derived.Test.YtkicpmfhnngndaaP2n
set_option linter.unusedSimpArgs false
set_option linter.unusedVariables false
namespace Go.Proofs.Ytkicpmfhnngndaa
open Go.RowKit

/-- A view without rewrites: its head in block bv, its map (with no entry) in block bd. -/
structure ViewAt (w : World) (bv bd bm : Nat) (n : Nat) : Prop where
  hd : Blk w bv 100 [.pointer (some ⟨bm, 0, none⟩), .map (some bd), .int .i64 (n : Int)]
  mp : MapAt w bd (kv (.int .i64) [])

section
variable {w w' : World} {bv bd bm bf : Nat} {n : Nat} {m : Mach} {S : List Nat}
theorem ViewAt.keep (h : ViewAt w bv bd bm n) (k : Keep S w w') (h0 : bv ∉ S) (h1 : bd ∉ S) : ViewAt w' bv bd bm n := ⟨h.hd.keep k h0, h.mp.keep k h1⟩
theorem ViewAt.alloc (h : ViewAt w bv bd bm n) (o : Obj) : ViewAt (w.alloc o) bv bd bm n := ⟨h.hd.alloc o, h.mp.alloc o⟩
theorem ViewAt.drewN (h : ViewAt w bv bd bm n) (k : Nat) : ViewAt (w.drewN k) bv bd bm n := ⟨h.hd, h.mp⟩
theorem ViewAt.c0 (h : ViewAt w bv bd bm n) : w.cell? ⟨bv, 0, none⟩ = some (.pointer (some ⟨bm, 0, none⟩)) := h.hd.cell 0
theorem ViewAt.c1 (h : ViewAt w bv bd bm n) : w.cell? ⟨bv, 1, none⟩ = some (.map (some bd)) := h.hd.cell 1
theorem ViewAt.c2 (h : ViewAt w bv bd bm n) : w.cell? ⟨bv, 2, none⟩ = some (.int .i64 (n : Int)) := h.hd.cell 2

theorem view_none (h : ViewAt w bv bd bm n) : Calls Try.prog 93 #[.pointer (some ⟨bv, 0, none⟩)] w fun e w' => e = .returned (.bool false) ∧ w = w' := by
  have c0 := h.c0
  go_enter Try.func93, Try.ntmps93
  go_wp2
  go_ret
  exact ⟨rfl, rfl⟩
theorem view_machine (h : ViewAt w bv bd bm n) : Calls Try.prog 89 #[.pointer (some ⟨bv, 0, none⟩)] w fun e w' => e = .returned (.pointer (some ⟨bm, 0, none⟩)) ∧ w = w' := by
  have c0 := h.c0
  go_enter Try.func89, Try.ntmps89
  go_wp2_with (go_at_call 93; refine (view_none h).mono ?_; rintro e w' ⟨rfl, rfl⟩)
  go_ret
  exact ⟨rfl, rfl⟩
set_option maxRecDepth 100000 in
theorem view_new (h : PhysAt w bm bf m) (h0 : 0 < m.length) : Calls Try.prog 8 #[.pointer (some ⟨bm, 0, none⟩), .slice none 0 0] w fun e w' =>
    e = .returned (.tuple #[.pointer (some ⟨w.heap.size + 1, 0, none⟩), .int .i64 0]) ∧ ViewAt w' (w.heap.size + 1) w.heap.size bm 0 ∧ Keep [] w w' := by
  have hne := beq_no (show ¬ (m.length : Int) = 0 by omega)
  have qm : ∀ W : World, (Instr.makeMap 98 none).run Try.prog W = .ok (.map (some W.heap.size)) (W.alloc (.map #[] 0)) := fun W => rfl
  go_enter Try.func8, Try.ntmps8
  go_wp2_with (go_at_call 13; refine (phys_size h).mono ?_; rintro e w' ⟨rfl, rfl⟩)
  refine wp_loop_once ?_
  go_wp2
  go_ret2
  refine ⟨rfl, ⟨?_, ?_⟩, (by repeat (first | with_reducible exact Keep.refl _ _ | with_reducible assumption | with_reducible apply Keep.alloc | with_reducible apply Keep.drewN | with_reducible apply Keep.drew | (with_reducible refine Keep.setCell ?_ ?_ _) | focus (left; simp; done) | focus (right; simp; done) | focus (right; simp; omega)))⟩
  · have := (Blk.new (w.alloc (.map #[] 0)) 100 [.pointer (some ⟨bm, 0, none⟩), .map (some w.heap.size), .int .i64 ((0 : Nat) : Int)]).alloc (.cells #[.pointer (some ⟨w.heap.size + 1, 0, none⟩)] 37)
    simpa using this
  · have := (((MapAt.new w).alloc (.cells #[.pointer (some ⟨bm, 0, none⟩), .map (some w.heap.size), .int .i64 ((0 : Nat) : Int)] 100)).alloc (.cells #[.pointer (some ⟨w.heap.size + 1, 0, none⟩)] 37))
    simpa [kv] using this

set_option maxRecDepth 100000 in
theorem view_read_some (v : ViewAt w bv bd bm n) (h : PhysAt w bm bf m) (hn : n < 1000) (hvf : bv ≠ bf) (hvm : bv ≠ bm) {k : Nat} {f : Fr} (hk : m[k]? = some f) {off l : Nat} (h3 : off ≤ 256) (h4 : l ≤ 256 - off) :
    Calls Try.prog 65 #[.pointer (some ⟨bv, 0, none⟩), .int .i64 (k : Int), .int .i64 (off : Int), .int .i64 (l : Int)] w fun e w' =>
      e = .returned (.tuple #[.slice (some ⟨w.heap.size, 0, none⟩) l l, .int .i64 0]) ∧ Blk w' w.heap.size 5 (((f.b.drop off).take l).map byteV) ∧ Keep [bv] w w' ∧ ViewAt w' bv bd bm (n + 1) := by
  have c0 := v.c0
  have c1 := v.c1
  have c2 := v.c2
  have f2 := v.hd.frozen 2
  have lv := v.hd.lt
  have HP : ∀ j, Hid (PhysAt ((w.drewN j).setCell ⟨bv, 2, none⟩ (.int .i64 ((n : Int) + 1))) bm bf m) := fun j => Lib.hid ((h.drewN j).far (Ne.symm hvm) (Ne.symm hvf) _)
  have HK := Lib.hid hk
  clear hk
  have q : ∀ j, (Instr.lookup 98 (.map (some bd)) (.int .i64 (n : Int)) false).run Try.prog (w.drewN j) = .ok (.slice none 0 0) (w.drewN j) := by
    intro j
    rw [run_lookup_k key_int Try.underlying98 (v.drewN j).mp (n : Int) (z := .slice none 0 0) (fun _ => by kernel_rfl) false]; rfl
  go_enter Try.func65, Try.ntmps65
  go_wp2_with (go_at_call 93; refine (view_none v).mono ?_; rintro e w' ⟨rfl, rfl⟩)
  go_quiet (fail)
  go_wp2
  refine wp_loop_once ?_
  go_wp2_with (go_at_call 10; refine (phys_read_some (HP _).out HK.out h3 h4).mono ?_; rintro e w' ⟨rfl, HB, HKP⟩)
  go_ret2
  have hk0 : Keep [bv] w w' := (((Keep.refl [bv] w).drewN nq).setCell (p := ⟨bv, 2, none⟩) (.inl (by simp)) (.int .i64 ((n : Int) + 1))).trans (HKP.mono (by simp))
  refine ⟨by simp, by simpa using HB, hk0, ?_, v.mp.keep hk0 (by have := MapAt.ne_blk v.mp v.hd; simpa using this)⟩
  have h1 := ((v.drewN nq).hd.set_ 2 (.int .i64 ((n : Int) + 1))).keep HKP (by simp)
  simpa using h1
end

end Go.Proofs.Ytkicpmfhnngndaa
