/- What is proved: where an end of a copy lies, and what Copy of grant does, in the world that begin made, with a view without rewrites. Conditions: that world lies in memory as G6 says. -/
import Derived.Test.YtkicpmfhnngndaaGrantH
import Derived.Test.YtkicpmfhnngndaaLawA
set_option linter.unusedSimpArgs false
set_option linter.unusedVariables false
namespace Go.Proofs.Ytkicpmfhnngndaa
open Go.RowKit

def mem3 (pb : Nat → Nat) : List (Int × (Int × Nat)) := [(0, (0, pb 0)), (1, (4, pb 1)), (2, (8, pb 2))]
/-- The program's half of the world that begin made. -/
structure G6 (w : World) (bm bf bg b1 b2 : Nat) (pb p1 p2 : Nat → Nat) (m : Mach) : Prop where
  ph : PhysAt w bm bf m
  gd : Good m
  gh : GHead w bg b1 b2 bm (mem3 pb) []
  pl : ∀ d, d < 3 → P2mAt w (pb d) (p1 d) (p2 d) (plOf d)

section
variable {w w' : World} {bm bf bg b1 b2 bv bd nv : Nat} {pb p1 p2 : Nat → Nat} {m : Mach} {S : List Nat}
theorem memOf3 (pb : Nat → Nat) (d : Nat) (hd : d < 3) : memOf (mem3 pb) (d : Int) = some (((4 * d : Nat) : Int), pb d) := by
  match d, hd with
  | 0, _ => rfl
  | 1, _ => rfl
  | 2, _ => rfl
theorem memOf3_none (pb : Nat → Nat) (d : Int) (hd : d < 0 ∨ 3 ≤ d) : memOf (mem3 pb) d = none := by
  have h0 : ¬ d = 0 := by omega
  have h1 : ¬ d = 1 := by omega
  have h2 : ¬ d = 2 := by omega
  simp [mem3, memOf, h0, h1, h2]
theorem P2mAt.ne_view {b b1 b2 : Nat} {l : List Int} (h : P2mAt w b b1 b2 l) (v : ViewAt w bv bd bm nv) : b ≠ bv ∧ b1 ≠ bv ∧ b2 ≠ bv := by
  obtain ⟨hd, ⟨fr, pl, m1, m2, ok⟩, ne, hi⟩ := h
  exact ⟨hd.ne_ v.hd (by decide), m1.ne_blk v.hd, m2.ne_blk v.hd⟩
theorem PhysAt.ne_view (h : PhysAt w bm bf m) (v : ViewAt w bv bd bm nv) : bv ≠ bm ∧ bv ≠ bf := by
  obtain ⟨c, r, a, b⟩ := h.ex
  exact ⟨v.hd.ne_ a (by decide), v.hd.ne_ b (by decide)⟩
theorem GHead.ne_view {mem : List (Int × (Int × Nat))} {mp : List ((Int × Int) × Value)} (h : GHead w bg b1 b2 bm mem mp) (v : ViewAt w bv bd bm nv) : bg ≠ bv ∧ b1 ≠ bv ∧ b2 ≠ bv :=
  ⟨h.hd.ne_ v.hd (by decide), h.m1.ne_blk v.hd, h.m2.ne_blk v.hd⟩
theorem G6.keepV (h : G6 w bm bf bg b1 b2 pb p1 p2 m) (v : ViewAt w bv bd bm nv) (k : Keep [bv] w w') : G6 w' bm bf bg b1 b2 pb p1 p2 m := by
  obtain ⟨a1, a2⟩ := h.ph.ne_view v
  obtain ⟨c1, c2, c3⟩ := h.gh.ne_view v
  refine ⟨h.ph.keep k (by simpa using a1.symm) (by simpa using a2.symm), h.gd, h.gh.keep k (by simpa using c1) (by simpa using c2) (by simpa using c3), fun d hd => ?_⟩
  obtain ⟨e1, e2, e3⟩ := (h.pl d hd).ne_view v
  exact (h.pl d hd).keep k (by simpa using e1) (by simpa using e2) (by simpa using e3)
theorem G6.keep0 (h : G6 w bm bf bg b1 b2 pb p1 p2 m) (k : Keep [] w w') : G6 w' bm bf bg b1 b2 pb p1 p2 m :=
  ⟨h.ph.keep k (by simp) (by simp), h.gd, h.gh.keep0 k, fun d hd => (h.pl d hd).keep k (by simp) (by simp) (by simp)⟩
theorem ViewAt.keep0 (h : ViewAt w bv bd bm nv) (k : Keep [] w w') : ViewAt w' bv bd bm nv := h.keep k (by simp) (by simp)

/-- Where an end lies: it is told, in whatever world. -/
def FindIs (m : Mach) (caller : Int) (gr : Bool) (dom ref gpfn off n : Int) (wr : Bool) (s : Int × Int × Int) : Prop :=
  ∀ (w : World) (bm bf bg b1 b2 bv bd nv : Nat) (pb p1 p2 : Nat → Nat), G6 w bm bf bg b1 b2 pb p1 p2 m → ViewAt w bv bd bm nv → nv < 1000 →
    ∀ W, Keep [] w W → Calls Try.prog 87 #[.pointer (some ⟨bg, 0, none⟩), .pointer (some ⟨bv, 0, none⟩), .int .i64 caller, endV gr dom ref gpfn off, .int .i64 n, .bool wr] W fun e w' => e = .returned (spotV s) ∧ Keep [bv] W w' ∧ ViewTo w' bv bd bm (nv + 1)

theorem find_any (hm : Good m) (caller : Int) (gr : Bool) (dom ref gpfn off n : Int) (wr : Bool) :
    ∃ s, SpotOk m caller gr dom ref n wr s ∧ FindIs m caller gr dom ref gpfn off n wr s := by
  by_cases hx : isDom caller = false ∨ n < 0 ∨ off < 0
  · refine ⟨(0, 0, 1), fun h => by simp at h, ?_⟩
    intro w bm bf bg b1 b2 bv bd nv pb p1 p2 g v hn W k
    exact grant_find_bad (g.gh.keep0 k) (v.keep0 k) gr dom ref gpfn hx wr
  have hc : isDom caller = true := by
    cases h : isDom caller
    · exact absurd (.inl h) hx
    · rfl
  have h0 : 0 ≤ n := by omega
  have h1 : 0 ≤ off := by omega
  cases gr
  · by_cases hj : 0 ≤ caller ∧ caller < 3
    · obtain ⟨c, rfl⟩ := Int.eq_ofNat_of_zero_le hj.1
      have hc3 : c < 3 := by omega
      refine ⟨_, own_ok hm hc3 dom ref gpfn off n wr, ?_⟩
      intro w bm bf bg b1 b2 bv bd nv pb p1 p2 g v hn W k
      refine grant_find_own (g.gh.keep0 k) (v.keep0 k) hc dom ref gpfn h0 h1 wr (k := nv + 1) ?_
      intro W' k'
      refine (own_find_some (g.gh.keep0 (k.trans k')) gpfn off _ n (memOf3 pb c hc3) ((g.pl c hc3).keep (k.trans k') (by simp) (by simp) (by simp))).mono ?_
      rintro e w' ⟨rfl, hk⟩
      exact ⟨rfl, hk.mono (by simp), nv, by omega, (v.keep0 (k.trans k')).keep0 hk⟩
    · refine ⟨(0, 0, 1), fun h => by simp at h, ?_⟩
      intro w bm bf bg b1 b2 bv bd nv pb p1 p2 g v hn W k
      refine grant_find_own (g.gh.keep0 k) (v.keep0 k) hc dom ref gpfn h0 h1 wr (k := nv + 1) ?_
      intro W' k'
      refine (own_find_none (g.gh.keep0 (k.trans k')) gpfn off _ n (memOf3_none pb caller (by omega))).mono ?_
      rintro e w' ⟨rfl, hk⟩
      exact ⟨rfl, hk.mono (by simp), nv, by omega, (v.keep0 (k.trans k')).keep0 hk⟩
  · by_cases hj : 0 ≤ dom ∧ dom < 3 ∧ isSlot ref = true
    · obtain ⟨d, rfl⟩ := Int.eq_ofNat_of_zero_le hj.1
      have hd3 : d < 3 := by omega
      have hs : 0 ≤ ref ∧ ref < 32 := by have := hj.2.2; simpa [isSlot] using this
      obtain ⟨r, rfl⟩ := Int.eq_ofNat_of_zero_le hs.1
      obtain ⟨f, hf, -⟩ := hm.get (k := 4 * d) (by omega)
      refine ⟨_, lent_ok hm caller hd3 (r := r) (by omega) hf off n wr, ?_⟩
      intro w bm bf bg b1 b2 bv bd nv pb p1 p2 g v hn W k
      refine grant_find_lent (g.gh.keep0 k) (v.keep0 k) hc d r gpfn h0 h1 wr (k := nv + 1) ?_
      intro W' k'
      have g' := g.keep0 (k.trans k')
      have v' := v.keep0 (k.trans k')
      obtain ⟨a1, a2⟩ := g'.ph.ne_view v'
      obtain ⟨c1, c2, c3⟩ := g'.gh.ne_view v'
      obtain ⟨e1, e2, e3⟩ := (g'.pl d hd3).ne_view v'
      exact lent_find_some g'.gh g'.ph v' hn a2 a1 c1 c2 c3 e1 e2 e3 off wr caller n (memOf3 pb d hd3) (g'.pl d hd3) hf (by omega)
    · refine ⟨(0, 0, 1), fun h => by simp at h, ?_⟩
      intro w bm bf bg b1 b2 bv bd nv pb p1 p2 g v hn W k
      refine grant_find_lent (g.gh.keep0 k) (v.keep0 k) hc dom ref gpfn h0 h1 wr (k := nv + 1) ?_
      intro W' k'
      refine lent_find_none (g.gh.keep0 (k.trans k')) (v.keep0 (k.trans k')) ref off wr caller n ?_
      by_cases hd : dom < 0 ∨ 3 ≤ dom
      · exact .inl (memOf3_none pb dom hd)
      · right
        cases h : isSlot ref
        · rfl
        · exact absurd ⟨by omega, by omega, h⟩ hj

/-- What a copy has done. -/
def CopyPost (w : World) (bm bf bv : Nat) (m : Mach) (caller : Int) (gr : Bool) (dom ref : Int) (e : Ending) (w' : World) : Prop :=
  ∃ (er : Int) (m' : Mach), e = .returned (.int .i64 er) ∧ PhysAt w' bm bf m' ∧ CopyOk m m' caller gr dom ref ∧ Keep [bv, bf] w w'

set_option maxRecDepth 100000 in
set_option maxHeartbeats 8000000 in
theorem grant_copy (g : G6 w bm bf bg b1 b2 pb p1 p2 m) (v : ViewAt w bv bd bm nv) (hn : nv < 900) (caller : Int) (gr : Bool) (dom ref gpfn off : Int) (gr' : Bool) (dom' ref' gpfn' off' n : Int) :
    Calls Try.prog 9 #[.pointer (some ⟨bg, 0, none⟩), .pointer (some ⟨bv, 0, none⟩), .int .i64 caller, endV gr dom ref gpfn off, endV gr' dom' ref' gpfn' off', .int .i64 n] w fun e w' => CopyPost w bm bf bv m caller gr' dom' ref' e w' := by
  obtain ⟨⟨s0, s1, s2⟩, hs, hf⟩ := find_any g.gd caller gr dom ref gpfn off n false
  have hlv := v.hd.lt
  have hld := v.mp.lt
  obtain ⟨a1, a2⟩ := g.ph.ne_view v
  obtain ⟨c1, c2, c3⟩ := g.gh.ne_view v
  by_cases h2 : s2 = 0
  case neg =>
    have HN := Lib.hid (fun W (k : Keep [] w W) => grant_pull_no (bg := bg) gr caller dom ref gpfn off n h2 (Nat.lt_of_lt_of_le hlv k.size) (Nat.lt_of_lt_of_le hld k.size) (fun W' k' => hf w bm bf bg b1 b2 bv bd nv pb p1 p2 g v (by omega) W' (k.trans k')))
    have G0 := Lib.hid g
    have h2' := bne_yes h2
    clear g hs hf h2
    unfold endV at HN ⊢
    go_enter Try.func9, Try.ntmps9
    go_wp2_with (go_at_call 45; refine (HN.out _ (by repeat (first | with_reducible exact Keep.refl _ _ | with_reducible assumption | with_reducible apply Keep.alloc | with_reducible apply Keep.drewN | with_reducible apply Keep.drew | (with_reducible refine Keep.setCell ?_ ?_ _) | focus (left; simp; done) | focus (right; simp; done) | focus (right; simp; omega)))).mono ?_; rintro e w1 ⟨rfl, HK, HVV⟩; have hk1 : Keep [bv] w w1 := Keep.trans (by repeat (first | with_reducible exact Keep.refl _ _ | with_reducible assumption | with_reducible apply Keep.alloc | with_reducible apply Keep.drewN | with_reducible apply Keep.drew | (with_reducible refine Keep.setCell ?_ ?_ _) | focus (left; simp; done) | focus (right; simp; done) | focus (right; simp; omega))) HK)
    go_ret
    exact ⟨s2, m, rfl, (G0.out.ph.keep hk1 (by simpa using a1.symm) (by simpa using a2.symm)), .inl rfl, hk1.mono (by simp)⟩
  subst h2
  obtain ⟨mf, so, n', f, rfl, he, hmf, ho, hle, -⟩ := hs rfl
  obtain ⟨rfl, rfl⟩ : s0 = (mf : Int) ∧ s1 = (so : Int) := by simpa using he
  have HY := Lib.hid (fun W (k : Keep [] w W) => grant_pull_yes (bg := bg) (g.ph.keep k (by simp) (by simp)) a2 a1 gr caller dom ref gpfn off hmf (so := so) (n := n') (by omega) (by omega) (k := nv + 1) (by omega) (Nat.lt_of_lt_of_le hlv k.size) (Nat.lt_of_lt_of_le hld k.size) (fun W' k' => hf w bm bf bg b1 b2 bv bd nv pb p1 p2 g v (by omega) W' (k.trans k')))
  obtain ⟨⟨t0, t1, t2⟩, ht, hft⟩ := find_any g.gd caller gr' dom' ref' gpfn' off' n' true
  have hbl : ((f.b.drop so).take n').length = n' := by have := g.ph.pg.get hmf; simp; omega
  generalize (f.b.drop so).take n' = bs at HY hbl
  have G0 := Lib.hid g
  have V0 := Lib.hid v
  by_cases h2 : t2 = 0
  case neg =>
    have h2' := bne_yes h2
    have HT := Lib.hid (fun W (k : Keep [bv] w W) (A : Option Addr) (c : Nat) (kk : Nat) (hkk : kk ≤ nv + 2) (hv : ViewAt W bv bd bm kk) => grant_push_no (bg := bg) (bm := bm) (w := W) gr' caller dom' ref' gpfn' off' A n' c h2 (Nat.lt_of_lt_of_le hlv k.size) (Nat.lt_of_lt_of_le hld k.size) (fun W' k' => hft W bm bf bg b1 b2 bv bd kk pb p1 p2 (G0.out.keepV V0.out k) hv (by omega) W' k'))
    clear g v hs hf hft he hmf ho ht h2
    unfold endV at HY HT ⊢
    go_enter Try.func9, Try.ntmps9
    go_wp2_with (first
      | (go_at_call 45; refine (HY.out _ (by repeat (first | with_reducible exact Keep.refl _ _ | with_reducible assumption | with_reducible apply Keep.alloc | with_reducible apply Keep.drewN | with_reducible apply Keep.drew | (with_reducible refine Keep.setCell ?_ ?_ _) | focus (left; simp; done) | focus (right; simp; done) | focus (right; simp; omega)))).mono ?_; rintro e w1 ⟨gg, rfl, HB, hgg, HK, kk, hkk, HVV⟩
         have hk1 : Keep [bv] w w1 := Keep.trans (by repeat (first | with_reducible exact Keep.refl _ _ | with_reducible assumption | with_reducible apply Keep.alloc | with_reducible apply Keep.drewN | with_reducible apply Keep.drew | (with_reducible refine Keep.setCell ?_ ?_ _) | focus (left; simp; done) | focus (right; simp; done) | focus (right; simp; omega))) HK
         have hb2 := (Blk.new1 w (.cells #[.bool gr, .int .i64 dom, .int .i64 ref, .int .i64 gpfn, .int .i64 off] 24) 24 [.bool gr', .int .i64 dom', .int .i64 ref', .int .i64 gpfn', .int .i64 off']).keep HK (by simp; omega)
         have d0 : w1.cell? ⟨w.heap.size + 1, 0, none⟩ = some (.bool gr') := hb2.cell 0
         have d1 : w1.cell? ⟨w.heap.size + 1, 1, none⟩ = some (.int .i64 dom') := hb2.cell 1
         have d2 : w1.cell? ⟨w.heap.size + 1, 2, none⟩ = some (.int .i64 ref') := hb2.cell 2
         have d3 : w1.cell? ⟨w.heap.size + 1, 3, none⟩ = some (.int .i64 gpfn') := hb2.cell 3
         have d4 : w1.cell? ⟨w.heap.size + 1, 4, none⟩ = some (.int .i64 off') := hb2.cell 4)
      | (go_at_call 46; refine (HT.out w1 hk1 _ _ kk (by omega) HVV).mono ?_; rintro e w2 ⟨rfl, HK2, HVV2⟩))
    go_ret
    have hk2 : Keep [bv] w w2 := hk1.trans HK2
    exact ⟨t2, m, rfl, (G0.out.ph.keep hk2 (by simpa using a1.symm) (by simpa using a2.symm)), .inl rfl, hk2.mono (by simp)⟩
  · subst h2
    obtain ⟨mf', so', n2, f', hn2, he', hmf', ho', hle', hpm⟩ := ht rfl
    obtain ⟨rfl, rfl⟩ : t0 = (mf' : Int) ∧ t1 = (so' : Int) := by simpa using he'
    obtain rfl : n' = n2 := by omega
    have hty := (g.gd.2 _ _ hmf').2.2
    have HT := Lib.hid (fun W (k : Keep [bv] w W) (A : Option Addr) (c : Nat) (kk : Nat) (hkk : kk ≤ nv + 2) (hv : ViewAt W bv bd bm kk) (NN : Nat → Prop) (hA : BytesAt W NN A bs) (hN : ¬ NN bv) =>
      grant_push_yes (bg := bg) (bm := bm) (w := W) (c := c) ((G0.out.keepV V0.out k).gh) ((G0.out.keepV V0.out k).ph) a2 a1 c1 gr' caller dom' ref' gpfn' off' (n := n') hbl hA hN hmf' ho' hty.1 hty.2 (so := so') hle' (k := kk + 1) (Nat.lt_of_lt_of_le hlv k.size) (Nat.lt_of_lt_of_le hld k.size) (fun W' k' => hft W bm bf bg b1 b2 bv bd kk pb p1 p2 (G0.out.keepV V0.out k) hv (by omega) W' k'))
    have HC : Hid (CopyOk m (m.set mf' { f' with b := laid f'.b so' bs }) caller gr' dom' ref') := Lib.hid (.inr ⟨mf', so', bs, f', hmf', by omega, rfl, fun k k1 k2 => hpm rfl k k1 (by omega)⟩)
    clear g v hs hf hft he hmf ho ht he' hmf' ho' hpm hty hbl hn2
    unfold endV at HY HT ⊢
    go_enter Try.func9, Try.ntmps9
    go_wp2_with (first
      | (go_at_call 45; refine (HY.out _ (by repeat (first | with_reducible exact Keep.refl _ _ | with_reducible assumption | with_reducible apply Keep.alloc | with_reducible apply Keep.drewN | with_reducible apply Keep.drew | (with_reducible refine Keep.setCell ?_ ?_ _) | focus (left; simp; done) | focus (right; simp; done) | focus (right; simp; omega)))).mono ?_; rintro e w1 ⟨gg, rfl, HB, hgg, HK, kk, hkk, HVV⟩
         have hk1 : Keep [bv] w w1 := Keep.trans (by repeat (first | with_reducible exact Keep.refl _ _ | with_reducible assumption | with_reducible apply Keep.alloc | with_reducible apply Keep.drewN | with_reducible apply Keep.drew | (with_reducible refine Keep.setCell ?_ ?_ _) | focus (left; simp; done) | focus (right; simp; done) | focus (right; simp; omega))) HK
         have hb2 := (Blk.new1 w (.cells #[.bool gr, .int .i64 dom, .int .i64 ref, .int .i64 gpfn, .int .i64 off] 24) 24 [.bool gr', .int .i64 dom', .int .i64 ref', .int .i64 gpfn', .int .i64 off']).keep HK (by simp; omega)
         have d0 : w1.cell? ⟨w.heap.size + 1, 0, none⟩ = some (.bool gr') := hb2.cell 0
         have d1 : w1.cell? ⟨w.heap.size + 1, 1, none⟩ = some (.int .i64 dom') := hb2.cell 1
         have d2 : w1.cell? ⟨w.heap.size + 1, 2, none⟩ = some (.int .i64 ref') := hb2.cell 2
         have d3 : w1.cell? ⟨w.heap.size + 1, 3, none⟩ = some (.int .i64 gpfn') := hb2.cell 3
         have d4 : w1.cell? ⟨w.heap.size + 1, 4, none⟩ = some (.int .i64 off') := hb2.cell 4
         have hba := BytesAt.ofBlk HB
         have hgv : ¬ (fun x => x = gg) bv := by intro e; simp at hgg; omega)
      | (go_at_call 46; refine (HT.out w1 hk1 _ _ kk (by omega) HVV _ hba hgv).mono ?_; rintro e w2 ⟨rfl, HP2, HK2⟩))
    go_ret
    exact ⟨0, _, rfl, HP2, HC.out, (hk1.mono (by simp)).trans HK2⟩
end

end Go.Proofs.Ytkicpmfhnngndaa
