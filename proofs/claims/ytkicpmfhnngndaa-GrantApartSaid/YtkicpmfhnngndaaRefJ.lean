/- What is proved: Unpack of the reference's grants over a slice of eight bytes. Conditions: the bytes lie in memory. -/
import Derived.Test.YtkicpmfhnngndaaRefH
set_option linter.unusedSimpArgs false
set_option linter.unusedVariables false
namespace Go.Proofs.Ytkicpmfhnngndaa
open Go.RowKit

theorem ref6_unpack {w : World} {N : Nat → Prop} {A : Option Addr} {cp : Nat} {l : List UInt8} (hl : l.length = 8) (hv : BytesAt w N A l) :
    Calls Try.prog 49 #[.slice A 8 cp] w fun e w' => e = .returned (upV (unpackG l)) ∧ Keep [] w w' := by
  obtain ⟨a, rfl, hN, ha⟩ := hv (by rintro rfl; simp at hl)
  have hc : ∀ i, i < 8 → w.cell? (a.add i) = some (.int .u8 ((byteAt l i : Nat) : Int)) := by
    intro i hi
    obtain ⟨x, hx, hx'⟩ := byteAt_some (l := l) (i := i) (by omega)
    rw [ha i x hx, ← hx']; rfl
  have h0 := hc 0 (by omega)
  have h1 := hc 1 (by omega)
  have h2 := hc 2 (by omega)
  have h3 := hc 3 (by omega)
  have h4 := hc 4 (by omega)
  have h5 := hc 5 (by omega)
  have h6 := hc 6 (by omega)
  have h7 := hc 7 (by omega)
  exact ref6_unpack_walk (byteAt_lt l 0) (byteAt_lt l 1) (byteAt_lt l 2) (byteAt_lt l 3) (byteAt_lt l 4) (byteAt_lt l 5) (byteAt_lt l 6) (byteAt_lt l 7) h0 h1 h2 h3 h4 h5 h6 h7

end Go.Proofs.Ytkicpmfhnngndaa
