/-
  No cell of these rows narrows 'for every input' (looked for: loops, veiled, ifaces, maps, wideKeys, modest, calm, conditions, laid).
  DERIVED. THE GIVEN ROWS OF THIS SEAT. 3 by the template 'for every input the law returns true; each argument reads behind the call as it read before'; 0 by the template 'total and deterministic' (their statements: YtkicpmfhnngndaaTotals.lean).
  GIVEN WITH THE SEED: the statements are not yours to turn. If you find one false, say at which input.
  Laid BY PROGRAM, IN A SANDBOX (cutbox-rows.mjs): the forced cells as the released guide's own fill.sh prints them over the translation 4922c8729f6d97e6… (all of the seat's roots in one cut). By AI agents, Wed Nov 11 2026. No macro, syntax, notation, axiom, sorry.
-/
import Derived.Test.YtkicpmfhnngndaaChecked
import GoSem.Claim
import GoSem.ClaimJoined
import GoSem.ClaimMapViews
import Derived.JoinedTies
import Derived.KernelRfl
namespace Go.Proofs.Ytkicpmfhnngndaa
/- THE CELL 'sum', in the pinned program and in every row, IS THE sha256 OF THE DUMP (.gsa) THAT YtkicpmfhnngndaaProg.lean LOADS. Nothing in Lean hashes anything: it is a label: what it is worth is what the hold of that sum in a sandbox is worth. -/
noncomputable def Try.pinned : Pinned := { name := "ytkicpmfhnngndaa", sum := "4922c8729f6d97e64989325ed9b97ce9ce039834f24b27a969a0eaafa753b25e", checked := Try.checked }
namespace Rows
def none {H : Type} : Left H := { results := [], args := [] }

/-- 'tenementlaw06.GrantApart': WHATEVER THE INPUT: true; the input reads as it did. -/
def grantApartSpec : ChangeSpec := { name := "grantApart", fn := fun _ => fun
  | [d1, d2, d3, d4, d5] => { results := [.lit (.bool true)], args := [d1, d2, d3, d4, d5] }
  | _ => none }
def grantApartRow : OpenClaim := { program := "ytkicpmfhnngndaa", sum := "4922c8729f6d97e64989325ed9b97ce9ce039834f24b27a969a0eaafa753b25e", func := "tenement/tenementlaw06.GrantApart", spec := "grantApart", unfollowed := true, recurses := true, plainKeys := false, apart := false }
def GrantApartSaid : Prop := grantApartRow.holds Try.pinned (OpenSpec.ofChange grantApartSpec)

/-- ITS FALSE NEIGHBOUR: 'it returns false'. Refute it at one input. -/
def grantApartWrong : ChangeSpec := { name := "grantApart", fn := fun _ => fun
  | [d1, d2, d3, d4, d5] => { results := [.lit (.bool false)], args := [d1, d2, d3, d4, d5] }
  | _ => none }
def GrantApartWrongFalsely : Prop := grantApartRow.holds Try.pinned (OpenSpec.ofChange grantApartWrong)

/-- 'tenementlaw06.GrantLive': WHATEVER THE INPUT: true; the input reads as it did. -/
def grantLiveSpec : ChangeSpec := { name := "grantLive", fn := fun _ => fun
  | [d1, d2, d3, d4] => { results := [.lit (.bool true)], args := [d1, d2, d3, d4] }
  | _ => none }
def grantLiveRow : OpenClaim := { program := "ytkicpmfhnngndaa", sum := "4922c8729f6d97e64989325ed9b97ce9ce039834f24b27a969a0eaafa753b25e", func := "tenement/tenementlaw06.GrantLive", spec := "grantLive", unfollowed := true, recurses := true, plainKeys := false, apart := false }
def GrantLiveSaid : Prop := grantLiveRow.holds Try.pinned (OpenSpec.ofChange grantLiveSpec)

/-- ITS FALSE NEIGHBOUR: 'it returns false'. Refute it at one input. -/
def grantLiveWrong : ChangeSpec := { name := "grantLive", fn := fun _ => fun
  | [d1, d2, d3, d4] => { results := [.lit (.bool false)], args := [d1, d2, d3, d4] }
  | _ => none }
def GrantLiveWrongFalsely : Prop := grantLiveRow.holds Try.pinned (OpenSpec.ofChange grantLiveWrong)

/-- 'tenementlaw17.DomBuilds': WHATEVER THE INPUT: true; the input reads as it did. -/
def domBuildsSpec : ChangeSpec := { name := "domBuilds", fn := fun _ => fun
  | [d1, d2] => { results := [.lit (.bool true)], args := [d1, d2] }
  | _ => none }
def domBuildsRow : OpenClaim := { program := "ytkicpmfhnngndaa", sum := "4922c8729f6d97e64989325ed9b97ce9ce039834f24b27a969a0eaafa753b25e", func := "tenement/tenementlaw17.DomBuilds", spec := "domBuilds", unfollowed := true, recurses := true, plainKeys := false, apart := false }
def DomBuildsSaid : Prop := domBuildsRow.holds Try.pinned (OpenSpec.ofChange domBuildsSpec)

/-- ITS FALSE NEIGHBOUR: 'it returns false'. Refute it at one input. -/
def domBuildsWrong : ChangeSpec := { name := "domBuilds", fn := fun _ => fun
  | [d1, d2] => { results := [.lit (.bool false)], args := [d1, d2] }
  | _ => none }
def DomBuildsWrongFalsely : Prop := domBuildsRow.holds Try.pinned (OpenSpec.ofChange domBuildsWrong)

/- THE SECOND FORM. 'bulk': how many values and letters a reading holds, each counted each time it is reached (what is shared counts as often as it is met; a slice's spare places count too). A statement '..UptoSaid' is the law's where the arguments, and the package variables that the reading takes, are together of bulk at most 1048576: NARROWER than '..Said'. Prove '..Said' where nothing that the law and all that it calls make is longer than what came in: it says more and counts as full. Else prove '..UptoSaid'. A law counts once. -/
mutual
def uptoBulk {H : Type} : DataW H → Nat
  | .lit (.string bytes) => bytes.length + 1
  | .lit _ => 1
  | .nil => 1
  | .ptr d => uptoBulk d + 1
  | .slice elems spare => uptoBulkAll elems + uptoBulkAll spare + 1
  | .agg parts => uptoBulkAll parts + 1
  | .iface _ d => uptoBulk d + 1
  | .map entries => uptoBulkEntries entries + 1
  | .held _ => 1
def uptoBulkAll {H : Type} : List (DataW H) → Nat
  | [] => 0
  | d :: r => uptoBulk d + uptoBulkAll r
def uptoBulkEntries {H : Type} : List (Lit × DataW H) → Nat
  | [] => 0
  | x :: r => uptoBulkEntry x + uptoBulkEntries r
def uptoBulkEntry {H : Type} : Lit × DataW H → Nat
  | (.string bytes, d) => bytes.length + uptoBulk d + 1
  | (_, d) => uptoBulk d + 1
 end
def uptoSmall : (H : Type) → List (DataW H) → Bool := fun _ ds => decide (uptoBulkAll ds ≤ 1048576)
def OpenSpec.upto (s : _root_.Go.ChangeSpec) : _root_.Go.OpenSpec := { _root_.Go.OpenSpec.ofChange s with cond := some uptoSmall }

/-- 'tenementlaw06.GrantApart', WHERE WHAT IT READS IS OF BULK AT MOST 1048576: true; the input reads as it did. -/
def grantApartUptoRow : OpenClaim := { program := "ytkicpmfhnngndaa", sum := "4922c8729f6d97e64989325ed9b97ce9ce039834f24b27a969a0eaafa753b25e", func := "tenement/tenementlaw06.GrantApart", spec := "grantApart", unfollowed := true, recurses := true, plainKeys := false, apart := false, narrowed := true }
def GrantApartUptoSaid : Prop := grantApartUptoRow.holds Try.pinned (OpenSpec.upto grantApartSpec)

/-- 'tenementlaw06.GrantLive', WHERE WHAT IT READS IS OF BULK AT MOST 1048576: true; the input reads as it did. -/
def grantLiveUptoRow : OpenClaim := { program := "ytkicpmfhnngndaa", sum := "4922c8729f6d97e64989325ed9b97ce9ce039834f24b27a969a0eaafa753b25e", func := "tenement/tenementlaw06.GrantLive", spec := "grantLive", unfollowed := true, recurses := true, plainKeys := false, apart := false, narrowed := true }
def GrantLiveUptoSaid : Prop := grantLiveUptoRow.holds Try.pinned (OpenSpec.upto grantLiveSpec)

/-- 'tenementlaw17.DomBuilds', WHERE WHAT IT READS IS OF BULK AT MOST 1048576: true; the input reads as it did. -/
def domBuildsUptoRow : OpenClaim := { program := "ytkicpmfhnngndaa", sum := "4922c8729f6d97e64989325ed9b97ce9ce039834f24b27a969a0eaafa753b25e", func := "tenement/tenementlaw17.DomBuilds", spec := "domBuilds", unfollowed := true, recurses := true, plainKeys := false, apart := false, narrowed := true }
def DomBuildsUptoSaid : Prop := domBuildsUptoRow.holds Try.pinned (OpenSpec.upto domBuildsSpec)

end Rows
end Go.Proofs.Ytkicpmfhnngndaa
