/-
  No cell of these rows narrows 'for every input' (looked for: loops, veiled, ifaces, maps, wideKeys, modest, calm, conditions, laid).
  DERIVED. THE GIVEN ROWS OF THIS SEAT. 3 by the template 'for every input the law returns true; each argument reads behind the call as it read before'; 0 by the template 'total and deterministic' (their statements: YtlbpkhbjdojdgaaTotals.lean).
  GIVEN WITH THE SEED: the statements are not yours to turn. If you find one false, say at which input.
  Laid BY PROGRAM, IN A SANDBOX (cutbox-rows.mjs): the forced cells as the released guide's own fill.sh prints them over the translation 4d133a78adb53bb3… (all of the seat's roots in one cut). By AI agents, Wed Nov 11 2026. No macro, syntax, notation, axiom, sorry.
-/
import Derived.Test.YtlbpkhbjdojdgaaChecked
import GoSem.Claim
import GoSem.ClaimJoined
import GoSem.ClaimMapViews
import Derived.JoinedTies
import Derived.KernelRfl
namespace Go.Proofs.Ytlbpkhbjdojdgaa
/- THE CELL 'sum', in the pinned program and in every row, IS THE sha256 OF THE DUMP (.gsa) THAT YtlbpkhbjdojdgaaProg.lean LOADS. Nothing in Lean hashes anything: it is a label: what it is worth is what the hold of that sum in a sandbox is worth. -/
noncomputable def Try.pinned : Pinned := { name := "ytlbpkhbjdojdgaa", sum := "4d133a78adb53bb35c26d42694a9042ed97b397b8bc7ba8008d54b3b1756921b", checked := Try.checked }
namespace Rows
def none {H : Type} : Left H := { results := [], args := [] }

/-- 'cantinglaw04.DyeNormal': WHATEVER THE INPUT: true; the input reads as it did. -/
def dyeNormalSpec : ChangeSpec := { name := "dyeNormal", fn := fun _ => fun
  | [d1, d2, d3] => { results := [.lit (.bool true)], args := [d1, d2, d3] }
  | _ => none }
def dyeNormalRow : OpenClaim := { program := "ytlbpkhbjdojdgaa", sum := "4d133a78adb53bb35c26d42694a9042ed97b397b8bc7ba8008d54b3b1756921b", func := "canting/cantinglaw04.DyeNormal", spec := "dyeNormal", inPlace := ["internal/bytealg.IndexByteString"], unfollowed := true, recurses := true, plainKeys := false, apart := false }
def DyeNormalSaid : Prop := dyeNormalRow.holds Try.pinned (OpenSpec.ofChange dyeNormalSpec)

/-- ITS FALSE NEIGHBOUR: 'it returns false'. Refute it at one input. -/
def dyeNormalWrong : ChangeSpec := { name := "dyeNormal", fn := fun _ => fun
  | [d1, d2, d3] => { results := [.lit (.bool false)], args := [d1, d2, d3] }
  | _ => none }
def DyeNormalWrongFalsely : Prop := dyeNormalRow.holds Try.pinned (OpenSpec.ofChange dyeNormalWrong)

/-- 'cantinglaw04.DyePowers': WHATEVER THE INPUT: true; the input reads as it did. -/
def dyePowersSpec : ChangeSpec := { name := "dyePowers", fn := fun _ => fun
  | [d1, d2, d3] => { results := [.lit (.bool true)], args := [d1, d2, d3] }
  | _ => none }
def dyePowersRow : OpenClaim := { program := "ytlbpkhbjdojdgaa", sum := "4d133a78adb53bb35c26d42694a9042ed97b397b8bc7ba8008d54b3b1756921b", func := "canting/cantinglaw04.DyePowers", spec := "dyePowers", inPlace := ["internal/bytealg.IndexByteString"], unfollowed := true, recurses := true, plainKeys := false, apart := false }
def DyePowersSaid : Prop := dyePowersRow.holds Try.pinned (OpenSpec.ofChange dyePowersSpec)

/-- ITS FALSE NEIGHBOUR: 'it returns false'. Refute it at one input. -/
def dyePowersWrong : ChangeSpec := { name := "dyePowers", fn := fun _ => fun
  | [d1, d2, d3] => { results := [.lit (.bool false)], args := [d1, d2, d3] }
  | _ => none }
def DyePowersWrongFalsely : Prop := dyePowersRow.holds Try.pinned (OpenSpec.ofChange dyePowersWrong)

/-- 'cantinglaw04.DyeClosed': WHATEVER THE INPUT: true; the input reads as it did. -/
def dyeClosedSpec : ChangeSpec := { name := "dyeClosed", fn := fun _ => fun
  | [d1, d2, d3] => { results := [.lit (.bool true)], args := [d1, d2, d3] }
  | _ => none }
def dyeClosedRow : OpenClaim := { program := "ytlbpkhbjdojdgaa", sum := "4d133a78adb53bb35c26d42694a9042ed97b397b8bc7ba8008d54b3b1756921b", func := "canting/cantinglaw04.DyeClosed", spec := "dyeClosed", inPlace := ["internal/bytealg.IndexByteString"], unfollowed := true, recurses := true, plainKeys := false, apart := false }
def DyeClosedSaid : Prop := dyeClosedRow.holds Try.pinned (OpenSpec.ofChange dyeClosedSpec)

/-- ITS FALSE NEIGHBOUR: 'it returns false'. Refute it at one input. -/
def dyeClosedWrong : ChangeSpec := { name := "dyeClosed", fn := fun _ => fun
  | [d1, d2, d3] => { results := [.lit (.bool false)], args := [d1, d2, d3] }
  | _ => none }
def DyeClosedWrongFalsely : Prop := dyeClosedRow.holds Try.pinned (OpenSpec.ofChange dyeClosedWrong)

/- THE SECOND FORM. 'bulk': how many values and letters a reading holds, each counted each time it is reached (what is shared counts as often as it is met; a slice's spare places count too). A statement '..UptoSaid' is the law's where the arguments, and the package variables that the reading takes, are together of bulk at most 1048576: NARROWER than '..Said'. Prove '..Said' where nothing that the law and all that it calls make is longer than what came in: it says more and counts as full. Else prove '..UptoSaid'. A law counts once. -/
mutual
def uptoBulk {H : Type} : DataW H → Nat
  | .lit (.string bytes) => bytes.length + 1
  | .lit _ => 1
  | .nil => 1
  | .ptr d => uptoBulk d + 1
  | .slice elems spare => uptoBulkAll elems + uptoBulkAll spare + 1
  | .agg parts => uptoBulkAll parts + 1
  | .iface _ d => uptoBulk d + 1
  | .map entries => uptoBulkEntries entries + 1
  | .held _ => 1
def uptoBulkAll {H : Type} : List (DataW H) → Nat
  | [] => 0
  | d :: r => uptoBulk d + uptoBulkAll r
def uptoBulkEntries {H : Type} : List (Lit × DataW H) → Nat
  | [] => 0
  | x :: r => uptoBulkEntry x + uptoBulkEntries r
def uptoBulkEntry {H : Type} : Lit × DataW H → Nat
  | (.string bytes, d) => bytes.length + uptoBulk d + 1
  | (_, d) => uptoBulk d + 1
 end
def uptoSmall : (H : Type) → List (DataW H) → Bool := fun _ ds => decide (uptoBulkAll ds ≤ 1048576)
def OpenSpec.upto (s : _root_.Go.ChangeSpec) : _root_.Go.OpenSpec := { _root_.Go.OpenSpec.ofChange s with cond := some uptoSmall }

/-- 'cantinglaw04.DyeNormal', WHERE WHAT IT READS IS OF BULK AT MOST 1048576: true; the input reads as it did. -/
def dyeNormalUptoRow : OpenClaim := { program := "ytlbpkhbjdojdgaa", sum := "4d133a78adb53bb35c26d42694a9042ed97b397b8bc7ba8008d54b3b1756921b", func := "canting/cantinglaw04.DyeNormal", spec := "dyeNormal", inPlace := ["internal/bytealg.IndexByteString"], unfollowed := true, recurses := true, plainKeys := false, apart := false, narrowed := true }
def DyeNormalUptoSaid : Prop := dyeNormalUptoRow.holds Try.pinned (OpenSpec.upto dyeNormalSpec)

/-- 'cantinglaw04.DyePowers', WHERE WHAT IT READS IS OF BULK AT MOST 1048576: true; the input reads as it did. -/
def dyePowersUptoRow : OpenClaim := { program := "ytlbpkhbjdojdgaa", sum := "4d133a78adb53bb35c26d42694a9042ed97b397b8bc7ba8008d54b3b1756921b", func := "canting/cantinglaw04.DyePowers", spec := "dyePowers", inPlace := ["internal/bytealg.IndexByteString"], unfollowed := true, recurses := true, plainKeys := false, apart := false, narrowed := true }
def DyePowersUptoSaid : Prop := dyePowersUptoRow.holds Try.pinned (OpenSpec.upto dyePowersSpec)

/-- 'cantinglaw04.DyeClosed', WHERE WHAT IT READS IS OF BULK AT MOST 1048576: true; the input reads as it did. -/
def dyeClosedUptoRow : OpenClaim := { program := "ytlbpkhbjdojdgaa", sum := "4d133a78adb53bb35c26d42694a9042ed97b397b8bc7ba8008d54b3b1756921b", func := "canting/cantinglaw04.DyeClosed", spec := "dyeClosed", inPlace := ["internal/bytealg.IndexByteString"], unfollowed := true, recurses := true, plainKeys := false, apart := false, narrowed := true }
def DyeClosedUptoSaid : Prop := dyeClosedUptoRow.holds Try.pinned (OpenSpec.upto dyeClosedSpec)

end Rows
end Go.Proofs.Ytlbpkhbjdojdgaa
