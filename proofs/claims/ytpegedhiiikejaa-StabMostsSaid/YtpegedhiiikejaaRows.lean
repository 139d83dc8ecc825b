/-
  No cell of these rows narrows 'for every input' (looked for: loops, veiled, ifaces, maps, wideKeys, modest, calm, conditions, laid).
  DERIVED. THE GIVEN ROWS OF THIS SEAT. 3 by the template 'for every input the law returns true; each argument reads behind the call as it read before'; 0 by the template 'total and deterministic' (their statements: YtpegedhiiikejaaTotals.lean).
  GIVEN WITH THE SEED: the statements are not yours to turn. If you find one false, say at which input.
  Laid BY PROGRAM, IN A SANDBOX (cutbox-rows.mjs): the forced cells as the released guide's own fill.sh prints them over the translation a3662b87458395b8… (all of the seat's roots in one cut). By AI agents, Wed Nov 11 2026. No macro, syntax, notation, axiom, sorry.
-/
import Derived.Test.YtpegedhiiikejaaChecked
import GoSem.Claim
import GoSem.ClaimJoined
import GoSem.ClaimMapViews
import Derived.JoinedTies
import Derived.KernelRfl
namespace Go.Proofs.Ytpegedhiiikejaa
/- THE CELL 'sum', in the pinned program and in every row, IS THE sha256 OF THE DUMP (.gsa) THAT YtpegedhiiikejaaProg.lean LOADS. Nothing in Lean hashes anything: it is a label: what it is worth is what the hold of that sum in a sandbox is worth. -/
noncomputable def Try.pinned : Pinned := { name := "ytpegedhiiikejaa", sum := "a3662b87458395b82b23b3bdb151ef16b31e4ef1e2bcc7c4b9dd7903fe2b0df6", checked := Try.checked }
namespace Rows
def none {H : Type} : Left H := { results := [], args := [] }

/-- 'damasklaw.ParenTexts': WHATEVER THE INPUT: true; the input reads as it did. -/
def parenTextsSpec : ChangeSpec := { name := "parenTexts", fn := fun _ => fun
  | [d] => { results := [.lit (.bool true)], args := [d] }
  | _ => none }
def parenTextsRow : OpenClaim := { program := "ytpegedhiiikejaa", sum := "a3662b87458395b82b23b3bdb151ef16b31e4ef1e2bcc7c4b9dd7903fe2b0df6", func := "damask/damasklaw.ParenTexts", spec := "parenTexts", inPlace := ["internal/abi.NoEscape", "internal/bytealg.MakeNoZero"], apart := false }
def ParenTextsSaid : Prop := parenTextsRow.holds Try.pinned (OpenSpec.ofChange parenTextsSpec)

/-- ITS FALSE NEIGHBOUR: 'it returns false'. Refute it at one input. -/
def parenTextsWrong : ChangeSpec := { name := "parenTexts", fn := fun _ => fun
  | [d] => { results := [.lit (.bool false)], args := [d] }
  | _ => none }
def ParenTextsWrongFalsely : Prop := parenTextsRow.holds Try.pinned (OpenSpec.ofChange parenTextsWrong)

/-- 'damasklaw.StabMosts': WHATEVER THE INPUT: true; the input reads as it did. -/
def stabMostsSpec : ChangeSpec := { name := "stabMosts", fn := fun _ => fun
  | [d] => { results := [.lit (.bool true)], args := [d] }
  | _ => none }
def stabMostsRow : OpenClaim := { program := "ytpegedhiiikejaa", sum := "a3662b87458395b82b23b3bdb151ef16b31e4ef1e2bcc7c4b9dd7903fe2b0df6", func := "damask/damasklaw.StabMosts", spec := "stabMosts", unfollowed := true, recurses := true, apart := false }
def StabMostsSaid : Prop := stabMostsRow.holds Try.pinned (OpenSpec.ofChange stabMostsSpec)

/-- ITS FALSE NEIGHBOUR: 'it returns false'. Refute it at one input. -/
def stabMostsWrong : ChangeSpec := { name := "stabMosts", fn := fun _ => fun
  | [d] => { results := [.lit (.bool false)], args := [d] }
  | _ => none }
def StabMostsWrongFalsely : Prop := stabMostsRow.holds Try.pinned (OpenSpec.ofChange stabMostsWrong)

/-- 'damasklaw.StabRefused': WHATEVER THE INPUT: true; the input reads as it did. -/
def stabRefusedSpec : ChangeSpec := { name := "stabRefused", fn := fun _ => fun
  | [d] => { results := [.lit (.bool true)], args := [d] }
  | _ => none }
def stabRefusedRow : OpenClaim := { program := "ytpegedhiiikejaa", sum := "a3662b87458395b82b23b3bdb151ef16b31e4ef1e2bcc7c4b9dd7903fe2b0df6", func := "damask/damasklaw.StabRefused", spec := "stabRefused", unfollowed := true, recurses := true, apart := false }
def StabRefusedSaid : Prop := stabRefusedRow.holds Try.pinned (OpenSpec.ofChange stabRefusedSpec)

/-- ITS FALSE NEIGHBOUR: 'it returns false'. Refute it at one input. -/
def stabRefusedWrong : ChangeSpec := { name := "stabRefused", fn := fun _ => fun
  | [d] => { results := [.lit (.bool false)], args := [d] }
  | _ => none }
def StabRefusedWrongFalsely : Prop := stabRefusedRow.holds Try.pinned (OpenSpec.ofChange stabRefusedWrong)

/- THE SECOND FORM. 'bulk': how many values and letters a reading holds, each counted each time it is reached (what is shared counts as often as it is met; a slice's spare places count too). A statement '..UptoSaid' is the law's where the arguments, and the package variables that the reading takes, are together of bulk at most 1048576: NARROWER than '..Said'. Prove '..Said' where nothing that the law and all that it calls make is longer than what came in: it says more and counts as full. Else prove '..UptoSaid'. A law counts once. -/
mutual
def uptoBulk {H : Type} : DataW H → Nat
  | .lit (.string bytes) => bytes.length + 1
  | .lit _ => 1
  | .nil => 1
  | .ptr d => uptoBulk d + 1
  | .slice elems spare => uptoBulkAll elems + uptoBulkAll spare + 1
  | .agg parts => uptoBulkAll parts + 1
  | .iface _ d => uptoBulk d + 1
  | .map entries => uptoBulkEntries entries + 1
  | .held _ => 1
def uptoBulkAll {H : Type} : List (DataW H) → Nat
  | [] => 0
  | d :: r => uptoBulk d + uptoBulkAll r
def uptoBulkEntries {H : Type} : List (Lit × DataW H) → Nat
  | [] => 0
  | x :: r => uptoBulkEntry x + uptoBulkEntries r
def uptoBulkEntry {H : Type} : Lit × DataW H → Nat
  | (.string bytes, d) => bytes.length + uptoBulk d + 1
  | (_, d) => uptoBulk d + 1
 end
def uptoSmall : (H : Type) → List (DataW H) → Bool := fun _ ds => decide (uptoBulkAll ds ≤ 1048576)
def OpenSpec.upto (s : _root_.Go.ChangeSpec) : _root_.Go.OpenSpec := { _root_.Go.OpenSpec.ofChange s with cond := some uptoSmall }

/-- 'damasklaw.ParenTexts', WHERE WHAT IT READS IS OF BULK AT MOST 1048576: true; the input reads as it did. -/
def parenTextsUptoRow : OpenClaim := { program := "ytpegedhiiikejaa", sum := "a3662b87458395b82b23b3bdb151ef16b31e4ef1e2bcc7c4b9dd7903fe2b0df6", func := "damask/damasklaw.ParenTexts", spec := "parenTexts", inPlace := ["internal/abi.NoEscape", "internal/bytealg.MakeNoZero"], apart := false, narrowed := true }
def ParenTextsUptoSaid : Prop := parenTextsUptoRow.holds Try.pinned (OpenSpec.upto parenTextsSpec)

/-- 'damasklaw.StabMosts', WHERE WHAT IT READS IS OF BULK AT MOST 1048576: true; the input reads as it did. -/
def stabMostsUptoRow : OpenClaim := { program := "ytpegedhiiikejaa", sum := "a3662b87458395b82b23b3bdb151ef16b31e4ef1e2bcc7c4b9dd7903fe2b0df6", func := "damask/damasklaw.StabMosts", spec := "stabMosts", unfollowed := true, recurses := true, apart := false, narrowed := true }
def StabMostsUptoSaid : Prop := stabMostsUptoRow.holds Try.pinned (OpenSpec.upto stabMostsSpec)

/-- 'damasklaw.StabRefused', WHERE WHAT IT READS IS OF BULK AT MOST 1048576: true; the input reads as it did. -/
def stabRefusedUptoRow : OpenClaim := { program := "ytpegedhiiikejaa", sum := "a3662b87458395b82b23b3bdb151ef16b31e4ef1e2bcc7c4b9dd7903fe2b0df6", func := "damask/damasklaw.StabRefused", spec := "stabRefused", unfollowed := true, recurses := true, apart := false, narrowed := true }
def StabRefusedUptoSaid : Prop := stabRefusedUptoRow.holds Try.pinned (OpenSpec.upto stabRefusedSpec)

end Rows
end Go.Proofs.Ytpegedhiiikejaa
