/-
  No cell of these rows narrows 'for every input' (looked for: loops, veiled, ifaces, maps, wideKeys, modest, calm, conditions, laid).
  DERIVED. THE GIVEN ROWS OF THIS SEAT. 4 by the template 'for every input the law returns true; each argument reads behind the call as it read before'; 0 by the template 'total and deterministic' (their statements: YtdcnpihjjamplaaTotals.lean).
  GIVEN WITH THE SEED: the statements are not yours to turn. If you find one false, say at which input.
  Laid BY PROGRAM, IN A SANDBOX (cutbox-rows.mjs): the forced cells as the released guide's own fill.sh prints them over the translation cb6736a7ff048a98… (all of the seat's roots in one cut). By AI agents, Wed Nov 11 2026. No macro, syntax, notation, axiom, sorry.
-/
import Derived.Test.YtdcnpihjjamplaaChecked
import GoSem.Claim
import GoSem.ClaimJoined
import GoSem.ClaimMapViews
import Derived.JoinedTies
import Derived.KernelRfl
namespace Go.Proofs.Ytdcnpihjjamplaa
/- THE CELL 'sum', in the pinned program and in every row, IS THE sha256 OF THE DUMP (.gsa) THAT YtdcnpihjjamplaaProg.lean LOADS. Nothing in Lean hashes anything: it is a label: what it is worth is what the hold of that sum in a sandbox is worth. -/
noncomputable def Try.pinned : Pinned := { name := "ytdcnpihjjamplaa", sum := "cb6736a7ff048a9842bfe50050e9ce3b7543711ebeb0159de7ec72c3692da303", checked := Try.checked }
namespace Rows
def none {H : Type} : Left H := { results := [], args := [] }

/-- 'damasklaw.HullHulls': WHATEVER THE INPUT: true; the input reads as it did. -/
def hullHullsSpec : ChangeSpec := { name := "hullHulls", fn := fun _ => fun
  | [d] => { results := [.lit (.bool true)], args := [d] }
  | _ => none }
def hullHullsRow : OpenClaim := { program := "ytdcnpihjjamplaa", sum := "cb6736a7ff048a9842bfe50050e9ce3b7543711ebeb0159de7ec72c3692da303", func := "damask/damasklaw.HullHulls", spec := "hullHulls", unfollowed := true, recurses := true, apart := false }
def HullHullsSaid : Prop := hullHullsRow.holds Try.pinned (OpenSpec.ofChange hullHullsSpec)

/-- ITS FALSE NEIGHBOUR: 'it returns false'. Refute it at one input. -/
def hullHullsWrong : ChangeSpec := { name := "hullHulls", fn := fun _ => fun
  | [d] => { results := [.lit (.bool false)], args := [d] }
  | _ => none }
def HullHullsWrongFalsely : Prop := hullHullsRow.holds Try.pinned (OpenSpec.ofChange hullHullsWrong)

/-- 'damasklaw.HullAreas': WHATEVER THE INPUT: true; the input reads as it did. -/
def hullAreasSpec : ChangeSpec := { name := "hullAreas", fn := fun _ => fun
  | [d] => { results := [.lit (.bool true)], args := [d] }
  | _ => none }
def hullAreasRow : OpenClaim := { program := "ytdcnpihjjamplaa", sum := "cb6736a7ff048a9842bfe50050e9ce3b7543711ebeb0159de7ec72c3692da303", func := "damask/damasklaw.HullAreas", spec := "hullAreas", unfollowed := true, recurses := true, apart := false }
def HullAreasSaid : Prop := hullAreasRow.holds Try.pinned (OpenSpec.ofChange hullAreasSpec)

/-- ITS FALSE NEIGHBOUR: 'it returns false'. Refute it at one input. -/
def hullAreasWrong : ChangeSpec := { name := "hullAreas", fn := fun _ => fun
  | [d] => { results := [.lit (.bool false)], args := [d] }
  | _ => none }
def HullAreasWrongFalsely : Prop := hullAreasRow.holds Try.pinned (OpenSpec.ofChange hullAreasWrong)

/-- 'damasklaw.HullHas': WHATEVER THE INPUT: true; the input reads as it did. -/
def hullHasSpec : ChangeSpec := { name := "hullHas", fn := fun _ => fun
  | [d1, d2, d3] => { results := [.lit (.bool true)], args := [d1, d2, d3] }
  | _ => none }
def hullHasRow : OpenClaim := { program := "ytdcnpihjjamplaa", sum := "cb6736a7ff048a9842bfe50050e9ce3b7543711ebeb0159de7ec72c3692da303", func := "damask/damasklaw.HullHas", spec := "hullHas", unfollowed := true, recurses := true, apart := false }
def HullHasSaid : Prop := hullHasRow.holds Try.pinned (OpenSpec.ofChange hullHasSpec)

/-- ITS FALSE NEIGHBOUR: 'it returns false'. Refute it at one input. -/
def hullHasWrong : ChangeSpec := { name := "hullHas", fn := fun _ => fun
  | [d1, d2, d3] => { results := [.lit (.bool false)], args := [d1, d2, d3] }
  | _ => none }
def HullHasWrongFalsely : Prop := hullHasRow.holds Try.pinned (OpenSpec.ofChange hullHasWrong)

/-- 'damasklaw.HullInsides': WHATEVER THE INPUT: true; the input reads as it did. -/
def hullInsidesSpec : ChangeSpec := { name := "hullInsides", fn := fun _ => fun
  | [d] => { results := [.lit (.bool true)], args := [d] }
  | _ => none }
def hullInsidesRow : OpenClaim := { program := "ytdcnpihjjamplaa", sum := "cb6736a7ff048a9842bfe50050e9ce3b7543711ebeb0159de7ec72c3692da303", func := "damask/damasklaw.HullInsides", spec := "hullInsides", unfollowed := true, recurses := true, apart := false }
def HullInsidesSaid : Prop := hullInsidesRow.holds Try.pinned (OpenSpec.ofChange hullInsidesSpec)

/-- ITS FALSE NEIGHBOUR: 'it returns false'. Refute it at one input. -/
def hullInsidesWrong : ChangeSpec := { name := "hullInsides", fn := fun _ => fun
  | [d] => { results := [.lit (.bool false)], args := [d] }
  | _ => none }
def HullInsidesWrongFalsely : Prop := hullInsidesRow.holds Try.pinned (OpenSpec.ofChange hullInsidesWrong)

/- THE SECOND FORM. 'bulk': how many values and letters a reading holds, each counted each time it is reached (what is shared counts as often as it is met; a slice's spare places count too). A statement '..UptoSaid' is the law's where the arguments, and the package variables that the reading takes, are together of bulk at most 1048576: NARROWER than '..Said'. Prove '..Said' where nothing that the law and all that it calls make is longer than what came in: it says more and counts as full. Else prove '..UptoSaid'. A law counts once. -/
mutual
def uptoBulk {H : Type} : DataW H → Nat
  | .lit (.string bytes) => bytes.length + 1
  | .lit _ => 1
  | .nil => 1
  | .ptr d => uptoBulk d + 1
  | .slice elems spare => uptoBulkAll elems + uptoBulkAll spare + 1
  | .agg parts => uptoBulkAll parts + 1
  | .iface _ d => uptoBulk d + 1
  | .map entries => uptoBulkEntries entries + 1
  | .held _ => 1
def uptoBulkAll {H : Type} : List (DataW H) → Nat
  | [] => 0
  | d :: r => uptoBulk d + uptoBulkAll r
def uptoBulkEntries {H : Type} : List (Lit × DataW H) → Nat
  | [] => 0
  | x :: r => uptoBulkEntry x + uptoBulkEntries r
def uptoBulkEntry {H : Type} : Lit × DataW H → Nat
  | (.string bytes, d) => bytes.length + uptoBulk d + 1
  | (_, d) => uptoBulk d + 1
 end
def uptoSmall : (H : Type) → List (DataW H) → Bool := fun _ ds => decide (uptoBulkAll ds ≤ 1048576)
def OpenSpec.upto (s : _root_.Go.ChangeSpec) : _root_.Go.OpenSpec := { _root_.Go.OpenSpec.ofChange s with cond := some uptoSmall }

/-- 'damasklaw.HullHulls', WHERE WHAT IT READS IS OF BULK AT MOST 1048576: true; the input reads as it did. -/
def hullHullsUptoRow : OpenClaim := { program := "ytdcnpihjjamplaa", sum := "cb6736a7ff048a9842bfe50050e9ce3b7543711ebeb0159de7ec72c3692da303", func := "damask/damasklaw.HullHulls", spec := "hullHulls", unfollowed := true, recurses := true, apart := false, narrowed := true }
def HullHullsUptoSaid : Prop := hullHullsUptoRow.holds Try.pinned (OpenSpec.upto hullHullsSpec)

/-- 'damasklaw.HullAreas', WHERE WHAT IT READS IS OF BULK AT MOST 1048576: true; the input reads as it did. -/
def hullAreasUptoRow : OpenClaim := { program := "ytdcnpihjjamplaa", sum := "cb6736a7ff048a9842bfe50050e9ce3b7543711ebeb0159de7ec72c3692da303", func := "damask/damasklaw.HullAreas", spec := "hullAreas", unfollowed := true, recurses := true, apart := false, narrowed := true }
def HullAreasUptoSaid : Prop := hullAreasUptoRow.holds Try.pinned (OpenSpec.upto hullAreasSpec)

/-- 'damasklaw.HullHas', WHERE WHAT IT READS IS OF BULK AT MOST 1048576: true; the input reads as it did. -/
def hullHasUptoRow : OpenClaim := { program := "ytdcnpihjjamplaa", sum := "cb6736a7ff048a9842bfe50050e9ce3b7543711ebeb0159de7ec72c3692da303", func := "damask/damasklaw.HullHas", spec := "hullHas", unfollowed := true, recurses := true, apart := false, narrowed := true }
def HullHasUptoSaid : Prop := hullHasUptoRow.holds Try.pinned (OpenSpec.upto hullHasSpec)

/-- 'damasklaw.HullInsides', WHERE WHAT IT READS IS OF BULK AT MOST 1048576: true; the input reads as it did. -/
def hullInsidesUptoRow : OpenClaim := { program := "ytdcnpihjjamplaa", sum := "cb6736a7ff048a9842bfe50050e9ce3b7543711ebeb0159de7ec72c3692da303", func := "damask/damasklaw.HullInsides", spec := "hullInsides", unfollowed := true, recurses := true, apart := false, narrowed := true }
def HullInsidesUptoSaid : Prop := hullInsidesUptoRow.holds Try.pinned (OpenSpec.upto hullInsidesSpec)

end Rows
end Go.Proofs.Ytdcnpihjjamplaa
