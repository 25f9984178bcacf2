/-
  No cell of these rows narrows 'for every input' (looked for: loops, veiled, ifaces, maps, wideKeys, modest, calm, conditions, laid).
  DERIVED. THE GIVEN ROWS OF THIS SEAT. 9 by the template 'for every input the law returns true; each argument reads behind the call as it read before'; 0 by the template 'total and deterministic' (their statements: YthgkkbaaedefhaaTotals.lean).
  GIVEN WITH THE SEED: the statements are not yours to turn. If you find one false, say at which input.
  Laid BY PROGRAM, IN A SANDBOX (cutbox-rows.mjs): the forced cells as the released guide's own fill.sh prints them over the translation 2cec8d5bc4b80643… (all of the seat's roots in one cut). By AI agents, Wed Nov 11 2026. No macro, syntax, notation, axiom, sorry.
-/
import Derived.Test.YthgkkbaaedefhaaChecked
import GoSem.Claim
import GoSem.ClaimJoined
import GoSem.ClaimMapViews
import Derived.JoinedTies
import Derived.KernelRfl
namespace Go.Proofs.Ythgkkbaaedefhaa
/- THE CELL 'sum', in the pinned program and in every row, IS THE sha256 OF THE DUMP (.gsa) THAT YthgkkbaaedefhaaProg.lean LOADS. Nothing in Lean hashes anything: it is a label: what it is worth is what the hold of that sum in a sandbox is worth. -/
noncomputable def Try.pinned : Pinned := { name := "ythgkkbaaedefhaa", sum := "2cec8d5bc4b80643181f6996a908c98a6b2416f2101cded6bae61a7831d8d312", checked := Try.checked }
namespace Rows
def none {H : Type} : Left H := { results := [], args := [] }

/-- 'gasworkslaw12.LampWays': WHATEVER THE INPUT: true; the input reads as it did. -/
def lampWaysSpec : ChangeSpec := { name := "lampWays", fn := fun _ => fun
  | [d1, d2, d3, d4, d5] => { results := [.lit (.bool true)], args := [d1, d2, d3, d4, d5] }
  | _ => none }
def lampWaysRow : OpenClaim := { program := "ythgkkbaaedefhaa", sum := "2cec8d5bc4b80643181f6996a908c98a6b2416f2101cded6bae61a7831d8d312", func := "gasworks/gasworkslaw12.LampWays", spec := "lampWays", unfollowed := true, recurses := true, plainKeys := false, apart := false }
def LampWaysSaid : Prop := lampWaysRow.holds Try.pinned (OpenSpec.ofChange lampWaysSpec)

/-- ITS FALSE NEIGHBOUR: 'it returns false'. Refute it at one input. -/
def lampWaysWrong : ChangeSpec := { name := "lampWays", fn := fun _ => fun
  | [d1, d2, d3, d4, d5] => { results := [.lit (.bool false)], args := [d1, d2, d3, d4, d5] }
  | _ => none }
def LampWaysWrongFalsely : Prop := lampWaysRow.holds Try.pinned (OpenSpec.ofChange lampWaysWrong)

/-- 'gasworkslaw12.LampOrders': WHATEVER THE INPUT: true; the input reads as it did. -/
def lampOrdersSpec : ChangeSpec := { name := "lampOrders", fn := fun _ => fun
  | [d1, d2] => { results := [.lit (.bool true)], args := [d1, d2] }
  | _ => none }
def lampOrdersRow : OpenClaim := { program := "ythgkkbaaedefhaa", sum := "2cec8d5bc4b80643181f6996a908c98a6b2416f2101cded6bae61a7831d8d312", func := "gasworks/gasworkslaw12.LampOrders", spec := "lampOrders", unfollowed := true, recurses := true, plainKeys := false, apart := false }
def LampOrdersSaid : Prop := lampOrdersRow.holds Try.pinned (OpenSpec.ofChange lampOrdersSpec)

/-- ITS FALSE NEIGHBOUR: 'it returns false'. Refute it at one input. -/
def lampOrdersWrong : ChangeSpec := { name := "lampOrders", fn := fun _ => fun
  | [d1, d2] => { results := [.lit (.bool false)], args := [d1, d2] }
  | _ => none }
def LampOrdersWrongFalsely : Prop := lampOrdersRow.holds Try.pinned (OpenSpec.ofChange lampOrdersWrong)

/-- 'gasworkslaw12.LampFewest': WHATEVER THE INPUT: true; the input reads as it did. -/
def lampFewestSpec : ChangeSpec := { name := "lampFewest", fn := fun _ => fun
  | [d] => { results := [.lit (.bool true)], args := [d] }
  | _ => none }
def lampFewestRow : OpenClaim := { program := "ythgkkbaaedefhaa", sum := "2cec8d5bc4b80643181f6996a908c98a6b2416f2101cded6bae61a7831d8d312", func := "gasworks/gasworkslaw12.LampFewest", spec := "lampFewest", unfollowed := true, recurses := true, plainKeys := false, apart := false }
def LampFewestSaid : Prop := lampFewestRow.holds Try.pinned (OpenSpec.ofChange lampFewestSpec)

/-- ITS FALSE NEIGHBOUR: 'it returns false'. Refute it at one input. -/
def lampFewestWrong : ChangeSpec := { name := "lampFewest", fn := fun _ => fun
  | [d] => { results := [.lit (.bool false)], args := [d] }
  | _ => none }
def LampFewestWrongFalsely : Prop := lampFewestRow.holds Try.pinned (OpenSpec.ofChange lampFewestWrong)

/-- 'gasworkslaw12.LampNames': WHATEVER THE INPUT: true; the input reads as it did. -/
def lampNamesSpec : ChangeSpec := { name := "lampNames", fn := fun _ => fun
  | [] => { results := [.lit (.bool true)], args := [] }
  | _ => none }
def lampNamesRow : OpenClaim := { program := "ythgkkbaaedefhaa", sum := "2cec8d5bc4b80643181f6996a908c98a6b2416f2101cded6bae61a7831d8d312", func := "gasworks/gasworkslaw12.LampNames", spec := "lampNames", unfollowed := true, recurses := true, plainKeys := false, apart := false }
def LampNamesSaid : Prop := lampNamesRow.holds Try.pinned (OpenSpec.ofChange lampNamesSpec)

/-- ITS FALSE NEIGHBOUR: 'it returns false'. Refute it at one input. -/
def lampNamesWrong : ChangeSpec := { name := "lampNames", fn := fun _ => fun
  | [] => { results := [.lit (.bool false)], args := [] }
  | _ => none }
def LampNamesWrongFalsely : Prop := lampNamesRow.holds Try.pinned (OpenSpec.ofChange lampNamesWrong)

/-- 'gasworkslaw12.LampBurns': WHATEVER THE INPUT: true; the input reads as it did. -/
def lampBurnsSpec : ChangeSpec := { name := "lampBurns", fn := fun _ => fun
  | [d1, d2, d3] => { results := [.lit (.bool true)], args := [d1, d2, d3] }
  | _ => none }
def lampBurnsRow : OpenClaim := { program := "ythgkkbaaedefhaa", sum := "2cec8d5bc4b80643181f6996a908c98a6b2416f2101cded6bae61a7831d8d312", func := "gasworks/gasworkslaw12.LampBurns", spec := "lampBurns", unfollowed := true, recurses := true, plainKeys := false, apart := false }
def LampBurnsSaid : Prop := lampBurnsRow.holds Try.pinned (OpenSpec.ofChange lampBurnsSpec)

/-- ITS FALSE NEIGHBOUR: 'it returns false'. Refute it at one input. -/
def lampBurnsWrong : ChangeSpec := { name := "lampBurns", fn := fun _ => fun
  | [d1, d2, d3] => { results := [.lit (.bool false)], args := [d1, d2, d3] }
  | _ => none }
def LampBurnsWrongFalsely : Prop := lampBurnsRow.holds Try.pinned (OpenSpec.ofChange lampBurnsWrong)

/-- 'gasworkslaw12.LampLit': WHATEVER THE INPUT: true; the input reads as it did. -/
def lampLitSpec : ChangeSpec := { name := "lampLit", fn := fun _ => fun
  | [d1, d2] => { results := [.lit (.bool true)], args := [d1, d2] }
  | _ => none }
def lampLitRow : OpenClaim := { program := "ythgkkbaaedefhaa", sum := "2cec8d5bc4b80643181f6996a908c98a6b2416f2101cded6bae61a7831d8d312", func := "gasworks/gasworkslaw12.LampLit", spec := "lampLit", unfollowed := true, recurses := true, plainKeys := false, apart := false }
def LampLitSaid : Prop := lampLitRow.holds Try.pinned (OpenSpec.ofChange lampLitSpec)

/-- ITS FALSE NEIGHBOUR: 'it returns false'. Refute it at one input. -/
def lampLitWrong : ChangeSpec := { name := "lampLit", fn := fun _ => fun
  | [d1, d2] => { results := [.lit (.bool false)], args := [d1, d2] }
  | _ => none }
def LampLitWrongFalsely : Prop := lampLitRow.holds Try.pinned (OpenSpec.ofChange lampLitWrong)

/-- 'gasworkslaw12.LampRound': WHATEVER THE INPUT: true; the input reads as it did. -/
def lampRoundSpec : ChangeSpec := { name := "lampRound", fn := fun _ => fun
  | [d1, d2, d3] => { results := [.lit (.bool true)], args := [d1, d2, d3] }
  | _ => none }
def lampRoundRow : OpenClaim := { program := "ythgkkbaaedefhaa", sum := "2cec8d5bc4b80643181f6996a908c98a6b2416f2101cded6bae61a7831d8d312", func := "gasworks/gasworkslaw12.LampRound", spec := "lampRound", unfollowed := true, recurses := true, plainKeys := false, apart := false }
def LampRoundSaid : Prop := lampRoundRow.holds Try.pinned (OpenSpec.ofChange lampRoundSpec)

/-- ITS FALSE NEIGHBOUR: 'it returns false'. Refute it at one input. -/
def lampRoundWrong : ChangeSpec := { name := "lampRound", fn := fun _ => fun
  | [d1, d2, d3] => { results := [.lit (.bool false)], args := [d1, d2, d3] }
  | _ => none }
def LampRoundWrongFalsely : Prop := lampRoundRow.holds Try.pinned (OpenSpec.ofChange lampRoundWrong)

/-- 'gasworkslaw12.LampMore': WHATEVER THE INPUT: true; the input reads as it did. -/
def lampMoreSpec : ChangeSpec := { name := "lampMore", fn := fun _ => fun
  | [d1, d2, d3, d4, d5] => { results := [.lit (.bool true)], args := [d1, d2, d3, d4, d5] }
  | _ => none }
def lampMoreRow : OpenClaim := { program := "ythgkkbaaedefhaa", sum := "2cec8d5bc4b80643181f6996a908c98a6b2416f2101cded6bae61a7831d8d312", func := "gasworks/gasworkslaw12.LampMore", spec := "lampMore", unfollowed := true, recurses := true, plainKeys := false, apart := false }
def LampMoreSaid : Prop := lampMoreRow.holds Try.pinned (OpenSpec.ofChange lampMoreSpec)

/-- ITS FALSE NEIGHBOUR: 'it returns false'. Refute it at one input. -/
def lampMoreWrong : ChangeSpec := { name := "lampMore", fn := fun _ => fun
  | [d1, d2, d3, d4, d5] => { results := [.lit (.bool false)], args := [d1, d2, d3, d4, d5] }
  | _ => none }
def LampMoreWrongFalsely : Prop := lampMoreRow.holds Try.pinned (OpenSpec.ofChange lampMoreWrong)

/-- 'gasworkslaw12.LampOwns': WHATEVER THE INPUT: true; the input reads as it did. -/
def lampOwnsSpec : ChangeSpec := { name := "lampOwns", fn := fun _ => fun
  | [d1, d2, d3] => { results := [.lit (.bool true)], args := [d1, d2, d3] }
  | _ => none }
def lampOwnsRow : OpenClaim := { program := "ythgkkbaaedefhaa", sum := "2cec8d5bc4b80643181f6996a908c98a6b2416f2101cded6bae61a7831d8d312", func := "gasworks/gasworkslaw12.LampOwns", spec := "lampOwns", unfollowed := true, recurses := true, plainKeys := false, apart := false }
def LampOwnsSaid : Prop := lampOwnsRow.holds Try.pinned (OpenSpec.ofChange lampOwnsSpec)

/-- ITS FALSE NEIGHBOUR: 'it returns false'. Refute it at one input. -/
def lampOwnsWrong : ChangeSpec := { name := "lampOwns", fn := fun _ => fun
  | [d1, d2, d3] => { results := [.lit (.bool false)], args := [d1, d2, d3] }
  | _ => none }
def LampOwnsWrongFalsely : Prop := lampOwnsRow.holds Try.pinned (OpenSpec.ofChange lampOwnsWrong)

/- THE SECOND FORM. 'bulk': how many values and letters a reading holds, each counted each time it is reached (what is shared counts as often as it is met; a slice's spare places count too). A statement '..UptoSaid' is the law's where the arguments, and the package variables that the reading takes, are together of bulk at most 1048576: NARROWER than '..Said'. Prove '..Said' where nothing that the law and all that it calls make is longer than what came in: it says more and counts as full. Else prove '..UptoSaid'. A law counts once. -/
mutual
def uptoBulk {H : Type} : DataW H → Nat
  | .lit (.string bytes) => bytes.length + 1
  | .lit _ => 1
  | .nil => 1
  | .ptr d => uptoBulk d + 1
  | .slice elems spare => uptoBulkAll elems + uptoBulkAll spare + 1
  | .agg parts => uptoBulkAll parts + 1
  | .iface _ d => uptoBulk d + 1
  | .map entries => uptoBulkEntries entries + 1
  | .held _ => 1
def uptoBulkAll {H : Type} : List (DataW H) → Nat
  | [] => 0
  | d :: r => uptoBulk d + uptoBulkAll r
def uptoBulkEntries {H : Type} : List (Lit × DataW H) → Nat
  | [] => 0
  | x :: r => uptoBulkEntry x + uptoBulkEntries r
def uptoBulkEntry {H : Type} : Lit × DataW H → Nat
  | (.string bytes, d) => bytes.length + uptoBulk d + 1
  | (_, d) => uptoBulk d + 1
 end
def uptoSmall : (H : Type) → List (DataW H) → Bool := fun _ ds => decide (uptoBulkAll ds ≤ 1048576)
def OpenSpec.upto (s : _root_.Go.ChangeSpec) : _root_.Go.OpenSpec := { _root_.Go.OpenSpec.ofChange s with cond := some uptoSmall }

/-- 'gasworkslaw12.LampWays', WHERE WHAT IT READS IS OF BULK AT MOST 1048576: true; the input reads as it did. -/
def lampWaysUptoRow : OpenClaim := { program := "ythgkkbaaedefhaa", sum := "2cec8d5bc4b80643181f6996a908c98a6b2416f2101cded6bae61a7831d8d312", func := "gasworks/gasworkslaw12.LampWays", spec := "lampWays", unfollowed := true, recurses := true, plainKeys := false, apart := false, narrowed := true }
def LampWaysUptoSaid : Prop := lampWaysUptoRow.holds Try.pinned (OpenSpec.upto lampWaysSpec)

/-- 'gasworkslaw12.LampOrders', WHERE WHAT IT READS IS OF BULK AT MOST 1048576: true; the input reads as it did. -/
def lampOrdersUptoRow : OpenClaim := { program := "ythgkkbaaedefhaa", sum := "2cec8d5bc4b80643181f6996a908c98a6b2416f2101cded6bae61a7831d8d312", func := "gasworks/gasworkslaw12.LampOrders", spec := "lampOrders", unfollowed := true, recurses := true, plainKeys := false, apart := false, narrowed := true }
def LampOrdersUptoSaid : Prop := lampOrdersUptoRow.holds Try.pinned (OpenSpec.upto lampOrdersSpec)

/-- 'gasworkslaw12.LampFewest', WHERE WHAT IT READS IS OF BULK AT MOST 1048576: true; the input reads as it did. -/
def lampFewestUptoRow : OpenClaim := { program := "ythgkkbaaedefhaa", sum := "2cec8d5bc4b80643181f6996a908c98a6b2416f2101cded6bae61a7831d8d312", func := "gasworks/gasworkslaw12.LampFewest", spec := "lampFewest", unfollowed := true, recurses := true, plainKeys := false, apart := false, narrowed := true }
def LampFewestUptoSaid : Prop := lampFewestUptoRow.holds Try.pinned (OpenSpec.upto lampFewestSpec)

/-- 'gasworkslaw12.LampNames', WHERE WHAT IT READS IS OF BULK AT MOST 1048576: true; the input reads as it did. -/
def lampNamesUptoRow : OpenClaim := { program := "ythgkkbaaedefhaa", sum := "2cec8d5bc4b80643181f6996a908c98a6b2416f2101cded6bae61a7831d8d312", func := "gasworks/gasworkslaw12.LampNames", spec := "lampNames", unfollowed := true, recurses := true, plainKeys := false, apart := false, narrowed := true }
def LampNamesUptoSaid : Prop := lampNamesUptoRow.holds Try.pinned (OpenSpec.upto lampNamesSpec)

/-- 'gasworkslaw12.LampBurns', WHERE WHAT IT READS IS OF BULK AT MOST 1048576: true; the input reads as it did. -/
def lampBurnsUptoRow : OpenClaim := { program := "ythgkkbaaedefhaa", sum := "2cec8d5bc4b80643181f6996a908c98a6b2416f2101cded6bae61a7831d8d312", func := "gasworks/gasworkslaw12.LampBurns", spec := "lampBurns", unfollowed := true, recurses := true, plainKeys := false, apart := false, narrowed := true }
def LampBurnsUptoSaid : Prop := lampBurnsUptoRow.holds Try.pinned (OpenSpec.upto lampBurnsSpec)

/-- 'gasworkslaw12.LampLit', WHERE WHAT IT READS IS OF BULK AT MOST 1048576: true; the input reads as it did. -/
def lampLitUptoRow : OpenClaim := { program := "ythgkkbaaedefhaa", sum := "2cec8d5bc4b80643181f6996a908c98a6b2416f2101cded6bae61a7831d8d312", func := "gasworks/gasworkslaw12.LampLit", spec := "lampLit", unfollowed := true, recurses := true, plainKeys := false, apart := false, narrowed := true }
def LampLitUptoSaid : Prop := lampLitUptoRow.holds Try.pinned (OpenSpec.upto lampLitSpec)

/-- 'gasworkslaw12.LampRound', WHERE WHAT IT READS IS OF BULK AT MOST 1048576: true; the input reads as it did. -/
def lampRoundUptoRow : OpenClaim := { program := "ythgkkbaaedefhaa", sum := "2cec8d5bc4b80643181f6996a908c98a6b2416f2101cded6bae61a7831d8d312", func := "gasworks/gasworkslaw12.LampRound", spec := "lampRound", unfollowed := true, recurses := true, plainKeys := false, apart := false, narrowed := true }
def LampRoundUptoSaid : Prop := lampRoundUptoRow.holds Try.pinned (OpenSpec.upto lampRoundSpec)

/-- 'gasworkslaw12.LampMore', WHERE WHAT IT READS IS OF BULK AT MOST 1048576: true; the input reads as it did. -/
def lampMoreUptoRow : OpenClaim := { program := "ythgkkbaaedefhaa", sum := "2cec8d5bc4b80643181f6996a908c98a6b2416f2101cded6bae61a7831d8d312", func := "gasworks/gasworkslaw12.LampMore", spec := "lampMore", unfollowed := true, recurses := true, plainKeys := false, apart := false, narrowed := true }
def LampMoreUptoSaid : Prop := lampMoreUptoRow.holds Try.pinned (OpenSpec.upto lampMoreSpec)

/-- 'gasworkslaw12.LampOwns', WHERE WHAT IT READS IS OF BULK AT MOST 1048576: true; the input reads as it did. -/
def lampOwnsUptoRow : OpenClaim := { program := "ythgkkbaaedefhaa", sum := "2cec8d5bc4b80643181f6996a908c98a6b2416f2101cded6bae61a7831d8d312", func := "gasworks/gasworkslaw12.LampOwns", spec := "lampOwns", unfollowed := true, recurses := true, plainKeys := false, apart := false, narrowed := true }
def LampOwnsUptoSaid : Prop := lampOwnsUptoRow.holds Try.pinned (OpenSpec.upto lampOwnsSpec)

end Rows
end Go.Proofs.Ythgkkbaaedefhaa
