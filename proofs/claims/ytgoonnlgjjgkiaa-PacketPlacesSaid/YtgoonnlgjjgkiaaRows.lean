/-
  No cell of these rows narrows 'for every input' (looked for: loops, veiled, ifaces, maps, wideKeys, modest, calm, conditions, laid).
  DERIVED. THE GIVEN ROWS OF THIS SEAT. 9 by the template 'for every input the law returns true; each argument reads behind the call as it read before'; 0 by the template 'total and deterministic' (their statements: YtgoonnlgjjgkiaaTotals.lean).
  GIVEN WITH THE SEED: the statements are not yours to turn. If you find one false, say at which input.
  Laid BY PROGRAM, IN A SANDBOX (cutbox-rows.mjs): the forced cells as the released guide's own fill.sh prints them over the translation e4dcfd49c199987d… (all of the seat's roots in one cut). By AI agents, Wed Nov 11 2026. No macro, syntax, notation, axiom, sorry.
-/
import Derived.Test.YtgoonnlgjjgkiaaChecked
import GoSem.Claim
import GoSem.ClaimJoined
import GoSem.ClaimMapViews
import Derived.JoinedTies
import Derived.KernelRfl
namespace Go.Proofs.Ytgoonnlgjjgkiaa
/- THE CELL 'sum', in the pinned program and in every row, IS THE sha256 OF THE DUMP (.gsa) THAT YtgoonnlgjjgkiaaProg.lean LOADS. Nothing in Lean hashes anything: it is a label: what it is worth is what the hold of that sum in a sandbox is worth. -/
noncomputable def Try.pinned : Pinned := { name := "ytgoonnlgjjgkiaa", sum := "e4dcfd49c199987db600faa4604513c473de057ed1315c2fdbe54850c2748735", checked := Try.checked }
namespace Rows
def none {H : Type} : Left H := { results := [], args := [] }

/-- 'towpathlaw13.PacketBack': WHATEVER THE INPUT: true; the input reads as it did. -/
def packetBackSpec : ChangeSpec := { name := "packetBack", fn := fun _ => fun
  | [d1, d2] => { results := [.lit (.bool true)], args := [d1, d2] }
  | _ => none }
def packetBackRow : OpenClaim := { program := "ytgoonnlgjjgkiaa", sum := "e4dcfd49c199987db600faa4604513c473de057ed1315c2fdbe54850c2748735", func := "towpath/towpathlaw13.PacketBack", spec := "packetBack", apart := false }
def PacketBackSaid : Prop := packetBackRow.holds Try.pinned (OpenSpec.ofChange packetBackSpec)

/-- ITS FALSE NEIGHBOUR: 'it returns false'. Refute it at one input. -/
def packetBackWrong : ChangeSpec := { name := "packetBack", fn := fun _ => fun
  | [d1, d2] => { results := [.lit (.bool false)], args := [d1, d2] }
  | _ => none }
def PacketBackWrongFalsely : Prop := packetBackRow.holds Try.pinned (OpenSpec.ofChange packetBackWrong)

/-- 'towpathlaw13.PacketReads': WHATEVER THE INPUT: true; the input reads as it did. -/
def packetReadsSpec : ChangeSpec := { name := "packetReads", fn := fun _ => fun
  | [d1, d2, d3, d4, d5] => { results := [.lit (.bool true)], args := [d1, d2, d3, d4, d5] }
  | _ => none }
def packetReadsRow : OpenClaim := { program := "ytgoonnlgjjgkiaa", sum := "e4dcfd49c199987db600faa4604513c473de057ed1315c2fdbe54850c2748735", func := "towpath/towpathlaw13.PacketReads", spec := "packetReads", apart := false }
def PacketReadsSaid : Prop := packetReadsRow.holds Try.pinned (OpenSpec.ofChange packetReadsSpec)

/-- ITS FALSE NEIGHBOUR: 'it returns false'. Refute it at one input. -/
def packetReadsWrong : ChangeSpec := { name := "packetReads", fn := fun _ => fun
  | [d1, d2, d3, d4, d5] => { results := [.lit (.bool false)], args := [d1, d2, d3, d4, d5] }
  | _ => none }
def PacketReadsWrongFalsely : Prop := packetReadsRow.holds Try.pinned (OpenSpec.ofChange packetReadsWrong)

/-- 'towpathlaw13.PacketSums': WHATEVER THE INPUT: true; the input reads as it did. -/
def packetSumsSpec : ChangeSpec := { name := "packetSums", fn := fun _ => fun
  | [d1, d2] => { results := [.lit (.bool true)], args := [d1, d2] }
  | _ => none }
def packetSumsRow : OpenClaim := { program := "ytgoonnlgjjgkiaa", sum := "e4dcfd49c199987db600faa4604513c473de057ed1315c2fdbe54850c2748735", func := "towpath/towpathlaw13.PacketSums", spec := "packetSums", apart := false }
def PacketSumsSaid : Prop := packetSumsRow.holds Try.pinned (OpenSpec.ofChange packetSumsSpec)

/-- ITS FALSE NEIGHBOUR: 'it returns false'. Refute it at one input. -/
def packetSumsWrong : ChangeSpec := { name := "packetSums", fn := fun _ => fun
  | [d1, d2] => { results := [.lit (.bool false)], args := [d1, d2] }
  | _ => none }
def PacketSumsWrongFalsely : Prop := packetSumsRow.holds Try.pinned (OpenSpec.ofChange packetSumsWrong)

/-- 'towpathlaw13.PacketHops': WHATEVER THE INPUT: true; the input reads as it did. -/
def packetHopsSpec : ChangeSpec := { name := "packetHops", fn := fun _ => fun
  | [d1, d2] => { results := [.lit (.bool true)], args := [d1, d2] }
  | _ => none }
def packetHopsRow : OpenClaim := { program := "ytgoonnlgjjgkiaa", sum := "e4dcfd49c199987db600faa4604513c473de057ed1315c2fdbe54850c2748735", func := "towpath/towpathlaw13.PacketHops", spec := "packetHops", apart := false }
def PacketHopsSaid : Prop := packetHopsRow.holds Try.pinned (OpenSpec.ofChange packetHopsSpec)

/-- ITS FALSE NEIGHBOUR: 'it returns false'. Refute it at one input. -/
def packetHopsWrong : ChangeSpec := { name := "packetHops", fn := fun _ => fun
  | [d1, d2] => { results := [.lit (.bool false)], args := [d1, d2] }
  | _ => none }
def PacketHopsWrongFalsely : Prop := packetHopsRow.holds Try.pinned (OpenSpec.ofChange packetHopsWrong)

/-- 'towpathlaw13.PacketLong': WHATEVER THE INPUT: true; the input reads as it did. -/
def packetLongSpec : ChangeSpec := { name := "packetLong", fn := fun _ => fun
  | [d1, d2] => { results := [.lit (.bool true)], args := [d1, d2] }
  | _ => none }
def packetLongRow : OpenClaim := { program := "ytgoonnlgjjgkiaa", sum := "e4dcfd49c199987db600faa4604513c473de057ed1315c2fdbe54850c2748735", func := "towpath/towpathlaw13.PacketLong", spec := "packetLong", apart := false }
def PacketLongSaid : Prop := packetLongRow.holds Try.pinned (OpenSpec.ofChange packetLongSpec)

/-- ITS FALSE NEIGHBOUR: 'it returns false'. Refute it at one input. -/
def packetLongWrong : ChangeSpec := { name := "packetLong", fn := fun _ => fun
  | [d1, d2] => { results := [.lit (.bool false)], args := [d1, d2] }
  | _ => none }
def PacketLongWrongFalsely : Prop := packetLongRow.holds Try.pinned (OpenSpec.ofChange packetLongWrong)

/-- 'towpathlaw13.PacketPlaces': WHATEVER THE INPUT: true; the input reads as it did. -/
def packetPlacesSpec : ChangeSpec := { name := "packetPlaces", fn := fun _ => fun
  | [d] => { results := [.lit (.bool true)], args := [d] }
  | _ => none }
def packetPlacesRow : OpenClaim := { program := "ytgoonnlgjjgkiaa", sum := "e4dcfd49c199987db600faa4604513c473de057ed1315c2fdbe54850c2748735", func := "towpath/towpathlaw13.PacketPlaces", spec := "packetPlaces", apart := false }
def PacketPlacesSaid : Prop := packetPlacesRow.holds Try.pinned (OpenSpec.ofChange packetPlacesSpec)

/-- ITS FALSE NEIGHBOUR: 'it returns false'. Refute it at one input. -/
def packetPlacesWrong : ChangeSpec := { name := "packetPlaces", fn := fun _ => fun
  | [d] => { results := [.lit (.bool false)], args := [d] }
  | _ => none }
def PacketPlacesWrongFalsely : Prop := packetPlacesRow.holds Try.pinned (OpenSpec.ofChange packetPlacesWrong)

/-- 'towpathlaw13.PacketTurned': WHATEVER THE INPUT: true; the input reads as it did. -/
def packetTurnedSpec : ChangeSpec := { name := "packetTurned", fn := fun _ => fun
  | [d1, d2, d3] => { results := [.lit (.bool true)], args := [d1, d2, d3] }
  | _ => none }
def packetTurnedRow : OpenClaim := { program := "ytgoonnlgjjgkiaa", sum := "e4dcfd49c199987db600faa4604513c473de057ed1315c2fdbe54850c2748735", func := "towpath/towpathlaw13.PacketTurned", spec := "packetTurned", apart := false }
def PacketTurnedSaid : Prop := packetTurnedRow.holds Try.pinned (OpenSpec.ofChange packetTurnedSpec)

/-- ITS FALSE NEIGHBOUR: 'it returns false'. Refute it at one input. -/
def packetTurnedWrong : ChangeSpec := { name := "packetTurned", fn := fun _ => fun
  | [d1, d2, d3] => { results := [.lit (.bool false)], args := [d1, d2, d3] }
  | _ => none }
def PacketTurnedWrongFalsely : Prop := packetTurnedRow.holds Try.pinned (OpenSpec.ofChange packetTurnedWrong)

/-- 'towpathlaw14.ErrorTells': WHATEVER THE INPUT: true; the input reads as it did. -/
def errorTellsSpec : ChangeSpec := { name := "errorTells", fn := fun _ => fun
  | [d1, d2, d3, d4] => { results := [.lit (.bool true)], args := [d1, d2, d3, d4] }
  | _ => none }
def errorTellsRow : OpenClaim := { program := "ytgoonnlgjjgkiaa", sum := "e4dcfd49c199987db600faa4604513c473de057ed1315c2fdbe54850c2748735", func := "towpath/towpathlaw14.ErrorTells", spec := "errorTells", apart := false }
def ErrorTellsSaid : Prop := errorTellsRow.holds Try.pinned (OpenSpec.ofChange errorTellsSpec)

/-- ITS FALSE NEIGHBOUR: 'it returns false'. Refute it at one input. -/
def errorTellsWrong : ChangeSpec := { name := "errorTells", fn := fun _ => fun
  | [d1, d2, d3, d4] => { results := [.lit (.bool false)], args := [d1, d2, d3, d4] }
  | _ => none }
def ErrorTellsWrongFalsely : Prop := errorTellsRow.holds Try.pinned (OpenSpec.ofChange errorTellsWrong)

/-- 'towpathlaw14.ErrorReads': WHATEVER THE INPUT: true; the input reads as it did. -/
def errorReadsSpec : ChangeSpec := { name := "errorReads", fn := fun _ => fun
  | [d1, d2, d3, d4, d5, d6] => { results := [.lit (.bool true)], args := [d1, d2, d3, d4, d5, d6] }
  | _ => none }
def errorReadsRow : OpenClaim := { program := "ytgoonnlgjjgkiaa", sum := "e4dcfd49c199987db600faa4604513c473de057ed1315c2fdbe54850c2748735", func := "towpath/towpathlaw14.ErrorReads", spec := "errorReads", apart := false }
def ErrorReadsSaid : Prop := errorReadsRow.holds Try.pinned (OpenSpec.ofChange errorReadsSpec)

/-- ITS FALSE NEIGHBOUR: 'it returns false'. Refute it at one input. -/
def errorReadsWrong : ChangeSpec := { name := "errorReads", fn := fun _ => fun
  | [d1, d2, d3, d4, d5, d6] => { results := [.lit (.bool false)], args := [d1, d2, d3, d4, d5, d6] }
  | _ => none }
def ErrorReadsWrongFalsely : Prop := errorReadsRow.holds Try.pinned (OpenSpec.ofChange errorReadsWrong)

/- THE SECOND FORM. 'bulk': how many values and letters a reading holds, each counted each time it is reached (what is shared counts as often as it is met; a slice's spare places count too). A statement '..UptoSaid' is the law's where the arguments, and the package variables that the reading takes, are together of bulk at most 1048576: NARROWER than '..Said'. Prove '..Said' where nothing that the law and all that it calls make is longer than what came in: it says more and counts as full. Else prove '..UptoSaid'. A law counts once. -/
mutual
def uptoBulk {H : Type} : DataW H → Nat
  | .lit (.string bytes) => bytes.length + 1
  | .lit _ => 1
  | .nil => 1
  | .ptr d => uptoBulk d + 1
  | .slice elems spare => uptoBulkAll elems + uptoBulkAll spare + 1
  | .agg parts => uptoBulkAll parts + 1
  | .iface _ d => uptoBulk d + 1
  | .map entries => uptoBulkEntries entries + 1
  | .held _ => 1
def uptoBulkAll {H : Type} : List (DataW H) → Nat
  | [] => 0
  | d :: r => uptoBulk d + uptoBulkAll r
def uptoBulkEntries {H : Type} : List (Lit × DataW H) → Nat
  | [] => 0
  | x :: r => uptoBulkEntry x + uptoBulkEntries r
def uptoBulkEntry {H : Type} : Lit × DataW H → Nat
  | (.string bytes, d) => bytes.length + uptoBulk d + 1
  | (_, d) => uptoBulk d + 1
 end
def uptoSmall : (H : Type) → List (DataW H) → Bool := fun _ ds => decide (uptoBulkAll ds ≤ 1048576)
def OpenSpec.upto (s : _root_.Go.ChangeSpec) : _root_.Go.OpenSpec := { _root_.Go.OpenSpec.ofChange s with cond := some uptoSmall }

/-- 'towpathlaw13.PacketBack', WHERE WHAT IT READS IS OF BULK AT MOST 1048576: true; the input reads as it did. -/
def packetBackUptoRow : OpenClaim := { program := "ytgoonnlgjjgkiaa", sum := "e4dcfd49c199987db600faa4604513c473de057ed1315c2fdbe54850c2748735", func := "towpath/towpathlaw13.PacketBack", spec := "packetBack", apart := false, narrowed := true }
def PacketBackUptoSaid : Prop := packetBackUptoRow.holds Try.pinned (OpenSpec.upto packetBackSpec)

/-- 'towpathlaw13.PacketReads', WHERE WHAT IT READS IS OF BULK AT MOST 1048576: true; the input reads as it did. -/
def packetReadsUptoRow : OpenClaim := { program := "ytgoonnlgjjgkiaa", sum := "e4dcfd49c199987db600faa4604513c473de057ed1315c2fdbe54850c2748735", func := "towpath/towpathlaw13.PacketReads", spec := "packetReads", apart := false, narrowed := true }
def PacketReadsUptoSaid : Prop := packetReadsUptoRow.holds Try.pinned (OpenSpec.upto packetReadsSpec)

/-- 'towpathlaw13.PacketSums', WHERE WHAT IT READS IS OF BULK AT MOST 1048576: true; the input reads as it did. -/
def packetSumsUptoRow : OpenClaim := { program := "ytgoonnlgjjgkiaa", sum := "e4dcfd49c199987db600faa4604513c473de057ed1315c2fdbe54850c2748735", func := "towpath/towpathlaw13.PacketSums", spec := "packetSums", apart := false, narrowed := true }
def PacketSumsUptoSaid : Prop := packetSumsUptoRow.holds Try.pinned (OpenSpec.upto packetSumsSpec)

/-- 'towpathlaw13.PacketHops', WHERE WHAT IT READS IS OF BULK AT MOST 1048576: true; the input reads as it did. -/
def packetHopsUptoRow : OpenClaim := { program := "ytgoonnlgjjgkiaa", sum := "e4dcfd49c199987db600faa4604513c473de057ed1315c2fdbe54850c2748735", func := "towpath/towpathlaw13.PacketHops", spec := "packetHops", apart := false, narrowed := true }
def PacketHopsUptoSaid : Prop := packetHopsUptoRow.holds Try.pinned (OpenSpec.upto packetHopsSpec)

/-- 'towpathlaw13.PacketLong', WHERE WHAT IT READS IS OF BULK AT MOST 1048576: true; the input reads as it did. -/
def packetLongUptoRow : OpenClaim := { program := "ytgoonnlgjjgkiaa", sum := "e4dcfd49c199987db600faa4604513c473de057ed1315c2fdbe54850c2748735", func := "towpath/towpathlaw13.PacketLong", spec := "packetLong", apart := false, narrowed := true }
def PacketLongUptoSaid : Prop := packetLongUptoRow.holds Try.pinned (OpenSpec.upto packetLongSpec)

/-- 'towpathlaw13.PacketPlaces', WHERE WHAT IT READS IS OF BULK AT MOST 1048576: true; the input reads as it did. -/
def packetPlacesUptoRow : OpenClaim := { program := "ytgoonnlgjjgkiaa", sum := "e4dcfd49c199987db600faa4604513c473de057ed1315c2fdbe54850c2748735", func := "towpath/towpathlaw13.PacketPlaces", spec := "packetPlaces", apart := false, narrowed := true }
def PacketPlacesUptoSaid : Prop := packetPlacesUptoRow.holds Try.pinned (OpenSpec.upto packetPlacesSpec)

/-- 'towpathlaw13.PacketTurned', WHERE WHAT IT READS IS OF BULK AT MOST 1048576: true; the input reads as it did. -/
def packetTurnedUptoRow : OpenClaim := { program := "ytgoonnlgjjgkiaa", sum := "e4dcfd49c199987db600faa4604513c473de057ed1315c2fdbe54850c2748735", func := "towpath/towpathlaw13.PacketTurned", spec := "packetTurned", apart := false, narrowed := true }
def PacketTurnedUptoSaid : Prop := packetTurnedUptoRow.holds Try.pinned (OpenSpec.upto packetTurnedSpec)

/-- 'towpathlaw14.ErrorTells', WHERE WHAT IT READS IS OF BULK AT MOST 1048576: true; the input reads as it did. -/
def errorTellsUptoRow : OpenClaim := { program := "ytgoonnlgjjgkiaa", sum := "e4dcfd49c199987db600faa4604513c473de057ed1315c2fdbe54850c2748735", func := "towpath/towpathlaw14.ErrorTells", spec := "errorTells", apart := false, narrowed := true }
def ErrorTellsUptoSaid : Prop := errorTellsUptoRow.holds Try.pinned (OpenSpec.upto errorTellsSpec)

/-- 'towpathlaw14.ErrorReads', WHERE WHAT IT READS IS OF BULK AT MOST 1048576: true; the input reads as it did. -/
def errorReadsUptoRow : OpenClaim := { program := "ytgoonnlgjjgkiaa", sum := "e4dcfd49c199987db600faa4604513c473de057ed1315c2fdbe54850c2748735", func := "towpath/towpathlaw14.ErrorReads", spec := "errorReads", apart := false, narrowed := true }
def ErrorReadsUptoSaid : Prop := errorReadsUptoRow.holds Try.pinned (OpenSpec.upto errorReadsSpec)

end Rows
end Go.Proofs.Ytgoonnlgjjgkiaa
