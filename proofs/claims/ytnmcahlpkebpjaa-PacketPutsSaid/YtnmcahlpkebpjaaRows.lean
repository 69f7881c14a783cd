/-
  No cell of these rows narrows 'for every input' (looked for: loops, veiled, ifaces, maps, wideKeys, modest, calm, conditions, laid).
  DERIVED. THE GIVEN ROWS OF THIS SEAT. 5 by the template 'for every input the law returns true; each argument reads behind the call as it read before'; 0 by the template 'total and deterministic' (their statements: YtnmcahlpkebpjaaTotals.lean).
  GIVEN WITH THE SEED: the statements are not yours to turn. If you find one false, say at which input.
  Laid BY PROGRAM, IN A SANDBOX (cutbox-rows.mjs): the forced cells as the released guide's own fill.sh prints them over the translation 900ac73710c645bb… (all of the seat's roots in one cut). By AI agents, Wed Nov 11 2026. No macro, syntax, notation, axiom, sorry.
-/
import Derived.Test.YtnmcahlpkebpjaaChecked
import GoSem.Claim
import GoSem.ClaimJoined
import GoSem.ClaimMapViews
import Derived.JoinedTies
import Derived.KernelRfl
namespace Go.Proofs.Ytnmcahlpkebpjaa
/- THE CELL 'sum', in the pinned program and in every row, IS THE sha256 OF THE DUMP (.gsa) THAT YtnmcahlpkebpjaaProg.lean LOADS. Nothing in Lean hashes anything: it is a label: what it is worth is what the hold of that sum in a sandbox is worth. -/
noncomputable def Try.pinned : Pinned := { name := "ytnmcahlpkebpjaa", sum := "900ac73710c645bbca87ffdd82ec789623bbd37d366a8f177d4152468d3c0936", checked := Try.checked }
namespace Rows
def none {H : Type} : Left H := { results := [], args := [] }

/-- 'funicularlaw17.PacketPuts': WHATEVER THE INPUT: true; the input reads as it did. -/
def packetPutsSpec : ChangeSpec := { name := "packetPuts", fn := fun _ => fun
  | [d] => { results := [.lit (.bool true)], args := [d] }
  | _ => none }
def packetPutsRow : OpenClaim := { program := "ytnmcahlpkebpjaa", sum := "900ac73710c645bbca87ffdd82ec789623bbd37d366a8f177d4152468d3c0936", func := "funicular/funicularlaw17.PacketPuts", spec := "packetPuts", unfollowed := true, recurses := true, apart := false }
def PacketPutsSaid : Prop := packetPutsRow.holds Try.pinned (OpenSpec.ofChange packetPutsSpec)

/-- ITS FALSE NEIGHBOUR: 'it returns false'. Refute it at one input. -/
def packetPutsWrong : ChangeSpec := { name := "packetPuts", fn := fun _ => fun
  | [d] => { results := [.lit (.bool false)], args := [d] }
  | _ => none }
def PacketPutsWrongFalsely : Prop := packetPutsRow.holds Try.pinned (OpenSpec.ofChange packetPutsWrong)

/-- 'funicularlaw17.PacketBack': WHATEVER THE INPUT: true; the input reads as it did. -/
def packetBackSpec : ChangeSpec := { name := "packetBack", fn := fun _ => fun
  | [d] => { results := [.lit (.bool true)], args := [d] }
  | _ => none }
def packetBackRow : OpenClaim := { program := "ytnmcahlpkebpjaa", sum := "900ac73710c645bbca87ffdd82ec789623bbd37d366a8f177d4152468d3c0936", func := "funicular/funicularlaw17.PacketBack", spec := "packetBack", unfollowed := true, recurses := true, apart := false }
def PacketBackSaid : Prop := packetBackRow.holds Try.pinned (OpenSpec.ofChange packetBackSpec)

/-- ITS FALSE NEIGHBOUR: 'it returns false'. Refute it at one input. -/
def packetBackWrong : ChangeSpec := { name := "packetBack", fn := fun _ => fun
  | [d] => { results := [.lit (.bool false)], args := [d] }
  | _ => none }
def PacketBackWrongFalsely : Prop := packetBackRow.holds Try.pinned (OpenSpec.ofChange packetBackWrong)

/-- 'funicularlaw17.PacketOnce': WHATEVER THE INPUT: true; the input reads as it did. -/
def packetOnceSpec : ChangeSpec := { name := "packetOnce", fn := fun _ => fun
  | [d] => { results := [.lit (.bool true)], args := [d] }
  | _ => none }
def packetOnceRow : OpenClaim := { program := "ytnmcahlpkebpjaa", sum := "900ac73710c645bbca87ffdd82ec789623bbd37d366a8f177d4152468d3c0936", func := "funicular/funicularlaw17.PacketOnce", spec := "packetOnce", unfollowed := true, recurses := true, apart := false }
def PacketOnceSaid : Prop := packetOnceRow.holds Try.pinned (OpenSpec.ofChange packetOnceSpec)

/-- ITS FALSE NEIGHBOUR: 'it returns false'. Refute it at one input. -/
def packetOnceWrong : ChangeSpec := { name := "packetOnce", fn := fun _ => fun
  | [d] => { results := [.lit (.bool false)], args := [d] }
  | _ => none }
def PacketOnceWrongFalsely : Prop := packetOnceRow.holds Try.pinned (OpenSpec.ofChange packetOnceWrong)

/-- 'funicularlaw17.PacketTurned': WHATEVER THE INPUT: true; the input reads as it did. -/
def packetTurnedSpec : ChangeSpec := { name := "packetTurned", fn := fun _ => fun
  | [d1, d2, d3] => { results := [.lit (.bool true)], args := [d1, d2, d3] }
  | _ => none }
def packetTurnedRow : OpenClaim := { program := "ytnmcahlpkebpjaa", sum := "900ac73710c645bbca87ffdd82ec789623bbd37d366a8f177d4152468d3c0936", func := "funicular/funicularlaw17.PacketTurned", spec := "packetTurned", unfollowed := true, recurses := true, apart := false }
def PacketTurnedSaid : Prop := packetTurnedRow.holds Try.pinned (OpenSpec.ofChange packetTurnedSpec)

/-- ITS FALSE NEIGHBOUR: 'it returns false'. Refute it at one input. -/
def packetTurnedWrong : ChangeSpec := { name := "packetTurned", fn := fun _ => fun
  | [d1, d2, d3] => { results := [.lit (.bool false)], args := [d1, d2, d3] }
  | _ => none }
def PacketTurnedWrongFalsely : Prop := packetTurnedRow.holds Try.pinned (OpenSpec.ofChange packetTurnedWrong)

/-- 'funicularlaw17.PacketTogether': WHATEVER THE INPUT: true; the input reads as it did. -/
def packetTogetherSpec : ChangeSpec := { name := "packetTogether", fn := fun _ => fun
  | [d1, d2] => { results := [.lit (.bool true)], args := [d1, d2] }
  | _ => none }
def packetTogetherRow : OpenClaim := { program := "ytnmcahlpkebpjaa", sum := "900ac73710c645bbca87ffdd82ec789623bbd37d366a8f177d4152468d3c0936", func := "funicular/funicularlaw17.PacketTogether", spec := "packetTogether", unfollowed := true, recurses := true, apart := false }
def PacketTogetherSaid : Prop := packetTogetherRow.holds Try.pinned (OpenSpec.ofChange packetTogetherSpec)

/-- ITS FALSE NEIGHBOUR: 'it returns false'. Refute it at one input. -/
def packetTogetherWrong : ChangeSpec := { name := "packetTogether", fn := fun _ => fun
  | [d1, d2] => { results := [.lit (.bool false)], args := [d1, d2] }
  | _ => none }
def PacketTogetherWrongFalsely : Prop := packetTogetherRow.holds Try.pinned (OpenSpec.ofChange packetTogetherWrong)

/- THE SECOND FORM. 'bulk': how many values and letters a reading holds, each counted each time it is reached (what is shared counts as often as it is met; a slice's spare places count too). A statement '..UptoSaid' is the law's where the arguments, and the package variables that the reading takes, are together of bulk at most 1048576: NARROWER than '..Said'. Prove '..Said' where nothing that the law and all that it calls make is longer than what came in: it says more and counts as full. Else prove '..UptoSaid'. A law counts once. -/
mutual
def uptoBulk {H : Type} : DataW H → Nat
  | .lit (.string bytes) => bytes.length + 1
  | .lit _ => 1
  | .nil => 1
  | .ptr d => uptoBulk d + 1
  | .slice elems spare => uptoBulkAll elems + uptoBulkAll spare + 1
  | .agg parts => uptoBulkAll parts + 1
  | .iface _ d => uptoBulk d + 1
  | .map entries => uptoBulkEntries entries + 1
  | .held _ => 1
def uptoBulkAll {H : Type} : List (DataW H) → Nat
  | [] => 0
  | d :: r => uptoBulk d + uptoBulkAll r
def uptoBulkEntries {H : Type} : List (Lit × DataW H) → Nat
  | [] => 0
  | x :: r => uptoBulkEntry x + uptoBulkEntries r
def uptoBulkEntry {H : Type} : Lit × DataW H → Nat
  | (.string bytes, d) => bytes.length + uptoBulk d + 1
  | (_, d) => uptoBulk d + 1
 end
def uptoSmall : (H : Type) → List (DataW H) → Bool := fun _ ds => decide (uptoBulkAll ds ≤ 1048576)
def OpenSpec.upto (s : _root_.Go.ChangeSpec) : _root_.Go.OpenSpec := { _root_.Go.OpenSpec.ofChange s with cond := some uptoSmall }

/-- 'funicularlaw17.PacketPuts', WHERE WHAT IT READS IS OF BULK AT MOST 1048576: true; the input reads as it did. -/
def packetPutsUptoRow : OpenClaim := { program := "ytnmcahlpkebpjaa", sum := "900ac73710c645bbca87ffdd82ec789623bbd37d366a8f177d4152468d3c0936", func := "funicular/funicularlaw17.PacketPuts", spec := "packetPuts", unfollowed := true, recurses := true, apart := false, narrowed := true }
def PacketPutsUptoSaid : Prop := packetPutsUptoRow.holds Try.pinned (OpenSpec.upto packetPutsSpec)

/-- 'funicularlaw17.PacketBack', WHERE WHAT IT READS IS OF BULK AT MOST 1048576: true; the input reads as it did. -/
def packetBackUptoRow : OpenClaim := { program := "ytnmcahlpkebpjaa", sum := "900ac73710c645bbca87ffdd82ec789623bbd37d366a8f177d4152468d3c0936", func := "funicular/funicularlaw17.PacketBack", spec := "packetBack", unfollowed := true, recurses := true, apart := false, narrowed := true }
def PacketBackUptoSaid : Prop := packetBackUptoRow.holds Try.pinned (OpenSpec.upto packetBackSpec)

/-- 'funicularlaw17.PacketOnce', WHERE WHAT IT READS IS OF BULK AT MOST 1048576: true; the input reads as it did. -/
def packetOnceUptoRow : OpenClaim := { program := "ytnmcahlpkebpjaa", sum := "900ac73710c645bbca87ffdd82ec789623bbd37d366a8f177d4152468d3c0936", func := "funicular/funicularlaw17.PacketOnce", spec := "packetOnce", unfollowed := true, recurses := true, apart := false, narrowed := true }
def PacketOnceUptoSaid : Prop := packetOnceUptoRow.holds Try.pinned (OpenSpec.upto packetOnceSpec)

/-- 'funicularlaw17.PacketTurned', WHERE WHAT IT READS IS OF BULK AT MOST 1048576: true; the input reads as it did. -/
def packetTurnedUptoRow : OpenClaim := { program := "ytnmcahlpkebpjaa", sum := "900ac73710c645bbca87ffdd82ec789623bbd37d366a8f177d4152468d3c0936", func := "funicular/funicularlaw17.PacketTurned", spec := "packetTurned", unfollowed := true, recurses := true, apart := false, narrowed := true }
def PacketTurnedUptoSaid : Prop := packetTurnedUptoRow.holds Try.pinned (OpenSpec.upto packetTurnedSpec)

/-- 'funicularlaw17.PacketTogether', WHERE WHAT IT READS IS OF BULK AT MOST 1048576: true; the input reads as it did. -/
def packetTogetherUptoRow : OpenClaim := { program := "ytnmcahlpkebpjaa", sum := "900ac73710c645bbca87ffdd82ec789623bbd37d366a8f177d4152468d3c0936", func := "funicular/funicularlaw17.PacketTogether", spec := "packetTogether", unfollowed := true, recurses := true, apart := false, narrowed := true }
def PacketTogetherUptoSaid : Prop := packetTogetherUptoRow.holds Try.pinned (OpenSpec.upto packetTogetherSpec)

end Rows
end Go.Proofs.Ytnmcahlpkebpjaa
