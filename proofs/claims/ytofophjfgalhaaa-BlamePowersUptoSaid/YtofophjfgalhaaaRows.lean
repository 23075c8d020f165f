/-
  No cell of these rows narrows 'for every input' (looked for: loops, veiled, ifaces, maps, wideKeys, modest, calm, conditions, laid).
  DERIVED. THE GIVEN ROWS OF THIS SEAT. 5 by the template 'for every input the law returns true; each argument reads behind the call as it read before'; 0 by the template 'total and deterministic' (their statements: YtofophjfgalhaaaTotals.lean).
  GIVEN WITH THE SEED: the statements are not yours to turn. If you find one false, say at which input.
  Laid BY PROGRAM, IN A SANDBOX (cutbox-rows.mjs): the forced cells as the released guide's own fill.sh prints them over the translation 422662a4ed2629f9… (all of the seat's roots in one cut). By AI agents, Wed Nov 11 2026. No macro, syntax, notation, axiom, sorry.
-/
import Derived.Test.YtofophjfgalhaaaChecked
import GoSem.Claim
import GoSem.ClaimJoined
import GoSem.ClaimMapViews
import Derived.JoinedTies
import Derived.KernelRfl
namespace Go.Proofs.Ytofophjfgalhaaa
/- THE CELL 'sum', in the pinned program and in every row, IS THE sha256 OF THE DUMP (.gsa) THAT YtofophjfgalhaaaProg.lean LOADS. Nothing in Lean hashes anything: it is a label: what it is worth is what the hold of that sum in a sandbox is worth. -/
noncomputable def Try.pinned : Pinned := { name := "ytofophjfgalhaaa", sum := "422662a4ed2629f9f4dc39c938172a406fa2414dcfacda898f5869f51f8b953b", checked := Try.checked }
namespace Rows
def none {H : Type} : Left H := { results := [], args := [] }

/-- 'assentlaw10.TallyNames': WHATEVER THE INPUT: true; the input reads as it did. -/
def tallyNamesSpec : ChangeSpec := { name := "tallyNames", fn := fun _ => fun
  | [] => { results := [.lit (.bool true)], args := [] }
  | _ => none }
def tallyNamesRow : OpenClaim := { program := "ytofophjfgalhaaa", sum := "422662a4ed2629f9f4dc39c938172a406fa2414dcfacda898f5869f51f8b953b", func := "assent/assentlaw10.TallyNames", spec := "tallyNames", plainKeys := false, apart := false }
def TallyNamesSaid : Prop := tallyNamesRow.holds Try.pinned (OpenSpec.ofChange tallyNamesSpec)

/-- ITS FALSE NEIGHBOUR: 'it returns false'. Refute it at one input. -/
def tallyNamesWrong : ChangeSpec := { name := "tallyNames", fn := fun _ => fun
  | [] => { results := [.lit (.bool false)], args := [] }
  | _ => none }
def TallyNamesWrongFalsely : Prop := tallyNamesRow.holds Try.pinned (OpenSpec.ofChange tallyNamesWrong)

/-- 'assentlaw14.EngineNames': WHATEVER THE INPUT: true; the input reads as it did. -/
def engineNamesSpec : ChangeSpec := { name := "engineNames", fn := fun _ => fun
  | [] => { results := [.lit (.bool true)], args := [] }
  | _ => none }
def engineNamesRow : OpenClaim := { program := "ytofophjfgalhaaa", sum := "422662a4ed2629f9f4dc39c938172a406fa2414dcfacda898f5869f51f8b953b", func := "assent/assentlaw14.EngineNames", spec := "engineNames", plainKeys := false, apart := false }
def EngineNamesSaid : Prop := engineNamesRow.holds Try.pinned (OpenSpec.ofChange engineNamesSpec)

/-- ITS FALSE NEIGHBOUR: 'it returns false'. Refute it at one input. -/
def engineNamesWrong : ChangeSpec := { name := "engineNames", fn := fun _ => fun
  | [] => { results := [.lit (.bool false)], args := [] }
  | _ => none }
def EngineNamesWrongFalsely : Prop := engineNamesRow.holds Try.pinned (OpenSpec.ofChange engineNamesWrong)

/-- 'assentlaw17.BlameNumbers': WHATEVER THE INPUT: true; the input reads as it did. -/
def blameNumbersSpec : ChangeSpec := { name := "blameNumbers", fn := fun _ => fun
  | [] => { results := [.lit (.bool true)], args := [] }
  | _ => none }
def blameNumbersRow : OpenClaim := { program := "ytofophjfgalhaaa", sum := "422662a4ed2629f9f4dc39c938172a406fa2414dcfacda898f5869f51f8b953b", func := "assent/assentlaw17.BlameNumbers", spec := "blameNumbers", plainKeys := false, apart := false }
def BlameNumbersSaid : Prop := blameNumbersRow.holds Try.pinned (OpenSpec.ofChange blameNumbersSpec)

/-- ITS FALSE NEIGHBOUR: 'it returns false'. Refute it at one input. -/
def blameNumbersWrong : ChangeSpec := { name := "blameNumbers", fn := fun _ => fun
  | [] => { results := [.lit (.bool false)], args := [] }
  | _ => none }
def BlameNumbersWrongFalsely : Prop := blameNumbersRow.holds Try.pinned (OpenSpec.ofChange blameNumbersWrong)

/-- 'assentlaw11.MisdeedPairs': WHATEVER THE INPUT: true; the input reads as it did. -/
def misdeedPairsSpec : ChangeSpec := { name := "misdeedPairs", fn := fun _ => fun
  | [d1, d2] => { results := [.lit (.bool true)], args := [d1, d2] }
  | _ => none }
def misdeedPairsRow : OpenClaim := { program := "ytofophjfgalhaaa", sum := "422662a4ed2629f9f4dc39c938172a406fa2414dcfacda898f5869f51f8b953b", func := "assent/assentlaw11.MisdeedPairs", spec := "misdeedPairs", inPlace := ["internal/bytealg.Compare"], plainKeys := false, apart := false }
def MisdeedPairsSaid : Prop := misdeedPairsRow.holds Try.pinned (OpenSpec.ofChange misdeedPairsSpec)

/-- ITS FALSE NEIGHBOUR: 'it returns false'. Refute it at one input. -/
def misdeedPairsWrong : ChangeSpec := { name := "misdeedPairs", fn := fun _ => fun
  | [d1, d2] => { results := [.lit (.bool false)], args := [d1, d2] }
  | _ => none }
def MisdeedPairsWrongFalsely : Prop := misdeedPairsRow.holds Try.pinned (OpenSpec.ofChange misdeedPairsWrong)

/-- 'assentlaw17.BlamePowers': WHATEVER THE INPUT: true; the input reads as it did. -/
def blamePowersSpec : ChangeSpec := { name := "blamePowers", fn := fun _ => fun
  | [d1, d2] => { results := [.lit (.bool true)], args := [d1, d2] }
  | _ => none }
def blamePowersRow : OpenClaim := { program := "ytofophjfgalhaaa", sum := "422662a4ed2629f9f4dc39c938172a406fa2414dcfacda898f5869f51f8b953b", func := "assent/assentlaw17.BlamePowers", spec := "blamePowers", unfollowed := true, recurses := true, plainKeys := false, apart := false }
def BlamePowersSaid : Prop := blamePowersRow.holds Try.pinned (OpenSpec.ofChange blamePowersSpec)

/-- ITS FALSE NEIGHBOUR: 'it returns false'. Refute it at one input. -/
def blamePowersWrong : ChangeSpec := { name := "blamePowers", fn := fun _ => fun
  | [d1, d2] => { results := [.lit (.bool false)], args := [d1, d2] }
  | _ => none }
def BlamePowersWrongFalsely : Prop := blamePowersRow.holds Try.pinned (OpenSpec.ofChange blamePowersWrong)

/- THE SECOND FORM. 'bulk': how many values and letters a reading holds, each counted each time it is reached (what is shared counts as often as it is met; a slice's spare places count too). A statement '..UptoSaid' is the law's where the arguments, and the package variables that the reading takes, are together of bulk at most 1048576: NARROWER than '..Said'. Prove '..Said' where nothing that the law and all that it calls make is longer than what came in: it says more and counts as full. Else prove '..UptoSaid'. A law counts once. -/
mutual
def uptoBulk {H : Type} : DataW H → Nat
  | .lit (.string bytes) => bytes.length + 1
  | .lit _ => 1
  | .nil => 1
  | .ptr d => uptoBulk d + 1
  | .slice elems spare => uptoBulkAll elems + uptoBulkAll spare + 1
  | .agg parts => uptoBulkAll parts + 1
  | .iface _ d => uptoBulk d + 1
  | .map entries => uptoBulkEntries entries + 1
  | .held _ => 1
def uptoBulkAll {H : Type} : List (DataW H) → Nat
  | [] => 0
  | d :: r => uptoBulk d + uptoBulkAll r
def uptoBulkEntries {H : Type} : List (Lit × DataW H) → Nat
  | [] => 0
  | x :: r => uptoBulkEntry x + uptoBulkEntries r
def uptoBulkEntry {H : Type} : Lit × DataW H → Nat
  | (.string bytes, d) => bytes.length + uptoBulk d + 1
  | (_, d) => uptoBulk d + 1
 end
def uptoSmall : (H : Type) → List (DataW H) → Bool := fun _ ds => decide (uptoBulkAll ds ≤ 1048576)
def OpenSpec.upto (s : _root_.Go.ChangeSpec) : _root_.Go.OpenSpec := { _root_.Go.OpenSpec.ofChange s with cond := some uptoSmall }

/-- 'assentlaw10.TallyNames', WHERE WHAT IT READS IS OF BULK AT MOST 1048576: true; the input reads as it did. -/
def tallyNamesUptoRow : OpenClaim := { program := "ytofophjfgalhaaa", sum := "422662a4ed2629f9f4dc39c938172a406fa2414dcfacda898f5869f51f8b953b", func := "assent/assentlaw10.TallyNames", spec := "tallyNames", plainKeys := false, apart := false, narrowed := true }
def TallyNamesUptoSaid : Prop := tallyNamesUptoRow.holds Try.pinned (OpenSpec.upto tallyNamesSpec)

/-- 'assentlaw14.EngineNames', WHERE WHAT IT READS IS OF BULK AT MOST 1048576: true; the input reads as it did. -/
def engineNamesUptoRow : OpenClaim := { program := "ytofophjfgalhaaa", sum := "422662a4ed2629f9f4dc39c938172a406fa2414dcfacda898f5869f51f8b953b", func := "assent/assentlaw14.EngineNames", spec := "engineNames", plainKeys := false, apart := false, narrowed := true }
def EngineNamesUptoSaid : Prop := engineNamesUptoRow.holds Try.pinned (OpenSpec.upto engineNamesSpec)

/-- 'assentlaw17.BlameNumbers', WHERE WHAT IT READS IS OF BULK AT MOST 1048576: true; the input reads as it did. -/
def blameNumbersUptoRow : OpenClaim := { program := "ytofophjfgalhaaa", sum := "422662a4ed2629f9f4dc39c938172a406fa2414dcfacda898f5869f51f8b953b", func := "assent/assentlaw17.BlameNumbers", spec := "blameNumbers", plainKeys := false, apart := false, narrowed := true }
def BlameNumbersUptoSaid : Prop := blameNumbersUptoRow.holds Try.pinned (OpenSpec.upto blameNumbersSpec)

/-- 'assentlaw11.MisdeedPairs', WHERE WHAT IT READS IS OF BULK AT MOST 1048576: true; the input reads as it did. -/
def misdeedPairsUptoRow : OpenClaim := { program := "ytofophjfgalhaaa", sum := "422662a4ed2629f9f4dc39c938172a406fa2414dcfacda898f5869f51f8b953b", func := "assent/assentlaw11.MisdeedPairs", spec := "misdeedPairs", inPlace := ["internal/bytealg.Compare"], plainKeys := false, apart := false, narrowed := true }
def MisdeedPairsUptoSaid : Prop := misdeedPairsUptoRow.holds Try.pinned (OpenSpec.upto misdeedPairsSpec)

/-- 'assentlaw17.BlamePowers', WHERE WHAT IT READS IS OF BULK AT MOST 1048576: true; the input reads as it did. -/
def blamePowersUptoRow : OpenClaim := { program := "ytofophjfgalhaaa", sum := "422662a4ed2629f9f4dc39c938172a406fa2414dcfacda898f5869f51f8b953b", func := "assent/assentlaw17.BlamePowers", spec := "blamePowers", unfollowed := true, recurses := true, plainKeys := false, apart := false, narrowed := true }
def BlamePowersUptoSaid : Prop := blamePowersUptoRow.holds Try.pinned (OpenSpec.upto blamePowersSpec)

end Rows
end Go.Proofs.Ytofophjfgalhaaa
