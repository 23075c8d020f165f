/- The Go function of this statement, assentlaw11.MisdeedPools, returns true at all states, lists of those entered, lists of pairs and scripts of bulk at most 1048576; its arguments read as they did (the card's tie lays the listed package variables). -/
import Derived.Test.YtofophjfgalhaaaGreatDoorRows
import Derived.Test.YtofophjfgalhaaaGreatDoorCards
import Derived.Test.YtofophjfgalhaaaGreatDoorTie
import Derived.Test.YtofophjfgalhaaaGreatDoorMisdeedPoolsW40
import Derived.Test.YtofophjfgalhaaaGreatDoorMisdeedPoolsW12
import Derived.WalkKit
import Derived.ProofKit
import Derived.LaidMore
import Derived.OpenShut
import Derived.Stop.Joined
import Derived.SevenTiedAt
import Derived.SizedLaws
import Derived.Carry
import Derived.JoinedCond
import Derived.Test.YtofophjfgalhaaaGreatDoorMisdeedPoolsW17
namespace Go.Proofs.YtofophjfgalhaaaGreatDoor.misdeedPools
open Go.ChangeShapes Go.WideShapes Go.ChangeAt Go.RowKit Go.Proofs.YtofophjfgalhaaaGreatDoor.V
set_option linter.unusedVariables false
set_option maxRecDepth 100000

theorem p1 : joinedFacts Tryz.pinned.checked.prog 7 Tryz.f7 (Rows.OpenSpec.upto Rows.misdeedPoolsSpec).bare Rows.misdeedPoolsUptoRow = true := by kernel_rfl
theorem p2 : Tryz.pinned.checked.prog.funcNamed Rows.misdeedPoolsUptoRow.func = some 7 := by kernel_rfl
theorem p3 : Tryz.f7.isInstance Tryz.pinned.checked.prog Rows.misdeedPoolsUptoRow.origin Rows.misdeedPoolsUptoRow.targs := of_decide_eq_true (by kernel_rfl)
theorem p4 : Tryz.f7.isWrapper Tryz.pinned.checked.prog Rows.misdeedPoolsUptoRow.wrapper Rows.misdeedPoolsUptoRow.mainSum := by unfold Func.isWrapper; first | (rw [if_pos (by decide +kernel)]; kernel_rfl) | (rw [if_neg (by decide +kernel)]; exact ⟨rfl, rfl⟩)
theorem p5 (os : Os) (started : os.Started) (H : Type) (enc : TypeId × Value → H) (F : Stop.Interp) : ReturnsInHanded Rows.misdeedPoolsUptoRow.assume Tryz.pinned.checked os 7 .any (Rows.misdeedPoolsUptoRow.pre enc Tryz.pinned.checked.prog Tryz.f7 (Rows.OpenSpec.upto Rows.misdeedPoolsSpec)) (((Rows.OpenSpec.upto Rows.misdeedPoolsSpec).at F).post enc Tryz.pinned.checked.prog Tryz.f7 Rows.misdeedPoolsUptoRow.apart Rows.misdeedPoolsUptoRow.fresh Rows.misdeedPoolsUptoRow.handsOn Rows.misdeedPoolsUptoRow.again) := lifted os started H enc F
theorem p6 : Tryz.pinned.checked.prog.funcs[7]? = some Tryz.f7 := Tryz.func7
theorem over : Rows.MisdeedPoolsUptoSaid :=
  OpenClaim.holds_of_cond 7 Tryz.f7 rfl rfl rfl rfl rfl rfl rfl ⟨rfl, rfl, rfl, rfl, rfl⟩ rfl rfl rfl rfl rfl p2 p6 p1 p3 p4 (fun os started H enc _ F => p5 os started H enc F)

theorem proved : Rows.MisdeedPoolsUptoCardSaid :=
  Claim7.holds_tied_plain_at .later [] [.data, .data, .data] true Rows.misdeedPoolsUptoCard.stood.harness false
    over (fun _ h => by cases h) (by kernel_rfl) (fun _ h => by cases h) misdeedPoolsUpto_row_tie rfl ⟨rfl, rfl⟩ (by kernel_rfl) rfl
    (fun f fn hf hfn => by
      obtain rfl : f = 7 := Option.some.inj ((show Tryz.prog.funcNamed "assent/assentlaw11.MisdeedPools" = some 7 by kernel_rfl).symm.trans hf) |>.symm
      obtain rfl : fn = Tryz.f7 := (Option.some.inj (Tryz.func7.symm.trans hfn)).symm
      exact ⟨by kernel_rfl, fun j t ht => by
        rw [Tryz.params7] at ht
        have hm : t ∈ [129, 38, 130, 131] := by simpa using Array.mem_of_getElem? ht
        have hall : ([129, 38, 130, 131].all fun u => !Tryz.prog.wantsStandIn u) = true := by kernel_rfl
        exact (show Tryz.prog.wantsStandIn t = false by simpa using List.all_eq_true.1 hall t hm)⟩)
    (by kernel_rfl)
#print axioms proved
end Go.Proofs.YtofophjfgalhaaaGreatDoor.misdeedPools
