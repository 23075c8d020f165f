/- The Go function of this statement, assentlaw11.MisdeedPicks, returns true at every state, every list of those entered and every list of pairs; its arguments read as they did (the card's tie lays the listed package variables; no other condition). -/
import Derived.Test.YtofophjfgalhaaaGreatDoorRows
import Derived.Test.YtofophjfgalhaaaGreatDoorCards
import Derived.Test.YtofophjfgalhaaaGreatDoorTie
import Derived.Test.YtofophjfgalhaaaGreatDoorMisdeedPicksW38
import Derived.Test.YtofophjfgalhaaaGreatDoorMisdeedPicksW13
import Derived.WalkKit
import Derived.ProofKit
import Derived.LaidMore
import Derived.OpenShut
import Derived.Stop.Joined
import Derived.SevenTiedAt
import Derived.SizedLaws
namespace Go.Proofs.YtofophjfgalhaaaGreatDoor.misdeedPicks
open Go.ChangeShapes Go.WideShapes Go.ChangeAt Go.RowKit Go.Proofs.YtofophjfgalhaaaGreatDoor.V
set_option linter.unusedVariables false
set_option maxRecDepth 100000

theorem own : ownKnob Tryz.prog.godebug = none := by kernel_rfl
def laid3 : List (String × DataW Unit) := [("assent/assentref02.adds", Rows.laid_assent_assentref02_adds), ("assent/digest.adds", Rows.laid_assent_digest_adds), ("assent/digest.begin", Rows.laid_assent_digest_begin)]
theorem door_met (os : Os) (args : Array Value) : laidMetH Tryz.prog laid3 ((World.doorLaid Tryz.prog 4000 os).forCall (fun _ _ => 0) ⟨#[], args, []⟩).memory :=
  laidMetH_of_parts3 (fuel := 8) (laidMet_of_run' 8 (by kernel_rfl) (by kernel_rfl)) (by kernel_rfl) (by kernel_rfl)
def numsOf : List (DataW Unit) → List Int
  | [] => []
  | .lit (.int _ z) :: r => z :: numsOf r
  | _ :: r => 0 :: numsOf r
def K : List Int := match (Rows.laid_assent_digest_adds : DataW Unit) with
  | .agg l => numsOf l
  | _ => []
theorem adds1 : (Rows.laid_assent_assentref02_adds : DataW Unit) = .agg (K.map fun z => .lit (.int .u32 z)) := by rfl
theorem adds2 : (Rows.laid_assent_digest_adds : DataW Unit) = .agg (K.map fun z => .lit (.int .u32 z)) := by rfl
theorem beg : (Rows.laid_assent_digest_begin : DataW Unit) = .agg (b0L.map fun z => .lit (.int .u32 z)) := by rfl
/-- the laid package variables, as entries -/
theorem laid_is {W : World} (h : laidMetH Tryz.prog laid3 W) : (Blk.var 2 (.ints .u32 64 K)).holds W ∧ (Blk.var 3 (.ints .u32 8 b0L)).holds W ∧ (Blk.var 4 (.ints .u32 64 K)).holds W := by
  rw [MakeChecks.laidMetH_plain _ _ _ (by kernel_rfl)] at h
  obtain ⟨ps, h, _⟩ := h
  obtain ⟨g1, t1, cs1, fu1, p1, q1, hg1, ht1, hv1, hd1, h, _⟩ := h
  obtain ⟨g2, t2, cs2, fu2, p2, q2, hg2, ht2, hv2, hd2, h, _⟩ := h
  obtain ⟨g3, t3, cs3, fu3, p3, q3, hg3, ht3, hv3, hd3, _⟩ := h
  obtain rfl : g1 = 2 := Option.some.inj (hg1.symm.trans (show Tryz.prog.globalNamed "assent/assentref02.adds" = some 2 by kernel_rfl))
  obtain rfl : g2 = 4 := Option.some.inj (hg2.symm.trans (show Tryz.prog.globalNamed "assent/digest.adds" = some 4 by kernel_rfl))
  obtain rfl : g3 = 3 := Option.some.inj (hg3.symm.trans (show Tryz.prog.globalNamed "assent/digest.begin" = some 3 by kernel_rfl))
  obtain rfl : t1 = 334 := Option.some.inj (ht1.symm.trans (show (Tryz.prog.globals[2]?).map (·.type) = some 334 by kernel_rfl))
  obtain rfl : t2 = 334 := Option.some.inj (ht2.symm.trans (show (Tryz.prog.globals[4]?).map (·.type) = some 334 by kernel_rfl))
  obtain rfl : t3 = 320 := Option.some.inj (ht3.symm.trans (show (Tryz.prog.globals[3]?).map (·.type) = some 320 by kernel_rfl))
  rw [adds1] at hd1
  rw [adds2] at hd2
  rw [beg] at hd3
  exact ⟨laid_ints hg1 Tryz.underlying334 Tryz.underlying65 (by kernel_rfl) (by kernel_rfl) (by decide) hv1 hd1, laid_ints hg3 Tryz.underlying320 Tryz.underlying65 (by kernel_rfl) (by kernel_rfl) (by decide) hv3 hd3, laid_ints hg2 Tryz.underlying334 Tryz.underlying65 (by kernel_rfl) (by kernel_rfl) (by decide) hv2 hd2⟩

theorem u64_of {av : AV} (h : wfA tb2 6 39 av) : av = .v (.int .u64 av.int1) ∧ av.one = true := by
  unfold wfA at h
  obtain ⟨x, rfl, _⟩ := (h : ∃ x, av = .v (.int .u64 x) ∧ (Lit.int .u64 x).wf = true)
  exact ⟨rfl, rfl⟩
def zeroS : StV := ⟨⟨#[]⟩, 0, 0, 0, 0, 0, 0, 0, 0, 0, 0, 0, 0, 0, 0, List.replicate 32 0, none, 0, 0, none, 0, 0, none, 0, 0, none, 0, 0, none, 0, 0, none, 0, 0, 0, 0⟩

theorem lifted (os : Os) (started : os.Started) (H : Type) (enc : TypeId × Value → H) :
    ReturnsInHanded {} Tryz.checked os 8 .any (fun w args => (Rows.misdeedPicksSpec.pre enc Tryz.prog Tryz.f8 [] false w args ∧ laidMetH Tryz.prog laid3 w) ∧ sizedMet enc Tryz.prog Tryz.f8 (OpenSpec.ofChange Rows.misdeedPicksSpec) false w args)
      (Rows.misdeedPicksSpec.post enc Tryz.prog Tryz.f8 false true false false) := by
  refine returnsInHanded_of_change_and (C := Tryz.checked) (X := fun w _ => laidMetH Tryz.prog laid3 w) (fun _ _ _ hh h => h.of_heap hh) own started (by kernel_rfl) Tryz.func8
    (ChangeSpec.witness_shaped (enc := enc) (C := Tryz.checked) (os := os) (X := fun w _ => laidMetH Tryz.prog laid3 w) false (World.doorLaid Tryz.prog 4000 os) #[(encS zeroS).val, .slice none 0 0, .slice none 0 0] 8 rfl (World.shaped_of_RefB (by kernel_rfl) (by kernel_rfl)) (by kernel_rfl) (by kernel_rfl) (by kernel_rfl) (door_met os _)) ?_
  intro W base args ds gs before hval0 hW _ hsz hL _
  have hval : ∀ (j : Nat) t v, Tryz.f8.params[j]? = some t → args[j]? = some v → Value.okWide Tryz.prog W .any base t v := hval0
  have hW' := hW
  obtain ⟨p, q, hA0, hV, rfl, hfz, hnd⟩ := hW
  have hA : DataW.TrodAll enc Tryz.prog W 0 (fun _ => true) true Tryz.f8.params.toList args.toList ds p := hA0
  rw [Tryz.params8] at hA hval
  have hsz2 : (DataW.weightsEach Tryz.prog (Tryz.f8.params.toList ++ Rows.misdeedPicksSpec.plain.varTypes Tryz.prog) (ds ++ gs)).all (· ≤ reachBytes) = true := hsz
  rw [Tryz.params8] at hsz2
  obtain ⟨v0, v1, v2, d0, d1, d2, p0, p1, p2, rfl, rfl, rfl, h0, h1, h2⟩ := trodAll_three hA
  obtain ⟨rfl, rfl⟩ := trodVars_none hV
  obtain ⟨x, rfl, q3, q4⟩ := open37 (hval 0 37 v0 rfl rfl) h0
  have ok2 := hval 2 130 v2 rfl rfl
  obtain ⟨a2, len2, cap2, rfl⟩ := okWide_slice Tryz.underlying130 ok2
  have ok2c : Cell.okWide Tryz.prog W .any base 130 (.slice a2 len2 cap2) := by simpa only [Value.okWide, Tryz.underlying130] using ok2
  obtain ⟨fu2, h2⟩ := h2
  obtain ⟨b2, np, capp, T, hv2, hrp, hT, hD2⟩ := open130 ok2c h2
  rw [hv2]
  have ok1 := hval 1 38 v1 rfl rfl
  obtain ⟨a, len, cap, rfl⟩ := okWide_slice Tryz.underlying38 ok1
  have ok1c : Cell.okWide Tryz.prog W .any base 38 (.slice a len cap) := by simpa only [Value.okWide, Tryz.underlying38] using ok1
  obtain ⟨fu1, h1⟩ := h1
  obtain ⟨b1, n, cap1, f, hv, hl, hm, hfw, hfr, hD⟩ := open_slv tb2_ok Tryz.underlying38 (re := row39) rfl deep39 ok1c h1
  rw [hv]
  have hro : (roB b1 1 n fun i => .v (.int .u64 (f i).int1)).holds W := open_roB (fun i hi => (hfw i hi).2) (fun i hi => (u64_of (hfw i hi).1).2) hfr (fun i hi => (u64_of (hfw i hi).1).1)
  have hn : n ≤ 17592186044415 := by
    rcases Nat.eq_zero_or_pos n with e | e
    · omega
    obtain ⟨D, sp, hd⟩ := hD (by omega)
    have hd1 : d1 = .slice ((List.range n).map D) sp := hd
    have h3 := sized_slice hsz2 (j := 1) (t := 38) (elems := (List.range n).map D) (spare := sp) rfl (by rw [hd1]; rfl) Tryz.underlying38
    rw [show Tryz.prog.bytesOf 39 = 8 by kernel_rfl, List.length_map, List.length_range] at h3
    have := reachBytes_lt
    omega
  have hnp : np ≤ 1999999999990 := by
    rcases Nat.eq_zero_or_pos np with e | e
    · omega
    obtain ⟨D, sp, hd⟩ := hD2 (by omega)
    have hd2 : d2 = .slice ((List.range np).map D) sp := hd
    have h3 := sized_slice hsz2 (j := 2) (t := 130) (elems := (List.range np).map D) (spare := sp) rfl (by rw [hd2]; rfl) Tryz.underlying130
    rw [show Tryz.prog.bytesOf 46 = 184 by kernel_rfl, List.length_map, List.length_range] at h3
    have := reachBytes_lt
    omega
  obtain ⟨base1, base2, base3, len1, len2, len3, f1, f2, f3, u1, u2, u3, c1, c2, c3⟩ := came_in q3 q4
  obtain ⟨k2, k3, k4⟩ := laid_is hL
  have hw := picks_calls x T (cap := cap1) (capp := capp) hn hro hnp hrp hT u1 u2 u3 k2 k3 k4 c1 c2 c3
  rw [show ([encS x, roS 920 b1 1 n cap1, roS 930 b2 109 np capp].map AV.val).toArray = #[(encS x).val, slV b1 n cap1, slV b2 np capp] by simp only [List.map_cons, List.map_nil, roS_val]] at hw
  refine hw.mono fun e W' ⟨he, hb⟩ => ?_
  subst he
  rw [hv, hv2] at hW'
  exact ⟨_, rfl, post_below (by kernel_rfl) (by decide +kernel) hW' rfl (fun _ _ _ => (trodAll_cons_mk (shut_bool Tryz.underlying4 _) trodAll_mk0)) rfl rfl hb (ok_one (by kernel_rfl) rfl (okWide_bool_mk Tryz.underlying4 _))⟩

theorem over : Rows.MisdeedPicksSaid :=
  OpenClaim.holds_of_wide 8 Tryz.f8 rfl rfl rfl rfl rfl rfl rfl ⟨rfl, rfl, rfl, rfl, rfl⟩ rfl rfl rfl rfl rfl (by kernel_rfl) Tryz.func8 (by kernel_rfl)
    (of_decide_eq_true (by kernel_rfl)) (by unfold Func.isWrapper; first | (rw [if_pos (by decide +kernel)]; kernel_rfl) | (rw [if_neg (by decide +kernel)]; exact ⟨rfl, rfl⟩))
    (fun os started H enc _ => lifted os started H enc)

theorem proved : Rows.MisdeedPicksCardSaid :=
  Claim7.holds_tied_plain_at .later [] [.data, .data, .data] true Rows.misdeedPicksCard.stood.harness false
    over (fun _ h => by cases h) (by kernel_rfl) (fun _ h => by cases h) misdeedPicks_row_tie rfl ⟨rfl, rfl⟩ (by kernel_rfl) rfl
    (fun f fn hf hfn => by
      obtain rfl : f = 8 := Option.some.inj ((show Tryz.prog.funcNamed "assent/assentlaw11.MisdeedPicks" = some 8 by kernel_rfl).symm.trans hf) |>.symm
      obtain rfl : fn = Tryz.f8 := (Option.some.inj (Tryz.func8.symm.trans hfn)).symm
      exact ⟨by kernel_rfl, fun j t ht => by
        rw [Tryz.params8] at ht
        have hm : t ∈ [37, 38, 130] := by simpa using Array.mem_of_getElem? ht
        have hall : ([37, 38, 130].all fun u => !Tryz.prog.wantsStandIn u) = true := by kernel_rfl
        exact (show Tryz.prog.wantsStandIn t = false by simpa using List.all_eq_true.1 hall t hm)⟩)
    (by kernel_rfl)
#print axioms proved
end Go.Proofs.YtofophjfgalhaaaGreatDoor.misdeedPicks
