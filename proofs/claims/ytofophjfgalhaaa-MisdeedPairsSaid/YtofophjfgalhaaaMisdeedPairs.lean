/- The Go function of this statement, assentlaw11.MisdeedPairs, returns true at every two votes; its arguments read as they did (no conditions). -/
import Derived.Test.YtofophjfgalhaaaRows
import Derived.Test.YtofophjfgalhaaaL6
import Derived.Test.YtofophjfgalhaaaD23
import Derived.WalkKit
import Derived.ProofKit
import Derived.OpenShut
namespace Go.Proofs.Ytofophjfgalhaaa.misdeedPairs
open Go.ChangeShapes Go.WideShapes Go.ChangeAt Go.RowKit Go.Proofs.Ytofophjfgalhaaa.D
set_option linter.unusedVariables false

theorem own : ownKnob Try.prog.godebug = none := by kernel_rfl
theorem deep32 : deepOk tb 5 32 = true := by kernel_rfl

theorem okV_of (x : Vote) (h : ∀ z ∈ x.id, (Lit.int .u8 z).wf = true) : okV x := by
  intro j
  rw [List.getD_eq_getElem?_getD]
  by_cases hj : j < x.id.length
  · rw [List.getElem?_eq_getElem hj]
    have := bounds_u8 (h _ (List.getElem_mem hj))
    exact ⟨this.1, by show x.id[j] < 256; omega⟩
  · rw [List.getElem?_eq_none (by omega)]
    exact ⟨Int.le_refl _, by decide⟩

theorem vote_of {av : AV} (h : wfA tb 5 32 av) : ∃ x : Vote, av = encV x ∧ okV x := by
  unfold wfA at h
  obtain ⟨l, rfl, h⟩ := (h : ∃ l, av = .agg l ∧ wfF tb 4 [(0, 1, 3), (1, 1, 25), (2, 1, 3), (3, 32, 27), (35, 1, 25), (36, 1, 28), (37, 16, 30)] l)
  unfold wfF at h
  obtain ⟨a0, l, rfl, h0, h⟩ := h
  unfold wfF at h
  obtain ⟨a1, l, rfl, h1, h⟩ := h
  unfold wfF at h
  obtain ⟨a2, l, rfl, h2, h⟩ := h
  unfold wfF at h
  obtain ⟨a3, l, rfl, h3, h⟩ := h
  unfold wfF at h
  obtain ⟨a4, l, rfl, h4, h⟩ := h
  unfold wfF at h
  obtain ⟨a5, l, rfl, h5, h⟩ := h
  unfold wfF at h
  obtain ⟨a6, l, rfl, h6, h⟩ := h
  unfold wfF at h
  subst h
  unfold wfA at h0 h1 h2 h3 h4 h5 h6
  obtain ⟨k, rfl, _⟩ := (h0 : ∃ x, a0 = .v (.int .i64 x) ∧ (Lit.int .i64 x).wf = true)
  obtain ⟨hh, rfl, _⟩ := (h1 : ∃ x, a1 = .v (.int .u64 x) ∧ (Lit.int .u64 x).wf = true)
  obtain ⟨r, rfl, _⟩ := (h2 : ∃ x, a2 = .v (.int .i64 x) ∧ (Lit.int .i64 x).wf = true)
  obtain ⟨id, rfl, _, hid⟩ := (h3 : ∃ xs : List Int, a3 = .ints .u8 32 xs ∧ xs.length = 32 ∧ ∀ x ∈ xs, (Lit.int .u8 x).wf = true)
  obtain ⟨t, rfl, _⟩ := (h4 : ∃ x, a4 = .v (.int .u64 x) ∧ (Lit.int .u64 x).wf = true)
  obtain ⟨f, rfl, _⟩ := (h5 : ∃ x, a5 = .v (.int .u64 x) ∧ (Lit.int .u64 x).wf = true)
  obtain ⟨s, rfl, _, _⟩ := (h6 : ∃ xs : List Int, a6 = .ints .u8 16 xs ∧ xs.length = 16 ∧ ∀ x ∈ xs, (Lit.int .u8 x).wf = true)
  exact ⟨⟨k, hh, r, id, t, f, s⟩, rfl, okV_of _ hid⟩

theorem open32 {H : Type} {enc : TypeId × Value → H} {W : World} {base b0 : Nat} {v : Value} {d : DataW H} {ps : List MemPlace} (hval : Value.okWide Try.prog W .any b0 32 v) (h : DataW.Trod enc Try.prog W base (fun _ => true) true 32 v d ps) : ∃ x : Vote, v = (encV x).val ∧ okV x := by
  obtain ⟨cs, rfl, _⟩ := okWide_struct Try.underlying32 hval
  obtain ⟨n, hn⟩ := h
  obtain ⟨av, h1, h2⟩ := open_plain tb_ok 5 n 32 _ _ deep32 hn
  obtain ⟨x, rfl, hx⟩ := vote_of h1
  refine ⟨x, ?_, hx⟩
  show Value.agg cs = .agg (encV x).cells.toArray
  rw [h2]; rfl

set_option maxRecDepth 100000 in
theorem lifted (os : Os) (started : os.Started) (H : Type) (enc : TypeId × Value → H) :
    ReturnsInHanded {} Try.checked os 6 .any (Rows.misdeedPairsSpec.pre6 enc Try.prog Try.f6 Rows.misdeedPairsRow.domain false) (Rows.misdeedPairsSpec.post enc Try.prog Try.f6 false true false false) := by
  refine returnsInHanded_of_change (C := Try.checked) own started (by kernel_rfl) Try.func6
    (ChangeSpec.witness6 (enc := enc) (C := Try.checked) false ⟨#[], #[(encV zeroV).val, (encV zeroV).val], []⟩ 8 (by kernel_rfl) (by kernel_rfl) (by kernel_rfl) (by kernel_rfl)) ?_
  intro W base args ds gs before hval0 hW hcnd _
  have hval : ∀ (j : Nat) t v, Try.f6.params[j]? = some t → args[j]? = some v → Value.okWide Try.prog W .any base t v := hval0
  have hW' := hW
  obtain ⟨p, q, hA0, hV, rfl, hfz, hnd⟩ := hW
  have hA : DataW.TrodAll enc Try.prog W 0 (fun _ => true) true Try.f6.params.toList args.toList ds p := hA0
  rw [Try.params6] at hA hval
  obtain ⟨v0, v1, d0, d1, p0, p1, rfl, rfl, rfl, h0, h1⟩ := trodAll_two hA
  obtain ⟨rfl, rfl⟩ := trodVars_none hV
  obtain ⟨x, rfl, hx⟩ := open32 (hval 0 32 v0 rfl rfl) h0
  obtain ⟨y, rfl, hy⟩ := open32 (hval 1 32 v1 rfl rfl) h1
  refine (law_calls x y (pair_eq x y hx hy) (pair_eq y x hy hx) (pair_swap x y hx hy) W).mono fun e W' ⟨he, hb⟩ => ?_
  subst he
  exact ⟨_, rfl, post_below (by kernel_rfl) (by decide +kernel) hW' rfl (fun _ _ _ => (trodAll_cons_mk (shut_bool Try.underlying4 _) trodAll_mk0)) rfl rfl hb (ok_one (by kernel_rfl) rfl (okWide_bool_mk Try.underlying4 _))⟩

theorem over : Rows.misdeedPairsRow.holds Try.pinned (OpenSpec.ofChange Rows.misdeedPairsSpec) :=
  OpenClaim.holds_of_wide 6 Try.f6 rfl rfl rfl rfl rfl rfl rfl ⟨rfl, rfl, rfl, rfl, rfl⟩ rfl rfl rfl rfl rfl (by kernel_rfl) Try.func6 (by kernel_rfl)
    (of_decide_eq_true (by kernel_rfl)) (by unfold Func.isWrapper; first | (rw [if_pos (by decide +kernel)]; kernel_rfl) | (rw [if_neg (by decide +kernel)]; exact ⟨rfl, rfl⟩))
    (fun os started H enc _ => lifted os started H enc)

theorem proved : Rows.MisdeedPairsSaid :=
  over
#print axioms proved
end Go.Proofs.Ytofophjfgalhaaa.misdeedPairs
