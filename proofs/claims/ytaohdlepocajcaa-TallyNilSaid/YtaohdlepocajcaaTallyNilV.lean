/- The Go function of this statement, assentlaw10.TallyNil, returns true at every vote and every round; its arguments read as they did (no conditions). -/
import Derived.Test.YtaohdlepocajcaaRows
import Derived.Test.YtaohdlepocajcaaVF10
import Derived.Test.YtaohdlepocajcaaV22
import Derived.WalkKit
import Derived.ProofKit
import Derived.OpenShut
namespace Go.Proofs.Ytaohdlepocajcaa.tallyNil
open Go.ChangeShapes Go.WideShapes Go.ChangeAt Go.RowKit Go.Proofs.Ytaohdlepocajcaa.V
set_option linter.unusedVariables false

theorem own : ownKnob Try.prog.godebug = none := by kernel_rfl
theorem deep43 : deepOk tb 5 43 = true := by kernel_rfl

theorem vt_of {av : AV} (h : wfA tb 5 43 av) : ∃ x : Vote, av = encV x := by
  unfold wfA at h
  obtain ⟨l, rfl, h⟩ := (h : ∃ l, av = .agg l ∧ wfF tb 4 [(0, 1, 3), (1, 1, 22), (2, 1, 3), (3, 32, 38), (35, 1, 22), (36, 1, 39), (37, 16, 41)] l)
  unfold wfF at h
  obtain ⟨a0, l, rfl, h0, h⟩ := h
  unfold wfF at h
  obtain ⟨a1, l, rfl, h1, h⟩ := h
  unfold wfF at h
  obtain ⟨a2, l, rfl, h2, h⟩ := h
  unfold wfF at h
  obtain ⟨a3, l, rfl, h3, h⟩ := h
  unfold wfF at h
  obtain ⟨a4, l, rfl, h4, h⟩ := h
  unfold wfF at h
  obtain ⟨a5, l, rfl, h5, h⟩ := h
  unfold wfF at h
  obtain ⟨a6, l, rfl, h6, h⟩ := h
  unfold wfF at h
  subst h
  unfold wfA at h0 h1 h2 h3 h4 h5 h6
  obtain ⟨k, rfl, _⟩ := (h0 : ∃ x, a0 = .v (.int .i64 x) ∧ (Lit.int .i64 x).wf = true)
  obtain ⟨hh, rfl, _⟩ := (h1 : ∃ x, a1 = .v (.int .u64 x) ∧ (Lit.int .u64 x).wf = true)
  obtain ⟨r, rfl, _⟩ := (h2 : ∃ x, a2 = .v (.int .i64 x) ∧ (Lit.int .i64 x).wf = true)
  obtain ⟨id, rfl, _⟩ := (h3 : ∃ xs : List Int, a3 = .ints .u8 32 xs ∧ xs.length = 32 ∧ ∀ x ∈ xs, (Lit.int .u8 x).wf = true)
  obtain ⟨t, rfl, _⟩ := (h4 : ∃ x, a4 = .v (.int .u64 x) ∧ (Lit.int .u64 x).wf = true)
  obtain ⟨f, rfl, _⟩ := (h5 : ∃ x, a5 = .v (.int .u64 x) ∧ (Lit.int .u64 x).wf = true)
  obtain ⟨s, rfl, _⟩ := (h6 : ∃ xs : List Int, a6 = .ints .u8 16 xs ∧ xs.length = 16 ∧ ∀ x ∈ xs, (Lit.int .u8 x).wf = true)
  exact ⟨⟨k, hh, r, id, t, f, s⟩, rfl⟩

set_option maxRecDepth 100000 in
theorem open43 {H : Type} {enc : TypeId × Value → H} {W : World} {base b0 : Nat} {v : Value} {d : DataW H} {ps : List MemPlace} (hval : Value.okWide Try.prog W .any b0 43 v) (h : DataW.Trod enc Try.prog W base (fun _ => true) true 43 v d ps) : ∃ x : Vote, v = (encV x).val := by
  obtain ⟨cs, rfl, _⟩ := okWide_struct Try.underlying43 hval
  obtain ⟨n, hn⟩ := h
  obtain ⟨av, h1, h2⟩ := open_plain tb_ok 5 n 43 _ _ deep43 hn
  obtain ⟨x, rfl⟩ := vt_of h1
  refine ⟨x, ?_⟩
  show Value.agg cs = .agg (encV x).cells.toArray
  rw [h2]; rfl

set_option maxRecDepth 100000 in
theorem lifted (os : Os) (started : os.Started) (H : Type) (enc : TypeId × Value → H) :
    ReturnsInHanded {} Try.checked os 4 .any (Rows.tallyNilSpec.pre6 enc Try.prog Try.f4 Rows.tallyNilRow.domain false) (Rows.tallyNilSpec.post enc Try.prog Try.f4 false true false false) := by
  refine returnsInHanded_of_change (C := Try.checked) own started (by kernel_rfl) Try.func4
    (ChangeSpec.witness6 (enc := enc) (C := Try.checked) false ⟨#[], #[row43.zero.val, .int .i64 0], []⟩ 8 (by kernel_rfl) (by kernel_rfl) (by kernel_rfl) (by kernel_rfl)) ?_
  intro W base args ds gs before hval0 hW hcnd _
  have hval : ∀ (j : Nat) t v, Try.f4.params[j]? = some t → args[j]? = some v → Value.okWide Try.prog W .any base t v := hval0
  have hW' := hW
  obtain ⟨p, q, hA0, hV, rfl, hfz, hnd⟩ := hW
  have hA : DataW.TrodAll enc Try.prog W 0 (fun _ => true) true Try.f4.params.toList args.toList ds p := hA0
  rw [Try.params4] at hA hval
  obtain ⟨v0, v1, d0, d1, p0, p1, rfl, rfl, rfl, h0, h1⟩ := trodAll_two hA
  obtain ⟨rfl, rfl⟩ := trodVars_none hV
  obtain ⟨x, rfl⟩ := open43 (hval 0 43 v0 rfl rfl) h0
  obtain ⟨r, rfl, rfl, rfl, w0⟩ := open_int Try.underlying3 (hval 1 3 v1 rfl rfl) h1
  refine (law_calls x r W).mono fun e W' ⟨he, hb⟩ => ?_
  subst he
  exact ⟨_, rfl, post_below (by kernel_rfl) (by decide +kernel) hW' rfl (fun _ _ _ => (trodAll_cons_mk (shut_bool Try.underlying4 _) trodAll_mk0)) rfl rfl hb (ok_one (by kernel_rfl) rfl (okWide_bool_mk Try.underlying4 _))⟩

theorem over : Rows.tallyNilRow.holds Try.pinned (OpenSpec.ofChange Rows.tallyNilSpec) :=
  OpenClaim.holds_of_wide 4 Try.f4 rfl rfl rfl rfl rfl rfl rfl ⟨rfl, rfl, rfl, rfl, rfl⟩ rfl rfl rfl rfl rfl (by kernel_rfl) Try.func4 (by kernel_rfl)
    (of_decide_eq_true (by kernel_rfl)) (by unfold Func.isWrapper; first | (rw [if_pos (by decide +kernel)]; kernel_rfl) | (rw [if_neg (by decide +kernel)]; exact ⟨rfl, rfl⟩))
    (fun os started H enc _ => lifted os started H enc)

theorem proved : Rows.TallyNilSaid :=
  over
#print axioms proved
end Go.Proofs.Ytaohdlepocajcaa.tallyNil
