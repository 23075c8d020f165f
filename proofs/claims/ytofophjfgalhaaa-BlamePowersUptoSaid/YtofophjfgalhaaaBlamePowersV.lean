/- The Go function of this statement, assentlaw17.BlamePowers, returns true at every council and every list of guilts of bulk at most 1048576; its arguments read as they did. -/
import Derived.Test.YtofophjfgalhaaaRows
import Derived.Test.YtofophjfgalhaaaVF7
import Derived.Test.YtofophjfgalhaaaV23
import Derived.WalkKit
import Derived.ProofKit
import Derived.OpenShut
import Derived.JoinedCond
namespace Go.Proofs.Ytofophjfgalhaaa.blamePowers
open Go.ChangeShapes Go.WideShapes Go.ChangeAt Go.RowKit Go.Proofs.Ytofophjfgalhaaa.V
set_option linter.unusedVariables false

theorem own : ownKnob Try.prog.godebug = none := by kernel_rfl
theorem deep66 : deepOk tb 5 66 = true := by kernel_rfl
theorem deep51 : deepOk tb 5 51 = true := by kernel_rfl
theorem types40 : Try.prog.cellTypes Try.prog.depth 40 = some [38] := by kernel_rfl

theorem mb_of {av : AV} (h : wfA tb 5 66 av) : av = encMb (mbOf av) ∧ av.one = true ∧ okMb (mbOf av) := by
  unfold wfA at h
  obtain ⟨l, rfl, h⟩ := (h : ∃ l, av = .agg l ∧ wfF tb 4 [(0, 1, 28), (1, 1, 25), (2, 1, 2)] l)
  unfold wfF at h
  obtain ⟨a0, l, rfl, h0, h⟩ := h
  unfold wfF at h
  obtain ⟨a1, l, rfl, h1, h⟩ := h
  unfold wfF at h
  obtain ⟨a2, l, rfl, h2, h⟩ := h
  unfold wfF at h
  subst h
  unfold wfA at h0 h1 h2
  obtain ⟨x, rfl, hx⟩ := (h0 : ∃ x, a0 = .v (.int .u64 x) ∧ (Lit.int .u64 x).wf = true)
  obtain ⟨y, rfl, hy⟩ := (h1 : ∃ x, a1 = .v (.int .u64 x) ∧ (Lit.int .u64 x).wf = true)
  obtain ⟨z, rfl, hz⟩ := (h2 : ∃ x, a2 = .v (.int .i64 x) ∧ (Lit.int .i64 x).wf = true)
  have bx := bounds_u64 hx
  have by' := bounds_u64 hy
  have bz := bounds_i64 hz
  exact ⟨rfl, rfl, ⟨bx.1, by show x < _; omega⟩, ⟨by'.1, by show y < _; omega⟩, by show _ ≤ z; omega, by show z < _; omega⟩

theorem vt_of {av : AV} (h : wfA tb 4 32 av) : ∃ x : Vote, av = encV x ∧ x.id.length = 32 ∧ x.sig.length = 16 := by
  unfold wfA at h
  obtain ⟨l, rfl, h⟩ := (h : ∃ l, av = .agg l ∧ wfF tb 3 [(0, 1, 3), (1, 1, 25), (2, 1, 3), (3, 32, 27), (35, 1, 25), (36, 1, 28), (37, 16, 30)] l)
  unfold wfF at h
  obtain ⟨a0, l, rfl, h0, h⟩ := h
  unfold wfF at h
  obtain ⟨a1, l, rfl, h1, h⟩ := h
  unfold wfF at h
  obtain ⟨a2, l, rfl, h2, h⟩ := h
  unfold wfF at h
  obtain ⟨a3, l, rfl, h3, h⟩ := h
  unfold wfF at h
  obtain ⟨a4, l, rfl, h4, h⟩ := h
  unfold wfF at h
  obtain ⟨a5, l, rfl, h5, h⟩ := h
  unfold wfF at h
  obtain ⟨a6, l, rfl, h6, h⟩ := h
  unfold wfF at h
  subst h
  unfold wfA at h0 h1 h2 h3 h4 h5 h6
  obtain ⟨k, rfl, _⟩ := (h0 : ∃ x, a0 = .v (.int .i64 x) ∧ (Lit.int .i64 x).wf = true)
  obtain ⟨hh, rfl, _⟩ := (h1 : ∃ x, a1 = .v (.int .u64 x) ∧ (Lit.int .u64 x).wf = true)
  obtain ⟨r, rfl, _⟩ := (h2 : ∃ x, a2 = .v (.int .i64 x) ∧ (Lit.int .i64 x).wf = true)
  obtain ⟨id, rfl, hl, _⟩ := (h3 : ∃ xs : List Int, a3 = .ints .u8 32 xs ∧ xs.length = 32 ∧ ∀ x ∈ xs, (Lit.int .u8 x).wf = true)
  obtain ⟨t, rfl, _⟩ := (h4 : ∃ x, a4 = .v (.int .u64 x) ∧ (Lit.int .u64 x).wf = true)
  obtain ⟨f, rfl, _⟩ := (h5 : ∃ x, a5 = .v (.int .u64 x) ∧ (Lit.int .u64 x).wf = true)
  obtain ⟨s, rfl, hs, _⟩ := (h6 : ∃ xs : List Int, a6 = .ints .u8 16 xs ∧ xs.length = 16 ∧ ∀ x ∈ xs, (Lit.int .u8 x).wf = true)
  exact ⟨⟨k, hh, r, id, t, f, s⟩, rfl, hl, hs⟩
theorem gt_of {av : AV} (h : wfA tb 5 51 av) : av = encG (gtOf av) ∧ av.one = true := by
  unfold wfA at h
  obtain ⟨l, rfl, h⟩ := (h : ∃ l, av = .agg l ∧ wfF tb 4 [(0, 1, 28), (1, 1, 3), (2, 53, 32), (55, 53, 32)] l)
  unfold wfF at h
  obtain ⟨a0, l, rfl, h0, h⟩ := h
  unfold wfF at h
  obtain ⟨a1, l, rfl, h1, h⟩ := h
  unfold wfF at h
  obtain ⟨a2, l, rfl, h2, h⟩ := h
  unfold wfF at h
  obtain ⟨a3, l, rfl, h3, h⟩ := h
  unfold wfF at h
  subst h
  unfold wfA at h0 h1
  obtain ⟨x, rfl, _⟩ := (h0 : ∃ x, a0 = .v (.int .u64 x) ∧ (Lit.int .u64 x).wf = true)
  obtain ⟨y, rfl, _⟩ := (h1 : ∃ x, a1 = .v (.int .i64 x) ∧ (Lit.int .i64 x).wf = true)
  obtain ⟨u, rfl, _⟩ := vt_of h2
  obtain ⟨v, rfl, _⟩ := vt_of h3
  exact ⟨rfl, rfl⟩

/-- what the bound gives of a slice's length -/
theorem one_le {H : Type} (d : DataW H) : 1 ≤ Rows.uptoBulk d := by
  cases d with
  | lit l => cases l <;> simp [Rows.uptoBulk]
  | nil => simp [Rows.uptoBulk]
  | ptr d => simp [Rows.uptoBulk]
  | slice elems spare => simp [Rows.uptoBulk]
  | agg parts => simp [Rows.uptoBulk]
  | iface t d => simp [Rows.uptoBulk]
  | map entries => simp [Rows.uptoBulk]
  | held h => simp [Rows.uptoBulk]
theorem length_le {H : Type} (l : List (DataW H)) : l.length ≤ Rows.uptoBulkAll l := by
  induction l with
  | nil => simp [Rows.uptoBulkAll]
  | cons x r ih => have := one_le x; simp only [Rows.uptoBulkAll, List.length_cons]; omega
theorem slice_le {H : Type} (elems spare : List (DataW H)) : elems.length ≤ Rows.uptoBulk (.slice elems spare) := by
  have h1 := length_le elems
  simp only [Rows.uptoBulk]
  omega

theorem contract (H : Type) (enc : TypeId × Value → H) (W : World) (base : Nat) (args : Array Value) (ds gs : List (DataW H)) (before : List MemPlace)
    (hval0 : ∀ (j : Nat) t v, Try.f7.params[j]? = some t → args[j]? = some v → Value.okWide Try.prog W .any base t v)
    (hW : DataW.Whole enc Try.prog Try.f7.params.toList Rows.blamePowersSpec.vars false W args.toList ds gs before) (hk : Rows.uptoSmall H (ds ++ gs) = true) :
    Calls Try.prog 7 args W fun e W' => ∃ v, e = .returned v ∧ Rows.blamePowersSpec.post enc Try.prog Try.f7 false true false false W args v W' := by
  have hval : ∀ (j : Nat) t v, Try.f7.params[j]? = some t → args[j]? = some v → Value.okWide Try.prog W .any base t v := hval0
  have hW' := hW
  obtain ⟨p, q, hA0, hV, rfl, hfz, hnd⟩ := hW
  have hA : DataW.TrodAll enc Try.prog W 0 (fun _ => true) true Try.f7.params.toList args.toList ds p := hA0
  rw [Try.params7] at hA hval
  obtain ⟨v0, v1, d0, d1, p0, p1, rfl, rfl, rfl, h0, h1⟩ := trodAll_two hA
  obtain ⟨rfl, rfl⟩ := trodVars_none hV
  have hbulk : Rows.uptoBulkAll ([d0, d1] ++ ([] : List (DataW H))) ≤ 1048576 := of_decide_eq_true hk
  obtain ⟨n0, hn0⟩ := h0
  obtain ⟨n1, hn1⟩ := h1
  have ok0 := hval 0 40 v0 rfl rfl
  have ok1 := hval 1 41 v1 rfl rfl
  have ok0' := ok0
  unfold Value.okWide at ok0'
  simp only [Try.underlying40] at ok0'
  obtain ⟨cs, rfl, hcs, hrow⟩ := ok0'
  have hc1 : cs.size = 1 := hcs.trans (by kernel_rfl)
  obtain ⟨m0, rfl⟩ : ∃ m0, cs = #[m0] := ⟨cs[0], by apply Array.ext (by simpa using hc1); intro i h1 h2; simp at h2; subst h2; rfl⟩
  obtain ⟨xs, fu, rfl, hxx, hlen, hxl, hf⟩ := DataW.trod_struct Try.underlying40 hn0
  obtain ⟨rfl, rfl⟩ := Prod.mk.inj hxx
  have hf0 := hf 0 _ rfl
  have hx1 : xs.length = 1 := hxl
  obtain ⟨x0, rfl⟩ : ∃ x0, xs = [x0] := by match xs, hx1 with | [x0], _ => exact ⟨x0, rfl⟩
  have hf1 : DataW.trod enc Try.prog W 0 (fun _ => true) true fu 38 [m0] = some x0 := hf0
  have ok38 := okWide_one types40 hrow
  have ok41 : Cell.okWide Try.prog W .any base 41 v1 := by
    unfold Value.okWide at ok1
    simpa only [Try.underlying41] using ok1
  obtain ⟨a1, l1, c1, rfl⟩ := okWide_slice Try.underlying41 ok1
  obtain ⟨b0, n, cap, f, rfl, hl, hm, hfw, hfr, hD⟩ := open_slv tb_ok Try.underlying38 (re := row66) rfl deep66 ok38 hf1
  obtain ⟨b1, m, cap', f', hv1, hl', hm', hfw', hfr', hD'⟩ := open_slv tb_ok Try.underlying41 (re := row51) rfl deep51 ok41 hn1
  rw [hv1] at hW' ⊢
  have hro : (roB b0 3 n fun i => encMb (mbOf (f i))).holds W := open_roB (fun i hi => (hfw i hi).2) (fun i hi => (mb_of (hfw i hi).1).2.1) hfr (fun i hi => (mb_of (hfw i hi).1).1)
  have hro' : (roB b1 108 m fun i => encG (gtOf (f' i))).holds W := open_roB (fun i hi => (hfw' i hi).2) (fun i hi => (gt_of (hfw' i hi).1).2) hfr' (fun i hi => (gt_of (hfw' i hi).1).1)
  simp only [List.append_nil, List.map_cons, List.map_nil, Rows.uptoBulkAll, Rows.uptoBulk] at hbulk
  have hn : n < 10000000000 := by
    by_cases h0 : n = 0
    · omega
    · obtain ⟨D, sp, hd⟩ := hD h0
      have := slice_le ((List.range n).map D) sp
      rw [← hd, List.length_map, List.length_range] at this
      omega
  have hm2 : m < 10000000000 := by
    by_cases h0 : m = 0
    · omega
    · obtain ⟨D, sp, hd⟩ := hD' h0
      have := slice_le ((List.range m).map D) sp
      have hd1 : d1 = _ := hd
      rw [← hd1, List.length_map, List.length_range] at this
      omega
  have hw := law_calls (w := W) (cap := cap) (cap' := cap') hn hm2 hro hro' (fun i hi => (mb_of (hfw i hi).1).2.2)
  have he : ([AV.agg (.cons (roS 900 b0 3 n cap) .nil), roS 901 b1 108 m cap'].map AV.val).toArray = #[Value.agg #[slV b0 n cap], slV b1 m cap'] := by
    show #[Value.agg #[(roS 900 b0 3 n cap).val], (roS 901 b1 108 m cap').val] = _
    rw [roS_val, roS_val]
  rw [he] at hw
  refine hw.mono fun e W' ⟨he, hb⟩ => ?_
  subst he
  exact ⟨_, rfl, post_below (by kernel_rfl) (by decide +kernel) hW' rfl (fun _ _ _ => (trodAll_cons_mk (shut_bool Try.underlying4 _) trodAll_mk0)) rfl rfl hb (ok_one (by kernel_rfl) rfl (okWide_bool_mk Try.underlying4 _))⟩

set_option maxRecDepth 100000 in
theorem lifted (os : Os) (started : os.Started) (H : Type) (enc : TypeId × Value → H) (F : Stop.Interp) :
    ReturnsInHanded {} Try.checked os 7 .any ((Rows.OpenSpec.upto Rows.blamePowersSpec).pre6 enc Try.prog Try.f7 Rows.blamePowersUptoRow.domain false) (((Rows.OpenSpec.upto Rows.blamePowersSpec).at F).post enc Try.prog Try.f7 false true false false) := by
  refine returnsInHanded_of_cond (C := Try.checked) (s := Rows.OpenSpec.upto Rows.blamePowersSpec) (k := Rows.uptoSmall) rfl own started (by kernel_rfl) Try.func7
    (OpenSpec.witness (enc := enc) (C := Try.checked) (s := Rows.OpenSpec.upto Rows.blamePowersSpec) (k := Rows.uptoSmall) rfl false ⟨#[], #[.agg #[.slice none 0 0], .slice none 0 0], []⟩ 8 (by kernel_rfl) (by kernel_rfl) (by kernel_rfl)
      (x := ([.agg [.nil], .nil], [], [])) (by kernel_rfl) rfl (by kernel_rfl)) ?_
  intro W base args ds gs before hval hW _ hk _
  exact contract H enc W base args ds gs before hval hW hk

theorem over : Rows.blamePowersUptoRow.holds Try.pinned (Rows.OpenSpec.upto Rows.blamePowersSpec) :=
  OpenClaim.holds_of_cond 7 Try.f7 rfl rfl rfl rfl rfl rfl rfl ⟨rfl, rfl, rfl, rfl, rfl⟩ rfl rfl rfl rfl rfl (by kernel_rfl) Try.func7 (by kernel_rfl)
    (of_decide_eq_true (by kernel_rfl)) (by unfold Func.isWrapper; first | (rw [if_pos (by decide +kernel)]; kernel_rfl) | (rw [if_neg (by decide +kernel)]; exact ⟨rfl, rfl⟩))
    (fun os started H enc _ F => lifted os started H enc F)

theorem proved : Rows.BlamePowersUptoSaid :=
  over
#print axioms proved
end Go.Proofs.Ytofophjfgalhaaa.blamePowers
