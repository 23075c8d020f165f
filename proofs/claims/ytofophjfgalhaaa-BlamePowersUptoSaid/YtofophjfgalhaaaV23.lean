import Derived.Test.YtofophjfgalhaaaV22
import Derived.Deep.Slices
/-! A slice argument that comes in: its elements stand in a row. -/
namespace Go.Proofs.Ytofophjfgalhaaa.V
open Go Go.RowKit Go.ChangeShapes Go.WideShapes

instance : Inhabited AV := ⟨.nil⟩
theorem open_slv {H : Type} {enc : TypeId × Value → H} {P : Program} {tb : Tbl} (hb : TblOk P tb) {w : World} {r : Reach} {b0 base fuel n : Nat} {held : Bool} {t e : TypeId} {re : TRow} (ht : P.underlying t = some (.slice e)) (hre : tb.get e = some re)
    (hd : deepOk tb n e = true) {v : Value} {x : DataW H × List MemPlace} (hval : Cell.okWide P w r b0 t v) (hx : DataW.trod enc P w base (fun _ => true) held fuel t [v] = some x) :
    ∃ (p : Option (Nat × Nat)) (len cap : Nat) (f : Nat → AV), v = slV p len cap ∧ len ≤ cap ∧ cap ≤ maxLen ∧ (∀ i, i < len → wfA tb n e (f i) ∧ (f i).size = re.size) ∧
      (len ≠ 0 → ∃ b o, p = some (b, o) ∧ ∀ i, i < len → ∀ k, k < re.size → w.cell? ⟨b, o + i * re.size + k, none⟩ = (f i).cells[k]?) ∧ (len ≠ 0 → ∃ (D : Nat → DataW H) (sp : List (DataW H)), x.1 = .slice ((List.range len).map D) sp) := by
  have hes := cellsOf_row (hb.get hre)
  rcases Go.Deep.open_slice ht hx with ⟨h0, _⟩ | ⟨a, len, cap, m, n', D, Pl, hv, hba, hl, hm, hmm, hxx, hall⟩
  · injection h0 with h0
    exact ⟨none, 0, 0, fun _ => .nil, h0, Nat.le_refl _, Nat.zero_le _, fun i hi => absurd hi (by omega), fun h => absurd rfl h, fun h => absurd rfl h⟩
  · injection hv with hv
    subst hv
    have hsp : a.spot = none := by
      unfold Cell.okWide Cell.ok at hval
      simp only [ht] at hval
      exact hval.2.2.2.1
    have hmc : m = cap := by simpa using hmm
    subst hmc
    obtain ⟨f, hf⟩ := Go.Deep.choose_lt (α := AV) (n := len) (p := fun i av => wfA tb n e av ∧ av.size = re.size ∧ ∀ k, k < re.size → w.cell? ⟨a.block, a.off + i * re.size + k, none⟩ = av.cells[k]?) (fun i hi => by
      obtain ⟨cs', h1, h2⟩ := hall i (by omega)
      obtain ⟨av, h3, h4⟩ := open_plain hb n n' e cs' _ hd h2
      obtain ⟨_, h5, h6⟩ := World.cells?_some h1
      refine ⟨av, h3, by rw [← AV.size_cells, h4, h5, hes], fun k hk => ?_⟩
      rw [h4, ← h6 k (by omega), hes, Go.Deep.add_add]
      congr 1
      unfold Addr.add
      obtain ⟨ab, ao, asp⟩ := a
      cases hsp
      by_cases h0 : i * re.size + k = 0
      · rw [if_pos h0]; simp <;> omega
      · rw [if_neg h0]; simp <;> omega)
    refine ⟨some (a.block, a.off), len, m, f, ?_, hl, hm, fun i hi => ⟨(hf i hi).1, (hf i hi).2.1⟩, fun _ => ⟨_, _, rfl, fun i hi => (hf i hi).2.2⟩, fun _ => ⟨D, _, by rw [hxx]⟩⟩
    obtain ⟨ab, ao, asp⟩ := a
    cases hsp
    rfl


/-- .. as memory that is only read -/
theorem open_roB {w : World} {p : Option (Nat × Nat)} {es len : Nat} {f g : Nat → AV} (hs : ∀ i, i < len → (f i).size = es) (ho : ∀ i, i < len → (f i).one = true)
    (hr : len ≠ 0 → ∃ b o, p = some (b, o) ∧ ∀ i, i < len → ∀ k, k < es → w.cell? ⟨b, o + i * es + k, none⟩ = (f i).cells[k]?) (hg : ∀ i, i < len → f i = g i) : (roB p es len g).holds w :=
  roB_holds fun h0 => by
    obtain ⟨b, o, hp, h⟩ := hr h0
    exact ⟨b, o, hp, fun i hi => ⟨by rw [← hg i hi]; exact hs i hi, by rw [← hg i hi]; exact ho i hi, fun k hk => by rw [← hg i hi]; exact h i hi k hk⟩⟩
/-- the cells of a struct of one cell -/
theorem okWide_one {P : Program} {w : World} {r : Reach} {b0 : Nat} {t u : TypeId} (ht : P.cellTypes P.depth t = some [u]) {v : Value} (h : Row.okWide P w r b0 t #[v]) : Cell.okWide P w r b0 u v := by
  obtain ⟨ts, h1, _, h2⟩ := h
  rw [ht] at h1
  cases h1
  obtain ⟨u', h3, h4⟩ := h2 0 v rfl
  simp at h3
  subst h3
  exact h4
end Go.Proofs.Ytofophjfgalhaaa.V
