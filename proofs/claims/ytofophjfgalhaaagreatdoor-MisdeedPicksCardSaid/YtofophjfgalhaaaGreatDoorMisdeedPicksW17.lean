import Derived.Test.YtofophjfgalhaaaGreatDoorMisdeedPicksW13
import Derived.MakeChecks
set_option linter.unusedVariables false
set_option linter.unusedSimpArgs false
/-! Package variables as they are laid; slices that came in, by their headers. -/
namespace Go.Proofs.YtofophjfgalhaaaGreatDoor.V
open Go Go.RowKit Go.ChangeShapes Go.ChangeAt

/-- a laid array of numbers, as an entry -/
theorem laid_ints {P : Program} {w : World} {n : String} {t e : TypeId} {g m fuel : Nat} {k : IntKind} {l : List Int} {cs : Array Value} {p : List MemPlace} (hg : P.globalNamed n = some g) (hu : P.underlying t = some (.array m e)) (he : P.underlying e = some (.int k)) (hc : P.cellsOf e = 1) (hct : P.cellsOf t = m) (hm : 0 < m)
    (hv : w.var? P n = some cs) (hd : DataW.trod (fun _ => ()) P w 0 (fun _ => true) false fuel t cs.toList = some (.agg (l.map fun z => .lit (.int k z)), p)) : (Blk.var g (.ints k m l)).holds w := by
  obtain ⟨xs, f2, rfl, hx, hlen, hxl, hf⟩ := DataW.trod_array hu hd
  rw [hct] at hlen
  have hx1 : xs.map (·.1) = l.map fun z => DataW.lit (.int k z) := by
    have := congrArg (fun x => x.1) hx
    simp only [DataW.agg.injEq] at this
    exact this.symm
  have hcell : ∀ o, w.cell? ⟨g, o, none⟩ = cs[o]? := fun o => by
    unfold World.var? at hv
    rw [hg] at hv
    simp only [Option.bind_some] at hv
    unfold World.cell?
    split at hv
    · rename_i h; cases hv; simp [h]
    · cases hv
  refine ⟨hm, rfl, fun j hj => ?_⟩
  have hj : j < m := hj
  rw [hcell, ints_get k m l hj]
  have hj' := hf j hj
  rw [hc, Nat.mul_one] at hj'
  have hcj : cs.toList[j]? = some (cs.toList[j]'(by omega)) := List.getElem?_eq_getElem _
  have hone : (cs.toList.drop j).take 1 = [cs.toList[j]'(by omega)] := by
    apply List.ext_getElem?
    intro i
    rcases i with _ | i
    · simp
    · simp; omega
  rw [hone, List.getElem?_eq_getElem (by omega)] at hj'
  have hlj : (l[j]?).map (fun z => DataW.lit (H := Unit) (.int k z)) = some (xs[j]'(by omega)).1 := by
    rw [← List.getElem?_map, ← hx1, List.getElem?_map, List.getElem?_eq_getElem (by omega)]; rfl
  have : cs[j]? = some (cs.toList[j]'(by omega)) := by rw [← hcj]; simp
  rw [this]
  cases f2 with
  | zero => simp [DataW.trod] at hj'
  | succ f2 =>
    unfold DataW.trod at hj'
    rw [he] at hj'
    rw [List.getD_eq_getElem?_getD]
    cases hlz : l[j]? with
    | none => rw [hlz] at hlj; cases hlj
    | some z =>
      rw [hlz] at hlj
      have hlj : DataW.lit (.int k z) = (xs[j]'(by omega)).1 := by simpa using hlj
      split at hj' <;> simp_all
      all_goals
        obtain ⟨⟨rfl, _⟩, h2⟩ := hj'
        rw [← h2] at hlj
        simp at hlj
        simp [hlj]

/-- what is kept of the slices of what came in -/
def QT {H : Type} (enc : TypeId × Value → H) (P : Program) (w : World) (base : Nat) (t : TypeId) (v : Value) : Prop := (∃ e, P.underlying t = some (.slice e)) ∧ Trd enc P w base t v
theorem QT.sl {H : Type} {enc : TypeId × Value → H} {P : Program} {w : World} {base : Nat} {t : TypeId} {v : Value} (h : QT enc P w base t v) : ∃ a n c, v = .slice a n c := by
  obtain ⟨⟨e, hu⟩, fuel, x, hx⟩ := h
  rcases Go.Deep.open_slice hu hx with ⟨h0, _⟩ | ⟨a, len, cap, m, n', D, Pl, hv, _⟩
  · cases h0; exact ⟨_, _, _, rfl⟩
  · cases hv; exact ⟨_, _, _, rfl⟩
theorem QT.one {H : Type} {enc : TypeId × Value → H} {P : Program} {w : World} {base : Nat} (t : TypeId) (v : Value) (h : QT enc P w base t v) : v.oneCell' = true := Trd.one h.1.choose_spec h.2
/-- a slice that was read stands in the one entry of its element type -/
theorem stand_of {H : Type} {enc : TypeId × Value → H} {P : Program} {tb : Tbl} (hb : TblOk P tb) {w : World} {base d : Nat} {t e : TypeId} {re : TRow} (hu : P.underlying t = some (.slice e)) (hre : tb.get e = some re) (hd : deepOk tb d e = true) (hsz : 0 < re.size)
    {a : Option Addr} {n c : Nat} (h : QT enc P w base t (.slice a n c)) {bs : Nat → Option (Nat × Nat)} {len : Nat → Nat} {f : Nat → Nat → AV}
    (hU : ∀ b o n, Stand w re.size (wfQ (QT enc P w base) tb d e) b o n → bs (hx b o n) = some (b, o) ∧ len (hx b o n) = n ∧ ∀ i, i < n → wfQ (QT enc P w base) tb d e (f (hx b o n) i)) :
    n ≤ 9223372036854775807 ∧ (∀ i, i < n → wfQ (QT enc P w base) tb d e (f (hxA a n) i)) ∧ (n ≠ 0 → ∃ b o, a = some ⟨b, o, none⟩ ∧ bs (hx b o n) = some (b, o) ∧ n ≤ len (hx b o n)) := by
  rcases Trd.open hb hu hre hd hsz h.2 with ⟨p, cap, hv⟩ | ⟨b, o, ln, cap, g, hv, h0, h1, h2, h3⟩
  · cases hv
    exact ⟨Nat.zero_le _, fun i hi => absurd hi (Nat.not_lt_zero i), fun h => absurd rfl h⟩
  · cases hv
    obtain ⟨h4, h5, h6⟩ := hU b o n (fun i hi => ⟨g i, (h3 i hi).1, (h3 i hi).2.1, wfQ_one QT.one (h3 i hi).1, (h3 i hi).2.2⟩)
    refine ⟨Nat.le_trans h1 (Nat.le_trans h2 (by decide)), h6, fun _ => ⟨b, o, rfl, h4, Nat.le_of_eq h5.symm⟩⟩
end Go.Proofs.YtofophjfgalhaaaGreatDoor.V
/-! Elements that were opened plainly, read as those whose slices are kept. -/
namespace Go.Proofs.YtofophjfgalhaaaGreatDoor.V
open Go Go.RowKit

def SlQ (_ : TypeId) (v : Value) : Prop := ∃ a n c, v = .slice a n c
theorem wfA_Q {tb : Tbl} : ∀ (n : Nat) (t : TypeId) (av : AV), wfA tb n t av → wfQ SlQ tb n t av
  | 0, _, _, h => by unfold wfA at h; exact h.elim
  | n + 1, t, av, h => by
    have ih := wfA_Q (tb := tb) n
    have ihF : ∀ (L : List (Nat × Nat × TypeId)) (l : AV), wfF tb n L l → wfQF SlQ tb n L l := by
      intro L
      induction L with
      | nil => intro l h; unfold wfF at h; unfold wfQF; exact h
      | cons f r ihr =>
        intro l h
        unfold wfF at h
        unfold wfQF
        obtain ⟨a, b, rfl, h1, h2⟩ := h
        exact ⟨a, b, rfl, ih _ _ h1, ihr _ h2⟩
    have ihR : ∀ (e : TypeId) (m : Nat) (l : AV), wfR tb n e m l → wfQR SlQ tb n e m l := by
      intro e m
      induction m with
      | zero => intro l h; unfold wfR at h; unfold wfQR; exact h
      | succ m ihm =>
        intro l h
        unfold wfR at h
        unfold wfQR
        obtain ⟨a, b, rfl, h1, h2⟩ := h
        exact ⟨a, b, rfl, ih _ _ h1, ihm _ h2⟩
    unfold wfA at h
    unfold wfQ
    cases hr : tb.get t with
    | none => rw [hr] at h; exact h.elim
    | some r =>
      rw [hr] at h
      obtain ⟨d, sz, by_, z⟩ := r
      cases d with
      | int k => exact h
      | bool => exact h
      | str => exact h
      | sl e =>
        obtain ⟨a, n, c, rfl⟩ := (h : ∃ a n c, av = .v (.slice a n c))
        exact ⟨_, rfl, a, n, c, rfl⟩
      | st fs =>
        obtain ⟨l, rfl, h⟩ := (h : ∃ l, av = .agg l ∧ wfF tb n fs l)
        exact ⟨l, rfl, ihF _ _ h⟩
      | arr m e =>
        dsimp only at h ⊢
        cases he : tb.get e with
        | none => rw [he] at h; exact h.elim
        | some re =>
          rw [he] at h
          dsimp only at h ⊢
          cases hk : isInt re.d with
          | some k => rw [hk] at h; exact h
          | none =>
            rw [hk] at h
            obtain ⟨l, rfl, h⟩ := (h : ∃ l, av = .agg l ∧ wfR tb n e m l)
            exact ⟨l, rfl, ihR _ _ _ h⟩
      | _ => exact h.elim
end Go.Proofs.YtofophjfgalhaaaGreatDoor.V
