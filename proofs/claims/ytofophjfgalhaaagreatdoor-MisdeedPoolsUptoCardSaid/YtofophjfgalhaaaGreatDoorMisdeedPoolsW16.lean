import Derived.Test.YtofophjfgalhaaaGreatDoorMisdeedPoolsW12
import Derived.MakeChecks
set_option linter.unusedVariables false
set_option linter.unusedSimpArgs false
set_option maxRecDepth 100000
set_option maxHeartbeats 8000000
namespace Go.Proofs.YtofophjfgalhaaaGreatDoor.V
open Go Go.RowKit Go.ChangeShapes Go.ChangeAt
theorem laid_ints {P : Program} {w : World} {n : String} {t e : TypeId} {g m fuel : Nat} {k : IntKind} {l : List Int} {cs : Array Value} {p : List MemPlace} (hg : P.globalNamed n = some g) (hu : P.underlying t = some (.array m e)) (he : P.underlying e = some (.int k)) (hc : P.cellsOf e = 1) (hct : P.cellsOf t = m) (hm : 0 < m)
  (hv : w.var? P n = some cs) (hd : DataW.trod (fun _ => ()) P w 0 (fun _ => true) false fuel t cs.toList = some (.agg (l.map fun z => .lit (.int k z)), p)) : (Blk.var g (.ints k m l)).holds w := by
 obtain ⟨xs, f2, rfl, hx, hlen, hxl, hf⟩ := DataW.trod_array hu hd
 rw [hct] at hlen
 have hx1 : xs.map (·.1) = l.map fun z => DataW.lit (.int k z) := by
  have := congrArg (fun x => x.1) hx
  simp only [DataW.agg.injEq] at this
  exact this.symm
 have hcell : ∀ o, w.cell? ⟨g, o, none⟩ = cs[o]? := fun o => by
  unfold World.var? at hv
  rw [hg] at hv
  simp only [Option.bind_some] at hv
  unfold World.cell?
  split at hv
  ·
   rename_i h; cases hv; simp [h]
  ·
   cases hv
 refine ⟨hm, rfl, fun j hj => ?_⟩
 have hj : j < m := hj
 rw [hcell, ints_get k m l hj]
 have hj' := hf j hj
 rw [hc, Nat.mul_one] at hj'
 have hcj : cs.toList[j]? = some (cs.toList[j]'(by omega)) := List.getElem?_eq_getElem _
 have hone : (cs.toList.drop j).take 1 = [cs.toList[j]'(by omega)] := by
  apply List.ext_getElem?
  intro i
  rcases i with _ | i
  ·
   simp
  ·
   simp; omega
 rw [hone, List.getElem?_eq_getElem (by omega)] at hj'
 have hlj : (l[j]?).map (fun z => DataW.lit (H := Unit) (.int k z)) = some (xs[j]'(by omega)).1 := by
  rw [← List.getElem?_map, ← hx1, List.getElem?_map, List.getElem?_eq_getElem (by omega)]; rfl
 have : cs[j]? = some (cs.toList[j]'(by omega)) := by rw [← hcj]; simp
 rw [this]
 cases f2 with
 | zero => simp [DataW.trod] at hj'
 | succ f2 =>
  unfold DataW.trod at hj'
  rw [he] at hj'
  rw [List.getD_eq_getElem?_getD]
  cases hlz : l[j]? with
  | none => rw [hlz] at hlj; cases hlj
  | some z =>
   rw [hlz] at hlj
   have hlj : DataW.lit (.int k z) = (xs[j]'(by omega)).1 := by simpa using hlj
   split at hj' <;> simp_all
   all_goals
    obtain ⟨⟨rfl, _⟩, h2⟩ := hj'
    rw [← h2] at hlj
    simp at hlj
    simp [hlj]
def QT {H : Type} (enc : TypeId × Value → H) (P : Program) (w : World) (base : Nat) (t : TypeId) (v : Value) : Prop := (∃ e, P.underlying t = some (.slice e)) ∧ Trd enc P w base t v
theorem QT.sl {H : Type} {enc : TypeId × Value → H} {P : Program} {w : World} {base : Nat} {t : TypeId} {v : Value} (h : QT enc P w base t v) : ∃ a n c, v = .slice a n c := by
 obtain ⟨⟨e, hu⟩, fuel, x, hx⟩ := h
 rcases Go.Deep.open_slice hu hx with ⟨h0, _⟩ | ⟨a, len, cap, m, n', D, Pl, hv, _⟩
 ·
  cases h0; exact ⟨_, _, _, rfl⟩
 ·
  cases hv; exact ⟨_, _, _, rfl⟩
theorem QT.one {H : Type} {enc : TypeId × Value → H} {P : Program} {w : World} {base : Nat} (t : TypeId) (v : Value) (h : QT enc P w base t v) : v.oneCell' = true := Trd.one h.1.choose_spec h.2
theorem stand_of {H : Type} {enc : TypeId × Value → H} {P : Program} {tb : Tbl} (hb : TblOk P tb) {w : World} {base d : Nat} {t e : TypeId} {re : TRow} (hu : P.underlying t = some (.slice e)) (hre : tb.get e = some re) (hd : deepOk tb d e = true) (hsz : 0 < re.size)
  {a : Option Addr} {n c : Nat} (h : QT enc P w base t (.slice a n c)) {bs : Nat → Option (Nat × Nat)} {len : Nat → Nat} {f : Nat → Nat → AV}
  (hU : ∀ b o n, Stand w re.size (wfQ (QT enc P w base) tb d e) b o n → bs (hx b o n) = some (b, o) ∧ len (hx b o n) = n ∧ ∀ i, i < n → wfQ (QT enc P w base) tb d e (f (hx b o n) i)) :
  n ≤ 9223372036854775807 ∧ (∀ i, i < n → wfQ (QT enc P w base) tb d e (f (hxA a n) i)) ∧ (n ≠ 0 → ∃ b o, a = some ⟨b, o, none⟩ ∧ bs (hx b o n) = some (b, o) ∧ n ≤ len (hx b o n)) := by
 rcases Trd.open hb hu hre hd hsz h.2 with ⟨p, cap, hv⟩ | ⟨b, o, ln, cap, g, hv, h0, h1, h2, h3⟩
 ·
  cases hv
  exact ⟨Nat.zero_le _, fun i hi => absurd hi (Nat.not_lt_zero i), fun h => absurd rfl h⟩
 ·
  cases hv
  obtain ⟨h4, h5, h6⟩ := hU b o n (fun i hi => ⟨g i, (h3 i hi).1, (h3 i hi).2.1, wfQ_one QT.one (h3 i hi).1, (h3 i hi).2.2⟩)
  refine ⟨Nat.le_trans h1 (Nat.le_trans h2 (by decide)), h6, fun _ => ⟨b, o, rfl, h4, Nat.le_of_eq h5.symm⟩⟩
end Go.Proofs.YtofophjfgalhaaaGreatDoor.V
namespace Go.Proofs.YtofophjfgalhaaaGreatDoor.V
open Go Go.RowKit
end Go.Proofs.YtofophjfgalhaaaGreatDoor.V
namespace Go.Proofs.YtofophjfgalhaaaGreatDoor.V
open Go Go.RowKit Go.ChangeShapes Go.WideShapes Go.ChangeAt
theorem open_slQ {H : Type} {enc : TypeId × Value → H} {P : Program} {tb : Tbl} (hb : TblOk P tb) {w : World} {r : Reach} {b0 base fuel n : Nat} {t e : TypeId} {re : TRow} (ht : P.underlying t = some (.slice e)) (hre : tb.get e = some re)
  (hd : deepOk tb n e = true) {v : Value} {x : DataW H × List MemPlace} (hval : Cell.okWide P w r b0 t v) (hx : DataW.trod enc P w base (fun _ => true) true fuel t [v] = some x) :
  ∃ (p : Option (Nat × Nat)) (len cap : Nat) (f : Nat → AV) (D : Nat → DataW H) (sp : List (DataW H)), v = slV p len cap ∧ (∀ i, i < len → wfQ (QT enc P w base) tb n e (f i) ∧ (f i).size = re.size ∧ ∃ fu pl, DataW.trod enc P w base (fun _ => true) true fu e (f i).cells = some (D i, pl)) ∧
   (len ≠ 0 → ∃ b o, p = some (b, o) ∧ ∀ i, i < len → ∀ k, k < re.size → w.cell? ⟨b, o + i * re.size + k, none⟩ = (f i).cells[k]?) ∧ (len ≠ 0 → x.1 = .slice ((List.range len).map D) sp) := by
 have hes := cellsOf_row (hb.get hre)
 rcases Go.Deep.open_slice ht hx with ⟨h0, _⟩ | ⟨a, len, cap, m, n', D, Pl, hv, hba, hl, hm, hmm, hxx, hall⟩
 ·
  injection h0 with h0
  exact ⟨none, 0, 0, fun _ => .nil, fun _ => .nil, [], h0, fun i hi => absurd hi (by omega), fun h => absurd rfl h, fun h => absurd rfl h⟩
 ·
  injection hv with hv
  subst hv
  have hsp : a.spot = none := by
   unfold Cell.okWide Cell.ok at hval
   simp only [ht] at hval
   exact hval.2.2.2.1
  have hmc : m = cap := by simpa using hmm
  subst hmc
  obtain ⟨f, hf⟩ := Go.Deep.choose_lt (α := AV) (n := len) (p := fun i av => wfQ (QT enc P w base) tb n e av ∧ (av.size = re.size ∧ ∃ fu pl, DataW.trod enc P w base (fun _ => true) true fu e av.cells = some (D i, pl)) ∧ ∀ k, k < re.size → w.cell? ⟨a.block, a.off + i * re.size + k, none⟩ = av.cells[k]?) (fun i hi => by
   obtain ⟨cs', h1, h2⟩ := hall i (by omega)
   obtain ⟨av, h3, h4⟩ := open_plainQ (Q := QT enc P w base) hb (fun t e fuel v x h1 h2 => ⟨⟨e, h1⟩, fuel, x, h2⟩) n n' e cs' _ hd h2
   obtain ⟨_, h5, h6⟩ := World.cells?_some h1
   refine ⟨av, h3, ⟨by rw [← AV.size_cells, h4, h5, hes], n', Pl i, by rw [h4]; exact h2⟩, fun k hk => ?_⟩
   rw [h4, ← h6 k (by omega), hes, Go.Deep.add_add]
   congr 1
   unfold Addr.add
   obtain ⟨ab, ao, asp⟩ := a
   cases hsp
   by_cases h0 : i * re.size + k = 0
   ·
    rw [if_pos h0]; simp <;> omega
   ·
    rw [if_neg h0]; simp <;> omega)
  refine ⟨some (a.block, a.off), len, m, f, D, _, ?_, fun i hi => ⟨(hf i hi).1, (hf i hi).2.1.1, (hf i hi).2.1.2⟩, fun _ => ⟨_, _, rfl, fun i hi => (hf i hi).2.2⟩, fun _ => by rw [hxx]⟩
  obtain ⟨ab, ao, asp⟩ := a
  cases hsp
  rfl
end Go.Proofs.YtofophjfgalhaaaGreatDoor.V
