import Derived.Test.YtaohdlepocajcaaV5
import Derived.Laws.Tables
/-! Structs, arrays and slices built; the evaluator of a quiet operation, and that it is right. -/
namespace Go.Proofs.Ytaohdlepocajcaa.V
open Go Go.RowKit

def AV.fitV (x : AV) : Bool := x.one && (x.isAgg || x.plain)
theorem AV.valCells {x : AV} (h : x.fitV = true) : x.val.cells = x.cells.toArray := by
  simp only [AV.fitV, Bool.and_eq_true, Bool.or_eq_true] at h
  rcases h.2 with h2 | h2
  · rw [AV.val_of_cells h2]; rfl
  · have h1 := AV.cells_plain h2
    have h3 := x.one_cells h.1 x.val (by rw [h1]; simp)
    rw [h1]
    cases hv : x.val <;> first | rfl | (rw [hv] at h3; cases h3)

theorem foldl_cells (off : Nat) : ∀ (vs : List Value) (i : Nat) (cs : List Value), off + i + vs.length ≤ cs.length →
    (vs.zipIdx i).foldl (fun (cs : Array Value) (p : Value × Nat) => cs.setIfInBounds (off + p.2) p.1) cs.toArray = (cs.take (off + i) ++ vs ++ cs.drop (off + i + vs.length)).toArray
  | [], i, cs, h => by simp
  | v :: vs, i, cs, h => by
    have hl : off + i < cs.length := by simp at h; omega
    rw [List.zipIdx_cons, List.foldl_cons]
    simp only [List.setIfInBounds_toArray]
    rw [foldl_cells off vs (i + 1) (cs.set (off + i) v) (by simp at h ⊢; omega)]
    congr 1
    apply List.ext_getElem?
    intro k
    simp only [List.getElem?_append, List.length_append, List.length_take, List.length_set, List.length_cons, List.getElem?_take, List.getElem?_drop, List.getElem?_set]
    simp only [List.length_cons] at h
    by_cases h1 : k < off + i
    · simp [h1, show k < off + (i + 1) by omega, show off + i ≠ k by omega, show min (off + (i + 1)) cs.length = off + (i + 1) by omega, show min (off + i) cs.length = off + i by omega, show k < off + (i + 1) + vs.length by omega, show k < off + i + (vs.length + 1) by omega]
    · by_cases h2 : k = off + i
      · subst h2
        simp [hl, show min (off + (i + 1)) cs.length = off + (i + 1) by omega, show min (off + i) cs.length = off + i by omega, show off + i < off + (i + 1) + vs.length by omega, show off + i < off + (i + 1) by omega]
      · by_cases h3 : k < off + (i + 1) + vs.length
        · rw [show min (off + (i + 1)) cs.length = off + (i + 1) by omega, show min (off + i) cs.length = off + i by omega, if_pos h3, if_neg (by omega), if_pos (by omega), if_neg h1]
          rw [show k - (off + i) = (k - (off + (i + 1))) + 1 by omega, List.getElem?_cons_succ]
        · rw [show min (off + (i + 1)) cs.length = off + (i + 1) by omega, show min (off + i) cs.length = off + i by omega, if_neg h3, if_neg (by omega)]
          rw [if_neg (by omega)]
          congr 1
          omega

def updParts (place : Nat → Option (Nat × Nat)) : AV → List (Nat × AV) → Option AV
  | z, [] => some z
  | z, (i, x) :: rest => match place i with
    | none => none
    | some (o, n) => match Nat.beq x.size n && x.fitV, AV.upd o n x z with
      | true, some z' => updParts place z' rest
      | _, _ => none

theorem updParts_spec (place : Nat → Option (Nat × Nat)) : ∀ (parts : List (Nat × AV)) (z z' : AV), updParts place z parts = some z' →
    Instr.fill place z.cells.toArray (parts.map fun p => (p.1, p.2.val)) = some z'.cells.toArray ∧ (z.one = true → z'.one = true)
  | [], z, z', h => by cases h; exact ⟨rfl, id⟩
  | (i, x) :: rest, z, z', h => by
    simp only [updParts] at h
    split at h
    · cases h
    · rename_i o n hp
      split at h
      · rename_i z1 hx hu
        simp only [Bool.and_eq_true] at hx
        obtain ⟨hn, hf⟩ := hx
        have hn := kindB hn
        obtain ⟨⟨h1, h2⟩, h3⟩ := AV.upd_spec z hu hn
        obtain ⟨h4, h5⟩ := updParts_spec place rest z1 z' h
        have hxo : x.one = true := by simp only [AV.fitV, Bool.and_eq_true] at hf; exact hf.1
        refine ⟨?_, fun ho => h5 (h3 ho hxo)⟩
        simp only [List.map_cons, Instr.fill, hp]
        have hs : x.val.cells.size = n := by rw [AV.valCells hf]; simp [AV.size_cells, hn]
        rw [if_neg (by simp only [hs]; simp; omega), ← h4]
        congr 1
        rw [AV.valCells hf]
        have := foldl_cells o x.cells 0 z.cells (by rw [AV.size_cells x, hn]; omega)
        simp only [Nat.add_zero] at this
        rw [h2, ← hn, ← AV.size_cells x]
        rw [← Array.foldl_toList]
        simpa [Array.toList_zipIdx] using this
      · cases h

def allPos : List (Nat × Nat × TypeId) → Bool
  | [] => true
  | (_, n, _) :: r => Nat.blt 0 n && allPos r

def placesOf (fs : List (Nat × Nat × TypeId)) (i : Nat) : Option (Nat × Nat) := match nth fs i with
  | some (o, n, _) => some (o, n)
  | none => none

def buildV (tb : Tbl) (t : TypeId) (parts : List (Nat × AV)) : Option AV := match tb.get t with
  | none => none
  | some r => match r.zero.fitV, r.d with
    | true, .st fs => match allPos fs with
      | true => updParts (placesOf fs) r.zero parts
      | false => none
    | true, .arr _ e => match tb.get e with
      | some re => updParts (fun i => some (i * re.size, re.size)) r.zero parts
      | none => none
    | _, _ => none

theorem mapM_places {P : Program} : ∀ (gs : List Field) (fs : List (Nat × Nat × TypeId)), gs.map (fun f => (f.offset, P.cellsOf f.type, f.type)) = fs → allPos fs = true →
    gs.mapM (fun f => (P.info? f.type).map fun i => (f.offset, i.size)) = some (fs.map fun f => (f.1, f.2.1))
  | [], fs, h, _ => by subst h; rfl
  | g :: gs, fs, h, hp => by
    subst h
    simp only [List.map_cons, allPos, Bool.and_eq_true] at hp
    have hg := blt_lt hp.1
    rw [List.mapM_cons, mapM_places gs _ rfl hp.2]
    unfold Program.cellsOf at hg ⊢
    cases hi : P.info? g.type with
    | none => simp [hi] at hg
    | some i => simp [hi]

theorem buildV_run {P : Program} {tb : Tbl} (hb : TblOk P tb) {t : TypeId} {parts : List (Nat × AV)} {z : AV} (h : buildV tb t parts = some z) (hz : z.isAgg = true) (w : World) :
    (Instr.build t (parts.map fun p => (p.1, p.2.val)).toArray).run P w = .ok z.val w := by
  unfold buildV at h
  split at h
  · cases h
  · rename_i r hr
    have hro := hb.get hr
    obtain ⟨d, hd, hv⟩ := hro.under
    obtain ⟨i, hi, hi1, hi2, hi3⟩ := hro.info
    rw [AV.val_of_cells hz]
    apply run_build
    unfold Program.built
    simp only [hi, hd]
    split at h
    · rename_i fs hf he
      rw [he] at hv
      obtain ⟨gs, rfl, hgs⟩ := viewD_st hv
      split at h
      · rename_i hp
        simp only [mapM_places _ _ hgs hp]
        obtain ⟨h4, _⟩ := updParts_spec _ _ _ _ h
        rw [← h4]
        simp only [hi3, AV.valCells hf]
        congr 1
        funext j
        simp only [placesOf, nth_eq, List.getElem?_toArray, List.getElem?_map]
        cases fs[j]? <;> rfl
      · cases h
    · rename_i n e hf he
      rw [he] at hv
      rw [viewD_arr hv]
      split at h
      · rename_i re hre
        obtain ⟨ie, hie, hie1, _, _⟩ := (hb.get hre).info
        simp only [hie]
        obtain ⟨h4, _⟩ := updParts_spec _ _ _ _ h
        rw [← h4]
        simp [hi3, AV.valCells hf, hie1]
      · cases h
    · cases h

/-- operands of a list of parts -/
def opds (tm : TmF) (g : Option Bool) : List (Nat × Operand) → Option (Prop × List (Nat × AV))
  | [] => some (True, [])
  | (i, x) :: r => match opd tm x, opds tm g r with
    | some (none, av), some (p, l) => some (p, (i, av) :: l)
    | some (c, av), some (p, l) => some (need g c ∧ p, (i, av) :: l)
    | _, _ => none

theorem opds_sound {N : Nat} {tm : TmF} {a : Act} (hT : SatT N tm a) {g : Option Bool} (hg : holdsG g) : ∀ {l : List (Nat × Operand)} {p : Prop} {r : List (Nat × AV)}, opds tm g l = some (p, r) → p →
    l.map (fun x => (x.1, a.eval x.2)) = r.map fun x => (x.1, x.2.val)
  | [], p, r, h, hp => by cases h; rfl
  | (i, x) :: l, p, r, h, hp => by
    simp only [opds] at h
    split at h
    · rename_i av q l' hx hl
      cases h
      rw [List.map_cons, List.map_cons, opd_sound hT hx (g := g) (by cases g <;> trivial) hg, opds_sound hT hg hl hp]
    · rename_i c av q l' hx hl
      cases h
      rw [List.map_cons, List.map_cons, opd_sound hT hx hp.1 hg, opds_sound hT hg hl hp.2]
    · cases h

end Go.Proofs.Ytaohdlepocajcaa.V
