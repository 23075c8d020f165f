import Derived.Test.YtofophjfgalhaaaGreatDoorD11
/-! One operation with its guard; states; a region in the order of the text. -/
namespace Go.Proofs.YtofophjfgalhaaaGreatDoor.D
open Go Go.RowKit

/-- the guard of an operation, by what the slots hold -/
def guardOf (dst : Nat → Option Tmp) (tm : TmF) : Option (Nat × Bool) → Option (Option Bool)
  | none => some none
  | some (j, want) => match dst j with
    | none => none
    | some d => match tm d with
      | some (none, .v (.bool b)) => match want with
        | true => some (some b)
        | false => some (some (!b))
      | some (some c, .v (.bool b)) => match want with
        | true => some (some (c && b))
        | false => some (some (c && !b))
      | _ => none

def dstAt (ops : Array Oper) (j : Nat) : Option Tmp := (ops[j]?).bind (·.dst)

theorem guard_sound {ops : Array Oper} {N : Nat} {tm : TmF} {a : Act} (hT : SatT N tm a) {dst : Nat → Option Tmp} (hd : ∀ j d, dst j = some d → dstAt ops j = some d) {o : Oper} {g : Option Bool} (h : guardOf dst tm o.guard = some g) :
    (Region.wanted o (yielded ops a.tmps) = true ↔ holdsG g) := by
  cases hgd : o.guard with
  | none =>
    rw [hgd] at h
    cases h
    unfold Region.wanted
    rw [hgd]
    exact ⟨fun _ => trivial, fun _ => rfl⟩
  | some jw =>
    obtain ⟨j, want⟩ := jw
    rw [hgd] at h
    simp only [guardOf] at h
    split at h
    · cases h
    · rename_i d hdj
      have hd' := hd j d hdj
      have key : ∀ c b, tm d = some (c, .v (.bool b)) → yielded ops a.tmps j = match c with
          | none => some b
          | some c => if c = true then some b else none := by
        intro c b htm
        have hs := hT.slot d _ htm
        unfold yielded
        unfold dstAt at hd'
        rw [hd', Option.bind_some]
        cases c with
        | none =>
          obtain ⟨h1, h2⟩ := hs
          have : a.tmps[d]? = some (.bool b) := by
            rw [Array.getElem?_eq_getElem h1]
            rw [Array.getD_eq_getD_getElem?, Array.getElem?_eq_getElem h1] at h2
            simpa using h2
          rw [this]
        | some c =>
          obtain ⟨h1, h2⟩ := hs
          rw [Array.getD_eq_getD_getElem?, Array.getElem?_eq_getElem h1] at h2
          rw [Array.getElem?_eq_getElem h1]
          simp only [Option.getD_some] at h2
          rw [h2]
          cases c <;> rfl
      unfold Region.wanted
      rw [hgd]
      simp only []
      split at h
      · rename_i b htm
        have hy := key _ _ htm
        simp only at hy
        rw [hy]
        split at h <;> cases h <;> cases b <;> simp [holdsG]
      · rename_i c b htm
        have hy := key _ _ htm
        simp only at hy
        rw [hy]
        split at h <;> cases h <;> cases b <;> cases c <;> simp [holdsG]
      · cases h

/-- what an operation leaves in its slot and in the memory: (guard, result) -/
def opEval (E : Env) (dst : Nat → Option Tmp) (N : Nat) (M : MemF) (tm : TmF) (o : Oper) : Option (Option Bool × R) :=
  match guardOf dst tm o.guard with
  | none => none
  | some g => match o.dst with
    | none => none
    | some d => match Nat.blt d N with
      | false => none
      | true => match qeval E M tm g d o.op with
        | some (.val c a) => some (g, .val c a)
        | some (.new c a B) => match g with
          | none => some (none, .new c a B)
          | some _ => none
        | none => match g with
          | some b => some (some b, .val (b = false) (.v undef))      -- what is not wanted need not be told
          | none => none

theorem put_get {a : Act} {N d : Nat} (hs : a.tmps.size = N) (hd : d < N) (v : Value) : (a.put (some d) v).tmps.getD d undef = v := by
  show (a.tmps.setIfInBounds d v).getD d undef = v
  rw [Array.getD_eq_getD_getElem?, Array.getElem?_setIfInBounds_self_of_lt (by omega)]; rfl
theorem put_ne {a : Act} {d t : Nat} (h : d ≠ t) (v : Value) : (a.put (some d) v).tmps.getD t undef = a.tmps.getD t undef := by
  show (a.tmps.setIfInBounds d v).getD t undef = _
  rw [Array.getD_eq_getD_getElem?, Array.getElem?_setIfInBounds_ne h, ← Array.getD_eq_getD_getElem?]
theorem put_size {a : Act} {d : Option Tmp} (v : Value) : (a.put d v).tmps.size = a.tmps.size := by
  cases d with
  | none => rfl
  | some d => show (a.tmps.setIfInBounds d v).size = _; simp

theorem slot_ne {a : Act} {d t : Nat} (h : d ≠ t) {v : Value} {e : Option Bool × AV} (hs : SlotOk a t e) : SlotOk (a.put (some d) v) t e := by
  obtain ⟨c, av⟩ := e
  cases c with
  | none => exact ⟨by rw [put_size]; exact hs.1, by rw [put_ne h]; exact hs.2⟩
  | some c => exact ⟨by rw [put_size]; exact hs.1, by rw [put_ne h]; exact hs.2⟩

/-- The slot d filled. -/
theorem SatT.put {N : Nat} {tm : TmF} {a : Act} (hT : SatT N tm a) {d : Nat} (hd : d < N) {g : Option Bool} {av : AV} {v : Value} (hv : match g with | none => v = av.val | some g => v = if g then av.val else undef) :
    SatT N (fun t => if d = t then some (g, av) else tm t) (a.put (some d) v) := by
  refine ⟨by rw [put_size]; exact hT.size, fun t e h => ?_⟩
  split at h
  · rename_i hdt
    subst hdt
    cases h
    have h1 : d < (a.put (some d) v).tmps.size := by rw [put_size, hT.size]; exact hd
    cases g with
    | none => exact ⟨h1, by rw [put_get hT.size hd]; exact hv⟩
    | some g => exact ⟨h1, by rw [put_get hT.size hd]; exact hv⟩
  · rename_i hdt
    exact slot_ne hdt (hT.slot t e h)

section
variable {P : Program} {E : Env} {O : Nat → Prop} {w0 : World} {N : Nat}

/-- ONE OPERATION: what it leaves. -/
theorem opEval_sound (hb : TblOk P E.tb) (he : EqOk P E.eqs) (hct : CtOk P O w0 E.ct) {ops : Array Oper} {dst : Nat → Option Tmp} (hdst : ∀ j d, dst j = some d → dstAt ops j = some d) {M : MemF} {tm : TmF} {o : Oper} {g : Option Bool} {r : R}
    (h : opEval E dst N M tm o = some (g, r)) (hc : r.cond) {a : Act} {w : World} (hT : SatT N tm a) (hS : Sat O w0 M w) {next : Act → World → Prop} {Q : Exit → Act → World → Prop}
    (hk : ∀ b v w', Below w.heap.size w w' → (holdsG g → r.laid w w' b) → (match g with | none => v = (r.out b).val | some g => v = if g then (r.out b).val else undef) → next (a.put o.dst v) w') :
    if Region.wanted o (yielded ops a.tmps) = true then o.wp P a w next Q else next (a.put o.dst undef) w := by
  unfold opEval at h
  split at h
  · cases h
  · rename_i g' hg
    have hgs := guard_sound hT hdst hg
    split at h
    · cases h
    · rename_i d hd
      split at h
      · cases h
      · rename_i hlt
        split at h
        · rename_i c av hq
          cases h
          split
          · rename_i hw
            have hgh := hgs.1 hw
            refine qeval_sound hb he hct hq rfl hc hT hS hgh fun b w' hb' hl => hk b _ w' hb' (fun _ => hl) ?_
            cases g with
            | none => rfl
            | some g => have : g = true := hgh; subst this; rfl
          · rename_i hw
            refine hk 0 _ w (Below.refl _ _) (fun hh => absurd (hgs.2 hh) hw) ?_
            cases g with
            | none => exact absurd (hgs.2 trivial) hw
            | some g =>
              cases g with
              | true => exact absurd (hgs.2 rfl) hw
              | false => rfl
        · rename_i c av B hq
          split at h
          · cases h
            split
            · exact qeval_sound hb he hct hq rfl hc hT hS trivial fun b w' hb' hl => hk b _ w' hb' (fun _ => hl) rfl
            · rename_i hw
              exact absurd (hgs.2 trivial) hw
          · cases h
        · split at h
          · rename_i b _
            cases h
            have hb : b = false := hc
            have hw : ¬ Region.wanted o (yielded ops a.tmps) = true := fun hw => by have : b = true := hgs.1 hw; rw [hb] at this; cases this
            rw [if_neg hw]
            refine hk 0 _ w (Below.refl _ _) (fun hh => by have : b = true := hh; rw [hb] at this; cases this) ?_
            rw [hb]; rfl
          · cases h
end

end Go.Proofs.YtofophjfgalhaaaGreatDoor.D
