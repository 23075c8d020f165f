import Derived.Test.YtaohdlepocajcaaVM4
/-! Calls that turn memory; all evaluators; one operation with its guard. -/
namespace Go.Proofs.Ytaohdlepocajcaa.V
open Go Go.RowKit

/-- what a table of contracts that turn memory must satisfy -/
def CrOk (P : Program) (O : Nat → Prop) (w0 : World) (cr : FuncId → Nat → List AV → MemF → Option Res) : Prop :=
  ∀ f tag args M r, cr f tag args M = some r → r.ok → ∀ w, Sat O w0 M w → ∀ (o : Oper) (a : Act) (next : Act → World → Prop) (Q : Exit → Act → World → Prop),
    (∀ x w', r.can x → Turn M w w' (zipM r.tags (r.mem x)).get → next (a.put o.dst (r.out x).val) w') → o.upon P a next Q ((callFunc f (args.map AV.val).toArray).run P w)

def evCall (E : Env) (M : MemF) (tm : TmF) (g : Option Bool) (tag : Nat) : Op → Option Res
  | .call { callee := .value (.func f), args, .. } => match opds tm g (args.toList.map fun x => (0, x)) with
    | some (p, l) => match E.cr f tag (vals l) M with
      | some r => some { r with ok := p ∧ r.ok }
      | none => none
    | none => none
  | .call { callee := .value (.tmp t), args, .. } => match tm t, opds tm g (args.toList.map fun x => (0, x)) with
    | some (c, .fn f caps), some (p, l) => match E.cr f tag (vals l ++ caps.toL) M with
      | some r => some { r with ok := (need g c ∧ p) ∧ r.ok }
      | none => none
    | _, _ => none
  | _ => none

section
variable {P : Program} {O : Nat → Prop} {w0 : World}
theorem evCall_ok {E : Env} (hcr : CrOk P O w0 E.cr) : EvOk P O w0 (evCall E) := by
  intro N M tm g tag a w o r h hok hT hS hg next Q hk
  unfold evCall at h
  split at h
  · rename_i f args tys ho
    split at h
    · rename_i p l hl
      split at h
      · rename_i r0 hr
        cases h
        obtain ⟨hp, hok⟩ := hok
        unfold Oper.wp
        have : (execOp a.eval o).run P w = (callFunc f ((vals l).map AV.val).toArray).run P w := by
          unfold execOp
          rw [ho]
          simp only [Sem.run_bind, resolve, Act.eval, Deferred.ofValue, args_eq hT hg hl hp, Sem.run_pure, Result.andThen_ok, invoke, Array.empty_append, Array.append_empty]
        rw [this]
        exact hcr f tag (vals l) M r0 hr hok w hS o a next Q hk
      · cases h
    · cases h
  · rename_i t args tys ho
    split at h
    · rename_i c f caps p l ht hl
      split at h
      · rename_i r0 hr
        cases h
        obtain ⟨⟨hc, hp⟩, hok⟩ := hok
        unfold Oper.wp
        have hfv : a.eval (.tmp t) = (AV.fn f caps).val := opd_s hT (show opd tm (.tmp t) = _ from ht) hc hg
        have : (execOp a.eval o).run P w = (callFunc f ((vals l ++ caps.toL).map AV.val).toArray).run P w := by
          unfold execOp
          rw [ho]
          simp only [Sem.run_bind, resolve, hfv, fn_val, Deferred.ofValue, args_eq hT hg hl hp, Sem.run_pure, Result.andThen_ok, invoke, List.append_toArray, List.map_append, List.nil_append]
        rw [this]
        exact hcr f tag (vals l ++ caps.toL) M r0 hr hok w hS o a next Q hk
      · cases h
    · cases h
  · cases h

/-- all evaluators -/
def xeval (E : Env) (M : MemF) (tm : TmF) (g : Option Bool) (tag : Nat) (op : Op) : Option Res := match op with
  | .store t x y => evStore E M tm g (.store t x y)
  | .call { callee := .builtin .append, args, argTypes } => evAppend E M tm g tag (.call { callee := .builtin .append, args, argTypes })
  | .lookup t x y ok => evLookup E M tm g (.lookup t x y ok)
  | .mapUpdate t m k x => evMapUpd E M tm g t m k x
  | .insert t m k x => evMapUpd E M tm g t m k x
  | .call { callee := .builtin .delete, args, argTypes } => evMapDel E M tm g args argTypes
  | .call { callee := .value f, args, argTypes } => match evCall E M tm g tag (.call { callee := .value f, args, argTypes }) with
    | some r => some r
    | none => evQ E M tm g tag (.call { callee := .value f, args, argTypes })
  | op => evQ E M tm g tag op

theorem xeval_ok {E : Env} (hb : TblOk P E.tb) (he : EqOk P E.eqs) (hct : CtOk P O w0 E.ct) (hcr : CrOk P O w0 E.cr) : EvOk P O w0 (xeval E) := by
  intro N M tm g tag a w o r h hok hT hS hg next Q hk
  generalize hop : o.op = op at h
  unfold xeval at h
  split at h
  · rw [← hop] at h; exact evStore_ok hb N M tm g tag a w o r h hok hT hS hg next Q hk
  · rw [← hop] at h; exact evAppend_ok hb N M tm g tag a w o r h hok hT hS hg next Q hk
  · rw [← hop] at h; exact evLookup_ok hb he N M tm g tag a w o r h hok hT hS hg next Q hk
  · rename_i t m k x; exact evMapUpd_ok hb he N M tm g tag a w o r (by dsimp only; rw [hop]; exact h) hok hT hS hg next Q hk
  · rename_i t m k x; exact evMapUpd_ok hb he N M tm g tag a w o r (by dsimp only; rw [hop]; exact h) hok hT hS hg next Q hk
  · exact evMapDel_ok hb he N M tm g tag a w o r (by dsimp only; rw [hop]; exact h) hok hT hS hg next Q hk
  · split at h
    · rename_i hc
      cases h
      rw [← hop] at hc; exact evCall_ok hcr N M tm g tag a w o r hc hok hT hS hg next Q hk
    · rw [← hop] at h; exact evQ_ok hb he hct N M tm g tag a w o r h hok hT hS hg next Q hk
  · rw [← hop] at h; exact evQ_ok hb he hct N M tm g tag a w o r h hok hT hS hg next Q hk

def dstOk (N : Nat) (o : Oper) : Bool := match o.dst with
  | some d => Nat.blt d N
  | none => true
/-- what an operation leaves: (guard, result); tag: the tag of what it lays -/
def opEvalT (E : Env) (dst : Nat → Option Tmp) (M : MemF) (tm : TmF) (o : Oper) (tag : Nat) : Option (Option Bool × Res) :=
  match guardOf dst tm o.guard with
  | none => none
  | some g => match xeval E M tm g tag o.op with
      | some r => match g with
        | none => some (none, r)
        | some b => match r.tags with
          | [] => some (some b, r)
          | _ :: _ => none
      | none => match g with
        | some b => some (some b, ⟨Unit, b = false, fun _ => True, fun _ => .v undef, [], fun _ => []⟩)      -- what is not wanted need not be told
        | none => none
def opEval (E : Env) (dst : Nat → Option Tmp) (N : Nat) (M : MemF) (tm : TmF) (o : Oper) : Option (Option Bool × Res) := match o.dst with
  | some d => match Nat.blt d N with
    | true => opEvalT E dst M tm o d
    | false => none
  | none => opEvalT E dst M tm o 40000

theorem opEval_T {E : Env} {dst : Nat → Option Tmp} {N : Nat} {M : MemF} {tm : TmF} {o : Oper} {x : Option Bool × Res} (h : opEval E dst N M tm o = some x) : (∀ d, o.dst = some d → Nat.blt d N = true) ∧ ∃ tag, opEvalT E dst M tm o tag = some x := by
  unfold opEval at h
  split at h
  · rename_i d hd
    split at h
    · rename_i hlt
      exact ⟨fun d' hd' => (by rw [hd] at hd'; cases hd'; exact hlt), d, h⟩
    · cases h
  · rename_i hd
    exact ⟨fun d' hd' => (by rw [hd] at hd'; cases hd'), _, h⟩

/-- ONE OPERATION: what it leaves. -/
theorem opEval_sound {E : Env} {N : Nat} (hb : TblOk P E.tb) (he : EqOk P E.eqs) (hct : CtOk P O w0 E.ct) (hcr : CrOk P O w0 E.cr) {ops : Array Oper} {dst : Nat → Option Tmp} (hdst : ∀ j d, dst j = some d → dstAt ops j = some d) {M : MemF} {tm : TmF} {o : Oper} {g : Option Bool} {r : Res}
    (h : opEval E dst N M tm o = some (g, r)) (hok : r.ok) (hne : ∃ x, r.can x) {a : Act} {w : World} (hT : SatT N tm a) (hS : Sat O w0 M w) {next : Act → World → Prop} {Q : Exit → Act → World → Prop}
    (hk : ∀ x v w', r.can x → Turn M w w' (zipM r.tags (r.mem x)).get → (match g with | none => v = (r.out x).val | some g => v = if g then (r.out x).val else undef) → next (a.put o.dst v) w') :
    if Region.wanted o (yielded ops a.tmps) = true then o.wp P a w next Q else next (a.put o.dst undef) w := by
  obtain ⟨_, tag, h⟩ := opEval_T h
  unfold opEvalT at h
  split at h
  · cases h
  · rename_i g' hg
    have hgs := guard_sound hT hdst hg
    · split at h
      · rename_i r' hx
        have hxo := xeval_ok hb he hct hcr N M tm g' tag a w o r' hx
        split at h
        · cases h
          rw [if_pos (hgs.2 trivial)]
          exact hxo hok hT hS trivial next Q fun x w' hc ht => hk x _ w' hc ht rfl
        · rename_i b
          split at h
          · rename_i htags
            cases h
            split
            · rename_i hw
              have hb' : b = true := hgs.1 hw
              refine hxo hok hT hS hb' next Q fun x w' hc ht => hk x _ w' hc ht ?_
              show _ = if b = true then _ else _
              rw [if_pos hb']
            · rename_i hw
              obtain ⟨x, hx⟩ := hne
              refine hk x undef w hx ?_ ?_
              · have : (zipM r.tags (r.mem x)).get = fun _ => none := by
                  rw [htags]; rfl
                rw [this]; exact Turn.below (Below.refl _ _)
              · cases b with
                | true => exact absurd (hgs.2 rfl) hw
                | false => rfl
          · cases h
      · split at h
        · rename_i b _
          cases h
          have hb : b = false := hok
          have hw : ¬ Region.wanted o (yielded ops a.tmps) = true := fun hw => by have : b = true := hgs.1 hw; rw [hb] at this; cases this
          rw [if_neg hw]
          refine hk () undef w trivial (Turn.below (Below.refl _ _)) ?_
          show _ = if b = true then _ else _
          rw [hb]; rfl
        · cases h
end

end Go.Proofs.Ytaohdlepocajcaa.V
