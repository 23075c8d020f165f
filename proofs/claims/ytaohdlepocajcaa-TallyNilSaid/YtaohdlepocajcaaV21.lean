import Derived.Test.YtaohdlepocajcaaV20
/-! A call by a contract that is at hand; states that keep what a loop does not write. -/
namespace Go.Proofs.Ytaohdlepocajcaa.V
open Go Go.RowKit

section
variable {X : Cx} {tm : Tm} {M : Mem}

/-- a call of a function value, by what is known of that function in such worlds -/
theorem o_calls {l0 : List Oper} {i : Nat} {o : Oper} {rest : List Oper} {K : Tm → Mem → Prop} {d : Nat} {x : Nat} {xs : Array Operand} {tys : Array TypeId} {f : FuncId} {caps : AV} {p : Prop} {l : List (Nat × AV)} (res : AV)
    (hd : o.dst = some d) (ho : o.op = .call { callee := .value (.tmp x), args := xs, argTypes := tys }) (hgd : o.guard = none) (hlt : Nat.blt d X.N = true) (hx : tm.get x = some (none, .fn f caps)) (hl : opds tm.get none (xs.toList.map fun x => (0, x)) = some (p, l)) (hp : p) (hb : HasBody X.P f)
    (hc : ∀ w, Sat X.O X.w0 M.get w → Calls X.P f ((vals l ++ caps.toL).map AV.val).toArray w fun e w' => e = .returned res.val ∧ Below w.heap.size w w')
    (hk : OpsS X l0 (i + 1) rest ((d, none, res) :: tm) M K) : OpsS X l0 i (o :: rest) tm M K := by
  intro hl0 a w Q ha hQ
  obtain ⟨h1, h2⟩ := drop_succ hl0
  rw [List.length_cons]
  refine wpOps_step h1 ?_
  have hw : Region.wanted o (yielded l0.toArray a.tmps) = true := by unfold Region.wanted; rw [hgd]
  rw [if_pos hw]
  unfold Oper.wp
  have hfv : a.eval (.tmp x) = (AV.fn f caps).val := opd_s ha.T (g := none) (show opd tm.get (.tmp x) = _ from hx) trivial trivial
  have : (execOp a.eval o).run X.P w = (callFunc f ((vals l ++ caps.toL).map AV.val).toArray).run X.P w := by
    unfold execOp
    rw [ho]
    simp only [Sem.run_bind, resolve, hfv, fn_val, Deferred.ofValue, args_eq ha.T (g := none) trivial hl hp, Sem.run_pure, Result.andThen_ok, invoke, List.append_toArray, List.map_append, List.nil_append]
  rw [this]
  refine upon_calls hb (R := fun v w' => v = res.val ∧ Below w.heap.size w w') ((hc w ha.S).mono fun e w' ⟨e1, e2⟩ => ⟨_, e1, rfl, e2⟩) fun v w' ⟨hv, hbel⟩ => ?_
  subst hv
  have := ha.put (d := o.dst) (fun d' hd' => by rw [hd] at hd'; cases hd'; exact hlt) (g := none) (av := res) rfl (L := []) (Turn.below hbel) (tm' := putT o.dst none res tm) (M' := M) rfl (by rw [show (Mem.get [] : MemF) = fun _ => none from rfl, updM_none]) rfl
  rw [hd] at this ⊢
  exact hk h2 _ w' Q this hQ

/-- the same of a function -/
theorem o_callf {l0 : List Oper} {i : Nat} {o : Oper} {rest : List Oper} {K : Tm → Mem → Prop} {d : Nat} {f : FuncId} {xs : Array Operand} {tys : Array TypeId} {p : Prop} {l : List (Nat × AV)} (res : AV)
    (hd : o.dst = some d) (ho : o.op = .call { callee := .value (.func f), args := xs, argTypes := tys }) (hgd : o.guard = none) (hlt : Nat.blt d X.N = true) (hl : opds tm.get none (xs.toList.map fun x => (0, x)) = some (p, l)) (hp : p) (hb : HasBody X.P f)
    (hc : ∀ w, Sat X.O X.w0 M.get w → Calls X.P f ((vals l).map AV.val).toArray w fun e w' => e = .returned res.val ∧ Below w.heap.size w w')
    (hk : OpsS X l0 (i + 1) rest ((d, none, res) :: tm) M K) : OpsS X l0 i (o :: rest) tm M K := by
  intro hl0 a w Q ha hQ
  obtain ⟨h1, h2⟩ := drop_succ hl0
  rw [List.length_cons]
  refine wpOps_step h1 ?_
  have hw : Region.wanted o (yielded l0.toArray a.tmps) = true := by unfold Region.wanted; rw [hgd]
  rw [if_pos hw]
  unfold Oper.wp
  have : (execOp a.eval o).run X.P w = (callFunc f ((vals l).map AV.val).toArray).run X.P w := by
    unfold execOp
    rw [ho]
    simp only [Sem.run_bind, resolve, Act.eval, Deferred.ofValue, args_eq ha.T (g := none) trivial hl hp, Sem.run_pure, Result.andThen_ok, invoke, Array.empty_append, Array.append_empty]
  rw [this]
  refine upon_calls hb (R := fun v w' => v = res.val ∧ Below w.heap.size w w') ((hc w ha.S).mono fun e w' ⟨e1, e2⟩ => ⟨_, e1, rfl, e2⟩) fun v w' ⟨hv, hbel⟩ => ?_
  subst hv
  have := ha.put (d := o.dst) (fun d' hd' => by rw [hd] at hd'; cases hd'; exact hlt) (g := none) (av := res) rfl (L := []) (Turn.below hbel) (tm' := putT o.dst none res tm) (M' := M) rfl (by rw [show (Mem.get [] : MemF) = fun _ => none from rfl, updM_none]) rfl
  rw [hd] at this ⊢
  exact hk h2 _ w' Q this hQ
end
theorem Sat.below0 {w w' : World} {M : MemF} (h : Sat (fun b => w.heap.size ≤ b ∨ False) w M w') : Below w.heap.size w w' := by
  have hk := h.keeps
  exact ⟨hk.os, hk.tape, hk.output, hk.size, fun k hk' => hk.block k hk' (by rw [or_false]; omega)⟩
theorem Reads.below {w w' : World} {b o es len : Nat} {f : Nat → AV} (h : Reads w b o es len f) (hb : Below w.heap.size w w') : Reads w' b o es len f := by
  intro i hi
  obtain ⟨h1, h2, h3⟩ := h i hi
  refine ⟨h1, h2, fun k hk => ?_⟩
  have h4 := h3 k hk
  rw [← h4]
  have h5 : ∃ x, (f i).cells[k]? = some x := ⟨_, List.getElem?_eq_getElem (by rw [AV.size_cells]; omega)⟩
  obtain ⟨x, hx⟩ := h5
  rw [hx] at h4
  exact cell_same (hb.block b (cell_lt h4))
theorem Blk.holds_below {B : Blk} {w w' : World} (h : B.holds w) (hb : Below w.heap.size w w') : B.holds w' :=
  Blk.holds_frame h hb.size fun k hk => hb.block k (by
    rcases hk with hk | hk
    · exact Blk.own_lt h hk
    · exact Blk.reads_lt h hk)

def hideT (ws : List Nat) : Tm → Tm
  | [] => []
  | (k, e) :: r => match memNat ws k with
    | true => hideT ws r
    | false => (k, e) :: hideT ws r
def Tm.app : Tm → Tm → Tm
  | [], M => M
  | x :: r, M => x :: Tm.app r M
def hideM (ws : List Nat) : Mem → Mem
  | [] => []
  | (k, e) :: r => match memNat ws k with
    | true => hideM ws r
    | false => (k, e) :: hideM ws r
section
variable {X : Cx} {tm : Tm} {M : Mem} {K : Exit → Tm → Mem → Prop}
/-- A LOOP, by an invariant over x : α; what the slots ws and the entries ms hold is said by eI and fI, all else stays. -/
theorem s_loopW {α : Type} (ws ms : List Nat) (inv : α → Prop) (eI : α → Tm) (fI : α → Mem) (μ : α → Nat) {c : Code} (x0 : α) (h0 : inv x0) (hle : Le X tm M (Tm.app (eI x0) (hideT ws tm)) (Mem.app (fI x0) (hideM ms M)))
    (round : ∀ x, inv x → CodeS X c (Tm.app (eI x) (hideT ws tm)) (Mem.app (fI x) (hideM ms M)) fun e tm' M' => match e with
      | .normal => ∃ x', inv x' ∧ μ x' < μ x ∧ Le X tm' M' (Tm.app (eI x') (hideT ws tm)) (Mem.app (fI x') (hideM ms M))
      | e => K e tm' M') : CodeS X (.loop c) tm M K := s_loop inv _ _ μ x0 h0 hle round
end
end Go.Proofs.Ytaohdlepocajcaa.V
