import Derived.Test.YtofophjfgalhaaaGreatDoorD14
/-! A function's results; its contract out of its walk; contracts' tables. -/
namespace Go.Proofs.YtofophjfgalhaaaGreatDoor.D
open Go Go.RowKit

def resOne (E : Env) (M : MemF) (tm : TmF) : ResultVar → Option (Prop × AV)
  | .tmp t => match tm t with
    | some (none, av) => some (True, av)
    | _ => none
  | .cell x T => match tm x, E.tb.get T with
    | some (none, .ptr p), some r => loadV M r p
    | _, _ => none
def resAll (E : Env) (M : MemF) (tm : TmF) : List ResultVar → Option (Prop × List AV)
  | [] => some (True, [])
  | r :: l => match resOne E M tm r, resAll E M tm l with
    | some (p, a), some (q, as) => some (p ∧ q, a :: as)
    | _, _ => none
def pack : List AV → AV
  | [a] => a
  | l => .tup (l.foldr .cons .nil)
def resEval (E : Env) (M : MemF) (tm : TmF) (l : List ResultVar) : Option (Prop × AV) := match resAll E M tm l with
  | some (p, as) => some (p, pack as)
  | none => none

def argsTm : Nat → List AV → Tm
  | _, [] => []
  | i, a :: r => (i, none, a) :: argsTm (i + 1) r

theorem argsTm_get : ∀ (l : List AV) (i t : Nat) (e : Option Bool × AV), (argsTm i l).get t = some e → ∃ a, l[t - i]? = some a ∧ i ≤ t ∧ e = (none, a)
  | [], i, t, e, h => by cases h
  | a :: r, i, t, e, h => by
    rw [argsTm, Tm.get_cons] at h
    split at h
    · rename_i hit; cases h; subst hit; exact ⟨a, by simp, Nat.le_refl _, rfl⟩
    · rename_i hit
      obtain ⟨b, h1, h2, h3⟩ := argsTm_get r (i + 1) t e h
      exact ⟨b, by rw [show t - i = (t - (i + 1)) + 1 by omega]; simpa using h1, by omega, h3⟩

section
variable {X : Cx}

theorem resAll_run {tm : Tm} {M : Mem} {a : Act} {w : World} (hA : At X tm M a w) : ∀ {l : List ResultVar} {p : Prop} {as : List AV}, resAll X.E M.get tm.get l = some (p, as) → p →
    (l.mapM fun
      | .tmp t => pure (a.tmps.getD t undef)
      | .cell x t => do loadVar t (← asAddr (a.tmps.getD x undef)) : Sem (List Value)).run X.P w = .ok (as.map AV.val) w
  | [], p, as, h, hp => by cases h; rfl
  | r :: l, p, as, h, hp => by
    simp only [resAll] at h
    split at h
    · rename_i p1 a1 q1 as1 h1 h2
      cases h
      have ih := resAll_run hA h2 hp.2
      rw [List.mapM_cons, Sem.run_bind]
      cases r with
      | tmp t =>
        simp only [resOne] at h1
        split at h1
        · rename_i av ht
          cases h1
          simp only [Sem.run_pure, Result.andThen_ok, Sem.run_bind, ih, (hA.T.slot t _ ht).2]
          rfl
        · cases h1
      | cell x T =>
        simp only [resOne] at h1
        split at h1
        · rename_i pt ro hx hr
          have hv : a.tmps.getD x undef = .pointer (some pt.addr) := (hA.T.slot x _ hx).2
          have hasA : (asAddr (.pointer (some pt.addr))).run X.P w = .ok pt.addr w := rfl
          simp only [hv, Sem.run_bind, hasA, Result.andThen_ok, loadV_run hA.S (X.hb.get hr) h1 hp.1, ih]
          rfl
        · cases h1
    · cases h

theorem resEval_run {tm : Tm} {M : Mem} {a : Act} {w : World} (hA : At X tm M a w) {fn : Func} {p : Prop} {av : AV} (h : resEval X.E M.get tm.get fn.results.toList = some (p, av)) (hp : p) :
    (results fn a.tmps).run X.P w = .ok av.val w := by
  unfold resEval at h
  split at h
  · rename_i q as hq
    cases h
    have h1 := resAll_run hA hq hp
    unfold results
    rw [Sem.run_bind, Array.mapM_eq_mapM_toList, Sem.run_map]
    refine (congrArg (fun r : Result (List Value) => (r.andThen _).andThen _) h1).trans ?_
    simp only [Result.andThen_ok, Sem.run_pure]
    congr 1
    match as with
    | [] => rfl
    | [a] => rfl
    | a :: b :: r =>
      rw [dif_neg (by simp)]
      show Value.tuple _ = Value.tuple ((a :: b :: r).foldr AV.cons .nil).vals.toArray
      rw [foldr_vals]
  · cases h

/-- what must stand at a function's end -/
def retK (X : Cx) (fn : Func) (R : AV → Mem → Prop) : Exit → Tm → Mem → Prop
  | .normal, tm, M => ∃ p av, resEval X.E M.get tm.get fn.results.toList = some (p, av) ∧ p ∧ R av M
  | .ret, tm, M => ∃ p av, resEval X.E M.get tm.get fn.results.toList = some (p, av) ∧ p ∧ R av M
  | _, _, _ => False

/-- A FUNCTION's CONTRACT out of its walk. -/
theorem s_fn {f : FuncId} {fn : Func} {c : Code} (hf : X.P.funcs[f]? = some fn) (hb : fn.body = some c) (hN : fn.ntmps = X.N) {args : List AV} (hlen : args.length ≤ X.N) {M : Mem} {w : World} (hS : Sat X.O X.w0 M.get w) {R : AV → Mem → Prop}
    (h : CodeS X c (argsTm 0 args) M (retK X fn R)) :
    Calls X.P f (args.map AV.val).toArray w fun e w' => ∃ av M', e = .returned av.val ∧ R av M' ∧ Sat X.O X.w0 M'.get w' := by
  refine calls_of_wp hf hb (h _ w _ ⟨⟨?_, fun t e ht => ?_⟩, rfl, hS⟩ fun e tm' M' a' w' hK hA => ?_)
  · simp [hN]; omega
  · obtain ⟨a, h1, _, h3⟩ := argsTm_get args 0 t e ht
    subst h3
    have hlt : t < args.length := by
      rw [Nat.sub_zero] at h1
      exact (List.getElem?_eq_some_iff.1 h1).1
    refine ⟨by simp; omega, ?_⟩
    rw [Nat.sub_zero] at h1
    rw [Array.getD_eq_getD_getElem?, Array.getElem?_append_left (by simpa using hlt)]
    simp [h1]
  · cases e with
    | normal =>
      obtain ⟨p, av, h1, h2, h3⟩ := hK
      exact ⟨hA.d, av.val, resEval_run hA h1 h2, av, M', rfl, h3, hA.S⟩
    | ret =>
      obtain ⟨p, av, h1, h2, h3⟩ := hK
      exact ⟨hA.d, av.val, resEval_run hA h1 h2, av, M', rfl, h3, hA.S⟩
    | _ => exact hK.elim

end

/-! ### A table of contracts -/
/-- Functions that only compute: they answer res(args), whatever the memory. -/
def PureFn (P : Program) (f : FuncId) (ct : List AV → Option (Prop × AV)) : Prop :=
  ∀ args q res, ct args = some (q, res) → q → ∀ w, Calls P f (args.map AV.val).toArray w fun e w' => e = .returned res.val ∧ Below w.heap.size w w'
/-- .. and functions that read memory besides -/
def ReadFn (P : Program) (f : FuncId) (ct : List AV → MemF → Option (Prop × AV)) : Prop :=
  ∀ args M q res, ct args M = some (q, res) → q → ∀ O w0 w, Sat O w0 M w → Calls P f (args.map AV.val).toArray w fun e w' => e = .returned res.val ∧ Below w.heap.size w w'

theorem PureFn.read {P : Program} {f : FuncId} {ct : List AV → Option (Prop × AV)} (h : PureFn P f ct) : ReadFn P f (fun a _ => ct a) := fun args _ q res hq hp _ _ w _ => h args q res hq hp w

/-- f has a body that is entered -/
def HasBody (P : Program) (f : FuncId) : Prop := ∃ fn, P.funcs[f]? = some fn ∧ fn.body.isNone = false ∧ (fn.name == "runtime.NumGoroutine") = false
theorem HasBody.run {P : Program} {f : FuncId} (h : HasBody P f) (args : Array Value) (w : World) : (callFunc f args).run P w = .ok (.enter f args) w := by
  obtain ⟨fn, h1, h2, h3⟩ := h
  unfold callFunc
  simp only [Sem.run_bind, run_program, Result.andThen_ok, h1, h3, h2, Bool.false_eq_true, if_false]
  rfl

theorem upon_calls {P : Program} {f : FuncId} (hf : HasBody P f) {args : Array Value} {w : World} {R : Value → World → Prop} (h : Calls P f args w fun e w' => ∃ v, e = .returned v ∧ R v w') {o : Oper} {a : Act} {next : Act → World → Prop} {Q : Exit → Act → World → Prop}
    (hk : ∀ v w', R v w' → next (a.put o.dst v) w') : o.upon P a next Q ((callFunc f args).run P w) := by
  rw [hf.run]
  show Calls P f args w _
  refine h.mono fun e w' he => ?_
  obtain ⟨v, rfl, hR⟩ := he
  exact hk v w' hR

/-- a call of f answers as c says -/
def CallsOk (P : Program) (f : FuncId) (c : List AV → MemF → Option (Prop × AV)) : Prop :=
  ∀ args M q res, c args M = some (q, res) → q → ∀ O w0 w, Sat O w0 M w → ∀ (o : Oper) (a : Act) (next : Act → World → Prop) (Q : Exit → Act → World → Prop),
    (∀ w', Below w.heap.size w w' → next (a.put o.dst res.val) w') → o.upon P a next Q ((callFunc f (args.map AV.val).toArray).run P w)
theorem CallsOk.fn {P : Program} {f : FuncId} {c : List AV → MemF → Option (Prop × AV)} (hb : HasBody P f) (h : ReadFn P f c) : CallsOk P f c :=
  fun args M q res hq hp O w0 w hS _ _ _ _ hk => upon_calls hb (R := fun v w' => v = res.val ∧ Below w.heap.size w w') ((h args M q res hq hp O w0 w hS).mono fun e w' he => ⟨_, he.1, rfl, he.2⟩) fun v w' hv => by rw [hv.1]; exact hk w' hv.2

/-- a table: a list of functions with what they answer -/
abbrev CtL := List (FuncId × (List AV → MemF → Option (Prop × AV)))
def ctOf : CtL → FuncId → List AV → MemF → Option (Prop × AV)
  | [], _, _, _ => none
  | (k, c) :: r, f, args, M => match Nat.beq k f with
    | true => c args M
    | false => ctOf r f args M
def CtLOk (P : Program) : CtL → Prop
  | [] => True
  | (f, c) :: r => CallsOk P f c ∧ CtLOk P r
theorem CtLOk.ok {P : Program} {O : Nat → Prop} {w0 : World} : ∀ {l : CtL}, CtLOk P l → CtOk P O w0 (ctOf l)
  | [], _, f, args, M, q, res, h, _, _, _, _, _, _, _, _ => by cases h
  | (k, c) :: r, hl, f, args, M, q, res, h, hq, w, hS, o, a, next, Q, hk => by
    simp only [ctOf] at h
    split at h
    · rename_i hkf
      have hkf := Nat.eq_of_beq_eq_true hkf
      subst hkf
      exact hl.1 args M q res h hq O w0 w hS o a next Q hk
    · exact CtLOk.ok hl.2 f args M q res h hq w hS o a next Q hk

/-! ### A world with nothing of one's own -/
def freshO (w : World) : Nat → Prop := fun b => w.heap.size ≤ b
theorem sat_none (w : World) : Sat (freshO w) w (Mem.get []) w :=
  ⟨Keeps.refl _ _, fun _ _ h => (by cases h), fun _ _ _ h => (by cases h), fun _ _ _ _ _ h => (by cases h), fun _ _ _ _ _ h => (by cases h)⟩
theorem Keeps.toBelow {w w' : World} (h : Keeps (freshO w) w w') : Below w.heap.size w w' :=
  ⟨h.os, h.tape, h.output, h.size, fun k hk => h.block k hk (by unfold freshO; omega)⟩

/-- The context in which a function is walked. -/
def cx (P : Program) (tb : Tbl) (eqs : List TypeId) (ct : CtL) (hb : TblOk P tb) (he : EqOk P eqs) (hct : CtLOk P ct) (hmix : P.follows .mixedOrders = true) (w : World) (N : Nat) : Cx :=
  { P := P, E := ⟨tb, eqs, ctOf ct⟩, O := freshO w, w0 := w, N := N, hb := hb, he := he, hct := hct.ok, hO := fun _ h => h, hmix := hmix }

/-- A function that only computes, out of its walk. -/
theorem pure_fn {P : Program} {tb : Tbl} {eqs : List TypeId} {ct : CtL} (hb : TblOk P tb) (he : EqOk P eqs) (hct : CtLOk P ct) (hmix : P.follows .mixedOrders = true) {f : FuncId} {fn : Func} {c : Code} (hf : P.funcs[f]? = some fn) (hbd : fn.body = some c) {args : List AV} (hlen : Nat.ble args.length fn.ntmps = true) {res : AV} {w : World}
    (h : CodeS (cx P tb eqs ct hb he hct hmix w fn.ntmps) c (argsTm 0 args) [] (retK (cx P tb eqs ct hb he hct hmix w fn.ntmps) fn fun av _ => av.val = res.val)) :
    Calls P f (args.map AV.val).toArray w fun e w' => e = .returned res.val ∧ Below w.heap.size w w' := by
  have := s_fn (X := cx P tb eqs ct hb he hct hmix w fn.ntmps) hf hbd rfl (Nat.le_of_ble_eq_true hlen) (sat_none w) h
  refine this.mono fun e w' ⟨av, M', h1, h2, h3⟩ => ⟨by rw [h1, h2], h3.keeps.toBelow⟩

end Go.Proofs.YtofophjfgalhaaaGreatDoor.D
