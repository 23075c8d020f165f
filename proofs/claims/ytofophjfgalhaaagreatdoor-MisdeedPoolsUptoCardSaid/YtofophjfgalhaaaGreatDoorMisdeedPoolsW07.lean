import Derived.Test.YtofophjfgalhaaaGreatDoorMisdeedPoolsW06
import Derived.Defers
import Derived.Conc.MuLone
set_option linter.unusedVariables false
set_option linter.unusedSimpArgs false
set_option maxRecDepth 100000
set_option maxHeartbeats 8000000
namespace Go.Proofs.YtofophjfgalhaaaGreatDoor.V
open Go Go.RowKit
def resOne (E : Env) (M : MemF) (tm : TmF) : ResultVar → Option (Prop × AV)
 | .tmp t => match tm t with
  | some (none, av) => some (True, av)
  | _ => none
 | .cell x T => match tm x, E.tb.get T with
  | some (none, .ptr p), some r => loadV M r p
  | _, _ => none
def resAll (E : Env) (M : MemF) (tm : TmF) : List ResultVar → Option (Prop × List AV)
 | [] => some (True, [])
 | r :: l => match resOne E M tm r, resAll E M tm l with
  | some (p, a), some (q, as) => some (p ∧ q, a :: as)
  | _, _ => none
def pack : List AV → AV
 | [a] => a
 | l => .tup (l.foldr .cons .nil)
def resEval (E : Env) (M : MemF) (tm : TmF) (l : List ResultVar) : Option (Prop × AV) := match resAll E M tm l with
 | some (p, as) => some (p, pack as)
 | none => none
def argsTm : Nat → List AV → Tm
 | _, [] => []
 | i, a :: r => (i, none, a) :: argsTm (i + 1) r
theorem argsTm_get : ∀ (l : List AV) (i t : Nat) (e : Option Bool × AV), (argsTm i l).get t = some e → ∃ a, l[t - i]? = some a ∧ i ≤ t ∧ e = (none, a)
 | [], i, t, e, h => by cases h
 | a :: r, i, t, e, h => by
  rw [argsTm, Tm.get_cons] at h
  split at h
  ·
   rename_i hit; cases h; subst hit; exact ⟨a, by simp, Nat.le_refl _, rfl⟩
  ·
   rename_i hit
   obtain ⟨b, h1, h2, h3⟩ := argsTm_get r (i + 1) t e h
   exact ⟨b, by rw [show t - i = (t - (i + 1)) + 1 by omega]; simpa using h1, by omega, h3⟩
section
variable {X : Cx}
theorem resAll_run {tm : Tm} {M : Mem} {a : Act} {w : World} (hA : At X tm M a w) : ∀ {l : List ResultVar} {p : Prop} {as : List AV}, resAll X.E M.get tm.get l = some (p, as) → p →
  (l.mapM fun
   | .tmp t => pure (a.tmps.getD t undef)
   | .cell x t => do loadVar t (← asAddr (a.tmps.getD x undef)) : Sem (List Value)).run X.P w = .ok (as.map AV.val) w
 | [], p, as, h, hp => by cases h; rfl
 | r :: l, p, as, h, hp => by
  simp only [resAll] at h
  split at h
  ·
   rename_i p1 a1 q1 as1 h1 h2
   cases h
   have ih := resAll_run hA h2 hp.2
   rw [List.mapM_cons, Sem.run_bind]
   cases r with
   | tmp t =>
    simp only [resOne] at h1
    split at h1
    ·
     rename_i av ht
     cases h1
     simp only [Sem.run_pure, Result.andThen_ok, Sem.run_bind, ih, (hA.T.slot t _ ht).2]
     rfl
    ·
     cases h1
   | cell x T =>
    simp only [resOne] at h1
    split at h1
    ·
     rename_i pt ro hx hr
     have hv : a.tmps.getD x undef = .pointer (some pt.addr) := (hA.T.slot x _ hx).2
     have hasA : (asAddr (.pointer (some pt.addr))).run X.P w = .ok pt.addr w := rfl
     simp only [hv, Sem.run_bind, hasA, Result.andThen_ok, loadV_run hA.S (X.hb.get hr) h1 hp.1, ih]
     rfl
    ·
     cases h1
  ·
   cases h
theorem resEval_run {tm : Tm} {M : Mem} {a : Act} {w : World} (hA : At X tm M a w) {fn : Func} {p : Prop} {av : AV} (h : resEval X.E M.get tm.get fn.results.toList = some (p, av)) (hp : p) :
  (results fn a.tmps).run X.P w = .ok av.val w := by
 unfold resEval at h
 split at h
 ·
  rename_i q as hq
  cases h
  have h1 := resAll_run hA hq hp
  unfold results
  rw [Sem.run_bind, Array.mapM_eq_mapM_toList, Sem.run_map]
  refine (congrArg (fun r : Result (List Value) => (r.andThen _).andThen _) h1).trans ?_
  simp only [Result.andThen_ok, Sem.run_pure]
  congr 1
  match as with
  | [] => rfl
  | [a] => rfl
  | a :: b :: r =>
   rw [dif_neg (by simp)]
   show Value.tuple _ = Value.tuple ((a :: b :: r).foldr AV.cons .nil).vals.toArray
   rw [foldr_vals]
 ·
  cases h
def retK (X : Cx) (fn : Func) (R : AV → Mem → Prop) : Exit → Tm → Mem → Prop
 | .normal, tm, M => ∃ p av, resEval X.E M.get tm.get fn.results.toList = some (p, av) ∧ p ∧ M.dfs = [] ∧ R av M
 | .ret, tm, M => ∃ p av, resEval X.E M.get tm.get fn.results.toList = some (p, av) ∧ p ∧ M.dfs = [] ∧ R av M
 | _, _, _ => False
theorem args_sat {args : List AV} {N : Nat} (hlen : args.length ≤ N) : SatT N (argsTm 0 args).get { tmps := (args.map AV.val).toArray ++ Array.replicate (N - (args.map AV.val).toArray.size) undef, defers := [] } := by
 refine ⟨by simp; omega, fun t e ht => ?_⟩
 obtain ⟨a, h1, _, h3⟩ := argsTm_get args 0 t e ht
 subst h3
 have hlt : t < args.length := by
  rw [Nat.sub_zero] at h1
  exact (List.getElem?_eq_some_iff.1 h1).1
 refine ⟨by simp; omega, ?_⟩
 rw [Nat.sub_zero] at h1
 rw [Array.getD_eq_getD_getElem?, Array.getElem?_append_left (by simpa using hlt)]
 simp [h1]
theorem s_fn {f : FuncId} {fn : Func} {c : Code} (hf : X.P.funcs[f]? = some fn) (hb : fn.body = some c) (hN : fn.ntmps = X.N) {args : List AV} (hlen : args.length ≤ X.N) {M : Mem} (hd : M.dfs = []) {w : World} (hS : Sat X.O X.w0 M.get w) {R : AV → Mem → Prop}
  (h : CodeS X c (argsTm 0 args) M (retK X fn R)) :
  Calls X.P f (args.map AV.val).toArray w fun e w' => ∃ av M', e = .returned av.val ∧ R av M' ∧ Sat X.O X.w0 M'.get w' := by
 refine calls_of_wp hf hb (h _ w _ ⟨by rw [hN]; exact args_sat hlen, hd.symm, hS⟩ fun e tm' M' a' w' hK hA => ?_)
 cases e with
 | normal =>
  obtain ⟨p, av, h1, h2, h4, h3⟩ := hK
  exact ⟨by rw [hA.d, h4], av.val, resEval_run hA h1 h2, av, M', rfl, h3, hA.S⟩
 | ret =>
  obtain ⟨p, av, h1, h2, h4, h3⟩ := hK
  exact ⟨by rw [hA.d, h4], av.val, resEval_run hA h1 h2, av, M', rfl, h3, hA.S⟩
 | _ => exact hK.elim
end
def PureFn (P : Program) (f : FuncId) (ct : List AV → Option (Prop × AV)) : Prop :=
 ∀ args q res, ct args = some (q, res) → q → ∀ w, Calls P f (args.map AV.val).toArray w fun e w' => e = .returned res.val ∧ Below w.heap.size w w'
def ReadFn (P : Program) (f : FuncId) (ct : List AV → MemF → Option (Prop × AV)) : Prop :=
 ∀ args M q res, ct args M = some (q, res) → q → ∀ O w0 w, Sat O w0 M w → Calls P f (args.map AV.val).toArray w fun e w' => e = .returned res.val ∧ Below w.heap.size w w'
def TurnFn (P : Program) (f : FuncId) (ct : Nat → List AV → MemF → Option Res) : Prop :=
 ∀ tag args M r, ct tag args M = some r → r.ok → ∀ O w0 w, Sat O w0 M w → Calls P f (args.map AV.val).toArray w fun e w' => ∃ x, r.can x ∧ e = .returned (r.out x).val ∧ Turn M w w' (zipM r.tags (r.mem x)).get
theorem PureFn.read {P : Program} {f : FuncId} {ct : List AV → Option (Prop × AV)} (h : PureFn P f ct) : ReadFn P f (fun a _ => ct a) := fun args _ q res hq hp _ _ w _ => h args q res hq hp w
def HasBody (P : Program) (f : FuncId) : Prop := ∃ fn, P.funcs[f]? = some fn ∧ fn.body.isNone = false ∧ (fn.name == "runtime.NumGoroutine") = false
theorem HasBody.run {P : Program} {f : FuncId} (h : HasBody P f) (args : Array Value) (w : World) : (callFunc f args).run P w = .ok (.enter f args) w := by
 obtain ⟨fn, h1, h2, h3⟩ := h
 unfold callFunc
 simp only [Sem.run_bind, run_program, Result.andThen_ok, h1, h3, h2, Bool.false_eq_true, if_false]
 rfl
theorem upon_calls {P : Program} {f : FuncId} (hf : HasBody P f) {args : Array Value} {w : World} {R : Value → World → Prop} (h : Calls P f args w fun e w' => ∃ v, e = .returned v ∧ R v w') {o : Oper} {a : Act} {next : Act → World → Prop} {Q : Exit → Act → World → Prop}
  (hk : ∀ v w', R v w' → next (a.put o.dst v) w') : o.upon P a next Q ((callFunc f args).run P w) := by
 rw [hf.run]
 show Calls P f args w _
 refine h.mono fun e w' he => ?_
 obtain ⟨v, rfl, hR⟩ := he
 exact hk v w' hR
def CallsOk (P : Program) (f : FuncId) (c : List AV → MemF → Option (Prop × AV)) : Prop :=
 ∀ args M q res, c args M = some (q, res) → q → ∀ O w0 w, Sat O w0 M w → ∀ (o : Oper) (a : Act) (next : Act → World → Prop) (Q : Exit → Act → World → Prop),
  (∀ w', Below w.heap.size w w' → next (a.put o.dst res.val) w') → o.upon P a next Q ((callFunc f (args.map AV.val).toArray).run P w)
theorem CallsOk.fn {P : Program} {f : FuncId} {c : List AV → MemF → Option (Prop × AV)} (hb : HasBody P f) (h : ReadFn P f c) : CallsOk P f c :=
 fun args M q res hq hp O w0 w hS _ _ _ _ hk => upon_calls hb (R := fun v w' => v = res.val ∧ Below w.heap.size w w') ((h args M q res hq hp O w0 w hS).mono fun e w' he => ⟨_, he.1, rfl, he.2⟩) fun v w' hv => by rw [hv.1]; exact hk w' hv.2
abbrev CtL := List (FuncId × (List AV → MemF → Option (Prop × AV)))
def ctOf : CtL → FuncId → List AV → MemF → Option (Prop × AV)
 | [], _, _, _ => none
 | (k, c) :: r, f, args, M => match Nat.beq k f with
  | true => c args M
  | false => ctOf r f args M
def CtLOk (P : Program) : CtL → Prop
 | [] => True
 | (f, c) :: r => CallsOk P f c ∧ CtLOk P r
theorem CtLOk.ok {P : Program} {O : Nat → Prop} {w0 : World} : ∀ {l : CtL}, CtLOk P l → CtOk P O w0 (ctOf l)
 | [], _, f, args, M, q, res, h, _, _, _, _, _, _, _, _ => by cases h
 | (k, c) :: r, hl, f, args, M, q, res, h, hq, w, hS, o, a, next, Q, hk => by
  simp only [ctOf] at h
  split at h
  ·
   rename_i hkf
   have hkf := Nat.eq_of_beq_eq_true hkf
   subst hkf
   exact hl.1 args M q res h hq O w0 w hS o a next Q hk
  ·
   exact CtLOk.ok hl.2 f args M q res h hq w hS o a next Q hk
abbrev CrL := List (FuncId × (Nat → List AV → MemF → Option Res))
def crOf : CrL → FuncId → Nat → List AV → MemF → Option Res
 | [], _, _, _, _ => none
 | (k, c) :: r, f, tag, args, M => match Nat.beq k f with
  | true => c tag args M
  | false => crOf r f tag args M
def CrLOk (P : Program) : CrL → Prop
 | [] => True
 | (f, c) :: r => (HasBody P f ∧ TurnFn P f c) ∧ CrLOk P r
theorem CrLOk.ok {P : Program} {O : Nat → Prop} {w0 : World} : ∀ {l : CrL}, CrLOk P l → CrOk P O w0 (crOf l)
 | [], _, f, tag, args, M, r, h, _, _, _, _, _, _, _, _ => by cases h
 | (k, c) :: rest, hl, f, tag, args, M, r, h, hq, w, hS, o, a, next, Q, hk => by
  simp only [crOf] at h
  split at h
  ·
   rename_i hkf
   have hkf := Nat.eq_of_beq_eq_true hkf
   subst hkf
   refine upon_calls hl.1.1 (R := fun v w' => ∃ x, r.can x ∧ v = (r.out x).val ∧ Turn M w w' (zipM r.tags (r.mem x)).get) ((hl.1.2 tag args M r h hq O w0 w hS).mono fun e w' ⟨x, h1, h2, h3⟩ => ⟨_, h2, x, h1, rfl, h3⟩) fun v w' ⟨x, h1, h2, h3⟩ => ?_
   rw [h2]
   exact hk x w' h1 h3
  ·
   exact CrLOk.ok hl.2 f tag args M r h hq w hS o a next Q hk
structure Tabs (P : Program) : Type 1 where
 tb : Tbl
 eqs : List TypeId
 hb : TblOk P tb
 he : EqOk P eqs
 hmix : P.follows .mixedOrders = true
def cx {P : Program} (B : Tabs P) (ct : CtL) (hct : CtLOk P ct) (cr : CrL) (hcr : CrLOk P cr) (O : Nat → Prop) (w : World) (N : Nat) : Cx :=
 { P := P, E := ⟨B.tb, B.eqs, ctOf ct, crOf cr⟩, O := fun b => w.heap.size ≤ b ∨ O b, w0 := w, N := N, hb := B.hb, he := B.he, hct := hct.ok, hcr := hcr.ok, hO := fun _ h => .inl h, hmix := B.hmix }
def allHold (w : World) : Mem → Prop
 | [] => True
 | (_, B) :: r => B.holds w ∧ allHold w r
theorem allHold_get {w : World} : ∀ {M : Mem}, allHold w M → ∀ n B, M.get n = some B → B.holds w
 | [], _, _, _, h => by cases h
 | (k, B0) :: r, hr, n, B, h => by
  rw [Mem.get_cons] at h
  split at h
  ·
   cases h; exact hr.1
  ·
   exact allHold_get hr.2 n B h
def noOwn : Mem → Prop
 | [] => True
 | (_, B) :: r => (∀ k, ¬ B.own k) ∧ noOwn r
theorem noOwn_get : ∀ {M : Mem}, noOwn M → ∀ n B k, M.get n = some B → ¬ B.own k
 | [], _, _, _, _, h => by cases h
 | (j, B0) :: r, hr, n, B, k, h => by
  rw [Mem.get_cons] at h
  split at h
  ·
   cases h; exact hr.1 k
  ·
   exact noOwn_get hr.2 n B k h
theorem sat_ro {O : Nat → Prop} {w : World} {M : Mem} (h1 : noOwn M) (h2 : allHold w M) : Sat O w M.get w :=
 ⟨Keeps.refl _ _, fun n B h => allHold_get h2 n B h, fun _ _ _ h ho => (noOwn_get h1 _ _ _ h ho).elim, fun _ _ _ _ _ h _ ho => (noOwn_get h1 _ _ _ h ho).elim, fun _ _ _ _ _ h _ ho => (noOwn_get h1 _ _ _ h ho).elim⟩
section
variable {P : Program} {B : Tabs P} {ct : CtL} {hct : CtLOk P ct} {cr : CrL} {hcr : CrLOk P cr} {f : FuncId} {fn : Func} {c : Code}
theorem ro_fn (B : Tabs P) {ct : CtL} (hct : CtLOk P ct) {cr : CrL} (hcr : CrLOk P cr) (hf : P.funcs[f]? = some fn) (hbd : fn.body = some c) {args : List AV} (hlen : Nat.ble args.length fn.ntmps = true) {res : AV} {w : World} {M : Mem} (hd : M.dfs = []) (h1 : noOwn M) (h2 : allHold w M)
  (h : CodeS (cx B ct hct cr hcr (fun _ => False) w fn.ntmps) c (argsTm 0 args) M (retK (cx B ct hct cr hcr (fun _ => False) w fn.ntmps) fn fun av _ => av.val = res.val)) :
  Calls P f (args.map AV.val).toArray w fun e w' => e = .returned res.val ∧ Below w.heap.size w w' := by
 have := s_fn (X := cx B ct hct cr hcr (fun _ => False) w fn.ntmps) hf hbd rfl (Nat.le_of_ble_eq_true hlen) hd (sat_ro h1 h2) h
 refine this.mono fun e w' ⟨av, M', h1, h2, h3⟩ => ⟨by rw [h1, h2], ?_⟩
 have hk := h3.keeps
 exact ⟨hk.os, hk.tape, hk.output, hk.drawn, hk.size, fun k hk' => hk.block k hk' (by show ¬ (_ ∨ False); rw [or_false]; show ¬ (w.heap.size ≤ k); omega)⟩
def outsOk (M : Mem) : List Nat → List Blk → Prop
 | [], [] => True
 | t :: ts, B :: L => ((∃ B', M.get t = some B' ∧ B'.le B) ∧ ∀ k, ¬ B.reads k) ∧ outsOk M ts L
 | _, _ => False
theorem outsOk_at {M : Mem} : ∀ {ts : List Nat} {L : List Blk}, outsOk M ts L → ts.length = L.length ∧ ∀ (i : Nat) (B : Blk), L[i]? = some B → ∃ t B', ts[i]? = some t ∧ M.get t = some B' ∧ B'.le B ∧ ∀ k, ¬ B.reads k
 | [], [], _ => ⟨rfl, fun i B h => by simp at h⟩
 | [], _ :: _, h => h.elim
 | _ :: _, [], h => h.elim
 | t :: ts, B0 :: L, h => by
  obtain ⟨⟨⟨B', h1, h2⟩, h3⟩, h4⟩ := h
  obtain ⟨h5, h6⟩ := outsOk_at h4
  refine ⟨by simp [h5], fun i B hi => ?_⟩
  cases i with
  | zero => simp at hi; subst hi; exact ⟨t, B', rfl, h1, h2, h3⟩
  | succ i => obtain ⟨t', B'', g1, g2⟩ := h6 i B (by simpa using hi); exact ⟨t', B'', by simpa using g1, g2⟩
theorem zipM_idx : ∀ {ts : List Nat} {L : List Blk} {n : Nat} {B : Blk}, (zipM ts L).get n = some B → ∃ i : Nat, ts[i]? = some n ∧ L[i]? = some B
 | [], L, n, B, h => by cases L <;> cases h
 | t :: ts, [], n, B, h => by cases h
 | t :: ts, B' :: L, n, B, h => by
  have h' : (if t = n then some B' else (zipM ts L).get n) = some B := by rw [← Mem.get_cons]; exact h
  split at h'
  ·
   rename_i e; cases h'; exact ⟨0, by simp [e], rfl⟩
  ·
   obtain ⟨i, h1, h2⟩ := zipM_idx h'; exact ⟨i + 1, by simpa using h1, by simpa using h2⟩
theorem zipM_some : ∀ {ts : List Nat} {L : List Blk} {n : Nat}, ts.length = L.length → n ∈ ts → ∃ B, (zipM ts L).get n = some B
 | [], L, n, _, h => by cases h
 | t :: ts, [], n, hl, h => by cases hl
 | t :: ts, B' :: L, n, hl, h => by
  show ∃ B, Mem.get ((t, B') :: zipM ts L) n = some B
  rw [Mem.get_cons]
  split
  ·
   exact ⟨_, rfl⟩
  ·
   rename_i hne
   rcases List.mem_cons.1 h with rfl | h
   ·
    exact absurd rfl hne
   ·
    exact zipM_some (by simpa using hl) h
theorem turn_fn (B : Tabs P) {ct : CtL} (hct : CtLOk P ct) {cr : CrL} (hcr : CrLOk P cr) (hf : P.funcs[f]? = some fn) (hbd : fn.body = some c) {args : List AV} (hlen : Nat.ble args.length fn.ntmps = true) {M : MemF} {O0 : Nat → Prop} {w0 w : World} (hS0 : Sat O0 w0 M w) (r : Res)
  (Mc : Mem) (own : List (Nat × Nat)) (ts' : List Nat) (hd : Mc.dfs = []) (hold : allHold w Mc)
  (hown : ∀ n' B' k, Mc.get n' = some B' → B'.own k → ∃ n B, (n', n) ∈ own ∧ M n = some B ∧ B.own k)
  (hread : ∀ n' B' k, Mc.get n' = some B' → B'.reads k → ∀ n B n2, (n2, n) ∈ own → M n = some B → ¬ B.own k)
  (hinj : ∀ a b n, (a, n) ∈ own → (b, n) ∈ own → a = b) (hsub : ∀ a n, (a, n) ∈ own → n ∈ r.tags) (hnd : ts'.Nodup) (htl : r.tags.length = ts'.length)
  (h : CodeS (cx B ct hct cr hcr (fun b => ∃ a n B, (a, n) ∈ own ∧ M n = some B ∧ B.own b) w fn.ntmps) c (argsTm 0 args) Mc (retK (cx B ct hct cr hcr (fun b => ∃ a n B, (a, n) ∈ own ∧ M n = some B ∧ B.own b) w fn.ntmps) fn fun av M' => ∃ x, r.can x ∧ av.val = (r.out x).val ∧ outsOk M' ts' (r.mem x))) :
  Calls P f (args.map AV.val).toArray w fun e w' => ∃ x, r.can x ∧ e = .returned (r.out x).val ∧ Turn M w w' (zipM r.tags (r.mem x)).get := by
 have hS : Sat (fun b => w.heap.size ≤ b ∨ ∃ a n B, (a, n) ∈ own ∧ M n = some B ∧ B.own b) w Mc.get w := by
  refine ⟨Keeps.refl _ _, fun n B h => allHold_get hold n B h, fun n' B' k h ho => ?_, fun n' m' B1 B2 k h1 h2 o1 o2 => ?_, fun n' m' B1 B2 k h1 h2 o1 hr => ?_⟩
  ·
   obtain ⟨n, B, h1, h2, h3⟩ := hown n' B' k h ho
   exact .inr ⟨n', n, B, h1, h2, h3⟩
  ·
   obtain ⟨n, B, a1, a2, a3⟩ := hown n' B1 k h1 o1
   obtain ⟨m, C, b1, b2, b3⟩ := hown m' B2 k h2 o2
   have := hS0.apart _ _ _ _ _ a2 b2 a3 b3
   subst this
   exact hinj _ _ _ a1 b1
  ·
   obtain ⟨n, B, a1, a2, a3⟩ := hown n' B1 k h1 o1
   exact hread m' B2 k h2 hr n B n' a1 a2 a3
 have := s_fn (X := cx B ct hct cr hcr (fun b => ∃ a n B, (a, n) ∈ own ∧ M n = some B ∧ B.own b) w fn.ntmps) hf hbd rfl (Nat.le_of_ble_eq_true hlen) hd hS h
 refine this.mono fun e w' ⟨av, M', h1, ⟨x, hx, hav, houts⟩, h3⟩ => ⟨x, hx, by rw [h1, hav], ?_⟩
 obtain ⟨ol, oi⟩ := outsOk_at houts
 have hlens : r.tags.length = (r.mem x).length := by rw [htl, ol]
 refine ⟨h3.keeps.os, h3.keeps.tape, h3.keeps.output, h3.keeps.drawn, h3.keeps.size, fun k hk hno => ?_, fun n C hL => ?_, fun n C b hL ho => ?_, fun n m C C' b hL hL' ho ho' => ?_, fun n C b hL => ?_⟩
 ·
  refine h3.keeps.block k hk fun hO => ?_
  rcases hO with hO | ⟨a, n, C, g1, g2, g3⟩
  ·
   omega
  ·
   obtain ⟨C', hC'⟩ := zipM_some hlens (hsub a n g1)
   exact hno n C C' hC' g2 g3
 ·
  obtain ⟨i, _, hi⟩ := zipM_idx hL
  obtain ⟨t, C', _, g2, g3, _⟩ := oi i C hi
  exact g3.2.2 _ (h3.holds _ _ g2)
 ·
  obtain ⟨i, _, hi⟩ := zipM_idx hL
  obtain ⟨t, C', _, g2, g3, _⟩ := oi i C hi
  rcases h3.own _ _ _ g2 (g3.1 _ ho) with hO | ⟨a, n', D, k1, k2, k3⟩
  ·
   exact .inl hO
  ·
   obtain ⟨C'', hC''⟩ := zipM_some hlens (hsub a n' k1)
   exact .inr ⟨n', D, C'', hC'', k2, k3⟩
 ·
  obtain ⟨i, hi1, hi⟩ := zipM_idx hL
  obtain ⟨j, hj1, hj⟩ := zipM_idx hL'
  obtain ⟨t, D, g1, g2, g3, _⟩ := oi i C hi
  obtain ⟨u, D', k1, k2, k3, _⟩ := oi j C' hj
  have := h3.apart _ _ _ _ _ g2 k2 (g3.1 _ ho) (k3.1 _ ho')
  subst this
  obtain ⟨li, lie⟩ := List.getElem?_eq_some_iff.1 g1
  obtain ⟨lj, lje⟩ := List.getElem?_eq_some_iff.1 k1
  have : i = j := (List.getElem?_inj li hnd).1 (g1.trans k1.symm)
  subst this
  rw [hi1] at hj1
  exact Option.some.inj hj1
 ·
  obtain ⟨i, _, hi⟩ := zipM_idx hL
  obtain ⟨_, _, _, _, _, g4⟩ := oi i C hi
  exact g4 b
end
def roS (n : Nat) (base : Option (Nat × Nat)) (es len cap : Nat) : AV := .gs n 0 base es 0 len cap
def roB (base : Option (Nat × Nat)) (es len : Nat) (f : Nat → AV) : Blk := .vro es (fun _ => base) (fun _ => len) (fun _ => f)
theorem roS_val (n : Nat) (base : Option (Nat × Nat)) (es len cap : Nat) : (roS n base es len cap).val = slV base len cap := by
 unfold roS slV; rw [gs_val]; simp
theorem roB_holds {w : World} {base : Option (Nat × Nat)} {es len : Nat} {f : Nat → AV} (h : len ≠ 0 → ∃ b o, base = some (b, o) ∧ Reads w b o es len f) : (roB base es len f).holds w := by
 intro _
 refine ⟨fun hb => ?_, fun b o hb i hi => ?_⟩
 ·
  rcases Nat.eq_zero_or_pos len with h0 | h0
  ·
   exact h0
  ·
   obtain ⟨b, o, h1, _⟩ := h (by omega); rw [h1] at hb; cases hb
 ·
  have hi : i < len := hi
  obtain ⟨b', o', h1, h2⟩ := h (by omega)
  rw [h1] at hb
  cases hb
  exact h2 i hi
theorem roB_noOwn {base : Option (Nat × Nat)} {es len : Nat} {f : Nat → AV} (k : Nat) : ¬ (roB base es len f).own k := id
def roP (n b o es : Nat) : AV := .ptr ⟨n, 0, b, o, es, 0, 0, 0, false⟩
theorem roP_val (n b o es : Nat) : (roP n b o es).val = .pointer (some ⟨b, o, none⟩) := by
 simp [roP, AV.val, AV.den, Pt.addr, Pt.cell]
theorem ptr_val (p : Pt) : (AV.ptr p).val = .pointer (some ⟨p.b, p.cell, none⟩) := rfl
theorem AV.sub_one : ∀ (a : AV) {g : Bool} {off n : Nat} {s : AV}, a.sub g off n = some s → a.one = true → s.one = true := by
 intro a
 induction a with
 | v x | ptr p | sl p len cap | mp m b | gs m ix a es i0 len cap | fn f c _ =>
  intro g off n s h ho
  simp only [AV.sub] at h
  split at h
  ·
   cases h; exact ho
  ·
   cases h
 | tup l _ => intro g off n s h; cases h
 | nil => intro g off n s h; cases h
 | ints k m l =>
  intro g off n s h ho
  cases g with
  | true =>
   simp only [AV.sub] at h
   split at h
   ·
    cases h; rfl
   ·
    cases h
  | false =>
   simp only [AV.sub] at h
   split at h
   ·
    cases h; rfl
   ·
    cases h
 | cons a b iha ihb =>
  intro g off n s h ho
  simp only [AV.one, Bool.and_eq_true] at ho
  simp only [AV.sub] at h
  split at h
  ·
   exact iha h ho.1
  ·
   exact ihb h ho.2
 | agg l ih =>
  intro g off n s h ho
  simp only [AV.sub] at h
  split at h
  ·
   cases h; exact ho
  ·
   exact ih h ho
def ptrOf (M : MemF) (p : Pt) (g : Bool) (n : Nat) : Option (Prop × AV) := match elemAt M p with
 | some (c, e) => match e.sub g p.off n with
  | some s => some (c ∧ p.j = 0, s)
  | none => none
 | none => none
theorem ptrOf_spec {O : Nat → Prop} {w0 w : World} {M : MemF} (hS : Sat O w0 M w) {p : Pt} {g : Bool} {n : Nat} {c : Prop} {s : AV} (h : ptrOf M p g n = some (c, s)) (hc : c) : Reads w p.b p.cell n 1 (fun _ => s) := by
 unfold ptrOf at h
 split at h
 ·
  rename_i c0 e he
  split at h
  ·
   rename_i s' hs
   cases h
   obtain ⟨hc, hj⟩ := hc
   have hcell := elemAt_spec hS he hc
   obtain ⟨hp, _⟩ := AV.sub_spec e hs
   refine fun i hi => ⟨hp.1, AV.sub_one e hs (elemAt_one hS he hc), fun k hk => ?_⟩
   have hi0 : i = 0 := by omega
   subst hi0
   have hle : p.off + n ≤ e.cells.length := hp.2.1
   rw [AV.size_cells] at hle
   have := hcell (p.off + k) (by omega)
   rw [getElem?_part hp hk] at this
   rw [← this]
   unfold Pt.cell
   rw [hj]
   congr 2; omega
  ·
   cases h
 ·
  cases h
theorem p64 : (2 : Int) ^ 64 = 18446744073709551616 := by decide
theorem p63 : (2 : Int) ^ (64 - 1) = 9223372036854775808 := by decide
theorem wi64 {n : Int} (h1 : -9223372036854775808 ≤ n) (h2 : n < 9223372036854775808) : IntKind.i64.wrap n = n := by
 unfold IntKind.wrap
 simp only [IntKind.signed, IntKind.bits, Bool.true_and, p64, p63, decide_eq_true_eq]
 split <;> omega
theorem wu64 {n : Int} (h1 : 0 ≤ n) (h2 : n < 18446744073709551616) : IntKind.u64.wrap n = n := by
 unfold IntKind.wrap
 simp only [IntKind.signed, IntKind.bits, Bool.false_and, Bool.false_eq_true, if_false, p64]
 omega
section
variable {X : Cx} {tm : Tm} {M : Mem}
end
theorem Reads.below {w w' : World} {b o es len : Nat} {f : Nat → AV} (h : Reads w b o es len f) (hb : Below w.heap.size w w') : Reads w' b o es len f := by
 intro i hi
 obtain ⟨h1, h2, h3⟩ := h i hi
 refine ⟨h1, h2, fun k hk => ?_⟩
 have h4 := h3 k hk
 rw [← h4]
 have h5 : ∃ x, (f i).cells[k]? = some x := ⟨_, List.getElem?_eq_getElem (by rw [AV.size_cells]; omega)⟩
 obtain ⟨x, hx⟩ := h5
 rw [hx] at h4
 exact cell_same (hb.block b (cell_lt h4))
def hideT (ws : List Nat) : Tm → Tm
 | [] => []
 | (k, e) :: r => match memNat ws k with
  | true => hideT ws r
  | false => (k, e) :: hideT ws r
def Tm.app : Tm → Tm → Tm
 | [], M => M
 | x :: r, M => x :: Tm.app r M
def hideM (ws : List Nat) : Mem → Mem
 | [] => []
 | (k, e) :: r => match memNat ws k with
  | true => hideM ws r
  | false => (k, e) :: hideM ws r
section
variable {X : Cx} {tm : Tm} {M : Mem} {K : Exit → Tm → Mem → Prop}
theorem s_loopW {α : Type} (ws ms : List Nat) (inv : α → Prop) (eI : α → Tm) (fI : α → Mem) (μ : α → Nat) {c : Code} (x0 : α) (h0 : inv x0) (hle : Le X tm M (Tm.app (eI x0) (hideT ws tm)) (Mem.app (fI x0) (hideM ms M)))
  (round : ∀ x, inv x → CodeS X c (Tm.app (eI x) (hideT ws tm)) (Mem.app (fI x) (hideM ms M)) fun e tm' M' => match e with
   | .normal => ∃ x', inv x' ∧ μ x' < μ x ∧ Le X tm' M' (Tm.app (eI x') (hideT ws tm)) (Mem.app (fI x') (hideM ms M))
   | e => K e tm' M') : CodeS X (.loop c) tm M K := s_loop inv _ _ μ x0 h0 hle round
end
section
variable {X : Cx} {tm : Tm} {M : Mem}
theorem oA {l0 : List Oper} {i : Nat} {o : Oper} {rest : List Oper} {K : Tm → Mem → Prop} {g : Option Bool} {ok : Prop} {can : Unit → Prop} {av : AV} {mem : Unit → List Blk} {d : Nat} (hd : o.dst = some d)
  (h : opEval X.E (dstL l0) X.N M.get tm.get o = some (g, ⟨Unit, ok, can, fun _ => av, [], mem⟩)) (hcan : can ()) (hk : OpsS X l0 (i + 1) rest ((d, g, av) :: tm) M K) (hok : ok := by first | exact True.intro | ((try simp only [needIf]); (try simp only [need]); (try simp only [imp]); done) | ((try simp only [needIf]); (try simp only [need]); (try simp only [imp]); (try simp only [cutOff]); (repeat' apply And.intro) <;> (first | trivial | rfl | omega | (simp; done) | (simp; omega) | (intros; rfl) | (intros; trivial) | (simp only [IntKind.wrap_i64]; omega) | (exact Nat.le_trans (Nat.mul_le_mul_right _ (show _ ≤ 100000000001 by omega)) (by decide)) | (exact Nat.le_trans (Nat.mul_le_mul_right _ (show _ ≤ 17592186044416 by omega)) (by decide)) | (intro hg_; first | exact hg_ | ((try simp only [decide_eq_true_eq] at hg_); (try rw [wi64 (by omega) (by omega)]); (repeat' apply And.intro) <;> (first | trivial | rfl | omega | (intros; rfl) | (intros; trivial))))))) : OpsS X l0 i (o :: rest) tm M K := o_val hd h hcan hok hk
theorem oB {l0 : List Oper} {i : Nat} {o : Oper} {rest : List Oper} {K : Tm → Mem → Prop} {g : Option Bool} {β : Type} {ok : Prop} {can : β → Prop} {out : β → AV} {t : Nat} {mem : β → Blk} {d : Nat} (hd : o.dst = some d)
  (h : opEval X.E (dstL l0) X.N M.get tm.get o = some (g, ⟨β, ok, can, out, [t], fun x => [mem x]⟩)) (hnd : noDfr [t] = true) (hk : ∀ x, can x → OpsS X l0 (i + 1) rest ((d, g, out x) :: tm) ((t, mem x) :: M) K) (hne : ∃ x, can x := by first | exact ⟨0, trivial⟩ | exact ⟨(none, _), Nat.le_refl _⟩ | exact ⟨(), trivial⟩ | exact ⟨fun _ => False, trivial⟩) (hok : ok := by first | exact True.intro | ((try simp only [needIf]); (try simp only [need]); (try simp only [imp]); done) | ((try simp only [needIf]); (try simp only [need]); (try simp only [imp]); (try simp only [cutOff]); (repeat' apply And.intro) <;> (first | trivial | rfl | omega | (simp; done) | (simp; omega) | (intros; rfl) | (intros; trivial) | (simp only [IntKind.wrap_i64]; omega) | (exact Nat.le_trans (Nat.mul_le_mul_right _ (show _ ≤ 100000000001 by omega)) (by decide)) | (exact Nat.le_trans (Nat.mul_le_mul_right _ (show _ ≤ 17592186044416 by omega)) (by decide)) | (intro hg_; first | exact hg_ | ((try simp only [decide_eq_true_eq] at hg_); (try rw [wi64 (by omega) (by omega)]); (repeat' apply And.intro) <;> (first | trivial | rfl | omega | (intros; rfl) | (intros; trivial))))))) : OpsS X l0 i (o :: rest) tm M K := o_new hd h hnd hne hok hk
theorem oC {l0 : List Oper} {i : Nat} {o : Oper} {rest : List Oper} {K : Tm → Mem → Prop} {g : Option Bool} {ok : Prop} {can : Unit → Prop} {out : Unit → AV} {t : Nat} {B : Blk} (hd : o.dst = none)
  (h : opEval X.E (dstL l0) X.N M.get tm.get o = some (g, ⟨Unit, ok, can, out, [t], fun _ => [B]⟩)) (hnd : noDfr [t] = true) (hcan : can ()) (hk : OpsS X l0 (i + 1) rest tm ((t, B) :: M) K) (hok : ok := by first | exact True.intro | ((try simp only [needIf]); (try simp only [need]); (try simp only [imp]); done) | ((try simp only [needIf]); (try simp only [need]); (try simp only [imp]); (try simp only [cutOff]); (repeat' apply And.intro) <;> (first | trivial | rfl | omega | (simp; done) | (simp; omega) | (intros; rfl) | (intros; trivial) | (simp only [IntKind.wrap_i64]; omega) | (exact Nat.le_trans (Nat.mul_le_mul_right _ (show _ ≤ 100000000001 by omega)) (by decide)) | (exact Nat.le_trans (Nat.mul_le_mul_right _ (show _ ≤ 17592186044416 by omega)) (by decide)) | (intro hg_; first | exact hg_ | ((try simp only [decide_eq_true_eq] at hg_); (try rw [wi64 (by omega) (by omega)]); (repeat' apply And.intro) <;> (first | trivial | rfl | omega | (intros; rfl) | (intros; trivial))))))) : OpsS X l0 i (o :: rest) tm M K := o_put hd h hnd hcan hok hk
theorem oB2 {l0 : List Oper} {i : Nat} {o : Oper} {rest : List Oper} {K : Tm → Mem → Prop} {g : Option Bool} {β : Type} {ok : Prop} {can : β → Prop} {out : β → AV} {t1 t2 : Nat} {m1 m2 : β → Blk} {d : Nat} (hd : o.dst = some d)
  (h : opEval X.E (dstL l0) X.N M.get tm.get o = some (g, ⟨β, ok, can, out, [t1, t2], fun x => [m1 x, m2 x]⟩)) (hnd : noDfr [t1, t2] = true) (hne : ∃ x, can x) (hok : ok) (hk : ∀ x, can x → OpsS X l0 (i + 1) rest ((d, g, out x) :: tm) ((t1, m1 x) :: (t2, m2 x) :: M) K) : OpsS X l0 i (o :: rest) tm M K :=
 o_res h hok hne hnd fun x hx => by rw [hd]; exact hk x hx
theorem oB5 {l0 : List Oper} {i : Nat} {o : Oper} {rest : List Oper} {K : Tm → Mem → Prop} {g : Option Bool} {β : Type} {ok : Prop} {can : β → Prop} {out : β → AV} {t1 t2 t3 t4 t5 : Nat} {m1 m2 m3 m4 m5 : β → Blk} {d : Nat} (hd : o.dst = some d)
  (h : opEval X.E (dstL l0) X.N M.get tm.get o = some (g, ⟨β, ok, can, out, [t1, t2, t3, t4, t5], fun x => [m1 x, m2 x, m3 x, m4 x, m5 x]⟩)) (hnd : noDfr [t1, t2, t3, t4, t5] = true) (hne : ∃ x, can x) (hok : ok) (hk : ∀ x, can x → OpsS X l0 (i + 1) rest ((d, g, out x) :: tm) ((t1, m1 x) :: (t2, m2 x) :: (t3, m3 x) :: (t4, m4 x) :: (t5, m5 x) :: M) K) : OpsS X l0 i (o :: rest) tm M K :=
 o_res h hok hne hnd fun x hx => by rw [hd]; exact hk x hx
end
section
variable {X : Cx} {G : Rg}
theorem dA {K : Acc → Prop} {T0 : TmF} {M0 : MemF} {i : Nat} {o : Oper} {rest : List Oper} {ds : List Nat} {acc : Acc} {d : Nat} {g : Option Bool} {ok : Prop} {can : Unit → Prop} {av : AV} {mem : Unit → List Blk} (hd : o.dst = some d)
  (h : evalAt X G T0 M0 acc.get i o = some (g, ⟨Unit, ok, can, fun _ => av, [], mem⟩)) (hcan : can ())
  (hk : okI X G T0 M0 K ds rest ((i, some d, (g, av), []) :: acc)) (hok : ok := by first | exact True.intro | ((try simp only [needIf]); (try simp only [need]); (try simp only [imp]); done) | ((try simp only [needIf]); (try simp only [need]); (try simp only [imp]); (try simp only [cutOff]); (repeat' apply And.intro) <;> (first | trivial | rfl | omega | (simp; done) | (simp; omega) | (intros; rfl) | (intros; trivial) | (simp only [IntKind.wrap_i64]; omega) | (exact Nat.le_trans (Nat.mul_le_mul_right _ (show _ ≤ 100000000001 by omega)) (by decide)) | (exact Nat.le_trans (Nat.mul_le_mul_right _ (show _ ≤ 17592186044416 by omega)) (by decide)) | (intro hg_; first | exact hg_ | ((try simp only [decide_eq_true_eq] at hg_); (try rw [wi64 (by omega) (by omega)]); (repeat' apply And.intro) <;> (first | trivial | rfl | omega | (intros; rfl) | (intros; trivial))))))) : okI X G T0 M0 K (i :: ds) (o :: rest) acc := d_val hd h hcan hok hk
theorem dB {K : Acc → Prop} {T0 : TmF} {M0 : MemF} {i : Nat} {o : Oper} {rest : List Oper} {ds : List Nat} {acc : Acc} {d : Nat} {g : Option Bool} {β : Type} {ok : Prop} {can : β → Prop} {out : β → AV} {t : Nat} {mem : β → Blk} (hd : o.dst = some d)
  (h : evalAt X G T0 M0 acc.get i o = some (g, ⟨β, ok, can, out, [t], fun x => [mem x]⟩)) (ht : tagsOk G i [t] = true)
  (hk : ∀ x, can x → okI X G T0 M0 K ds rest ((i, some d, (g, out x), [(t, mem x)]) :: acc)) (hne : ∃ x, can x := by first | exact ⟨0, trivial⟩ | exact ⟨(none, _), Nat.le_refl _⟩ | exact ⟨(), trivial⟩ | exact ⟨fun _ => False, trivial⟩) (hok : ok := by first | exact True.intro | ((try simp only [needIf]); (try simp only [need]); (try simp only [imp]); done) | ((try simp only [needIf]); (try simp only [need]); (try simp only [imp]); (try simp only [cutOff]); (repeat' apply And.intro) <;> (first | trivial | rfl | omega | (simp; done) | (simp; omega) | (intros; rfl) | (intros; trivial) | (simp only [IntKind.wrap_i64]; omega) | (exact Nat.le_trans (Nat.mul_le_mul_right _ (show _ ≤ 100000000001 by omega)) (by decide)) | (exact Nat.le_trans (Nat.mul_le_mul_right _ (show _ ≤ 17592186044416 by omega)) (by decide)) | (intro hg_; first | exact hg_ | ((try simp only [decide_eq_true_eq] at hg_); (try rw [wi64 (by omega) (by omega)]); (repeat' apply And.intro) <;> (first | trivial | rfl | omega | (intros; rfl) | (intros; trivial))))))) : okI X G T0 M0 K (i :: ds) (o :: rest) acc := d_new hd h ht hne hok hk
theorem dC {K : Acc → Prop} {T0 : TmF} {M0 : MemF} {i : Nat} {o : Oper} {rest : List Oper} {ds : List Nat} {acc : Acc} {g : Option Bool} {ok : Prop} {can : Unit → Prop} {av : AV} {t : Nat} {B : Blk} (hd : o.dst = none)
  (h : evalAt X G T0 M0 acc.get i o = some (g, ⟨Unit, ok, can, fun _ => av, [t], fun _ => [B]⟩)) (ht : tagsOk G i [t] = true) (hcan : can ())
  (hk : okI X G T0 M0 K ds rest ((i, none, (g, av), [(t, B)]) :: acc)) (hok : ok := by first | exact True.intro | ((try simp only [needIf]); (try simp only [need]); (try simp only [imp]); done) | ((try simp only [needIf]); (try simp only [need]); (try simp only [imp]); (try simp only [cutOff]); (repeat' apply And.intro) <;> (first | trivial | rfl | omega | (simp; done) | (simp; omega) | (intros; rfl) | (intros; trivial) | (simp only [IntKind.wrap_i64]; omega) | (exact Nat.le_trans (Nat.mul_le_mul_right _ (show _ ≤ 100000000001 by omega)) (by decide)) | (exact Nat.le_trans (Nat.mul_le_mul_right _ (show _ ≤ 17592186044416 by omega)) (by decide)) | (intro hg_; first | exact hg_ | ((try simp only [decide_eq_true_eq] at hg_); (try rw [wi64 (by omega) (by omega)]); (repeat' apply And.intro) <;> (first | trivial | rfl | omega | (intros; rfl) | (intros; trivial))))))) : okI X G T0 M0 K (i :: ds) (o :: rest) acc := d_put hd h ht hcan hok hk
end
section
variable {X : Cx} {G : Rg}
theorem dB2 {K : Acc → Prop} {T0 : TmF} {M0 : MemF} {i : Nat} {o : Oper} {rest : List Oper} {ds : List Nat} {acc : Acc} {d : Nat} {g : Option Bool} {β : Type} {ok : Prop} {can : β → Prop} {out : β → AV} {t1 t2 : Nat} {m1 m2 : β → Blk} (hd : o.dst = some d)
  (h : evalAt X G T0 M0 acc.get i o = some (g, ⟨β, ok, can, out, [t1, t2], fun x => [m1 x, m2 x]⟩)) (ht : tagsOk G i [t1, t2] = true) (hne : ∃ x, can x) (hok : ok)
  (hk : ∀ x, can x → okI X G T0 M0 K ds rest ((i, some d, (g, out x), [(t1, m1 x), (t2, m2 x)]) :: acc)) : okI X G T0 M0 K (i :: ds) (o :: rest) acc :=
 d_res h hok hne ht fun x hx => by rw [hd]; exact hk x hx
end
theorem o_at (f : FuncId) {X : Cx} {l0 rest : List Oper} {i : Nat} {d : Option Tmp} {xs : Array Operand} {tys : Array TypeId} {t : TypeId} {p : String} {g : Option (Nat × Bool)} {a : Array Edge} {tm : Tm} {M : Mem} {K : Tm → Mem → Prop} (h : OpsS X l0 i ({ dst := d, op := .call { callee := .value (.func f), args := xs, argTypes := tys }, type := t, pos := p, after := a, guard := g } :: rest) tm M K) : OpsS X l0 i ({ dst := d, op := .call { callee := .value (.func f), args := xs, argTypes := tys }, type := t, pos := p, after := a, guard := g } :: rest) tm M K := h
theorem d_at (f : FuncId) {X : Cx} {G : Rg} {T0 : TmF} {M0 : MemF} {K : Acc → Prop} {rest : List Oper} {i : Nat} {ds : List Nat} {acc : Acc} {d : Option Tmp} {xs : Array Operand} {tys : Array TypeId} {t : TypeId} {p : String} {g : Option (Nat × Bool)} {a : Array Edge} (h : okI X G T0 M0 K (i :: ds) ({ dst := d, op := .call { callee := .value (.func f), args := xs, argTypes := tys }, type := t, pos := p, after := a, guard := g } :: rest) acc) : okI X G T0 M0 K (i :: ds) ({ dst := d, op := .call { callee := .value (.func f), args := xs, argTypes := tys }, type := t, pos := p, after := a, guard := g } :: rest) acc := h
def tagNe (k : Nat) : AV → Bool
 | .gs m .. => !(Nat.beq m k)
 | .sl p _ _ => !(Nat.beq p.n k)
 | _ => true
theorem beq_ne {a b : Nat} (h : (!(Nat.beq a b)) = true) : a ≠ b := by
 intro e; subst e; simp at h
section
variable {O : Nat → Prop} {w0 w : World} {M : MemF}
theorem elem_apart (hS : Sat O w0 M w) {p : Pt} {c : Prop} {e : AV} (h : elemAt M p = some (c, e)) (hc : c) (he : 0 < e.size) {k : Nat} {B : Blk} (hk : M k = some B) (hne : p.n ≠ k) : ¬ B.own p.b := by
 intro ho
 unfold elemAt at h
 split at h
 ·
  rename_i hM
  cases h
  obtain ⟨e1, _⟩ := hc
  exact hne (hS.apart _ _ _ _ _ hM hk (show (Blk.row _ _ _ _ _ _).own p.b from e1.symm) ho)
 ·
  rename_i a T es len f cap hM
  cases h
  obtain ⟨e0, e1, e2⟩ := hc
  obtain ⟨b, rfl, _⟩ := vrow_some (hS.holds _ _ hM) e2
  have : p.b = b := congrArg Prod.fst e0
  exact hne (hS.apart _ _ _ _ _ hM hk (show some b = some p.b by rw [this]) ho)
 ·
  rename_i es base len f hM
  cases h
  obtain ⟨e0, e1, e2⟩ := hc
  have h3 := hS.holds _ _ hM p.ix
  cases hb : base p.ix with
  | none => have := h3.1 hb; omega
  | some z =>
   rw [hb] at e0
   have e3 : p.b = z.1 := congrArg Prod.fst e0
   have hes := (h3.2 z.1 z.2 hb _ e2).1
   exact hS.roapart _ _ _ _ _ hk hM ho ⟨by omega, p.ix, z.2, by omega, by rw [hb, e3]⟩
 ·
  rename_i b x hM
  cases h
  obtain ⟨e1, _⟩ := hc
  exact hS.roapart _ _ _ _ _ hk hM ho (show b = p.b from e1.symm)
 ·
  cases h
theorem seq_apart (hS : Sat O w0 M w) {x : AV} {c : Prop} {es n : Nat} {f : Nat → AV} (h : seqOf M x = some (c, es, n, f)) (hc : c) (hes : n ≠ 0 → 0 < es) {k : Nat} {B : Blk} (hk : M k = some B) (hx : tagNe k x = true)
  {base : Option (Nat × Nat)} {cap : Nat} (hv : x.val = slV base n cap) (hn : n ≠ 0) {b o : Nat} (hb : base = some (b, o)) : ¬ B.own b := by
 subst hb
 unfold seqOf at h
 split at h
 ·
  rename_i m ix a es0 i0 len0 cap0
  have hm : m ≠ k := beq_ne hx
  rw [gs_val] at hv
  split at h
  ·
   rename_i a' T es' len' f' cap' hM
   cases h
   obtain ⟨rfl, rfl, hle⟩ := hc
   obtain ⟨b', rfl, hr⟩ := vrow_some (hS.holds _ _ hM) (i := i0) (by omega)
   simp only [ownB, Option.map_some, slV, Value.slice.injEq, Option.some.injEq, Addr.mk.injEq] at hv
   intro ho
   exact hm (hS.apart _ _ _ _ _ hM hk (show some b' = some b by rw [hv.1.1]) ho)
  ·
   rename_i es' base len' f' hM
   cases h
   obtain ⟨rfl, rfl, hle⟩ := hc
   have h3 := hS.holds _ _ hM ix
   cases hb : base ix with
   | none => have := h3.1 hb; omega
   | some z =>
    rw [hb] at hv
    simp only [Option.map_some, slV, Value.slice.injEq, Option.some.injEq, Addr.mk.injEq] at hv
    intro ho
    exact hS.roapart _ _ _ _ _ hk hM ho ⟨hes hn, ix, z.2, by omega, by rw [hb, ← hv.1.1]⟩
  ·
   cases h
 ·
  rename_i p len0 cap0
  have hm : p.n ≠ k := beq_ne hx
  have hpb : p.b = b := by
   have hv : Value.slice (some p.addr) len0 cap0 = slV (some (b, o)) n cap := hv
   simp only [slV, Option.map_some, Value.slice.injEq, Option.some.injEq, Pt.addr, Addr.mk.injEq] at hv
   exact hv.1.1
  split at h
  ·
   rename_i c0 e hlf he
   split at h
   ·
    rename_i kk m xs hl
    cases h
    have h1 := (AV.leaf_spec e hl).2.1
    rw [AV.size_cells] at h1
    rw [← hpb]
    exact elem_apart hS he hc.1 (by have := hc.2; omega) hk hm
   ·
    cases h
  ·
   split at h
   ·
    rename_i a' T es' len' f' cap' hM
    cases h
    obtain ⟨h0, h1, h2, h3, hle⟩ := hc
    obtain ⟨b', rfl, hr⟩ := vrow_some (hS.holds _ _ hM) (i := p.idx) (by omega)
    have e1 : p.b = b' := congrArg Prod.fst h0
    intro ho
    exact hm (hS.apart _ _ _ _ _ hM hk (show some b' = some b by rw [← e1, hpb]) ho)
   ·
    cases h
  ·
   cases h
 ·
  cases h
  exact absurd rfl hn
 ·
  cases h
end
def dfrOf (f : FuncId) (args : List AV) : Deferred := ⟨.fn (.func f) #[], (args.map AV.val).toArray⟩
section
variable {X : Cx} {tm : Tm} {M : Mem}
theorem o_defer {l0 : List Oper} {i : Nat} {o : Oper} {rest : List Oper} {K : Tm → Mem → Prop} {f : FuncId} {xs : Array Operand} {tys : Array TypeId} {p : Prop} {l : List (Nat × AV)}
  (hd : o.dst = none) (ho : o.op = .defer { callee := .value (.func f), args := xs, argTypes := tys }) (hgd : o.guard = none) (hl : opds tm.get none (xs.toList.map fun x => (0, x)) = some (p, l)) (hp : p)
  (hk : OpsS X l0 (i + 1) rest tm ((777777, .dfr (dfrOf f (vals l) :: M.dfs)) :: M) K) : OpsS X l0 i (o :: rest) tm M K := by
 intro hl0 a w Q ha hQ
 obtain ⟨h1, h2⟩ := drop_succ hl0
 rw [List.length_cons]
 refine wpOps_step h1 ?_
 have hw : Region.wanted o (yielded l0.toArray a.tmps) = true := by unfold Region.wanted; rw [hgd]
 rw [if_pos hw]
 unfold Oper.wp
 have : (execOp a.eval o).run X.P w = .ok (.defer (dfrOf f (vals l))) w := by
  unfold execOp
  rw [ho]
  simp only [Sem.run_bind, resolve, Act.eval, Deferred.ofValue, args_eq ha.T (g := none) trivial hl hp, Sem.run_pure, Result.andThen_ok]
  simp [dfrOf]
 rw [this, Oper.upon_defer, hd]
 refine hk h2 _ w Q ⟨⟨ha.T.size, fun t e ht => ha.T.slot t e ht⟩, ?_, ?_⟩ hQ
 ·
  show dfrOf f (vals l) :: a.defers = _
  rw [ha.d]; rfl
 ·
  have hL : (Mem.get ((777777, Blk.dfr (dfrOf f (vals l) :: M.dfs)) :: M)) = updM (Mem.get [(777777, .dfr (dfrOf f (vals l) :: M.dfs))]) M.get := Mem.app_get [_] M
  rw [hL]
  exact ha.S.turn (Turn.new (Below.refl _ _) (B := .dfr (dfrOf f (vals l) :: M.dfs)) trivial (fun k hk => hk.elim) (fun k hk => hk)) X.hO
end
section
variable {P : Program} {O : Nat → Prop} {w0 w : World} {M : MemF}
theorem store_turn {t : TypeId} {r : TRow} (hr : RowOk P t r) (hS : Sat O w0 M w) {p : Pt} {av : AV} {q : Prop} {B : Blk} (hst : storeV M r p av = some (q, B)) (hok : q) :
  ∃ w', (storeVar t p.addr av.val).run P w = .ok () w' ∧ Turn M w w' (Mem.get [(p.n, B)]) := by
 unfold storeV at hst
 split at hst
 ·
  rename_i hfit
  simp only [Bool.and_eq_true] at hfit
  obtain ⟨hsz, hfv⟩ := hfit
  have hsz := AV.isSize_eq hsz
  split at hst
  ·
   rename_i b T es len f cap hM
   split at hst
   ·
    rename_i q' e hE
    cases hst
    obtain ⟨⟨h1, h2, h3, h4⟩, h5⟩ := hok
    obtain ⟨w', r1, r2, r3, r4, r5, r6, r7⟩ := store_run hr (hS.holds _ _ hM) h1 h2 h3 h4 hE h5 hsz hfv
    exact ⟨w', r1, Turn.upd hM r2 r3 r4 r5.1 (by omega) (fun j _ hj => r6 j fun e => hj e.symm) r7 (fun k hk => .inr hk) fun k hk => hk⟩
   ·
    cases hst
  ·
   rename_i a' T es len f cap hM
   split at hst
   ·
    rename_i q' e hE
    cases hst
    obtain ⟨⟨h1, h3, h4⟩, h5⟩ := hok
    obtain ⟨b, rfl, hrow⟩ := vrow_some (hS.holds _ _ hM) h4
    have e1 : p.b = b := congrArg Prod.fst h1
    have e2 : p.o0 = 0 := congrArg Prod.snd h1
    obtain ⟨w', r1, r2, r3, r4, r5, r6, r7⟩ := store_run hr hrow e1 e2 h3 h4 hE h5 hsz hfv
    exact ⟨w', r1, Turn.upd hM r2 r3 r4 r5.1 (by omega) (fun j _ hj => r6 j fun e => hj (by rw [e]; rfl)) r7 (fun k hk => .inr hk) fun k hk => hk⟩
   ·
    cases hst
  ·
   cases hst
 ·
  cases hst
def rI32 : TRow := ⟨.int .i32, 1, 4, .v (.int .i32 0)⟩
theorem storeV_frozen (hS : Sat O w0 M w) {r : TRow} {p : Pt} {av : AV} {q : Prop} {B : Blk} (hst : storeV M r p av = some (q, B)) (hok : q) : w.frozen? p.addr = false := by
 unfold storeV at hst
 split at hst
 ·
  split at hst
  ·
   rename_i b T es len f cap hM
   split at hst
   ·
    cases hst
    obtain ⟨⟨h1, h2, h3, h4⟩, h5⟩ := hok
    obtain ⟨c, hh, _⟩ := (hS.holds _ _ hM : RowHolds w b T es len f cap)
    simp [World.frozen?, Pt.addr, h1, hh]
   ·
    cases hst
  ·
   rename_i a' T es len f cap hM
   split at hst
   ·
    cases hst
    obtain ⟨⟨h1, h3, h4⟩, h5⟩ := hok
    obtain ⟨b, rfl, hrow⟩ := vrow_some (hS.holds _ _ hM) h4
    obtain ⟨c, hh, _⟩ := hrow
    have e1 : p.b = b := congrArg Prod.fst h1
    simp [World.frozen?, Pt.addr, e1, hh]
   ·
    cases hst
  ·
   cases hst
 ·
  cases hst
theorem storeVar_setCell {t : TypeId} {r : TRow} (hr : RowOk P t r) (h1 : r.size = 1) {a : Addr} {k : IntKind} {x : Int} {v0 : Value} (hc : w.cell? a = some v0) (hz : w.frozen? a = false) : (storeVar t a (.int k x)).run P w = .ok () (w.setCell a (.int k x)) := by
 unfold storeVar
 rw [Sem.run_bind, hr.run_sizeOf, Result.andThen_ok, h1]
 have h2 : ¬ (Value.int k x).cells.size ≠ 1 := by simp [Value.cells]
 rw [if_neg h2]
 show (storeCells a [.int k x]).run P w = _
 have hadd : a.add 0 = a := rfl
 have hst : (store (a.add 0) (.int k x)).run P w = .ok () (w.setCell a (.int k x)) := by
  rw [hadd, run_store P w a _ _ rfl, hc]
  simp [hz]
 simp only [storeCells, Sem.run_bind, hst, Result.andThen_ok]
 rfl
def wordV (M : MemF) (p : Pt) (x y : Int) : Option (Prop × Blk) := match ptrOf M p false 1, storeV M rI32 p (.v (.int .i32 y)) with
 | some (c, .v (.int .i32 z)), some (q, B) => some ((c ∧ z = x) ∧ q, B)
 | _, _ => none
theorem wordV_spec (hr : RowOk P 21 rI32) (hS : Sat O w0 M w) {p : Pt} {x y : Int} {q : Prop} {B : Blk} (h : wordV M p x y = some (q, B)) (hq : q) :
  w.cell? p.addr = some (.int .i32 x) ∧ w.frozen? p.addr = false ∧ Turn M w (w.setCell p.addr (.int .i32 y)) (Mem.get [(p.n, B)]) := by
 unfold wordV at h
 split at h
 ·
  rename_i c z q' B' hp hst
  cases h
  obtain ⟨⟨hc, rfl⟩, hq⟩ := hq
  have h1 := (ptrOf_spec hS hp hc 0 Nat.zero_lt_one).2.2 0 Nat.zero_lt_one
  have hcell : w.cell? p.addr = some (.int .i32 z) := by
   unfold Pt.addr
   simpa using h1
  have hz := storeV_frozen hS hst hq
  obtain ⟨w', g1, g2⟩ := store_turn hr hS hst hq
  have g3 := storeVar_setCell (k := .i32) (x := y) hr rfl hcell hz
  have g1 : (storeVar 21 p.addr (.int .i32 y)).run P w = .ok () w' := g1
  rw [g3] at g1
  cases g1
  exact ⟨hcell, hz, g2⟩
 ·
  cases h
end
def lockC (_tag : Nat) (args : List AV) (M : MemF) : Option Res := match args with
 | [.ptr p] => match wordV M p 0 1 with
  | some (q, B) => some ⟨Unit, q, fun _ => True, fun _ => .tup .nil, [p.n], fun _ => [B]⟩
  | none => none
 | _ => none
theorem lock_turn {P : Program} {L : Go.Conc.Locks.MuLink} (H : Go.Conc.Locks.MuLib P L) (hr : RowOk P 21 rI32) : TurnFn P L.lock lockC := by
 intro tag args M r h0 hok O w0 w hS
 unfold lockC at h0
 split at h0
 ·
  rename_i p
  split at h0
  ·
   rename_i q B hw
   cases h0
   obtain ⟨h1, h2, h3⟩ := wordV_spec hr hS hw hok
   exact (Go.MuLone.lock_free H p.addr w h1 h2).mono fun e w' ⟨he, hw'⟩ => ⟨(), trivial, he, by rw [hw']; exact h3⟩
  ·
   cases h0
 ·
  cases h0
theorem unlock_dfr {P : Program} {L : Go.Conc.Locks.MuLink} (H : Go.Conc.Locks.MuLib P L) (hr : RowOk P 21 rI32) {O : Nat → Prop} {w0 : World} {M : MemF} {p : Pt} {q : Prop} {B : Blk} (hw : wordV M p 1 0 = some (q, B)) (hq : q) :
  ∀ w, Sat O w0 M w → CallsD P L.unlock ([AV.ptr p].map AV.val).toArray .returning w fun e u' w' => u' = .returning ∧ (∃ v, e = .returned v) ∧ Turn M w w' (Mem.get [(p.n, B)]) := by
 intro w hS
 obtain ⟨h1, h2, h3⟩ := wordV_spec hr hS hw hq
 exact (Go.MuLone.unlock_deferred H p.addr .returning w h1 h2).mono fun e u' w' ⟨hu, he, hw'⟩ => ⟨hu, ⟨_, he⟩, by rw [hw']; exact h3⟩
section
variable {P : Program} {B : Tabs P} {ct : CtL} {hct : CtLOk P ct} {cr : CrL} {hcr : CrLOk P cr} {f : FuncId} {fn : Func} {c : Code}
end
abbrev Frag := Nat → Option Obj
def Frag.on (H : Frag) (w : World) : Prop := ∀ k o, H k = some o → w.heap[k]? = some o
def frB (g : Gh) (S : Nat → Prop) (P : Frag → Prop) : Blk := .sep g S fun w => ∃ H : Frag, (∀ k, S k ↔ H k ≠ none) ∧ P H ∧ H.on w
section
variable {g : Gh} {S : Nat → Prop} {P : Frag → Prop} {w : World}
theorem frB_holds {H : Frag} (h1 : ∀ k, S k ↔ H k ≠ none) (h2 : P H) (h3 : H.on w) : (frB g S P).holds w := by
 refine ⟨fun k hk => ?_, fun w' hw => ⟨H, h1, h2, fun k o ho => ?_⟩⟩
 ·
  cases ho : H k with
  | none => exact absurd ho ((h1 k).1 hk)
  | some o => exact heap_lt (h3 k o ho)
 ·
  rw [hw k ((h1 k).2 (by rw [ho]; simp))]; exact h3 k o ho
theorem frB_open (h : (frB g S P).holds w) : ∃ H : Frag, (∀ k, S k ↔ H k ≠ none) ∧ P H ∧ H.on w := h.2 w fun _ _ => rfl
end
theorem memNat_iff : ∀ {l : List Nat} {n : Nat}, memNat l n = true ↔ n ∈ l
 | [], n => by simp [memNat]
 | k :: r, n => by
  constructor
  ·
   exact memNat_mem
  ·
   intro h
   unfold memNat
   rcases List.mem_cons.1 h with rfl | h
   ·
    simp
   ·
    split
    ·
     rfl
    ·
     exact memNat_iff.2 h
theorem hideM_get {ks : List Nat} : ∀ {M : Mem} {m : Nat} {B : Blk}, (hideM ks M).get m = some B → m ∉ ks ∧ M.get m = some B
 | [], m, B, h => by cases h
 | (k, e) :: r, m, B, h => by
  simp only [hideM] at h
  split at h
  ·
   rename_i hk
   obtain ⟨h1, h2⟩ := hideM_get h
   have hne : k ≠ m := fun q => h1 (q ▸ memNat_iff.1 hk)
   refine ⟨h1, ?_⟩
   rw [Mem.get_cons, if_neg hne]
   exact h2
  ·
   rename_i hk
   rw [Mem.get_cons] at h ⊢
   split at h
   ·
    rename_i q
    subst q
    rw [if_pos rfl]
    exact ⟨fun hm => (by rw [memNat_iff.2 hm] at hk; cases hk), h⟩
   ·
    rename_i q
    obtain ⟨h1, h2⟩ := hideM_get h
    rw [if_neg q]
    exact ⟨h1, h2⟩
theorem hideM_at {ks : List Nat} : ∀ {M : Mem} {m : Nat}, m ∉ ks → (hideM ks M).get m = M.get m
 | [], m, h => rfl
 | (k, e) :: r, m, h => by
  simp only [hideM]
  split
  ·
   rename_i hk
   have hne : k ≠ m := fun q => h (q ▸ memNat_iff.1 hk)
   rw [Mem.get_cons, if_neg hne]
   exact hideM_at h
  ·
   rw [Mem.get_cons, Mem.get_cons, hideM_at h]
theorem noDfr_mem : ∀ {ts : List Nat}, noDfr ts = true → 777777 ∉ ts
 | [], _, h => by cases h
 | t :: r, hd, h => by
  simp only [noDfr, Bool.and_eq_true, Bool.not_eq_true'] at hd
  rcases List.mem_cons.1 h with e | h
  ·
   rw [← e] at hd; simp at hd
  ·
   exact noDfr_mem hd.2 h
theorem hideM_dfs {ks : List Nat} {M : Mem} (h : noDfr ks = true) : (hideM ks M).dfs = M.dfs := by
 unfold Mem.dfs
 rw [hideM_at (noDfr_mem h)]
structure Pieces (H : Frag) (Bs : List Blk) : Prop where
 holds : ∀ w, H.on w → ∀ B ∈ Bs, B.holds w
 own : ∀ B ∈ Bs, ∀ k, B.own k → H k ≠ none
 reads : ∀ B ∈ Bs, ∀ k, ¬ B.reads k
 apart : Bs.Pairwise fun B B' => ∀ k, B.own k → ¬ B'.own k
theorem pw_idx {α : Type _} {R : α → α → Prop} : ∀ {l : List α}, l.Pairwise R → ∀ {i j : Nat} {x y : α}, l[i]? = some x → l[j]? = some y → i < j → R x y
 | [], _, i, j, x, y, h, _, _ => by cases h
 | a :: l, hp, i, j, x, y, h, h', hij => by
  obtain ⟨j, rfl⟩ : ∃ m, j = m + 1 := ⟨j - 1, by omega⟩
  rw [List.getElem?_cons_succ] at h'
  rw [List.pairwise_cons] at hp
  cases i with
  | zero =>
   rw [List.getElem?_cons_zero] at h
   cases h
   exact hp.1 _ (List.mem_of_getElem? h')
  | succ i =>
   rw [List.getElem?_cons_succ] at h
   exact pw_idx hp.2 h h' (by omega)
theorem Sat.opened {O : Nat → Prop} {w0 w : World} {M : Mem} (h : Sat O w0 M.get w) {n : Nat} {g : Gh} {S : Nat → Prop} {P : Frag → Prop} (hM : M.get n = some (frB g S P)) {H : Frag} (h1 : ∀ k, S k ↔ H k ≠ none) (h3 : H.on w) {Bs : List Blk} (hp : Pieces H Bs) (ts : List Nat) :
  Sat O w0 (Mem.app (zipM ts Bs) (hideM [n] M)).get w := by
 rw [Mem.app_get]
 have new : ∀ {m : Nat} {B : Blk}, (zipM ts Bs).get m = some B → ∃ i : Nat, ts[i]? = some m ∧ Bs[i]? = some B := zipM_idx
 have old : ∀ {m : Nat} {B : Blk}, (hideM [n] M).get m = some B → m ≠ n ∧ M.get m = some B := fun hh => by
  obtain ⟨a, b⟩ := hideM_get hh
  exact ⟨fun e => a (by rw [e]; exact .head _), b⟩
 have inS : ∀ {B : Blk}, B ∈ Bs → ∀ k, B.own k → (frB g S P).own k := fun hB k hk => (h1 k).2 (hp.own _ hB k hk)
 have half : ∀ {m m' : Nat} {B B' : Blk} {k : Nat}, (zipM ts Bs).get m = some B → (hideM [n] M).get m' = some B' → B.own k → B'.own k → False := fun hm hm' ho ho' => by
  obtain ⟨i, _, hi⟩ := new hm
  obtain ⟨a, b⟩ := old hm'
  exact a (h.apart _ _ _ _ _ b hM ho' (inS (List.mem_of_getElem? hi) _ ho))
 refine ⟨h.keeps, ?_, ?_, ?_, ?_⟩
 ·
  intro m B hm
  rcases updM_some hm with hm | ⟨_, hm⟩
  ·
   obtain ⟨i, _, hi⟩ := new hm
   exact hp.holds w h3 B (List.mem_of_getElem? hi)
  ·
   exact h.holds _ _ (old hm).2
 ·
  intro m B k hm ho
  rcases updM_some hm with hm | ⟨_, hm⟩
  ·
   obtain ⟨i, _, hi⟩ := new hm
   exact h.own _ _ _ hM (inS (List.mem_of_getElem? hi) _ ho)
  ·
   exact h.own _ _ _ (old hm).2 ho
 ·
  intro m m' B B' k hm hm' ho ho'
  rcases updM_some hm with hm | ⟨_, hm⟩ <;> rcases updM_some hm' with hm' | ⟨_, hm'⟩
  ·
   obtain ⟨i, ti, hi⟩ := new hm
   obtain ⟨j, tj, hj⟩ := new hm'
   rcases Nat.lt_trichotomy i j with hlt | rfl | hlt
   ·
    exact (pw_idx hp.apart hi hj hlt k ho ho').elim
   ·
    rw [ti] at tj; exact Option.some.inj tj
   ·
    exact (pw_idx hp.apart hj hi hlt k ho' ho).elim
  ·
   exact (half hm hm' ho ho').elim
  ·
   exact (half hm' hm ho' ho).elim
  ·
   exact h.apart _ _ _ _ _ (old hm).2 (old hm').2 ho ho'
 ·
  intro m m' B B' k hm hm' ho hr
  rcases updM_some hm' with hm' | ⟨_, hm'⟩
  ·
   obtain ⟨j, _, hj⟩ := new hm'
   exact hp.reads _ (List.mem_of_getElem? hj) k hr
  ·
   rcases updM_some hm with hm | ⟨_, hm⟩
   ·
    obtain ⟨i, _, hi⟩ := new hm
    exact h.roapart _ _ _ _ _ hM (old hm').2 (inS (List.mem_of_getElem? hi) _ ho) hr
   ·
    exact h.roapart _ _ _ _ _ (old hm).2 (old hm').2 ho hr
section
variable {X : Cx} {tm : Tm} {M : Mem} {K : Exit → Tm → Mem → Prop}
theorem s_open {c : Code} {n : Nat} {g : Gh} {S : Nat → Prop} {P : Frag → Prop} (ts : List Nat) (hM : M.get n = some (frB g S P)) (hd : noDfr (n :: ts) = true)
  (h : ∀ H : Frag, (∀ k, S k ↔ H k ≠ none) → P H → ∃ Bs, Pieces H Bs ∧ CodeS X c tm (Mem.app (zipM ts Bs) (hideM [n] M)) K) : CodeS X c tm M K := by
 intro a w Q ha hQ
 obtain ⟨H, h1, h2, h3⟩ := frB_open (ha.S.holds _ _ hM)
 obtain ⟨Bs, hp, hc⟩ := h H h1 h2
 have hd : (!(Nat.beq n 777777) && noDfr ts) = true := hd
 simp only [Bool.and_eq_true] at hd
 refine hc a w Q ⟨⟨ha.T.size, fun t e ht => ha.T.slot t e ht⟩, ?_, ha.S.opened hM h1 h3 hp ts⟩ hQ
 rw [app_dfs (zipM_dfr hd.2), hideM_dfs (by unfold noDfr; rw [hd.1]; rfl)]
 exact ha.d
def ownU (Bs : List Blk) (k : Nat) : Prop := ∃ B ∈ Bs, B.own k
open Classical in
noncomputable def restr (w : World) (S : Nat → Prop) : Frag := fun k => if S k then w.heap[k]? else none
theorem restr_at {w : World} {S : Nat → Prop} {k : Nat} (h : S k) : restr w S k = w.heap[k]? := by unfold restr; rw [if_pos h]
theorem restr_no {w : World} {S : Nat → Prop} {k : Nat} (h : ¬ S k) : restr w S k = none := by unfold restr; rw [if_neg h]
theorem restr_on (w : World) (S : Nat → Prop) : (restr w S).on w := by
 intro k o h
 unfold restr at h
 split at h
 ·
  exact h
 ·
  cases h
theorem restr_dom {w : World} {S : Nat → Prop} (h : ∀ k, S k → k < w.heap.size) (k : Nat) : S k ↔ restr w S k ≠ none := by
 constructor
 ·
  intro hk
  rw [restr_at hk, Array.getElem?_eq_getElem (h k hk)]; simp
 ·
  intro hk
  apply Classical.byContradiction
  intro hn
  exact hk (restr_no hn)
theorem le_close {n : Nat} (g : Gh) (P : Frag → Prop) (ts : List Nat) (Bs : List Blk) (hd : noDfr (n :: ts) = true) (hnd : ts.Nodup) (ho : outsOk M ts Bs)
  (hP : ∀ w, (∀ B ∈ Bs, B.holds w) → (Bs.Pairwise fun B B' => ∀ k, B.own k → ¬ B'.own k) → P (restr w (ownU Bs))) :
  Le X tm M tm ((n, frB g (ownU Bs) P) :: hideM (n :: ts) M) := by
 intro a w ha
 obtain ⟨hl, hi⟩ := outsOk_at ho
 have hB : ∀ B ∈ Bs, B.holds w ∧ (∀ k, ¬ B.reads k) ∧ ∃ t B', t ∈ ts ∧ M.get t = some B' ∧ ∀ k, B.own k → B'.own k := by
  intro B hB
  obtain ⟨i, hi2⟩ := List.getElem?_of_mem hB
  obtain ⟨t, B', e1, e2, e3, e4⟩ := hi i B hi2
  exact ⟨e3.2.2 w (ha.S.holds _ _ e2), e4, t, B', List.mem_of_getElem? e1, e2, e3.1⟩
 have hap : Bs.Pairwise fun B B' => ∀ k, B.own k → ¬ B'.own k := by
  rw [List.pairwise_iff_getElem]
  intro i j hi1 hj1 hij k ho1 ho2
  obtain ⟨t, B', e1, e2, e3, _⟩ := hi i _ (List.getElem?_eq_getElem hi1)
  obtain ⟨u, C', f1, f2, f3, _⟩ := hi j _ (List.getElem?_eq_getElem hj1)
  have := ha.S.apart _ _ _ _ _ e2 f2 (e3.1 _ ho1) (f3.1 _ ho2)
  subst this
  have : i = j := (List.getElem?_inj (List.getElem?_eq_some_iff.1 e1).1 hnd).1 (e1.trans f1.symm)
  omega
 have hlt : ∀ k, ownU Bs k → k < w.heap.size := fun k ⟨B, h1, h2⟩ => Blk.own_lt (hB B h1).1 h2
 have hd1 : noDfr (n :: ts) = true := hd
 have hdn : (!(Nat.beq n 777777) && noDfr ts) = true := hd
 simp only [Bool.and_eq_true, Bool.not_eq_true'] at hdn
 have hn7 : n ≠ 777777 := fun e => by rw [e] at hdn; simp at hdn
 refine ⟨⟨ha.T.size, fun t e ht => ha.T.slot t e ht⟩, ?_, ?_⟩
 ·
  rw [ha.d]
  have : Mem.dfs ((n, frB g (ownU Bs) P) :: hideM (n :: ts) M) = Mem.dfs (hideM (n :: ts) M) := by
   unfold Mem.dfs
   rw [Mem.get_cons, if_neg hn7]
  rw [this, hideM_dfs hd1]
 ·
  have get : ∀ {m : Nat} {B : Blk}, Mem.get ((n, frB g (ownU Bs) P) :: hideM (n :: ts) M) m = some B → (m = n ∧ B = frB g (ownU Bs) P) ∨ (m ≠ n ∧ m ∉ ts ∧ M.get m = some B) := by
   intro m B h
   rw [Mem.get_cons] at h
   split at h
   ·
    rename_i e; exact .inl ⟨e.symm, (Option.some.inj h).symm⟩
   ·
    obtain ⟨h1, h2⟩ := hideM_get h
    exact .inr ⟨fun e => h1 (e ▸ .head _), fun e => h1 (.tail _ e), h2⟩
  have half : ∀ {m : Nat} {B : Blk} {k : Nat}, m ∉ ts → M.get m = some B → B.own k → ownU Bs k → False := by
   intro m B k h1 h2 h3 ⟨C, h4, h5⟩
   obtain ⟨_, _, t, C', e1, e2, e3⟩ := hB C h4
   exact h1 (ha.S.apart _ _ _ _ _ h2 e2 h3 (e3 _ h5) ▸ e1)
  refine ⟨ha.S.keeps, ?_, ?_, ?_, ?_⟩
  ·
   intro m B h
   rcases get h with ⟨rfl, rfl⟩ | ⟨_, _, h⟩
   ·
    exact frB_holds (restr_dom hlt) (hP w (fun B h => (hB B h).1) hap) (restr_on _ _)
   ·
    exact ha.S.holds _ _ h
  ·
   intro m B k h h2
   rcases get h with ⟨rfl, rfl⟩ | ⟨_, _, h⟩
   ·
    obtain ⟨C, h4, h5⟩ := (show ownU Bs k from h2)
    obtain ⟨_, _, t, C', e1, e2, e3⟩ := hB C h4
    exact ha.S.own _ _ _ e2 (e3 _ h5)
   ·
    exact ha.S.own _ _ _ h h2
  ·
   intro m m' B B' k h h' o o'
   rcases get h with ⟨e1, e2⟩ | ⟨n1, n2, g1⟩ <;> rcases get h' with ⟨e3, e4⟩ | ⟨n1', n2', g2⟩
   ·
    rw [e1, e3]
   ·
    rw [e2] at o; exact (half n2' g2 o' o).elim
   ·
    rw [e4] at o'; exact (half n2 g1 o o').elim
   ·
    exact ha.S.apart _ _ _ _ _ g1 g2 o o'
  ·
   intro m m' B B' k h h' o hr
   rcases get h' with ⟨e3, e4⟩ | ⟨n1', n2', g2⟩
   ·
    rw [e4] at hr; cases hr
   ·
    rcases get h with ⟨e1, e2⟩ | ⟨n1, n2, g1⟩
    ·
     rw [e2] at o
     obtain ⟨C, h4, h5⟩ := (show ownU Bs k from o)
     obtain ⟨_, _, t, C', e1, e2, e3⟩ := hB C h4
     exact ha.S.roapart _ _ _ _ _ e2 g2 (e3 _ h5) hr
    ·
     exact ha.S.roapart _ _ _ _ _ g1 g2 o hr
end
end Go.Proofs.YtofophjfgalhaaaGreatDoor.V
