import Derived.Test.YtofophjfgalhaaaGreatDoorMisdeedPoolsW07
import Derived.Test.YtofophjfgalhaaaGreatDoorMisdeedPoolsW08
import Derived.Test.YtofophjfgalhaaaGreatDoorMisdeedPoolsW12
import Derived.Test.YtofophjfgalhaaaGreatDoorMisdeedPoolsW13
import Derived.Laws.Small
set_option linter.unusedVariables false
set_option linter.unusedSimpArgs false
set_option maxRecDepth 100000
set_option maxHeartbeats 8000000
namespace Go.Proofs.YtofophjfgalhaaaGreatDoor.V
open Go Go.RowKit
section
variable {X : Cx} {tm : Tm} {M : Mem}
theorem o_min {l0 : List Oper} {i : Nat} {o : Oper} {rest : List Oper} {K : Tm → Mem → Prop} {d : Nat} {k : IntKind} {x y : Operand} {ts : Array TypeId} {a b : Int} (hd : o.dst = some d) (hlt : Nat.blt d X.N = true) (ho : o.op = .call { callee := .builtin .min, args := #[x, y], argTypes := ts }) (hg : o.guard = none)
  (hx : opd tm.get x = some (none, .v (.int k a))) (hy : opd tm.get y = some (none, .v (.int k b))) (hk : OpsS X l0 (i + 1) rest ((d, none, .v (.int k (if b < a then b else a))) :: tm) M K) : OpsS X l0 i (o :: rest) tm M K := by
 refine o_run hd hlt hg fun act w ha => ?_
 have hxe : act.eval x = .int k a := opd_s ha.T hx (g := none) trivial trivial
 have hye : act.eval y = .int k b := opd_s ha.T hy (g := none) trivial trivial
 refine ⟨.v (.int k (if b < a then b else a)), [], w, ?_, Turn.below (Below.refl _ _), rfl, hk⟩
 unfold execOp
 rw [ho]
 simp only [Sem.run_bind, resolve, List.map_toArray, List.map_cons, List.map_nil, hxe, hye, Sem.run_pure, Result.andThen_ok, invoke, builtin, run_min_int2]
 rfl
end
def delMp (R : Option (Nat × AV)) (b : Nat) (l : List (AV × AV × Nat)) (clk : Nat) : Blk := match R with
 | none => .mp true b l clk
 | some p => .mp true b (l.eraseIdx p.1) clk
section
variable {E : Env} {dst : Nat → Option Tmp} {N : Nat} {M : MemF} {tm : TmF} {o : Oper}
theorem opEval_del {m k : Operand} {t : TypeId} {ts : List TypeId} {n b : Nat} {K : AV} {r rk : TRow} {kt e : TypeId} {l : List (AV × AV × Nat)} {clk : Nat} {R : Option (Nat × AV)} {args : Array Operand} {tys : Array TypeId} (hd : o.dst = none) (ho : o.op = .call { callee := .builtin .delete, args := args, argTypes := tys }) (ha : args.toList = [m, k]) (ht : tys.toList = t :: ts) (hg : o.guard = none)
  (hm : opd tm m = some (none, .mp n b)) (hk : opd tm k = some (none, K)) (hr : E.tb.get t = some r) (hrd : r.d = .map kt e) (hrk : E.tb.get kt = some rk) (hkk : (keyTop rk.d && keyT E.tb 64 kt K) = true) (hM : M n = some (.mp true b l clk)) (hf : mfind E.tb E.eqs kt K l 0 = some R) :
  opEval E dst N M tm o = some (none, ⟨Unit, b = b, fun _ => True, fun _ => .tup .nil, [n], fun _ => [delMp R b l clk]⟩) := by
 have h : xeval E M tm none 40000 o.op = some ⟨Unit, b = b, fun _ => True, fun _ => .tup .nil, [n], fun _ => [delMp R b l clk]⟩ := by
  rw [ho]
  simp only [xeval, evMapDel, ha, ht, hm, hk, hr, hrd, hrk, hkk, hM, mdelV, hf]
  cases R with
  | none => rfl
  | some p => rfl
 unfold opEval
 simp only [hd]
 unfold opEvalT
 simp only [hg, guardOf, h]
end
section
variable {X : Cx} {tm : Tm} {M : Mem} {G : Rg}
theorem d_del {K0 : Acc → Prop} {T0 : TmF} {M0 : MemF} {i : Nat} {o : Oper} {rest : List Oper} {ds : List Nat} {acc : Acc} {mk : Nat} {m k : Operand} {t : TypeId} {ts : List TypeId} {n b : Nat} {K : AV} {r rk : TRow} {kt e : TypeId} {l : List (AV × AV × Nat)} {clk : Nat} {args : Array Operand} {tys : Array TypeId} (R : Option (Nat × AV)) (hmk : nth G.masks i = some mk) (hd : o.dst = none) (ho : o.op = .call { callee := .builtin .delete, args := args, argTypes := tys }) (ha : args.toList = [m, k]) (ht : tys.toList = t :: ts) (hg : o.guard = none)
  (hm : opd (viewP G i mk acc.get T0) m = some (none, .mp n b)) (hk : opd (viewP G i mk acc.get T0) k = some (none, K)) (hr : X.E.tb.get t = some r) (hrd : r.d = .map kt e) (hrk : X.E.tb.get kt = some rk) (hkk : (keyTop rk.d && keyT X.E.tb 64 kt K) = true) (hM : mviewJ G i mk acc.get M0 n = some (.mp true b l clk)) (hf : mfind X.E.tb X.E.eqs kt K l 0 = some R) (htg : tagsOk G i [n] = true)
  (hc : okI X G T0 M0 K0 ds rest ((i, none, (none, .tup .nil), [(n, delMp R b l clk)]) :: acc)) : okI X G T0 M0 K0 (i :: ds) (o :: rest) acc :=
 d_put (ok := b = b) (can := fun _ => True) (av := .tup .nil) hd (by unfold evalAt; rw [hmk]; exact opEval_del hd ho ha ht hg hm hk hr hrd hrk hkk hM hf) htg trivial rfl hc
end
section
variable {P : Program} {ct : CtL} {cr : CrL} {f : FuncId} {fn : Func} {c : Code}
theorem turn_three (B : Tabs P) (hct : CtLOk P ct) (hcr : CrLOk P cr) (hf : P.funcs[f]? = some fn) (hbd : fn.body = some c) {args : List AV} (hlen : Nat.ble args.length fn.ntmps = true) {M : MemF} {O0 : Nat → Prop} {w0 w : World} (hS0 : Sat O0 w0 M w) (r : Res) {n1 n2 n3 : Nat} {B1 B2 B3 C1 C2 C3 : Blk} (hM1 : M n1 = some B1) (hM2 : M n2 = some B2) (hM3 : M n3 = some B3) (hne : n1 ≠ n2 ∧ n1 ≠ n3 ∧ n2 ≠ n3) (ro : Mem) (htag : r.tags = [n1, n2, n3]) (hd : Mem.dfs ((900, C1) :: (901, C2) :: (902, C3) :: ro) = [])
  (h1 : C1.holds w) (hown1 : ∀ k, C1.own k → B1.own k) (hrd1 : ∀ k, ¬ C1.reads k) (h2 : C2.holds w) (hown2 : ∀ k, C2.own k → B2.own k) (hrd2 : ∀ k, ¬ C2.reads k) (h3 : C3.holds w) (hown3 : ∀ k, C3.own k → B3.own k) (hrd3 : ∀ k, ¬ C3.reads k) (hro : allHold w ro) (hno : noOwn ro) (hap1 : apartL B1 ro) (hap2 : apartL B2 ro) (hap3 : apartL B3 ro)
  (h : CodeS (cx B ct hct cr hcr (fun b => ∃ a m C, (a, m) ∈ [(900, n1), (901, n2), (902, n3)] ∧ M m = some C ∧ C.own b) w fn.ntmps) c (argsTm 0 args) ((900, C1) :: (901, C2) :: (902, C3) :: ro) (retK (cx B ct hct cr hcr (fun b => ∃ a m C, (a, m) ∈ [(900, n1), (901, n2), (902, n3)] ∧ M m = some C ∧ C.own b) w fn.ntmps) fn fun av M' => ∃ x, r.can x ∧ av.val = (r.out x).val ∧ outsOk M' [900, 901, 902] (r.mem x))) :
  Calls P f (args.map AV.val).toArray w fun e w' => ∃ x, r.can x ∧ e = .returned (r.out x).val ∧ Turn M w w' (zipM r.tags (r.mem x)).get := by
 have get : ∀ {n' : Nat} {B' : Blk}, Mem.get ((900, C1) :: (901, C2) :: (902, C3) :: ro) n' = some B' → (n' = 900 ∧ B' = C1) ∨ (n' = 901 ∧ B' = C2) ∨ (n' = 902 ∧ B' = C3) ∨ ro.get n' = some B' := by
  intro n' B' hn
  rw [Mem.get_cons] at hn
  split at hn
  ·
   rename_i e; cases hn; exact .inl ⟨e.symm, rfl⟩
  ·
   rw [Mem.get_cons] at hn
   split at hn
   ·
    rename_i e; cases hn; exact .inr (.inl ⟨e.symm, rfl⟩)
   ·
    rw [Mem.get_cons] at hn
    split at hn
    ·
     rename_i e; cases hn; exact .inr (.inr (.inl ⟨e.symm, rfl⟩))
    ·
     exact .inr (.inr (.inr hn))
 have pr : ∀ {a m : Nat}, (a, m) ∈ [(900, n1), (901, n2), (902, n3)] → (a = 900 ∧ m = n1) ∨ (a = 901 ∧ m = n2) ∨ (a = 902 ∧ m = n3) := by
  intro a m h
  simpa using h
 refine turn_fn B hct hcr hf hbd hlen hS0 r ((900, C1) :: (901, C2) :: (902, C3) :: ro) [(900, n1), (901, n2), (902, n3)] [900, 901, 902] hd ⟨h1, h2, h3, hro⟩ (fun n' B' k hn ho => ?_) (fun n' B' k hn hr n2' C n3' hin hM4 ho2 => ?_) (fun a b m e1 e2 => ?_) (fun a m e => ?_) (by decide) (by rw [htag]; rfl) h
 ·
  rcases get hn with ⟨rfl, rfl⟩ | ⟨rfl, rfl⟩ | ⟨rfl, rfl⟩ | hn
  ·
   exact ⟨n1, B1, .head _, hM1, hown1 k ho⟩
  ·
   exact ⟨n2, B2, .tail _ (.head _), hM2, hown2 k ho⟩
  ·
   exact ⟨n3, B3, .tail _ (.tail _ (.head _)), hM3, hown3 k ho⟩
  ·
   exact (noOwn_get hno _ _ _ hn ho).elim
 ·
  rcases get hn with ⟨rfl, rfl⟩ | ⟨rfl, rfl⟩ | ⟨rfl, rfl⟩ | hn
  ·
   exact hrd1 k hr
  ·
   exact hrd2 k hr
  ·
   exact hrd3 k hr
  ·
   rcases pr hin with ⟨_, rfl⟩ | ⟨_, rfl⟩ | ⟨_, rfl⟩
   ·
    rw [hM1] at hM4; cases hM4; exact apartL_get hap1 _ _ _ hn hr ho2
   ·
    rw [hM2] at hM4; cases hM4; exact apartL_get hap2 _ _ _ hn hr ho2
   ·
    rw [hM3] at hM4; cases hM4; exact apartL_get hap3 _ _ _ hn hr ho2
 ·
  rcases pr e1 with ⟨q1, q2⟩ | ⟨q1, q2⟩ | ⟨q1, q2⟩ <;> rcases pr e2 with ⟨q3, q4⟩ | ⟨q3, q4⟩ | ⟨q3, q4⟩
  ·
   rw [q1, q3]
  ·
   exact absurd (q2.symm.trans q4) hne.1
  ·
   exact absurd (q2.symm.trans q4) hne.2.1
  ·
   exact absurd (q4.symm.trans q2) hne.1
  ·
   rw [q1, q3]
  ·
   exact absurd (q2.symm.trans q4) hne.2.2
  ·
   exact absurd (q4.symm.trans q2) hne.2.1
  ·
   exact absurd (q4.symm.trans q2) hne.2.2
  ·
   rw [q1, q3]
 ·
  rcases pr e with ⟨_, rfl⟩ | ⟨_, rfl⟩ | ⟨_, rfl⟩
  ·
   rw [htag]; exact .head _
  ·
   rw [htag]; exact .tail _ (.head _)
  ·
   rw [htag]; exact .tail _ (.tail _ (.head _))
end
section
variable {X : Cx} {tm : Tm} {M : Mem}
theorem le_as {n n' : Nat} {B C : Blk} (hn : Nat.beq n 777777 = false) (hn' : Nat.beq n' 777777 = false) (h : M.get n = some B) (ho : ∀ k, C.own k → B.own k) (hr : ∀ k, C.reads k → B.reads k ∨ B.own k) (hx : ∀ k, C.own k → ¬ C.reads k) (hh : ∀ w : World, B.holds w → C.holds w) : Le X tm M tm ((n', C) :: hideM [n] M) := by
 intro a w ha
 have get : ∀ {m : Nat} {D : Blk}, Mem.get ((n', C) :: hideM [n] M) m = some D → (m = n' ∧ D = C) ∨ (m ≠ n ∧ M.get m = some D) := by
  intro m D h
  rw [Mem.get_cons] at h
  split at h
  ·
   rename_i q; exact .inl ⟨q.symm, (Option.some.inj h).symm⟩
  ·
   obtain ⟨h1, h2⟩ := hideM_get h
   exact .inr ⟨fun e => h1 (by rw [e]; exact .head _), h2⟩
 have hd : noDfr [n] = true := by simp [noDfr, hn]
 refine ⟨⟨ha.T.size, fun t e ht => ha.T.slot t e ht⟩, ?_, ⟨ha.S.keeps, ?_, ?_, ?_, ?_⟩⟩
 ·
  rw [ha.d, ← hideM_dfs hd]
  unfold Mem.dfs
  rw [Mem.get_cons, if_neg (fun e => by rw [e] at hn'; simp at hn')]
 ·
  intro m D h1
  rcases get h1 with ⟨_, rfl⟩ | ⟨_, h1⟩
  ·
   exact hh w (ha.S.holds _ _ h)
  ·
   exact ha.S.holds _ _ h1
 ·
  intro m D k h1 h2
  rcases get h1 with ⟨_, rfl⟩ | ⟨_, h1⟩
  ·
   exact ha.S.own _ _ _ h (ho k h2)
  ·
   exact ha.S.own _ _ _ h1 h2
 ·
  intro m m' D D' k h1 h2 o o'
  rcases get h1 with ⟨e1, rfl⟩ | ⟨q1, g1⟩
  ·
   rcases get h2 with ⟨e2, _⟩ | ⟨q2, g2⟩
   ·
    rw [e1, e2]
   ·
    exact absurd (ha.S.apart _ _ _ _ _ h g2 (ho k o) o').symm q2
  ·
   rcases get h2 with ⟨e2, rfl⟩ | ⟨q2, g2⟩
   ·
    exact absurd (ha.S.apart _ _ _ _ _ g1 h o (ho k o')) q1
   ·
    exact ha.S.apart _ _ _ _ _ g1 g2 o o'
 ·
  intro m m' D D' k h1 h2 o o'
  rcases get h1 with ⟨e1, rfl⟩ | ⟨q1, g1⟩
  ·
   rcases get h2 with ⟨e2, rfl⟩ | ⟨q2, g2⟩
   ·
    exact hx k o o'
   ·
    exact ha.S.roapart _ _ _ _ _ h g2 (ho k o) o'
  ·
   rcases get h2 with ⟨e2, rfl⟩ | ⟨q2, g2⟩
   ·
    rcases hr k o' with h3 | h3
    ·
     exact ha.S.roapart _ _ _ _ _ g1 h o h3
    ·
     exact absurd (ha.S.apart _ _ _ _ _ g1 h o h3) q1
   ·
    exact ha.S.roapart _ _ _ _ _ g1 g2 o o'
theorem le_move {n n' : Nat} {a : Option Nat} {T es len cap : Nat} {f : Nat → AV} (hn : Nat.beq n 777777 = false) (hn' : Nat.beq n' 777777 = false) (h : M.get n = some (.vrow a T es len f cap)) : Le X tm M tm ((n', .vrow a T es len f cap) :: hideM [n] M) :=
 le_as hn hn' h (fun _ h => h) (fun _ h => .inl h) (fun _ _ h => h) fun _ h => h
theorem le_freezeV {n n' : Nat} {a : Option Nat} {T es len cap : Nat} {f : Nat → AV} (hn : Nat.beq n 777777 = false) (hn' : Nat.beq n' 777777 = false) (h : M.get n = some (.vrow a T es len f cap)) (hro : ∀ w : World, (Blk.vrow a T es len f cap).holds w → (roB (ownB a) es len f).holds w) : Le X tm M tm ((n', roB (ownB a) es len f) :: hideM [n] M) :=
 le_as hn hn' h (fun _ h => (roB_noOwn _ h).elim) (fun k hk => by
  obtain ⟨_, _, _, _, h3⟩ := hk
  cases a with
  | none => cases h3
  | some b =>
   have h3 : some (b, 0) = some (k, _) := h3
   cases h3
   exact .inr rfl) (fun _ h => (roB_noOwn _ h).elim) hro
end
section
variable {X : Cx} {tm : Tm} {M : Mem}
end
end Go.Proofs.YtofophjfgalhaaaGreatDoor.V
