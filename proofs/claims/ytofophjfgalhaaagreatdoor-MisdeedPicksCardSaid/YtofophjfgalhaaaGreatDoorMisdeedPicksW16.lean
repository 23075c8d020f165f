import Derived.Test.YtofophjfgalhaaaGreatDoorMisdeedPicksW09
import Derived.Test.YtofophjfgalhaaaGreatDoorMisdeedPicksW14
import Derived.Laws.Small
set_option linter.unusedVariables false
set_option linter.unusedSimpArgs false
/-! min of two numbers. -/
namespace Go.Proofs.YtofophjfgalhaaaGreatDoor.V
open Go Go.RowKit
section
variable {X : Cx} {tm : Tm} {M : Mem}
theorem o_min {l0 : List Oper} {i : Nat} {o : Oper} {rest : List Oper} {K : Tm → Mem → Prop} {d : Nat} {k : IntKind} {x y : Operand} {ts : Array TypeId} {a b : Int} (hd : o.dst = some d) (hlt : Nat.blt d X.N = true) (ho : o.op = .call { callee := .builtin .min, args := #[x, y], argTypes := ts }) (hg : o.guard = none)
    (hx : opd tm.get x = some (none, .v (.int k a))) (hy : opd tm.get y = some (none, .v (.int k b))) (hk : OpsS X l0 (i + 1) rest ((d, none, .v (.int k (if b < a then b else a))) :: tm) M K) : OpsS X l0 i (o :: rest) tm M K := by
  refine o_run hd hlt hg fun act w ha => ?_
  have hxe : act.eval x = .int k a := opd_s ha.T hx (g := none) trivial trivial
  have hye : act.eval y = .int k b := opd_s ha.T hy (g := none) trivial trivial
  refine ⟨.v (.int k (if b < a then b else a)), [], w, ?_, Turn.below (Below.refl _ _), rfl, hk⟩
  unfold execOp
  rw [ho]
  simp only [Sem.run_bind, resolve, List.map_toArray, List.map_cons, List.map_nil, hxe, hye, Sem.run_pure, Result.andThen_ok, invoke, builtin, run_min_int2]
  rfl
end
end Go.Proofs.YtofophjfgalhaaaGreatDoor.V
/-! delete from a map whose entries are not written out, by what is known of the search. -/
namespace Go.Proofs.YtofophjfgalhaaaGreatDoor.V
open Go Go.RowKit

/-- a map behind an entry's deletion -/
def delMp (R : Option (Nat × AV)) (b : Nat) (l : List (AV × AV × Nat)) (clk : Nat) : Blk := match R with
  | none => .mp true b l clk
  | some p => .mp true b (l.eraseIdx p.1) clk
section
variable {E : Env} {dst : Nat → Option Tmp} {N : Nat} {M : MemF} {tm : TmF} {o : Oper}
theorem opEval_del {m k : Operand} {t : TypeId} {ts : List TypeId} {n b : Nat} {K : AV} {r rk : TRow} {kt e : TypeId} {l : List (AV × AV × Nat)} {clk : Nat} {R : Option (Nat × AV)} {args : Array Operand} {tys : Array TypeId} (hd : o.dst = none) (ho : o.op = .call { callee := .builtin .delete, args := args, argTypes := tys }) (ha : args.toList = [m, k]) (ht : tys.toList = t :: ts) (hg : o.guard = none)
    (hm : opd tm m = some (none, .mp n b)) (hk : opd tm k = some (none, K)) (hr : E.tb.get t = some r) (hrd : r.d = .map kt e) (hrk : E.tb.get kt = some rk) (hkk : (keyTop rk.d && keyT E.tb 64 kt K) = true) (hM : M n = some (.mp true b l clk)) (hf : mfind E.tb E.eqs kt K l 0 = some R) :
    opEval E dst N M tm o = some (none, ⟨Unit, b = b, fun _ => True, fun _ => .tup .nil, [n], fun _ => [delMp R b l clk]⟩) := by
  have h : xeval E M tm none 40000 o.op = some ⟨Unit, b = b, fun _ => True, fun _ => .tup .nil, [n], fun _ => [delMp R b l clk]⟩ := by
    rw [ho]
    simp only [xeval, evMapDel, ha, ht, hm, hk, hr, hrd, hrk, hkk, hM, mdelV, hf]
    cases R with
    | none => rfl
    | some p => rfl
  unfold opEval
  simp only [hd]
  unfold opEvalT
  simp only [hg, guardOf, h]
end
section
variable {X : Cx} {tm : Tm} {M : Mem} {G : Rg}
theorem d_del {K0 : Acc → Prop} {T0 : TmF} {M0 : MemF} {i : Nat} {o : Oper} {rest : List Oper} {ds : List Nat} {acc : Acc} {mk : Nat} {m k : Operand} {t : TypeId} {ts : List TypeId} {n b : Nat} {K : AV} {r rk : TRow} {kt e : TypeId} {l : List (AV × AV × Nat)} {clk : Nat} {args : Array Operand} {tys : Array TypeId} (R : Option (Nat × AV)) (hmk : nth G.masks i = some mk) (hd : o.dst = none) (ho : o.op = .call { callee := .builtin .delete, args := args, argTypes := tys }) (ha : args.toList = [m, k]) (ht : tys.toList = t :: ts) (hg : o.guard = none)
    (hm : opd (viewP G i mk acc.get T0) m = some (none, .mp n b)) (hk : opd (viewP G i mk acc.get T0) k = some (none, K)) (hr : X.E.tb.get t = some r) (hrd : r.d = .map kt e) (hrk : X.E.tb.get kt = some rk) (hkk : (keyTop rk.d && keyT X.E.tb 64 kt K) = true) (hM : mviewJ G i mk acc.get M0 n = some (.mp true b l clk)) (hf : mfind X.E.tb X.E.eqs kt K l 0 = some R) (htg : tagsOk G i [n] = true)
    (hc : okI X G T0 M0 K0 ds rest ((i, none, (none, .tup .nil), [(n, delMp R b l clk)]) :: acc)) : okI X G T0 M0 K0 (i :: ds) (o :: rest) acc :=
  d_put (ok := b = b) (can := fun _ => True) (av := .tup .nil) hd (by unfold evalAt; rw [hmk]; exact opEval_del hd ho ha ht hg hm hk hr hrd hrk hkk hM hf) htg trivial rfl hc
end
end Go.Proofs.YtofophjfgalhaaaGreatDoor.V
/-! Guarded operations of one run. -/
namespace Go.Proofs.YtofophjfgalhaaaGreatDoor.V
open Go Go.RowKit
section
variable {X : Cx} {tm : Tm} {M : Mem}
theorem o_runG {l0 : List Oper} {i : Nat} {o : Oper} {rest : List Oper} {K : Tm → Mem → Prop} {d : Nat} {g : Option Bool} (hd : o.dst = some d) (hlt : Nat.blt d X.N = true) (hg : guardOf (dstL l0) tm.get o.guard = some g) (hh : holdsG g)
    (h : ∀ a w, At X tm M a w → ∃ (av : AV) (L : Mem) (w' : World), (execOp a.eval o).run X.P w = .ok (.value av.val) w' ∧ Turn M.get w w' L.get ∧ L.get 777777 = none ∧ OpsS X l0 (i + 1) rest ((d, none, av) :: tm) (Mem.app L M) K) : OpsS X l0 i (o :: rest) tm M K := by
  intro hl a w Q ha hQ
  obtain ⟨h1, h2⟩ := drop_succ hl
  rw [List.length_cons]
  refine wpOps_step h1 ?_
  rw [if_pos ((guard_sound ha.T dstL_at hg).2 hh)]
  obtain ⟨av, L, w', hr, ht, hdf, hk⟩ := h a w ha
  refine wp_of_run hr ?_
  exact hk h2 _ w' Q (ha.put (g := none) (av := av) (v := av.val) (fun d' hd' => by rw [hd] at hd'; cases hd'; exact hlt) rfl ht (by rw [hd]; rfl) (Mem.app_get _ _) (app_dfs hdf)) hQ
theorem o_minG {l0 : List Oper} {i : Nat} {o : Oper} {rest : List Oper} {K : Tm → Mem → Prop} {d : Nat} {k : IntKind} {x y : Operand} {ts : Array TypeId} {a b : Int} {g gx gy : Option Bool} (hd : o.dst = some d) (hlt : Nat.blt d X.N = true) (ho : o.op = .call { callee := .builtin .min, args := #[x, y], argTypes := ts }) (hg : guardOf (dstL l0) tm.get o.guard = some g) (hh : holdsG g)
    (hx : opd tm.get x = some (gx, .v (.int k a))) (hhx : holdsG gx) (hy : opd tm.get y = some (gy, .v (.int k b))) (hhy : holdsG gy) (hk : OpsS X l0 (i + 1) rest ((d, none, .v (.int k (if b < a then b else a))) :: tm) M K) : OpsS X l0 i (o :: rest) tm M K := by
  refine o_runG hd hlt hg hh fun act w ha => ?_
  have hxe : act.eval x = .int k a := opd_if ha.T hx fun b' e => by rw [e] at hhx; exact hhx
  have hye : act.eval y = .int k b := opd_if ha.T hy fun b' e => by rw [e] at hhy; exact hhy
  refine ⟨.v (.int k (if b < a then b else a)), [], w, ?_, Turn.below (Below.refl _ _), rfl, hk⟩
  unfold execOp
  rw [ho]
  simp only [Sem.run_bind, resolve, List.map_toArray, List.map_cons, List.map_nil, hxe, hye, Sem.run_pure, Result.andThen_ok, invoke, builtin, run_min_int2]
  rfl
end
end Go.Proofs.YtofophjfgalhaaaGreatDoor.V
