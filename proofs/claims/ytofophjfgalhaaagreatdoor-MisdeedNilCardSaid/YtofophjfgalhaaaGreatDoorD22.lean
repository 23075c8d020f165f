import Derived.Test.YtofophjfgalhaaaGreatDoorD21
/-! Calls that lay new memory; pointers and maps that a callee reads. -/
namespace Go.Proofs.YtofophjfgalhaaaGreatDoor.D
open Go Go.RowKit

/-- blocks that are new in w' -/
structure Fresh (w w' : World) (L : List Blk) : Prop where
  below : Below w.heap.size w w'
  holds : ∀ B ∈ L, B.holds w'
  own : ∀ B ∈ L, ∃ b, B.own = some b ∧ w.heap.size ≤ b
  apart : L.Pairwise fun B B' => B.own ≠ B'.own

def memOf : List Nat → List Blk → Mem → Mem
  | t :: ts, B :: Bs, M => (t, B) :: memOf ts Bs M
  | _, _, M => M

theorem Sat.add {O : Nat → Prop} {w0 w : World} {M : MemF} (h : Sat O w0 M w) {k b : Nat} {B : Blk} (ho : B.own = some b) (hB : B.holds w) (hO : O b)
    (hn : ∀ n B', k ≠ n → M n = some B' → B'.own ≠ some b ∧ ¬ B'.reads b) : Sat O w0 (fun n => if k = n then some B else M n) w := by
  refine ⟨h.keeps, ?_, ?_, ?_, ?_⟩
  · intro n B1 hn
    split at hn
    · cases hn; exact hB
    · exact h.holds n B1 hn
  · intro n B1 b1 hn h1
    split at hn
    · cases hn; rw [ho] at h1; cases h1; exact hO
    · exact h.own _ _ _ hn h1
  · intro n m B1 B2 b1 hn' hm h1 h2
    split at hn' <;> split at hm
    · rename_i e1 e2; exact e1.symm.trans e2
    · rename_i e1 e2; cases hn'; rw [ho] at h1; cases h1; exact ((hn m _ e2 hm).1 h2).elim
    · rename_i e1 e2; cases hm; rw [ho] at h2; cases h2; exact ((hn n _ e1 hn').1 h1).elim
    · exact h.apart _ _ _ _ _ hn' hm h1 h2
  · intro n m B1 B2 b1 hn' hm h1 hr
    split at hm
    · cases hm; exact Blk.own_noreads ho hr
    · rename_i e2
      split at hn'
      · cases hn'; rw [ho] at h1; cases h1; exact (hn m _ e2 hm).2 hr
      · exact h.roapart _ _ _ _ _ hn' hm h1 hr

theorem Sat.fresh {O : Nat → Prop} {w0 w w' : World} {M : Mem} (h : Sat O w0 M.get w) (hO : ∀ b, w0.heap.size ≤ b → O b) : ∀ {L : List Blk} {ts : List Nat}, Fresh w w' L → ts.Nodup → ts.length = L.length →
    Sat O w0 (memOf ts L M).get w' ∧ ∀ n B b, (memOf ts L M).get n = some B → (B.own = some b ∨ B.reads b) → b < w.heap.size ∨ (n ∈ ts ∧ B ∈ L)
  | [], ts, hF, _, hl => by
    have e : ts = [] := List.length_eq_zero_iff.1 (by simpa using hl)
    subst e
    refine ⟨h.below hF.below, fun n B b hn ho => .inl ?_⟩
    rcases ho with ho | ho
    · exact Blk.own_lt (h.holds _ _ hn) ho
    · exact Blk.reads_lt (h.holds _ _ hn) ho
  | B :: L, [], _, _, hl => by cases hl
  | B :: L, t :: ts, hF, hnd, hl => by
    have hF' : Fresh w w' L := ⟨hF.below, fun B hB => hF.holds B (.tail _ hB), fun B hB => hF.own B (.tail _ hB), (List.pairwise_cons.1 hF.apart).2⟩
    obtain ⟨ih1, ih2⟩ := Sat.fresh h hO (L := L) (ts := ts) hF' (List.nodup_cons.1 hnd).2 (by simpa using hl)
    obtain ⟨b, hb1, hb2⟩ := hF.own B (.head _)
    have e : Mem.get (memOf (t :: ts) (B :: L) M) = fun n => if t = n then some B else (memOf ts L M).get n := by
      funext n; show Mem.get ((t, B) :: _) n = _; rw [Mem.get_cons]
    rw [e]
    constructor
    · refine ih1.add hb1 (hF.holds B (.head _)) (hO b (Nat.le_trans h.keeps.size hb2)) fun n B' hne hn => ⟨fun ho => ?_, fun hr => ?_⟩
      · rcases ih2 n B' b hn (.inl ho) with hlt | ⟨_, hm⟩
        · omega
        · exact (List.pairwise_cons.1 hF.apart).1 B' hm (hb1.trans ho.symm)
      · rcases ih2 n B' b hn (.inr hr) with hlt | ⟨_, hm⟩
        · omega
        · obtain ⟨b', h1, _⟩ := hF'.own B' hm
          exact Blk.own_noreads h1 hr
    · intro n B' b' hn ho
      dsimp only at hn
      split at hn
      · rename_i e; subst e; cases hn; exact .inr ⟨.head _, .head _⟩
      · rcases ih2 n B' b' hn ho with h1 | ⟨h1, h2⟩
        · exact .inl h1
        · exact .inr ⟨.tail _ h1, .tail _ h2⟩

/-- the blocks behind distinct tags of one's own -/
def freshOf (M : Mem) : List Nat → List Blk → Prop
  | [], [] => True
  | t :: ts, B :: L => (M.get t = some B ∧ B.own.isSome = true) ∧ freshOf M ts L
  | _, _ => False
theorem freshOf_mem {M : Mem} : ∀ {ts : List Nat} {L : List Blk}, freshOf M ts L → ∀ B ∈ L, ∃ t ∈ ts, M.get t = some B ∧ B.own.isSome = true
  | [], [], _, B, hB => by cases hB
  | [], _ :: _, h, _, _ => h.elim
  | _ :: _, [], h, _, _ => h.elim
  | t :: ts, B0 :: L, h, B, hB => by
    cases hB with
    | head => exact ⟨t, .head _, h.1⟩
    | tail _ hB => obtain ⟨t', h1, h2⟩ := freshOf_mem h.2 B hB; exact ⟨t', .tail _ h1, h2⟩
theorem Sat.toFresh {w w' : World} {M : Mem} (h : Sat (freshO w) w M.get w') : ∀ {ts : List Nat} {L : List Blk}, ts.Nodup → freshOf M ts L → Fresh w w' L := by
  intro ts L hnd hf
  refine ⟨h.keeps.toBelow, fun B hB => ?_, fun B hB => ?_, ?_⟩
  · obtain ⟨t, _, h1, _⟩ := freshOf_mem hf B hB; exact h.holds _ _ h1
  · obtain ⟨t, _, h1, h2⟩ := freshOf_mem hf B hB
    obtain ⟨b, hb⟩ := Option.isSome_iff_exists.1 h2
    exact ⟨b, hb, h.own _ _ _ h1 hb⟩
  · induction ts generalizing L with
    | nil => cases L with
      | nil => exact List.Pairwise.nil
      | cons => exact hf.elim
    | cons t ts ih => cases L with
      | nil => exact hf.elim
      | cons B L =>
        have hnd' := List.nodup_cons.1 hnd
        refine List.pairwise_cons.2 ⟨fun B' hB' heq => ?_, ih hnd'.2 hf.2⟩
        obtain ⟨t', h1, h2, h3⟩ := freshOf_mem hf.2 B' hB'
        obtain ⟨b, hb⟩ := Option.isSome_iff_exists.1 h3
        have := h.apart t t' B B' b hf.1.1 h2 (heq.trans hb) hb
        exact hnd'.1 (this ▸ h1)

/-- A function that lays new memory and answers a value, out of its walk. -/
theorem new_fn {P : Program} {tb : Tbl} {eqs : List TypeId} {ct : CtL} (hb : TblOk P tb) (he : EqOk P eqs) (hct : CtLOk P ct) (hmix : P.follows .mixedOrders = true) {f : FuncId} {fn : Func} {c : Code} (hf : P.funcs[f]? = some fn) (hbd : fn.body = some c) {args : List AV} (hlen : Nat.ble args.length fn.ntmps = true) {α : Type} (res : α → AV) (L : α → List Blk) (ts : List Nat) (hts : ts.Nodup) {w : World} {M : Mem} (h1 : allRo M) (h2 : allHold w M)
    (h : CodeS (cx P tb eqs ct hb he hct hmix w fn.ntmps) c (argsTm 0 args) M (retK (cx P tb eqs ct hb he hct hmix w fn.ntmps) fn fun av M' => ∃ r, av.val = (res r).val ∧ freshOf M' ts (L r))) :
    Calls P f (args.map AV.val).toArray w fun e w' => ∃ r, e = .returned (res r).val ∧ Fresh w w' (L r) := by
  have := s_fn (X := cx P tb eqs ct hb he hct hmix w fn.ntmps) hf hbd rfl (Nat.le_of_ble_eq_true hlen) (sat_ro h1 h2) h
  refine this.mono fun e w' ⟨av, M', h1, ⟨r, h2, h3⟩, h4⟩ => ⟨r, by rw [h1, h2], h4.toFresh hts h3⟩

section
variable {X : Cx} {tm : Tm} {M : Mem} {K : Tm → Mem → Prop}
/-- A call that lays new memory. -/
theorem e_new {o : Oper} {f : FuncId} {xs : Array Operand} {tys : Array TypeId} {d : Nat} {p : Prop} {l : List (Nat × AV)} {α : Type} (res : α → AV) (L : α → List Blk) (ts : List Nat)
    (ho : o.op = .call { callee := .value (.func f), args := xs, argTypes := tys }) (hgd : o.guard = none) (hd : o.dst = some d) (hlt : Nat.blt d X.N = true)
    (hx : opds tm.get none (xs.toList.map fun x => (0, x)) = some (p, l)) (hp : p) (hb : HasBody X.P f)
    (hc : ∀ w, Sat X.O X.w0 M.get w → Calls X.P f ((vals l).map AV.val).toArray w fun e w' => ∃ r, e = .returned (res r).val ∧ Fresh w w' (L r))
    (hts : ts.Nodup) (hlen : ∀ r, ts.length = (L r).length)
    (hk : ∀ r, K ((d, none, res r) :: tm) (memOf ts (L r) M)) : EffS X o tm M K := by
  refine ⟨hgd, fun a w next Q ha hQ => ?_⟩
  unfold Oper.wp
  have : (execOp a.eval o).run X.P w = (callFunc f ((vals l).map AV.val).toArray).run X.P w := by
    unfold execOp
    rw [ho]
    simp only [Sem.run_bind, resolve, Act.eval, Deferred.ofValue, args_eq ha.T (g := none) trivial hx hp, Sem.run_pure, Result.andThen_ok, invoke, Array.empty_append, Array.append_empty]
  rw [this]
  refine upon_calls hb (R := fun v w' => ∃ r, v = (res r).val ∧ Fresh w w' (L r)) ((hc w ha.S).mono fun e w' ⟨r, h1, h2⟩ => ⟨_, h1, r, rfl, h2⟩) fun v w' ⟨r, hv, hF⟩ => ?_
  rw [hd]
  refine hQ _ _ _ _ (hk r) ⟨?_, ha.d, (Sat.fresh ha.S X.hO hF hts (hlen r)).1⟩
  have := ha.T.put (blt_lt hlt) (g := none) (av := res r) (v := v) hv
  refine ⟨this.size, fun t e h => this.slot t e ?_⟩
  rw [Tm.get_cons] at h
  exact h
end

/-- a pointer that is read, as a callee sees it -/
def roPt (n b o es : Nat) : AV := .ptr ⟨n, 0, b, o, es, 0, 0, 0, false⟩
theorem roPt_val (n b o es : Nat) : (roPt n b o es).val = .pointer (some ⟨b, o, none⟩) := by
  simp [roPt, AV.val, AV.den, Pt.addr, Pt.cell]
theorem ptr_val (p : Pt) : (AV.ptr p).val = .pointer (some ⟨p.b, p.cell, none⟩) := rfl

theorem Blk.mp_holds {w : World} {m m' : Bool} {b : Nat} {l : List (AV × AV)} (h : (Blk.mp m b l).holds w) : (Blk.mp m' b l).holds w := h
end Go.Proofs.YtofophjfgalhaaaGreatDoor.D
