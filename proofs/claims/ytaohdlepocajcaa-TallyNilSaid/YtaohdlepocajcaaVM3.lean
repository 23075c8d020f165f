import Derived.Test.YtaohdlepocajcaaVM2
/-! Maps: the evaluators. -/
namespace Go.Proofs.Ytaohdlepocajcaa.V
open Go Go.RowKit

def lookV (ok : Bool) (v : AV) (b : Bool) : AV := match ok with
  | true => .tup (.cons v (.cons (.v (.bool b)) .nil))
  | false => v
def evLookup (E : Env) (M : MemF) (tm : TmF) (g : Option Bool) : Op → Option Res
  | .lookup xt x ix ok => match opd tm x, opd tm ix, E.tb.get xt with
    | some (cx, X), some (ci, K), some r => match r.d with
      | .map kt e => match E.tb.get kt, E.tb.get e with
        | some rk, some re => match keyTop rk.d && keyT E.tb 64 kt K, X with
          | true, .v (.map none) => some ⟨Unit, need g cx ∧ need g ci, fun _ => True, fun _ => lookV ok re.zero false, [], fun _ => []⟩
          | true, .mp n b => match M n with
            | some (.mp _ b' l _) => match mfind E.tb E.eqs kt K l 0 with
              | some none => some ⟨Unit, (need g cx ∧ need g ci) ∧ imp g (b' = b), fun _ => True, fun _ => lookV ok re.zero false, [], fun _ => []⟩
              | some (some (_, v)) => some ⟨Unit, (need g cx ∧ need g ci) ∧ imp g (b' = b), fun _ => True, fun _ => lookV ok v true, [], fun _ => []⟩
              | none => none
            | _ => none
          | _, _ => none
        | _, _ => none
      | _ => none
    | _, _, _ => none
  | _ => none

def pickZ (rr : Option (Nat × AV)) (z : AV) : AV := match rr with
  | some p => p.2
  | none => z
def mset : List (AV × AV × Nat) → Nat → AV → AV → List (AV × AV × Nat)
  | [], _, _, _ => []
  | (_, _, b) :: r, 0, k, v => (k, v, b) :: r
  | x :: r, i + 1, k, v => x :: mset r i k v
def mputV (tb : Tbl) (eqs : List TypeId) (kt : TypeId) (K X : AV) (b : Nat) (l : List (AV × AV × Nat)) (clk : Nat) : Option Blk := match mfind tb eqs kt K l 0 with
  | some none => some (.mp true b (l ++ [(K, X, clk)]) (clk + 1))
  | some (some (i, _)) => some (.mp true b (mset l i K X) clk)
  | none => none
def mdelV (tb : Tbl) (eqs : List TypeId) (kt : TypeId) (K : AV) (b : Nat) (l : List (AV × AV × Nat)) (clk : Nat) : Option Blk := match mfind tb eqs kt K l 0 with
  | some none => some (.mp true b l clk)
  | some (some (i, _)) => some (.mp true b (l.eraseIdx i) clk)
  | none => none
def evMapUpd (E : Env) (M : MemF) (tm : TmF) (g : Option Bool) (t : TypeId) (m k x : Operand) : Option Res := match g, opd tm m, opd tm k, opd tm x, E.tb.get t with
  | none, some (none, .mp n b), some (none, K), some (none, X), some r => match r.d with
    | .map kt _ => match E.tb.get kt, M n with
      | some rk, some (.mp true b' l clk) => match keyTop rk.d && keyT E.tb 64 kt K, mputV E.tb E.eqs kt K X b l clk with
        | true, some B => some ⟨Unit, b' = b, fun _ => True, fun _ => .v undef, [n], fun _ => [B]⟩
        | _, _ => none
      | _, _ => none
    | _ => none
  | _, _, _, _, _ => none
def evMapDel (E : Env) (M : MemF) (tm : TmF) (g : Option Bool) (args : Array Operand) (tys : Array TypeId) : Option Res := match g, args.toList, tys.toList with
  | none, [m, k], t :: _ => match opd tm m, opd tm k, E.tb.get t with
    | some (none, .mp n b), some (none, K), some r => match r.d with
      | .map kt _ => match E.tb.get kt, M n with
        | some rk, some (.mp true b' l clk) => match keyTop rk.d && keyT E.tb 64 kt K, mdelV E.tb E.eqs kt K b l clk with
          | true, some B => some ⟨Unit, b' = b, fun _ => True, fun _ => .tup .nil, [n], fun _ => [B]⟩
          | _, _ => none
        | _, _ => none
      | _ => none
    | _, _, _ => none
  | _, _, _ => none

theorem mset_map : ∀ (l : List (AV × AV × Nat)) (es : List MapEntry) (i : Nat) (k v : AV), es.map tripE = l.map trip → (es.modify i fun e => { e with key := k.val, val := v.val }).map tripE = (mset l i k v).map trip
  | [], [], i, k, v, _ => by cases i <;> rfl
  | [], e :: es, i, k, v, h => by simp at h
  | p :: l, [], i, k, v, h => by simp at h
  | (k0, v0, b) :: l, e :: es, 0, k, v, h => by
    simp only [List.map_cons, List.cons.injEq] at h
    have hb : e.born = b := congrArg (·.2.2) h.1
    show _ = ((k, v, b) :: l).map trip
    rw [List.modify_zero_cons, List.map_cons, List.map_cons, h.2]
    congr 1
    show (k.val, v.val, e.born) = (k.val, v.val, b)
    rw [hb]
  | p :: l, e :: es, i + 1, k, v, h => by
    simp only [List.map_cons, List.cons.injEq] at h
    show _ = (p :: mset l i k v).map trip
    rw [List.modify_succ_cons, List.map_cons, List.map_cons, h.1, mset_map l es i k v h.2]

section
variable {P : Program} {E : Env} {O : Nat → Prop} {w0 : World}

theorem evLookup_ok (hb : TblOk P E.tb) (he : EqOk P E.eqs) : EvOk P O w0 (fun M tm g _ op => evLookup E M tm g op) := by
  intro N M tm g tag a w o r h hok hT hS hg next Q hk
  dsimp only at h
  unfold evLookup at h
  split at h
  · rename_i xt x ix ok ho
    split at h
    · rename_i cx X ci K rr hx hi hr
      split at h
      · rename_i kt e hd
        split at h
        · rename_i rk re hrk hre
          obtain ⟨dd, hu, hv⟩ := (hb.get hr).under
          rw [hd] at hv
          have hu := viewD_map hv ▸ hu
          have fin : ∀ (es : Array MapEntry) (rr : Option (Nat × AV)), keyTop rk.d = true → keyT E.tb 64 kt K = true → need g cx → need g ci → ((X.val = .map none ∧ es = #[]) ∨ ∃ b clk, X.val = .map (some b) ∧ w.heap[b]? = some (.map es clk)) →
              (Instr.findKey kt K.val es.toList).run P w = .ok (rr.map fun p => (p.1, p.2.val)) w →
              next (a.put o.dst (lookV ok (pickZ rr re.zero) rr.isSome).val) w → o.wp P a w next Q := by
            intro es rr h1 h2 h3 h4 h5 h7 h8
            refine wp_val (v := (lookV ok (pickZ rr re.zero) rr.isSome).val) ?_ h8
            unfold execOp; rw [ho]
            simp only [opd_s hT hx h3 hg, opd_s hT hi h4 hg, Sem.run_bind]
            have : (Instr.lookup xt X.val K.val ok).run P w = .ok (lookV ok (pickZ rr re.zero) rr.isSome).val w := by
              unfold Instr.lookup
              refine bind_ok (run_underlying hu w) ?_
              simp only []
              rcases h5 with ⟨h5, h6⟩ | ⟨b, clk, h5, h6⟩
              · rw [h5]
                subst h6
                refine bind_ok (a := #[]) rfl ?_
                refine bind_ok (keyT_check hb 64 h2 10000 (by omega) _ w) ?_
                refine bind_ok h7 ?_
                cases rr with
                | none =>
                  simp only [Option.map_none, Sem.run_bind, (hb.get hre).run_zero, Result.andThen_ok, Sem.run_pure]
                  cases ok <;> rfl
                | some p =>
                  simp only [Option.map_some, Sem.run_bind, Result.andThen_ok, Sem.run_pure]
                  cases ok <;> rfl
              · rw [h5]
                refine bind_ok (MapKept.run_getObj_map h6) ?_
                refine bind_ok (a := es) rfl ?_
                refine bind_ok (keyT_check hb 64 h2 10000 (by omega) _ w) ?_
                refine bind_ok h7 ?_
                cases rr with
                | none =>
                  simp only [Option.map_none, Sem.run_bind, (hb.get hre).run_zero, Result.andThen_ok, Sem.run_pure]
                  cases ok <;> rfl
                | some p =>
                  simp only [Option.map_some, Sem.run_bind, Result.andThen_ok, Sem.run_pure]
                  cases ok <;> rfl
            rw [this]; rfl
          split at h
          · rename_i hkk
            simp only [Bool.and_eq_true] at hkk
            cases h
            exact fin #[] none hkk.1 hkk.2 hok.1 hok.2 (.inl ⟨rfl, rfl⟩) (findKey_run hb he hrk hkk.1 w (l := []) rfl rfl) (hk () w trivial (Turn.below (Below.refl _ _)))
          · rename_i n b hkk
            simp only [Bool.and_eq_true] at hkk
            split at h
            · rename_i mine b' l clk hM
              obtain ⟨es, q1, q2, q3⟩ := hS.holds _ _ hM
              split at h
              · rename_i hf
                cases h
                obtain ⟨⟨c1, c2⟩, c3⟩ := hok
                have c3 := imp_elim c3 hg
                subst c3
                exact fin es none hkk.1 hkk.2 c1 c2 (.inr ⟨b', clk, rfl, q1⟩) (findKey_run hb he hrk hkk.1 w q3 hf) (hk () w trivial (Turn.below (Below.refl _ _)))
              · rename_i j v hf
                cases h
                obtain ⟨⟨c1, c2⟩, c3⟩ := hok
                have c3 := imp_elim c3 hg
                subst c3
                exact fin es (some (j, v)) hkk.1 hkk.2 c1 c2 (.inr ⟨b', clk, rfl, q1⟩) (findKey_run hb he hrk hkk.1 w q3 hf) (hk () w trivial (Turn.below (Below.refl _ _)))
              · cases h
            · cases h
          · cases h
        · cases h
      · cases h
    · cases h
  · cases h

/-- a map turned: what stands then -/
theorem map_turn {w : World} {M : MemF} {n b : Nat} {l l' : List (AV × AV × Nat)} {clk clk' : Nat} (hM : M n = some (.mp true b l clk)) {es es' : Array MapEntry} (q1 : w.heap[b]? = some (.map es clk)) (hs : MapKept.Stamped es' clk') (hm : es'.toList.map tripE = l'.map trip) :
    Turn M w { w with heap := w.heap.setIfInBounds b (.map es' clk') } (Mem.get [(n, .mp true b l' clk')]) := by
  obtain ⟨h1, h2⟩ := MapKept.heap_set (o' := .map es' clk') q1
  refine Turn.upd hM rfl rfl rfl (by simp) (fun j _ hj => h2 j fun e => hj e.symm) ⟨es', h1, hs, hm⟩ (fun k hk => .inr hk) fun k hk => hk

theorem mput_runs (hb : TblOk P E.tb) (he : EqOk P E.eqs) {kt : TypeId} {rk : TRow} (hrk : E.tb.get kt = some rk) {K X : AV} {b : Nat} {l : List (AV × AV × Nat)} {clk n : Nat} {B : Blk} {M : MemF} {w : World} (hM : M n = some (.mp true b l clk)) (hh : (Blk.mp true b l clk).holds w)
    (h1 : keyTop rk.d = true) (h2 : keyT E.tb 64 kt K = true) (hB : mputV E.tb E.eqs kt K X b l clk = some B) {t e : TypeId} (hu : P.underlying t = some (.map kt e)) :
    ∃ w', (Instr.mapUpdate t (.map (some b)) K.val X.val).run P w = .ok () w' ∧ Turn M w w' (Mem.get [(n, B)]) := by
  obtain ⟨es, q1, q2, q3⟩ := hh
  have q3 : es.toList.map tripE = l.map trip := q3
  unfold mputV at hB
  have base : ∀ (r : Option (Nat × AV)) (w' : World), mfind E.tb E.eqs kt K l 0 = some r → ((match r.map fun p => (p.1, p.2.val) with
      | some (i, _) => do
        let key ← Instr.keyThatStays (((es[i]?).map (·.key)).getD K.val) K.val
        setObj b (.map (es.modify i fun e => { e with key := key, val := X.val }) clk)
      | none => setObj b (.map (es.push { key := K.val, val := X.val, born := clk }) (clk + 1)) : Sem Unit).run P w = .ok () w') → (Instr.mapUpdate t (.map (some b)) K.val X.val).run P w = .ok () w' := by
    intro r w' hf hr
    unfold Instr.mapUpdate
    refine bind_ok (run_underlying hu w) ?_
    refine bind_ok (MapKept.run_getObj_map q1) ?_
    refine bind_ok (keyT_check hb 64 h2 10000 (by omega) _ w) ?_
    refine bind_ok (findKey_run hb he hrk h1 w q3 hf) ?_
    exact hr
  split at hB
  · rename_i hf
    cases hB
    refine ⟨_, base none _ hf (MapKept.run_setObj_map _ q1), map_turn hM q1 (MapKept.stamped_push q2 fun x hx => ?_) ?_⟩
    · obtain ⟨p, hp, hpe⟩ := List.mem_map.1 (show tripE x ∈ l.map trip by rw [← q3]; exact List.mem_map_of_mem hx)
      have : p.1.val = x.key := congrArg (·.1) hpe
      rw [← this]
      exact mfind_none hb he w hf p hp
    · rw [Array.toList_push, List.map_append, List.map_append, q3]; rfl
  · rename_i i v hf
    cases hB
    obtain ⟨_, p, hp, hpv, hpk, _⟩ := mfind_some hf
    rw [Nat.sub_zero] at hp
    have hei : ∃ e, es[i]? = some e ∧ tripE e = trip p := by
      have := congrArg (fun l => l[i]?) q3
      simp only [List.getElem?_map, hp, Option.map_some] at this
      cases hq : es.toList[i]? with
      | none => rw [hq] at this; cases this
      | some e => rw [hq] at this; exact ⟨e, by simpa using hq, by simpa using this⟩
    obtain ⟨e0, he1, he2⟩ := hei
    have hkey : e0.key = K.val := (congrArg (·.1) he2).trans hpk
    refine ⟨_, base (some (i, v)) _ hf ?_, map_turn hM q1 (MapKept.stamped_modify q2 i (fun e => { e with key := K.val, val := X.val }) (fun _ _ => rfl) (fun e _ hee => ?_)) ?_⟩
    · simp only [Option.map_some]
      refine bind_ok (a := K.val) ?_ (MapKept.run_setObj_map _ q1)
      rw [he1]
      simp only [Option.map_some, Option.getD_some, hkey]
      exact keyT_stays h2 w
    · rw [he1] at hee
      cases hee
      exact hkey.symm
    · rw [Array.toList_modify]
      exact mset_map l es.toList i K X q3
  · cases hB

theorem evMapUpd_ok (hb : TblOk P E.tb) (he : EqOk P E.eqs) : EvOk P O w0 (fun M tm g _ op => match op with
    | .mapUpdate t m k x => evMapUpd E M tm g t m k x
    | .insert t m k x => evMapUpd E M tm g t m k x
    | _ => none) := by
  intro N M tm g tag a w o r h0 hok hT hS hg next Q hk
  have key : ∀ t m k x, (execOp a.eval o).run P w = ((Instr.mapUpdate t (a.eval m) (a.eval k) (a.eval x)).run P w).andThen (fun _ w => .ok .skip w) → evMapUpd E M tm g t m k x = some r → o.wp P a w next Q := by
    intro t m k x hex h
    unfold evMapUpd at h
    split at h
    · rename_i n b K X rr hm hkk hx hr
      split at h
      · rename_i kt e hd
        obtain ⟨dd, hu, hv⟩ := (hb.get hr).under
        rw [hd] at hv
        have hu := viewD_map hv ▸ hu
        split at h
        · rename_i rk b' l clk hrk hM
          split at h
          · rename_i B hkt hB
            simp only [Bool.and_eq_true] at hkt
            cases h
            have hok : b' = b := hok
            subst hok
            obtain ⟨w', h1, h2⟩ := mput_runs hb he hrk hM (hS.holds _ _ hM) hkt.1 hkt.2 hB hu
            unfold Oper.wp
            rw [hex, opd_s hT hm (g := none) trivial trivial, opd_s hT hkk (g := none) trivial trivial, opd_s hT hx (g := none) trivial trivial]
            have : (AV.mp n b').val = .map (some b') := rfl
            rw [this, h1]
            exact hk () w' trivial h2
          · cases h
        · cases h
      · cases h
    · cases h
  dsimp only at h0
  split at h0
  · rename_i t m k x ho
    refine key t m k x ?_ h0
    unfold execOp; rw [ho]; simp only [Sem.run_bind, Sem.run_pure]
  · rename_i t m k x ho
    refine key t m k x ?_ h0
    unfold execOp; rw [ho]; simp only [Sem.run_bind, Sem.run_pure]
  · cases h0
end
end Go.Proofs.Ytaohdlepocajcaa.V
