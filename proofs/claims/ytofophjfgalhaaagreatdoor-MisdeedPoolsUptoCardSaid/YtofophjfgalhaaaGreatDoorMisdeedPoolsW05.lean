import Derived.Test.YtofophjfgalhaaaGreatDoorMisdeedPoolsW04
import Derived.Laws.CopyRow
import Derived.Laws.IdiomCopy
import Derived.Laws.MakeOwn
import Derived.Laws.BytesString
set_option linter.unusedVariables false
set_option linter.unusedSimpArgs false
set_option maxRecDepth 100000
set_option maxHeartbeats 8000000
namespace Go.Proofs.YtofophjfgalhaaaGreatDoor.V
open Go Go.RowKit
def lookV (ok : Bool) (v : AV) (b : Bool) : AV := match ok with
 | true => .tup (.cons v (.cons (.v (.bool b)) .nil))
 | false => v
def evLookup (E : Env) (M : MemF) (tm : TmF) (g : Option Bool) : Op → Option Res
 | .lookup xt x ix ok => match opd tm x, opd tm ix, E.tb.get xt with
  | some (cx, X), some (ci, K), some r => match r.d with
   | .map kt e => match E.tb.get kt, E.tb.get e with
    | some rk, some re => match keyTop rk.d && keyT E.tb 64 kt K, X with
     | true, .v (.map none) => some ⟨Unit, need g cx ∧ need g ci, fun _ => True, fun _ => lookV ok re.zero false, [], fun _ => []⟩
     | true, .mp n b => match M n with
      | some (.mp _ b' l _) => match mfind E.tb E.eqs kt K l 0 with
       | some none => some ⟨Unit, (need g cx ∧ need g ci) ∧ imp g (b' = b), fun _ => True, fun _ => lookV ok re.zero false, [], fun _ => []⟩
       | some (some (_, v)) => some ⟨Unit, (need g cx ∧ need g ci) ∧ imp g (b' = b), fun _ => True, fun _ => lookV ok v true, [], fun _ => []⟩
       | none => none
      | _ => none
     | _, _ => none
    | _, _ => none
   | _ => none
  | _, _, _ => none
 | _ => none
def pickZ (rr : Option (Nat × AV)) (z : AV) : AV := match rr with
 | some p => p.2
 | none => z
def mset : List (AV × AV × Nat) → Nat → AV → AV → List (AV × AV × Nat)
 | [], _, _, _ => []
 | (_, _, b) :: r, 0, k, v => (k, v, b) :: r
 | x :: r, i + 1, k, v => x :: mset r i k v
def mputV (tb : Tbl) (eqs : List TypeId) (kt : TypeId) (K X : AV) (b : Nat) (l : List (AV × AV × Nat)) (clk : Nat) : Option Blk := match mfind tb eqs kt K l 0 with
 | some none => some (.mp true b (l ++ [(K, X, clk)]) (clk + 1))
 | some (some (i, _)) => some (.mp true b (mset l i K X) clk)
 | none => none
def mdelV (tb : Tbl) (eqs : List TypeId) (kt : TypeId) (K : AV) (b : Nat) (l : List (AV × AV × Nat)) (clk : Nat) : Option Blk := match mfind tb eqs kt K l 0 with
 | some none => some (.mp true b l clk)
 | some (some (i, _)) => some (.mp true b (l.eraseIdx i) clk)
 | none => none
def evMapUpd (E : Env) (M : MemF) (tm : TmF) (g : Option Bool) (t : TypeId) (m k x : Operand) : Option Res := match g, opd tm m, opd tm k, opd tm x, E.tb.get t with
 | none, some (none, .mp n b), some (none, K), some (none, X), some r => match r.d with
  | .map kt _ => match E.tb.get kt, M n with
   | some rk, some (.mp true b' l clk) => match keyTop rk.d && keyT E.tb 64 kt K, mputV E.tb E.eqs kt K X b l clk with
    | true, some B => some ⟨Unit, b' = b, fun _ => True, fun _ => .v undef, [n], fun _ => [B]⟩
    | _, _ => none
   | _, _ => none
  | _ => none
 | _, _, _, _, _ => none
def evMapDel (E : Env) (M : MemF) (tm : TmF) (g : Option Bool) (args : Array Operand) (tys : Array TypeId) : Option Res := match g, args.toList, tys.toList with
 | none, [m, k], t :: _ => match opd tm m, opd tm k, E.tb.get t with
  | some (none, .mp n b), some (none, K), some r => match r.d with
   | .map kt _ => match E.tb.get kt, M n with
    | some rk, some (.mp true b' l clk) => match keyTop rk.d && keyT E.tb 64 kt K, mdelV E.tb E.eqs kt K b l clk with
     | true, some B => some ⟨Unit, b' = b, fun _ => True, fun _ => .tup .nil, [n], fun _ => [B]⟩
     | _, _ => none
    | _, _ => none
   | _ => none
  | _, _, _ => none
 | _, _, _ => none
theorem mset_map : ∀ (l : List (AV × AV × Nat)) (es : List MapEntry) (i : Nat) (k v : AV), es.map tripE = l.map trip → (es.modify i fun e => { e with key := k.val, val := v.val }).map tripE = (mset l i k v).map trip
 | [], [], i, k, v, _ => by cases i <;> rfl
 | [], e :: es, i, k, v, h => by simp at h
 | p :: l, [], i, k, v, h => by simp at h
 | (k0, v0, b) :: l, e :: es, 0, k, v, h => by
  simp only [List.map_cons, List.cons.injEq] at h
  have hb : e.born = b := congrArg (·.2.2) h.1
  show _ = ((k, v, b) :: l).map trip
  rw [List.modify_zero_cons, List.map_cons, List.map_cons, h.2]
  congr 1
  show (k.val, v.val, e.born) = (k.val, v.val, b)
  rw [hb]
 | p :: l, e :: es, i + 1, k, v, h => by
  simp only [List.map_cons, List.cons.injEq] at h
  show _ = (p :: mset l i k v).map trip
  rw [List.modify_succ_cons, List.map_cons, List.map_cons, h.1, mset_map l es i k v h.2]
section
variable {P : Program} {E : Env} {O : Nat → Prop} {w0 : World}
theorem evLookup_ok (hb : TblOk P E.tb) (he : EqOk P E.eqs) : EvOk P O w0 (fun M tm g _ op => evLookup E M tm g op) := by
 intro N M tm g tag a w o r h hok hT hS hg next Q hk
 dsimp only at h
 unfold evLookup at h
 split at h
 ·
  rename_i xt x ix ok ho
  split at h
  ·
   rename_i cx X ci K rr hx hi hr
   split at h
   ·
    rename_i kt e hd
    split at h
    ·
     rename_i rk re hrk hre
     obtain ⟨dd, hu, hv⟩ := (hb.get hr).under
     rw [hd] at hv
     have hu := viewD_map hv ▸ hu
     have fin : ∀ (es : Array MapEntry) (rr : Option (Nat × AV)), keyTop rk.d = true → keyT E.tb 64 kt K = true → need g cx → need g ci → ((X.val = .map none ∧ es = #[]) ∨ ∃ b clk, X.val = .map (some b) ∧ w.heap[b]? = some (.map es clk)) →
       (Instr.findKey kt K.val es.toList).run P w = .ok (rr.map fun p => (p.1, p.2.val)) w →
       next (a.put o.dst (lookV ok (pickZ rr re.zero) rr.isSome).val) w → o.wp P a w next Q := by
      intro es rr h1 h2 h3 h4 h5 h7 h8
      refine wp_val (v := (lookV ok (pickZ rr re.zero) rr.isSome).val) ?_ h8
      unfold execOp; rw [ho]
      simp only [opd_s hT hx h3 hg, opd_s hT hi h4 hg, Sem.run_bind]
      have : (Instr.lookup xt X.val K.val ok).run P w = .ok (lookV ok (pickZ rr re.zero) rr.isSome).val w := by
       unfold Instr.lookup
       refine bind_ok (run_underlying hu w) ?_
       simp only []
       rcases h5 with ⟨h5, h6⟩ | ⟨b, clk, h5, h6⟩
       ·
        rw [h5]
        subst h6
        refine bind_ok (a := #[]) rfl ?_
        refine bind_ok (keyT_check hb 64 h2 10000 (by omega) _ w) ?_
        refine bind_ok h7 ?_
        cases rr with
        | none =>
         simp only [Option.map_none, Sem.run_bind, (hb.get hre).run_zero, Result.andThen_ok, Sem.run_pure]
         cases ok <;> rfl
        | some p =>
         simp only [Option.map_some, Sem.run_bind, Result.andThen_ok, Sem.run_pure]
         cases ok <;> rfl
       ·
        rw [h5]
        refine bind_ok (MapKept.run_getObj_map h6) ?_
        refine bind_ok (a := es) rfl ?_
        refine bind_ok (keyT_check hb 64 h2 10000 (by omega) _ w) ?_
        refine bind_ok h7 ?_
        cases rr with
        | none =>
         simp only [Option.map_none, Sem.run_bind, (hb.get hre).run_zero, Result.andThen_ok, Sem.run_pure]
         cases ok <;> rfl
        | some p =>
         simp only [Option.map_some, Sem.run_bind, Result.andThen_ok, Sem.run_pure]
         cases ok <;> rfl
      rw [this]; rfl
     split at h
     ·
      rename_i hkk
      simp only [Bool.and_eq_true] at hkk
      cases h
      exact fin #[] none hkk.1 hkk.2 hok.1 hok.2 (.inl ⟨rfl, rfl⟩) (findKey_run hb he hrk hkk.1 w (l := []) rfl rfl) (hk () w trivial (Turn.below (Below.refl _ _)))
     ·
      rename_i n b hkk
      simp only [Bool.and_eq_true] at hkk
      split at h
      ·
       rename_i mine b' l clk hM
       obtain ⟨es, q1, q2, q3⟩ := hS.holds _ _ hM
       split at h
       ·
        rename_i hf
        cases h
        obtain ⟨⟨c1, c2⟩, c3⟩ := hok
        have c3 := imp_elim c3 hg
        subst c3
        exact fin es none hkk.1 hkk.2 c1 c2 (.inr ⟨b', clk, rfl, q1⟩) (findKey_run hb he hrk hkk.1 w q3 hf) (hk () w trivial (Turn.below (Below.refl _ _)))
       ·
        rename_i j v hf
        cases h
        obtain ⟨⟨c1, c2⟩, c3⟩ := hok
        have c3 := imp_elim c3 hg
        subst c3
        exact fin es (some (j, v)) hkk.1 hkk.2 c1 c2 (.inr ⟨b', clk, rfl, q1⟩) (findKey_run hb he hrk hkk.1 w q3 hf) (hk () w trivial (Turn.below (Below.refl _ _)))
       ·
        cases h
      ·
       cases h
     ·
      cases h
    ·
     cases h
   ·
    cases h
  ·
   cases h
 ·
  cases h
theorem map_turn {w : World} {M : MemF} {n b : Nat} {l l' : List (AV × AV × Nat)} {clk clk' : Nat} (hM : M n = some (.mp true b l clk)) {es es' : Array MapEntry} (q1 : w.heap[b]? = some (.map es clk)) (hs : MapKept.Stamped es' clk') (hm : es'.toList.map tripE = l'.map trip) :
  Turn M w { w with heap := w.heap.setIfInBounds b (.map es' clk') } (Mem.get [(n, .mp true b l' clk')]) := by
 obtain ⟨h1, h2⟩ := MapKept.heap_set (o' := .map es' clk') q1
 refine Turn.upd hM rfl rfl rfl (Nat.le_refl _) (by simp) (fun j _ hj => h2 j fun e => hj e.symm) ⟨es', h1, hs, hm⟩ (fun k hk => .inr hk) fun k hk => hk
theorem mput_runs (hb : TblOk P E.tb) (he : EqOk P E.eqs) {kt : TypeId} {rk : TRow} (hrk : E.tb.get kt = some rk) {K X : AV} {b : Nat} {l : List (AV × AV × Nat)} {clk n : Nat} {B : Blk} {M : MemF} {w : World} (hM : M n = some (.mp true b l clk)) (hh : (Blk.mp true b l clk).holds w)
  (h1 : keyTop rk.d = true) (h2 : keyT E.tb 64 kt K = true) (hB : mputV E.tb E.eqs kt K X b l clk = some B) {t e : TypeId} (hu : P.underlying t = some (.map kt e)) :
  ∃ w', (Instr.mapUpdate t (.map (some b)) K.val X.val).run P w = .ok () w' ∧ Turn M w w' (Mem.get [(n, B)]) := by
 obtain ⟨es, q1, q2, q3⟩ := hh
 have q3 : es.toList.map tripE = l.map trip := q3
 unfold mputV at hB
 have base : ∀ (r : Option (Nat × AV)) (w' : World), mfind E.tb E.eqs kt K l 0 = some r → ((match r.map fun p => (p.1, p.2.val) with
   | some (i, _) => do
    let key ← Instr.keyThatStays (((es[i]?).map (·.key)).getD K.val) K.val
    setObj b (.map (es.modify i fun e => { e with key := key, val := X.val }) clk)
   | none => setObj b (.map (es.push { key := K.val, val := X.val, born := clk }) (clk + 1)) : Sem Unit).run P w = .ok () w') → (Instr.mapUpdate t (.map (some b)) K.val X.val).run P w = .ok () w' := by
  intro r w' hf hr
  unfold Instr.mapUpdate
  refine bind_ok (run_underlying hu w) ?_
  refine bind_ok (MapKept.run_getObj_map q1) ?_
  refine bind_ok (keyT_check hb 64 h2 10000 (by omega) _ w) ?_
  refine bind_ok (findKey_run hb he hrk h1 w q3 hf) ?_
  exact hr
 split at hB
 ·
  rename_i hf
  cases hB
  refine ⟨_, base none _ hf (MapKept.run_setObj_map _ q1), map_turn hM q1 (MapKept.stamped_push q2 fun x hx => ?_) ?_⟩
  ·
   obtain ⟨p, hp, hpe⟩ := List.mem_map.1 (show tripE x ∈ l.map trip by rw [← q3]; exact List.mem_map_of_mem hx)
   have : p.1.val = x.key := congrArg (·.1) hpe
   rw [← this]
   exact mfind_none hb he w hf p hp
  ·
   rw [Array.toList_push, List.map_append, List.map_append, q3]; rfl
 ·
  rename_i i v hf
  cases hB
  obtain ⟨_, p, hp, hpv, hpk, _⟩ := mfind_some hf
  rw [Nat.sub_zero] at hp
  have hei : ∃ e, es[i]? = some e ∧ tripE e = trip p := by
   have := congrArg (fun l => l[i]?) q3
   simp only [List.getElem?_map, hp, Option.map_some] at this
   cases hq : es.toList[i]? with
   | none => rw [hq] at this; cases this
   | some e => rw [hq] at this; exact ⟨e, by simpa using hq, by simpa using this⟩
  obtain ⟨e0, he1, he2⟩ := hei
  have hkey : e0.key = K.val := (congrArg (·.1) he2).trans hpk
  refine ⟨_, base (some (i, v)) _ hf ?_, map_turn hM q1 (MapKept.stamped_modify q2 i (fun e => { e with key := K.val, val := X.val }) (fun _ _ => rfl) (fun e _ hee => ?_)) ?_⟩
  ·
   simp only [Option.map_some]
   refine bind_ok (a := K.val) ?_ (MapKept.run_setObj_map _ q1)
   rw [he1]
   simp only [Option.map_some, Option.getD_some, hkey]
   exact keyT_stays h2 w
  ·
   rw [he1] at hee
   cases hee
   exact hkey.symm
  ·
   rw [Array.toList_modify]
   exact mset_map l es.toList i K X q3
 ·
  cases hB
theorem evMapUpd_ok (hb : TblOk P E.tb) (he : EqOk P E.eqs) : EvOk P O w0 (fun M tm g _ op => match op with
  | .mapUpdate t m k x => evMapUpd E M tm g t m k x
  | .insert t m k x => evMapUpd E M tm g t m k x
  | _ => none) := by
 intro N M tm g tag a w o r h0 hok hT hS hg next Q hk
 have key : ∀ t m k x, (execOp a.eval o).run P w = ((Instr.mapUpdate t (a.eval m) (a.eval k) (a.eval x)).run P w).andThen (fun _ w => .ok .skip w) → evMapUpd E M tm g t m k x = some r → o.wp P a w next Q := by
  intro t m k x hex h
  unfold evMapUpd at h
  split at h
  ·
   rename_i n b K X rr hm hkk hx hr
   split at h
   ·
    rename_i kt e hd
    obtain ⟨dd, hu, hv⟩ := (hb.get hr).under
    rw [hd] at hv
    have hu := viewD_map hv ▸ hu
    split at h
    ·
     rename_i rk b' l clk hrk hM
     split at h
     ·
      rename_i B hkt hB
      simp only [Bool.and_eq_true] at hkt
      cases h
      have hok : b' = b := hok
      subst hok
      obtain ⟨w', h1, h2⟩ := mput_runs hb he hrk hM (hS.holds _ _ hM) hkt.1 hkt.2 hB hu
      unfold Oper.wp
      rw [hex, opd_s hT hm (g := none) trivial trivial, opd_s hT hkk (g := none) trivial trivial, opd_s hT hx (g := none) trivial trivial]
      have : (AV.mp n b').val = .map (some b') := rfl
      rw [this, h1]
      exact hk () w' trivial h2
     ·
      cases h
    ·
     cases h
   ·
    cases h
  ·
   cases h
 dsimp only at h0
 split at h0
 ·
  rename_i t m k x ho
  refine key t m k x ?_ h0
  unfold execOp; rw [ho]; simp only [Sem.run_bind, Sem.run_pure]
 ·
  rename_i t m k x ho
  refine key t m k x ?_ h0
  unfold execOp; rw [ho]; simp only [Sem.run_bind, Sem.run_pure]
 ·
  cases h0
end
theorem eraseIdx_map {l : List (AV × AV × Nat)} {es : List MapEntry} (h : es.map tripE = l.map trip) (i : Nat) : (es.eraseIdx i).map tripE = (l.eraseIdx i).map trip := by
 have key : ∀ {α β : Type} (f : α → β) (l : List α) (i : Nat), (l.eraseIdx i).map f = (l.map f).eraseIdx i := by
  intro α β f l
  induction l with
  | nil => intro i; rfl
  | cons a l ih => intro i; cases i with
   | zero => rfl
   | succ i => simp [ih]
 rw [key, key, h]
section
variable {P : Program} {E : Env} {O : Nat → Prop} {w0 : World}
theorem evMapDel_ok (hb : TblOk P E.tb) (he : EqOk P E.eqs) : EvOk P O w0 (fun M tm g _ op => match op with
  | .call { callee := .builtin .delete, args, argTypes } => evMapDel E M tm g args argTypes
  | _ => none) := by
 intro N M tm g tag a w o r h0 hok hT hS hg next Q hk
 dsimp only at h0
 split at h0
 ·
  rename_i args tys ho
  unfold evMapDel at h0
  split at h0
  ·
   rename_i m k t ts hargs htys
   split at h0
   ·
    rename_i n b K rr hm hkk hr
    split at h0
    ·
     rename_i kt e hd
     obtain ⟨dd, hu, hv⟩ := (hb.get hr).under
     rw [hd] at hv
     have hu := viewD_map hv ▸ hu
     split at h0
     ·
      rename_i rk b' l clk hrk hM
      split at h0
      ·
       rename_i B hkt hB
       simp only [Bool.and_eq_true] at hkt
       cases h0
       have hok : b' = b := hok
       subst hok
       have ha1 : args = #[m, k] := by apply Array.ext'; rw [hargs]
       have ht1 : tys = (t :: ts).toArray := by apply Array.ext'; rw [htys]
       subst ha1 ht1
       obtain ⟨es, q1, q2, q3⟩ := hS.holds _ _ hM
       have q3 : es.toList.map tripE = l.map trip := q3
       have fin : ∀ w' B', B = B' → (Builtin.delete_ (t :: ts).toArray o.type #[.map (some b'), K.val]).run P w = .ok (.tuple #[]) w' → Turn M w w' (Mem.get [(n, B')]) → o.wp P a w next Q := by
        intro w' B' hBB hrun hturn
        subst hBB
        unfold Oper.wp
        have hex : (execOp a.eval o).run P w = .ok (.value (.tuple #[])) w' := by
         unfold execOp
         rw [ho]
         simp only [Sem.run_bind, resolve, List.map_toArray, List.map_cons, List.map_nil, opd_s hT hm (g := none) trivial trivial, opd_s hT hkk (g := none) trivial trivial, Sem.run_pure, Result.andThen_ok, invoke, builtin]
         have : (AV.mp n b').val = .map (some b') := rfl
         rw [this, hrun]; rfl
        rw [hex]
        exact hk () w' trivial hturn
       have base : ∀ (r : Option (Nat × AV)) (w' : World), mfind E.tb E.eqs kt K l 0 = some r → ((match r.map fun p => (p.1, p.2.val) with
         | some (i, _) => setObj b' (.map (es.eraseIdxIfInBounds i) clk)
         | none => setObj b' (.map es clk) : Sem Unit).run P w = .ok () w') → (Builtin.delete_ (t :: ts).toArray o.type #[.map (some b'), K.val]).run P w = .ok (.tuple #[]) w' := by
        intro r w' hf hr
        unfold Builtin.delete_
        simp only [List.getElem?_toArray, List.getElem?_cons_zero, List.getElem?_cons_succ]
        refine bind_ok (run_underlying hu w) ?_
        refine bind_ok (MapKept.run_getObj_map q1) ?_
        refine bind_ok (keyT_check hb 64 hkt.2 10000 (by omega) _ w) ?_
        refine bind_ok (findKey_run hb he hrk hkt.1 w q3 hf) ?_
        cases r with
        | none => simp only [Option.map_none] at hr ⊢; rw [Sem.run_bind, hr]; rfl
        | some p => simp only [Option.map_some] at hr ⊢; rw [Sem.run_bind, hr]; rfl
       unfold mdelV at hB
       split at hB
       ·
        rename_i hf
        cases hB
        exact fin _ _ rfl (base none _ hf (MapKept.run_setObj_map _ q1)) (map_turn hM q1 q2 q3)
       ·
        rename_i i v hf
        cases hB
        obtain ⟨_, p, hp, _⟩ := mfind_some hf
        have hil : i < es.size := by
         have h1 : es.toList.length = l.length := by have := congrArg List.length q3; simpa using this
         have h2 := (List.getElem?_eq_some_iff.1 hp).1
         rw [Array.length_toList] at h1
         omega
        refine fin _ _ rfl (base (some (i, v)) _ hf (MapKept.run_setObj_map _ q1)) (map_turn hM q1 (MapKept.stamped_erase q2 i) ?_)
        unfold Array.eraseIdxIfInBounds
        rw [dif_pos hil, Array.toList_eraseIdx]
        exact eraseIdx_map q3 i
       ·
        cases hB
      ·
       cases h0
     ·
      cases h0
    ·
     cases h0
   ·
    cases h0
  ·
   cases h0
 ·
  cases h0
end
def AV.int1 : AV → Int
 | .v (.int _ x) => x
 | _ => 0
def lcopy (n : Nat) (l : List Int) (j c : Nat) (src : Nat → Int) : List Int := (List.range n).map fun i => if j ≤ i ∧ i < j + c then src (i - j) else l.getD i 0
theorem lcopy_get (n : Nat) (l : List Int) (j c : Nat) (src : Nat → Int) {i : Nat} (h : i < n) : (lcopy n l j c src).getD i 0 = if j ≤ i ∧ i < j + c then src (i - j) else l.getD i 0 := by
 unfold lcopy
 rw [List.getD_eq_getElem?_getD, List.getElem?_map, List.getElem?_range h]; rfl
def evCopy (E : Env) (M : MemF) (tm : TmF) (g : Option Bool) (args : Array Operand) (tys : Array TypeId) : Option Res := match g, args.toList, tys.toList with
 | none, [x, y], [t, _] => match opd tm x, opd tm y, E.tb.get t with
  | some (none, .sl p dlen dcap), some (none, Y), some r => match r.d, p.lf with
   | .sl e, true => match E.tb.get e, M p.n, seqOf M Y with
    | some re, some (.row b T es len f cap), some (c, es', n, src) => match (f p.idx).leaf p.off, Nat.beq re.size 1 with
     | some (k, m, l), true => match AV.upd p.off m (.ints k m (lcopy m l p.j (Nat.min n dlen) fun i => (src i).int1)) (f p.idx) with
      | some el => some ⟨Unit, (p.b = b ∧ p.o0 = 0 ∧ p.es = es ∧ p.idx < len) ∧ p.j + dlen ≤ m ∧ c ∧ (n ≠ 0 → es' = 1) ∧ ∀ i, i < n → src i = .v (.int k (src i).int1), fun _ => True, fun _ => .v (.int .i64 (Nat.min n dlen)), [p.n],
        fun _ => [.row b T es len (fset len p.idx f el) cap]⟩
      | none => none
     | _, _ => none
    | _, _, _ => none
   | _, _ => none
  | _, _, _ => none
 | _, _, _ => none
section
variable {P : Program} {E : Env} {O : Nat → Prop} {w0 : World}
theorem copy_spec {p : Pt} {c m : Nat} {k : IntKind} {l : List Int} {s : Nat → Int} {el e : AV} (hl : el.leaf p.off = some (k, m, l)) (hu : AV.upd p.off m (.ints k m (lcopy m l p.j c s)) el = some e) (hj : p.j + c ≤ m) (ho : el.one = true) :
  p.off + p.j + c ≤ el.size ∧ e.size = el.size ∧ e.one = true ∧ ∀ i, i < el.size → e.cells[i]? = if p.off + p.j ≤ i ∧ i < p.off + p.j + c then some (.int k (s (i - (p.off + p.j)))) else el.cells[i]? := by
 have hpl := AV.leaf_spec _ hl
 obtain ⟨h1, h2⟩ := AV.upd_spec _ hu (show (AV.ints k m (lcopy m l p.j c s)).size = m from rfl)
 have h3 := h1.1
 rw [AV.size_cells] at h3
 refine ⟨by omega, upd_size hu rfl, h2 ho rfl, fun i hi => ?_⟩
 rw [upd_at h1 (by rw [AV.size_cells]; rfl) i]
 by_cases hin : p.off ≤ i ∧ i < p.off + m
 ·
  rw [if_pos hin, ints_get k m _ (by omega), lcopy_get m l p.j c s (by omega)]
  by_cases hc : p.off + p.j ≤ i ∧ i < p.off + p.j + c
  ·
   rw [if_pos (by omega), if_pos hc, show i - p.off - p.j = i - (p.off + p.j) by omega]
  ·
   rw [if_neg (by omega), if_neg hc]
   have := getElem?_part hpl (k := i - p.off) (by omega)
   rw [ints_get k m l (by omega), show p.off + (i - p.off) = i by omega] at this
   exact this.symm
 ·
  rw [if_neg hin, if_neg (by omega)]
theorem evCopy_ok (hb : TblOk P E.tb) : EvOk P O w0 (fun M tm g _ op => match op with
  | .call { callee := .builtin .copy, args, argTypes } => evCopy E M tm g args argTypes
  | _ => none) := by
 intro N M tm g tag a w o r h0 hok hT hS hg next Q hk
 dsimp only at h0
 split at h0
 ·
  rename_i args tys ho
  unfold evCopy at h0
  split at h0
  ·
   rename_i x y t t2 hargs htys
   split at h0
   ·
    rename_i p dlen dcap Y rr hx hy hr
    split at h0
    ·
     rename_i e hd hlf
     split at h0
     ·
      rename_i re b T es len f cap c es' n src hre hM hsq
      split at h0
      ·
       rename_i k m l hleaf hsz
       split at h0
       ·
        rename_i el hu
        cases h0
        obtain ⟨⟨q1, q2, q3, q4⟩, q5, q6, q7, q8⟩ := hok
        have hsz := kindB hsz
        obtain ⟨dd, hun, hv⟩ := (hb.get hr).under
        rw [hd] at hv
        rw [viewD_sl hv] at hun
        have hinfo : (P.info? e).map (·.size) = some 1 := by
         obtain ⟨i, hi, hi1, _⟩ := (hb.get hre).info
         rw [hi]; simp [hi1, hsz]
        have hrow : RowHolds w b T es len f cap := hS.holds _ _ hM
        obtain ⟨cs, hcs, hcz, hlc, hel⟩ := id hrow
        have hmin : Nat.min n dlen ≤ dlen := Nat.min_le_right _ _
        have hmin2 : Nat.min n dlen ≤ n := Nat.min_le_left _ _
        obtain ⟨h1, h2, h3, h4⟩ := copy_spec (s := fun i => (src i).int1) hleaf hu (by omega) (hel _ q4).2.1
        rw [(hel _ q4).1] at h1 h2 h4
        have hfit : p.idx * es + es ≤ cap * es := by
         rw [← Nat.succ_mul]
         exact Nat.mul_le_mul_right _ (by omega)
        let vs : List Value := (List.range (Nat.min n dlen)).map fun i => Value.int k (src i).int1
        have hvl : vs.length = Nat.min n dlen := by simp [vs]
        have hvg : ∀ i, i < Nat.min n dlen → vs[i]? = some (.int k (src i).int1) := fun i hi => by
         simp only [vs, List.getElem?_map, List.getElem?_range hi, Option.map_some]
        obtain ⟨hbound, hnew⟩ := row_set (f' := fset len p.idx f el) (len' := len) (o := p.idx * es + (p.off + p.j)) (vs := vs) hrow (by rw [hvl]; omega) hlc (fun i hi => by
         rw [fset_at hi q4]
         by_cases hii : i = p.idx
         ·
          subst hii
          rw [if_pos rfl]
          refine ⟨h2, h3, fun k' hk' => ?_⟩
          rw [h4 k' hk', hvl]
          by_cases hr : p.off + p.j ≤ k' ∧ k' < p.off + p.j + Nat.min n dlen
          ·
           rw [if_pos hr, if_pos (by omega), show p.idx * es + k' - (p.idx * es + (p.off + p.j)) = k' - (p.off + p.j) by omega, hvg _ (by omega)]
          ·
           rw [if_neg hr, if_neg (by omega)]
         ·
          rw [if_neg hii]
          obtain ⟨g1, g2, g3⟩ := hel i hi
          refine ⟨g1, g2, fun k' hk' => ?_⟩
          rw [if_neg]
          intro hr
          rw [hvl] at hr
          rcases Nat.lt_or_gt_of_ne hii with hlt | hgt
          ·
           have : (i + 1) * es ≤ p.idx * es := Nat.mul_le_mul_right _ (by omega)
           rw [Nat.succ_mul] at this; omega
          ·
           have : (p.idx + 1) * es ≤ i * es := Nat.mul_le_mul_right _ (by omega)
           rw [Nat.succ_mul] at this; omega) (fun i hi hi' => by omega) hcs
        have ha1 : args = #[x, y] := by apply Array.ext'; rw [hargs]
        have ht1 : tys = #[t, t2] := by apply Array.ext'; rw [htys]
        subst ha1 ht1
        have hpad : p.addr = ⟨b, p.idx * es + (p.off + p.j), none⟩ := by
         unfold Pt.addr Pt.cell
         rw [q1, q2, q3]
         congr 1; omega
        have fin : (Builtin.copy_ #[t, t2] o.type #[.slice (some ⟨b, p.idx * es + (p.off + p.j), none⟩) dlen dcap, Y.val]).run P w = .ok (goInt (Nat.min n dlen)) (w.setRow b (cs.toList.take (p.idx * es + (p.off + p.j)) ++ vs ++ cs.toList.drop (p.idx * es + (p.off + p.j) + vs.length)).toArray) := by
         obtain ⟨base, scap, hval, hcase⟩ := seqOf_spec hS hsq q6
         rw [hval]
         rcases Nat.eq_zero_or_pos n with hn0 | hn0
         ·
          subst hn0
          have hz : Nat.min 0 dlen = 0 := Nat.zero_min _
          have hvn : vs = [] := List.eq_nil_of_length_eq_zero (by rw [hvl, hz])
          rw [hz, hvn]
          simp only [List.append_nil, List.length_nil, Nat.add_zero, List.take_append_drop]
          rw [setRow_self w b cs T (0, 0) hcs]
          exact run_copy_none (P := P) w t t2 o.type e _ _ dlen dcap 0 scap hun hinfo (Nat.zero_min _)
         ·
          obtain ⟨b2, o2, rfl, hR⟩ := hcase (by omega)
          have hes := q7 (by omega)
          subst hes
          have := run_copy_row (P := P) w t t2 o.type e b (p.idx * es + (p.off + p.j)) dlen dcap ⟨b2, o2, none⟩ n scap cs T vs hun hinfo hcs hvl (fun j v hj => ?_) (by rw [hvl]; rw [hvl] at hbound; exact hbound) (fun v hv => ?_)
          ·
           rw [hvl] at this ⊢
           exact this
          ·
           have hjl : j < Nat.min n dlen := by rw [← hvl]; exact (List.getElem?_eq_some_iff.1 hj).1
           rw [hvg j hjl] at hj
           cases hj
           have h5 := (hR j (by omega)).2.2 0 Nat.zero_lt_one
           rw [q8 j (by omega)] at h5
           rw [Addr.add_none]
           simpa using h5
          ·
           obtain ⟨i, _, rfl⟩ := List.mem_map.1 hv; rfl
        unfold Oper.wp
        have hex : (execOp a.eval o).run P w = .ok (.value (.int .i64 (Nat.min n dlen))) (w.setRow b (cs.toList.take (p.idx * es + (p.off + p.j)) ++ vs ++ cs.toList.drop (p.idx * es + (p.off + p.j) + vs.length)).toArray) := by
         unfold execOp
         rw [ho]
         simp only [Sem.run_bind, resolve, List.map_toArray, List.map_cons, List.map_nil, opd_s hT hx (g := none) trivial trivial, opd_s hT hy (g := none) trivial trivial, Sem.run_pure, Result.andThen_ok, invoke, builtin]
         have : (AV.sl p dlen dcap).val = .slice (some ⟨b, p.idx * es + (p.off + p.j), none⟩) dlen dcap := by
          show Value.slice (some p.addr) dlen dcap = _
          rw [hpad]
         rw [this, fin]; rfl
        rw [hex]
        refine hk () _ trivial ?_
        exact Turn.upd hM rfl rfl rfl (Nat.le_refl _) (by simp) (fun j _ hj => setRow_other w b j _ fun e => hj e.symm) hnew (fun k hk => .inr hk) fun k hk => hk
       ·
        cases h0
      ·
       cases h0
     ·
      cases h0
    ·
     cases h0
   ·
    cases h0
  ·
   cases h0
 ·
  cases h0
end
def evMake (E : Env) (tm : TmF) (g : Option Bool) (tag : Nat) : Op → Option Res
 | .makeSlice t l c => match g, opd tm l, opd tm c, E.tb.get t with
  | none, some (none, .v (.int _ lv)), some (none, .v (.int _ cv)), some r => match r.d with
   | .sl e => match E.tb.get e with
    | some re => match re.zero.fitV && re.zero.isSize re.size && Nat.blt 0 re.size with
     | true => some ⟨Nat, 0 ≤ lv ∧ lv ≤ cv ∧ (re.bytes : Int) * cv ≤ 281474976710656 ∧ cv ≤ 9223372036854775807, fun _ => True, fun b => .gs tag 0 (ownB (some b)) re.size 0 lv.toNat cv.toNat, [tag], fun b => [.vrow (some b) e re.size lv.toNat (fun _ => re.zero) cv.toNat]⟩
     | false => none
    | none => none
   | _ => none
  | _, _, _, _ => none
 | _ => none
def strOf (n : Nat) (f : Nat → AV) : ByteArray := ((List.range n).map fun i => (f i).int1).foldl (fun r x => r.push (UInt8.ofNat x.toNat)) ByteArray.empty
def evBytes (E : Env) (M : MemF) (tm : TmF) (g : Option Bool) : Op → Option Res
 | .convert s t x => match opd tm x, E.tb.get s, E.tb.get t with
  | some (c0, X), some rs, some rt => match rs.d, rt.d, seqOf M X with
   | .sl e, .str, some (c, es, n, f) => match E.tb.get e with
    | some re => match re.d with
     | .int .u8 => some ⟨Unit, need g c0 ∧ imp g (c ∧ (n ≠ 0 → es = 1) ∧ ∀ i, i < n → f i = .v (.int .u8 (f i).int1)), fun _ => True, fun _ => .v (.string (strOf n f)), [], fun _ => []⟩
     | _ => none
    | none => none
   | _, _, _ => none
  | _, _, _ => none
 | _ => none
section
variable {P : Program} {E : Env} {O : Nat → Prop} {w0 : World}
theorem madeCells_get {z : Array Value} {n i : Nat} (h : i < n) : (madeCells z n)[i]? = some (z[i % z.size]!) := by
 unfold madeCells
 rw [Array.getElem?_map, Array.getElem?_range]
 simp [h]
theorem evMake_ok (hb : TblOk P E.tb) : EvOk P O w0 (fun M tm g tag op => evMake E tm g tag op) := by
 intro N M tm g tag a w o r h0 hok hT hS hg next Q hk
 dsimp only at h0
 unfold evMake at h0
 split at h0
 ·
  rename_i t l c ho
  split at h0
  ·
   rename_i kl lv kc cv rr hl hc hr
   split at h0
   ·
    rename_i e hd
    split at h0
    ·
     rename_i re hre
     split at h0
     ·
      rename_i hq
      cases h0
      obtain ⟨q1, q2, q3, q4⟩ := hok
      simp only [Bool.and_eq_true] at hq
      have hz := AV.isSize_eq hq.1.2
      have hpos := blt_lt hq.2
      obtain ⟨dd, hun, hv⟩ := (hb.get hr).under
      rw [hd] at hv
      rw [viewD_sl hv] at hun
      obtain ⟨i, hi, hi1, hi2, hi3⟩ := (hb.get hre).info
      have hrun := run_make (P := P) w t e i re.zero.val hun hi hi3 kl kc lv cv q1 q2 (by rw [hi2]; exact q3) q4
      have hzc := AV.valCells hq.1.1
      refine wp_new (q := True) (res := fun b => .gs tag 0 (ownB (some b)) re.size 0 lv.toNat cv.toNat) (B := fun b => .vrow (some b) e re.size lv.toNat (fun _ => re.zero) cv.toNat) (v := fun b => .slice (some ⟨b, 0, none⟩) lv.toNat cv.toNat) (c := madeCells re.zero.val.cells (cv.toNat * i.size)) (T := e) ?_ (fun b => by simp [gs_val, ownB]) (fun b => ?_) fun b w' hbel hl => ?_
      ·
       unfold execOp
       rw [ho]
       simp only [opd_s hT hl (g := none) trivial trivial, opd_s hT hc (g := none) trivial trivial, Sem.run_bind, AV.val_v, hrun]
       rfl
      ·
       refine ⟨re.size, lv.toNat, _, cv.toNat, .inr rfl, by rw [size_madeCells, hi1], by omega, fun j hj => ⟨hz, fitV_one hq.1.1, fun k hk' => ?_⟩⟩
       have h1 : (j + 1) * re.size ≤ cv.toNat * re.size := Nat.mul_le_mul_right _ (by omega)
       rw [Nat.succ_mul] at h1
       rw [hi1, madeCells_get (by omega), hzc]
       have h2 : re.zero.cells.toArray.size = re.size := by simp [AV.size_cells, hz]
       rw [h2, Nat.mul_comm, Nat.mul_add_mod, Nat.mod_eq_of_lt hk']
       have h3 : k < re.zero.cells.length := by rw [AV.size_cells, hz]; exact hk'
       rw [List.getElem?_eq_getElem h3, getElem!_pos _ _ (by simpa using h3)]
       simp
      ·
       obtain ⟨x, g1, g2, g3⟩ := Turn.laid (M := M) (tag := tag) hbel hl
       rw [← g2]
       exact hk x w' g1 g3
     ·
      cases h0
    ·
     cases h0
   ·
    cases h0
  ·
   cases h0
 ·
  cases h0
theorem evBytes_ok (hb : TblOk P E.tb) : EvOk P O w0 (fun M tm g _ op => evBytes E M tm g op) := by
 intro N M tm g tag a w o r h0 hok hT hS hg next Q hk
 dsimp only at h0
 unfold evBytes at h0
 split at h0
 ·
  rename_i s t x ho
  split at h0
  ·
   rename_i c0 X rs rt hx hs ht
   split at h0
   ·
    rename_i e c es n f hds hdt hsq
    split at h0
    ·
     rename_i re hre
     split at h0
     ·
      rename_i hk8
      cases h0
      obtain ⟨q0, q⟩ := hok
      obtain ⟨q1, q2, q3⟩ := imp_elim q hg
      obtain ⟨d1, hu1, hv1⟩ := (hb.get hs).under
      rw [hds] at hv1
      rw [viewD_sl hv1] at hu1
      obtain ⟨d2, hu2, hv2⟩ := (hb.get ht).under
      rw [hdt] at hv2
      have hd2 : d2 = .string := by cases d2 <;> simp [viewD] at hv2; rfl
      rw [hd2] at hu2
      obtain ⟨d3, hu3, hv3⟩ := (hb.get hre).under
      rw [hk8] at hv3
      have hd3 : d3 = .int .u8 := by cases d3 <;> simp [viewD] at hv3; rw [hv3]
      rw [hd3] at hu3
      obtain ⟨base, cap, hval, hcase⟩ := seqOf_spec hS hsq q1
      refine wp_val (v := .string (strOf n f)) ?_ (hk () w trivial (Turn.below (Below.refl _ _)))
      unfold execOp
      rw [ho]
      simp only [opd_s hT hx q0 hg, hval]
      have hrun : (convert s t (slV base n cap)).run P w = .ok (.string (strOf n f)) w := by
       unfold slV
       rw [run_convert_bytes_string w s t e _ n cap hu1 hu3 hu2]
       rcases Nat.eq_zero_or_pos n with hn0 | hn0
       ·
        subst hn0
        cases base with
        | none => rfl
        | some z =>
         have := run_bytesToString (P := P) w ⟨z.1, z.2, none⟩ 0 cap [] (by simpa using run_loadCells_list (P := P) w ⟨z.1, z.2, none⟩ [] (by simp))
         exact this
       ·
        obtain ⟨b2, o2, rfl, hR⟩ := hcase (by omega)
        have hes := q2 (by omega)
        subst hes
        refine run_bytesToString (P := P) w ⟨b2, o2, none⟩ n cap ((List.range n).map fun i => (f i).int1) ?_
        have h1 := run_loadCells_list (P := P) w ⟨b2, o2, none⟩ (((List.range n).map fun i => (f i).int1).map (Value.int .u8)) (fun j v hj => ?_)
        ·
         simpa using h1
        ·
         have hjl : j < n := by have := (List.getElem?_eq_some_iff.1 hj).1; simpa using this
         simp only [List.getElem?_map, List.getElem?_range hjl, Option.map_some, Option.some.injEq] at hj
         subst hj
         have h5 := (hR j hjl).2.2 0 Nat.zero_lt_one
         rw [q3 j hjl] at h5
         rw [Addr.add_none]
         simpa using h5
      simp only [Sem.run_bind, hrun]
      rfl
     ·
      cases h0
    ·
     cases h0
   ·
    cases h0
  ·
   cases h0
 ·
  cases h0
end
def CrOk (P : Program) (O : Nat → Prop) (w0 : World) (cr : FuncId → Nat → List AV → MemF → Option Res) : Prop :=
 ∀ f tag args M r, cr f tag args M = some r → r.ok → ∀ w, Sat O w0 M w → ∀ (o : Oper) (a : Act) (next : Act → World → Prop) (Q : Exit → Act → World → Prop),
  (∀ x w', r.can x → Turn M w w' (zipM r.tags (r.mem x)).get → next (a.put o.dst (r.out x).val) w') → o.upon P a next Q ((callFunc f (args.map AV.val).toArray).run P w)
def evCall (E : Env) (M : MemF) (tm : TmF) (g : Option Bool) (tag : Nat) : Op → Option Res
 | .call { callee := .value (.func f), args, .. } => match opds tm g (args.toList.map fun x => (0, x)) with
  | some (p, l) => match E.cr f tag (vals l) M with
   | some r => some { r with ok := p ∧ r.ok }
   | none => none
  | none => none
 | .call { callee := .value (.tmp t), args, .. } => match tm t, opds tm g (args.toList.map fun x => (0, x)) with
  | some (c, .fn f caps), some (p, l) => match E.cr f tag (vals l ++ caps.toL) M with
   | some r => some { r with ok := (need g c ∧ p) ∧ r.ok }
   | none => none
  | _, _ => none
 | _ => none
section
variable {P : Program} {O : Nat → Prop} {w0 : World}
theorem evCall_ok {E : Env} (hcr : CrOk P O w0 E.cr) : EvOk P O w0 (evCall E) := by
 intro N M tm g tag a w o r h hok hT hS hg next Q hk
 unfold evCall at h
 split at h
 ·
  rename_i f args tys ho
  split at h
  ·
   rename_i p l hl
   split at h
   ·
    rename_i r0 hr
    cases h
    obtain ⟨hp, hok⟩ := hok
    unfold Oper.wp
    have : (execOp a.eval o).run P w = (callFunc f ((vals l).map AV.val).toArray).run P w := by
     unfold execOp
     rw [ho]
     simp only [Sem.run_bind, resolve, Act.eval, Deferred.ofValue, args_eq hT hg hl hp, Sem.run_pure, Result.andThen_ok, invoke, Array.empty_append, Array.append_empty]
    rw [this]
    exact hcr f tag (vals l) M r0 hr hok w hS o a next Q hk
   ·
    cases h
  ·
   cases h
 ·
  rename_i t args tys ho
  split at h
  ·
   rename_i c f caps p l ht hl
   split at h
   ·
    rename_i r0 hr
    cases h
    obtain ⟨⟨hc, hp⟩, hok⟩ := hok
    unfold Oper.wp
    have hfv : a.eval (.tmp t) = (AV.fn f caps).val := opd_s hT (show opd tm (.tmp t) = _ from ht) hc hg
    have : (execOp a.eval o).run P w = (callFunc f ((vals l ++ caps.toL).map AV.val).toArray).run P w := by
     unfold execOp
     rw [ho]
     simp only [Sem.run_bind, resolve, hfv, fn_val, Deferred.ofValue, args_eq hT hg hl hp, Sem.run_pure, Result.andThen_ok, invoke, List.append_toArray, List.map_append, List.nil_append]
    rw [this]
    exact hcr f tag (vals l ++ caps.toL) M r0 hr hok w hS o a next Q hk
   ·
    cases h
  ·
   cases h
 ·
  cases h
def xeval (E : Env) (M : MemF) (tm : TmF) (g : Option Bool) (tag : Nat) (op : Op) : Option Res := match op with
 | .store t x y => evStore E M tm g (.store t x y)
 | .call { callee := .builtin .append, args, argTypes } => evAppend E M tm g tag (.call { callee := .builtin .append, args, argTypes })
 | .makeSlice t l c => evMake E tm g tag (.makeSlice t l c)
 | .convert s t x => match evBytes E M tm g (.convert s t x) with
  | some r => some r
  | none => evQ E M tm g tag (.convert s t x)
 | .call { callee := .builtin .copy, args, argTypes } => evCopy E M tm g args argTypes
 | .lookup t x y ok => evLookup E M tm g (.lookup t x y ok)
 | .mapUpdate t m k x => evMapUpd E M tm g t m k x
 | .insert t m k x => evMapUpd E M tm g t m k x
 | .call { callee := .builtin .delete, args, argTypes } => evMapDel E M tm g args argTypes
 | .call { callee := .value f, args, argTypes } => match evCall E M tm g tag (.call { callee := .value f, args, argTypes }) with
  | some r => some r
  | none => evQ E M tm g tag (.call { callee := .value f, args, argTypes })
 | op => evQ E M tm g tag op
theorem xeval_ok {E : Env} (hb : TblOk P E.tb) (he : EqOk P E.eqs) (hct : CtOk P O w0 E.ct) (hcr : CrOk P O w0 E.cr) : EvOk P O w0 (xeval E) := by
 intro N M tm g tag a w o r h hok hT hS hg next Q hk
 generalize hop : o.op = op at h
 unfold xeval at h
 split at h
 ·
  rw [← hop] at h; exact evStore_ok hb N M tm g tag a w o r h hok hT hS hg next Q hk
 ·
  rw [← hop] at h; exact evAppend_ok hb N M tm g tag a w o r h hok hT hS hg next Q hk
 ·
  rw [← hop] at h; exact evMake_ok hb N M tm g tag a w o r h hok hT hS hg next Q hk
 ·
  split at h
  ·
   rename_i hc
   cases h
   rw [← hop] at hc; exact evBytes_ok hb N M tm g tag a w o r hc hok hT hS hg next Q hk
  ·
   rw [← hop] at h; exact evQ_ok hb he hct N M tm g tag a w o r h hok hT hS hg next Q hk
 ·
  exact evCopy_ok hb N M tm g tag a w o r (by dsimp only; rw [hop]; exact h) hok hT hS hg next Q hk
 ·
  rw [← hop] at h; exact evLookup_ok hb he N M tm g tag a w o r h hok hT hS hg next Q hk
 ·
  rename_i t m k x; exact evMapUpd_ok hb he N M tm g tag a w o r (by dsimp only; rw [hop]; exact h) hok hT hS hg next Q hk
 ·
  rename_i t m k x; exact evMapUpd_ok hb he N M tm g tag a w o r (by dsimp only; rw [hop]; exact h) hok hT hS hg next Q hk
 ·
  exact evMapDel_ok hb he N M tm g tag a w o r (by dsimp only; rw [hop]; exact h) hok hT hS hg next Q hk
 ·
  split at h
  ·
   rename_i hc
   cases h
   rw [← hop] at hc; exact evCall_ok hcr N M tm g tag a w o r hc hok hT hS hg next Q hk
  ·
   rw [← hop] at h; exact evQ_ok hb he hct N M tm g tag a w o r h hok hT hS hg next Q hk
 ·
  rw [← hop] at h; exact evQ_ok hb he hct N M tm g tag a w o r h hok hT hS hg next Q hk
def opEvalT (E : Env) (dst : Nat → Option Tmp) (M : MemF) (tm : TmF) (o : Oper) (tag : Nat) : Option (Option Bool × Res) :=
 match guardOf dst tm o.guard with
 | none => none
 | some g => match xeval E M tm g tag o.op with
   | some r => match g with
    | none => some (none, r)
    | some b => match r.tags with
     | [] => some (some b, r)
     | _ :: _ => none
   | none => match g with
    | some b => some (some b, ⟨Unit, b = false, fun _ => True, fun _ => .v undef, [], fun _ => []⟩)      -- what is not wanted need not be told
    | none => none
def opEval (E : Env) (dst : Nat → Option Tmp) (N : Nat) (M : MemF) (tm : TmF) (o : Oper) : Option (Option Bool × Res) := match o.dst with
 | some d => match Nat.blt d N with
  | true => opEvalT E dst M tm o d
  | false => none
 | none => opEvalT E dst M tm o 40000
theorem opEval_T {E : Env} {dst : Nat → Option Tmp} {N : Nat} {M : MemF} {tm : TmF} {o : Oper} {x : Option Bool × Res} (h : opEval E dst N M tm o = some x) : (∀ d, o.dst = some d → Nat.blt d N = true) ∧ ∃ tag, opEvalT E dst M tm o tag = some x := by
 unfold opEval at h
 split at h
 ·
  rename_i d hd
  split at h
  ·
   rename_i hlt
   exact ⟨fun d' hd' => (by rw [hd] at hd'; cases hd'; exact hlt), d, h⟩
  ·
   cases h
 ·
  rename_i hd
  exact ⟨fun d' hd' => (by rw [hd] at hd'; cases hd'), _, h⟩
theorem opEval_sound {E : Env} {N : Nat} (hb : TblOk P E.tb) (he : EqOk P E.eqs) (hct : CtOk P O w0 E.ct) (hcr : CrOk P O w0 E.cr) {ops : Array Oper} {dst : Nat → Option Tmp} (hdst : ∀ j d, dst j = some d → dstAt ops j = some d) {M : MemF} {tm : TmF} {o : Oper} {g : Option Bool} {r : Res}
  (h : opEval E dst N M tm o = some (g, r)) (hok : r.ok) (hne : ∃ x, r.can x) {a : Act} {w : World} (hT : SatT N tm a) (hS : Sat O w0 M w) {next : Act → World → Prop} {Q : Exit → Act → World → Prop}
  (hk : ∀ x v w', r.can x → Turn M w w' (zipM r.tags (r.mem x)).get → (match g with | none => v = (r.out x).val | some g => v = if g then (r.out x).val else undef) → next (a.put o.dst v) w') :
  if Region.wanted o (yielded ops a.tmps) = true then o.wp P a w next Q else next (a.put o.dst undef) w := by
 obtain ⟨_, tag, h⟩ := opEval_T h
 unfold opEvalT at h
 split at h
 ·
  cases h
 ·
  rename_i g' hg
  have hgs := guard_sound hT hdst hg
  ·
   split at h
   ·
    rename_i r' hx
    have hxo := xeval_ok hb he hct hcr N M tm g' tag a w o r' hx
    split at h
    ·
     cases h
     rw [if_pos (hgs.2 trivial)]
     exact hxo hok hT hS trivial next Q fun x w' hc ht => hk x _ w' hc ht rfl
    ·
     rename_i b
     split at h
     ·
      rename_i htags
      cases h
      split
      ·
       rename_i hw
       have hb' : b = true := hgs.1 hw
       refine hxo hok hT hS hb' next Q fun x w' hc ht => hk x _ w' hc ht ?_
       show _ = if b = true then _ else _
       rw [if_pos hb']
      ·
       rename_i hw
       obtain ⟨x, hx⟩ := hne
       refine hk x undef w hx ?_ ?_
       ·
        have : (zipM r.tags (r.mem x)).get = fun _ => none := by
         rw [htags]; rfl
        rw [this]; exact Turn.below (Below.refl _ _)
       ·
        cases b with
        | true => exact absurd (hgs.2 rfl) hw
        | false => rfl
     ·
      cases h
   ·
    split at h
    ·
     rename_i b _
     cases h
     have hb : b = false := hok
     have hw : ¬ Region.wanted o (yielded ops a.tmps) = true := fun hw => by have : b = true := hgs.1 hw; rw [hb] at this; cases this
     rw [if_neg hw]
     refine hk () undef w trivial (Turn.below (Below.refl _ _)) ?_
     show _ = if b = true then _ else _
     rw [hb]; rfl
    ·
     cases h
end
def Mem.dfs (M : Mem) : List Deferred := match M.get 777777 with
 | some (.dfr l) => l
 | _ => []
structure Cx : Type 1 where
 P : Program
 E : Env
 O : Nat → Prop
 w0 : World
 N : Nat
 hb : TblOk P E.tb
 he : EqOk P E.eqs
 hct : CtOk P O w0 E.ct
 hcr : CrOk P O w0 E.cr
 hO : ∀ b, w0.heap.size ≤ b → O b
 hmix : P.follows .mixedOrders = true
structure At (X : Cx) (tm : Tm) (M : Mem) (a : Act) (w : World) : Prop where
 T : SatT X.N tm.get a
 d : a.defers = M.dfs
 S : Sat X.O X.w0 M.get w
def CodeS (X : Cx) (c : Code) (tm : Tm) (M : Mem) (K : Exit → Tm → Mem → Prop) : Prop :=
 ∀ a w Q, At X tm M a w → (∀ e tm' M' a' w', K e tm' M' → At X tm' M' a' w' → Q e a' w') → c.wp X.P Q a w
def thenK (X : Cx) (y : Code) (K : Exit → Tm → Mem → Prop) : Exit → Tm → Mem → Prop
 | .normal, tm, M => CodeS X y tm M K
 | e, tm, M => K e tm M
def blockK (id : Nat) (K : Exit → Tm → Mem → Prop) : Exit → Tm → Mem → Prop
 | .exit id', tm, M => match Nat.beq id' id with
  | true => K .normal tm M
  | false => K (.exit id') tm M
 | e, tm, M => K e tm M
section
variable {X : Cx} {tm : Tm} {M : Mem} {K : Exit → Tm → Mem → Prop}
theorem s_mono {c : Code} {K' : Exit → Tm → Mem → Prop} (h : CodeS X c tm M K) (hk : ∀ e tm M, K e tm M → K' e tm M) : CodeS X c tm M K' :=
 fun a w Q ha hQ => h a w Q ha fun e tm' M' a' w' hK hA => hQ e tm' M' a' w' (hk _ _ _ hK) hA
theorem qk_ (h : K .normal tm M) : CodeS X .skip tm M K := fun a w _ ha hQ => wp_skip (hQ .normal tm M a w h ha)
theorem s_label {l : Nat} (h : K .normal tm M) : CodeS X (.label l) tm M K := fun a w _ ha hQ => wp_label (hQ .normal tm M a w h ha)
theorem s_ret (h : K .ret tm M) : CodeS X .ret tm M K := fun a w _ ha hQ => wp_ret (hQ .ret tm M a w h ha)
theorem qx_ {id : Nat} (h : K (.exit id) tm M) : CodeS X (.exit id) tm M K := fun a w _ ha hQ => wp_exit (hQ (.exit id) tm M a w h ha)
theorem qs_ {x y : Code} (h : CodeS X x tm M (thenK X y K)) : CodeS X (.seq x y) tm M K := by
 intro a w Q ha hQ
 refine wp_seq (h a w _ ha fun e tm' M' a' w' hK hA => ?_)
 cases e with
 | normal => exact hK a' w' Q hA hQ
 | _ => exact hQ _ tm' M' a' w' hK hA
theorem qb_ {id : Nat} {c : Code} (h : CodeS X c tm M (blockK id K)) : CodeS X (.block id c) tm M K := by
 intro a w Q ha hQ
 refine wp_block (h a w _ ha fun e tm' M' a' w' hK hA => ?_)
 cases e with
 | exit id' =>
  simp only [blockK] at hK
  simp only [Exit.inBlock]
  split at hK
  ·
   rename_i hid
   rw [if_pos (Nat.eq_of_beq_eq_true hid)]
   exact hQ _ tm' M' a' w' hK hA
  ·
   rename_i hid
   rw [if_neg (fun h => by subst h; simp at hid)]
   exact hQ _ tm' M' a' w' hK hA
 | _ => exact hQ _ tm' M' a' w' hK hA
theorem s_cond {x : Operand} {c d : Code} {b : Bool} (h : opd tm.get x = some (none, .v (.bool b))) (ht : b = true → CodeS X c tm M K) (hf : b = false → CodeS X d tm M K) : CodeS X (.cond x c d) tm M K := by
 intro a w Q ha hQ
 have hx : a.eval x = .bool b := opd_sound ha.T h (g := none) trivial trivial
 exact wp_cond_split hx (fun hb => ht hb a w Q ha hQ) (fun hb => hf hb a w Q ha hQ)
def Le (X : Cx) (tm : Tm) (M : Mem) (tm' : Tm) (M' : Mem) : Prop := ∀ a w, At X tm M a w → At X tm' M' a w
theorem Le.refl : Le X tm M tm M := fun _ _ h => h
theorem s_le {c : Code} {tm' : Tm} {M' : Mem} (hl : Le X tm M tm' M') (h : CodeS X c tm' M' K) : CodeS X c tm M K := fun a w Q ha hQ => h a w Q (hl a w ha) hQ
def subT (tm : Tm) : Tm → Prop
 | [] => True
 | (t, e) :: r => tm.get t = some e ∧ subT tm r
theorem subT_get {tm : Tm} : ∀ {tm' : Tm}, subT tm tm' → ∀ t e, tm'.get t = some e → tm.get t = some e
 | [], _, t, e, h => by cases h
 | (k, e0) :: r, hs, t, e, h => by
  rw [Tm.get_cons] at h
  split at h
  ·
   rename_i hk; cases h; subst hk; exact hs.1
  ·
   exact subT_get hs.2 t e h
def Blk.le (B B' : Blk) : Prop := (∀ k, B'.own k → B.own k) ∧ (∀ k, B'.reads k → B.reads k) ∧ ∀ w : World, B.holds w → B'.holds w
theorem Blk.le_refl (B : Blk) : B.le B := ⟨fun _ h => h, fun _ h => h, fun _ h => h⟩
theorem Blk.le_trans {A B C : Blk} (h : A.le B) (h' : B.le C) : A.le C := ⟨fun k hk => h.1 k (h'.1 k hk), fun k hk => h.2.1 k (h'.2.1 k hk), fun w hw => h'.2.2 w (h.2.2 w hw)⟩
theorem RowHolds.weaken {w : World} {b T es len len' cap : Nat} {f f' : Nat → AV} (h : RowHolds w b T es len f cap) (hl : len' ≤ len) (hf : ∀ i, i < len' → f' i = f i) : RowHolds w b T es len' f' cap := by
 obtain ⟨c, h1, h2, h3, h4⟩ := h
 refine ⟨c, h1, h2, Nat.le_trans hl h3, fun i hi => ?_⟩
 rw [hf i hi]
 exact h4 i (Nat.lt_of_lt_of_le hi hl)
theorem Blk.le_row {b T es len len' cap : Nat} {f f' : Nat → AV} (hl : len' ≤ len) (hf : ∀ i, i < len' → f' i = f i) : (Blk.row b T es len f cap).le (.row b T es len' f' cap) :=
 ⟨fun _ h => h, fun _ h => h, fun _ h => RowHolds.weaken h hl hf⟩
theorem Blk.le_vrow {a : Option Nat} {T es len len' cap : Nat} {f f' : Nat → AV} (hl : len' ≤ len) (hf : ∀ i, i < len' → f' i = f i) : (Blk.vrow a T es len f cap).le (.vrow a T es len' f' cap) :=
 ⟨fun _ h => h, fun _ h => h, fun w h => by
  cases a with
  | none => obtain ⟨h1, h2⟩ := h; exact ⟨by omega, h2⟩
  | some b => exact RowHolds.weaken h hl hf⟩
def subM (M : Mem) : Mem → Prop
 | [] => True
 | (n, B) :: r => (∃ B0, M.get n = some B0 ∧ B0.le B) ∧ subM M r
theorem subM_get {M : Mem} : ∀ {M' : Mem}, subM M M' → ∀ n B, M'.get n = some B → ∃ B0, M.get n = some B0 ∧ B0.le B
 | [], _, n, B, h => by cases h
 | (k, B0) :: r, hs, n, B, h => by
  rw [Mem.get_cons] at h
  split at h
  ·
   rename_i hk; cases h; subst hk; exact hs.1
  ·
   exact subM_get hs.2 n B h
theorem Sat.weaken {O : Nat → Prop} {w0 w : World} {M M' : MemF} (h : Sat O w0 M w) (hs : ∀ n B, M' n = some B → ∃ B0, M n = some B0 ∧ B0.le B) : Sat O w0 M' w := by
 refine ⟨h.keeps, ?_, ?_, ?_, ?_⟩
 ·
  intro n B hn
  obtain ⟨B0, h1, h2⟩ := hs _ _ hn
  exact h2.2.2 _ (h.holds _ _ h1)
 ·
  intro n B b hn ho
  obtain ⟨B0, h1, h2⟩ := hs _ _ hn
  exact h.own _ _ _ h1 (h2.1 _ ho)
 ·
  intro n m B B' b hn hm ho ho'
  obtain ⟨B0, h1, h2⟩ := hs _ _ hn
  obtain ⟨B1, h3, h4⟩ := hs _ _ hm
  exact h.apart _ _ _ _ _ h1 h3 (h2.1 _ ho) (h4.1 _ ho')
 ·
  intro n m B B' b hn hm ho hr
  obtain ⟨B0, h1, h2⟩ := hs _ _ hn
  obtain ⟨B1, h3, h4⟩ := hs _ _ hm
  exact h.roapart _ _ _ _ _ h1 h3 (h2.1 _ ho) (h4.2.1 _ hr)
theorem Le.of {tm' : Tm} {M' : Mem} (h1 : subT tm tm') (h2 : subM M M') (h3 : M'.dfs = M.dfs := by rfl) : Le X tm M tm' M' := fun _ _ h =>
 ⟨⟨h.T.size, fun t e ht => h.T.slot t e (subT_get h1 t e ht)⟩, by rw [h3]; exact h.d, h.S.weaken fun n B hn => subM_get h2 n B hn⟩
theorem exists_least (p : Nat → Prop) (h : ∃ n, p n) : ∃ n, p n ∧ ∀ m, p m → n ≤ m := by
 obtain ⟨n, hn⟩ := h
 induction n using Nat.strongRecOn with
 | _ n ih =>
  by_cases hs : ∃ m, m < n ∧ p m
  ·
   obtain ⟨m, h1, h2⟩ := hs; exact ih m h1 h2
  ·
   exact ⟨n, hn, fun m hm => Nat.le_of_not_lt fun hlt => hs ⟨m, hlt, hm⟩⟩
open Classical in
noncomputable def least (p : Nat → Prop) : Nat := if h : ∃ n, p n then Classical.choose (exists_least p h) else 0
theorem least_spec {p : Nat → Prop} (h : ∃ n, p n) : p (least p) ∧ ∀ m, p m → least p ≤ m := by
 unfold least
 rw [dif_pos h]
 exact Classical.choose_spec (exists_least p h)
theorem s_loop {α : Type} (inv : α → Prop) (tI : α → Tm) (mI : α → Mem) (μ : α → Nat) {c : Code} (x0 : α) (h0 : inv x0) (hle : Le X tm M (tI x0) (mI x0))
  (round : ∀ x, inv x → CodeS X c (tI x) (mI x) fun e tm' M' => match e with
   | .normal => ∃ x', inv x' ∧ μ x' < μ x ∧ Le X tm' M' (tI x') (mI x')
   | e => K e tm' M') : CodeS X (.loop c) tm M K := by
 intro a w Q ha hQ
 refine wp_loop (fun a w => ∃ x, inv x ∧ At X (tI x) (mI x) a w) (fun a w => least fun m => ∃ x, inv x ∧ At X (tI x) (mI x) a w ∧ m = μ x) ⟨x0, h0, hle a w ha⟩ ?_
 intro a w hI
 obtain ⟨x, hx, hA⟩ := hI
 obtain ⟨⟨y, hy, hyA, hym⟩, _⟩ := least_spec (p := fun m => ∃ x, inv x ∧ At X (tI x) (mI x) a w ∧ m = μ x) ⟨μ x, x, hx, hA, rfl⟩
 refine round y hy a w _ hyA fun e tm' M' a' w' hK hA' => ?_
 cases e with
 | normal =>
  obtain ⟨x', hx', hlt, hle'⟩ := hK
  have h1 := hle' a' w' hA'
  refine ⟨⟨x', hx', h1⟩, ?_⟩
  have h2 := (least_spec (p := fun m => ∃ x, inv x ∧ At X (tI x) (mI x) a' w' ∧ m = μ x) ⟨μ x', x', hx', h1, rfl⟩).2 (μ x') ⟨x', hx', h1, rfl⟩
  exact Nat.lt_of_le_of_lt h2 (by rw [hym]; exact hlt)
 | _ => exact hQ _ tm' M' a' w' hK hA'
end
def dstL (l : List Oper) (j : Nat) : Option Tmp := match nth l j with
 | some o => o.dst
 | none => none
theorem dstL_at {l : List Oper} : ∀ j d, dstL l j = some d → dstAt l.toArray j = some d := by
 intro j d h
 unfold dstL at h
 rw [nth_eq] at h
 unfold dstAt
 simp only [List.getElem?_toArray]
 cases hq : l[j]? with
 | none => rw [hq] at h; cases h
 | some o => rw [hq] at h; exact h
def OpsS (X : Cx) (l0 : List Oper) (i : Nat) (rest : List Oper) (tm : Tm) (M : Mem) (K : Tm → Mem → Prop) : Prop :=
 l0.drop i = rest → ∀ a w Q, At X tm M a w → (∀ tm' M' a' w', K tm' M' → At X tm' M' a' w' → Q .normal a' w') → wpOps X.P l0.toArray Q (List.range' i rest.length) a w
section
variable {X : Cx} {tm : Tm} {M : Mem}
theorem drop_succ {α : Type} {l : List α} {i : Nat} {x : α} {r : List α} (h : l.drop i = x :: r) : l[i]? = some x ∧ l.drop (i + 1) = r := by
 constructor
 ·
  have := congrArg (fun l => l[0]?) h
  simpa using this
 ·
  rw [← List.drop_drop, h]; rfl
theorem wpOps_step {P : Program} {l0 : List Oper} {i n : Nat} {o : Oper} {Q : Exit → Act → World → Prop} {a : Act} {w : World} (hi : l0[i]? = some o)
  (h : if Region.wanted o (yielded l0.toArray a.tmps) = true then o.wp P a w (wpOps P l0.toArray Q (List.range' (i + 1) n)) Q else wpOps P l0.toArray Q (List.range' (i + 1) n) (a.put o.dst undef) w) :
  wpOps P l0.toArray Q (List.range' i (n + 1)) a w := by
 rw [List.range'_succ, wpOps_cons]
 unfold wpOp
 simp only [List.getElem?_toArray, hi]
 split
 ·
  rename_i hw; rw [if_pos hw] at h; exact .inl h
 ·
  rename_i hw; rw [if_neg hw] at h; exact h
theorem qo_ {l0 : List Oper} {i : Nat} {K : Tm → Mem → Prop} (h : K tm M) : OpsS X l0 i [] tm M K := fun _ a w _ ha hQ => hQ tm M a w h ha
def putT (d : Option Tmp) (g : Option Bool) (av : AV) (tm : Tm) : Tm := match d with
 | some d => (d, g, av) :: tm
 | none => tm
theorem At.put {a : Act} {w w' : World} (ha : At X tm M a w) {d : Option Nat} (hd : ∀ d', d = some d' → Nat.blt d' X.N = true) {g : Option Bool} {av : AV} {v : Value} (hv : match g with | none => v = av.val | some g => v = if g then av.val else undef) {L : Mem} (ht : Turn M.get w w' L.get) {tm' : Tm} {M' : Mem}
  (h1 : tm' = putT d g av tm) (h2 : M'.get = updM L.get M.get) (h3 : M'.dfs = M.dfs) : At X tm' M' (a.put d v) w' := by
 refine ⟨?_, ?_, ?_⟩
 ·
  subst h1
  cases d with
  | none => exact ha.T
  | some d =>
   have := ha.T.put (blt_lt (hd d rfl)) (g := g) (av := av) hv
   refine ⟨this.size, fun t e h => this.slot t e ?_⟩
   unfold putT at h
   rw [Tm.get_cons] at h
   exact h
 ·
  rw [h3]
  cases d <;> exact ha.d
 ·
  rw [h2]; exact ha.S.turn ht X.hO
theorem opEval_dst {E : Env} {dst : Nat → Option Tmp} {N : Nat} {M : MemF} {tm : TmF} {o : Oper} {x : Option Bool × Res} (h : opEval E dst N M tm o = some x) : ∀ d', o.dst = some d' → Nat.blt d' N = true := (opEval_T h).1
def Mem.app : Mem → Mem → Mem
 | [], M => M
 | x :: r, M => x :: Mem.app r M
theorem Mem.app_get : ∀ (L M : Mem), (Mem.app L M).get = updM L.get M.get
 | [], M => rfl
 | (k, B) :: r, M => by
  funext n
  show Mem.get ((k, B) :: Mem.app r M) n = _
  rw [Mem.get_cons, Mem.app_get r M]
  unfold updM
  rw [Mem.get_cons]
  split <;> rfl
def noDfr : List Nat → Bool
 | [] => true
 | t :: r => !(Nat.beq t 777777) && noDfr r
theorem zipM_dfr : ∀ {ts : List Nat} {L : List Blk}, noDfr ts = true → (zipM ts L).get 777777 = none
 | [], L, _ => by cases L <;> rfl
 | t :: ts, [], _ => rfl
 | t :: ts, B :: L, h => by
  simp only [noDfr, Bool.and_eq_true, Bool.not_eq_true'] at h
  show Mem.get ((t, B) :: zipM ts L) 777777 = none
  rw [Mem.get_cons, if_neg (fun e => by rw [e] at h; simp at h)]
  exact zipM_dfr h.2
theorem app_dfs {L M : Mem} (h : L.get 777777 = none) : (Mem.app L M).dfs = M.dfs := by
 unfold Mem.dfs
 rw [Mem.app_get]
 unfold updM
 rw [h]
theorem o_res {l0 : List Oper} {i : Nat} {o : Oper} {rest : List Oper} {K : Tm → Mem → Prop} {g : Option Bool} {β : Type} {ok : Prop} {can : β → Prop} {out : β → AV} {tags : List Nat} {mem : β → List Blk}
  (h : opEval X.E (dstL l0) X.N M.get tm.get o = some (g, ⟨β, ok, can, out, tags, mem⟩)) (hok : ok) (hne : ∃ x, can x) (hnd : noDfr tags = true)
  (hk : ∀ x, can x → OpsS X l0 (i + 1) rest (putT o.dst g (out x) tm) (Mem.app (zipM tags (mem x)) M) K) : OpsS X l0 i (o :: rest) tm M K := by
 intro hl a w Q ha hQ
 obtain ⟨h1, h2⟩ := drop_succ hl
 rw [List.length_cons]
 refine wpOps_step h1 (opEval_sound X.hb X.he X.hct X.hcr dstL_at h hok hne ha.T ha.S fun x v w' hc ht hv => ?_)
 exact hk x hc h2 _ w' Q (ha.put (opEval_dst h) hv ht rfl (Mem.app_get _ _) (app_dfs (zipM_dfr hnd))) hQ
theorem o_val {l0 : List Oper} {i : Nat} {o : Oper} {rest : List Oper} {K : Tm → Mem → Prop} {g : Option Bool} {ok : Prop} {can : Unit → Prop} {av : AV} {mem : Unit → List Blk} {d : Nat} (hd : o.dst = some d)
  (h : opEval X.E (dstL l0) X.N M.get tm.get o = some (g, ⟨Unit, ok, can, fun _ => av, [], mem⟩)) (hcan : can ()) (hok : ok) (hk : OpsS X l0 (i + 1) rest ((d, g, av) :: tm) M K) : OpsS X l0 i (o :: rest) tm M K :=
 o_res h hok ⟨(), hcan⟩ rfl fun x _ => by rw [hd]; exact hk
theorem o_new {l0 : List Oper} {i : Nat} {o : Oper} {rest : List Oper} {K : Tm → Mem → Prop} {g : Option Bool} {β : Type} {ok : Prop} {can : β → Prop} {out : β → AV} {t : Nat} {mem : β → Blk} {d : Nat} (hd : o.dst = some d)
  (h : opEval X.E (dstL l0) X.N M.get tm.get o = some (g, ⟨β, ok, can, out, [t], fun x => [mem x]⟩)) (hnd : noDfr [t] = true) (hne : ∃ x, can x) (hok : ok) (hk : ∀ x, can x → OpsS X l0 (i + 1) rest ((d, g, out x) :: tm) ((t, mem x) :: M) K) : OpsS X l0 i (o :: rest) tm M K :=
 o_res h hok hne hnd fun x hx => by rw [hd]; exact hk x hx
theorem o_put {l0 : List Oper} {i : Nat} {o : Oper} {rest : List Oper} {K : Tm → Mem → Prop} {g : Option Bool} {ok : Prop} {can : Unit → Prop} {out : Unit → AV} {t : Nat} {B : Blk} (hd : o.dst = none)
  (h : opEval X.E (dstL l0) X.N M.get tm.get o = some (g, ⟨Unit, ok, can, out, [t], fun _ => [B]⟩)) (hnd : noDfr [t] = true) (hcan : can ()) (hok : ok) (hk : OpsS X l0 (i + 1) rest tm ((t, B) :: M) K) : OpsS X l0 i (o :: rest) tm M K :=
 o_res h hok ⟨(), hcan⟩ hnd fun x _ => by rw [hd]; exact hk
theorem qa_ {id : Nat} {l0 : List Oper} {K : Exit → Tm → Mem → Prop} (h : OpsS X l0 0 l0 tm M fun tm M => K .normal tm M) : CodeS X (.region id l0.toArray false) tm M K := by
 intro a w Q ha hQ
 refine wp_region ?_
 have := h rfl a w Q ha fun tm' M' a' w' hK hA => hQ .normal tm' M' a' w' hK hA
 rw [List.size_toArray, List.range_eq_range']
 exact this
end
end Go.Proofs.YtofophjfgalhaaaGreatDoor.V
