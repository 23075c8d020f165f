import Derived.Test.YtaohdlepocajcaaV3
/-! '==' of structs and arrays, by the types' table. -/
namespace Go.Proofs.Ytaohdlepocajcaa.V
open Go Go.RowKit

/-- what '==' asks of a struct type besides -/
def EqRow (P : Program) (t : TypeId) : Prop := P.stoodInHeld t = false ∧ (P.fieldsOf t).all (fun f => f.name != "_") = true ∧ P.eqGuardType P.depth t = false
def EqOk (P : Program) : List TypeId → Prop
  | [] => True
  | t :: r => EqRow P t ∧ EqOk P r
def memN : List TypeId → Nat → Bool
  | [], _ => false
  | k :: r, t => match Nat.beq k t with
    | true => true
    | false => memN r t
theorem EqOk.mem {P : Program} : ∀ {l : List TypeId} {t : Nat}, EqOk P l → memN l t = true → EqRow P t
  | [], _, _, h => by cases h
  | k :: r, t, ho, h => by
    simp only [memN] at h
    split at h
    · rename_i hk; rw [← Nat.eq_of_beq_eq_true hk]; exact ho.1
    · exact EqOk.mem ho.2 h

/-- what kind of values a type has, for arrays of integers -/
def TD.intKind : TD → Option IntKind
  | .int k => some k
  | _ => none

def eqLeaf : TD → AV → AV → Option Bool
  | .int k, .v (.int k1 a), .v (.int k2 b) => match kindEq k1 k && kindEq k2 k with
    | true => some (a == b)
    | false => none
  | .bool, .v (.bool a), .v (.bool b) => some (a == b)
  | .str, .v (.string a), .v (.string b) => some (a.toList == b.toList)
  | _, _, _ => none

def intsEq (n : Nat) (a b : List Int) : Bool := (List.range n).all fun j => a.getD j 0 == b.getD j 0

mutual
def eqT (tb : Tbl) (eqs : List TypeId) : Nat → TypeId → AV → AV → Option Bool
  | 0, _, _, _ => none
  | d + 1, t, x, y => match tb.get t with
    | none => none
    | some r => match r.d, x, y with
      | .arr n e, .ints k1 n1 a, .ints k2 n2 b => match tb.get e with
        | none => none
        | some re => match re.d, Nat.beq re.size 1 with
          | .int k, true => match kindEq k1 k && kindEq k2 k && Nat.beq n1 n && Nat.beq n2 n with
            | true => some (intsEq n a b)
            | false => none
          | _, _ => none
      | .st fs, .agg l, .agg m => match memN eqs t with
        | true => eqF tb eqs d fs 0 l m
        | false => none
      | dd, x, y => eqLeaf dd x y
def eqF (tb : Tbl) (eqs : List TypeId) : Nat → List (Nat × Nat × TypeId) → Nat → AV → AV → Option Bool
  | 0, _, _, _, _ => none
  | d + 1, fs, run, l, m => match fs, l, m with
    | [], .nil, .nil => some true
    | (o, s, t) :: fs, .cons a l, .cons b m => match Nat.beq o run && Nat.beq s a.size && Nat.beq s b.size, fitsK tb t a, fitsK tb t b with
      | true, true, true => match eqT tb eqs d t a b, eqF tb eqs d fs (run + s) l m with
        | some p, some q => some (p && q)
        | _, _ => none
      | _, _, _ => none
    | _, _, _ => none
/-- the part's shape is that of a value of the type -/
def fitsK (tb : Tbl) (t : TypeId) (a : AV) : Bool := match tb.get t with
  | none => false
  | some r => Nat.beq r.size a.size && (match r.d.isAgg with
    | true => a.isAgg
    | false => a.plain)
end

theorem run_part {P : Program} {t : TypeId} {r : TRow} (hr : RowOk P t r) {cs : Array Value} {off : Nat} {s : AV} (hp : Part off r.size cs.toList s)
    (hk : if r.d.isAgg then s.isAgg = true else s.plain = true) (w : World) : (part t cs off).run P w = .ok s.val w := by
  unfold part
  rw [Sem.run_bind, hr.run_isAgg, Result.andThen_ok]
  obtain ⟨h1, h2, h3⟩ := hp
  cases hg : r.d.isAgg with
  | true =>
    rw [hg] at hk
    simp only [if_true] at hk ⊢
    rw [Sem.run_bind, hr.run_sizeOf, Result.andThen_ok, AV.val_of_cells hk, ← h3, Sem.run_pure]
    congr 2
    apply Array.ext'
    simp [Array.toList_extract, List.extract_eq_take_drop]
  | false =>
    rw [hg] at hk
    simp only [Bool.false_eq_true, if_false] at hk ⊢
    have h0 : s.cells = [s.val] := AV.cells_plain hk
    have hlen := AV.size_cells s
    rw [h0] at h3 hlen
    simp at hlen
    have : cs[off]? = some s.val := by
      have e := congrArg (fun l => l[0]?) h3
      rw [List.getElem?_take_of_lt (by omega), List.getElem?_drop] at e
      simpa using e
    rw [this]; rfl

theorem fitsK_spec {P : Program} {tb : Tbl} (hb : TblOk P tb) {t : TypeId} {a : AV} (h : fitsK tb t a = true) : ∃ r, tb.get t = some r ∧ RowOk P t r ∧ r.size = a.size ∧ (if r.d.isAgg then a.isAgg = true else a.plain = true) := by
  unfold fitsK at h
  split at h
  · cases h
  · rename_i r hr
    obtain ⟨h1, h2⟩ := (Bool.and_eq_true _ _ ▸ h : _ ∧ _)
    refine ⟨r, hr, hb.get hr, Nat.eq_of_beq_eq_true h1, ?_⟩
    cases hg : r.d.isAgg <;> rw [hg] at h2 <;> simpa using h2

theorem run_forIn_range {P : Program} {α : Type} (f : Nat → α → Sem (ForInStep α)) (w : World) (n : Nat) (a : α) :
    (forIn [0:n] a f).run P w = (forIn (List.range n) a f).run P w := by
  rw [Std.Legacy.Range.forIn_eq_forIn_range']
  simp [Std.Legacy.Range.size, List.range_eq_range']

theorem eqLeaf_run {P : Program} {t : TypeId} {r : TRow} (hr : RowOk P t r) {x y : AV} {b : Bool} (h : eqLeaf r.d x y = some b) (D : Nat) (w : World) :
    (Op.equalIn (D + 1) t x.val y.val).run P w = .ok b w := by
  obtain ⟨d, hd, hv⟩ := hr.under
  unfold eqLeaf at h
  split at h
  · rename_i k k1 a k2 b' he
    split at h
    · rename_i hk
      cases h
      simp only [Bool.and_eq_true] at hk
      rw [kindEq_eq hk.1, kindEq_eq hk.2]
      rw [he] at hv
      have : d = .int k := by cases d <;> simp [viewD] at hv; rw [hv]
      rw [this] at hd
      exact run_equalIn_int w D t k k a b' hd
    · cases h
  · rename_i a b' he
    cases h
    rw [he] at hv
    rw [viewD_bool hv] at hd
    exact run_equalIn_bool' w D t a b' hd
  · rename_i a b' he
    cases h
    rw [he] at hv
    have : d = .string := by cases d <;> simp [viewD] at hv; rfl
    rw [this] at hd
    exact run_equalIn_string w D t a b' hd
  · cases h

theorem run_eqInts {P : Program} {e : TypeId} {re : TRow} (hre : RowOk P e re) {k : IntKind} (hk : re.d = .int k) (hs : re.size = 1) {xs ys : Array Value} {n : Nat} {a b : List Int} (D : Nat) (w : World)
    (hx : xs = ((List.range n).map fun j => Value.int k (a.getD j 0)).toArray) (hy : ys = ((List.range n).map fun j => Value.int k (b.getD j 0)).toArray) {t : TypeId} (ht : P.underlying t = some (.array n e)) :
    (Op.equalIn (D + 2) t (.agg xs) (.agg ys)).run P w = .ok (intsEq n a b) w := by
  have hel : ∀ (l : List Int) (i : Nat), i < n → (part e ((List.range n).map fun j => Value.int k (l.getD j 0)).toArray (i * 1)).run P w = .ok (.int k (l.getD i 0)) w := by
    intro l i hi
    refine run_part hre (s := .v (.int k (l.getD i 0))) ⟨hs.symm, ?_, ?_⟩ ?_ w
    · simp [hs]; omega
    · simp only [hs, Nat.mul_one]
      rw [← List.map_drop, ← List.map_take, List.drop_eq_getElem_cons (by simpa using hi)]
      simp
    · rw [hk]; rfl
  obtain ⟨d, hd, hv⟩ := hre.under
  rw [hk] at hv
  have hd2 : d = .int k := by cases d <;> simp [viewD] at hv; rw [hv]
  rw [hd2] at hd
  unfold Op.equalIn
  rw [Sem.run_bind, run_underlying ht, Result.andThen_ok]
  simp only []
  rw [Sem.run_bind, hre.run_sizeOf, Result.andThen_ok, hs, Sem.run_bind, run_forIn_range, hx, hy]
  have key : ∀ (l : List Nat), (∀ i ∈ l, i < n) → ∀ s : Option Bool × PUnit, s.1 = none → 
      ∃ s' : Option Bool × PUnit, (forIn l s fun i r => (do
        if (!(← Op.equalIn (D + 1) e (← part e ((List.range n).map fun j => Value.int k (a.getD j 0)).toArray (i * 1)) (← part e ((List.range n).map fun j => Value.int k (b.getD j 0)).toArray (i * 1)))) = true then pure (ForInStep.done (some false, PUnit.unit)) else pure (ForInStep.yield (none, PUnit.unit)) : Sem _)).run P w = .ok s' w
        ∧ s'.1 = if l.all (fun j => a.getD j 0 == b.getD j 0) then none else some false := by
    intro l
    induction l with
    | nil => intro _ s hs; exact ⟨s, rfl, by simpa using hs⟩
    | cons i l ih =>
      intro hl s hsn
      rw [List.forIn_cons]
      have hi := hl i (by simp)
      simp only [Sem.run_bind, hel a i hi, hel b i hi, Result.andThen_ok, run_equalIn_int w D e k k _ _ hd]
      cases hq : (a.getD i 0 == b.getD i 0) with
      | true =>
        simp only [Bool.not_true, Bool.false_eq_true, if_false, Sem.run_pure, Result.andThen_ok]
        obtain ⟨s', h1, h2⟩ := ih (fun j hj => hl j (by simp [hj])) (none, PUnit.unit) rfl
        refine ⟨s', ?_, ?_⟩
        · simpa [Sem.run_bind] using h1
        · rw [h2, List.all_cons, hq, Bool.true_and]
      | false =>
        simp only [Bool.not_false, if_true, Sem.run_pure, Result.andThen_ok]
        exact ⟨(some false, PUnit.unit), rfl, by rw [List.all_cons, hq, Bool.false_and]; rfl⟩
  obtain ⟨s', h1, h2⟩ := key (List.range n) (fun i hi => List.mem_range.1 hi) (none, ()) rfl
  rw [h1, Result.andThen_ok, h2]
  unfold intsEq
  cases (List.range n).all fun j => a.getD j 0 == b.getD j 0 <;> rfl

theorem fields_map {P : Program} {gs : Array Field} {fs : List (Nat × Nat × TypeId)} (h : gs.toList.map (fun f => (f.offset, P.cellsOf f.type, f.type)) = fs) : gs.toList.map (fun f => (f.offset, f.type)) = fs.map (fun f => (f.1, f.2.2)) := by
  rw [← h, List.map_map]; rfl

mutual
theorem eqT_run {P : Program} {tb : Tbl} (hb : TblOk P tb) {eqs : List TypeId} (he : EqOk P eqs) : ∀ (d : Nat) {t : TypeId} {x y : AV} {b : Bool}, eqT tb eqs d t x y = some b → ∀ (D : Nat), d < D → ∀ w : World,
    (Op.equalIn D t x.val y.val).run P w = .ok b w
  | 0, _, _, _, _, h, _, _, _ => by simp [eqT] at h
  | d + 1, t, x, y, b, h, D, hD, w => by
    obtain ⟨D, rfl⟩ : ∃ m, D = m + 2 := ⟨D - 2, by omega⟩
    simp only [eqT] at h
    split at h
    · cases h
    · rename_i r hr
      have hro := hb.get hr
      split at h
      · rename_i n e k1 n1 a k2 n2 b' hd
        split at h
        · cases h
        · rename_i re hre
          split at h
          · rename_i k hk hs
            split at h
            · rename_i hq
              cases h
              simp only [Bool.and_eq_true] at hq
              obtain ⟨⟨⟨q1, q2⟩, q3⟩, q4⟩ := hq
              have q1 := kindEq_eq q1; have q2 := kindEq_eq q2
              have q3 := Nat.eq_of_beq_eq_true q3; have q4 := Nat.eq_of_beq_eq_true q4
              subst q1 q2 q3 q4
              obtain ⟨dd, hdd, hv⟩ := hro.under
              rw [hd] at hv
              rw [viewD_arr hv] at hdd
              exact run_eqInts (hb.get hre) hk (Nat.eq_of_beq_eq_true hs) D w rfl rfl hdd
            · cases h
          · cases h
      · rename_i fs l m hd
        split at h
        · rename_i hm
          obtain ⟨e1, e2, e3⟩ := he.mem hm
          obtain ⟨dd, hdd, hv⟩ := hro.under
          rw [hd] at hv
          obtain ⟨gs, rfl, hgs⟩ := viewD_st hv
          have hf : P.fieldsOf t = gs := by simp [Program.fieldsOf, hdd]
          show (Op.equalIn (D + 1 + 1) t (.agg l.cells.toArray) (.agg m.cells.toArray)).run P w = _
          rw [run_equalIn_struct w (D + 1) t _ _ (by rw [hf]; exact hdd) e1, hf]
          rw [hf] at e2
          refine eqF_run hb he d h (D + 1) (by omega) gs.toList (fields_map hgs) ?_ [] [] rfl rfl w
          intro f hf
          have := Array.all_eq_true_iff_forall_mem.1 e2 f (by simpa using hf)
          simpa using this
        · cases h
      · exact eqLeaf_run hro h (D + 1) w
theorem eqF_run {P : Program} {tb : Tbl} (hb : TblOk P tb) {eqs : List TypeId} (he : EqOk P eqs) : ∀ (d : Nat) {fs : List (Nat × Nat × TypeId)} {run : Nat} {l m : AV} {b : Bool}, eqF tb eqs d fs run l m = some b → ∀ (D : Nat), d < D →
    ∀ gs : List Field, gs.map (fun f => (f.offset, f.type)) = fs.map (fun f => (f.1, f.2.2)) → (∀ f ∈ gs, f.name ≠ "_") → ∀ (cs1 cs2 : List Value), cs1.length = run → cs2.length = run → ∀ w : World,
    (Op.eqFields D (cs1 ++ l.cells).toArray (cs2 ++ m.cells).toArray gs).run P w = .ok b w
  | d, fs, run, l, m, b, h, D, hD, gs, hg, hn, cs1, cs2, hc1, hc2, w => by
    cases d with
    | zero => simp [eqF] at h
    | succ d =>
      simp only [eqF] at h
      split at h
      · have hgn : gs = [] := by simpa using hg
        subst hgn
        cases h
        rfl
      · rename_i o s t fs a l b' m
        split at h
        · rename_i hq1 hk1 hk2
          split at h
          · rename_i p q hp hq
            cases h
            cases gs with
            | nil => simp at hg
            | cons g gs =>
              simp only [List.map_cons, List.cons.injEq, Prod.mk.injEq] at hg
              obtain ⟨⟨hgo, hgt⟩, hg⟩ := hg
              simp only [Bool.and_eq_true] at hq1
              obtain ⟨⟨q1, q2⟩, q3⟩ := hq1
              have q1 := Nat.eq_of_beq_eq_true q1; have q2 := Nat.eq_of_beq_eq_true q2; have q3 := Nat.eq_of_beq_eq_true q3
              obtain ⟨r1, hr1, ho1, hs1, hk1⟩ := fitsK_spec hb hk1
              obtain ⟨r2, hr2, ho2, hs2, hk2⟩ := fitsK_spec hb hk2
              have hrr : r1 = r2 := by rw [hr1] at hr2; exact Option.some.inj hr2
              subst hrr
              have pa : (part g.type (cs1 ++ (AV.cons a l).cells).toArray g.offset).run P w = .ok a.val w := by
                rw [hgt, hgo]
                refine run_part ho1 ?_ hk1 w
                rw [AV.cells_cons, ← List.append_assoc]
                refine Part.inl (Part.inr (by omega) ?_)
                rw [hs1, show o - cs1.length = 0 by omega]
                exact Part.whole a
              have pb : (part g.type (cs2 ++ (AV.cons b' m).cells).toArray g.offset).run P w = .ok b'.val w := by
                rw [hgt, hgo]
                refine run_part ho1 ?_ hk2 w
                rw [AV.cells_cons, ← List.append_assoc]
                refine Part.inl (Part.inr (by omega) ?_)
                rw [hs2, show o - cs2.length = 0 by omega]
                exact Part.whole b'
              have pe := eqT_run hb he d hp D (by omega) w
              rw [← hgt] at pe
              have pr := eqF_run hb he d hq D (by omega) gs hg (fun f hf => hn f (by simp [hf])) (cs1 ++ a.cells) (cs2 ++ b'.cells) (by simp [AV.size_cells]; omega) (by simp [AV.size_cells]; omega) w
              rw [List.append_assoc, List.append_assoc, ← AV.cells_cons, ← AV.cells_cons] at pr
              unfold Op.eqFields
              rw [if_pos (hn g (by simp)), Sem.run_bind, pa, Result.andThen_ok, Sem.run_bind, pb, Result.andThen_ok, Sem.run_bind, pe, Result.andThen_ok, Sem.run_ite]
              cases p
              · simp
              · simp only [Bool.not_true, Bool.false_eq_true, if_false, Bool.true_and]; exact pr
          · cases h
        · cases h
      · cases h
end

/-- '==' and '!=' of two aggregates -/
theorem eqT_bin {P : Program} {tb : Tbl} (hb : TblOk P tb) {eqs : List TypeId} (he : EqOk P eqs) {t : TypeId} {x y : AV} {b : Bool} (h : eqT tb eqs 64 t x y = some b) (hx : x.isAgg = true) (hy : y.isAgg = true)
    (hg : P.eqGuardType P.depth t = false) (xo yo : Operand) (w : World) :
    (do eqGuard .eql t xo yo x.val y.val; binOp .eql t x.val y.val).run P w = .ok (.bool b) w ∧ (do eqGuard .neq t xo yo x.val y.val; binOp .neq t x.val y.val).run P w = .ok (.bool !b) w := by
  have hq : (Op.equalIn 10000 t x.val y.val).run P w = .ok b w := eqT_run hb he 64 h 10000 (by omega) w
  rw [AV.val_of_cells hx, AV.val_of_cells hy] at hq ⊢
  constructor
  · rw [Sem.run_bind, run_eqGuard_agg w _ _ _ _ _ _ hg, Result.andThen_ok, run_eql_struct, hq]; rfl
  · rw [Sem.run_bind, run_eqGuard_agg w _ _ _ _ _ _ hg, Result.andThen_ok, run_neq_struct, hq]; rfl

end Go.Proofs.Ytaohdlepocajcaa.V
