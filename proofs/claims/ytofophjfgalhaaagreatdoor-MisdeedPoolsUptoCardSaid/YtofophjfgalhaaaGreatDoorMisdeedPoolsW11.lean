import Derived.Test.YtofophjfgalhaaaGreatDoorMisdeedPoolsW07
import Derived.OpenShut
import Derived.ProofKit
set_option linter.unusedVariables false
set_option linter.unusedSimpArgs false
set_option maxRecDepth 100000
set_option maxHeartbeats 8000000
namespace Go.Proofs.YtofophjfgalhaaaGreatDoor.V
open Go Go.RowKit Go.ChangeShapes Go.ChangeAt
section
variable {H : Type} {enc : TypeId × Value → H} {P : Program}
theorem trodAll_stays (hl : laidOutB P = true) {W W' : World} (hb : Below W.heap.size W W') {sp : Nat → Bool} : ∀ {ts : List TypeId} {vs : List Value} {ds : List (DataW H)} {p : List MemPlace},
  (∀ t ∈ ts, P.readableRec t = true ∧ t < P.types.size) → DataW.TrodAll enc P W 0 (fun _ => true) true ts vs ds p → (∀ x ∈ p, x.block < W.heap.size) → (∀ x ∈ p, sp x.block = true) → DataW.TrodAll enc P W' 0 sp true ts vs ds p
 | [], vs, ds, p, _, h, _, _ => by
  obtain ⟨rfl, rfl, rfl⟩ := trodAll_nil h
  exact trodAll_mk0
 | t :: ts, vs, ds, p, ht, h, hlt, hsp => by
  obtain ⟨v, vs', d, ds', p1, p2, rfl, rfl, rfl, h1, h2⟩ := trodAll_cons h
  refine trodAll_cons_mk (WideElems.Trod_stays hl (ht t (.head _)).1 (ht t (.head _)).2 h1 (fun x hx => hb.kit.same (hlt x (List.mem_append_left _ hx))) (fun x hx => hsp x (List.mem_append_left _ hx))) ?_
  exact trodAll_stays hl hb (fun t' ht' => ht t' (.tail _ ht')) h2 (fun x hx => hlt x (List.mem_append_right _ hx)) (fun x hx => hsp x (List.mem_append_right _ hx))
theorem post_below {f : Func} {s : ChangeSpec} {apart fresh handsOn again : Bool} {W W' : World} {args : Array Value} {v : Value} {ds gs : List (DataW H)} {before : List MemPlace}
  (hl : laidOutB P = true) (hr : ∀ t ∈ f.params.toList, P.readableRec t = true ∧ t < P.types.size)
  (hW : DataW.Whole enc P f.params.toList s.vars apart W args.toList ds gs before) (hv : s.vars = [])
  (hres : ∀ (b : Nat) (sp : Nat → Bool) (hd : Bool), DataW.TrodAll enc P W' b sp hd f.resultTypes.toList (v.resultList f.resultTypes.size) (s.fn H (ds ++ gs)).results [])
  (ha : (s.fn H (ds ++ gs)).args = ds) (hvs : (s.fn H (ds ++ gs)).vars = []) (hb : Below W.heap.size W W')
  (hok : ∀ (j : Nat) (t : TypeId) (r : Value), f.resultTypes[j]? = some t → (v.resultList f.resultTypes.size)[j]? = some r → Value.okWide P W' .any 0 t r) :
  s.post enc P f apart fresh handsOn again W args v W' := by
 have hlt := hW.lt
 have hW0 := hW
 obtain ⟨pa, pv, hA, hV, rfl, hz, hn⟩ := hW
 rw [hv] at hV
 obtain ⟨rfl, rfl⟩ := trodVars_none hV
 have hargs : ∀ sp : Nat → Bool, (∀ p ∈ pa ++ [], sp p.block = true) → DataW.TrodAll enc P W' 0 sp true f.params.toList args.toList (s.fn H (ds ++ [])).args pa := fun sp hsp => by
  rw [ha]
  exact trodAll_stays hl hb hr hA (fun x hx => hlt x (List.mem_append_left _ hx)) (fun x hx => hsp x (List.mem_append_left _ hx))
 have hvars : ∀ sp : Nat → Bool, DataW.TrodVars enc P W' sp s.vars (s.fn H (ds ++ [])).vars [] := fun sp => by rw [hv, hvs]; rfl
 have hold : ∀ p ∈ pa ++ [], (fun b => decide (b < W.heap.size)) p.block = true := fun p hp => by simpa using hlt p hp
 refine ⟨ds, [], pa ++ [], [], pa, [], hW0, hres _ _ _, hargs _ hold, hvars _, World.keptBut_mono (fun p hp => ⟨hp, ?_⟩) (hb.kit.frame (· ∈ pa ++ [])), fun _ => ?_⟩
 ·
  exact Or.inr (List.mem_append.1 hp)
 ·
  refine ⟨hok, _, _, ([] ++ pa) ++ [], ⟨[] ++ pa, [], trodAll_append (hargs _ (fun _ _ => rfl)) (hres _ _ _), hvars _, rfl, ?_, ?_⟩, ?_⟩
  ·
   intro b off hp
   rw [hb.kit.frozen (p := ⟨b, off, none⟩) (hlt (.cell b off) (by simpa using hp))]
   exact hz b off (by simpa using hp)
  ·
   intro ha
   simpa using hn ha
  ·
   intro p hp _
   simpa using hp
end
def layF : Nat → List (Nat × Nat × TypeId) → Nat → Bool
 | o, [], s => Nat.beq o s
 | o, (p, sz, _) :: r, s => Nat.beq p o && layF (o + sz) r s
def isInt : TD → Option IntKind
 | .int k => some k
 | _ => none
def deepOk (tb : Tbl) : Nat → TypeId → Bool
 | 0, _ => false
 | n + 1, t => match tb.get t with
  | none => false
  | some r => match r.d with
   | .int _ => true
   | .bool => true
   | .str => true
   | .sl _ => true
   | .st fs => layF 0 fs r.size && fs.all fun f => deepOk tb n f.2.2
   | .arr m e => match tb.get e with
    | some re => Nat.beq (m * re.size) r.size && deepOk tb n e && (!(isInt re.d).isSome || Nat.beq re.size 1)
    | none => false
   | _ => false
mutual
def wfA (tb : Tbl) : Nat → TypeId → AV → Prop
 | 0, _, _ => False
 | n + 1, t, av => match tb.get t with
  | none => False
  | some r => match r.d with
   | .int k => ∃ x, av = .v (.int k x) ∧ (Lit.int k x).wf = true
   | .bool => ∃ b, av = .v (.bool b)
   | .str => ∃ s, av = .v (.string s)
   | .sl _ => ∃ a n c, av = .v (.slice a n c)
   | .st fs => ∃ l, av = .agg l ∧ wfF tb n fs l
   | .arr m e => match tb.get e with
    | none => False
    | some re => match isInt re.d with
     | some k => ∃ xs : List Int, av = .ints k m xs ∧ xs.length = m ∧ ∀ x ∈ xs, (Lit.int k x).wf = true
     | none => ∃ l, av = .agg l ∧ wfR tb n e m l
   | _ => False
def wfF (tb : Tbl) : Nat → List (Nat × Nat × TypeId) → AV → Prop
 | _, [], l => l = .nil
 | n, f :: r, l => ∃ a b, l = .cons a b ∧ wfA tb n f.2.2 a ∧ wfF tb n r b
def wfR (tb : Tbl) : Nat → TypeId → Nat → AV → Prop
 | _, _, 0, l => l = .nil
 | n, e, m + 1, l => ∃ a b, l = .cons a b ∧ wfA tb n e a ∧ wfR tb n e m b
end
theorem wfF_of {tb : Tbl} {n : Nat} {cs : List Value} : ∀ {L : List (Nat × Nat × TypeId)} {o : Nat}, layF o L cs.length = true →
  (∀ f ∈ L, ∃ av, wfA tb n f.2.2 av ∧ av.cells = (cs.drop f.1).take f.2.1) → ∃ l, wfF tb n L l ∧ l.cells = cs.drop o
 | [], o, hl, _ => by
  have := Nat.eq_of_beq_eq_true hl
  exact ⟨.nil, by unfold wfF; rfl, by rw [this]; simp⟩
 | (p, sz, t) :: r, o, hl, h => by
  simp only [layF, Bool.and_eq_true] at hl
  have hp := Nat.eq_of_beq_eq_true hl.1
  subst hp
  obtain ⟨a, ha1, ha2⟩ := h _ (.head _)
  obtain ⟨b, hb1, hb2⟩ := wfF_of (L := r) (o := p + sz) hl.2 (fun f hf => h f (.tail _ hf))
  refine ⟨.cons a b, ?_, ?_⟩
  ·
   unfold wfF; exact ⟨a, b, rfl, ha1, hb1⟩
  ·
   rw [AV.cells_cons, ha2, hb2, ← List.drop_drop, List.take_append_drop]
theorem wfR_of {tb : Tbl} {n : Nat} {cs : List Value} {e es : Nat} : ∀ {m o : Nat}, o + m * es = cs.length →
  (∀ i, i < m → ∃ av, wfA tb n e av ∧ av.cells = (cs.drop (o + i * es)).take es) → ∃ l, wfR tb n e m l ∧ l.cells = cs.drop o
 | 0, o, hl, _ => ⟨.nil, by unfold wfR; rfl, by rw [List.drop_of_length_le (by omega)]; rfl⟩
 | m + 1, o, hl, h => by
  obtain ⟨a, ha1, ha2⟩ := h 0 (by omega)
  obtain ⟨b, hb1, hb2⟩ := wfR_of (m := m) (o := o + es) (es := es) (by rw [← hl, Nat.add_mul]; omega) (fun i hi => by
   obtain ⟨av, h1, h2⟩ := h (i + 1) (by omega)
   exact ⟨av, h1, by rw [h2, Nat.add_mul]; congr 2; omega⟩)
  refine ⟨.cons a b, ?_, ?_⟩
  ·
   unfold wfR; exact ⟨a, b, rfl, ha1, hb1⟩
  ·
   rw [AV.cells_cons, ha2, hb2, Nat.zero_mul, Nat.add_zero, ← List.drop_drop, List.take_append_drop]
theorem cellsOf_row {P : Program} {t : TypeId} {r : TRow} (h : RowOk P t r) : P.cellsOf t = r.size := by
 obtain ⟨i, h1, h2, _⟩ := h.info
 unfold Program.cellsOf
 rw [h1]; simpa using h2
theorem open_plain {H : Type} {enc : TypeId × Value → H} {P : Program} {tb : Tbl} (hb : TblOk P tb) {w : World} {base : Nat} {spare : Nat → Bool} {held : Bool} :
  ∀ (n fuel : Nat) (t : TypeId) (cs : List Value) (x : DataW H × List MemPlace), deepOk tb n t = true → DataW.trod enc P w base spare held fuel t cs = some x → ∃ av, wfA tb n t av ∧ av.cells = cs
 | 0, _, _, _, _, h, _ => by cases h
 | n + 1, fuel, t, cs, x, hd, hx => by
  simp only [deepOk] at hd
  split at hd
  ·
   cases hd
  ·
   rename_i r hr
   obtain ⟨d, hu, hv⟩ := (hb.get hr).under
   have hsz := cellsOf_row (hb.get hr)
   split at hd
   ·
    rename_i k hk
    rw [hk] at hv
    have : d = .int k := by cases d <;> simp [viewD] at hv; rw [hv]
    subst this
    cases fuel with
    | zero => simp [DataW.trod] at hx
    | succ m =>
     unfold DataW.trod at hx
     rw [hu] at hx
     split at hx <;> simp_all
     rename_i k' z _
     obtain ⟨⟨rfl, hwf⟩, _⟩ := hx
     exact ⟨.v (.int k' z), by unfold wfA; simp [hr, hk, hwf], rfl⟩
   ·
    rename_i hk
    rw [hk] at hv
    have : d = .bool := by cases d <;> simp [viewD] at hv; rfl
    subst this
    cases fuel with
    | zero => simp [DataW.trod] at hx
    | succ m =>
     unfold DataW.trod at hx
     rw [hu] at hx
     split at hx <;> simp_all
     exact ⟨.v (.bool _), by unfold wfA; simp [hr, hk], rfl⟩
   ·
    rename_i hk
    rw [hk] at hv
    have : d = .string := by cases d <;> simp [viewD] at hv; rfl
    subst this
    cases fuel with
    | zero => simp [DataW.trod] at hx
    | succ m =>
     unfold DataW.trod at hx
     rw [hu] at hx
     split at hx <;> simp_all
     exact ⟨.v (.string _), by unfold wfA; simp [hr, hk], rfl⟩
   ·
    rename_i e hk
    rw [hk] at hv
    have : d = .slice e := viewD_sl hv
    subst this
    cases fuel with
    | zero => simp [DataW.trod] at hx
    | succ m =>
     unfold DataW.trod at hx
     rw [hu] at hx
     split at hx <;> first | (exact ⟨.v (.slice _ _ _), by unfold wfA; simp [hr, hk], rfl⟩) | simp_all
   ·
    rename_i fs hk
    simp only [Bool.and_eq_true] at hd
    rw [hk] at hv
    obtain ⟨fa, rfl⟩ : ∃ fa, d = .struct fa := by cases d <;> simp [viewD] at hv; exact ⟨_, rfl⟩
    simp only [viewD, TD.st.injEq] at hv
    obtain ⟨xs, m, rfl, rfl, hlen, hxl, hf⟩ := DataW.trod_struct hu hx
    rw [hsz] at hlen
    rw [← hlen] at hd
    obtain ⟨l, h1, h2⟩ := wfF_of (tb := tb) (n := n) (cs := cs) hd.1 (fun f hfm => by
     have hdf := List.all_eq_true.1 hd.2 f hfm
     rw [← hv] at hfm
     obtain ⟨g, hg, rfl⟩ := List.mem_map.1 hfm
     obtain ⟨i, hi, hgi⟩ := List.getElem_of_mem hg
     have hfi := hf i g (by rw [Array.getElem?_eq_getElem (by simpa using hi)]; simpa using hgi)
     have hix : i < xs.length := by rw [hxl]; simpa using hi
     rw [List.getElem?_eq_getElem hix] at hfi
     exact open_plain hb n m g.type _ _ hdf hfi)
    exact ⟨.agg l, by unfold wfA; simp only [hr, hk]; exact ⟨l, rfl, h1⟩, by rw [AV.cells_agg, h2]; rfl⟩
   ·
    rename_i m e hk
    split at hd
    ·
     rename_i re hre
     simp only [Bool.and_eq_true] at hd
     rw [hk] at hv
     have : d = .array m e := viewD_arr hv
     subst this
     obtain ⟨xs, f2, rfl, rfl, hlen, hxl, hf⟩ := DataW.trod_array hu hx
     rw [hsz] at hlen
     have hes := cellsOf_row (hb.get hre)
     have hms := Nat.eq_of_beq_eq_true hd.1.1
     have hall : ∀ i, i < m → ∃ av, wfA tb n e av ∧ av.cells = (cs.drop (0 + i * re.size)).take re.size := fun i hi => by
      have hfi := hf i hi
      rw [List.getElem?_eq_getElem (by omega), hes] at hfi
      rw [Nat.zero_add]
      exact open_plain hb n f2 e _ _ hd.1.2 hfi
     cases hki : isInt re.d with
     | none =>
      obtain ⟨l, h1, h2⟩ := wfR_of (tb := tb) (n := n) (cs := cs) (e := e) (es := re.size) (m := m) (o := 0) (by omega) hall
      exact ⟨.agg l, by unfold wfA; simp only [hr, hk, hre, hki]; exact ⟨l, rfl, h1⟩, by rw [AV.cells_agg, h2]; rfl⟩
     | some k =>
      have hre1 : re.size = 1 := by
       have := hd.2
       rw [hki] at this
       simpa using this
      have hdk : re.d = .int k := by
       unfold isInt at hki
       split at hki
       ·
        cases hki; assumption
       ·
        cases hki
      rw [hre1] at hall hms
      have hcl : cs.length = m := by omega
      have hint : ∀ i, i < m → ∃ z, cs[i]? = some (.int k z) ∧ (Lit.int k z).wf = true := fun i hi => by
       obtain ⟨av, h1, h2⟩ := hall i hi
       cases n with
       | zero => unfold wfA at h1; exact h1.elim
       | succ n =>
        unfold wfA at h1
        simp only [hre, hdk] at h1
        obtain ⟨z, rfl, hz⟩ := h1
        refine ⟨z, ?_, hz⟩
        have := congrArg (fun l => l[0]?) h2
        rw [Nat.zero_add, Nat.mul_one] at this
        simp only [AV.cells_v, List.getElem?_cons_zero, List.getElem?_take, List.getElem?_drop] at this
        simpa using this.symm
      refine ⟨.ints k m (cs.map fun v => match v with | .int _ z => z | _ => 0), ?_, ?_⟩
      ·
       unfold wfA
       simp only [hr, hk, hre, hki]
       refine ⟨_, rfl, by simpa using hcl, fun z hz => ?_⟩
       obtain ⟨v, hv, rfl⟩ := List.mem_map.1 hz
       obtain ⟨i, hi, hvi⟩ := List.getElem_of_mem hv
       obtain ⟨z, h1, h2⟩ := hint i (by omega)
       rw [List.getElem?_eq_getElem hi, hvi] at h1
       cases h1
       exact h2
      ·
       apply List.ext_getElem?
       intro i
       by_cases hi : i < m
       ·
        rw [ints_get k m _ hi]
        obtain ⟨z, h1, _⟩ := hint i hi
        rw [List.getD_eq_getElem?_getD, List.getElem?_map, h1]; rfl
       ·
        rw [List.getElem?_eq_none (by rw [AV.size_cells]; show m ≤ i; omega), List.getElem?_eq_none (by omega)]
    ·
     cases hd
   ·
    cases hd
end Go.Proofs.YtofophjfgalhaaaGreatDoor.V
