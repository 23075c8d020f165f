import Derived.Test.YtofophjfgalhaaaGreatDoorMisdeedPoolsW01
import Derived.Laws.Tables
set_option linter.unusedVariables false
set_option linter.unusedSimpArgs false
set_option maxRecDepth 100000
set_option maxHeartbeats 8000000
namespace Go.Proofs.YtofophjfgalhaaaGreatDoor.V
open Go Go.RowKit
def nth {α : Type} : List α → Nat → Option α
 | [], _ => none
 | x :: r, n => match n with
  | 0 => some x
  | n + 1 => nth r n
theorem nth_eq {α : Type} : ∀ (l : List α) (n : Nat), nth l n = l[n]?
 | [], _ => rfl
 | x :: r, 0 => rfl
 | x :: r, n + 1 => by rw [nth, nth_eq r n]; rfl
def fieldOf (tb : Tbl) (t : TypeId) (f : Nat) : Option (Nat × Nat × TypeId) := match tb.get t with
 | some r => match r.d with
  | .st fs => nth fs f
  | _ => none
 | none => none
def AV.leaf (off : Nat) : AV → Option (IntKind × Nat × List Int)
 | .cons a b => match a.eat off with
  | none => a.leaf off
  | some k => b.leaf k
 | .agg l => l.leaf off
 | .ints k m l => match Nat.beq off 0 with
  | true => some (k, m, l)
  | false => none
 | _ => none
theorem AV.leaf_spec : ∀ (a : AV) {off : Nat} {k : IntKind} {m : Nat} {l : List Int}, a.leaf off = some (k, m, l) → Part off m a.cells (.ints k m l) := by
 intro a
 induction a with
 | v x | ptr p | sl p len cap | mp m b | gs m ix a es i0 len cap | fn f c _ | nil | tup l _ => intro off k m l h; cases h
 | ints k m l =>
  intro off k' m' l' h
  simp only [AV.leaf] at h
  split at h
  ·
   rename_i ho
   cases h
   rw [Nat.eq_of_beq_eq_true ho]
   exact Part.whole (.ints k m l)
  ·
   cases h
 | cons a b iha ihb =>
  intro off k m l h
  simp only [AV.leaf] at h
  split at h
  ·
   exact (iha h).inl
  ·
   rename_i j hc
   have h1 := ihb h
   have h3 := a.eat_some hc
   rw [← AV.size_cells] at h3
   rw [show j = off - a.cells.length by omega] at h1
   exact h1.inr (show a.cells.length ≤ off by omega)
 | agg l ih =>
  intro off k m l' h
  exact ih h
def gsB (a : Option (Nat × Nat)) : Nat × Nat := a.getD (0, 0)
def ownB (a : Option Nat) : Option (Nat × Nat) := a.map fun b => (b, 0)
theorem RowHolds.cell {w : World} {b T es len cap : Nat} {f : Nat → AV} (h : RowHolds w b T es len f cap) {i k : Nat} (hi : i < len) (hk : k < es) : w.cell? ⟨b, i * es + k, none⟩ = (f i).cells[k]? := by
 obtain ⟨cs, h1, h2, h3, h4⟩ := h
 rw [← (h4 i hi).2.2 k hk]
 unfold World.cell?
 simp [h1]
theorem RowHolds.at {w : World} {b T es len cap : Nat} {f : Nat → AV} (h : RowHolds w b T es len f cap) {i : Nat} (hi : i < len) : (f i).size = es ∧ (f i).one = true := by
 obtain ⟨cs, h1, h2, h3, h4⟩ := h
 exact ⟨(h4 i hi).1, (h4 i hi).2.1⟩
def elemAt (M : MemF) (p : Pt) : Option (Prop × AV) := match M p.n with
 | some (.row b _ es len f _) => some (p.b = b ∧ p.o0 = 0 ∧ p.es = es ∧ p.idx < len, f p.idx)
 | some (.vrow a _ es len f _) => some ((p.b, p.o0) = gsB (ownB a) ∧ p.es = es ∧ p.idx < len, f p.idx)
 | some (.vro es base len f) => some ((p.b, p.o0) = gsB (base p.ix) ∧ p.es = es ∧ p.idx < len p.ix, f p.ix p.idx)
 | some (.var b x) => some (p.b = b ∧ p.o0 = 0 ∧ p.idx = 0, x)
 | _ => none
theorem vrow_some {w : World} {a : Option Nat} {T es len cap : Nat} {f : Nat → AV} (h : (Blk.vrow a T es len f cap).holds w) {i : Nat} (hi : i < len) : ∃ b, a = some b ∧ RowHolds w b T es len f cap := by
 cases a with
 | none => have := h.1; omega
 | some b => exact ⟨b, rfl, h⟩
theorem elemAt_spec {O : Nat → Prop} {w0 w : World} {M : MemF} (hS : Sat O w0 M w) {p : Pt} {c : Prop} {e : AV} (h : elemAt M p = some (c, e)) (hc : c) :
  ∀ k, k < e.size → w.cell? ⟨p.b, p.o0 + p.idx * p.es + k, none⟩ = e.cells[k]? := by
 unfold elemAt at h
 split at h
 ·
  rename_i b T es len f cap hg
  cases h
  obtain ⟨rfl, h0, rfl, hi⟩ := hc
  have hr : RowHolds w _ _ _ _ _ _ := hS.holds _ _ hg
  intro k hk
  rw [h0, Nat.zero_add]
  exact hr.cell hi (by rw [(hr.at hi).1] at hk; exact hk)
 ·
  rename_i a T es len f cap hg
  cases h
  obtain ⟨h0, rfl, hi⟩ := hc
  obtain ⟨b, rfl, hr⟩ := vrow_some (hS.holds _ _ hg) hi
  have e1 : p.b = b := congrArg Prod.fst h0
  have e2 : p.o0 = 0 := congrArg Prod.snd h0
  intro k hk
  rw [e1, e2, Nat.zero_add]
  exact hr.cell hi (by rw [(hr.at hi).1] at hk; exact hk)
 ·
  rename_i es base len f hg
  cases h
  obtain ⟨h0, rfl, hi⟩ := hc
  have h4 := hS.holds _ _ hg
  obtain ⟨h5, h6⟩ := h4 p.ix
  cases hb : base p.ix with
  | none => have := h5 hb; omega
  | some x =>
   obtain ⟨b, o⟩ := x
   rw [hb] at h0
   have e1 : p.b = b := congrArg Prod.fst h0
   have e2 : p.o0 = o := congrArg Prod.snd h0
   obtain ⟨h7, _, h8⟩ := h6 b o hb _ hi
   intro k hk
   rw [e1, e2]
   exact h8 k (by omega)
 ·
  rename_i b x hg
  cases h
  obtain ⟨rfl, h0, h1⟩ := hc
  obtain ⟨_, _, h2⟩ := hS.holds _ _ hg
  intro k hk
  rw [h0, h1, Nat.zero_mul]
  simpa using h2 k hk
 ·
  cases h
theorem elemAt_one {O : Nat → Prop} {w0 w : World} {M : MemF} (hS : Sat O w0 M w) {p : Pt} {c : Prop} {e : AV} (h : elemAt M p = some (c, e)) (hc : c) : e.one = true := by
 unfold elemAt at h
 split at h
 ·
  rename_i hg
  cases h
  have hr : RowHolds w _ _ _ _ _ _ := hS.holds _ _ hg
  exact (hr.at hc.2.2.2).2
 ·
  rename_i hg
  cases h
  obtain ⟨b, _, hr⟩ := vrow_some (hS.holds _ _ hg) hc.2.2
  exact (hr.at hc.2.2).2
 ·
  rename_i es base len f hg
  cases h
  have h4 := hS.holds _ _ hg
  obtain ⟨h5, h6⟩ := h4 p.ix
  cases hb : base p.ix with
  | none => have := h5 hb; have := hc.2.2; omega
  | some x => exact (h6 x.1 x.2 hb _ hc.2.2).2.1
 ·
  rename_i hg
  cases h
  exact (hS.holds _ _ hg).2.1
 ·
  cases h
def loadV (M : MemF) (r : TRow) (p : Pt) : Option (Prop × AV) := match elemAt M p with
 | none => none
 | some (c, e) => match p.lf with
  | true => match e.leaf p.off, r.d, Nat.beq r.size 1 with
   | some (k, m, l), .int k', true => match kindEq k k' with
    | true => some (c ∧ p.j < m, .v (.int k (l.getD p.j 0)))
    | false => none
   | _, _, _ => none
  | false => match e.sub r.d.isAgg p.off r.size with
   | some s => some (c ∧ p.j = 0, s)
   | none => none
theorem ints_get (k : IntKind) (m : Nat) (l : List Int) {j : Nat} (h : j < m) : (AV.ints k m l).cells[j]? = some (.int k (l.getD j 0)) := by
 show ((List.range m).map _)[j]? = _
 rw [List.getElem?_map, List.getElem?_range h]; rfl
theorem loadV_run {P : Program} {O : Nat → Prop} {w0 w : World} {M : MemF} (hS : Sat O w0 M w) {t : TypeId} {r : TRow} (hr : RowOk P t r) {p : Pt} {c : Prop} {s : AV} (h : loadV M r p = some (c, s)) (hc : c) :
  (loadVar t p.addr).run P w = .ok s.val w := by
 unfold loadV at h
 split at h
 ·
  cases h
 ·
  rename_i c0 e he
  split at h
  ·
   split at h
   ·
    rename_i k m l k' hl hd hs
    split at h
    ·
     rename_i hk
     cases h
     obtain ⟨hc, hj⟩ := hc
     have hcell := elemAt_spec hS he hc
     have hp := AV.leaf_spec e hl
     refine run_loadVar_part hr (s := .v (.int k (l.getD p.j 0))) rfl (Nat.eq_of_beq_eq_true hs).symm (by rw [hd]; rfl) ?_
     intro i hi
     have hi0 : i = 0 := by have : i < 1 := hi; omega
     subst hi0
     have hle : p.off + m ≤ e.cells.length := hp.2.1
     rw [AV.size_cells] at hle
     have := hcell (p.off + p.j) (by omega)
     rw [getElem?_part hp hj, ints_get k m l hj] at this
     show w.cell? ⟨p.b, p.cell + 0, none⟩ = _
     rw [show p.cell + 0 = p.o0 + p.idx * p.es + (p.off + p.j) by unfold Pt.cell; omega, this]
     rfl
    ·
     cases h
   ·
    cases h
  ·
   split at h
   ·
    rename_i s' hs
    cases h
    obtain ⟨hc, hj⟩ := hc
    have hcell := elemAt_spec hS he hc
    obtain ⟨hp, hk⟩ := AV.sub_spec e hs
    refine run_loadVar_part hr rfl hp.1 hk ?_
    intro i hi
    have hle : p.off + r.size ≤ e.cells.length := hp.2.1
    rw [AV.size_cells] at hle
    have hi' : i < r.size := by rw [← hp.1]; exact hi
    have := hcell (p.off + i) (by omega)
    rw [getElem?_part hp hi'] at this
    show w.cell? ⟨p.b, p.cell + i, none⟩ = _
    rw [show p.cell + i = p.o0 + p.idx * p.es + (p.off + i) by unfold Pt.cell; omega, this]
   ·
    cases h
def lset (n : Nat) (l : List Int) (i : Nat) (x : Int) : List Int := (List.range n).map fun j => if j = i then x else l.getD j 0
theorem lset_get (n : Nat) (l : List Int) (i : Nat) (x : Int) {j : Nat} (h : j < n) : (lset n l i x).getD j 0 = if j = i then x else l.getD j 0 := by
 unfold lset
 rw [List.getD_eq_getElem?_getD, List.getElem?_map, List.getElem?_range h]; rfl
def AV.upd (off n : Nat) (x : AV) : AV → Option AV
 | .cons a b => match a.eat off with
  | none => match AV.upd off n x a with
   | some a' => some (.cons a' b)
   | none => none
  | some k => match AV.upd k n x b with
   | some b' => some (.cons a b')
   | none => none
 | .agg l => match Nat.beq off 0 && l.isSize n && x.isAgg with
  | true => some x
  | false => match AV.upd off n x l with
   | some l' => some (.agg l')
   | none => none
 | .ints k m l => match x with
  | .v (.int k' i) => match kindEq k k' && Nat.blt off m && Nat.beq n 1 with
   | true => some (.ints k m (lset m l off i))
   | false => none
  | x => match Nat.beq off 0 && Nat.beq n m && x.isAgg with
   | true => some x
   | false => none
 | .nil => none
 | .tup _ => none
 | _ => match Nat.beq off 0 && Nat.beq n 1 && x.plain with
  | true => some x
  | false => none
def Upd (off n : Nat) (x a b : List Value) : Prop := off + n ≤ a.length ∧ b = a.take off ++ x ++ a.drop (off + n)
theorem Upd.whole {n : Nat} {x a : List Value} (ha : a.length = n) : Upd 0 n x a x := ⟨by omega, by simp [← ha]⟩
theorem Upd.inl {off n : Nat} {x a a' ys : List Value} (h : Upd off n x a a') : Upd off n x (a ++ ys) (a' ++ ys) := by
 obtain ⟨h1, h2⟩ := h
 refine ⟨by simp; omega, ?_⟩
 rw [h2, List.take_append_of_le_length (by omega), List.drop_append_of_le_length (by omega)]
 simp
theorem Upd.inr {off n : Nat} {x a b b' : List Value} (ho : a.length ≤ off) (h : Upd (off - a.length) n x b b') : Upd off n x (a ++ b) (a ++ b') := by
 obtain ⟨h1, h2⟩ := h
 refine ⟨by simp; omega, ?_⟩
 have e1 : a.drop (off + n) = [] := List.drop_of_length_le (by omega)
 rw [h2, List.take_append, List.take_of_length_le ho, List.drop_append, e1, show off + n - a.length = off - a.length + n by omega]
 simp
theorem kindB {a b : Nat} (h : Nat.beq a b = true) : a = b := Nat.eq_of_beq_eq_true h
theorem AV.upd_spec : ∀ (a : AV) {off n : Nat} {x b : AV}, AV.upd off n x a = some b → x.size = n → Upd off n x.cells a.cells b.cells ∧ (a.one = true → x.one = true → b.one = true) := by
 intro a
 induction a with
 | v y | ptr p | sl p len cap | mp m b | gs m ix a es i0 len cap | fn f c _ =>
  intro off n x b h hx
  simp only [AV.upd] at h
  split at h
  ·
   rename_i hc
   cases h
   simp only [Bool.and_eq_true] at hc
   obtain ⟨⟨ho, hn⟩, _⟩ := hc
   have ho := kindB ho; have hn := kindB hn
   subst ho
   refine ⟨?_, fun _ h => h⟩
   rw [hn]
   exact Upd.whole rfl
  ·
   cases h
 | nil => intro off n x b h; cases h
 | tup l _ => intro off n x b h; cases h
 | ints k m l =>
  intro off n x b h hx
  simp only [AV.upd] at h
  split at h
  ·
   rename_i k' i
   split at h
   ·
    rename_i hc
    cases h
    simp only [Bool.and_eq_true] at hc
    obtain ⟨⟨hk, ho⟩, hn⟩ := hc
    have hk := kindEq_eq hk; have ho := blt_lt ho; have hn := kindB hn
    subst hk hn
    refine ⟨⟨by rw [AV.size_cells]; exact ho, ?_⟩, fun _ _ => rfl⟩
    apply List.ext_getElem?
    intro j
    show ((List.range m).map fun j => Value.int k ((lset m l off i).getD j 0))[j]? = (((List.range m).map fun j => Value.int k (l.getD j 0)).take off ++ [Value.int k i] ++ ((List.range m).map fun j => Value.int k (l.getD j 0)).drop (off + 1))[j]?
    rw [List.append_assoc, List.getElem?_append]
    simp only [List.length_take, List.length_map, List.length_range, Nat.min_eq_left (Nat.le_of_lt ho)]
    by_cases hj : j < m
    ·
     rw [List.getElem?_map, List.getElem?_range hj, Option.map_some, lset_get m l off i hj]
     by_cases h1 : j < off
     ·
      rw [if_neg (by omega), if_pos h1, List.getElem?_take_of_lt h1, List.getElem?_map, List.getElem?_range hj]; rfl
     ·
      rw [if_neg h1]
      by_cases h2 : j = off
      ·
       subst h2; simp
      ·
       rw [if_neg h2, List.getElem?_append_right (by simp; omega), List.getElem?_drop]
       simp only [List.length_singleton]
       rw [show off + 1 + (j - off - 1) = j by omega, List.getElem?_map, List.getElem?_range hj]; rfl
    ·
     rw [List.getElem?_eq_none (by simp; omega), if_neg (by omega), List.getElem?_append_right (by simp; omega), List.getElem?_drop, List.getElem?_eq_none (by simp; omega)]
   ·
    cases h
  ·
   split at h
   ·
    rename_i hc
    cases h
    simp only [Bool.and_eq_true] at hc
    obtain ⟨⟨ho, hn⟩, _⟩ := hc
    have ho := kindB ho; have hn := kindB hn
    subst ho
    refine ⟨?_, fun _ h => h⟩
    rw [hn]; exact Upd.whole (by rw [AV.size_cells]; rfl)
   ·
    cases h
 | cons a b iha ihb =>
  intro off n x c h hx
  simp only [AV.upd] at h
  split at h
  ·
   split at h
   ·
    rename_i a' ha
    cases h
    obtain ⟨h1, h2⟩ := iha ha hx
    refine ⟨h1.inl, fun ho hxo => ?_⟩
    simp only [AV.one, Bool.and_eq_true] at ho ⊢
    exact ⟨h2 ho.1 hxo, ho.2⟩
   ·
    cases h
  ·
   rename_i j hc
   split at h
   ·
    rename_i b' hb
    cases h
    obtain ⟨h1, h2⟩ := ihb hb hx
    have h3 := a.eat_some hc
    rw [← AV.size_cells] at h3
    rw [show j = off - a.cells.length by omega] at h1
    refine ⟨h1.inr (show a.cells.length ≤ off by omega), fun ho hxo => ?_⟩
    simp only [AV.one, Bool.and_eq_true] at ho ⊢
    exact ⟨ho.1, h2 ho.2 hxo⟩
   ·
    cases h
 | agg l ih =>
  intro off n x b h hx
  simp only [AV.upd] at h
  split at h
  ·
   rename_i hc
   cases h
   simp only [Bool.and_eq_true] at hc
   obtain ⟨⟨ho, hn⟩, _⟩ := hc
   have ho := kindB ho; have hn := AV.isSize_eq hn
   subst ho
   refine ⟨?_, fun _ h => h⟩
   rw [← hn]; exact Upd.whole (by rw [AV.cells_agg, AV.size_cells])
  ·
   split at h
   ·
    rename_i l' hl
    cases h
    exact ⟨(ih hl hx).1, fun ho hxo => (ih hl hx).2 ho hxo⟩
   ·
    cases h
def AV.fitV (x : AV) : Bool := x.one && (x.isAgg || x.plain)
theorem AV.valCells {x : AV} (h : x.fitV = true) : x.val.cells = x.cells.toArray := by
 simp only [AV.fitV, Bool.and_eq_true, Bool.or_eq_true] at h
 rcases h.2 with h2 | h2
 ·
  rw [AV.val_of_cells h2]; rfl
 ·
  have h1 := AV.cells_plain h2
  have h3 := x.one_cells h.1 x.val (by rw [h1]; simp)
  rw [h1]
  cases hv : x.val <;> first | rfl | (rw [hv] at h3; cases h3)
theorem foldl_cells (off : Nat) : ∀ (vs : List Value) (i : Nat) (cs : List Value), off + i + vs.length ≤ cs.length →
  (vs.zipIdx i).foldl (fun (cs : Array Value) (p : Value × Nat) => cs.setIfInBounds (off + p.2) p.1) cs.toArray = (cs.take (off + i) ++ vs ++ cs.drop (off + i + vs.length)).toArray
 | [], i, cs, h => by simp
 | v :: vs, i, cs, h => by
  have hl : off + i < cs.length := by simp at h; omega
  rw [List.zipIdx_cons, List.foldl_cons]
  simp only [List.setIfInBounds_toArray]
  rw [foldl_cells off vs (i + 1) (cs.set (off + i) v) (by simp at h ⊢; omega)]
  congr 1
  apply List.ext_getElem?
  intro k
  simp only [List.getElem?_append, List.length_append, List.length_take, List.length_set, List.length_cons, List.getElem?_take, List.getElem?_drop, List.getElem?_set]
  simp only [List.length_cons] at h
  by_cases h1 : k < off + i
  ·
   simp [h1, show k < off + (i + 1) by omega, show off + i ≠ k by omega, show min (off + (i + 1)) cs.length = off + (i + 1) by omega, show min (off + i) cs.length = off + i by omega, show k < off + (i + 1) + vs.length by omega, show k < off + i + (vs.length + 1) by omega]
  ·
   by_cases h2 : k = off + i
   ·
    subst h2
    simp [hl, show min (off + (i + 1)) cs.length = off + (i + 1) by omega, show min (off + i) cs.length = off + i by omega, show off + i < off + (i + 1) + vs.length by omega, show off + i < off + (i + 1) by omega]
   ·
    by_cases h3 : k < off + (i + 1) + vs.length
    ·
     rw [show min (off + (i + 1)) cs.length = off + (i + 1) by omega, show min (off + i) cs.length = off + i by omega, if_pos h3, if_neg (by omega), if_pos (by omega), if_neg h1]
     rw [show k - (off + i) = (k - (off + (i + 1))) + 1 by omega, List.getElem?_cons_succ]
    ·
     rw [show min (off + (i + 1)) cs.length = off + (i + 1) by omega, show min (off + i) cs.length = off + i by omega, if_neg h3, if_neg (by omega)]
     rw [if_neg (by omega)]
     congr 1
     omega
def updParts (place : Nat → Option (Nat × Nat)) : AV → List (Nat × AV) → Option AV
 | z, [] => some z
 | z, (i, x) :: rest => match place i with
  | none => none
  | some (o, n) => match x.isSize n && x.fitV, AV.upd o n x z with
   | true, some z' => updParts place z' rest
   | _, _ => none
theorem updParts_spec (place : Nat → Option (Nat × Nat)) : ∀ (parts : List (Nat × AV)) (z z' : AV), updParts place z parts = some z' →
  Instr.fill place z.cells.toArray (parts.map fun p => (p.1, p.2.val)) = some z'.cells.toArray ∧ (z.one = true → z'.one = true)
 | [], z, z', h => by cases h; exact ⟨rfl, id⟩
 | (i, x) :: rest, z, z', h => by
  simp only [updParts] at h
  split at h
  ·
   cases h
  ·
   rename_i o n hp
   split at h
   ·
    rename_i z1 hx hu
    simp only [Bool.and_eq_true] at hx
    obtain ⟨hn, hf⟩ := hx
    have hn := AV.isSize_eq hn
    obtain ⟨⟨h1, h2⟩, h3⟩ := AV.upd_spec z hu hn
    obtain ⟨h4, h5⟩ := updParts_spec place rest z1 z' h
    have hxo : x.one = true := by simp only [AV.fitV, Bool.and_eq_true] at hf; exact hf.1
    refine ⟨?_, fun ho => h5 (h3 ho hxo)⟩
    simp only [List.map_cons, Instr.fill, hp]
    have hs : x.val.cells.size = n := by rw [AV.valCells hf]; simp [AV.size_cells, hn]
    rw [if_neg (by simp only [hs]; simp; omega), ← h4]
    congr 1
    rw [AV.valCells hf]
    have := foldl_cells o x.cells 0 z.cells (by rw [AV.size_cells x, hn]; omega)
    simp only [Nat.add_zero] at this
    rw [h2, ← hn, ← AV.size_cells x]
    rw [← Array.foldl_toList]
    simpa [Array.toList_zipIdx] using this
   ·
    cases h
def allPos : List (Nat × Nat × TypeId) → Bool
 | [] => true
 | (_, n, _) :: r => Nat.blt 0 n && allPos r
def placesOf (fs : List (Nat × Nat × TypeId)) (i : Nat) : Option (Nat × Nat) := match nth fs i with
 | some (o, n, _) => some (o, n)
 | none => none
def buildV (tb : Tbl) (t : TypeId) (parts : List (Nat × AV)) : Option AV := match tb.get t with
 | none => none
 | some r => match r.zero.fitV, r.d with
  | true, .st fs => match allPos fs with
   | true => updParts (placesOf fs) r.zero parts
   | false => none
  | true, .arr _ e => match tb.get e with
   | some re => updParts (fun i => some (i * re.size, re.size)) r.zero parts
   | none => none
  | _, _ => none
theorem mapM_places {P : Program} : ∀ (gs : List Field) (fs : List (Nat × Nat × TypeId)), gs.map (fun f => (f.offset, P.cellsOf f.type, f.type)) = fs → allPos fs = true →
  gs.mapM (fun f => (P.info? f.type).map fun i => (f.offset, i.size)) = some (fs.map fun f => (f.1, f.2.1))
 | [], fs, h, _ => by subst h; rfl
 | g :: gs, fs, h, hp => by
  subst h
  simp only [List.map_cons, allPos, Bool.and_eq_true] at hp
  have hg := blt_lt hp.1
  rw [List.mapM_cons, mapM_places gs _ rfl hp.2]
  unfold Program.cellsOf at hg ⊢
  cases hi : P.info? g.type with
  | none => simp [hi] at hg
  | some i => simp [hi]
theorem buildV_run {P : Program} {tb : Tbl} (hb : TblOk P tb) {t : TypeId} {parts : List (Nat × AV)} {z : AV} (h : buildV tb t parts = some z) (hz : z.isAgg = true) (w : World) :
  (Instr.build t (parts.map fun p => (p.1, p.2.val)).toArray).run P w = .ok z.val w := by
 unfold buildV at h
 split at h
 ·
  cases h
 ·
  rename_i r hr
  have hro := hb.get hr
  obtain ⟨d, hd, hv⟩ := hro.under
  obtain ⟨i, hi, hi1, hi2, hi3⟩ := hro.info
  rw [AV.val_of_cells hz]
  apply run_build
  unfold Program.built
  simp only [hi, hd]
  split at h
  ·
   rename_i fs hf he
   rw [he] at hv
   obtain ⟨gs, rfl, hgs⟩ := viewD_st hv
   split at h
   ·
    rename_i hp
    simp only [mapM_places _ _ hgs hp]
    obtain ⟨h4, _⟩ := updParts_spec _ _ _ _ h
    rw [← h4]
    simp only [hi3, AV.valCells hf]
    congr 1
    funext j
    simp only [placesOf, nth_eq, List.getElem?_toArray, List.getElem?_map]
    cases fs[j]? <;> rfl
   ·
    cases h
  ·
   rename_i n e hf he
   rw [he] at hv
   rw [viewD_arr hv]
   split at h
   ·
    rename_i re hre
    obtain ⟨ie, hie, hie1, _, _⟩ := (hb.get hre).info
    simp only [hie]
    obtain ⟨h4, _⟩ := updParts_spec _ _ _ _ h
    rw [← h4]
    simp [hi3, AV.valCells hf, hie1]
   ·
    cases h
  ·
   cases h
def opds (tm : TmF) (g : Option Bool) : List (Nat × Operand) → Option (Prop × List (Nat × AV))
 | [] => some (True, [])
 | (i, x) :: r => match opd tm x, opds tm g r with
  | some (none, av), some (p, l) => some (p, (i, av) :: l)
  | some (c, av), some (p, l) => some (need g c ∧ p, (i, av) :: l)
  | _, _ => none
theorem opds_sound {N : Nat} {tm : TmF} {a : Act} (hT : SatT N tm a) {g : Option Bool} (hg : holdsG g) : ∀ {l : List (Nat × Operand)} {p : Prop} {r : List (Nat × AV)}, opds tm g l = some (p, r) → p →
  l.map (fun x => (x.1, a.eval x.2)) = r.map fun x => (x.1, x.2.val)
 | [], p, r, h, hp => by cases h; rfl
 | (i, x) :: l, p, r, h, hp => by
  simp only [opds] at h
  split at h
  ·
   rename_i av q l' hx hl
   cases h
   rw [List.map_cons, List.map_cons, opd_sound hT hx (g := g) (by cases g <;> trivial) hg, opds_sound hT hg hl hp]
  ·
   rename_i c av q l' hx hl
   cases h
   rw [List.map_cons, List.map_cons, opd_sound hT hx hp.1 hg, opds_sound hT hg hl hp.2]
  ·
   cases h
def needIf (g : Option Bool) (bc want : Bool) : Option Bool → Prop
 | none => True
 | some c => imp g (bc = want → c = true)
def pickV (bc : Bool) (ao bo : Operand) (a b : AV) : Option AV :=
 match ao, bo with
 | .const (.bool true), _ => match b with
  | .v (.bool y) => some (.v (.bool (bc || y)))
  | _ => none
 | _, .const (.bool false) => match a with
  | .v (.bool x) => some (.v (.bool (bc && x)))
  | _ => none
 | _, _ => match a, b with
  | .v (.bool x), .v (.bool y) => some (.v (.bool (bif bc then x else y)))
  | .v (.int k x), .v (.int k' y) => match kindEq k k' with
   | true => some (.v (.int k (bif bc then x else y)))
   | false => none
  | _, _ => none
def AV.chainOk (s : Nat) : Nat → AV → Bool
 | 0, .nil => true
 | n + 1, .cons a r => a.isSize s && a.one && r.chainOk s n
 | _, _ => false
def AV.nthA : Nat → AV → AV
 | 0, .cons a _ => a
 | n + 1, .cons _ r => r.nthA n
 | _, _ => .nil
def AV.rep (z : AV) : Nat → AV
 | 0 => .nil
 | n + 1 => .cons z (z.rep n)
def bnd (tm : TmF) (g : Option Bool) : Option Operand → Option (Prop × Option Int)
 | none => some (True, none)
 | some x => match opd tm x with
  | some (c, .v (.int _ n)) => some (need g c, some n)
  | _ => none
def bounds (lo hi mx : Option Int) (len cap : Nat) : Option (Prop × Nat × Nat × Nat) :=
 match hi, mx with
 | none, some _ => none
 | hi, mx =>
  let m := match mx with | some v => v.toNat | none => cap
  let pm := match mx with | some v => 0 ≤ v ∧ v ≤ cap | none => True
  let h := match hi with | some v => v.toNat | none => len
  let ph := match hi with | some v => 0 ≤ v ∧ v ≤ m | none => True
  let l := match lo with | some v => v.toNat | none => 0
  let pl := match lo with | some v => 0 ≤ v ∧ v ≤ h | none => True
  some (pm ∧ ph ∧ pl, l, h, m)
def cutOff (lo : Option Int) (m l : Nat) : Nat := match lo with
 | none => 0
 | some _ => if m = l then 0 else l
structure Res : Type 1 where
 β : Type
 ok : Prop
 can : β → Prop
 out : β → AV
 tags : List Nat
 mem : β → List Blk
structure Env : Type 1 where
 tb : Tbl
 eqs : List TypeId
 ct : FuncId → List AV → MemF → Option (Prop × AV)
 cr : FuncId → Nat → List AV → MemF → Option Res
def vals (l : List (Nat × AV)) : List AV := l.map (·.2)
def lenV (d : TD) : AV → Option Int
 | .sl _ len _ | .gs _ _ _ _ _ len _ => match d with
  | .sl _ => some len
  | _ => none
 | .v (.slice _ n _) => match d with
  | .sl _ => some n
  | _ => none
 | .v (.string s) => match d with
  | .str => some s.size
  | _ => none
 | .v (.map none) => match d with
  | .map .. => some 0
  | _ => none
 | _ => match d with
  | .arr n _ => some n
  | _ => none
def lenM (M : MemF) (d : TD) : AV → Option (Prop × Int)
 | .mp n b => match d, M n with
  | .map .., some (.mp _ b' l _) => some (b' = b, l.length)
  | _, _ => none
 | av => match lenV d av with
  | some n => some (True, n)
  | none => none
def capV (d : TD) : AV → Option Int
 | .sl _ _ cap | .gs _ _ _ _ _ _ cap => match d with
  | .sl _ => some cap
  | _ => none
 | .v (.slice _ _ c) => match d with
  | .sl _ => some c
  | _ => none
 | _ => none
def gsAt (M : MemF) (n ix : Nat) (a : Option (Nat × Nat)) (i : Nat) : Option Prop := match M n with
 | some (.vrow a' _ _ len' _ _) => some (a = ownB a' ∧ i < len')
 | some (.vro _ base len' _) => some (a = base ix ∧ i < len' ix)
 | _ => none
def qeval (E : Env) (M : MemF) (tm : TmF) (g : Option Bool) (tag : Nat) : Op → Option R
 | .move x | .assign x => match opd tm x with
  | some (c, av) => some (.val (need g c) av)
  | none => none
 | .pick c a b => match opd tm c, opd tm a, opd tm b with
  | some (cc, .v (.bool bc)), some (ca, av), some (cb, bv) => match pickV bc a b av bv with
   | some r => some (.val (need g cc ∧ needIf g bc true ca ∧ needIf g bc false cb) r)
   | none => match a, b with
    | .const (.bool true), _ => some (.val (need g cc ∧ imp g (bc = true)) (.v (.bool true)))
    | _, .const (.bool false) => some (.val (need g cc ∧ imp g (bc = false)) (.v (.bool false)))
    | _, _ => none
  | _, _, _ => none
 | .alloc t => match E.tb.get t with
  | some r => match r.zero.fitV && r.zero.isSize r.size with
   | true => some (.new True (fun b => .ptr ⟨tag, 0, b, 0, r.size, 0, 0, 0, false⟩) (fun b => .row b t r.size 1 (fun _ => r.zero) 1))
   | false => none
  | none => none
 | .box t x => match opd tm x, E.tb.get t with
  | some (c, av), some r => match av.fitV && av.isSize r.size with
   | true => some (.new (need g c) (fun b => .ptr ⟨tag, 0, b, 0, r.size, 0, 0, 0, false⟩) (fun b => .row b t r.size 1 (fun _ => av) 1))
   | false => none
  | _, _ => none
 | .build t parts => match opds tm g parts.toList with
  | some (p, l) => match buildV E.tb t l with
   | some z => match z.isAgg with
    | true => some (.val p z)
    | false => none
   | none => none
  | none => none
 | .buildSlice t n parts => match opds tm g parts.toList, E.tb.get t with
  | some (p, l), some r => match r.d with
   | .sl e => match E.tb.get e with
    | some re => match re.zero.fitV && Nat.blt 0 re.size && Nat.ble (n * re.size) 65536 && re.zero.isSize re.size, updParts (fun i => some (i * re.size, re.size)) (re.zero.rep n) l with
     | true, some z => match z.chainOk re.size n with
      | true => some (.new p (fun b => .gs tag 0 (ownB (some b)) re.size 0 n n) (fun b => .vrow (some b) e re.size n (fun i => z.nthA i) n))
      | false => none
     | _, _ => none
    | none => none
   | _ => none
  | _, _ => none
 | .makeMap _ none => some (.new True (fun b => .mp tag b) (fun b => .mp true b [] 0))
 | .makeMap t (some x) => match opd tm x, E.tb.get t with
  | some (c, .v (.int _ _)), some r => match r.d with
   | .map .. => some (.new (need g c) (fun b => .mp tag b) (fun b => .mp true b [] 0))
   | _ => none
  | _, _ => none
 | .load t x => match opd tm x, E.tb.get t with
  | some (c, .ptr p), some r => match loadV M r p with
   | some (q, s) => some (.val (need g c ∧ imp g q) s)
   | none => none
  | _, _ => none
 | .nilCheck x => match opd tm x with
  | some (c, .ptr p) => some (.val (need g c) (.ptr p))
  | _ => none
 | .binOp op t x y _ => match opd tm x, opd tm y, E.tb.get t with
  | some (cx, a), some (cy, b), some r => match a.isAgg && b.isAgg with
   | true => match eqT E.tb E.eqs 64 t a b, memN E.eqs t, op with
    | some q, true, .eql => some (.val (need g cx ∧ need g cy) (.v (.bool q)))
    | some q, true, .neq => some (.val (need g cx ∧ need g cy) (.v (.bool !q)))
    | _, _, _ => none
   | false => match binV op r.d a b with
    | some (q, v) => some (.val (need g cx ∧ need g cy ∧ imp g q) (.v v))
    | none => none
  | _, _, _ => none
 | .unOp op _ x => match opd tm x with
  | some (c, .v (.bool b)) => match op with
   | .not => some (.val (need g c) (.v (.bool !b)))
   | _ => none
  | some (c, .v (.int k n)) => match op with
   | .neg => some (.val (need g c) (.v (.int k (k.wrap (0 - n)))))
   | .xor => some (.val (need g c) (.v (.int k (k.wrap (BitVec.ofInt k.bits (if k.signed then -1 else k.max) ^^^ BitVec.ofInt k.bits n).toNat))))
   | _ => none
  | _ => none
 | .convert src dst x => match opd tm x, E.tb.get src, E.tb.get dst with
  | some (c, .v (.int _ n)), some _, some r => match r.d with
   | .int k => some (.val (need g c) (.v (.int k (k.wrap n))))
   | _ => none
  | _, _, _ => none
 | .makeFunc (.func f) first caps => match first.toList, opds tm g (caps.toList.map fun x => (0, x)) with
  | [], some (p, l) => some (.val p (.fn f ((vals l).foldr .cons .nil)))
  | _, _ => none
 | .fieldAddr s x f => match opd tm x, fieldOf E.tb s f with
  | some (c, .ptr ⟨n, ix, b, o0, es, idx, off, j, lf⟩), some (o, sz, _) => match Nat.blt 0 sz with
   | true => some (.val (need g c) (.ptr ⟨n, ix, b, o0, es, idx, off + o, j, lf⟩))
   | false => none
  | _, _ => none
 | .field s x f => match opd tm x, fieldOf E.tb s f with
  | some (c, av), some (o, sz, ft) => match E.tb.get ft, av.isAgg with
   | some r, true => match Nat.beq r.size sz, av.sub r.d.isAgg o sz with
    | true, some s => some (.val (need g c) s)
    | _, _ => none
   | _, _ => none
  | _, _ => none
 | .indexAddr t x i => match opd tm x, opd tm i, E.tb.get t with
  | some (c, .sl ⟨n, ix, b, o0, es, idx, off, j, lf⟩ len _), some (ci, .v (.int _ k)), some r => match r.d with
   | .sl e => match E.tb.get e, lf with
    | some re, true => match Nat.beq re.size 1 with
     | true => some (.val (need g c ∧ need g ci ∧ imp g (0 ≤ k ∧ k < len)) (.ptr ⟨n, ix, b, o0, es, idx, off, j + k.toNat, true⟩))
     | false => none
    | some re, false => some (.val (need g c ∧ need g ci ∧ imp g (0 ≤ k ∧ k < len) ∧ es = re.size) (.ptr ⟨n, ix, b, o0, es, idx + k.toNat, off, j, false⟩))
    | none, _ => none
   | _ => none
  | some (c, .gs n ix a es i0 len _), some (ci, .v (.int _ k)), some r => match r.d with
   | .sl e => match E.tb.get e, gsAt M n ix a (k.toNat + i0) with
    | some re, some q => some (.val (need g c ∧ need g ci ∧ imp g ((0 ≤ k ∧ k < len) ∧ q) ∧ es = re.size) (.ptr ⟨n, ix, (gsB a).1, (gsB a).2, es, k.toNat + i0, 0, 0, false⟩))
    | _, _ => none
   | _ => none
  | some (c, .ptr ⟨n, ix, b, o0, es, idx, off, j, lf⟩), some (ci, .v (.int _ k)), some r => match r.d with
   | .arr m e => match E.tb.get e with
    | some re => match Nat.blt 1 m, re.d, i with
     | true, .int _, _ => match Nat.beq re.size 1 with
      | true => some (.val (need g c ∧ need g ci ∧ imp g (0 ≤ k ∧ k < m)) (.ptr ⟨n, ix, b, o0, es, idx, off, j + k.toNat, true⟩))
      | false => none
     | true, _, .const (.int _ k') => some (.val (need g c ∧ need g ci ∧ imp g (0 ≤ k ∧ k < m) ∧ k = k') (.ptr ⟨n, ix, b, o0, es, idx, off + k'.toNat * re.size, j, lf⟩))
     | _, _, _ => none
    | none => none
   | _ => none
  | _, _, _ => none
 | .index t x i => match opd tm x, opd tm i, E.tb.get t with
  | some (c, .ints k m l), some (ci, .v (.int _ n)), some r => match r.d with
   | .arr m' e => match E.tb.get e with
    | some re => match re.d with
     | .int k' => match kindEq k k' && Nat.beq m m' && Nat.beq re.size 1 with
      | true => some (.val (need g c ∧ need g ci ∧ imp g (0 ≤ n ∧ n < m)) (.v (.int k (l.getD n.toNat 0))))
      | false => none
     | _ => none
    | none => none
   | _ => none
  | some (c, .agg l), some (ci, .v (.int _ (Int.ofNat n))), some r => match r.d with
   | .arr m e => match E.tb.get e with
    | some re => match (AV.agg l).sub re.d.isAgg (n * re.size) re.size with
     | some s => some (.val (need g c ∧ need g ci ∧ n < m) s)
     | none => none
    | none => none
   | _ => none
  | some (c, .v (.string s)), some (ci, .v (.int _ n)), some r => match r.d with
   | .str => some (.val (need g c ∧ need g ci ∧ imp g (0 ≤ n ∧ n < s.size)) (.v (.int .u8 (s.data.toList.getD n.toNat 0).toNat)))
   | _ => none
  | _, _, _ => none
 | .slice t x lo hi mx => match opd tm x, E.tb.get t, bnd tm g lo, bnd tm g hi, bnd tm g mx with
  | some (c, .sl ⟨n, ix, b, o0, es, idx, off, j, lf⟩ len cap), some r, some (cl, lo), some (ch, hi), some (cm, mx) => match r.d, bounds lo hi mx len cap with
   | .sl e, some (p, l, h, m) => match E.tb.get e, lf with
    | some re, true => match Nat.beq re.size 1 with
     | true => some (.val (need g c ∧ cl ∧ ch ∧ cm ∧ imp g p) (.sl ⟨n, ix, b, o0, es, idx, off, j + cutOff lo m l, true⟩ (h - l) (m - l)))
     | false => none
    | some re, false => some (.val (need g c ∧ cl ∧ ch ∧ cm ∧ imp g p ∧ es = re.size) (.sl ⟨n, ix, b, o0, es, idx + cutOff lo m l, off, j, false⟩ (h - l) (m - l)))
    | none, _ => none
   | _, _ => none
  | some (c, .gs n ix a es i0 len cap), some r, some (cl, lo), some (ch, hi), some (cm, mx) => match r.d, bounds lo hi mx len cap with
   | .sl e, some (p, l, h, m) => match E.tb.get e with
    | some re => some (.val (need g c ∧ cl ∧ ch ∧ cm ∧ imp g p ∧ es = re.size) (.gs n ix a es (cutOff lo m l + i0) (h - l) (m - l)))
    | none => none
   | _, _ => none
  | some (c, .v (.string s)), some r, some (cl, lo), some (ch, hi), some (_, none) => match r.d, bounds lo hi none s.size s.size with
   | .str, some (p, l, h, _) => some (.val (need g c ∧ cl ∧ ch ∧ imp g p) (.v (.string (s.extract l h))))
   | _, _ => none
  | some (c, .ptr ⟨n, ix, b, o0, es, idx, off, j, _⟩), some r, some (cl, lo), some (ch, hi), some (cm, mx) => match r.d with
   | .arr k e => match E.tb.get e, bounds lo hi mx k k with
    | some re, some (p, l, h, m) => match Nat.beq re.size 1 with
     | true => some (.val (need g c ∧ cl ∧ ch ∧ cm ∧ imp g p) (.sl ⟨n, ix, b, o0, es, idx, off, j + cutOff lo m l, true⟩ (h - l) (m - l)))
     | false => none
    | _, _ => none
   | _ => none
  | _, _, _, _, _ => none
 | .extract x i => match opd tm x with
  | some (c, .tup l) => match i, l with
   | 0, .cons a _ => some (.val (need g c) a)
   | 1, .cons _ (.cons b _) => some (.val (need g c) b)
   | 2, .cons _ (.cons _ (.cons d _)) => some (.val (need g c) d)
   | _, _ => none
  | _ => none
 | .call { callee := .builtin .len, args, argTypes } => match args.toList, argTypes.toList with
  | [x], [t] => match opd tm x, E.tb.get t with
   | some (c, av), some r => match lenM M r.d av with
    | some (q, n) => some (.val (need g c ∧ imp g q) (.v (.int .i64 n)))
    | none => none
   | _, _ => none
  | _, _ => none
 | .call { callee := .builtin .cap, args, argTypes } => match args.toList, argTypes.toList with
  | [x], [t] => match opd tm x, E.tb.get t with
   | some (c, av), some r => match capV r.d av with
    | some n => some (.val (need g c) (.v (.int .i64 n)))
    | none => none
   | _, _ => none
  | _, _ => none
 | .call { callee := .value (.tmp t), args, .. } => match tm t, opds tm g (args.toList.map fun x => (0, x)) with
  | some (c, .fn f caps), some (p, l) => match E.ct f (vals l ++ caps.toL) M with
   | some (q, a) => some (.val (need g c ∧ p ∧ imp g q) a)
   | none => none
  | _, _ => none
 | .call { callee := .value (.func f), args, .. } => match opds tm g (args.toList.map fun x => (0, x)) with
  | some (p, l) => match E.ct f (vals l) M with
   | some (q, a) => some (.val (p ∧ imp g q) a)
   | none => none
  | none => none
 | _ => none
def CtOk (P : Program) (O : Nat → Prop) (w0 : World) (ct : FuncId → List AV → MemF → Option (Prop × AV)) : Prop :=
 ∀ f args M q res, ct f args M = some (q, res) → q → ∀ w, Sat O w0 M w → ∀ (o : Oper) (a : Act) (next : Act → World → Prop) (Q : Exit → Act → World → Prop),
  (∀ w', Below w.heap.size w w' → next (a.put o.dst res.val) w') → o.upon P a next Q ((callFunc f (args.map AV.val).toArray).run P w)
theorem wp_val {P : Program} {o : Oper} {a : Act} {w : World} {next : Act → World → Prop} {Q : Exit → Act → World → Prop} {v : Value} (h : (execOp a.eval o).run P w = .ok (.value v) w) (hk : next (a.put o.dst v) w) :
  o.wp P a w next Q := by
 unfold Oper.wp; rw [h]; exact hk
section
variable {P : Program} {E : Env} {O : Nat → Prop} {w0 : World} {N : Nat} {M : MemF} {tm : TmF} {g : Option Bool} {tag : Nat} {a : Act} {w : World} {o : Oper} {r : R} {next : Act → World → Prop} {Q : Exit → Act → World → Prop}
theorem opd_s (hT : SatT N tm a) {x : Operand} {c : Option Bool} {av : AV} (h : opd tm x = some (c, av)) (hn : need g c) (hg : holdsG g) : a.eval x = av.val := opd_sound hT h hn hg
theorem opd_if (hT : SatT N tm a) {x : Operand} {c : Option Bool} {av : AV} (h : opd tm x = some (c, av)) (hn : ∀ b, c = some b → b = true) : a.eval x = av.val := by
 refine opd_sound hT h (g := none) ?_ trivial
 cases c with
 | none => trivial
 | some b => exact hn b rfl
theorem needIf_elim {bc want : Bool} {c : Option Bool} (h : needIf g bc want c) (hg : holdsG g) (hb : bc = want) : ∀ b, c = some b → b = true := by
 intro b hb'
 subst hb'
 exact imp_elim h hg hb
theorem q_pickB {c x y : Operand} {cc : Option Bool} {bc : Bool} (ho : o.op = .pick c x y) (hT : SatT N tm a) (hg : holdsG g) (h1 : opd tm c = some (cc, .v (.bool bc))) (hn : need g cc) :
  (execOp a.eval o).run P w = .ok (.value (if bc = true then a.eval x else a.eval y)) w := by
 unfold execOp
 rw [ho]
 simp only [opd_s hT h1 hn hg, AV.val_v]
 have hbool : (asBool (.bool bc)).run P w = .ok bc w := rfl
 rw [Sem.run_bind, hbool, Result.andThen_ok]
 rfl
theorem q_pick {c x y : Operand} {ca cb cc : Option Bool} {av bv res : AV} {bc : Bool} (ho : o.op = .pick c x y) (hT : SatT N tm a) (hg : holdsG g) (h1 : opd tm c = some (cc, .v (.bool bc))) (h2 : opd tm x = some (ca, av)) (h3 : opd tm y = some (cb, bv))
  (hp : pickV bc x y av bv = some res) (hn : need g cc) (hx : needIf g bc true ca) (hy : needIf g bc false cb) : (execOp a.eval o).run P w = .ok (.value res.val) w := by
 unfold execOp
 rw [ho]
 simp only [opd_s hT h1 hn hg, AV.val_v]
 have hbool : (asBool (.bool bc)).run P w = .ok bc w := rfl
 rw [Sem.run_bind, hbool, Result.andThen_ok]
 show Result.ok (Next.value (if bc = true then a.eval x else a.eval y)) w = _
 congr 2
 have e1 : bc = true → a.eval x = av.val := fun h => opd_if hT h2 (needIf_elim hx hg h)
 have e2 : bc = false → a.eval y = bv.val := fun h => opd_if hT h3 (needIf_elim hy hg h)
 unfold pickV at hp
 split at hp
 ·
  split at hp
  ·
   cases hp
   cases hb : bc
   ·
    simp only [Bool.false_eq_true, if_false, e2 hb]; rfl
   ·
    simp; rfl
  ·
   cases hp
 ·
  split at hp
  ·
   cases hp
   cases hb : bc
   ·
    simp; rfl
   ·
    simp only [if_true, e1 hb]; rfl
  ·
   cases hp
 ·
  split at hp
  ·
   cases hp
   cases hb : bc
   ·
    simp only [Bool.false_eq_true, if_false, e2 hb]; rfl
   ·
    simp only [if_true, e1 hb]; rfl
  ·
   split at hp
   ·
    rename_i hk
    cases hp
    have hk := kindEq_eq hk
    cases hb : bc
    ·
     simp only [Bool.false_eq_true, if_false, e2 hb, hk]; rfl
    ·
     simp only [if_true, e1 hb]; rfl
   ·
    cases hp
  ·
   cases hp
theorem wp_new {v : Nat → Value} {c : Array Value} {T : TypeId} (h : (execOp a.eval o).run P w = .ok (.value (v w.heap.size)) (w.alloc (.cells c T)))
  {res : Nat → AV} {B : Nat → Blk} {q : Prop} (hv : ∀ b, (res b).val = v b) (hB : ∀ b, ∃ es len f cap, (B b = .row b T es len f cap ∨ B b = .vrow (some b) T es len f cap) ∧ c.size = cap * es ∧ len ≤ cap ∧ ∀ i, i < len → (f i).size = es ∧ (f i).one = true ∧ ∀ k, k < es → c[i * es + k]? = (f i).cells[k]?)
  (hk : ∀ b w', Below w.heap.size w w' → (R.new q res B).laid w w' b → next (a.put o.dst ((R.new q res B).out b).val) w') : o.wp P a w next Q := by
 unfold Oper.wp; rw [h]
 have := hk w.heap.size (w.alloc (.cells c T)) ((Below.refl _ _).alloc (Nat.le_refl _) _) ?_
 ·
  show next (a.put o.dst (v w.heap.size)) _
  rw [← hv]; exact this
 ·
  obtain ⟨es, len, f, cap, h1, h2, h3, h4⟩ := hB w.heap.size
  have hr : RowHolds (w.alloc (.cells c T)) w.heap.size T es len f cap := by
   refine ⟨c, ?_, h2, h3, h4⟩
   show (w.heap.push (.cells c T))[w.heap.size]? = _
   simp
  rcases h1 with h1 | h1
  ·
   exact ⟨fun k hk => by rw [h1] at hk; cases hk; exact Nat.le_refl _, fun k hk => by rw [h1] at hk; exact hk, by rw [h1]; exact hr⟩
  ·
   exact ⟨fun k hk => by rw [h1] at hk; cases hk; exact Nat.le_refl _, fun k hk => by rw [h1] at hk; exact hk, by rw [h1]; exact hr⟩
theorem fitV_one {x : AV} (h : x.fitV = true) : x.one = true := by
 simp only [AV.fitV, Bool.and_eq_true] at h; exact h.1
theorem row1 {x : AV} (hx : x.fitV = true) (T : TypeId) (b : Nat) : ∃ es len f cap, ((Blk.row b T x.size 1 (fun _ => x) 1) = .row b T es len f cap ∨ (Blk.row b T x.size 1 (fun _ => x) 1) = .vrow (some b) T es len f cap) ∧ x.cells.toArray.size = cap * es ∧ len ≤ cap ∧ ∀ i, i < len → (f i).size = es ∧ (f i).one = true ∧ ∀ k, k < es → x.cells.toArray[i * es + k]? = (f i).cells[k]? := by
 refine ⟨_, _, _, _, .inl rfl, by simp [AV.size_cells], Nat.le_refl _, ?_⟩
 intro i hi
 have : i = 0 := by omega
 subst this
 exact ⟨rfl, fitV_one hx, fun k _ => by simp⟩
theorem chain_get : ∀ {s n : Nat} {z : AV}, z.chainOk s n = true → z.cells.length = n * s ∧ ∀ i, i < n → (z.nthA i).size = s ∧ (z.nthA i).one = true ∧ ∀ k, k < s → z.cells[i * s + k]? = (z.nthA i).cells[k]?
 | s, 0, z, h => by
  cases z <;> first | (simp [AV.chainOk] at h; done) | exact ⟨by simp, fun i hi => by omega⟩
 | s, n + 1, z, h => by
  cases z <;> try (simp [AV.chainOk] at h; done)
  rename_i x r
  simp only [AV.chainOk, Bool.and_eq_true] at h
  obtain ⟨⟨h1, h2⟩, h3⟩ := h
  have h1 := AV.isSize_eq h1
  obtain ⟨h4, h5⟩ := chain_get h3
  refine ⟨by rw [AV.cells_cons, List.length_append, AV.size_cells, h4, h1, Nat.succ_mul]; omega, ?_⟩
  intro i hi
  cases i with
  | zero =>
   refine ⟨h1, h2, fun k hk => ?_⟩
   rw [AV.cells_cons, Nat.zero_mul, Nat.zero_add, List.getElem?_append_left (by rw [AV.size_cells]; omega)]; rfl
  | succ i =>
   obtain ⟨h6, h7, h8⟩ := h5 i (by omega)
   refine ⟨h6, h7, fun k hk => ?_⟩
   rw [AV.cells_cons, List.getElem?_append_right (by rw [AV.size_cells, h1, Nat.succ_mul]; omega), AV.size_cells, h1, show (i + 1) * s + k - s = i * s + k by rw [Nat.succ_mul]; omega]
   exact h8 k hk
theorem rep_cells (z : AV) : ∀ n, (z.rep n).cells.length = n * z.size ∧ ∀ k, k < n * z.size → (z.rep n).cells[k]? = z.cells[k % z.size]?
 | 0 => ⟨by simp [AV.rep], fun k hk => by omega⟩
 | n + 1 => by
  obtain ⟨h1, h2⟩ := rep_cells z n
  refine ⟨by simp only [AV.rep, AV.cells_cons, List.length_append, AV.size_cells, Nat.succ_mul] at *; omega, ?_⟩
  intro k hk
  rw [Nat.succ_mul] at hk
  simp only [AV.rep, AV.cells_cons]
  by_cases hlt : k < z.size
  ·
   rw [List.getElem?_append_left (by rw [AV.size_cells]; exact hlt), Nat.mod_eq_of_lt hlt]
  ·
   rw [List.getElem?_append_right (by rw [AV.size_cells]; omega), AV.size_cells, h2 _ (by omega)]
   congr 1
   exact (Nat.mod_eq_sub_mod (by omega)).symm
end
section
variable {P : Program} {E : Env} {O : Nat → Prop} {w0 : World} {N : Nat} {M : MemF} {tm : TmF} {g : Option Bool} {tag : Nat} {a : Act} {w : World} {o : Oper} {r : R} {next : Act → World → Prop} {Q : Exit → Act → World → Prop}
theorem fieldOf_spec (hb : TblOk P E.tb) {s f ofs sz : Nat} {ft : TypeId} (h : fieldOf E.tb s f = some (ofs, sz, ft)) :
  ∃ gs : Array Field, P.underlying s = some (.struct gs) ∧ ∃ fd, gs[f]? = some fd ∧ fd.offset = ofs ∧ P.cellsOf fd.type = sz ∧ fd.type = ft := by
 unfold fieldOf at h
 split at h
 ·
  rename_i r hr
  obtain ⟨d, hd, hv⟩ := (hb.get hr).under
  split at h
  ·
   rename_i fs he
   rw [he] at hv
   obtain ⟨gs, rfl, hgs⟩ := viewD_st hv
   refine ⟨gs, hd, ?_⟩
   rw [nth_eq, ← hgs, List.getElem?_map] at h
   cases hq : gs.toList[f]? with
   | none => rw [hq] at h; cases h
   | some fd =>
    rw [hq] at h
    simp only [Option.map_some, Option.some.injEq, Prod.mk.injEq] at h
    exact ⟨fd, by simpa using hq, h.1, h.2.1, h.2.2⟩
  ·
   cases h
 ·
  cases h
theorem run_fieldAt (hb : TblOk P E.tb) {s f ofs sz : Nat} {ft : TypeId} (h : fieldOf E.tb s f = some (ofs, sz, ft)) (hp : Nat.blt 0 sz = true) (b c : Nat) (w : World) :
  (Instr.fieldAt s (.pointer (some ⟨b, c, none⟩)) f).run P w = .ok (.pointer (some ⟨b, c + ofs, none⟩)) w := by
 obtain ⟨gs, hu, fd, hf, h1, h2, h3⟩ := fieldOf_spec hb h
 have hp := blt_lt hp
 have hs : (sizeOf fd.type).run P w = .ok sz w := by
  unfold Program.cellsOf at h2
  cases hi : P.info? fd.type with
  | none => simp [hi] at h2; omega
  | some i => simp [hi] at h2; simp [sizeOf, typeInfo, hi, h2]
 unfold Instr.fieldAt
 rw [Sem.run_bind, run_underlying hu, Result.andThen_ok]
 simp only [hf, Sem.run_bind, Instr.sureAddr, Sem.run_pure, Result.andThen_ok, fieldPlace, hs, h1, Addr.add_none]
 rw [if_neg (by omega)]
 rfl
theorem qs_move {x : Operand} (h : qeval E M tm g tag (.move x) = some r) (ho : o.op = .move x ∨ o.op = .assign x) (hc : r.cond) (hT : SatT N tm a) (hg : holdsG g) (hk : ∀ b w', Below w.heap.size w w' → r.laid w w' b → next (a.put o.dst (r.out b).val) w') : o.wp P a w next Q := by
 simp only [qeval] at h
 split at h
 ·
  rename_i c av hx
  cases h
  refine wp_val (v := a.eval x) ?_ ?_
  ·
   unfold execOp; rcases ho with ho | ho <;> rw [ho] <;> rfl
  ·
   rw [opd_s hT hx hc hg]; exact hk 0 w (Below.refl _ _) trivial
 ·
  cases h
theorem qs_alloc (hb : TblOk P E.tb) {t : TypeId} (h : qeval E M tm g tag (.alloc t) = some r) (ho : o.op = .alloc t) (hk : ∀ b w', Below w.heap.size w w' → r.laid w w' b → next (a.put o.dst (r.out b).val) w') : o.wp P a w next Q := by
 simp only [qeval] at h
 split at h
 ·
  rename_i ro hr
  split at h
  ·
   rename_i hf
   cases h
   obtain ⟨hf, hsz⟩ := (Bool.and_eq_true _ _ ▸ hf : _ ∧ _)
   have hsz := AV.isSize_eq hsz
   rw [← hsz] at hk
   refine wp_new (v := fun b => .pointer (some ⟨b, 0, none⟩)) (c := ro.zero.cells.toArray) (T := t) ?_ (fun b => ?_) (fun b => row1 hf t b) hk
   ·
    unfold execOp
    rw [ho]
    simp only [Instr.alloc, Sem.run_bind, (hb.get hr).run_zero, Result.andThen_ok, newVar, newRow, Sem.run_pure, run_newObj, AV.valCells hf]
    rfl
   ·
    simp [AV.val, AV.den, Pt.addr, Pt.cell]
  ·
   cases h
 ·
  cases h
theorem qs_box {t : TypeId} {x : Operand} (h : qeval E M tm g tag (.box t x) = some r) (ho : o.op = .box t x) (hc : r.cond) (hT : SatT N tm a) (hg : holdsG g) (hk : ∀ b w', Below w.heap.size w w' → r.laid w w' b → next (a.put o.dst (r.out b).val) w') : o.wp P a w next Q := by
 simp only [qeval] at h
 split at h
 ·
  rename_i c av ro hx hr
  split at h
  ·
   rename_i hf
   cases h
   obtain ⟨hf, hsz⟩ := (Bool.and_eq_true _ _ ▸ hf : _ ∧ _)
   have hsz := AV.isSize_eq hsz
   rw [← hsz] at hk
   refine wp_new (v := fun b => .pointer (some ⟨b, 0, none⟩)) (c := av.cells.toArray) (T := t) ?_ (fun b => ?_) (fun b => row1 hf t b) hk
   ·
    unfold execOp
    rw [ho]
    simp only [Instr.box, Sem.run_bind, newVar, newRow, Sem.run_pure, run_newObj, Result.andThen_ok, opd_s hT hx hc hg, AV.valCells hf]
    rfl
   ·
    simp [AV.val, AV.den, Pt.addr, Pt.cell]
  ·
   cases h
 ·
  cases h
theorem parts_eq (hT : SatT N tm a) (hg : holdsG g) {parts : Array (Nat × Operand)} {p : Prop} {l : List (Nat × AV)} (h : opds tm g parts.toList = some (p, l)) (hp : p) :
  (parts.map fun (x : Nat × Operand) => (x.1, a.eval x.2)) = (l.map fun x => (x.1, x.2.val)).toArray := by
 apply Array.ext'
 rw [Array.toList_map]
 exact opds_sound hT hg h hp
theorem qs_build (hb : TblOk P E.tb) {t : TypeId} {parts : Array (Nat × Operand)} (h : qeval E M tm g tag (.build t parts) = some r) (ho : o.op = .build t parts) (hc : r.cond) (hT : SatT N tm a) (hg : holdsG g) (hk : ∀ b w', Below w.heap.size w w' → r.laid w w' b → next (a.put o.dst (r.out b).val) w') : o.wp P a w next Q := by
 simp only [qeval] at h
 split at h
 ·
  rename_i p l hl
  split at h
  ·
   rename_i z hz
   split at h
   ·
    rename_i hag
    cases h
    refine wp_val (v := z.val) ?_ (hk 0 w (Below.refl _ _) trivial)
    unfold execOp
    rw [ho]
    simp only [Sem.run_bind]
    have := buildV_run hb hz hag w
    rw [← parts_eq hT hg hl hc] at this
    rw [this]; rfl
   ·
    cases h
  ·
   cases h
 ·
  cases h
theorem qs_buildSlice (hb : TblOk P E.tb) {t : TypeId} {n : Nat} {parts : Array (Nat × Operand)} (h : qeval E M tm g tag (.buildSlice t n parts) = some r) (ho : o.op = .buildSlice t n parts) (hc : r.cond) (hT : SatT N tm a) (hg : holdsG g) (hk : ∀ b w', Below w.heap.size w w' → r.laid w w' b → next (a.put o.dst (r.out b).val) w') : o.wp P a w next Q := by
 simp only [qeval] at h
 split at h
 ·
  rename_i p l ro hl hr
  split at h
  ·
   rename_i e he
   split at h
   ·
    rename_i re hre
    split at h
    ·
     rename_i z hq hu
     split at h
     ·
      rename_i hch
      cases h
      simp only [Bool.and_eq_true] at hq
      obtain ⟨⟨⟨hfit, hpos⟩, hsz⟩, hzs⟩ := hq
      have hzs := AV.isSize_eq hzs
      have hpos := blt_lt hpos
      have hsz := Nat.le_of_ble_eq_true hsz
      obtain ⟨h1, h2⟩ := chain_get hch
      refine wp_new (v := fun b => .slice (some ⟨b, 0, none⟩) n n) (c := z.cells.toArray) (T := e) ?_ (fun b => ?_) (fun b => ⟨_, _, _, _, .inr rfl, by simp [h1], Nat.le_refl _, fun i hi => ?_⟩) hk
      ·
       obtain ⟨d, hd, hv⟩ := (hb.get hr).under
       rw [he] at hv
       rw [viewD_sl hv] at hd
       obtain ⟨hf1, _⟩ := updParts_spec _ _ _ _ hu
       obtain ⟨hrep1, hrep2⟩ := rep_cells re.zero n
       have hzc : re.zero.val.cells = re.zero.cells.toArray := AV.valCells hfit
       have hz0 : n ≠ 0 → ((Array.range (n * re.size)).map (re.zero.val.cells[· % re.zero.val.cells.size]!)) = (re.zero.rep n).cells.toArray := by
        intro hn
        apply Array.ext'
        rw [Array.toList_map, Array.toList_range, hzc]
        apply List.ext_getElem?
        intro k
        rw [List.getElem?_map]
        by_cases hk : k < n * re.size
        ·
         rw [List.getElem?_range hk, Option.map_some]
         show _ = (re.zero.rep n).cells[k]?
         rw [hrep2 k (by rw [hzs]; exact hk)]
         have hm : k % re.zero.size < re.zero.cells.length := by rw [AV.size_cells]; exact Nat.mod_lt _ (by omega)
         rw [List.getElem?_eq_getElem hm]
         simp only [List.size_toArray, AV.size_cells]
         congr 1
         rw [getElem!_pos _ _ (by simpa [AV.size_cells] using hm)]
         simp
        ·
         rw [List.getElem?_eq_none (by simp; omega)]
         show _ = (re.zero.rep n).cells[k]?
         rw [List.getElem?_eq_none (by rw [hrep1, hzs]; omega)]
         rfl
       have hpe := parts_eq hT hg hl hc
       unfold execOp
       rw [ho]
       simp only [Sem.run_bind, Instr.buildSlice, run_underlying hd, Result.andThen_ok, (hb.get hre).run_sizeOf]
       rw [if_neg (by omega)]
       have hcells : Instr.fill (fun i => some (i * re.size, re.size)) (re.zero.rep n).cells.toArray (parts.map fun (x : Nat × Operand) => (x.1, a.eval x.2)).toList = some z.cells.toArray := by
        rw [hpe]; exact hf1
       by_cases hn : n = 0
       ·
        subst hn
        have e0 : (Array.map (fun x => (#[] : Array Value)[x % (#[] : Array Value).size]!) (Array.range 0)) = (re.zero.rep 0).cells.toArray := by simp [AV.rep]
        simp only [Nat.zero_mul, if_true, Sem.run_bind, Sem.run_pure, Result.andThen_ok]
        rw [e0, hcells]
        simp only [newRow, Sem.run_bind, run_newObj, Result.andThen_ok, Sem.run_pure]
        rfl
       ·
        rw [if_neg (by have := Nat.mul_pos (Nat.pos_of_ne_zero hn) hpos; omega)]
        simp only [Sem.run_bind, (hb.get hre).run_zero, Result.andThen_ok, Sem.run_pure]
        rw [hz0 hn, hcells]
        simp only [newRow, Sem.run_bind, run_newObj, Result.andThen_ok, Sem.run_pure]
        rfl
      ·
       simp [gs_val, ownB]
      ·
       obtain ⟨h3, h4, h5⟩ := h2 i hi
       exact ⟨h3, h4, fun k hk => by rw [← h5 k hk]; simp⟩
     ·
      cases h
    ·
     cases h
   ·
    cases h
  ·
   cases h
 ·
  cases h
end
end Go.Proofs.YtofophjfgalhaaaGreatDoor.V
