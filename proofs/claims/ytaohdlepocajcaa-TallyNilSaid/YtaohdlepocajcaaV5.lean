import Derived.Test.YtaohdlepocajcaaV4
/-! One operation that changes nothing of what was there: its evaluator. -/
namespace Go.Proofs.Ytaohdlepocajcaa.V
open Go Go.RowKit

def nth {α : Type} : List α → Nat → Option α
  | [], _ => none
  | x :: r, n => match n with
    | 0 => some x
    | n + 1 => nth r n
theorem nth_eq {α : Type} : ∀ (l : List α) (n : Nat), nth l n = l[n]?
  | [], _ => rfl
  | x :: r, 0 => rfl
  | x :: r, n + 1 => by rw [nth, nth_eq r n]; rfl

def fieldOf (tb : Tbl) (t : TypeId) (f : Nat) : Option (Nat × Nat × TypeId) := match tb.get t with
  | some r => match r.d with
    | .st fs => nth fs f
    | _ => none
  | none => none

/-- the array of integers that begins at off -/
def AV.leaf (off : Nat) : AV → Option (IntKind × Nat × List Int)
  | .cons a b => match Nat.blt off a.size with
    | true => a.leaf off
    | false => b.leaf (off - a.size)
  | .agg l => l.leaf off
  | .ints k m l => match Nat.beq off 0 with
    | true => some (k, m, l)
    | false => none
  | _ => none

theorem AV.leaf_spec : ∀ (a : AV) {off : Nat} {k : IntKind} {m : Nat} {l : List Int}, a.leaf off = some (k, m, l) → Part off m a.cells (.ints k m l) := by
  intro a
  induction a with
  | v x | ptr p | sl p len cap | mp m b | gs m ix a es i0 len cap | fn f c _ | nil | tup l _ => intro off k m l h; cases h
  | ints k m l =>
    intro off k' m' l' h
    simp only [AV.leaf] at h
    split at h
    · rename_i ho
      cases h
      rw [Nat.eq_of_beq_eq_true ho]
      exact Part.whole (.ints k m l)
    · cases h
  | cons a b iha ihb =>
    intro off k m l h
    simp only [AV.leaf] at h
    split at h
    · exact (iha h).inl
    · rename_i hc
      have : a.size ≤ off := blt_le hc
      have h1 := ihb h
      rw [← AV.size_cells] at h1 this
      exact h1.inr this
  | agg l ih =>
    intro off k m l' h
    exact ih h

/-- where the row of a slice begins -/
def gsB (a : Option (Nat × Nat)) : Nat × Nat := a.getD (0, 0)
def ownB (a : Option Nat) : Option (Nat × Nat) := a.map fun b => (b, 0)
theorem RowHolds.cell {w : World} {b T es len cap : Nat} {f : Nat → AV} (h : RowHolds w b T es len f cap) {i k : Nat} (hi : i < len) (hk : k < es) : w.cell? ⟨b, i * es + k, none⟩ = (f i).cells[k]? := by
  obtain ⟨cs, h1, h2, h3, h4⟩ := h
  rw [← (h4 i hi).2.2 k hk]
  unfold World.cell?
  simp [h1]
theorem RowHolds.at {w : World} {b T es len cap : Nat} {f : Nat → AV} (h : RowHolds w b T es len f cap) {i : Nat} (hi : i < len) : (f i).size = es ∧ (f i).one = true := by
  obtain ⟨cs, h1, h2, h3, h4⟩ := h
  exact ⟨(h4 i hi).1, (h4 i hi).2.1⟩

/-- the element idx of what the tag stands for, and what must hold for the place to lie there -/
def elemAt (M : MemF) (p : Pt) : Option (Prop × AV) := match M p.n with
  | some (.row b _ es len f _) => some (p.b = b ∧ p.o0 = 0 ∧ p.es = es ∧ p.idx < len, f p.idx)
  | some (.vrow a _ es len f _) => some ((p.b, p.o0) = gsB (ownB a) ∧ p.es = es ∧ p.idx < len, f p.idx)
  | some (.vro es base len f) => some ((p.b, p.o0) = gsB (base p.ix) ∧ p.es = es ∧ p.idx < len p.ix, f p.ix p.idx)
  | some (.var b x) => some (p.b = b ∧ p.o0 = 0 ∧ p.idx = 0, x)
  | _ => none

theorem vrow_some {w : World} {a : Option Nat} {T es len cap : Nat} {f : Nat → AV} (h : (Blk.vrow a T es len f cap).holds w) {i : Nat} (hi : i < len) : ∃ b, a = some b ∧ RowHolds w b T es len f cap := by
  cases a with
  | none => have := h.1; omega
  | some b => exact ⟨b, rfl, h⟩

theorem elemAt_spec {O : Nat → Prop} {w0 w : World} {M : MemF} (hS : Sat O w0 M w) {p : Pt} {c : Prop} {e : AV} (h : elemAt M p = some (c, e)) (hc : c) :
    ∀ k, k < e.size → w.cell? ⟨p.b, p.o0 + p.idx * p.es + k, none⟩ = e.cells[k]? := by
  unfold elemAt at h
  split at h
  · rename_i b T es len f cap hg
    cases h
    obtain ⟨rfl, h0, rfl, hi⟩ := hc
    have hr : RowHolds w _ _ _ _ _ _ := hS.holds _ _ hg
    intro k hk
    rw [h0, Nat.zero_add]
    exact hr.cell hi (by rw [(hr.at hi).1] at hk; exact hk)
  · rename_i a T es len f cap hg
    cases h
    obtain ⟨h0, rfl, hi⟩ := hc
    obtain ⟨b, rfl, hr⟩ := vrow_some (hS.holds _ _ hg) hi
    have e1 : p.b = b := congrArg Prod.fst h0
    have e2 : p.o0 = 0 := congrArg Prod.snd h0
    intro k hk
    rw [e1, e2, Nat.zero_add]
    exact hr.cell hi (by rw [(hr.at hi).1] at hk; exact hk)
  · rename_i es base len f hg
    cases h
    obtain ⟨h0, rfl, hi⟩ := hc
    have h4 := hS.holds _ _ hg
    obtain ⟨h5, h6⟩ := h4 p.ix
    cases hb : base p.ix with
    | none => have := h5 hb; omega
    | some x =>
      obtain ⟨b, o⟩ := x
      rw [hb] at h0
      have e1 : p.b = b := congrArg Prod.fst h0
      have e2 : p.o0 = o := congrArg Prod.snd h0
      obtain ⟨h7, _, h8⟩ := h6 b o hb _ hi
      intro k hk
      rw [e1, e2]
      exact h8 k (by omega)
  · rename_i b x hg
    cases h
    obtain ⟨rfl, h0, h1⟩ := hc
    obtain ⟨_, _, h2⟩ := hS.holds _ _ hg
    intro k hk
    rw [h0, h1, Nat.zero_mul]
    simpa using h2 k hk
  · cases h

theorem elemAt_one {O : Nat → Prop} {w0 w : World} {M : MemF} (hS : Sat O w0 M w) {p : Pt} {c : Prop} {e : AV} (h : elemAt M p = some (c, e)) (hc : c) : e.one = true := by
  unfold elemAt at h
  split at h
  · rename_i hg
    cases h
    have hr : RowHolds w _ _ _ _ _ _ := hS.holds _ _ hg
    exact (hr.at hc.2.2.2).2
  · rename_i hg
    cases h
    obtain ⟨b, _, hr⟩ := vrow_some (hS.holds _ _ hg) hc.2.2
    exact (hr.at hc.2.2).2
  · rename_i es base len f hg
    cases h
    have h4 := hS.holds _ _ hg
    obtain ⟨h5, h6⟩ := h4 p.ix
    cases hb : base p.ix with
    | none => have := h5 hb; have := hc.2.2; omega
    | some x => exact (h6 x.1 x.2 hb _ hc.2.2).2.1
  · rename_i hg
    cases h
    exact (hS.holds _ _ hg).2.1
  · cases h

/-- a load of type t (its row r) at p -/
def loadV (M : MemF) (r : TRow) (p : Pt) : Option (Prop × AV) := match elemAt M p with
  | none => none
  | some (c, e) => match p.lf with
    | true => match e.leaf p.off, r.d, Nat.beq r.size 1 with
      | some (k, m, l), .int k', true => match kindEq k k' with
        | true => some (c ∧ p.j < m, .v (.int k (l.getD p.j 0)))
        | false => none
      | _, _, _ => none
    | false => match e.sub r.d.isAgg p.off r.size with
      | some s => some (c ∧ p.j = 0, s)
      | none => none

theorem ints_get (k : IntKind) (m : Nat) (l : List Int) {j : Nat} (h : j < m) : (AV.ints k m l).cells[j]? = some (.int k (l.getD j 0)) := by
  show ((List.range m).map _)[j]? = _
  rw [List.getElem?_map, List.getElem?_range h]; rfl

theorem loadV_run {P : Program} {O : Nat → Prop} {w0 w : World} {M : MemF} (hS : Sat O w0 M w) {t : TypeId} {r : TRow} (hr : RowOk P t r) {p : Pt} {c : Prop} {s : AV} (h : loadV M r p = some (c, s)) (hc : c) :
    (loadVar t p.addr).run P w = .ok s.val w := by
  unfold loadV at h
  split at h
  · cases h
  · rename_i c0 e he
    split at h
    · split at h
      · rename_i k m l k' hl hd hs
        split at h
        · rename_i hk
          cases h
          obtain ⟨hc, hj⟩ := hc
          have hcell := elemAt_spec hS he hc
          have hp := AV.leaf_spec e hl
          refine run_loadVar_part hr (s := .v (.int k (l.getD p.j 0))) rfl (Nat.eq_of_beq_eq_true hs).symm (by rw [hd]; rfl) ?_
          intro i hi
          have hi0 : i = 0 := by have : i < 1 := hi; omega
          subst hi0
          have hle : p.off + m ≤ e.cells.length := hp.2.1
          rw [AV.size_cells] at hle
          have := hcell (p.off + p.j) (by omega)
          rw [getElem?_part hp hj, ints_get k m l hj] at this
          show w.cell? ⟨p.b, p.cell + 0, none⟩ = _
          rw [show p.cell + 0 = p.o0 + p.idx * p.es + (p.off + p.j) by unfold Pt.cell; omega, this]
          rfl
        · cases h
      · cases h
    · split at h
      · rename_i s' hs
        cases h
        obtain ⟨hc, hj⟩ := hc
        have hcell := elemAt_spec hS he hc
        obtain ⟨hp, hk⟩ := AV.sub_spec e hs
        refine run_loadVar_part hr rfl hp.1 hk ?_
        intro i hi
        have hle : p.off + r.size ≤ e.cells.length := hp.2.1
        rw [AV.size_cells] at hle
        have hi' : i < r.size := by rw [← hp.1]; exact hi
        have := hcell (p.off + i) (by omega)
        rw [getElem?_part hp hi'] at this
        show w.cell? ⟨p.b, p.cell + i, none⟩ = _
        rw [show p.cell + i = p.o0 + p.idx * p.es + (p.off + i) by unfold Pt.cell; omega, this]
      · cases h

/-! #### parts replaced -/
def lset (n : Nat) (l : List Int) (i : Nat) (x : Int) : List Int := (List.range n).map fun j => if j = i then x else l.getD j 0
theorem lset_get (n : Nat) (l : List Int) (i : Nat) (x : Int) {j : Nat} (h : j < n) : (lset n l i x).getD j 0 = if j = i then x else l.getD j 0 := by
  unfold lset
  rw [List.getD_eq_getElem?_getD, List.getElem?_map, List.getElem?_range h]; rfl

def AV.upd (off n : Nat) (x : AV) : AV → Option AV
  | .cons a b => match Nat.blt off a.size with
    | true => match AV.upd off n x a with
      | some a' => some (.cons a' b)
      | none => none
    | false => match AV.upd (off - a.size) n x b with
      | some b' => some (.cons a b')
      | none => none
  | .agg l => match Nat.beq off 0 && Nat.beq n l.size && x.isAgg with
    | true => some x
    | false => match AV.upd off n x l with
      | some l' => some (.agg l')
      | none => none
  | .ints k m l => match x with
    | .v (.int k' i) => match kindEq k k' && Nat.blt off m && Nat.beq n 1 with
      | true => some (.ints k m (lset m l off i))
      | false => none
    | x => match Nat.beq off 0 && Nat.beq n m && x.isAgg with
      | true => some x
      | false => none
  | .nil => none
  | .tup _ => none
  | _ => match Nat.beq off 0 && Nat.beq n 1 && x.plain with
    | true => some x
    | false => none

/-- b's cells are a's but for n cells from off on, which are x's -/
def Upd (off n : Nat) (x a b : List Value) : Prop := off + n ≤ a.length ∧ b = a.take off ++ x ++ a.drop (off + n)

theorem Upd.whole {n : Nat} {x a : List Value} (ha : a.length = n) : Upd 0 n x a x := ⟨by omega, by simp [← ha]⟩
theorem Upd.inl {off n : Nat} {x a a' ys : List Value} (h : Upd off n x a a') : Upd off n x (a ++ ys) (a' ++ ys) := by
  obtain ⟨h1, h2⟩ := h
  refine ⟨by simp; omega, ?_⟩
  rw [h2, List.take_append_of_le_length (by omega), List.drop_append_of_le_length (by omega)]
  simp
theorem Upd.inr {off n : Nat} {x a b b' : List Value} (ho : a.length ≤ off) (h : Upd (off - a.length) n x b b') : Upd off n x (a ++ b) (a ++ b') := by
  obtain ⟨h1, h2⟩ := h
  refine ⟨by simp; omega, ?_⟩
  have e1 : a.drop (off + n) = [] := List.drop_of_length_le (by omega)
  rw [h2, List.take_append, List.take_of_length_le ho, List.drop_append, e1, show off + n - a.length = off - a.length + n by omega]
  simp

theorem kindB {a b : Nat} (h : Nat.beq a b = true) : a = b := Nat.eq_of_beq_eq_true h

theorem AV.upd_spec : ∀ (a : AV) {off n : Nat} {x b : AV}, AV.upd off n x a = some b → x.size = n → Upd off n x.cells a.cells b.cells ∧ (a.one = true → x.one = true → b.one = true) := by
  intro a
  induction a with
  | v y | ptr p | sl p len cap | mp m b | gs m ix a es i0 len cap | fn f c _ =>
    intro off n x b h hx
    simp only [AV.upd] at h
    split at h
    · rename_i hc
      cases h
      simp only [Bool.and_eq_true] at hc
      obtain ⟨⟨ho, hn⟩, _⟩ := hc
      have ho := kindB ho; have hn := kindB hn
      subst ho
      refine ⟨?_, fun _ h => h⟩
      rw [hn]
      exact Upd.whole rfl
    · cases h
  | nil => intro off n x b h; cases h
  | tup l _ => intro off n x b h; cases h
  | ints k m l =>
    intro off n x b h hx
    simp only [AV.upd] at h
    split at h
    · rename_i k' i
      split at h
      · rename_i hc
        cases h
        simp only [Bool.and_eq_true] at hc
        obtain ⟨⟨hk, ho⟩, hn⟩ := hc
        have hk := kindEq_eq hk; have ho := blt_lt ho; have hn := kindB hn
        subst hk hn
        refine ⟨⟨by rw [AV.size_cells]; exact ho, ?_⟩, fun _ _ => rfl⟩
        apply List.ext_getElem?
        intro j
        show ((List.range m).map fun j => Value.int k ((lset m l off i).getD j 0))[j]? = (((List.range m).map fun j => Value.int k (l.getD j 0)).take off ++ [Value.int k i] ++ ((List.range m).map fun j => Value.int k (l.getD j 0)).drop (off + 1))[j]?
        rw [List.append_assoc, List.getElem?_append]
        simp only [List.length_take, List.length_map, List.length_range, Nat.min_eq_left (Nat.le_of_lt ho)]
        by_cases hj : j < m
        · rw [List.getElem?_map, List.getElem?_range hj, Option.map_some, lset_get m l off i hj]
          by_cases h1 : j < off
          · rw [if_neg (by omega), if_pos h1, List.getElem?_take_of_lt h1, List.getElem?_map, List.getElem?_range hj]; rfl
          · rw [if_neg h1]
            by_cases h2 : j = off
            · subst h2; simp
            · rw [if_neg h2, List.getElem?_append_right (by simp; omega), List.getElem?_drop]
              simp only [List.length_singleton]
              rw [show off + 1 + (j - off - 1) = j by omega, List.getElem?_map, List.getElem?_range hj]; rfl
        · rw [List.getElem?_eq_none (by simp; omega), if_neg (by omega), List.getElem?_append_right (by simp; omega), List.getElem?_drop, List.getElem?_eq_none (by simp; omega)]
      · cases h
    · split at h
      · rename_i hc
        cases h
        simp only [Bool.and_eq_true] at hc
        obtain ⟨⟨ho, hn⟩, _⟩ := hc
        have ho := kindB ho; have hn := kindB hn
        subst ho
        refine ⟨?_, fun _ h => h⟩
        rw [hn]; exact Upd.whole (by rw [AV.size_cells]; rfl)
      · cases h
  | cons a b iha ihb =>
    intro off n x c h hx
    simp only [AV.upd] at h
    split at h
    · split at h
      · rename_i a' ha
        cases h
        obtain ⟨h1, h2⟩ := iha ha hx
        refine ⟨h1.inl, fun ho hxo => ?_⟩
        simp only [AV.one, Bool.and_eq_true] at ho ⊢
        exact ⟨h2 ho.1 hxo, ho.2⟩
      · cases h
    · rename_i hc
      split at h
      · rename_i b' hb
        cases h
        obtain ⟨h1, h2⟩ := ihb hb hx
        have : a.size ≤ off := blt_le hc
        rw [← AV.size_cells] at h1 this
        refine ⟨h1.inr this, fun ho hxo => ?_⟩
        simp only [AV.one, Bool.and_eq_true] at ho ⊢
        exact ⟨ho.1, h2 ho.2 hxo⟩
      · cases h
  | agg l ih =>
    intro off n x b h hx
    simp only [AV.upd] at h
    split at h
    · rename_i hc
      cases h
      simp only [Bool.and_eq_true] at hc
      obtain ⟨⟨ho, hn⟩, _⟩ := hc
      have ho := kindB ho; have hn := kindB hn
      subst ho
      refine ⟨?_, fun _ h => h⟩
      rw [hn]; exact Upd.whole (by rw [AV.cells_agg, AV.size_cells])
    · split at h
      · rename_i l' hl
        cases h
        exact ⟨(ih hl hx).1, fun ho hxo => (ih hl hx).2 ho hxo⟩
      · cases h

end Go.Proofs.Ytaohdlepocajcaa.V
