import Derived.WalkKit
import Derived.Orders
import Derived.Laws.Rows
/-! Abstract values, abstract memory, and what they say of a world. (Own work: a small verification-condition generator over the model; no word of the kit is copied.) -/
namespace Go.Proofs.Ytaohdlepocajcaa.V
open Go

/-- A place: element idx of the row that begins at (b, o0) and whose elements have es cells; in it the cell off; from there on j. n (and ix) are the tag by which the memory is asked; lf: j counts the elements of an array of integers. -/
structure Pt where
  n : Nat
  ix : Nat
  b : Nat
  o0 : Nat
  es : Nat
  idx : Nat
  off : Nat
  j : Nat
  lf : Bool

def Pt.cell (p : Pt) : Nat := p.o0 + p.idx * p.es + p.off + p.j
def Pt.addr (p : Pt) : Addr := ⟨p.b, p.cell, none⟩

inductive AV where
  | v (x : Value)
  | ptr (p : Pt)
  | sl (p : Pt) (len cap : Nat)
  | mp (n b : Nat)
  /-- a slice of a row: tag n (and ix), the row's begin a (none: no row), es cells an element, its first element number i0 -/
  | gs (n ix : Nat) (a : Option (Nat × Nat)) (es i0 len cap : Nat)
  | ints (k : IntKind) (n : Nat) (l : List Int)
  | nil
  | cons (a b : AV)
  | agg (l : AV)
  | tup (l : AV)
  | fn (f : FuncId) (caps : AV)
  deriving Inhabited

/-- the cells, the value, the values of the parts -/
def AV.den : AV → List Value × Value × List Value
  | .v x => ([x], x, [])
  | .ptr p => ([.pointer (some p.addr)], .pointer (some p.addr), [])
  | .sl p len cap => ([.slice (some p.addr) len cap], .slice (some p.addr) len cap, [])
  | .mp _ b => ([.map (some b)], .map (some b), [])
  | .gs _ _ a es i0 len cap => ([.slice (a.map fun p => ⟨p.1, p.2 + i0 * es, none⟩) len cap], .slice (a.map fun p => ⟨p.1, p.2 + i0 * es, none⟩) len cap, [])
  | .ints k n l => ((List.range n).map fun j => .int k (l.getD j 0), .agg ((List.range n).map fun j => Value.int k (l.getD j 0)).toArray, [])
  | .nil => ([], undef, [])
  | .cons a b => (a.den.1 ++ b.den.1, undef, a.den.2.1 :: b.den.2.2)
  | .agg l => (l.den.1, .agg l.den.1.toArray, [])
  | .tup l => ([], .tuple l.den.2.2.toArray, [])
  | .fn f c => ([.func (.func f) #[] c.den.2.2.toArray], .func (.func f) #[] c.den.2.2.toArray, [])

def AV.cells (a : AV) : List Value := a.den.1
def AV.val (a : AV) : Value := a.den.2.1
def AV.vals (a : AV) : List Value := a.den.2.2

@[simp] theorem AV.cells_v (x : Value) : (AV.v x).cells = [x] := rfl
@[simp] theorem AV.cells_nil : AV.nil.cells = [] := rfl
@[simp] theorem AV.cells_cons (a b : AV) : (AV.cons a b).cells = a.cells ++ b.cells := rfl
@[simp] theorem AV.cells_agg (l : AV) : (AV.agg l).cells = l.cells := rfl
@[simp] theorem AV.val_v (x : Value) : (AV.v x).val = x := rfl
@[simp] theorem AV.val_agg (l : AV) : (AV.agg l).val = .agg l.cells.toArray := rfl
@[simp] theorem AV.vals_nil : AV.nil.vals = [] := rfl
@[simp] theorem AV.vals_cons (a b : AV) : (AV.cons a b).vals = a.val :: b.vals := rfl

def AV.size : AV → Nat
  | .ints _ n _ => n
  | .nil => 0
  | .cons a b => a.size + b.size
  | .agg l => l.size
  | .tup _ => 0
  | _ => 1

/-- each single cell is one cell, and no part is a tuple -/
def AV.one : AV → Bool
  | .v x => x.oneCell'
  | .cons a b => a.one && b.one
  | .agg l => l.one
  | .nil => true
  | .tup _ => false
  | _ => true

def AV.isAgg : AV → Bool
  | .agg _ => true
  | .ints .. => true
  | _ => false

theorem AV.size_cells : ∀ a : AV, a.cells.length = a.size
  | .v _ | .ptr _ | .sl .. | .mp .. | .gs .. | .fn .. => rfl
  | .ints k n l => by show ((List.range n).map _).length = n; simp
  | .nil => rfl
  | .tup l => rfl
  | .cons a b => by rw [AV.cells_cons, List.length_append, a.size_cells, b.size_cells]; rfl
  | .agg l => l.size_cells

theorem AV.one_cells : ∀ a : AV, a.one = true → ∀ x ∈ a.cells, x.oneCell' = true
  | .v x, h, y, hy => by simp at hy; subst hy; exact h
  | .ptr _, _, y, hy | .sl .., _, y, hy | .mp .., _, y, hy | .gs .., _, y, hy | .fn .., _, y, hy => by
    have : y = _ := List.mem_singleton.1 hy
    subst this; rfl
  | .ints k n l, _, y, hy => by
    obtain ⟨j, _, rfl⟩ := List.mem_map.1 (show y ∈ (List.range n).map _ from hy); rfl
  | .nil, _, y, hy => by simp at hy
  | .tup l, h, y, hy => by cases h
  | .cons a b, h, y, hy => by
    simp [AV.one] at h
    rcases List.mem_append.1 (by simpa using hy) with hy | hy
    · exact a.one_cells h.1 y hy
    · exact b.one_cells h.2 y hy
  | .agg l, h, y, hy => l.one_cells h y hy

/-- what a variable of that value says as a value: of an aggregate its cells, else its one cell -/
theorem AV.val_of_cells {a : AV} (h1 : a.isAgg = true) : a.val = .agg a.cells.toArray := by
  cases a <;> first | rfl | (simp [AV.isAgg] at h1)

def AV.plain : AV → Bool
  | .v _ | .ptr _ | .sl .. | .mp .. | .gs .. | .fn .. => true
  | _ => false

theorem AV.cells_plain {a : AV} (h : a.plain = true) : a.cells = [a.val] := by
  cases a <;> first | rfl | (simp [AV.plain] at h)

/-- the members of a chain -/
def AV.toL : AV → List AV
  | .cons a b => a :: b.toL
  | _ => []
theorem AV.toL_vals : ∀ a : AV, a.vals = a.toL.map AV.val
  | .cons a b => by rw [AV.vals_cons, b.toL_vals]; rfl
  | .v _ | .ptr _ | .sl .. | .mp .. | .gs .. | .fn .. | .ints .. | .nil | .tup _ | .agg _ => rfl

/-- The part that takes n cells from off on; g: an aggregate is asked for. -/
def AV.sub (g : Bool) (off n : Nat) : AV → Option AV
  | .cons a b => match Nat.blt off a.size with
    | true => a.sub g off n
    | false => b.sub g (off - a.size) n
  | .agg l => match g && Nat.beq off 0 && Nat.beq n l.size with
    | true => some (.agg l)
    | false => l.sub g off n
  | .ints k m l => match g with
    | true => match Nat.beq off 0 && Nat.beq n m with
      | true => some (.ints k m l)
      | false => none
    | false => match Nat.beq n 1 && Nat.blt off m with
      | true => some (.v (.int k (l.getD off 0)))
      | false => none
  | .nil => none
  | .tup _ => none
  | .v x => match !g && Nat.beq off 0 && Nat.beq n 1 with
    | true => some (.v x)
    | false => none
  | .ptr p => match !g && Nat.beq off 0 && Nat.beq n 1 with
    | true => some (.ptr p)
    | false => none
  | .sl p len cap => match !g && Nat.beq off 0 && Nat.beq n 1 with
    | true => some (.sl p len cap)
    | false => none
  | .mp m b => match !g && Nat.beq off 0 && Nat.beq n 1 with
    | true => some (.mp m b)
    | false => none
  | .gs m ix a es i0 len cap => match !g && Nat.beq off 0 && Nat.beq n 1 with
    | true => some (.gs m ix a es i0 len cap)
    | false => none
  | .fn f c => match !g && Nat.beq off 0 && Nat.beq n 1 with
    | true => some (.fn f c)
    | false => none

theorem blt_lt {a b : Nat} (h : Nat.blt a b = true) : a < b := by rwa [Nat.blt_eq] at h
theorem blt_le {a b : Nat} (h : Nat.blt a b = false) : b ≤ a := by
  rcases Nat.lt_or_ge a b with h' | h'
  · rw [← Nat.blt_eq, h] at h'; cases h'
  · exact h'

/-- s is the part of a's cells from off on, n of them. -/
def Part (off n : Nat) (cs : List Value) (s : AV) : Prop := s.size = n ∧ off + n ≤ cs.length ∧ (cs.drop off).take n = s.cells

theorem Part.whole (a : AV) : Part 0 a.size a.cells a := ⟨rfl, by simp [AV.size_cells], by simp [← AV.size_cells]⟩

theorem Part.inl {off n : Nat} {xs ys : List Value} {s : AV} (h : Part off n xs s) : Part off n (xs ++ ys) s := by
  obtain ⟨h1, h2, h3⟩ := h
  refine ⟨h1, by simp; omega, ?_⟩
  rw [List.drop_append_of_le_length (by omega), List.take_append_of_le_length (by simp; omega), h3]

theorem Part.inr {off n : Nat} {xs ys : List Value} {s : AV} (ho : xs.length ≤ off) (h : Part (off - xs.length) n ys s) : Part off n (xs ++ ys) s := by
  obtain ⟨h1, h2, h3⟩ := h
  refine ⟨h1, by simp; omega, ?_⟩
  rw [List.drop_append, List.drop_of_length_le ho, List.nil_append, h3]

theorem AV.sub_spec : ∀ (a : AV) {g : Bool} {off n : Nat} {s : AV}, a.sub g off n = some s → Part off n a.cells s ∧ (if g then s.isAgg = true else s.plain = true) := by
  intro a
  induction a with
  | v x | ptr p | sl p len cap | mp m b | gs m ix a es i0 len cap | fn f c _ =>
    intro g off n s h
    simp only [AV.sub] at h
    split at h
    · rename_i hc
      cases h
      simp at hc
      obtain ⟨⟨hg, ho⟩, hn⟩ := hc
      subst hg
      subst ho hn
      exact ⟨Part.whole _, rfl⟩
    · cases h
  | tup l _ => intro g off n s h; cases h
  | nil => intro g off n s h; cases h
  | ints k m l =>
    intro g off n s h
    cases g with
    | true =>
      simp only [AV.sub] at h
      split at h
      · rename_i hc
        cases h
        simp at hc
        obtain ⟨ho, hn⟩ := hc
        subst ho hn
        exact ⟨Part.whole (.ints k n l), rfl⟩
      · cases h
    | false =>
      simp only [AV.sub] at h
      split at h
      · rename_i hc
        cases h
        simp at hc
        obtain ⟨hn, hlt⟩ := hc
        subst hn
        refine ⟨⟨rfl, by rw [AV.size_cells]; exact hlt, ?_⟩, rfl⟩
        show (((List.range m).map fun j => Value.int k (l.getD j 0)).drop off).take 1 = _
        rw [← List.map_drop, ← List.map_take]
        rw [List.drop_eq_getElem_cons (by simpa using hlt)]
        simp
      · cases h
  | cons a b iha ihb =>
    intro g off n s h
    simp only [AV.sub] at h
    split at h
    · obtain ⟨h1, h2⟩ := iha h
      exact ⟨h1.inl, h2⟩
    · rename_i hc
      obtain ⟨h1, h2⟩ := ihb h
      have : a.size ≤ off := blt_le hc
      rw [← AV.size_cells] at h1 this
      exact ⟨h1.inr this, h2⟩
  | agg l ih =>
    intro g off n s h
    simp only [AV.sub] at h
    split at h
    · rename_i hc
      cases h
      simp at hc
      obtain ⟨⟨hg, ho⟩, hn⟩ := hc
      subst hg
      subst ho
      rw [hn]
      exact ⟨Part.whole (.agg l), rfl⟩
    · exact ih h

end Go.Proofs.Ytaohdlepocajcaa.V
