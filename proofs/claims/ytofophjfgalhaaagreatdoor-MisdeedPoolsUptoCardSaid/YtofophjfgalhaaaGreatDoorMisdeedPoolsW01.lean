import Derived.WalkKit
import Derived.Orders
import Derived.Laws.Rows
import Derived.Below
import Derived.MapKept
set_option linter.unusedVariables false
set_option linter.unusedSimpArgs false
set_option maxRecDepth 100000
set_option maxHeartbeats 8000000
namespace Go.Proofs.YtofophjfgalhaaaGreatDoor.V
open Go
inductive Gh where
 | none
  | reg (b : Nat) (ents : List (Int × Nat)) (recs : List (Int × ByteArray))
 | nums (n : Nat) (l : List Int)
structure Pt where
 n : Nat
 ix : Nat
 b : Nat
 o0 : Nat
 es : Nat
 idx : Nat
 off : Nat
 j : Nat
 lf : Bool
def Pt.cell (p : Pt) : Nat := p.o0 + p.idx * p.es + p.off + p.j
def Pt.addr (p : Pt) : Addr := ⟨p.b, p.cell, none⟩
inductive AV where
 | v (x : Value)
 | ptr (p : Pt)
 | sl (p : Pt) (len cap : Nat)
 | mp (n b : Nat)
  | gs (n ix : Nat) (a : Option (Nat × Nat)) (es i0 len cap : Nat)
 | ints (k : IntKind) (n : Nat) (l : List Int)
 | nil
 | cons (a b : AV)
 | agg (l : AV)
 | tup (l : AV)
 | fn (f : FuncId) (caps : AV)
 deriving Inhabited
def AV.den : AV → List Value × Value × List Value
 | .v x => ([x], x, [])
 | .ptr p => ([.pointer (some p.addr)], .pointer (some p.addr), [])
 | .sl p len cap => ([.slice (some p.addr) len cap], .slice (some p.addr) len cap, [])
 | .mp _ b => ([.map (some b)], .map (some b), [])
 | .gs _ _ a es i0 len cap => ([.slice (a.map fun p => ⟨p.1, p.2 + i0 * es, none⟩) len cap], .slice (a.map fun p => ⟨p.1, p.2 + i0 * es, none⟩) len cap, [])
 | .ints k n l => ((List.range n).map fun j => .int k (l.getD j 0), .agg ((List.range n).map fun j => Value.int k (l.getD j 0)).toArray, [])
 | .nil => ([], undef, [])
 | .cons a b => (a.den.1 ++ b.den.1, undef, a.den.2.1 :: b.den.2.2)
 | .agg l => (l.den.1, .agg l.den.1.toArray, [])
 | .tup l => ([], .tuple l.den.2.2.toArray, [])
 | .fn f c => ([.func (.func f) #[] c.den.2.2.toArray], .func (.func f) #[] c.den.2.2.toArray, [])
def AV.cells (a : AV) : List Value := a.den.1
def AV.val (a : AV) : Value := a.den.2.1
def AV.vals (a : AV) : List Value := a.den.2.2
@[simp] theorem AV.cells_v (x : Value) : (AV.v x).cells = [x] := rfl
@[simp] theorem AV.cells_nil : AV.nil.cells = [] := rfl
@[simp] theorem AV.cells_cons (a b : AV) : (AV.cons a b).cells = a.cells ++ b.cells := rfl
@[simp] theorem AV.cells_agg (l : AV) : (AV.agg l).cells = l.cells := rfl
@[simp] theorem AV.val_v (x : Value) : (AV.v x).val = x := rfl
@[simp] theorem AV.val_agg (l : AV) : (AV.agg l).val = .agg l.cells.toArray := rfl
@[simp] theorem AV.vals_cons (a b : AV) : (AV.cons a b).vals = a.val :: b.vals := rfl
def AV.size : AV → Nat
 | .ints _ n _ => n
 | .nil => 0
 | .cons a b => a.size + b.size
 | .agg l => l.size
 | .tup _ => 0
 | _ => 1
def AV.one : AV → Bool
 | .v x => x.oneCell'
 | .cons a b => a.one && b.one
 | .agg l => l.one
 | .nil => true
 | .tup _ => false
 | _ => true
def AV.isAgg : AV → Bool
 | .agg _ => true
 | .ints .. => true
 | _ => false
theorem AV.size_cells : ∀ a : AV, a.cells.length = a.size
 | .v _ | .ptr _ | .sl .. | .mp .. | .gs .. | .fn .. => rfl
 | .ints k n l => by show ((List.range n).map _).length = n; simp
 | .nil => rfl
 | .tup l => rfl
 | .cons a b => by rw [AV.cells_cons, List.length_append, a.size_cells, b.size_cells]; rfl
 | .agg l => l.size_cells
theorem AV.one_cells : ∀ a : AV, a.one = true → ∀ x ∈ a.cells, x.oneCell' = true
 | .v x, h, y, hy => by simp at hy; subst hy; exact h
 | .ptr _, _, y, hy | .sl .., _, y, hy | .mp .., _, y, hy | .gs .., _, y, hy | .fn .., _, y, hy => by
  have : y = _ := List.mem_singleton.1 hy
  subst this; rfl
 | .ints k n l, _, y, hy => by
  obtain ⟨j, _, rfl⟩ := List.mem_map.1 (show y ∈ (List.range n).map _ from hy); rfl
 | .nil, _, y, hy => by simp at hy
 | .tup l, h, y, hy => by cases h
 | .cons a b, h, y, hy => by
  simp [AV.one] at h
  rcases List.mem_append.1 (by simpa using hy) with hy | hy
  ·
   exact a.one_cells h.1 y hy
  ·
   exact b.one_cells h.2 y hy
 | .agg l, h, y, hy => l.one_cells h y hy
theorem AV.val_of_cells {a : AV} (h1 : a.isAgg = true) : a.val = .agg a.cells.toArray := by
 cases a <;> first | rfl | (simp [AV.isAgg] at h1)
def AV.plain : AV → Bool
 | .v _ | .ptr _ | .sl .. | .mp .. | .gs .. | .fn .. => true
 | _ => false
theorem AV.cells_plain {a : AV} (h : a.plain = true) : a.cells = [a.val] := by
 cases a <;> first | rfl | (simp [AV.plain] at h)
def AV.toL : AV → List AV
 | .cons a b => a :: b.toL
 | _ => []
theorem AV.toL_vals : ∀ a : AV, a.vals = a.toL.map AV.val
 | .cons a b => by rw [AV.vals_cons, b.toL_vals]; rfl
 | .v _ | .ptr _ | .sl .. | .mp .. | .gs .. | .fn .. | .ints .. | .nil | .tup _ | .agg _ => rfl
def AV.eat (n : Nat) : AV → Option Nat
 | .ints _ m _ => match Nat.ble m n with
  | true => some (n - m)
  | false => none
 | .nil => some n
 | .cons a b => match a.eat n with
  | some k => b.eat k
  | none => none
 | .agg l => l.eat n
 | .tup _ => some n
 | _ => match n with
  | 0 => none
  | k + 1 => some k
theorem AV.eat_some : ∀ (a : AV) {n k : Nat}, a.eat n = some k → n = a.size + k := by
 intro a
 induction a with
 | v x | ptr p | sl p len cap | mp m b | gs m ix a es i0 len cap | fn f c _ =>
  intro n k h
  simp only [AV.eat] at h
  split at h
  ·
   cases h
  ·
   cases h; exact (Nat.add_comm 1 _).symm
 | ints kk m l =>
  intro n k h
  simp only [AV.eat] at h
  split at h
  ·
   rename_i hm
   have := Nat.le_of_ble_eq_true hm
   cases h
   show n = m + (n - m)
   omega
  ·
   cases h
 | nil => intro n k h; cases h; exact (Nat.zero_add _).symm
 | tup l _ => intro n k h; cases h; exact (Nat.zero_add _).symm
 | cons a b iha ihb =>
  intro n k h
  simp only [AV.eat] at h
  split at h
  ·
   rename_i j hj
   have h1 := iha hj
   have h2 := ihb h
   show n = (a.size + b.size) + k
   omega
  ·
   cases h
 | agg l ih =>
  intro n k h
  exact ih h
def AV.isSize (a : AV) (n : Nat) : Bool := match a.eat n with
 | some 0 => true
 | _ => false
theorem AV.isSize_eq {a : AV} {n : Nat} (h : a.isSize n = true) : a.size = n := by
 unfold AV.isSize at h
 split at h
 ·
  rename_i h2; exact (a.eat_some h2).symm
 ·
  cases h
def AV.sub (g : Bool) (off n : Nat) : AV → Option AV
 | .cons a b => match a.eat off with
  | none => a.sub g off n
  | some k => b.sub g k n
 | .agg l => match g && Nat.beq off 0 && l.isSize n with
  | true => some (.agg l)
  | false => l.sub g off n
 | .ints k m l => match g with
  | true => match Nat.beq off 0 && Nat.beq n m with
   | true => some (.ints k m l)
   | false => none
  | false => match Nat.beq n 1 && Nat.blt off m with
   | true => some (.v (.int k (l.getD off 0)))
   | false => none
 | .nil => none
 | .tup _ => none
 | .v x => match !g && Nat.beq off 0 && Nat.beq n 1 with
  | true => some (.v x)
  | false => none
 | .ptr p => match !g && Nat.beq off 0 && Nat.beq n 1 with
  | true => some (.ptr p)
  | false => none
 | .sl p len cap => match !g && Nat.beq off 0 && Nat.beq n 1 with
  | true => some (.sl p len cap)
  | false => none
 | .mp m b => match !g && Nat.beq off 0 && Nat.beq n 1 with
  | true => some (.mp m b)
  | false => none
 | .gs m ix a es i0 len cap => match !g && Nat.beq off 0 && Nat.beq n 1 with
  | true => some (.gs m ix a es i0 len cap)
  | false => none
 | .fn f c => match !g && Nat.beq off 0 && Nat.beq n 1 with
  | true => some (.fn f c)
  | false => none
theorem blt_lt {a b : Nat} (h : Nat.blt a b = true) : a < b := by rwa [Nat.blt_eq] at h
def Part (off n : Nat) (cs : List Value) (s : AV) : Prop := s.size = n ∧ off + n ≤ cs.length ∧ (cs.drop off).take n = s.cells
theorem Part.whole (a : AV) : Part 0 a.size a.cells a := ⟨rfl, by simp [AV.size_cells], by simp [← AV.size_cells]⟩
theorem Part.inl {off n : Nat} {xs ys : List Value} {s : AV} (h : Part off n xs s) : Part off n (xs ++ ys) s := by
 obtain ⟨h1, h2, h3⟩ := h
 refine ⟨h1, by simp; omega, ?_⟩
 rw [List.drop_append_of_le_length (by omega), List.take_append_of_le_length (by simp; omega), h3]
theorem Part.inr {off n : Nat} {xs ys : List Value} {s : AV} (ho : xs.length ≤ off) (h : Part (off - xs.length) n ys s) : Part off n (xs ++ ys) s := by
 obtain ⟨h1, h2, h3⟩ := h
 refine ⟨h1, by simp; omega, ?_⟩
 rw [List.drop_append, List.drop_of_length_le ho, List.nil_append, h3]
theorem AV.sub_spec : ∀ (a : AV) {g : Bool} {off n : Nat} {s : AV}, a.sub g off n = some s → Part off n a.cells s ∧ (if g then s.isAgg = true else s.plain = true) := by
 intro a
 induction a with
 | v x | ptr p | sl p len cap | mp m b | gs m ix a es i0 len cap | fn f c _ =>
  intro g off n s h
  simp only [AV.sub] at h
  split at h
  ·
   rename_i hc
   cases h
   simp at hc
   obtain ⟨⟨hg, ho⟩, hn⟩ := hc
   subst hg
   subst ho hn
   exact ⟨Part.whole _, rfl⟩
  ·
   cases h
 | tup l _ => intro g off n s h; cases h
 | nil => intro g off n s h; cases h
 | ints k m l =>
  intro g off n s h
  cases g with
  | true =>
   simp only [AV.sub] at h
   split at h
   ·
    rename_i hc
    cases h
    simp at hc
    obtain ⟨ho, hn⟩ := hc
    subst ho hn
    exact ⟨Part.whole (.ints k n l), rfl⟩
   ·
    cases h
  | false =>
   simp only [AV.sub] at h
   split at h
   ·
    rename_i hc
    cases h
    simp at hc
    obtain ⟨hn, hlt⟩ := hc
    subst hn
    refine ⟨⟨rfl, by rw [AV.size_cells]; exact hlt, ?_⟩, rfl⟩
    show (((List.range m).map fun j => Value.int k (l.getD j 0)).drop off).take 1 = _
    rw [← List.map_drop, ← List.map_take]
    rw [List.drop_eq_getElem_cons (by simpa using hlt)]
    simp
   ·
    cases h
 | cons a b iha ihb =>
  intro g off n s h
  simp only [AV.sub] at h
  split at h
  ·
   obtain ⟨h1, h2⟩ := iha h
   exact ⟨h1.inl, h2⟩
  ·
   rename_i k hc
   obtain ⟨h1, h2⟩ := ihb h
   have h3 := a.eat_some hc
   rw [← AV.size_cells] at h3
   rw [show k = off - a.cells.length by omega] at h1
   exact ⟨h1.inr (show a.cells.length ≤ off by omega), h2⟩
 | agg l ih =>
  intro g off n s h
  simp only [AV.sub] at h
  split at h
  ·
   rename_i hc
   cases h
   simp only [Bool.and_eq_true] at hc
   obtain ⟨⟨hg, ho⟩, hn⟩ := hc
   have ho := Nat.eq_of_beq_eq_true ho
   have hn := AV.isSize_eq hn
   subst hg
   subst ho
   rw [← hn]
   exact ⟨Part.whole (.agg l), rfl⟩
  ·
   exact ih h
end Go.Proofs.YtofophjfgalhaaaGreatDoor.V
namespace Go.Proofs.YtofophjfgalhaaaGreatDoor.V
open Go Go.RowKit
structure Below (B : Nat) (w w' : World) : Prop where
 os : w'.os = w.os
 tape : w'.tape = w.tape
 output : w'.output = w.output
 drawn : w.drawn ≤ w'.drawn
 size : w.heap.size ≤ w'.heap.size
 block : ∀ k, k < B → w'.heap[k]? = w.heap[k]?
theorem Below.kit {B : Nat} {w w' : World} (h : Below B w w') : Go.RowKit.Below B w w' := ⟨h.os, h.tape, h.output, h.size, h.block⟩
theorem Below.of {B : Nat} {w w' : World} (h : Go.RowKit.Below B w w') (hd : w.drawn ≤ w'.drawn) : Below B w w' := ⟨h.os, h.tape, h.output, hd, h.size, h.block⟩
theorem Below.refl (B : Nat) (w : World) : Below B w w := .of (Go.RowKit.Below.refl B w) (Nat.le_refl _)
theorem Below.trans {B : Nat} {a b c : World} (h : Below B a b) (k : Below B b c) : Below B a c := .of (h.kit.trans k.kit) (Nat.le_trans h.drawn k.drawn)
theorem Below.mono {B B' : Nat} {w w' : World} (h : Below B w w') (hB : B' ≤ B) : Below B' w w' := .of (h.kit.mono hB) h.drawn
theorem Below.drew {B : Nat} {a w : World} (h : Below B a w) : Below B a w.drew := .of h.kit.drew (Nat.le_trans h.drawn (Nat.le_succ _))
theorem Below.alloc {B : Nat} {a w : World} (h : Below B a w) (hB : B ≤ w.heap.size) (o : Obj) : Below B a (w.alloc o) := .of (h.kit.alloc hB o) h.drawn
theorem Below.cell {B : Nat} {w w' : World} (h : Below B w w') {p : Addr} (hp : p.block < B) : w'.cell? p = w.cell? p := h.kit.cell hp
inductive Blk where
  | row (b : Nat) (T : TypeId) (es len : Nat) (f : Nat → AV) (cap : Nat)
  | vrow (a : Option Nat) (T : TypeId) (es len : Nat) (f : Nat → AV) (cap : Nat)
  | vro (es : Nat) (base : Nat → Option (Nat × Nat)) (len : Nat → Nat) (f : Nat → Nat → AV)
  | mp (mine : Bool) (b : Nat) (l : List (AV × AV × Nat)) (clock : Nat)
  | it (b : Nat) (m : Option Nat) (since : Nat) (seen : List Nat) (last : Nat)
  | var (b : Nat) (x : AV)
  | dfr (l : List Deferred)
  | sep (γ : Gh) (S : Nat → Prop) (φ : World → Prop)
abbrev Mem := List (Nat × Blk)
abbrev MemF := Nat → Option Blk
def Mem.get : Mem → Nat → Option Blk
 | [], _ => none
 | (k, B) :: r, n => match Nat.beq k n with
  | true => some B
  | false => Mem.get r n
def RowHolds (w : World) (b : Nat) (T : TypeId) (es len : Nat) (f : Nat → AV) (cap : Nat) : Prop :=
 ∃ c, w.heap[b]? = some (.cells c T (0, 0)) ∧ c.size = cap * es ∧ len ≤ cap ∧
   ∀ i, i < len → (f i).size = es ∧ (f i).one = true ∧ ∀ k, k < es → c[i * es + k]? = (f i).cells[k]?
def Blk.holds (w : World) : Blk → Prop
 | .row b T es len f cap => RowHolds w b T es len f cap
 | .vrow none _ _ len _ cap => len = 0 ∧ cap = 0
 | .vrow (some b) T es len f cap => RowHolds w b T es len f cap
 | .vro es base len f => ∀ ix, (base ix = none → len ix = 0) ∧ ∀ b o, base ix = some (b, o) → ∀ i, i < len ix → (f ix i).size = es ∧ (f ix i).one = true ∧ ∀ k, k < es → w.cell? ⟨b, o + i * es + k, none⟩ = (f ix i).cells[k]?
 | .mp _ b l clock => ∃ es, w.heap[b]? = some (.map es clock) ∧ MapKept.Stamped es clock ∧ (es.toList.map fun e => (e.key, e.val, e.born)) = l.map fun p => (p.1.val, p.2.1.val, p.2.2)
 | .it b m since seen last => w.heap[b]? = some (.mapIter m since seen.toArray last)
 | .var b x => 0 < x.size ∧ x.one = true ∧ ∀ k, k < x.size → w.cell? ⟨b, k, none⟩ = x.cells[k]?
 | .dfr _ => True
 | .sep _ S φ => (∀ k, S k → k < w.heap.size) ∧ ∀ w' : World, (∀ k, S k → w'.heap[k]? = w.heap[k]?) → φ w'
def Blk.own : Blk → Nat → Prop
 | .row b .., k => b = k
 | .vrow a .., k => a = some k
 | .mp true b _ _, k => b = k
 | .it b .., k => b = k
 | .sep _ S _, k => S k
 | _, _ => False
def Blk.reads : Blk → Nat → Prop
 | .vro es base len _, b => 0 < es ∧ ∃ ix o, 0 < len ix ∧ base ix = some (b, o)
 | .mp false b' _ _, b => b' = b
 | .var b' _, b => b' = b
 | _, _ => False
theorem heap_lt {w : World} {b : Nat} {o : Obj} (h : w.heap[b]? = some o) : b < w.heap.size := (Array.getElem?_eq_some_iff.1 h).1
theorem cell_lt {w : World} {b o : Nat} {v : Value} (h : w.cell? ⟨b, o, none⟩ = some v) : b < w.heap.size := by
 unfold World.cell? at h
 cases hh : w.heap[b]? with
 | none => simp [hh] at h
 | some o => exact heap_lt hh
theorem cell_same {w w' : World} {b o : Nat} (h : w'.heap[b]? = w.heap[b]?) : w'.cell? ⟨b, o, none⟩ = w.cell? ⟨b, o, none⟩ := by
 unfold World.cell?; simp only [h]
theorem RowHolds.lt {w : World} {b T es len cap : Nat} {f : Nat → AV} (h : RowHolds w b T es len f cap) : b < w.heap.size := by
 obtain ⟨c, h1, _⟩ := h; exact heap_lt h1
theorem Blk.own_lt {B : Blk} {w : World} (hB : B.holds w) {b : Nat} (h : B.own b) : b < w.heap.size := by
 cases B with
 | row => cases h; exact RowHolds.lt hB
 | vrow a => cases a with
  | none => cases h
  | some b' => cases h; exact RowHolds.lt hB
 | vro => cases h
 | mp m => cases m with
  | true => cases h; obtain ⟨_, h1, _⟩ := hB; exact heap_lt h1
  | false => cases h
 | it => cases h; exact heap_lt hB
 | var => cases h
 | dfr => cases h
 | sep γ S φ => exact hB.1 b h
theorem Blk.reads_lt {B : Blk} {w : World} (hB : B.holds w) {b : Nat} (h : B.reads b) : b < w.heap.size := by
 cases B with
 | row => cases h
 | vrow => cases h
 | vro es base len f =>
  obtain ⟨he, ix, o, hl, hb⟩ := h
  obtain ⟨h1, _, h2⟩ := (hB ix).2 b o hb 0 hl
  have h3 := h2 0 he
  rw [List.getElem?_eq_getElem (by rw [AV.size_cells]; omega)] at h3
  exact cell_lt h3
 | mp m => cases m with
  | true => cases h
  | false => cases h; obtain ⟨_, h1, _⟩ := hB; exact heap_lt h1
 | it => cases h
 | var b' x =>
  cases h
  obtain ⟨h0, _, h1⟩ := hB
  have h3 := h1 0 h0
  rw [List.getElem?_eq_getElem (by rw [AV.size_cells]; omega)] at h3
  exact cell_lt h3
 | dfr => cases h
 | sep => cases h
theorem RowHolds.frame {w w' : World} {b T es len cap : Nat} {f : Nat → AV} (h : RowHolds w b T es len f cap) (he : w'.heap[b]? = w.heap[b]?) : RowHolds w' b T es len f cap := by
 obtain ⟨c, h1, h2⟩ := h
 exact ⟨c, by rw [he]; exact h1, h2⟩
theorem Blk.holds_frame {B : Blk} {w w' : World} (h : B.holds w) (hsz : w.heap.size ≤ w'.heap.size) (hf : ∀ k, B.own k ∨ B.reads k → w'.heap[k]? = w.heap[k]?) : B.holds w' := by
 cases B with
 | row b => exact RowHolds.frame h (hf b (.inl rfl))
 | vrow a => cases a with
  | none => exact h
  | some b => exact RowHolds.frame h (hf b (.inl rfl))
 | vro es base len f =>
  refine fun ix => ⟨(h ix).1, fun b o hb i hi => ?_⟩
  obtain ⟨h1, h1', h2⟩ := (h ix).2 b o hb i hi
  refine ⟨h1, h1', fun k hk => ?_⟩
  rw [← h2 k hk]
  exact cell_same (hf _ (.inr ⟨by omega, ix, o, by omega, hb⟩))
 | mp m b l cl =>
  obtain ⟨es, h1, h2⟩ := h
  refine ⟨es, ?_, h2⟩
  rw [hf b (by cases m with | true => exact .inl rfl | false => exact .inr rfl)]
  exact h1
 | it b => exact (hf b (.inl rfl)).trans h
 | var b x =>
  refine ⟨h.1, h.2.1, fun k hk => ?_⟩
  rw [← h.2.2 k hk]
  exact cell_same (hf _ (.inr rfl))
 | dfr => trivial
 | sep γ S φ => exact ⟨fun k hk => Nat.lt_of_lt_of_le (h.1 k hk) hsz, fun w2 h2 => h.2 w2 fun k hk => (h2 k hk).trans (hf k (.inl hk))⟩
structure Keeps (O : Nat → Prop) (w w' : World) : Prop where
 os : w'.os = w.os
 tape : w'.tape = w.tape
 output : w'.output = w.output
 drawn : w.drawn ≤ w'.drawn
 size : w.heap.size ≤ w'.heap.size
 block : ∀ k, k < w.heap.size → ¬ O k → w'.heap[k]? = w.heap[k]?
theorem Keeps.refl (O : Nat → Prop) (w : World) : Keeps O w w := ⟨rfl, rfl, rfl, Nat.le_refl _, Nat.le_refl _, fun _ _ _ => rfl⟩
structure Sat (O : Nat → Prop) (w0 : World) (M : MemF) (w : World) : Prop where
 keeps : Keeps O w0 w
 holds : ∀ n B, M n = some B → B.holds w
 own : ∀ n B b, M n = some B → B.own b → O b
 apart : ∀ n m B B' b, M n = some B → M m = some B' → B.own b → B'.own b → n = m
 roapart : ∀ n m B B' b, M n = some B → M m = some B' → B.own b → ¬ B'.reads b
theorem Mem.get_cons (k n : Nat) (B : Blk) (M : Mem) : Mem.get ((k, B) :: M) n = if k = n then some B else M.get n := by
 show (match Nat.beq k n with | true => some B | false => M.get n) = _
 by_cases h : k = n
 ·
  subst h; simp
 ·
  have : Nat.beq k n = false := by
   cases hh : Nat.beq k n with
   | true => exact absurd (Nat.eq_of_beq_eq_true hh) h
   | false => rfl
  rw [this, if_neg h]
structure Turn (M : MemF) (w w' : World) (L : MemF) : Prop where
 os : w'.os = w.os
 tape : w'.tape = w.tape
 output : w'.output = w.output
 drawn : w.drawn ≤ w'.drawn
 size : w.heap.size ≤ w'.heap.size
 block : ∀ k, k < w.heap.size → (∀ n B B', L n = some B' → M n = some B → ¬ B.own k) → w'.heap[k]? = w.heap[k]?
 holds : ∀ n B, L n = some B → B.holds w'
 own : ∀ n B b, L n = some B → B.own b → w.heap.size ≤ b ∨ ∃ n' B0 B1, L n' = some B1 ∧ M n' = some B0 ∧ B0.own b
 apart : ∀ n m B B' b, L n = some B → L m = some B' → B.own b → B'.own b → n = m
 noreads : ∀ n B b, L n = some B → ¬ B.reads b
def updM (L M : MemF) : MemF := fun n => match L n with
 | some B => some B
 | none => M n
theorem updM_some {L M : MemF} {n : Nat} {B : Blk} (h : updM L M n = some B) : L n = some B ∨ (L n = none ∧ M n = some B) := by
 unfold updM at h
 cases hL : L n with
 | none => rw [hL] at h; exact .inr ⟨rfl, h⟩
 | some B' => rw [hL] at h; exact .inl h
theorem Sat.turn {O : Nat → Prop} {w0 w w' : World} {M L : MemF} (h : Sat O w0 M w) (ht : Turn M w w' L) (hO : ∀ b, w0.heap.size ≤ b → O b) : Sat O w0 (updM L M) w' := by
 have old : ∀ n B b, L n = some B → B.own b → (w.heap.size ≤ b ∨ ∃ n' B0 B1, L n' = some B1 ∧ M n' = some B0 ∧ B0.own b) := ht.own
 refine ⟨⟨ht.os.trans h.keeps.os, ht.tape.trans h.keeps.tape, ht.output.trans h.keeps.output, Nat.le_trans h.keeps.drawn ht.drawn, Nat.le_trans h.keeps.size ht.size, fun k hk hno => ?_⟩, ?_, ?_, ?_, ?_⟩
 ·
  rw [ht.block k (Nat.lt_of_lt_of_le hk h.keeps.size) fun n B B' _ hM ho => hno (h.own _ _ _ hM ho)]
  exact h.keeps.block k hk hno
 ·
  intro n B hn
  rcases updM_some hn with hL | ⟨hL, hM⟩
  ·
   exact ht.holds _ _ hL
  ·
   refine Blk.holds_frame (h.holds _ _ hM) ht.size fun k hk => ht.block k ?_ fun n' B0 B' hL' hM' ho => ?_
   ·
    rcases hk with hk | hk
    ·
     exact Blk.own_lt (h.holds _ _ hM) hk
    ·
     exact Blk.reads_lt (h.holds _ _ hM) hk
   ·
    rcases hk with hk | hk
    ·
     have := h.apart _ _ _ _ _ hM' hM ho hk
     subst this; rw [hL] at hL'; cases hL'
    ·
     exact h.roapart _ _ _ _ _ hM' hM ho hk
 ·
  intro n B b hn ho
  rcases updM_some hn with hL | ⟨hL, hM⟩
  ·
   rcases old _ _ _ hL ho with h1 | ⟨n', B0, B1, _, h2, h3⟩
   ·
    exact hO b (Nat.le_trans h.keeps.size h1)
   ·
    exact h.own _ _ _ h2 h3
  ·
   exact h.own _ _ _ hM ho
 ·
  have half : ∀ n m B B' b, L n = some B → L m = none → M m = some B' → B.own b → B'.own b → False := by
   intro n m B B' b hL hL' hM' ho ho'
   rcases old _ _ _ hL ho with h1 | ⟨n', B0, B1, h1, h2, h3⟩
   ·
    have := Blk.own_lt (h.holds _ _ hM') ho'; omega
   ·
    have := h.apart _ _ _ _ _ h2 hM' h3 ho'
    subst this; rw [hL'] at h1; cases h1
  intro n m B B' b hn hm ho ho'
  rcases updM_some hn with hL | ⟨hL, hM⟩ <;> rcases updM_some hm with hL' | ⟨hL', hM'⟩
  ·
   exact ht.apart _ _ _ _ _ hL hL' ho ho'
  ·
   exact (half _ _ _ _ _ hL hL' hM' ho ho').elim
  ·
   exact (half _ _ _ _ _ hL' hL hM ho' ho).elim
  ·
   exact h.apart _ _ _ _ _ hM hM' ho ho'
 ·
  intro n m B B' b hn hm ho hr
  rcases updM_some hm with hL' | ⟨hL', hM'⟩
  ·
   exact ht.noreads _ _ _ hL' hr
  ·
   rcases updM_some hn with hL | ⟨hL, hM⟩
   ·
    rcases old _ _ _ hL ho with h1 | ⟨n', B0, B1, h1, h2, h3⟩
    ·
     have := Blk.reads_lt (h.holds _ _ hM') hr; omega
    ·
     exact h.roapart _ _ _ _ _ h2 hM' h3 hr
   ·
    exact h.roapart _ _ _ _ _ hM hM' ho hr
theorem Turn.below {M : MemF} {w w' : World} (hb : Below w.heap.size w w') : Turn M w w' (fun _ => none) :=
 ⟨hb.os, hb.tape, hb.output, hb.drawn, hb.size, fun k hk _ => hb.block k hk, fun _ _ h => (by cases h), fun _ _ _ h => (by cases h), fun _ _ _ _ _ h => (by cases h), fun _ _ _ h => (by cases h)⟩
theorem updM_none (M : MemF) : updM (fun _ => none) M = M := rfl
theorem Sat.below {O : Nat → Prop} {w0 w w' : World} {M : MemF} (h : Sat O w0 M w) (hb : Below w.heap.size w w') : Sat O w0 M w' := by
 refine ⟨⟨hb.os.trans h.keeps.os, hb.tape.trans h.keeps.tape, hb.output.trans h.keeps.output, Nat.le_trans h.keeps.drawn hb.drawn, Nat.le_trans h.keeps.size hb.size, fun k hk hno => (hb.block k (Nat.lt_of_lt_of_le hk h.keeps.size)).trans (h.keeps.block k hk hno)⟩, fun n B hM => ?_, h.own, h.apart, h.roapart⟩
 refine Blk.holds_frame (h.holds _ _ hM) hb.size fun k hk => hb.block k ?_
 rcases hk with hk | hk
 ·
  exact Blk.own_lt (h.holds _ _ hM) hk
 ·
  exact Blk.reads_lt (h.holds _ _ hM) hk
theorem Turn.new {M : MemF} {w w' : World} (hb : Below w.heap.size w w') {k : Nat} {B : Blk} (hB : B.holds w') (ho : ∀ b, B.own b → w.heap.size ≤ b) (hr : ∀ b, ¬ B.reads b) : Turn M w w' (Mem.get [(k, B)]) := by
 have one : ∀ {n B'}, Mem.get [(k, B)] n = some B' → k = n ∧ B = B' := by
  intro n B' h
  rw [Mem.get_cons] at h
  split at h
  ·
   rename_i e; exact ⟨e, Option.some.inj h⟩
  ·
   cases h
 refine ⟨hb.os, hb.tape, hb.output, hb.drawn, hb.size, fun j hj _ => hb.block j hj, ?_, ?_, ?_, ?_⟩
 ·
  intro n B' h; rw [← (one h).2]; exact hB
 ·
  intro n B' b h h2; rw [← (one h).2] at h2; exact .inl (ho b h2)
 ·
  intro n m B1 B2 b h1 h2 _ _; rw [← (one h1).1, ← (one h2).1]
 ·
  intro n B' b h; rw [← (one h).2]; exact hr b
theorem Turn.upd {M : MemF} {w w' : World} {k : Nat} {B0 B : Blk} (hM : M k = some B0) (hos : w'.os = w.os) (htape : w'.tape = w.tape) (hout : w'.output = w.output) (hdr : w.drawn ≤ w'.drawn) (hsz : w.heap.size ≤ w'.heap.size)
  (hblk : ∀ j, j < w.heap.size → ¬ B0.own j → w'.heap[j]? = w.heap[j]?) (hB : B.holds w') (ho : ∀ b, B.own b → w.heap.size ≤ b ∨ B0.own b) (hr : ∀ b, ¬ B.reads b) : Turn M w w' (Mem.get [(k, B)]) := by
 have one : ∀ {n B'}, Mem.get [(k, B)] n = some B' → k = n ∧ B = B' := by
  intro n B' h
  rw [Mem.get_cons] at h
  split at h
  ·
   rename_i e; exact ⟨e, Option.some.inj h⟩
  ·
   cases h
 have self : Mem.get [(k, B)] k = some B := by rw [Mem.get_cons, if_pos rfl]
 refine ⟨hos, htape, hout, hdr, hsz, fun j hj hn => hblk j hj (hn k B0 B self hM), ?_, ?_, ?_, ?_⟩
 ·
  intro n B' h; rw [← (one h).2]; exact hB
 ·
  intro n B' b h h2
  rw [← (one h).2] at h2
  rcases ho b h2 with h3 | h3
  ·
   exact .inl h3
  ·
   exact .inr ⟨k, B0, B, self, hM, h3⟩
 ·
  intro n m B1 B2 b h1 h2 _ _; rw [← (one h1).1, ← (one h2).1]
 ·
  intro n B' b h; rw [← (one h).2]; exact hr b
inductive TD where
 | int (k : IntKind) | bool | str | ptr (e : TypeId) | sl (e : TypeId) | arr (n : Nat) (e : TypeId)
 | st (fs : List (Nat × Nat × TypeId)) | map (k e : TypeId) | fn | other
def viewD (P : Program) : TypeDesc → TD
 | .int k => .int k
 | .bool => .bool
 | .string => .str
 | .pointer e => .ptr e
 | .slice e => .sl e
 | .array n e => .arr n e
 | .struct fs => .st (fs.toList.map fun f => (f.offset, P.cellsOf f.type, f.type))
 | .map k e => .map k e
 | .func .. => .fn
 | _ => .other
structure TRow where
 d : TD
 size : Nat
 bytes : Nat
 zero : AV
abbrev Tbl := List (TypeId × TRow)
def Tbl.get : Tbl → Nat → Option TRow
 | [], _ => none
 | (k, r) :: rest, t => match Nat.beq k t with
  | true => some r
  | false => Tbl.get rest t
def RowOk (P : Program) (t : TypeId) (r : TRow) : Prop :=
 (P.underlying t).map (viewD P) = some r.d ∧ (P.info? t).map (fun i => (i.size, i.bytes, i.zero)) = some (r.size, r.bytes, some r.zero.val)
def TblOk (P : Program) : Tbl → Prop
 | [] => True
 | (t, r) :: rest => RowOk P t r ∧ TblOk P rest
theorem TblOk.get {P : Program} : ∀ {tb : Tbl} {t : Nat} {r : TRow}, TblOk P tb → tb.get t = some r → RowOk P t r
 | [], _, _, _, h => by cases h
 | (k, r0) :: rest, t, r, ho, h => by
  simp only [Tbl.get] at h
  split at h
  ·
   rename_i hk
   cases h
   rw [← Nat.eq_of_beq_eq_true hk]
   exact ho.1
  ·
   exact TblOk.get ho.2 h
theorem RowOk.under {P : Program} {t : TypeId} {r : TRow} (h : RowOk P t r) : ∃ d, P.underlying t = some d ∧ viewD P d = r.d := by
 obtain ⟨h1, _⟩ := h
 cases hd : P.underlying t with
 | none => rw [hd] at h1; cases h1
 | some d => rw [hd] at h1; exact ⟨d, rfl, Option.some.inj h1⟩
theorem RowOk.info {P : Program} {t : TypeId} {r : TRow} (h : RowOk P t r) : ∃ i, P.info? t = some i ∧ i.size = r.size ∧ i.bytes = r.bytes ∧ i.zero = some r.zero.val := by
 obtain ⟨_, h1⟩ := h
 cases hd : P.info? t with
 | none => rw [hd] at h1; cases h1
 | some i =>
  rw [hd] at h1
  simp only [Option.map_some, Option.some.injEq, Prod.mk.injEq] at h1
  exact ⟨i, rfl, h1.1, h1.2.1, h1.2.2⟩
theorem RowOk.run_sizeOf {P : Program} {t : TypeId} {r : TRow} (h : RowOk P t r) (w : World) : (sizeOf t).run P w = .ok r.size w := by
 obtain ⟨i, h1, h2, _⟩ := h.info
 simp [sizeOf, typeInfo, h1, h2]
theorem RowOk.run_under {P : Program} {t : TypeId} {r : TRow} (h : RowOk P t r) (w : World) : ∃ d, (underlying t).run P w = .ok d w ∧ viewD P d = r.d := by
 obtain ⟨d, h1, h2⟩ := h.under
 exact ⟨d, run_underlying h1 w, h2⟩
theorem RowOk.run_zero {P : Program} {t : TypeId} {r : TRow} (h : RowOk P t r) (w : World) : (zeroValue t).run P w = .ok r.zero.val w := by
 obtain ⟨i, h1, _, _, h3⟩ := h.info
 simp [zeroValue, typeInfo, h1, h3]
def TD.isAgg : TD → Bool
 | .st _ => true
 | .arr .. => true
 | _ => false
theorem RowOk.run_isAgg {P : Program} {t : TypeId} {r : TRow} (h : RowOk P t r) (w : World) : (Go.isAgg t).run P w = .ok r.d.isAgg w := by
 obtain ⟨d, h1, h2⟩ := h.run_under w
 unfold Go.isAgg
 rw [Sem.run_bind, h1]
 cases d <;> (simp only [viewD] at h2; simp [← h2, TD.isAgg])
theorem getElem?_part {off n : Nat} {cs : List Value} {s : AV} (h : Part off n cs s) {k : Nat} (hk : k < n) : cs[off + k]? = s.cells[k]? := by
 rw [← h.2.2, List.getElem?_take_of_lt hk, List.getElem?_drop]
theorem Addr.add_none (b o k : Nat) : (⟨b, o, none⟩ : Addr).add k = ⟨b, o + k, none⟩ := by
 unfold Addr.add; split <;> simp_all
theorem run_loadVar_part {P : Program} {t : TypeId} {r : TRow} (hr : RowOk P t r) {w : World} {a : Addr} {s : AV} (ha : a.spot = none) (hs : s.size = r.size)
  (hk : if r.d.isAgg then s.isAgg = true else s.plain = true) (hc : ∀ k, k < s.size → w.cell? ⟨a.block, a.off + k, none⟩ = s.cells[k]?) :
  (loadVar t a).run P w = .ok s.val w := by
 obtain ⟨b, o, sp⟩ := a
 cases ha
 unfold loadVar
 rw [Sem.run_bind, hr.run_isAgg, Result.andThen_ok]
 cases hg : r.d.isAgg with
 | true =>
  rw [hg] at hk
  simp only [if_true] at hk ⊢
  rw [Sem.run_bind, hr.run_sizeOf, Result.andThen_ok, Sem.run_bind, ← hs, ← AV.size_cells, run_loadCells_list w _ s.cells ?_, Result.andThen_ok, AV.val_of_cells hk]
  ·
   rfl
  ·
   intro j v hv
   rw [Addr.add_none, hc j (by rw [← AV.size_cells]; exact (List.getElem?_eq_some_iff.1 hv).1)]
   exact hv
 | false =>
  rw [hg] at hk
  simp only [Bool.false_eq_true, if_false] at hk ⊢
  have h0 : s.cells = [s.val] := AV.cells_plain hk
  have := hc 0 (by rw [← AV.size_cells, h0]; simp)
  rw [h0] at this
  simp at this
  rw [run_load, this]
abbrev Tm := List (Nat × Option Bool × AV)
def Tm.get : Tm → Nat → Option (Option Bool × AV)
  | [], _ => none
  | (k, e) :: r, t => match Nat.beq k t with
    | true => some e
    | false => Tm.get r t
theorem Tm.get_cons (k n : Nat) (e : Option Bool × AV) (M : Tm) : Tm.get ((k, e) :: M) n = if k = n then some e else M.get n := by
  show (match Nat.beq k n with | true => some e | false => M.get n) = _
  by_cases h : k = n
  · subst h; simp
  · have : Nat.beq k n = false := by
      cases hh : Nat.beq k n with
      | true => exact absurd (Nat.eq_of_beq_eq_true hh) h
      | false => rfl
    rw [this, if_neg h]
def SlotOk (a : Act) (t : Nat) : Option Bool × AV → Prop
  | (none, av) => t < a.tmps.size ∧ a.tmps.getD t undef = av.val
  | (some g, av) => t < a.tmps.size ∧ a.tmps.getD t undef = if g then av.val else undef
abbrev TmF := Nat → Option (Option Bool × AV)
structure SatT (N : Nat) (tm : TmF) (a : Act) : Prop where
  size : a.tmps.size = N
  slot : ∀ t e, tm t = some e → SlotOk a t e
def opd (tm : TmF) : Operand → Option (Option Bool × AV)
  | .tmp t => tm t
  | .const v => some (none, .v v)
  | .func f => some (none, .fn f .nil)
  | .global g => some (none, .ptr ⟨100000 + g, 0, g, 0, 0, 0, 0, 0, false⟩)
def need : Option Bool → Option Bool → Prop
  | _, none => True
  | none, some c => c = true
  | some g, some c => g = true → c = true
def holdsG : Option Bool → Prop
  | none => True
  | some g => g = true
def imp (g : Option Bool) (p : Prop) : Prop := match g with
  | none => p
  | some b => b = true → p
theorem imp_elim {g : Option Bool} {p : Prop} (h : imp g p) (hg : holdsG g) : p := by
  cases g with
  | none => exact h
  | some b => exact h hg
theorem opd_sound {N : Nat} {tm : TmF} {a : Act} (hT : SatT N tm a) {x : Operand} {c : Option Bool} {av : AV} (h : opd tm x = some (c, av)) {g : Option Bool} (hn : need g c) (hg : holdsG g) :
    a.eval x = av.val := by
  cases x with
  | tmp t =>
    have h2 := hT.slot t _ h
    cases c with
    | none => exact h2.2
    | some b =>
      have hb : b = true := by
        cases g with
        | none => exact hn
        | some g => exact hn hg
      subst hb
      exact h2.2
  | const v => cases h; rfl
  | func f => cases h; rfl
  | global g => cases h; simp [Act.eval, AV.val, AV.den, Pt.addr, Pt.cell]
inductive R where
  | val (c : Prop) (a : AV)
  | new (c : Prop) (a : Nat → AV) (B : Nat → Blk)
def R.cond : R → Prop
  | .val c _ => c
  | .new c _ _ => c
def R.out : R → Nat → AV
  | .val _ a, _ => a
  | .new _ a _, b => a b
def R.laid (w w' : World) : R → Nat → Prop
  | .val _ _, _ => True
  | .new _ _ B, b => (∀ k, (B b).own k → w.heap.size ≤ k) ∧ (∀ k, ¬ (B b).reads k) ∧ (B b).holds w'
def binI (op : BinOp) (k : IntKind) (a b : Int) : Option (Prop × Value) :=
  match op with
  | .add => some (True, .int k (k.wrap (a + b)))
  | .sub => some (True, .int k (k.wrap (a - b)))
  | .mul => some (True, .int k (k.wrap (a * b)))
  | .quo => some (b ≠ 0, .int k (k.wrap (a.tdiv b)))
  | .rem => some (b ≠ 0, .int k (a.tmod b))
  | .and => some (True, .int k (k.wrap (BitVec.ofInt k.bits a &&& BitVec.ofInt k.bits b).toNat))
  | .or => some (True, .int k (k.wrap (BitVec.ofInt k.bits a ||| BitVec.ofInt k.bits b).toNat))
  | .xor => some (True, .int k (k.wrap (BitVec.ofInt k.bits a ^^^ BitVec.ofInt k.bits b).toNat))
  | .andNot => some (True, .int k (k.wrap (BitVec.ofInt k.bits a &&& ~~~ BitVec.ofInt k.bits b).toNat))
  | .eql => some (True, .bool (a == b))
  | .neq => some (True, .bool (a != b))
  | .lss => some (True, .bool (a < b))
  | .leq => some (True, .bool (a ≤ b))
  | .gtr => some (True, .bool (a > b))
  | .geq => some (True, .bool (a ≥ b))
  | _ => none
def kindEq : IntKind → IntKind → Bool
  | .i8, .i8 | .i16, .i16 | .i32, .i32 | .i64, .i64 | .u8, .u8 | .u16, .u16 | .u32, .u32 | .u64, .u64 => true
  | _, _ => false
theorem kindEq_eq {a b : IntKind} (h : kindEq a b = true) : a = b := by cases a <;> cases b <;> first | rfl | cases h
def shiftV (op : BinOp) (k : IntKind) (a b : Int) : Option (Prop × Value) :=
  match op with
  | .shl => some (0 ≤ b, .int k (k.wrap (a * 2 ^ min b.toNat k.bits)))
  | .shr => some (0 ≤ b, .int k (a.fdiv (2 ^ min b.toNat k.bits)))
  | _ => none
def isShift : BinOp → Bool
  | .shl => true
  | .shr => true
  | _ => false
def strV (op : BinOp) (a b : ByteArray) : Option (Prop × Value) :=
  match op with
  | .eql => some (True, .bool (a.toList == b.toList))
  | .neq => some (True, .bool !(a.toList == b.toList))
  | .lss => some (True, .bool (Op.bytesLess a.toList b.toList))
  | .leq => some (True, .bool (Op.bytesLess a.toList b.toList || a.toList == b.toList))
  | .gtr => some (True, .bool !(Op.bytesLess a.toList b.toList || a.toList == b.toList))
  | .geq => some (True, .bool !(Op.bytesLess a.toList b.toList))
  | .add => some (a.size + b.size ≤ 9223372036854775807, .string (a ++ b))
  | _ => none
def binV (op : BinOp) (d : TD) : AV → AV → Option (Prop × Value)
  | .v (.int k a), .v (.int k' b) => match isShift op with
    | true => shiftV op k a b
    | false => match kindEq k k' with
      | true => binI op k a b
      | false => none
  | .v (.string a), .v (.string b) => strV op a b
  | .v (.bool a), .v (.bool b) => match d, op with
    | .bool, .eql => some (True, .bool (a == b))
    | .bool, .neq => some (True, .bool !(a == b))
    | _, _ => none
  | .v (.pointer none), .ptr _ | .ptr _, .v (.pointer none) => match d, op with
    | .ptr _, .eql => some (True, .bool false)
    | .ptr _, .neq => some (True, .bool true)
    | _, _ => none
  | .v (.pointer none), .v (.pointer none) => match d, op with
    | .ptr _, .eql => some (True, .bool true)
    | .ptr _, .neq => some (True, .bool false)
    | _, _ => none
  | .v (.slice none _ _), .sl .. | .sl .., .v (.slice none _ _) => match d, op with
    | .sl _, .eql => some (True, .bool false)
    | .sl _, .neq => some (True, .bool true)
    | _, _ => none
  | .v (.slice none _ _), .v (.slice none _ _) => match d, op with
    | .sl _, .eql => some (True, .bool true)
    | .sl _, .neq => some (True, .bool false)
    | _, _ => none
  | .v (.slice none _ _), .gs _ _ a _ _ _ _ | .gs _ _ a _ _ _ _, .v (.slice none _ _) => match d, op with
    | .sl _, .eql => some (True, .bool a.isNone)
    | .sl _, .neq => some (True, .bool !a.isNone)
    | _, _ => none
  | .v .nilFunc, .fn .. | .fn .., .v .nilFunc => match d, op with
    | .fn, .eql => some (True, .bool false)
    | .fn, .neq => some (True, .bool true)
    | _, _ => none
  | .v .nilFunc, .v .nilFunc => match d, op with
    | .fn, .eql => some (True, .bool true)
    | .fn, .neq => some (True, .bool false)
    | _, _ => none
  | .v (.map none), .mp .. | .mp .., .v (.map none) => match d, op with
    | .map .., .eql => some (True, .bool false)
    | .map .., .neq => some (True, .bool true)
    | _, _ => none
  | .v (.map none), .v (.map none) => match d, op with
    | .map .., .eql => some (True, .bool true)
    | .map .., .neq => some (True, .bool false)
    | _, _ => none
  | _, _ => none
theorem binI_run {P : Program} {op : BinOp} {k : IntKind} {a b : Int} {c : Prop} {v : Value} (hs : isShift op = false) (h : binI op k a b = some (c, v)) (hc : c) (t : TypeId) (w : World) :
    (binOp op t (.int k a) (.int k b)).run P w = .ok v w := by
  cases op <;> simp only [isShift, binI, Option.some.injEq, Prod.mk.injEq, reduceCtorEq] at h hs <;> (obtain ⟨rfl, rfl⟩ := h) <;>
    simp_all [binOp, Op.intArith, Op.intDiv, Op.intBits, Op.intCmp]
theorem shiftV_run {P : Program} {op : BinOp} {k k' : IntKind} {a b : Int} {c : Prop} {v : Value} (hs : isShift op = true) (h : shiftV op k a b = some (c, v)) (hc : c) (t : TypeId) (w : World) :
    (binOp op t (.int k a) (.int k' b)).run P w = .ok v w := by
  cases op <;> simp only [isShift, shiftV, Option.some.injEq, Prod.mk.injEq, reduceCtorEq] at h hs <;> (obtain ⟨rfl, rfl⟩ := h) <;>
    (simp only [binOp, Op.shift]; rw [if_neg (by omega)]; rfl)
theorem eqGuard_one {P : Program} {op : BinOp} {t : TypeId} {x y : Operand} {a b : Value} (ha : a.oneCell' = true) (hi : a ≠ .nilIface) (w : World) : (eqGuard op t x y a b).run P w = .ok () w := by
  unfold eqGuard
  cases a <;> first | (simp [Value.oneCell'] at ha; done) | (simp at hi; done) | (split <;> rfl)
theorem viewD_bool {P : Program} {d : TypeDesc} (h : viewD P d = .bool) : d = .bool := by cases d <;> simp [viewD] at h; rfl
theorem viewD_ptr {P : Program} {d : TypeDesc} {e : TypeId} (h : viewD P d = .ptr e) : d = .pointer e := by cases d <;> simp [viewD] at h; rw [h]
theorem viewD_fn {P : Program} {d : TypeDesc} (h : viewD P d = .fn) : ∃ a b c, d = .func a b c := by cases d <;> simp [viewD] at h; exact ⟨_, _, _, rfl⟩
theorem viewD_sl {P : Program} {d : TypeDesc} {e : TypeId} (h : viewD P d = .sl e) : d = .slice e := by cases d <;> simp [viewD] at h; rw [h]
theorem viewD_map {P : Program} {d : TypeDesc} {k e : TypeId} (h : viewD P d = .map k e) : d = .map k e := by cases d <;> simp [viewD] at h; rw [h.1, h.2]
theorem viewD_arr {P : Program} {d : TypeDesc} {n : Nat} {e : TypeId} (h : viewD P d = .arr n e) : d = .array n e := by cases d <;> simp [viewD] at h; rw [h.1, h.2]
theorem viewD_st {P : Program} {d : TypeDesc} {fs} (h : viewD P d = .st fs) : ∃ gs : Array Field, d = .struct gs ∧ gs.toList.map (fun f => (f.offset, P.cellsOf f.type, f.type)) = fs := by
  cases d <;> simp [viewD] at h
  exact ⟨_, rfl, h⟩
theorem run_equal_of {P : Program} {t : TypeId} {x y : Value} {b : Bool} {w : World} (h : ∀ d, (Op.equalIn (d + 1) t x y).run P w = .ok b w) : (Op.equal t x y).run P w = .ok b w := h 9999
theorem run_eql_of {P : Program} {t : TypeId} {x y : Value} {b : Bool} {w : World} (hx : binOp .eql t x y = (do pure (.bool (← Op.equal t x y)))) (h : ∀ d, (Op.equalIn (d + 1) t x y).run P w = .ok b w) :
    (binOp .eql t x y).run P w = .ok (.bool b) w := by
  rw [hx, Sem.run_bind, run_equal_of h]; rfl
theorem run_neq_of {P : Program} {t : TypeId} {x y : Value} {b : Bool} {w : World} (hx : binOp .neq t x y = (do pure (.bool (!(← Op.equal t x y))))) (h : ∀ d, (Op.equalIn (d + 1) t x y).run P w = .ok b w) :
    (binOp .neq t x y).run P w = .ok (.bool !b) w := by
  rw [hx, Sem.run_bind, run_equal_of h]; rfl
theorem eq_nil1 {P : Program} {t e : TypeId} {w : World} (hd : (underlying t).run P w = .ok (.slice e) w) (b : Option Addr) (n c n' c' d : Nat) : (Op.equalIn (d + 1) t (.slice none n c) (.slice b n' c')).run P w = .ok b.isNone w := by
  unfold Op.equalIn; rw [Sem.run_bind, hd]; rfl
theorem eq_nil2 {P : Program} {t e : TypeId} {w : World} (hd : (underlying t).run P w = .ok (.slice e) w) (b : Option Addr) (n c n' c' d : Nat) : (Op.equalIn (d + 1) t (.slice b n' c') (.slice none n c)).run P w = .ok b.isNone w := by
  cases b <;> (unfold Op.equalIn; rw [Sem.run_bind, hd]; rfl)
theorem map_isNone {α β : Type} (f : α → β) (a : Option α) : (a.map f).isNone = a.isNone := by cases a <;> rfl
theorem gs_val (n ix : Nat) (a : Option (Nat × Nat)) (es i0 len cap : Nat) : (AV.gs n ix a es i0 len cap).val = .slice (a.map fun p => ⟨p.1, p.2 + i0 * es, none⟩) len cap := rfl
theorem binV_run {P : Program} {op : BinOp} {t : TypeId} {r : TRow} (hr : RowOk P t r) {x y : AV} {c : Prop} {v : Value} (h : binV op r.d x y = some (c, v)) (hc : c) (xo yo : Operand) (w : World) :
    (do eqGuard op t xo yo x.val y.val; binOp op t x.val y.val).run P w = .ok v w := by
  have key : ∀ {a b : Value}, a.oneCell' = true → a ≠ .nilIface → (binOp op t a b).run P w = .ok v w → (do eqGuard op t xo yo a b; binOp op t a b).run P w = .ok v w := by
    intro a b ha hi hb
    rw [Sem.run_bind, eqGuard_one ha hi w, Result.andThen_ok]; exact hb
  obtain ⟨d, hd, hv⟩ := hr.run_under w
  unfold binV at h
  split at h
  · rename_i k a k' b
    refine key rfl (by simp) ?_
    split at h
    · rename_i hs; exact shiftV_run hs h hc t w
    · rename_i hs
      split at h
      · rename_i hk; rw [kindEq_eq hk] at h ⊢; exact binI_run hs h hc t w
      · cases h
  · rename_i a b
    refine key rfl (by simp) ?_
    show (binOp op t (.string a) (.string b)).run P w = _
    cases op <;> simp only [strV, Option.some.injEq, Prod.mk.injEq, reduceCtorEq] at h <;> (obtain ⟨rfl, rfl⟩ := h) <;> first | rfl | skip
    show (Op.stringOp .add a b).run P w = _
    unfold Op.stringOp
    simp only []
    rw [if_neg (by simp only [IntKind.max, IntKind.signed, IntKind.bits]; omega)]
    rfl
  all_goals
    first
    | (cases h; done)
    | (refine key rfl (by simp [AV.val, AV.den]) ?_
       split at h <;> first | (cases h; done) | skip
       all_goals
         rename_i hd'
         cases h
         rw [hd'] at hv
         first
           | rw [viewD_bool hv] at hd
           | rw [viewD_ptr hv] at hd
           | rw [viewD_sl hv] at hd
           | rw [viewD_map hv] at hd
           | (obtain ⟨_, _, _, hv⟩ := viewD_fn hv; rw [hv] at hd)
         first
           | exact run_eql_of rfl (fun d => by unfold Op.equalIn; rw [Sem.run_bind, hd]; rfl)
           | exact run_neq_of (b := true) rfl (fun d => by unfold Op.equalIn; rw [Sem.run_bind, hd]; rfl)
           | exact run_neq_of (b := false) rfl (fun d => by unfold Op.equalIn; rw [Sem.run_bind, hd]; rfl)
           | exact run_neq_of rfl (fun d => by unfold Op.equalIn; rw [Sem.run_bind, hd]; rfl)
           | (rw [gs_val, AV.val_v]
              first
              | exact run_eql_of rfl (fun d => (eq_nil1 hd _ _ _ _ _ d).trans (by rw [map_isNone]))
              | exact run_eql_of rfl (fun d => (eq_nil2 hd _ _ _ _ _ d).trans (by rw [map_isNone]))
              | exact run_neq_of rfl (fun d => (eq_nil1 hd _ _ _ _ _ d).trans (by rw [map_isNone]))
              | exact run_neq_of rfl (fun d => (eq_nil2 hd _ _ _ _ _ d).trans (by rw [map_isNone]))))
def EqRow (P : Program) (t : TypeId) : Prop := P.stoodInHeld t = false ∧ (P.fieldsOf t).all (fun f => f.name != "_") = true ∧ P.eqGuardType P.depth t = false
def EqOk (P : Program) : List TypeId → Prop
 | [] => True
 | t :: r => EqRow P t ∧ EqOk P r
def memN : List TypeId → Nat → Bool
 | [], _ => false
 | k :: r, t => match Nat.beq k t with
  | true => true
  | false => memN r t
theorem EqOk.mem {P : Program} : ∀ {l : List TypeId} {t : Nat}, EqOk P l → memN l t = true → EqRow P t
 | [], _, _, h => by cases h
 | k :: r, t, ho, h => by
  simp only [memN] at h
  split at h
  ·
   rename_i hk; rw [← Nat.eq_of_beq_eq_true hk]; exact ho.1
  ·
   exact EqOk.mem ho.2 h
def eqLeaf : TD → AV → AV → Option Bool
 | .int k, .v (.int k1 a), .v (.int k2 b) => match kindEq k1 k && kindEq k2 k with
  | true => some (a == b)
  | false => none
 | .bool, .v (.bool a), .v (.bool b) => some (a == b)
 | .str, .v (.string a), .v (.string b) => some (a.toList == b.toList)
 | _, _, _ => none
def intsEq (n : Nat) (a b : List Int) : Bool := (List.range n).all fun j => a.getD j 0 == b.getD j 0
mutual
def eqT (tb : Tbl) (eqs : List TypeId) : Nat → TypeId → AV → AV → Option Bool
 | 0, _, _, _ => none
 | d + 1, t, x, y => match tb.get t with
  | none => none
  | some r => match r.d, x, y with
   | .arr n e, .ints k1 n1 a, .ints k2 n2 b => match tb.get e with
    | none => none
    | some re => match re.d, Nat.beq re.size 1 with
     | .int k, true => match kindEq k1 k && kindEq k2 k && Nat.beq n1 n && Nat.beq n2 n with
      | true => some (intsEq n a b)
      | false => none
     | _, _ => none
   | .st fs, .agg l, .agg m => match memN eqs t with
    | true => eqF tb eqs d fs 0 l m
    | false => none
   | dd, x, y => eqLeaf dd x y
def eqF (tb : Tbl) (eqs : List TypeId) : Nat → List (Nat × Nat × TypeId) → Nat → AV → AV → Option Bool
 | 0, _, _, _, _ => none
 | d + 1, fs, run, l, m => match fs, l, m with
  | [], .nil, .nil => some true
  | (o, s, t) :: fs, .cons a l, .cons b m => match Nat.beq o run && a.isSize s && b.isSize s, fitsK tb t a, fitsK tb t b with
   | true, true, true => match eqT tb eqs d t a b, eqF tb eqs d fs (o + s) l m with
    | some p, some q => some (p && q)
    | _, _ => none
   | _, _, _ => none
  | _, _, _ => none
def fitsK (tb : Tbl) (t : TypeId) (a : AV) : Bool := match tb.get t with
 | none => false
 | some r => a.isSize r.size && (match r.d.isAgg with
  | true => a.isAgg
  | false => a.plain)
end
theorem run_part {P : Program} {t : TypeId} {r : TRow} (hr : RowOk P t r) {cs : Array Value} {off : Nat} {s : AV} (hp : Part off r.size cs.toList s)
  (hk : if r.d.isAgg then s.isAgg = true else s.plain = true) (w : World) : (part t cs off).run P w = .ok s.val w := by
 unfold part
 rw [Sem.run_bind, hr.run_isAgg, Result.andThen_ok]
 obtain ⟨h1, h2, h3⟩ := hp
 cases hg : r.d.isAgg with
 | true =>
  rw [hg] at hk
  simp only [if_true] at hk ⊢
  rw [Sem.run_bind, hr.run_sizeOf, Result.andThen_ok, AV.val_of_cells hk, ← h3, Sem.run_pure]
  congr 2
  apply Array.ext'
  simp [Array.toList_extract, List.extract_eq_take_drop]
 | false =>
  rw [hg] at hk
  simp only [Bool.false_eq_true, if_false] at hk ⊢
  have h0 : s.cells = [s.val] := AV.cells_plain hk
  have hlen := AV.size_cells s
  rw [h0] at h3 hlen
  simp at hlen
  have : cs[off]? = some s.val := by
   have e := congrArg (fun l => l[0]?) h3
   rw [List.getElem?_take_of_lt (by omega), List.getElem?_drop] at e
   simpa using e
  rw [this]; rfl
theorem fitsK_spec {P : Program} {tb : Tbl} (hb : TblOk P tb) {t : TypeId} {a : AV} (h : fitsK tb t a = true) : ∃ r, tb.get t = some r ∧ RowOk P t r ∧ r.size = a.size ∧ (if r.d.isAgg then a.isAgg = true else a.plain = true) := by
 unfold fitsK at h
 split at h
 ·
  cases h
 ·
  rename_i r hr
  obtain ⟨h1, h2⟩ := (Bool.and_eq_true _ _ ▸ h : _ ∧ _)
  refine ⟨r, hr, hb.get hr, (AV.isSize_eq h1).symm, ?_⟩
  cases hg : r.d.isAgg <;> rw [hg] at h2 <;> simpa using h2
theorem run_forIn_range {P : Program} {α : Type} (f : Nat → α → Sem (ForInStep α)) (w : World) (n : Nat) (a : α) :
  (forIn [0:n] a f).run P w = (forIn (List.range n) a f).run P w := by
 rw [Std.Legacy.Range.forIn_eq_forIn_range']
 simp [Std.Legacy.Range.size, List.range_eq_range']
theorem eqLeaf_run {P : Program} {t : TypeId} {r : TRow} (hr : RowOk P t r) {x y : AV} {b : Bool} (h : eqLeaf r.d x y = some b) (D : Nat) (w : World) :
  (Op.equalIn (D + 1) t x.val y.val).run P w = .ok b w := by
 obtain ⟨d, hd, hv⟩ := hr.under
 unfold eqLeaf at h
 split at h
 ·
  rename_i k k1 a k2 b' he
  split at h
  ·
   rename_i hk
   cases h
   simp only [Bool.and_eq_true] at hk
   rw [kindEq_eq hk.1, kindEq_eq hk.2]
   rw [he] at hv
   have : d = .int k := by cases d <;> simp [viewD] at hv; rw [hv]
   rw [this] at hd
   exact run_equalIn_int w D t k k a b' hd
  ·
   cases h
 ·
  rename_i a b' he
  cases h
  rw [he] at hv
  rw [viewD_bool hv] at hd
  exact run_equalIn_bool' w D t a b' hd
 ·
  rename_i a b' he
  cases h
  rw [he] at hv
  have : d = .string := by cases d <;> simp [viewD] at hv; rfl
  rw [this] at hd
  exact run_equalIn_string w D t a b' hd
 ·
  cases h
theorem run_eqInts {P : Program} {e : TypeId} {re : TRow} (hre : RowOk P e re) {k : IntKind} (hk : re.d = .int k) (hs : re.size = 1) {xs ys : Array Value} {n : Nat} {a b : List Int} (D : Nat) (w : World)
  (hx : xs = ((List.range n).map fun j => Value.int k (a.getD j 0)).toArray) (hy : ys = ((List.range n).map fun j => Value.int k (b.getD j 0)).toArray) {t : TypeId} (ht : P.underlying t = some (.array n e)) :
  (Op.equalIn (D + 2) t (.agg xs) (.agg ys)).run P w = .ok (intsEq n a b) w := by
 have hel : ∀ (l : List Int) (i : Nat), i < n → (part e ((List.range n).map fun j => Value.int k (l.getD j 0)).toArray (i * 1)).run P w = .ok (.int k (l.getD i 0)) w := by
  intro l i hi
  refine run_part hre (s := .v (.int k (l.getD i 0))) ⟨hs.symm, ?_, ?_⟩ ?_ w
  ·
   simp [hs]; omega
  ·
   simp only [hs, Nat.mul_one]
   rw [← List.map_drop, ← List.map_take, List.drop_eq_getElem_cons (by simpa using hi)]
   simp
  ·
   rw [hk]; rfl
 obtain ⟨d, hd, hv⟩ := hre.under
 rw [hk] at hv
 have hd2 : d = .int k := by cases d <;> simp [viewD] at hv; rw [hv]
 rw [hd2] at hd
 unfold Op.equalIn
 rw [Sem.run_bind, run_underlying ht, Result.andThen_ok]
 simp only []
 rw [Sem.run_bind, hre.run_sizeOf, Result.andThen_ok, hs, Sem.run_bind, run_forIn_range, hx, hy]
 have key : ∀ (l : List Nat), (∀ i ∈ l, i < n) → ∀ s : Option Bool × PUnit, s.1 = none →
   ∃ s' : Option Bool × PUnit, (forIn l s fun i r => (do
    if (!(← Op.equalIn (D + 1) e (← part e ((List.range n).map fun j => Value.int k (a.getD j 0)).toArray (i * 1)) (← part e ((List.range n).map fun j => Value.int k (b.getD j 0)).toArray (i * 1)))) = true then pure (ForInStep.done (some false, PUnit.unit)) else pure (ForInStep.yield (none, PUnit.unit)) : Sem _)).run P w = .ok s' w
    ∧ s'.1 = if l.all (fun j => a.getD j 0 == b.getD j 0) then none else some false := by
  intro l
  induction l with
  | nil => intro _ s hs; exact ⟨s, rfl, by simpa using hs⟩
  | cons i l ih =>
   intro hl s hsn
   rw [List.forIn_cons]
   have hi := hl i (by simp)
   simp only [Sem.run_bind, hel a i hi, hel b i hi, Result.andThen_ok, run_equalIn_int w D e k k _ _ hd]
   cases hq : (a.getD i 0 == b.getD i 0) with
   | true =>
    simp only [Bool.not_true, Bool.false_eq_true, if_false, Sem.run_pure, Result.andThen_ok]
    obtain ⟨s', h1, h2⟩ := ih (fun j hj => hl j (by simp [hj])) (none, PUnit.unit) rfl
    refine ⟨s', ?_, ?_⟩
    ·
     simpa [Sem.run_bind] using h1
    ·
     rw [h2, List.all_cons, hq, Bool.true_and]
   | false =>
    simp only [Bool.not_false, if_true, Sem.run_pure, Result.andThen_ok]
    exact ⟨(some false, PUnit.unit), rfl, by rw [List.all_cons, hq, Bool.false_and]; rfl⟩
 obtain ⟨s', h1, h2⟩ := key (List.range n) (fun i hi => List.mem_range.1 hi) (none, ()) rfl
 rw [h1, Result.andThen_ok, h2]
 unfold intsEq
 cases (List.range n).all fun j => a.getD j 0 == b.getD j 0 <;> rfl
theorem fields_map {P : Program} {gs : Array Field} {fs : List (Nat × Nat × TypeId)} (h : gs.toList.map (fun f => (f.offset, P.cellsOf f.type, f.type)) = fs) : gs.toList.map (fun f => (f.offset, f.type)) = fs.map (fun f => (f.1, f.2.2)) := by
 rw [← h, List.map_map]; rfl
mutual
theorem eqT_run {P : Program} {tb : Tbl} (hb : TblOk P tb) {eqs : List TypeId} (he : EqOk P eqs) : ∀ (d : Nat) {t : TypeId} {x y : AV} {b : Bool}, eqT tb eqs d t x y = some b → ∀ (D : Nat), d < D → ∀ w : World,
  (Op.equalIn D t x.val y.val).run P w = .ok b w
 | 0, _, _, _, _, h, _, _, _ => by simp [eqT] at h
 | d + 1, t, x, y, b, h, D, hD, w => by
  obtain ⟨D, rfl⟩ : ∃ m, D = m + 2 := ⟨D - 2, by omega⟩
  simp only [eqT] at h
  split at h
  ·
   cases h
  ·
   rename_i r hr
   have hro := hb.get hr
   split at h
   ·
    rename_i n e k1 n1 a k2 n2 b' hd
    split at h
    ·
     cases h
    ·
     rename_i re hre
     split at h
     ·
      rename_i k hk hs
      split at h
      ·
       rename_i hq
       cases h
       simp only [Bool.and_eq_true] at hq
       obtain ⟨⟨⟨q1, q2⟩, q3⟩, q4⟩ := hq
       have q1 := kindEq_eq q1; have q2 := kindEq_eq q2
       have q3 := Nat.eq_of_beq_eq_true q3; have q4 := Nat.eq_of_beq_eq_true q4
       subst q1 q2 q3 q4
       obtain ⟨dd, hdd, hv⟩ := hro.under
       rw [hd] at hv
       rw [viewD_arr hv] at hdd
       exact run_eqInts (hb.get hre) hk (Nat.eq_of_beq_eq_true hs) D w rfl rfl hdd
      ·
       cases h
     ·
      cases h
   ·
    rename_i fs l m hd
    split at h
    ·
     rename_i hm
     obtain ⟨e1, e2, e3⟩ := he.mem hm
     obtain ⟨dd, hdd, hv⟩ := hro.under
     rw [hd] at hv
     obtain ⟨gs, rfl, hgs⟩ := viewD_st hv
     have hf : P.fieldsOf t = gs := by simp [Program.fieldsOf, hdd]
     show (Op.equalIn (D + 1 + 1) t (.agg l.cells.toArray) (.agg m.cells.toArray)).run P w = _
     rw [run_equalIn_struct w (D + 1) t _ _ (by rw [hf]; exact hdd) e1, hf]
     rw [hf] at e2
     refine eqF_run hb he d h (D + 1) (by omega) gs.toList (fields_map hgs) ?_ [] [] rfl rfl w
     intro f hf
     have := Array.all_eq_true_iff_forall_mem.1 e2 f (by simpa using hf)
     simpa using this
    ·
     cases h
   ·
    exact eqLeaf_run hro h (D + 1) w
theorem eqF_run {P : Program} {tb : Tbl} (hb : TblOk P tb) {eqs : List TypeId} (he : EqOk P eqs) : ∀ (d : Nat) {fs : List (Nat × Nat × TypeId)} {run : Nat} {l m : AV} {b : Bool}, eqF tb eqs d fs run l m = some b → ∀ (D : Nat), d < D →
  ∀ gs : List Field, gs.map (fun f => (f.offset, f.type)) = fs.map (fun f => (f.1, f.2.2)) → (∀ f ∈ gs, f.name ≠ "_") → ∀ (cs1 cs2 : List Value), cs1.length = run → cs2.length = run → ∀ w : World,
  (Op.eqFields D (cs1 ++ l.cells).toArray (cs2 ++ m.cells).toArray gs).run P w = .ok b w
 | d, fs, run, l, m, b, h, D, hD, gs, hg, hn, cs1, cs2, hc1, hc2, w => by
  cases d with
  | zero => simp [eqF] at h
  | succ d =>
   simp only [eqF] at h
   split at h
   ·
    have hgn : gs = [] := by simpa using hg
    subst hgn
    cases h
    rfl
   ·
    rename_i o s t fs a l b' m
    split at h
    ·
     rename_i hq1 hk1 hk2
     split at h
     ·
      rename_i p q hp hq
      cases h
      cases gs with
      | nil => simp at hg
      | cons g gs =>
       simp only [List.map_cons, List.cons.injEq, Prod.mk.injEq] at hg
       obtain ⟨⟨hgo, hgt⟩, hg⟩ := hg
       simp only [Bool.and_eq_true] at hq1
       obtain ⟨⟨q1, q2⟩, q3⟩ := hq1
       have q1 := Nat.eq_of_beq_eq_true q1; have q2 := (AV.isSize_eq q2).symm; have q3 := (AV.isSize_eq q3).symm
       obtain ⟨r1, hr1, ho1, hs1, hk1⟩ := fitsK_spec hb hk1
       obtain ⟨r2, hr2, ho2, hs2, hk2⟩ := fitsK_spec hb hk2
       have hrr : r1 = r2 := by rw [hr1] at hr2; exact Option.some.inj hr2
       subst hrr
       have pa : (part g.type (cs1 ++ (AV.cons a l).cells).toArray g.offset).run P w = .ok a.val w := by
        rw [hgt, hgo]
        refine run_part ho1 ?_ hk1 w
        rw [AV.cells_cons, ← List.append_assoc]
        refine Part.inl (Part.inr (by omega) ?_)
        rw [hs1, show o - cs1.length = 0 by omega]
        exact Part.whole a
       have pb : (part g.type (cs2 ++ (AV.cons b' m).cells).toArray g.offset).run P w = .ok b'.val w := by
        rw [hgt, hgo]
        refine run_part ho1 ?_ hk2 w
        rw [AV.cells_cons, ← List.append_assoc]
        refine Part.inl (Part.inr (by omega) ?_)
        rw [hs2, show o - cs2.length = 0 by omega]
        exact Part.whole b'
       have pe := eqT_run hb he d hp D (by omega) w
       rw [← hgt] at pe
       have pr := eqF_run hb he d hq D (by omega) gs hg (fun f hf => hn f (by simp [hf])) (cs1 ++ a.cells) (cs2 ++ b'.cells) (by simp [AV.size_cells]; omega) (by simp [AV.size_cells]; omega) w
       rw [List.append_assoc, List.append_assoc, ← AV.cells_cons, ← AV.cells_cons] at pr
       unfold Op.eqFields
       rw [if_pos (hn g (by simp)), Sem.run_bind, pa, Result.andThen_ok, Sem.run_bind, pb, Result.andThen_ok, Sem.run_bind, pe, Result.andThen_ok, Sem.run_ite]
       cases p
       ·
        simp
       ·
        simp only [Bool.not_true, Bool.false_eq_true, if_false, Bool.true_and]; exact pr
     ·
      cases h
    ·
     cases h
   ·
    cases h
end
theorem eqT_bin {P : Program} {tb : Tbl} (hb : TblOk P tb) {eqs : List TypeId} (he : EqOk P eqs) {t : TypeId} {x y : AV} {b : Bool} (h : eqT tb eqs 64 t x y = some b) (hx : x.isAgg = true) (hy : y.isAgg = true)
  (hg : P.eqGuardType P.depth t = false) (xo yo : Operand) (w : World) :
  (do eqGuard .eql t xo yo x.val y.val; binOp .eql t x.val y.val).run P w = .ok (.bool b) w ∧ (do eqGuard .neq t xo yo x.val y.val; binOp .neq t x.val y.val).run P w = .ok (.bool !b) w := by
 have hq : (Op.equalIn 10000 t x.val y.val).run P w = .ok b w := eqT_run hb he 64 h 10000 (by omega) w
 rw [AV.val_of_cells hx, AV.val_of_cells hy] at hq ⊢
 constructor
 ·
  rw [Sem.run_bind, run_eqGuard_agg w _ _ _ _ _ _ hg, Result.andThen_ok, run_eql_struct, hq]; rfl
 ·
  rw [Sem.run_bind, run_eqGuard_agg w _ _ _ _ _ _ hg, Result.andThen_ok, run_neq_struct, hq]; rfl
end Go.Proofs.YtofophjfgalhaaaGreatDoor.V
