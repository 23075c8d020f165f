import Derived.Test.YtaohdlepocajcaaV1
import Derived.Below
import Derived.MapKept
/-! The abstract memory, the types' table, what a state says of a world; growth. -/
namespace Go.Proofs.Ytaohdlepocajcaa.V
open Go Go.RowKit

inductive Blk where
  /-- a row of one's own: block b holds cap elements of type T, of es cells each; the first len are f 0, f 1, .. -/
  | row (b : Nat) (T : TypeId) (es len : Nat) (f : Nat → AV) (cap : Nat)
  /-- a slice's row of one's own (none: there is none) -/
  | vrow (a : Option Nat) (T : TypeId) (es len : Nat) (f : Nat → AV) (cap : Nat)
  /-- slices' rows that are only read -/
  | vro (es : Nat) (base : Nat → Option (Nat × Nat)) (len : Nat → Nat) (f : Nat → Nat → AV)
  /-- a map (mine: one's own): keys, values, stamps, in the order in which they came -/
  | mp (mine : Bool) (b : Nat) (l : List (AV × AV × Nat)) (clock : Nat)
  /-- an iterator over a map -/
  | it (b : Nat) (m : Option Nat) (since : Nat) (seen : List Nat) (last : Nat)
  /-- a variable that is only read -/
  | var (b : Nat) (x : AV)
  /-- (no memory:) what is deferred -/
  | dfr (l : List Deferred)
  /-- whatever of one's own -/
  | sep (S : Nat → Prop) (φ : World → Prop)

abbrev Mem := List (Nat × Blk)
abbrev MemF := Nat → Option Blk
def Mem.get : Mem → Nat → Option Blk
  | [], _ => none
  | (k, B) :: r, n => match Nat.beq k n with
    | true => some B
    | false => Mem.get r n

def RowHolds (w : World) (b : Nat) (T : TypeId) (es len : Nat) (f : Nat → AV) (cap : Nat) : Prop :=
  ∃ c, w.heap[b]? = some (.cells c T (0, 0)) ∧ c.size = cap * es ∧ len ≤ cap ∧
      ∀ i, i < len → (f i).size = es ∧ (f i).one = true ∧ ∀ k, k < es → c[i * es + k]? = (f i).cells[k]?

def Blk.holds (w : World) : Blk → Prop
  | .row b T es len f cap => RowHolds w b T es len f cap
  | .vrow none _ _ len _ cap => len = 0 ∧ cap = 0
  | .vrow (some b) T es len f cap => RowHolds w b T es len f cap
  | .vro es base len f => ∀ ix, (base ix = none → len ix = 0) ∧ ∀ b o, base ix = some (b, o) → ∀ i, i < len ix → (f ix i).size = es ∧ (f ix i).one = true ∧ ∀ k, k < es → w.cell? ⟨b, o + i * es + k, none⟩ = (f ix i).cells[k]?
  | .mp _ b l clock => ∃ es, w.heap[b]? = some (.map es clock) ∧ MapKept.Stamped es clock ∧ (es.toList.map fun e => (e.key, e.val, e.born)) = l.map fun p => (p.1.val, p.2.1.val, p.2.2)
  | .it b m since seen last => w.heap[b]? = some (.mapIter m since seen.toArray last)
  | .var b x => 0 < x.size ∧ x.one = true ∧ ∀ k, k < x.size → w.cell? ⟨b, k, none⟩ = x.cells[k]?
  | .dfr _ => True
  | .sep S φ => (∀ k, S k → k < w.heap.size) ∧ ∀ w' : World, (∀ k, S k → w'.heap[k]? = w.heap[k]?) → φ w'

/-- the blocks that are one's own -/
def Blk.own : Blk → Nat → Prop
  | .row b .., k => b = k
  | .vrow a .., k => a = some k
  | .mp true b _ _, k => b = k
  | .it b .., k => b = k
  | .sep S _, k => S k
  | _, _ => False
/-- the blocks that are only read -/
def Blk.reads : Blk → Nat → Prop
  | .vro es base len _, b => 0 < es ∧ ∃ ix o, 0 < len ix ∧ base ix = some (b, o)
  | .mp false b' _ _, b => b' = b
  | .var b' _, b => b' = b
  | _, _ => False

theorem heap_lt {w : World} {b : Nat} {o : Obj} (h : w.heap[b]? = some o) : b < w.heap.size := (Array.getElem?_eq_some_iff.1 h).1
theorem cell_lt {w : World} {b o : Nat} {v : Value} (h : w.cell? ⟨b, o, none⟩ = some v) : b < w.heap.size := by
  unfold World.cell? at h
  cases hh : w.heap[b]? with
  | none => simp [hh] at h
  | some o => exact heap_lt hh
theorem cell_same {w w' : World} {b o : Nat} (h : w'.heap[b]? = w.heap[b]?) : w'.cell? ⟨b, o, none⟩ = w.cell? ⟨b, o, none⟩ := by
  unfold World.cell?; simp only [h]

theorem RowHolds.lt {w : World} {b T es len cap : Nat} {f : Nat → AV} (h : RowHolds w b T es len f cap) : b < w.heap.size := by
  obtain ⟨c, h1, _⟩ := h; exact heap_lt h1
theorem Blk.own_lt {B : Blk} {w : World} (hB : B.holds w) {b : Nat} (h : B.own b) : b < w.heap.size := by
  cases B with
  | row => cases h; exact RowHolds.lt hB
  | vrow a => cases a with
    | none => cases h
    | some b' => cases h; exact RowHolds.lt hB
  | vro => cases h
  | mp m => cases m with
    | true => cases h; obtain ⟨_, h1, _⟩ := hB; exact heap_lt h1
    | false => cases h
  | it => cases h; exact heap_lt hB
  | var => cases h
  | dfr => cases h
  | sep S φ => exact hB.1 b h
theorem Blk.reads_lt {B : Blk} {w : World} (hB : B.holds w) {b : Nat} (h : B.reads b) : b < w.heap.size := by
  cases B with
  | row => cases h
  | vrow => cases h
  | vro es base len f =>
    obtain ⟨he, ix, o, hl, hb⟩ := h
    obtain ⟨h1, _, h2⟩ := (hB ix).2 b o hb 0 hl
    have h3 := h2 0 he
    rw [List.getElem?_eq_getElem (by rw [AV.size_cells]; omega)] at h3
    exact cell_lt h3
  | mp m => cases m with
    | true => cases h
    | false => cases h; obtain ⟨_, h1, _⟩ := hB; exact heap_lt h1
  | it => cases h
  | var b' x =>
    cases h
    obtain ⟨h0, _, h1⟩ := hB
    have h3 := h1 0 h0
    rw [List.getElem?_eq_getElem (by rw [AV.size_cells]; omega)] at h3
    exact cell_lt h3
  | dfr => cases h
  | sep => cases h

theorem RowHolds.frame {w w' : World} {b T es len cap : Nat} {f : Nat → AV} (h : RowHolds w b T es len f cap) (he : w'.heap[b]? = w.heap[b]?) : RowHolds w' b T es len f cap := by
  obtain ⟨c, h1, h2⟩ := h
  exact ⟨c, by rw [he]; exact h1, h2⟩
theorem Blk.holds_frame {B : Blk} {w w' : World} (h : B.holds w) (hsz : w.heap.size ≤ w'.heap.size) (hf : ∀ k, B.own k ∨ B.reads k → w'.heap[k]? = w.heap[k]?) : B.holds w' := by
  cases B with
  | row b => exact RowHolds.frame h (hf b (.inl rfl))
  | vrow a => cases a with
    | none => exact h
    | some b => exact RowHolds.frame h (hf b (.inl rfl))
  | vro es base len f =>
    refine fun ix => ⟨(h ix).1, fun b o hb i hi => ?_⟩
    obtain ⟨h1, h1', h2⟩ := (h ix).2 b o hb i hi
    refine ⟨h1, h1', fun k hk => ?_⟩
    rw [← h2 k hk]
    exact cell_same (hf _ (.inr ⟨by omega, ix, o, by omega, hb⟩))
  | mp m b l cl =>
    obtain ⟨es, h1, h2⟩ := h
    refine ⟨es, ?_, h2⟩
    rw [hf b (by cases m with | true => exact .inl rfl | false => exact .inr rfl)]
    exact h1
  | it b => exact (hf b (.inl rfl)).trans h
  | var b x =>
    refine ⟨h.1, h.2.1, fun k hk => ?_⟩
    rw [← h.2.2 k hk]
    exact cell_same (hf _ (.inr rfl))
  | dfr => trivial
  | sep S φ => exact ⟨fun k hk => Nat.lt_of_lt_of_le (h.1 k hk) hsz, fun w2 h2 => h.2 w2 fun k hk => (h2 k hk).trans (hf k (.inl hk))⟩

/-- what may be written: O. All else that was there stays. -/
structure Keeps (O : Nat → Prop) (w w' : World) : Prop where
  os : w'.os = w.os
  tape : w'.tape = w.tape
  output : w'.output = w.output
  size : w.heap.size ≤ w'.heap.size
  block : ∀ k, k < w.heap.size → ¬ O k → w'.heap[k]? = w.heap[k]?

theorem Keeps.refl (O : Nat → Prop) (w : World) : Keeps O w w := ⟨rfl, rfl, rfl, Nat.le_refl _, fun _ _ _ => rfl⟩

structure Sat (O : Nat → Prop) (w0 : World) (M : MemF) (w : World) : Prop where
  keeps : Keeps O w0 w
  holds : ∀ n B, M n = some B → B.holds w
  own : ∀ n B b, M n = some B → B.own b → O b
  apart : ∀ n m B B' b, M n = some B → M m = some B' → B.own b → B'.own b → n = m
  roapart : ∀ n m B B' b, M n = some B → M m = some B' → B.own b → ¬ B'.reads b

theorem Mem.get_cons (k n : Nat) (B : Blk) (M : Mem) : Mem.get ((k, B) :: M) n = if k = n then some B else M.get n := by
  show (match Nat.beq k n with | true => some B | false => M.get n) = _
  by_cases h : k = n
  · subst h; simp
  · have : Nat.beq k n = false := by
      cases hh : Nat.beq k n with
      | true => exact absurd (Nat.eq_of_beq_eq_true hh) h
      | false => rfl
    rw [this, if_neg h]

/-- from w to w': the entries of L are new or have turned; all else stays -/
structure Turn (M : MemF) (w w' : World) (L : MemF) : Prop where
  os : w'.os = w.os
  tape : w'.tape = w.tape
  output : w'.output = w.output
  size : w.heap.size ≤ w'.heap.size
  block : ∀ k, k < w.heap.size → (∀ n B B', L n = some B' → M n = some B → ¬ B.own k) → w'.heap[k]? = w.heap[k]?
  holds : ∀ n B, L n = some B → B.holds w'
  own : ∀ n B b, L n = some B → B.own b → w.heap.size ≤ b ∨ ∃ n' B0 B1, L n' = some B1 ∧ M n' = some B0 ∧ B0.own b
  apart : ∀ n m B B' b, L n = some B → L m = some B' → B.own b → B'.own b → n = m
  noreads : ∀ n B b, L n = some B → ¬ B.reads b

def updM (L M : MemF) : MemF := fun n => match L n with
  | some B => some B
  | none => M n
theorem updM_some {L M : MemF} {n : Nat} {B : Blk} (h : updM L M n = some B) : L n = some B ∨ (L n = none ∧ M n = some B) := by
  unfold updM at h
  cases hL : L n with
  | none => rw [hL] at h; exact .inr ⟨rfl, h⟩
  | some B' => rw [hL] at h; exact .inl h

theorem Sat.turn {O : Nat → Prop} {w0 w w' : World} {M L : MemF} (h : Sat O w0 M w) (ht : Turn M w w' L) (hO : ∀ b, w0.heap.size ≤ b → O b) : Sat O w0 (updM L M) w' := by
  have old : ∀ n B b, L n = some B → B.own b → (w.heap.size ≤ b ∨ ∃ n' B0 B1, L n' = some B1 ∧ M n' = some B0 ∧ B0.own b) := ht.own
  refine ⟨⟨ht.os.trans h.keeps.os, ht.tape.trans h.keeps.tape, ht.output.trans h.keeps.output, Nat.le_trans h.keeps.size ht.size, fun k hk hno => ?_⟩, ?_, ?_, ?_, ?_⟩
  · rw [ht.block k (Nat.lt_of_lt_of_le hk h.keeps.size) fun n B B' _ hM ho => hno (h.own _ _ _ hM ho)]
    exact h.keeps.block k hk hno
  · intro n B hn
    rcases updM_some hn with hL | ⟨hL, hM⟩
    · exact ht.holds _ _ hL
    · refine Blk.holds_frame (h.holds _ _ hM) ht.size fun k hk => ht.block k ?_ fun n' B0 B' hL' hM' ho => ?_
      · rcases hk with hk | hk
        · exact Blk.own_lt (h.holds _ _ hM) hk
        · exact Blk.reads_lt (h.holds _ _ hM) hk
      · rcases hk with hk | hk
        · have := h.apart _ _ _ _ _ hM' hM ho hk
          subst this; rw [hL] at hL'; cases hL'
        · exact h.roapart _ _ _ _ _ hM' hM ho hk
  · intro n B b hn ho
    rcases updM_some hn with hL | ⟨hL, hM⟩
    · rcases old _ _ _ hL ho with h1 | ⟨n', B0, B1, _, h2, h3⟩
      · exact hO b (Nat.le_trans h.keeps.size h1)
      · exact h.own _ _ _ h2 h3
    · exact h.own _ _ _ hM ho
  · have half : ∀ n m B B' b, L n = some B → L m = none → M m = some B' → B.own b → B'.own b → False := by
      intro n m B B' b hL hL' hM' ho ho'
      rcases old _ _ _ hL ho with h1 | ⟨n', B0, B1, h1, h2, h3⟩
      · have := Blk.own_lt (h.holds _ _ hM') ho'; omega
      · have := h.apart _ _ _ _ _ h2 hM' h3 ho'
        subst this; rw [hL'] at h1; cases h1
    intro n m B B' b hn hm ho ho'
    rcases updM_some hn with hL | ⟨hL, hM⟩ <;> rcases updM_some hm with hL' | ⟨hL', hM'⟩
    · exact ht.apart _ _ _ _ _ hL hL' ho ho'
    · exact (half _ _ _ _ _ hL hL' hM' ho ho').elim
    · exact (half _ _ _ _ _ hL' hL hM ho' ho).elim
    · exact h.apart _ _ _ _ _ hM hM' ho ho'
  · intro n m B B' b hn hm ho hr
    rcases updM_some hm with hL' | ⟨hL', hM'⟩
    · exact ht.noreads _ _ _ hL' hr
    · rcases updM_some hn with hL | ⟨hL, hM⟩
      · rcases old _ _ _ hL ho with h1 | ⟨n', B0, B1, h1, h2, h3⟩
        · have := Blk.reads_lt (h.holds _ _ hM') hr; omega
        · exact h.roapart _ _ _ _ _ h2 hM' h3 hr
      · exact h.roapart _ _ _ _ _ hM hM' ho hr

theorem Turn.below {M : MemF} {w w' : World} (hb : Below w.heap.size w w') : Turn M w w' (fun _ => none) :=
  ⟨hb.os, hb.tape, hb.output, hb.size, fun k hk _ => hb.block k hk, fun _ _ h => (by cases h), fun _ _ _ h => (by cases h), fun _ _ _ _ _ h => (by cases h), fun _ _ _ h => (by cases h)⟩
theorem updM_none (M : MemF) : updM (fun _ => none) M = M := rfl
theorem Sat.below {O : Nat → Prop} {w0 w w' : World} {M : MemF} (h : Sat O w0 M w) (hb : Below w.heap.size w w') : Sat O w0 M w' := by
  refine ⟨⟨hb.os.trans h.keeps.os, hb.tape.trans h.keeps.tape, hb.output.trans h.keeps.output, Nat.le_trans h.keeps.size hb.size, fun k hk hno => (hb.block k (Nat.lt_of_lt_of_le hk h.keeps.size)).trans (h.keeps.block k hk hno)⟩, fun n B hM => ?_, h.own, h.apart, h.roapart⟩
  refine Blk.holds_frame (h.holds _ _ hM) hb.size fun k hk => hb.block k ?_
  rcases hk with hk | hk
  · exact Blk.own_lt (h.holds _ _ hM) hk
  · exact Blk.reads_lt (h.holds _ _ hM) hk

/-- one new block -/
theorem Turn.new {M : MemF} {w w' : World} (hb : Below w.heap.size w w') {k : Nat} {B : Blk} (hB : B.holds w') (ho : ∀ b, B.own b → w.heap.size ≤ b) (hr : ∀ b, ¬ B.reads b) : Turn M w w' (Mem.get [(k, B)]) := by
  have one : ∀ {n B'}, Mem.get [(k, B)] n = some B' → k = n ∧ B = B' := by
    intro n B' h
    rw [Mem.get_cons] at h
    split at h
    · rename_i e; exact ⟨e, Option.some.inj h⟩
    · cases h
  refine ⟨hb.os, hb.tape, hb.output, hb.size, fun j hj _ => hb.block j hj, ?_, ?_, ?_, ?_⟩
  · intro n B' h; rw [← (one h).2]; exact hB
  · intro n B' b h h2; rw [← (one h).2] at h2; exact .inl (ho b h2)
  · intro n m B1 B2 b h1 h2 _ _; rw [← (one h1).1, ← (one h2).1]
  · intro n B' b h; rw [← (one h).2]; exact hr b

/-- one block turned, or lying elsewhere now -/
theorem Turn.upd {M : MemF} {w w' : World} {k : Nat} {B0 B : Blk} (hM : M k = some B0) (hos : w'.os = w.os) (htape : w'.tape = w.tape) (hout : w'.output = w.output) (hsz : w.heap.size ≤ w'.heap.size)
    (hblk : ∀ j, j < w.heap.size → ¬ B0.own j → w'.heap[j]? = w.heap[j]?) (hB : B.holds w') (ho : ∀ b, B.own b → w.heap.size ≤ b ∨ B0.own b) (hr : ∀ b, ¬ B.reads b) : Turn M w w' (Mem.get [(k, B)]) := by
  have one : ∀ {n B'}, Mem.get [(k, B)] n = some B' → k = n ∧ B = B' := by
    intro n B' h
    rw [Mem.get_cons] at h
    split at h
    · rename_i e; exact ⟨e, Option.some.inj h⟩
    · cases h
  have self : Mem.get [(k, B)] k = some B := by rw [Mem.get_cons, if_pos rfl]
  refine ⟨hos, htape, hout, hsz, fun j hj hn => hblk j hj (hn k B0 B self hM), ?_, ?_, ?_, ?_⟩
  · intro n B' h; rw [← (one h).2]; exact hB
  · intro n B' b h h2
    rw [← (one h).2] at h2
    rcases ho b h2 with h3 | h3
    · exact .inl h3
    · exact .inr ⟨k, B0, B, self, hM, h3⟩
  · intro n m B1 B2 b h1 h2 _ _; rw [← (one h1).1, ← (one h2).1]
  · intro n B' b h; rw [← (one h).2]; exact hr b

/-! ### The types' table -/
inductive TD where
  | int (k : IntKind) | bool | str | ptr (e : TypeId) | sl (e : TypeId) | arr (n : Nat) (e : TypeId)
  | st (fs : List (Nat × Nat × TypeId)) | map (k e : TypeId) | fn | other

def viewD (P : Program) : TypeDesc → TD
  | .int k => .int k
  | .bool => .bool
  | .string => .str
  | .pointer e => .ptr e
  | .slice e => .sl e
  | .array n e => .arr n e
  | .struct fs => .st (fs.toList.map fun f => (f.offset, P.cellsOf f.type, f.type))
  | .map k e => .map k e
  | .func .. => .fn
  | _ => .other

structure TRow where
  d : TD
  size : Nat
  bytes : Nat
  zero : AV

abbrev Tbl := List (TypeId × TRow)
def Tbl.get : Tbl → Nat → Option TRow
  | [], _ => none
  | (k, r) :: rest, t => match Nat.beq k t with
    | true => some r
    | false => Tbl.get rest t

def RowOk (P : Program) (t : TypeId) (r : TRow) : Prop :=
  (P.underlying t).map (viewD P) = some r.d ∧ (P.info? t).map (fun i => (i.size, i.bytes, i.zero)) = some (r.size, r.bytes, some r.zero.val)
def TblOk (P : Program) : Tbl → Prop
  | [] => True
  | (t, r) :: rest => RowOk P t r ∧ TblOk P rest

theorem TblOk.get {P : Program} : ∀ {tb : Tbl} {t : Nat} {r : TRow}, TblOk P tb → tb.get t = some r → RowOk P t r
  | [], _, _, _, h => by cases h
  | (k, r0) :: rest, t, r, ho, h => by
    simp only [Tbl.get] at h
    split at h
    · rename_i hk
      cases h
      rw [← Nat.eq_of_beq_eq_true hk]
      exact ho.1
    · exact TblOk.get ho.2 h

/-- what a row says, fact by fact -/
theorem RowOk.under {P : Program} {t : TypeId} {r : TRow} (h : RowOk P t r) : ∃ d, P.underlying t = some d ∧ viewD P d = r.d := by
  obtain ⟨h1, _⟩ := h
  cases hd : P.underlying t with
  | none => rw [hd] at h1; cases h1
  | some d => rw [hd] at h1; exact ⟨d, rfl, Option.some.inj h1⟩
theorem RowOk.info {P : Program} {t : TypeId} {r : TRow} (h : RowOk P t r) : ∃ i, P.info? t = some i ∧ i.size = r.size ∧ i.bytes = r.bytes ∧ i.zero = some r.zero.val := by
  obtain ⟨_, h1⟩ := h
  cases hd : P.info? t with
  | none => rw [hd] at h1; cases h1
  | some i =>
    rw [hd] at h1
    simp only [Option.map_some, Option.some.injEq, Prod.mk.injEq] at h1
    exact ⟨i, rfl, h1.1, h1.2.1, h1.2.2⟩
theorem RowOk.run_sizeOf {P : Program} {t : TypeId} {r : TRow} (h : RowOk P t r) (w : World) : (sizeOf t).run P w = .ok r.size w := by
  obtain ⟨i, h1, h2, _⟩ := h.info
  simp [sizeOf, typeInfo, h1, h2]
theorem RowOk.run_under {P : Program} {t : TypeId} {r : TRow} (h : RowOk P t r) (w : World) : ∃ d, (underlying t).run P w = .ok d w ∧ viewD P d = r.d := by
  obtain ⟨d, h1, h2⟩ := h.under
  exact ⟨d, run_underlying h1 w, h2⟩
theorem RowOk.run_zero {P : Program} {t : TypeId} {r : TRow} (h : RowOk P t r) (w : World) : (zeroValue t).run P w = .ok r.zero.val w := by
  obtain ⟨i, h1, _, _, h3⟩ := h.info
  simp [zeroValue, typeInfo, h1, h3]
def TD.isAgg : TD → Bool
  | .st _ => true
  | .arr .. => true
  | _ => false
theorem RowOk.run_isAgg {P : Program} {t : TypeId} {r : TRow} (h : RowOk P t r) (w : World) : (Go.isAgg t).run P w = .ok r.d.isAgg w := by
  obtain ⟨d, h1, h2⟩ := h.run_under w
  unfold Go.isAgg
  rw [Sem.run_bind, h1]
  cases d <;> (simp only [viewD] at h2; simp [← h2, TD.isAgg])

/-! ### Loads and stores of parts -/
theorem getElem?_part {off n : Nat} {cs : List Value} {s : AV} (h : Part off n cs s) {k : Nat} (hk : k < n) : cs[off + k]? = s.cells[k]? := by
  rw [← h.2.2, List.getElem?_take_of_lt hk, List.getElem?_drop]

theorem Addr.add_none (b o k : Nat) : (⟨b, o, none⟩ : Addr).add k = ⟨b, o + k, none⟩ := by
  unfold Addr.add; split <;> simp_all

/-- A load of type t from a place whose cells are those of s. -/
theorem run_loadVar_part {P : Program} {t : TypeId} {r : TRow} (hr : RowOk P t r) {w : World} {a : Addr} {s : AV} (ha : a.spot = none) (hs : s.size = r.size)
    (hk : if r.d.isAgg then s.isAgg = true else s.plain = true) (hc : ∀ k, k < s.size → w.cell? ⟨a.block, a.off + k, none⟩ = s.cells[k]?) :
    (loadVar t a).run P w = .ok s.val w := by
  obtain ⟨b, o, sp⟩ := a
  cases ha
  unfold loadVar
  rw [Sem.run_bind, hr.run_isAgg, Result.andThen_ok]
  cases hg : r.d.isAgg with
  | true =>
    rw [hg] at hk
    simp only [if_true] at hk ⊢
    rw [Sem.run_bind, hr.run_sizeOf, Result.andThen_ok, Sem.run_bind, ← hs, ← AV.size_cells, run_loadCells_list w _ s.cells ?_, Result.andThen_ok, AV.val_of_cells hk]
    · rfl
    · intro j v hv
      rw [Addr.add_none, hc j (by rw [← AV.size_cells]; exact (List.getElem?_eq_some_iff.1 hv).1)]
      exact hv
  | false =>
    rw [hg] at hk
    simp only [Bool.false_eq_true, if_false] at hk ⊢
    have h0 : s.cells = [s.val] := AV.cells_plain hk
    have := hc 0 (by rw [← AV.size_cells, h0]; simp)
    rw [h0] at this
    simp at this
    rw [run_load, this]

end Go.Proofs.Ytaohdlepocajcaa.V
