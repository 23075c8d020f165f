import Derived.Test.YtofophjfgalhaaaGreatDoorD1
import Derived.Below
import Derived.MapKept
/-! The abstract memory, the types' table, what a state says of a world; growth. -/
namespace Go.Proofs.YtofophjfgalhaaaGreatDoor.D
open Go Go.RowKit

inductive Blk where
  /-- a row of one's own: block b holds cap elements of type T, of es cells each; the first len are f 0, f 1, .. -/
  | row (b : Nat) (T : TypeId) (es len : Nat) (f : Nat → AV) (cap : Nat)
  /-- rows that are only read, one for each ix -/
  | ro (es : Nat) (base : Nat → Nat × Nat) (len : Nat → Nat) (f : Nat → Nat → AV)
  /-- a map (mine: one's own): its keys and values, in the order in which they came -/
  | mp (mine : Bool) (b : Nat) (l : List (AV × AV))

abbrev Mem := List (Nat × Blk)
abbrev MemF := Nat → Option Blk
def Mem.get : Mem → Nat → Option Blk
  | [], _ => none
  | (k, B) :: r, n => match Nat.beq k n with
    | true => some B
    | false => Mem.get r n

def Blk.holds (w : World) : Blk → Prop
  | .row b T es len f cap => ∃ c, w.heap[b]? = some (.cells c T (0, 0)) ∧ c.size = cap * es ∧ len ≤ cap ∧
      ∀ i, i < len → (f i).size = es ∧ (f i).one = true ∧ ∀ k, k < es → c[i * es + k]? = (f i).cells[k]?
  | .ro es base len f => 0 < es ∧ ∀ ix i, i < len ix → (f ix i).size = es ∧ ∀ k, k < es → w.cell? ⟨(base ix).1, (base ix).2 + i * es + k, none⟩ = (f ix i).cells[k]?
  | .mp _ b l => ∃ es clock, w.heap[b]? = some (.map es clock) ∧ MapKept.Stamped es clock ∧ (es.toList.map fun e => (e.key, e.val)) = l.map fun p => (p.1.val, p.2.val)

/-- the block that is one's own -/
def Blk.own : Blk → Option Nat
  | .row b .. => some b
  | .ro .. => none
  | .mp true b _ => some b
  | .mp false _ _ => none
/-- the blocks that are only read -/
def Blk.reads : Blk → Nat → Prop
  | .ro _ base len _, b => ∃ ix, 0 < len ix ∧ (base ix).1 = b
  | .mp false b' _, b => b' = b
  | _, _ => False
theorem Blk.own_noreads {B : Blk} {b b' : Nat} (h : B.own = some b) : ¬ B.reads b' := by
  cases B with
  | row => exact id
  | ro => cases h
  | mp m => cases m with
    | true => exact id
    | false => cases h
theorem Blk.own_lt {B : Blk} {w : World} (hB : B.holds w) {b : Nat} (h : B.own = some b) : b < w.heap.size := by
  cases B with
  | row => cases h; obtain ⟨c, h1, _⟩ := hB; exact (Array.getElem?_eq_some_iff.1 h1).1
  | ro => cases h
  | mp m => cases m with
    | true => cases h; obtain ⟨_, _, h1, _⟩ := hB; exact (Array.getElem?_eq_some_iff.1 h1).1
    | false => cases h
theorem Blk.reads_lt {B : Blk} {w : World} (hB : B.holds w) {b : Nat} (h : B.reads b) : b < w.heap.size := by
  cases B with
  | row => cases h
  | ro es base len f =>
    obtain ⟨ix, hl, rfl⟩ := h
    obtain ⟨he, h0⟩ := hB
    obtain ⟨h1, h2⟩ := h0 ix 0 hl
    have h3 := h2 0 he
    have h4 : ∃ x, (f ix 0).cells[0]? = some x := ⟨_, List.getElem?_eq_getElem (by rw [AV.size_cells]; omega)⟩
    obtain ⟨x, hx⟩ := h4
    rw [hx] at h3
    unfold World.cell? at h3
    cases hh : w.heap[(base ix).1]? with
    | none => simp [hh] at h3
    | some o => exact (Array.getElem?_eq_some_iff.1 hh).1
  | mp m => cases m with
    | true => cases h
    | false => cases h; obtain ⟨_, _, h1, _⟩ := hB; exact (Array.getElem?_eq_some_iff.1 h1).1

/-- what may be written: O. All else that was there stays. -/
structure Keeps (O : Nat → Prop) (w w' : World) : Prop where
  os : w'.os = w.os
  tape : w'.tape = w.tape
  output : w'.output = w.output
  size : w.heap.size ≤ w'.heap.size
  block : ∀ k, k < w.heap.size → ¬ O k → w'.heap[k]? = w.heap[k]?

theorem Keeps.refl (O : Nat → Prop) (w : World) : Keeps O w w := ⟨rfl, rfl, rfl, Nat.le_refl _, fun _ _ _ => rfl⟩
theorem Keeps.below {O : Nat → Prop} {w w1 w2 : World} (h : Keeps O w w1) (hb : Below w1.heap.size w1 w2) : Keeps O w w2 :=
  ⟨hb.os.trans h.os, hb.tape.trans h.tape, hb.output.trans h.output, Nat.le_trans h.size hb.size,
   fun k hk ho => (hb.block k (Nat.lt_of_lt_of_le hk h.size)).trans (h.block k hk ho)⟩

structure Sat (O : Nat → Prop) (w0 : World) (M : MemF) (w : World) : Prop where
  keeps : Keeps O w0 w
  holds : ∀ n B, M n = some B → B.holds w
  own : ∀ n B b, M n = some B → B.own = some b → O b
  apart : ∀ n m B B' b, M n = some B → M m = some B' → B.own = some b → B'.own = some b → n = m
  roapart : ∀ n m B B' b, M n = some B → M m = some B' → B.own = some b → ¬ B'.reads b

theorem Blk.holds_below {B : Blk} {w w' : World} (h : B.holds w) (hb : Below w.heap.size w w') : B.holds w' := by
  cases B with
  | row b T es len f cap =>
    obtain ⟨c, h1, h2⟩ := h
    have hlt : b < w.heap.size := (Array.getElem?_eq_some_iff.1 h1).1
    exact ⟨c, by rw [hb.block b hlt]; exact h1, h2⟩
  | ro es base len f =>
    refine ⟨h.1, fun ix i hi => ?_⟩
    obtain ⟨h1, h2⟩ := h.2 ix i hi
    refine ⟨h1, fun k hk => ?_⟩
    have h3 := h2 k hk
    have h4 : ∃ x, (f ix i).cells[k]? = some x := ⟨_, List.getElem?_eq_getElem (by rw [AV.size_cells]; omega)⟩
    obtain ⟨x, hx⟩ := h4
    rw [hx] at h3 ⊢
    have hlt : (base ix).1 < w.heap.size := by
      unfold World.cell? at h3
      cases hh : w.heap[(base ix).1]? with
      | none => simp [hh] at h3
      | some o => exact (Array.getElem?_eq_some_iff.1 hh).1
    rw [hb.cell (p := ⟨(base ix).1, _, none⟩) hlt]
    exact h3
  | mp m b l =>
    obtain ⟨es, cl, h1, h2⟩ := h
    have hlt : b < w.heap.size := (Array.getElem?_eq_some_iff.1 h1).1
    exact ⟨es, cl, by rw [hb.block b hlt]; exact h1, h2⟩

theorem Sat.below {O : Nat → Prop} {w0 w w' : World} {M : MemF} (h : Sat O w0 M w) (hb : Below w.heap.size w w') : Sat O w0 M w' :=
  ⟨h.keeps.below hb, fun n B hB => Blk.holds_below (h.holds n B hB) hb, h.own, h.apart, h.roapart⟩

theorem Mem.get_cons (k n : Nat) (B : Blk) (M : Mem) : Mem.get ((k, B) :: M) n = if k = n then some B else M.get n := by
  show (match Nat.beq k n with | true => some B | false => M.get n) = _
  by_cases h : k = n
  · subst h; simp
  · have : Nat.beq k n = false := by
      cases hh : Nat.beq k n with
      | true => exact absurd (Nat.eq_of_beq_eq_true hh) h
      | false => rfl
    rw [this, if_neg h]

/-- A block that is new, under a tag. -/
theorem Sat.new {O : Nat → Prop} {w0 w w' : World} {M : MemF} (h : Sat O w0 M w) (hb : Below w.heap.size w w') {k b : Nat} {B : Blk} (hfresh : w.heap.size ≤ b)
    (hO : ∀ b, w0.heap.size ≤ b → O b) (ho : B.own = some b) (hB : B.holds w') : Sat O w0 (fun n => if k = n then some B else M n) w' := by
  have h' := h.below hb
  refine ⟨h'.keeps, ?_, ?_, ?_, ?_⟩
  · intro n B1 hn
    split at hn
    · cases hn; exact hB
    · exact h'.holds n B1 hn
  · intro n B1 b1 hn h1
    split at hn
    · cases hn; rw [ho] at h1; cases h1; exact hO b (Nat.le_trans h.keeps.size hfresh)
    · exact h.own _ _ _ hn h1
  · intro n m B1 B2 b1 hn hm h1 h2
    split at hn <;> split at hm
    · rename_i e1 e2; exact e1.symm.trans e2
    · cases hn; rw [ho] at h1; cases h1; have := Blk.own_lt (h.holds _ _ hm) h2; omega
    · cases hm; rw [ho] at h2; cases h2; have := Blk.own_lt (h.holds _ _ hn) h1; omega
    · exact h.apart _ _ _ _ _ hn hm h1 h2
  · intro n m B1 B2 b1 hn hm h1 hr
    split at hm
    · cases hm; exact Blk.own_noreads ho hr
    · split at hn
      · cases hn; rw [ho] at h1; cases h1; have := Blk.reads_lt (h.holds _ _ hm) hr; omega
      · exact h.roapart _ _ _ _ _ hn hm h1 hr

/-! ### The types' table -/
inductive TD where
  | int (k : IntKind) | bool | str | ptr (e : TypeId) | sl (e : TypeId) | arr (n : Nat) (e : TypeId)
  | st (fs : List (Nat × Nat × TypeId)) | map (k e : TypeId) | fn | other

def viewD (P : Program) : TypeDesc → TD
  | .int k => .int k
  | .bool => .bool
  | .string => .str
  | .pointer e => .ptr e
  | .slice e => .sl e
  | .array n e => .arr n e
  | .struct fs => .st (fs.toList.map fun f => (f.offset, P.cellsOf f.type, f.type))
  | .map k e => .map k e
  | .func .. => .fn
  | _ => .other

structure TRow where
  d : TD
  size : Nat
  bytes : Nat
  zero : AV

abbrev Tbl := List (TypeId × TRow)
def Tbl.get : Tbl → Nat → Option TRow
  | [], _ => none
  | (k, r) :: rest, t => match Nat.beq k t with
    | true => some r
    | false => Tbl.get rest t

def RowOk (P : Program) (t : TypeId) (r : TRow) : Prop :=
  (P.underlying t).map (viewD P) = some r.d ∧ (P.info? t).map (fun i => (i.size, i.bytes, i.zero)) = some (r.size, r.bytes, some r.zero.val)
def TblOk (P : Program) : Tbl → Prop
  | [] => True
  | (t, r) :: rest => RowOk P t r ∧ TblOk P rest

theorem TblOk.get {P : Program} : ∀ {tb : Tbl} {t : Nat} {r : TRow}, TblOk P tb → tb.get t = some r → RowOk P t r
  | [], _, _, _, h => by cases h
  | (k, r0) :: rest, t, r, ho, h => by
    simp only [Tbl.get] at h
    split at h
    · rename_i hk
      cases h
      rw [← Nat.eq_of_beq_eq_true hk]
      exact ho.1
    · exact TblOk.get ho.2 h

/-- what a row says, fact by fact -/
theorem RowOk.under {P : Program} {t : TypeId} {r : TRow} (h : RowOk P t r) : ∃ d, P.underlying t = some d ∧ viewD P d = r.d := by
  obtain ⟨h1, _⟩ := h
  cases hd : P.underlying t with
  | none => rw [hd] at h1; cases h1
  | some d => rw [hd] at h1; exact ⟨d, rfl, Option.some.inj h1⟩
theorem RowOk.info {P : Program} {t : TypeId} {r : TRow} (h : RowOk P t r) : ∃ i, P.info? t = some i ∧ i.size = r.size ∧ i.bytes = r.bytes ∧ i.zero = some r.zero.val := by
  obtain ⟨_, h1⟩ := h
  cases hd : P.info? t with
  | none => rw [hd] at h1; cases h1
  | some i =>
    rw [hd] at h1
    simp only [Option.map_some, Option.some.injEq, Prod.mk.injEq] at h1
    exact ⟨i, rfl, h1.1, h1.2.1, h1.2.2⟩
theorem RowOk.run_sizeOf {P : Program} {t : TypeId} {r : TRow} (h : RowOk P t r) (w : World) : (sizeOf t).run P w = .ok r.size w := by
  obtain ⟨i, h1, h2, _⟩ := h.info
  simp [sizeOf, typeInfo, h1, h2]
theorem RowOk.run_under {P : Program} {t : TypeId} {r : TRow} (h : RowOk P t r) (w : World) : ∃ d, (underlying t).run P w = .ok d w ∧ viewD P d = r.d := by
  obtain ⟨d, h1, h2⟩ := h.under
  exact ⟨d, run_underlying h1 w, h2⟩
theorem RowOk.run_zero {P : Program} {t : TypeId} {r : TRow} (h : RowOk P t r) (w : World) : (zeroValue t).run P w = .ok r.zero.val w := by
  obtain ⟨i, h1, _, _, h3⟩ := h.info
  simp [zeroValue, typeInfo, h1, h3]
def TD.isAgg : TD → Bool
  | .st _ => true
  | .arr .. => true
  | _ => false
theorem RowOk.run_isAgg {P : Program} {t : TypeId} {r : TRow} (h : RowOk P t r) (w : World) : (Go.isAgg t).run P w = .ok r.d.isAgg w := by
  obtain ⟨d, h1, h2⟩ := h.run_under w
  unfold Go.isAgg
  rw [Sem.run_bind, h1]
  cases d <;> (simp only [viewD] at h2; simp [← h2, TD.isAgg])

/-! ### Loads and stores of parts -/
theorem getElem?_part {off n : Nat} {cs : List Value} {s : AV} (h : Part off n cs s) {k : Nat} (hk : k < n) : cs[off + k]? = s.cells[k]? := by
  rw [← h.2.2, List.getElem?_take_of_lt hk, List.getElem?_drop]

theorem Addr.add_none (b o k : Nat) : (⟨b, o, none⟩ : Addr).add k = ⟨b, o + k, none⟩ := by
  unfold Addr.add; split <;> simp_all

/-- A load of type t from a place whose cells are those of s. -/
theorem run_loadVar_part {P : Program} {t : TypeId} {r : TRow} (hr : RowOk P t r) {w : World} {a : Addr} {s : AV} (ha : a.spot = none) (hs : s.size = r.size)
    (hk : if r.d.isAgg then s.isAgg = true else s.plain = true) (hc : ∀ k, k < s.size → w.cell? ⟨a.block, a.off + k, none⟩ = s.cells[k]?) :
    (loadVar t a).run P w = .ok s.val w := by
  obtain ⟨b, o, sp⟩ := a
  cases ha
  unfold loadVar
  rw [Sem.run_bind, hr.run_isAgg, Result.andThen_ok]
  cases hg : r.d.isAgg with
  | true =>
    rw [hg] at hk
    simp only [if_true] at hk ⊢
    rw [Sem.run_bind, hr.run_sizeOf, Result.andThen_ok, Sem.run_bind, ← hs, ← AV.size_cells, run_loadCells_list w _ s.cells ?_, Result.andThen_ok, AV.val_of_cells hk]
    · rfl
    · intro j v hv
      rw [Addr.add_none, hc j (by rw [← AV.size_cells]; exact (List.getElem?_eq_some_iff.1 hv).1)]
      exact hv
  | false =>
    rw [hg] at hk
    simp only [Bool.false_eq_true, if_false] at hk ⊢
    have h0 : s.cells = [s.val] := AV.cells_plain hk
    have := hc 0 (by rw [← AV.size_cells, h0]; simp)
    rw [h0] at this
    simp at this
    rw [run_load, this]

end Go.Proofs.YtofophjfgalhaaaGreatDoor.D
