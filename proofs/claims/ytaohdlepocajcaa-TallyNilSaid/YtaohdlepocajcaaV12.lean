import Derived.Test.YtaohdlepocajcaaV11
/-! One operation with its guard; states; a region in the order of the text. -/
namespace Go.Proofs.Ytaohdlepocajcaa.V
open Go Go.RowKit

/-- the guard of an operation, by what the slots hold -/
def guardOf (dst : Nat → Option Tmp) (tm : TmF) : Option (Nat × Bool) → Option (Option Bool)
  | none => some none
  | some (j, want) => match dst j with
    | none => none
    | some d => match tm d with
      | some (none, .v (.bool b)) => match want with
        | true => some (some b)
        | false => some (some (!b))
      | some (some c, .v (.bool b)) => match want with
        | true => some (some (c && b))
        | false => some (some (c && !b))
      | _ => none

def dstAt (ops : Array Oper) (j : Nat) : Option Tmp := (ops[j]?).bind (·.dst)

theorem guard_sound {ops : Array Oper} {N : Nat} {tm : TmF} {a : Act} (hT : SatT N tm a) {dst : Nat → Option Tmp} (hd : ∀ j d, dst j = some d → dstAt ops j = some d) {o : Oper} {g : Option Bool} (h : guardOf dst tm o.guard = some g) :
    (Region.wanted o (yielded ops a.tmps) = true ↔ holdsG g) := by
  cases hgd : o.guard with
  | none =>
    rw [hgd] at h
    cases h
    unfold Region.wanted
    rw [hgd]
    exact ⟨fun _ => trivial, fun _ => rfl⟩
  | some jw =>
    obtain ⟨j, want⟩ := jw
    rw [hgd] at h
    simp only [guardOf] at h
    split at h
    · cases h
    · rename_i d hdj
      have hd' := hd j d hdj
      have key : ∀ c b, tm d = some (c, .v (.bool b)) → yielded ops a.tmps j = match c with
          | none => some b
          | some c => if c = true then some b else none := by
        intro c b htm
        have hs := hT.slot d _ htm
        unfold yielded
        unfold dstAt at hd'
        rw [hd', Option.bind_some]
        cases c with
        | none =>
          obtain ⟨h1, h2⟩ := hs
          have : a.tmps[d]? = some (.bool b) := by
            rw [Array.getElem?_eq_getElem h1]
            rw [Array.getD_eq_getD_getElem?, Array.getElem?_eq_getElem h1] at h2
            simpa using h2
          rw [this]
        | some c =>
          obtain ⟨h1, h2⟩ := hs
          rw [Array.getD_eq_getD_getElem?, Array.getElem?_eq_getElem h1] at h2
          rw [Array.getElem?_eq_getElem h1]
          simp only [Option.getD_some] at h2
          rw [h2]
          cases c <;> rfl
      unfold Region.wanted
      rw [hgd]
      simp only []
      split at h
      · rename_i b htm
        have hy := key _ _ htm
        simp only at hy
        rw [hy]
        split at h <;> cases h <;> cases b <;> simp [holdsG]
      · rename_i c b htm
        have hy := key _ _ htm
        simp only at hy
        rw [hy]
        split at h <;> cases h <;> cases b <;> cases c <;> simp [holdsG]
      · cases h

theorem put_get {a : Act} {N d : Nat} (hs : a.tmps.size = N) (hd : d < N) (v : Value) : (a.put (some d) v).tmps.getD d undef = v := by
  show (a.tmps.setIfInBounds d v).getD d undef = v
  rw [Array.getD_eq_getD_getElem?, Array.getElem?_setIfInBounds_self_of_lt (by omega)]; rfl
theorem put_ne {a : Act} {d t : Nat} (h : d ≠ t) (v : Value) : (a.put (some d) v).tmps.getD t undef = a.tmps.getD t undef := by
  show (a.tmps.setIfInBounds d v).getD t undef = _
  rw [Array.getD_eq_getD_getElem?, Array.getElem?_setIfInBounds_ne h, ← Array.getD_eq_getD_getElem?]
theorem put_size {a : Act} {d : Option Tmp} (v : Value) : (a.put d v).tmps.size = a.tmps.size := by
  cases d with
  | none => rfl
  | some d => show (a.tmps.setIfInBounds d v).size = _; simp

theorem slot_ne {a : Act} {d t : Nat} (h : d ≠ t) {v : Value} {e : Option Bool × AV} (hs : SlotOk a t e) : SlotOk (a.put (some d) v) t e := by
  obtain ⟨c, av⟩ := e
  cases c with
  | none => exact ⟨by rw [put_size]; exact hs.1, by rw [put_ne h]; exact hs.2⟩
  | some c => exact ⟨by rw [put_size]; exact hs.1, by rw [put_ne h]; exact hs.2⟩

/-- The slot d filled. -/
theorem SatT.put {N : Nat} {tm : TmF} {a : Act} (hT : SatT N tm a) {d : Nat} (hd : d < N) {g : Option Bool} {av : AV} {v : Value} (hv : match g with | none => v = av.val | some g => v = if g then av.val else undef) :
    SatT N (fun t => if d = t then some (g, av) else tm t) (a.put (some d) v) := by
  refine ⟨by rw [put_size]; exact hT.size, fun t e h => ?_⟩
  split at h
  · rename_i hdt
    subst hdt
    cases h
    have h1 : d < (a.put (some d) v).tmps.size := by rw [put_size, hT.size]; exact hd
    cases g with
    | none => exact ⟨h1, by rw [put_get hT.size hd]; exact hv⟩
    | some g => exact ⟨h1, by rw [put_get hT.size hd]; exact hv⟩
  · rename_i hdt
    exact slot_ne hdt (hT.slot t e h)

def zipM : List Nat → List Blk → Mem
  | t :: ts, B :: Bs => (t, B) :: zipM ts Bs
  | _, _ => []

/-- what an evaluator must satisfy -/
def EvOk (P : Program) (O : Nat → Prop) (w0 : World) (ev : MemF → TmF → Option Bool → Nat → Op → Option Res) : Prop :=
  ∀ (N : Nat) (M : MemF) (tm : TmF) (g : Option Bool) (tag : Nat) (a : Act) (w : World) (o : Oper) (r : Res), ev M tm g tag o.op = some r → r.ok → SatT N tm a → Sat O w0 M w → holdsG g →
    ∀ (next : Act → World → Prop) (Q : Exit → Act → World → Prop), (∀ x w', r.can x → Turn M w w' (zipM r.tags (r.mem x)).get → next (a.put o.dst (r.out x).val) w') → o.wp P a w next Q

def R.res (tag : Nat) : R → Res
  | .val c a => ⟨Unit, c, fun _ => True, fun _ => a, [], fun _ => []⟩
  | .new c a B => ⟨Nat, c, fun _ => True, a, [tag], fun b => [B b]⟩

theorem Turn.laid {M : MemF} {w w' : World} (hb : Below w.heap.size w w') {r : R} {b tag : Nat} (hl : r.laid w w' b) : ∃ x, (r.res tag).can x ∧ (r.res tag).out x = r.out b ∧ Turn M w w' (zipM (r.res tag).tags ((r.res tag).mem x)).get := by
  cases r with
  | val c a => exact ⟨(), trivial, rfl, Turn.below hb⟩
  | new c a B => exact ⟨b, trivial, rfl, Turn.new hb hl.2.2 (fun k hk => hl.1 k hk) hl.2.1⟩

/-- a quiet operation -/
def evQ (E : Env) (M : MemF) (tm : TmF) (g : Option Bool) (tag : Nat) (op : Op) : Option Res := match qeval E M tm g tag op with
  | some (.val c a) => some ⟨Unit, c, fun _ => True, fun _ => a, [], fun _ => []⟩
  | some (.new c a B) => some ⟨Nat, c, fun _ => True, a, [tag], fun b => [B b]⟩
  | none => none
theorem evQ_res {E : Env} {M : MemF} {tm : TmF} {g : Option Bool} {tag : Nat} {op : Op} {r : Res} (h : evQ E M tm g tag op = some r) : ∃ q, qeval E M tm g tag op = some q ∧ r = q.res tag := by
  unfold evQ at h
  split at h
  · rename_i c a hq; cases h; exact ⟨_, hq, rfl⟩
  · rename_i c a B hq; cases h; exact ⟨_, hq, rfl⟩
  · cases h
theorem evQ_ok {P : Program} {E : Env} {O : Nat → Prop} {w0 : World} (hb : TblOk P E.tb) (he : EqOk P E.eqs) (hct : CtOk P O w0 E.ct) : EvOk P O w0 (evQ E) := by
  intro N M tm g tag a w o r h hok hT hS hg next Q hk
  obtain ⟨q, hq, rfl⟩ := evQ_res h
  refine qeval_sound hb he hct hq rfl (by cases q <;> exact hok) hT hS hg fun b w' hbel hl => ?_
  obtain ⟨x, h1, h2, h3⟩ := Turn.laid (M := M) (tag := tag) hbel hl
  rw [← h2]
  exact hk x w' h1 h3

/-! ### A sequence that is read -/
/-- from cell o of block b on there stand len elements of es cells: f 0, f 1, .. -/
def Reads (w : World) (b o es len : Nat) (f : Nat → AV) : Prop := ∀ i, i < len → (f i).size = es ∧ (f i).one = true ∧ ∀ k, k < es → w.cell? ⟨b, o + i * es + k, none⟩ = (f i).cells[k]?
theorem Reads.congr {w : World} {b o es len : Nat} {f g : Nat → AV} (h : Reads w b o es len f) (hg : ∀ i, i < len → f i = g i) : Reads w b o es len g :=
  fun i hi => by rw [← hg i hi]; exact h i hi
theorem Reads.sub {w : World} {b o es len : Nat} {f : Nat → AV} (h : Reads w b o es len f) {i n : Nat} (hi : i + n ≤ len) : Reads w b (o + i * es) es n (fun j => f (j + i)) := by
  intro j hj
  obtain ⟨h1, h2, h3⟩ := h (j + i) (by omega)
  refine ⟨h1, h2, fun k hk => ?_⟩
  rw [← h3 k hk, Nat.add_mul]
  congr 2; omega
theorem RowHolds.reads {w : World} {b T es len cap : Nat} {f : Nat → AV} (h : RowHolds w b T es len f cap) : Reads w b 0 es len f := fun i hi =>
  ⟨(h.at hi).1, (h.at hi).2, fun k hk => by rw [Nat.zero_add]; exact h.cell hi hk⟩

/-- the cells of n elements -/
def seqCells (f : Nat → AV) : Nat → List Value
  | 0 => []
  | n + 1 => seqCells f n ++ (f n).cells
theorem seqCells_length {f : Nat → AV} {es : Nat} : ∀ {n : Nat}, (∀ i, i < n → (f i).size = es) → (seqCells f n).length = n * es
  | 0, _ => by simp [seqCells]
  | n + 1, h => by
    rw [seqCells, List.length_append, seqCells_length fun i hi => h i (by omega), AV.size_cells, h n (by omega), Nat.succ_mul]
theorem seqCells_get {f : Nat → AV} {es : Nat} : ∀ {n : Nat}, (∀ i, i < n → (f i).size = es) → ∀ i k, i < n → k < es → (seqCells f n)[i * es + k]? = (f i).cells[k]?
  | 0, _, i, k, hi, _ => by omega
  | n + 1, h, i, k, hi, hk => by
    have hl := seqCells_length (f := f) (es := es) (n := n) fun i hi => h i (by omega)
    rw [seqCells]
    by_cases hin : i = n
    · subst hin
      rw [List.getElem?_append_right (by omega), hl]
      congr 1; omega
    · have : i * es + k < n * es := by
        have : (i + 1) * es ≤ n * es := Nat.mul_le_mul_right _ (by omega)
        rw [Nat.succ_mul] at this; omega
      rw [List.getElem?_append_left (by omega)]
      exact seqCells_get (fun i hi => h i (by omega)) i k (by omega) hk
theorem seqCells_one {f : Nat → AV} : ∀ {n : Nat}, (∀ i, i < n → (f i).one = true) → ∀ v ∈ seqCells f n, v.oneCell' = true
  | 0, _, v, hv => by cases hv
  | n + 1, h, v, hv => by
    rw [seqCells, List.mem_append] at hv
    rcases hv with hv | hv
    · exact seqCells_one (fun i hi => h i (by omega)) v hv
    · exact (f n).one_cells (h n (by omega)) v hv
theorem Reads.cells {w : World} {b o es len : Nat} {f : Nat → AV} (h : Reads w b o es len f) : ∀ j v, (seqCells f len)[j]? = some v → w.cell? ((⟨b, o, none⟩ : Addr).add j) = some v := by
  intro j v hj
  have hl := seqCells_length (f := f) (es := es) (n := len) fun i hi => (h i hi).1
  have hlt := (List.getElem?_eq_some_iff.1 hj).1
  rw [hl] at hlt
  have hes : 0 < es := by
    rcases Nat.eq_zero_or_pos es with h0 | h0
    · subst h0; simp at hlt
    · exact h0
  have hi : j / es < len := Nat.div_lt_of_lt_mul (by rw [Nat.mul_comm]; exact hlt)
  have hk : j % es < es := Nat.mod_lt _ hes
  have he : j / es * es + j % es = j := by rw [Nat.mul_comm]; exact Nat.div_add_mod j es
  have := seqCells_get (f := f) (es := es) (n := len) (fun i hi => (h i hi).1) _ _ hi hk
  rw [he] at this
  rw [Addr.add_none]
  have h2 := (h _ hi).2.2 _ hk
  rw [Nat.add_assoc, he, ← this, hj] at h2
  exact h2

/-- the elements of a slice: what must hold; how many cells one has; how many; which -/
def seqOf (M : MemF) : AV → Option (Prop × Nat × Nat × (Nat → AV))
  | .gs n ix a es i0 len _ => match M n with
    | some (.vrow a' _ es' len' f _) => some (a = ownB a' ∧ es = es' ∧ i0 + len ≤ len', es, len, fun i => f (i + i0))
    | some (.vro es' base len' f) => some (a = base ix ∧ es = es' ∧ i0 + len ≤ len' ix, es, len, fun i => f ix (i + i0))
    | _ => none
  | .sl p len _ => match p.lf, elemAt M p with
    | true, some (c, e) => match e.leaf p.off with
      | some (k, m, xs) => some (c ∧ p.j + len ≤ m, 1, len, fun i => .v (.int k (xs.getD (i + p.j) 0)))
      | none => none
    | false, _ => match M p.n with
      | some (.vrow a' _ es' len' f _) => some ((p.b, p.o0) = gsB (ownB a') ∧ p.es = es' ∧ p.off = 0 ∧ p.j = 0 ∧ p.idx + len ≤ len', p.es, len, fun i => f (i + p.idx))
      | _ => none
    | _, _ => none
  | .v (.slice none n _) => some (n = 0, 1, 0, fun _ => .nil)
  | _ => none

theorem leaf_reads {w : World} {b o off m j len : Nat} {e : AV} {k : IntKind} {xs : List Int} (hl : e.leaf off = some (k, m, xs)) (hc : ∀ k, k < e.size → w.cell? ⟨b, o + k, none⟩ = e.cells[k]?) (hj : j + len ≤ m) :
    Reads w b (o + off + j) 1 len (fun i => .v (.int k (xs.getD (i + j) 0))) := by
  refine fun i hi => ⟨rfl, rfl, fun k' hk' => ?_⟩
  have hk0 : k' = 0 := by omega
  subst hk0
  have hp := AV.leaf_spec e hl
  have hle : off + m ≤ e.cells.length := hp.2.1
  rw [AV.size_cells] at hle
  have := hc (off + (i + j)) (by omega)
  rw [getElem?_part hp (by omega), ints_get k m xs (by omega)] at this
  rw [show o + off + j + i * 1 + 0 = o + (off + (i + j)) by omega, this]; rfl

/-- a slice's value -/
def slV (base : Option (Nat × Nat)) (len cap : Nat) : Value := .slice (base.map fun p => ⟨p.1, p.2, none⟩) len cap
/-- what a slice's value is, and that its elements stand there -/
theorem seqOf_spec {O : Nat → Prop} {w0 w : World} {M : MemF} (hS : Sat O w0 M w) {x : AV} {c : Prop} {es len : Nat} {f : Nat → AV} (h : seqOf M x = some (c, es, len, f)) (hc : c) :
    ∃ base cap, x.val = slV base len cap ∧ (len ≠ 0 → ∃ b o, base = some (b, o) ∧ Reads w b o es len f) := by
  unfold seqOf at h
  split at h
  · rename_i n ix a es0 i0 len0 cap
    have hval : (AV.gs n ix a es0 i0 len0 cap).val = slV (a.map fun p => (p.1, p.2 + i0 * es0)) len0 cap := by
      rw [gs_val]; unfold slV; rw [Option.map_map]; rfl
    split at h
    · rename_i a' T es' len' f' cap' hM
      cases h
      obtain ⟨rfl, rfl, hle⟩ := hc
      refine ⟨_, _, hval, fun h0 => ?_⟩
      obtain ⟨b, rfl, hr⟩ := vrow_some (hS.holds _ _ hM) (i := i0) (by omega)
      exact ⟨b, 0 + i0 * es, rfl, hr.reads.sub hle⟩
    · rename_i es' base len' f' hM
      cases h
      obtain ⟨rfl, rfl, hle⟩ := hc
      refine ⟨_, _, hval, fun h0 => ?_⟩
      obtain ⟨h5, h6⟩ := (hS.holds _ _ hM : (Blk.vro es base len' f').holds w) ix
      cases hb : base ix with
      | none => have := h5 hb; omega
      | some z => exact ⟨z.1, z.2 + i0 * es, rfl, Reads.sub (fun i hi => h6 z.1 z.2 hb i hi) hle⟩
    · cases h
  · rename_i p len0 cap
    have hval : (AV.sl p len0 cap).val = slV (some (p.b, p.cell)) len0 cap := rfl
    split at h
    · rename_i c0 e hlf he
      split at h
      · rename_i k m xs hl
        cases h
        refine ⟨_, _, hval, fun _ => ⟨p.b, p.cell, rfl, ?_⟩⟩
        have := leaf_reads (b := p.b) (o := p.o0 + p.idx * p.es) hl (elemAt_spec hS he hc.1) hc.2
        exact this
      · cases h
    · split at h
      · rename_i a' T es' len' f' cap' hM
        cases h
        obtain ⟨h0, h1, h2, h3, hle⟩ := hc
        refine ⟨_, _, hval, fun hz => ?_⟩
        obtain ⟨b, rfl, hr⟩ := vrow_some (hS.holds _ _ hM) (i := p.idx) (by omega)
        have e1 : p.b = b := congrArg Prod.fst h0
        have e2 : p.o0 = 0 := congrArg Prod.snd h0
        refine ⟨p.b, p.cell, rfl, ?_⟩
        have := hr.reads.sub hle
        rw [h1]
        unfold Pt.cell
        rw [e1, e2, h2, h3, h1]
        exact this
      · cases h
    · cases h
  · cases h
    subst hc
    exact ⟨none, _, rfl, fun h => absurd rfl h⟩
  · cases h

end Go.Proofs.Ytaohdlepocajcaa.V
