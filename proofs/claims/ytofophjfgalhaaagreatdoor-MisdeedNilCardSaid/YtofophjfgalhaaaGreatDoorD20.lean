import Derived.Test.YtofophjfgalhaaaGreatDoorD19
/-! Slices that are read: what a caller's memory says of a callee's argument. -/
namespace Go.Proofs.YtofophjfgalhaaaGreatDoor.D
open Go Go.RowKit

/-- from cell o of block b on there stand len elements of es cells: f 0, f 1, .. -/
def Reads (w : World) (b o es len : Nat) (f : Nat → AV) : Prop := 0 < es ∧ ∀ i, i < len → (f i).size = es ∧ ∀ k, k < es → w.cell? ⟨b, o + i * es + k, none⟩ = (f i).cells[k]?

theorem Reads.ro {w : World} {b o es len : Nat} {f : Nat → AV} (h : Reads w b o es len f) : (Blk.ro es (fun _ => (b, o)) (fun _ => len) (fun _ => f)).holds w := ⟨h.1, fun _ i hi => h.2 i hi⟩

theorem Reads.congr {w : World} {b o es len : Nat} {f g : Nat → AV} (h : Reads w b o es len f) (hg : ∀ i, i < len → f i = g i) : Reads w b o es len g :=
  ⟨h.1, fun i hi => by rw [← hg i hi]; exact h.2 i hi⟩

/-- the elements of a slice -/
def sliceOf (M : MemF) (p : Pt) (len : Nat) : Option (Prop × Nat × (Nat → AV)) := match M p.n with
  | some (.row b _ es l f _) => match p.lf with
    | false => some (p.b = b ∧ p.o0 = 0 ∧ p.es = es ∧ p.off = 0 ∧ p.j = 0 ∧ p.idx + len ≤ l ∧ 0 < es, es, fun i => f (p.idx + i))
    | true => match (f p.idx).leaf p.off with
      | some (k, m, xs) => some (p.b = b ∧ p.o0 = 0 ∧ p.es = es ∧ p.idx < l ∧ p.j + len ≤ m, 1, fun i => .v (.int k (xs.getD (p.j + i) 0)))
      | none => none
  | some (.ro es base l f) => match p.lf with
    | false => some (base p.ix = (p.b, p.o0) ∧ p.es = es ∧ p.off = 0 ∧ p.j = 0 ∧ p.idx + len ≤ l p.ix ∧ 0 < es, es, fun i => f p.ix (p.idx + i))
    | true => match (f p.ix p.idx).leaf p.off with
      | some (k, m, xs) => some (base p.ix = (p.b, p.o0) ∧ p.es = es ∧ p.idx < l p.ix ∧ p.j + len ≤ m, 1, fun i => .v (.int k (xs.getD (p.j + i) 0)))
      | none => none
  | _ => none

theorem leaf_reads {w : World} {b o off m j len : Nat} {e : AV} {k : IntKind} {xs : List Int} (hl : e.leaf off = some (k, m, xs)) (hc : ∀ k, k < e.size → w.cell? ⟨b, o + k, none⟩ = e.cells[k]?) (hj : j + len ≤ m) :
    Reads w b (o + off + j) 1 len (fun i => .v (.int k (xs.getD (j + i) 0))) := by
  refine ⟨Nat.zero_lt_one, fun i hi => ⟨rfl, fun k' hk' => ?_⟩⟩
  have hk0 : k' = 0 := by omega
  subst hk0
  have hp := AV.leaf_spec e hl
  have hle : off + m ≤ e.cells.length := hp.2.1
  rw [AV.size_cells] at hle
  have := hc (off + (j + i)) (by omega)
  rw [getElem?_part hp (by omega), ints_get k m xs (by omega)] at this
  rw [show o + off + j + i * 1 + 0 = o + (off + (j + i)) by omega, this]; rfl

theorem sliceOf_reads {O : Nat → Prop} {w0 w : World} {M : MemF} (hS : Sat O w0 M w) {p : Pt} {len es : Nat} {f : Nat → AV} {c : Prop} (h : sliceOf M p len = some (c, es, f)) (hc : c) : Reads w p.b p.cell es len f := by
  have hel : ∀ {c' : Prop} {e : AV}, elemAt M p = some (c', e) → c' → ∀ k, k < e.size → w.cell? ⟨p.b, p.o0 + p.idx * p.es + k, none⟩ = e.cells[k]? := fun h1 h2 => elemAt_spec hS h1 h2
  unfold sliceOf at h
  split at h
  · rename_i b T es' l g cap hM
    split at h
    · cases h
      obtain ⟨hb, h0, he, h1, h2, h3, h4⟩ := hc
      obtain ⟨cs, c1, c2, c3, c4⟩ := hS.holds _ _ hM
      refine ⟨h4, fun i hi => ?_⟩
      obtain ⟨g1, g2, g3⟩ := c4 (p.idx + i) (by omega)
      refine ⟨g1, fun k hk => ?_⟩
      rw [← g3 k hk, hb]
      unfold World.cell? Pt.cell
      simp only [c1, h0, he, h1, h2]
      rw [show 0 + p.idx * es + 0 + 0 + i * es + k = (p.idx + i) * es + k by rw [Nat.add_mul]; omega]
      rfl
    · split at h
      · rename_i k m xs hl
        cases h
        obtain ⟨hb, h0, he, h1, h2⟩ := hc
        have hq := hel (c' := p.b = b ∧ p.o0 = 0 ∧ p.es = es' ∧ p.idx < l) (e := g p.idx) (by unfold elemAt; rw [hM]) ⟨hb, h0, he, h1⟩
        have := leaf_reads (b := p.b) (o := p.o0 + p.idx * p.es) hl hq h2
        exact this
      · cases h
  · rename_i es' base l g hM
    split at h
    · cases h
      obtain ⟨hb, he, h1, h2, h3, h4⟩ := hc
      obtain ⟨_, c4⟩ := hS.holds _ _ hM
      refine ⟨h4, fun i hi => ?_⟩
      obtain ⟨g1, g3⟩ := c4 p.ix (p.idx + i) (by omega)
      refine ⟨g1, fun k hk => ?_⟩
      rw [← g3 k hk, hb]
      unfold Pt.cell
      simp only [he, h1, h2]
      rw [show p.o0 + p.idx * es + 0 + 0 + i * es + k = p.o0 + (p.idx + i) * es + k by rw [Nat.add_mul]; omega]
    · split at h
      · rename_i k m xs hl
        cases h
        obtain ⟨hb, he, h1, h2⟩ := hc
        have hq := hel (c' := base p.ix = (p.b, p.o0) ∧ p.es = es' ∧ p.idx < l p.ix) (e := g p.ix p.idx) (by unfold elemAt; rw [hM]) ⟨hb, he, h1⟩
        have := leaf_reads (b := p.b) (o := p.o0 + p.idx * p.es) hl hq h2
        exact this
      · cases h
  · cases h

/-- a slice that is read, as a callee sees it: tag n -/
def roSl (n b o es len cap : Nat) : AV := .sl ⟨n, 0, b, o, es, 0, 0, 0, false⟩ len cap
theorem roSl_val (n b o es len cap : Nat) : (roSl n b o es len cap).val = .slice (some ⟨b, o, none⟩) len cap := by
  simp [roSl, AV.val, AV.den, Pt.addr, Pt.cell]
theorem sl_val (p : Pt) (len cap : Nat) : (AV.sl p len cap).val = .slice (some ⟨p.b, p.cell, none⟩) len cap := rfl

abbrev roB (b o es len : Nat) (f : Nat → AV) : Blk := .ro es (fun _ => (b, o)) (fun _ => len) (fun _ => f)

/-- nothing of one's own, rows to be read -/
def allRo : Mem → Prop
  | [] => True
  | (_, .ro ..) :: r => allRo r
  | (_, .mp false ..) :: r => allRo r
  | _ :: _ => False
theorem allRo_get : ∀ {M : Mem}, allRo M → ∀ n B b, M.get n = some B → B.own ≠ some b
  | [], _, _, _, _, h => by cases h
  | (k, .ro ..) :: r, hr, n, B, b, h => by
    rw [Mem.get_cons] at h
    split at h
    · cases h; exact fun h => by cases h
    · exact allRo_get (M := r) hr n B b h
  | (k, .mp false ..) :: r, hr, n, B, b, h => by
    rw [Mem.get_cons] at h
    split at h
    · cases h; exact fun h => by cases h
    · exact allRo_get (M := r) hr n B b h
  | (k, .mp true ..) :: r, hr, _, _, _, _ => hr.elim
  | (k, .row ..) :: r, hr, _, _, _, _ => hr.elim
def allHold (w : World) : Mem → Prop
  | [] => True
  | (_, B) :: r => B.holds w ∧ allHold w r
theorem allHold_get {w : World} : ∀ {M : Mem}, allHold w M → ∀ n B, M.get n = some B → B.holds w
  | [], _, _, _, h => by cases h
  | (k, B0) :: r, hr, n, B, h => by
    rw [Mem.get_cons] at h
    split at h
    · cases h; exact hr.1
    · exact allHold_get hr.2 n B h
theorem sat_ro {w : World} {M : Mem} (h1 : allRo M) (h2 : allHold w M) : Sat (freshO w) w M.get w :=
  ⟨Keeps.refl _ _, fun n B h => allHold_get h2 n B h, fun _ _ _ h ho => (allRo_get h1 _ _ _ h ho).elim, fun _ _ _ _ _ h _ ho => (allRo_get h1 _ _ _ h ho).elim, fun _ _ _ _ _ h _ ho => (allRo_get h1 _ _ _ h ho).elim⟩

/-- A function that reads rows and answers a value, out of its walk. -/
theorem ro_fn {P : Program} {tb : Tbl} {eqs : List TypeId} {ct : CtL} (hb : TblOk P tb) (he : EqOk P eqs) (hct : CtLOk P ct) (hmix : P.follows .mixedOrders = true) {f : FuncId} {fn : Func} {c : Code} (hf : P.funcs[f]? = some fn) (hbd : fn.body = some c) {args : List AV} (hlen : Nat.ble args.length fn.ntmps = true) {res : AV} {w : World} {M : Mem} (h1 : allRo M) (h2 : allHold w M)
    (h : CodeS (cx P tb eqs ct hb he hct hmix w fn.ntmps) c (argsTm 0 args) M (retK (cx P tb eqs ct hb he hct hmix w fn.ntmps) fn fun av _ => av.val = res.val)) :
    Calls P f (args.map AV.val).toArray w fun e w' => e = .returned res.val ∧ Below w.heap.size w w' := by
  have := s_fn (X := cx P tb eqs ct hb he hct hmix w fn.ntmps) hf hbd rfl (Nat.le_of_ble_eq_true hlen) (sat_ro h1 h2) h
  refine this.mono fun e w' ⟨av, M', h1, h2, h3⟩ => ⟨by rw [h1, h2], h3.keeps.toBelow⟩

/-! ### Integers that fit are not wrapped -/
theorem p64 : (2 : Int) ^ 64 = 18446744073709551616 := by decide
theorem p63 : (2 : Int) ^ (64 - 1) = 9223372036854775808 := by decide
theorem wi64 {n : Int} (h1 : -9223372036854775808 ≤ n) (h2 : n < 9223372036854775808) : IntKind.i64.wrap n = n := by
  unfold IntKind.wrap
  simp only [IntKind.signed, IntKind.bits, Bool.true_and, p64, p63, decide_eq_true_eq]
  split <;> omega
theorem wu64 {n : Int} (h1 : 0 ≤ n) (h2 : n < 18446744073709551616) : IntKind.u64.wrap n = n := by
  unfold IntKind.wrap
  simp only [IntKind.signed, IntKind.bits, Bool.false_and, Bool.false_eq_true, if_false, p64]
  omega

end Go.Proofs.YtofophjfgalhaaaGreatDoor.D
