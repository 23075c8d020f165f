import Derived.Test.YtaohdlepocajcaaV7
/-! The evaluator is right. -/
namespace Go.Proofs.Ytaohdlepocajcaa.V
open Go Go.RowKit

/-- what a contract's table must satisfy -/
def CtOk (P : Program) (O : Nat → Prop) (w0 : World) (ct : FuncId → List AV → MemF → Option (Prop × AV)) : Prop :=
  ∀ f args M q res, ct f args M = some (q, res) → q → ∀ w, Sat O w0 M w → ∀ (o : Oper) (a : Act) (next : Act → World → Prop) (Q : Exit → Act → World → Prop),
    (∀ w', Below w.heap.size w w' → next (a.put o.dst res.val) w') → o.upon P a next Q ((callFunc f (args.map AV.val).toArray).run P w)

theorem wp_val {P : Program} {o : Oper} {a : Act} {w : World} {next : Act → World → Prop} {Q : Exit → Act → World → Prop} {v : Value} (h : (execOp a.eval o).run P w = .ok (.value v) w) (hk : next (a.put o.dst v) w) :
    o.wp P a w next Q := by
  unfold Oper.wp; rw [h]; exact hk

section
variable {P : Program} {E : Env} {O : Nat → Prop} {w0 : World} {N : Nat} {M : MemF} {tm : TmF} {g : Option Bool} {tag : Nat} {a : Act} {w : World} {o : Oper} {r : R} {next : Act → World → Prop} {Q : Exit → Act → World → Prop}

theorem opd_s (hT : SatT N tm a) {x : Operand} {c : Option Bool} {av : AV} (h : opd tm x = some (c, av)) (hn : need g c) (hg : holdsG g) : a.eval x = av.val := opd_sound hT h hn hg

theorem opd_if (hT : SatT N tm a) {x : Operand} {c : Option Bool} {av : AV} (h : opd tm x = some (c, av)) (hn : ∀ b, c = some b → b = true) : a.eval x = av.val := by
  refine opd_sound hT h (g := none) ?_ trivial
  cases c with
  | none => trivial
  | some b => exact hn b rfl

theorem needIf_elim {bc want : Bool} {c : Option Bool} (h : needIf g bc want c) (hg : holdsG g) (hb : bc = want) : ∀ b, c = some b → b = true := by
  intro b hb'
  subst hb'
  exact imp_elim h hg hb

theorem q_pickB {c x y : Operand} {cc : Option Bool} {bc : Bool} (ho : o.op = .pick c x y) (hT : SatT N tm a) (hg : holdsG g) (h1 : opd tm c = some (cc, .v (.bool bc))) (hn : need g cc) :
    (execOp a.eval o).run P w = .ok (.value (if bc = true then a.eval x else a.eval y)) w := by
  unfold execOp
  rw [ho]
  simp only [opd_s hT h1 hn hg, AV.val_v]
  have hbool : (asBool (.bool bc)).run P w = .ok bc w := rfl
  rw [Sem.run_bind, hbool, Result.andThen_ok]
  rfl

theorem q_pick {c x y : Operand} {ca cb cc : Option Bool} {av bv res : AV} {bc : Bool} (ho : o.op = .pick c x y) (hT : SatT N tm a) (hg : holdsG g) (h1 : opd tm c = some (cc, .v (.bool bc))) (h2 : opd tm x = some (ca, av)) (h3 : opd tm y = some (cb, bv))
    (hp : pickV bc x y av bv = some res) (hn : need g cc) (hx : needIf g bc true ca) (hy : needIf g bc false cb) : (execOp a.eval o).run P w = .ok (.value res.val) w := by
  unfold execOp
  rw [ho]
  simp only [opd_s hT h1 hn hg, AV.val_v]
  have hbool : (asBool (.bool bc)).run P w = .ok bc w := rfl
  rw [Sem.run_bind, hbool, Result.andThen_ok]
  show Result.ok (Next.value (if bc = true then a.eval x else a.eval y)) w = _
  congr 2
  have e1 : bc = true → a.eval x = av.val := fun h => opd_if hT h2 (needIf_elim hx hg h)
  have e2 : bc = false → a.eval y = bv.val := fun h => opd_if hT h3 (needIf_elim hy hg h)
  unfold pickV at hp
  split at hp
  · split at hp
    · cases hp
      cases hb : bc
      · simp only [Bool.false_eq_true, if_false, e2 hb]; rfl
      · simp; rfl
    · cases hp
  · split at hp
    · cases hp
      cases hb : bc
      · simp; rfl
      · simp only [if_true, e1 hb]; rfl
    · cases hp
  · split at hp
    · cases hp
      cases hb : bc
      · simp only [Bool.false_eq_true, if_false, e2 hb]; rfl
      · simp only [if_true, e1 hb]; rfl
    · split at hp
      · rename_i hk
        cases hp
        have hk := kindEq_eq hk
        cases hb : bc
        · simp only [Bool.false_eq_true, if_false, e2 hb, hk]; rfl
        · simp only [if_true, e1 hb]; rfl
      · cases hp
    · cases hp

/-- a new block: its cells -/
theorem wp_new {v : Nat → Value} {c : Array Value} {T : TypeId} (h : (execOp a.eval o).run P w = .ok (.value (v w.heap.size)) (w.alloc (.cells c T)))
    {res : Nat → AV} {B : Nat → Blk} {q : Prop} (hv : ∀ b, (res b).val = v b) (hB : ∀ b, ∃ es len f cap, (B b = .row b T es len f cap ∨ B b = .vrow (some b) T es len f cap) ∧ c.size = cap * es ∧ len ≤ cap ∧ ∀ i, i < len → (f i).size = es ∧ (f i).one = true ∧ ∀ k, k < es → c[i * es + k]? = (f i).cells[k]?)
    (hk : ∀ b w', Below w.heap.size w w' → (R.new q res B).laid w w' b → next (a.put o.dst ((R.new q res B).out b).val) w') : o.wp P a w next Q := by
  unfold Oper.wp; rw [h]
  have := hk w.heap.size (w.alloc (.cells c T)) ((Below.refl _ _).alloc (Nat.le_refl _) _) ?_
  · show next (a.put o.dst (v w.heap.size)) _
    rw [← hv]; exact this
  · obtain ⟨es, len, f, cap, h1, h2, h3, h4⟩ := hB w.heap.size
    have hr : RowHolds (w.alloc (.cells c T)) w.heap.size T es len f cap := by
      refine ⟨c, ?_, h2, h3, h4⟩
      show (w.heap.push (.cells c T))[w.heap.size]? = _
      simp
    rcases h1 with h1 | h1
    · exact ⟨fun k hk => by rw [h1] at hk; cases hk; exact Nat.le_refl _, fun k hk => by rw [h1] at hk; exact hk, by rw [h1]; exact hr⟩
    · exact ⟨fun k hk => by rw [h1] at hk; cases hk; exact Nat.le_refl _, fun k hk => by rw [h1] at hk; exact hk, by rw [h1]; exact hr⟩

theorem fitV_one {x : AV} (h : x.fitV = true) : x.one = true := by
  simp only [AV.fitV, Bool.and_eq_true] at h; exact h.1

theorem row1 {x : AV} (hx : x.fitV = true) (T : TypeId) (b : Nat) : ∃ es len f cap, ((Blk.row b T x.size 1 (fun _ => x) 1) = .row b T es len f cap ∨ (Blk.row b T x.size 1 (fun _ => x) 1) = .vrow (some b) T es len f cap) ∧ x.cells.toArray.size = cap * es ∧ len ≤ cap ∧ ∀ i, i < len → (f i).size = es ∧ (f i).one = true ∧ ∀ k, k < es → x.cells.toArray[i * es + k]? = (f i).cells[k]? := by
  refine ⟨_, _, _, _, .inl rfl, by simp [AV.size_cells], Nat.le_refl _, ?_⟩
  intro i hi
  have : i = 0 := by omega
  subst this
  exact ⟨rfl, fitV_one hx, fun k _ => by simp⟩

theorem chain_get : ∀ {s n : Nat} {z : AV}, z.chainOk s n = true → z.cells.length = n * s ∧ ∀ i, i < n → (z.nthA i).size = s ∧ (z.nthA i).one = true ∧ ∀ k, k < s → z.cells[i * s + k]? = (z.nthA i).cells[k]?
  | s, 0, z, h => by
    cases z <;> first | (simp [AV.chainOk] at h; done) | exact ⟨by simp, fun i hi => by omega⟩
  | s, n + 1, z, h => by
    cases z <;> try (simp [AV.chainOk] at h; done)
    rename_i x r
    simp only [AV.chainOk, Bool.and_eq_true] at h
    obtain ⟨⟨h1, h2⟩, h3⟩ := h
    have h1 := kindB h1
    obtain ⟨h4, h5⟩ := chain_get h3
    refine ⟨by rw [AV.cells_cons, List.length_append, AV.size_cells, h4, h1, Nat.succ_mul]; omega, ?_⟩
    intro i hi
    cases i with
    | zero =>
      refine ⟨h1, h2, fun k hk => ?_⟩
      rw [AV.cells_cons, Nat.zero_mul, Nat.zero_add, List.getElem?_append_left (by rw [AV.size_cells]; omega)]; rfl
    | succ i =>
      obtain ⟨h6, h7, h8⟩ := h5 i (by omega)
      refine ⟨h6, h7, fun k hk => ?_⟩
      rw [AV.cells_cons, List.getElem?_append_right (by rw [AV.size_cells, h1, Nat.succ_mul]; omega), AV.size_cells, h1, show (i + 1) * s + k - s = i * s + k by rw [Nat.succ_mul]; omega]
      exact h8 k hk

theorem rep_cells (z : AV) : ∀ n, (z.rep n).cells.length = n * z.size ∧ ∀ k, k < n * z.size → (z.rep n).cells[k]? = z.cells[k % z.size]?
  | 0 => ⟨by simp [AV.rep], fun k hk => by omega⟩
  | n + 1 => by
    obtain ⟨h1, h2⟩ := rep_cells z n
    refine ⟨by simp only [AV.rep, AV.cells_cons, List.length_append, AV.size_cells, Nat.succ_mul] at *; omega, ?_⟩
    intro k hk
    rw [Nat.succ_mul] at hk
    simp only [AV.rep, AV.cells_cons]
    by_cases hlt : k < z.size
    · rw [List.getElem?_append_left (by rw [AV.size_cells]; exact hlt), Nat.mod_eq_of_lt hlt]
    · rw [List.getElem?_append_right (by rw [AV.size_cells]; omega), AV.size_cells, h2 _ (by omega)]
      congr 1
      exact (Nat.mod_eq_sub_mod (by omega)).symm

end
end Go.Proofs.Ytaohdlepocajcaa.V
