import Derived.Test.YtofophjfgalhaaaGreatDoorMisdeedPicksW02
set_option linter.unusedVariables false
set_option linter.unusedSimpArgs false
/-! The evaluator is right. -/
namespace Go.Proofs.YtofophjfgalhaaaGreatDoor.V
open Go Go.RowKit

/-- what a contract's table must satisfy -/
def CtOk (P : Program) (O : Nat → Prop) (w0 : World) (ct : FuncId → List AV → MemF → Option (Prop × AV)) : Prop :=
  ∀ f args M q res, ct f args M = some (q, res) → q → ∀ w, Sat O w0 M w → ∀ (o : Oper) (a : Act) (next : Act → World → Prop) (Q : Exit → Act → World → Prop),
    (∀ w', Below w.heap.size w w' → next (a.put o.dst res.val) w') → o.upon P a next Q ((callFunc f (args.map AV.val).toArray).run P w)

theorem wp_val {P : Program} {o : Oper} {a : Act} {w : World} {next : Act → World → Prop} {Q : Exit → Act → World → Prop} {v : Value} (h : (execOp a.eval o).run P w = .ok (.value v) w) (hk : next (a.put o.dst v) w) :
    o.wp P a w next Q := by
  unfold Oper.wp; rw [h]; exact hk

section
variable {P : Program} {E : Env} {O : Nat → Prop} {w0 : World} {N : Nat} {M : MemF} {tm : TmF} {g : Option Bool} {tag : Nat} {a : Act} {w : World} {o : Oper} {r : R} {next : Act → World → Prop} {Q : Exit → Act → World → Prop}

theorem opd_s (hT : SatT N tm a) {x : Operand} {c : Option Bool} {av : AV} (h : opd tm x = some (c, av)) (hn : need g c) (hg : holdsG g) : a.eval x = av.val := opd_sound hT h hn hg

theorem opd_if (hT : SatT N tm a) {x : Operand} {c : Option Bool} {av : AV} (h : opd tm x = some (c, av)) (hn : ∀ b, c = some b → b = true) : a.eval x = av.val := by
  refine opd_sound hT h (g := none) ?_ trivial
  cases c with
  | none => trivial
  | some b => exact hn b rfl

theorem needIf_elim {bc want : Bool} {c : Option Bool} (h : needIf g bc want c) (hg : holdsG g) (hb : bc = want) : ∀ b, c = some b → b = true := by
  intro b hb'
  subst hb'
  exact imp_elim h hg hb

theorem q_pickB {c x y : Operand} {cc : Option Bool} {bc : Bool} (ho : o.op = .pick c x y) (hT : SatT N tm a) (hg : holdsG g) (h1 : opd tm c = some (cc, .v (.bool bc))) (hn : need g cc) :
    (execOp a.eval o).run P w = .ok (.value (if bc = true then a.eval x else a.eval y)) w := by
  unfold execOp
  rw [ho]
  simp only [opd_s hT h1 hn hg, AV.val_v]
  have hbool : (asBool (.bool bc)).run P w = .ok bc w := rfl
  rw [Sem.run_bind, hbool, Result.andThen_ok]
  rfl

theorem q_pick {c x y : Operand} {ca cb cc : Option Bool} {av bv res : AV} {bc : Bool} (ho : o.op = .pick c x y) (hT : SatT N tm a) (hg : holdsG g) (h1 : opd tm c = some (cc, .v (.bool bc))) (h2 : opd tm x = some (ca, av)) (h3 : opd tm y = some (cb, bv))
    (hp : pickV bc x y av bv = some res) (hn : need g cc) (hx : needIf g bc true ca) (hy : needIf g bc false cb) : (execOp a.eval o).run P w = .ok (.value res.val) w := by
  unfold execOp
  rw [ho]
  simp only [opd_s hT h1 hn hg, AV.val_v]
  have hbool : (asBool (.bool bc)).run P w = .ok bc w := rfl
  rw [Sem.run_bind, hbool, Result.andThen_ok]
  show Result.ok (Next.value (if bc = true then a.eval x else a.eval y)) w = _
  congr 2
  have e1 : bc = true → a.eval x = av.val := fun h => opd_if hT h2 (needIf_elim hx hg h)
  have e2 : bc = false → a.eval y = bv.val := fun h => opd_if hT h3 (needIf_elim hy hg h)
  unfold pickV at hp
  split at hp
  · split at hp
    · cases hp
      cases hb : bc
      · simp only [Bool.false_eq_true, if_false, e2 hb]; rfl
      · simp; rfl
    · cases hp
  · split at hp
    · cases hp
      cases hb : bc
      · simp; rfl
      · simp only [if_true, e1 hb]; rfl
    · cases hp
  · split at hp
    · cases hp
      cases hb : bc
      · simp only [Bool.false_eq_true, if_false, e2 hb]; rfl
      · simp only [if_true, e1 hb]; rfl
    · split at hp
      · rename_i hk
        cases hp
        have hk := kindEq_eq hk
        cases hb : bc
        · simp only [Bool.false_eq_true, if_false, e2 hb, hk]; rfl
        · simp only [if_true, e1 hb]; rfl
      · cases hp
    · cases hp

/-- a new block: its cells -/
theorem wp_new {v : Nat → Value} {c : Array Value} {T : TypeId} (h : (execOp a.eval o).run P w = .ok (.value (v w.heap.size)) (w.alloc (.cells c T)))
    {res : Nat → AV} {B : Nat → Blk} {q : Prop} (hv : ∀ b, (res b).val = v b) (hB : ∀ b, ∃ es len f cap, (B b = .row b T es len f cap ∨ B b = .vrow (some b) T es len f cap) ∧ c.size = cap * es ∧ len ≤ cap ∧ ∀ i, i < len → (f i).size = es ∧ (f i).one = true ∧ ∀ k, k < es → c[i * es + k]? = (f i).cells[k]?)
    (hk : ∀ b w', Below w.heap.size w w' → (R.new q res B).laid w w' b → next (a.put o.dst ((R.new q res B).out b).val) w') : o.wp P a w next Q := by
  unfold Oper.wp; rw [h]
  have := hk w.heap.size (w.alloc (.cells c T)) ((Below.refl _ _).alloc (Nat.le_refl _) _) ?_
  · show next (a.put o.dst (v w.heap.size)) _
    rw [← hv]; exact this
  · obtain ⟨es, len, f, cap, h1, h2, h3, h4⟩ := hB w.heap.size
    have hr : RowHolds (w.alloc (.cells c T)) w.heap.size T es len f cap := by
      refine ⟨c, ?_, h2, h3, h4⟩
      show (w.heap.push (.cells c T))[w.heap.size]? = _
      simp
    rcases h1 with h1 | h1
    · exact ⟨fun k hk => by rw [h1] at hk; cases hk; exact Nat.le_refl _, fun k hk => by rw [h1] at hk; exact hk, by rw [h1]; exact hr⟩
    · exact ⟨fun k hk => by rw [h1] at hk; cases hk; exact Nat.le_refl _, fun k hk => by rw [h1] at hk; exact hk, by rw [h1]; exact hr⟩

theorem fitV_one {x : AV} (h : x.fitV = true) : x.one = true := by
  simp only [AV.fitV, Bool.and_eq_true] at h; exact h.1

theorem row1 {x : AV} (hx : x.fitV = true) (T : TypeId) (b : Nat) : ∃ es len f cap, ((Blk.row b T x.size 1 (fun _ => x) 1) = .row b T es len f cap ∨ (Blk.row b T x.size 1 (fun _ => x) 1) = .vrow (some b) T es len f cap) ∧ x.cells.toArray.size = cap * es ∧ len ≤ cap ∧ ∀ i, i < len → (f i).size = es ∧ (f i).one = true ∧ ∀ k, k < es → x.cells.toArray[i * es + k]? = (f i).cells[k]? := by
  refine ⟨_, _, _, _, .inl rfl, by simp [AV.size_cells], Nat.le_refl _, ?_⟩
  intro i hi
  have : i = 0 := by omega
  subst this
  exact ⟨rfl, fitV_one hx, fun k _ => by simp⟩

theorem chain_get : ∀ {s n : Nat} {z : AV}, z.chainOk s n = true → z.cells.length = n * s ∧ ∀ i, i < n → (z.nthA i).size = s ∧ (z.nthA i).one = true ∧ ∀ k, k < s → z.cells[i * s + k]? = (z.nthA i).cells[k]?
  | s, 0, z, h => by
    cases z <;> first | (simp [AV.chainOk] at h; done) | exact ⟨by simp, fun i hi => by omega⟩
  | s, n + 1, z, h => by
    cases z <;> try (simp [AV.chainOk] at h; done)
    rename_i x r
    simp only [AV.chainOk, Bool.and_eq_true] at h
    obtain ⟨⟨h1, h2⟩, h3⟩ := h
    have h1 := AV.isSize_eq h1
    obtain ⟨h4, h5⟩ := chain_get h3
    refine ⟨by rw [AV.cells_cons, List.length_append, AV.size_cells, h4, h1, Nat.succ_mul]; omega, ?_⟩
    intro i hi
    cases i with
    | zero =>
      refine ⟨h1, h2, fun k hk => ?_⟩
      rw [AV.cells_cons, Nat.zero_mul, Nat.zero_add, List.getElem?_append_left (by rw [AV.size_cells]; omega)]; rfl
    | succ i =>
      obtain ⟨h6, h7, h8⟩ := h5 i (by omega)
      refine ⟨h6, h7, fun k hk => ?_⟩
      rw [AV.cells_cons, List.getElem?_append_right (by rw [AV.size_cells, h1, Nat.succ_mul]; omega), AV.size_cells, h1, show (i + 1) * s + k - s = i * s + k by rw [Nat.succ_mul]; omega]
      exact h8 k hk

theorem rep_cells (z : AV) : ∀ n, (z.rep n).cells.length = n * z.size ∧ ∀ k, k < n * z.size → (z.rep n).cells[k]? = z.cells[k % z.size]?
  | 0 => ⟨by simp [AV.rep], fun k hk => by omega⟩
  | n + 1 => by
    obtain ⟨h1, h2⟩ := rep_cells z n
    refine ⟨by simp only [AV.rep, AV.cells_cons, List.length_append, AV.size_cells, Nat.succ_mul] at *; omega, ?_⟩
    intro k hk
    rw [Nat.succ_mul] at hk
    simp only [AV.rep, AV.cells_cons]
    by_cases hlt : k < z.size
    · rw [List.getElem?_append_left (by rw [AV.size_cells]; exact hlt), Nat.mod_eq_of_lt hlt]
    · rw [List.getElem?_append_right (by rw [AV.size_cells]; omega), AV.size_cells, h2 _ (by omega)]
      congr 1
      exact (Nat.mod_eq_sub_mod (by omega)).symm

end
end Go.Proofs.YtofophjfgalhaaaGreatDoor.V
/-! The evaluator is right: operation by operation. -/
namespace Go.Proofs.YtofophjfgalhaaaGreatDoor.V
open Go Go.RowKit

section
variable {P : Program} {E : Env} {O : Nat → Prop} {w0 : World} {N : Nat} {M : MemF} {tm : TmF} {g : Option Bool} {tag : Nat} {a : Act} {w : World} {o : Oper} {r : R} {next : Act → World → Prop} {Q : Exit → Act → World → Prop}

theorem fieldOf_spec (hb : TblOk P E.tb) {s f ofs sz : Nat} {ft : TypeId} (h : fieldOf E.tb s f = some (ofs, sz, ft)) :
    ∃ gs : Array Field, P.underlying s = some (.struct gs) ∧ ∃ fd, gs[f]? = some fd ∧ fd.offset = ofs ∧ P.cellsOf fd.type = sz ∧ fd.type = ft := by
  unfold fieldOf at h
  split at h
  · rename_i r hr
    obtain ⟨d, hd, hv⟩ := (hb.get hr).under
    split at h
    · rename_i fs he
      rw [he] at hv
      obtain ⟨gs, rfl, hgs⟩ := viewD_st hv
      refine ⟨gs, hd, ?_⟩
      rw [nth_eq, ← hgs, List.getElem?_map] at h
      cases hq : gs.toList[f]? with
      | none => rw [hq] at h; cases h
      | some fd =>
        rw [hq] at h
        simp only [Option.map_some, Option.some.injEq, Prod.mk.injEq] at h
        exact ⟨fd, by simpa using hq, h.1, h.2.1, h.2.2⟩
    · cases h
  · cases h

theorem run_fieldAt (hb : TblOk P E.tb) {s f ofs sz : Nat} {ft : TypeId} (h : fieldOf E.tb s f = some (ofs, sz, ft)) (hp : Nat.blt 0 sz = true) (b c : Nat) (w : World) :
    (Instr.fieldAt s (.pointer (some ⟨b, c, none⟩)) f).run P w = .ok (.pointer (some ⟨b, c + ofs, none⟩)) w := by
  obtain ⟨gs, hu, fd, hf, h1, h2, h3⟩ := fieldOf_spec hb h
  have hp := blt_lt hp
  have hs : (sizeOf fd.type).run P w = .ok sz w := by
    unfold Program.cellsOf at h2
    cases hi : P.info? fd.type with
    | none => simp [hi] at h2; omega
    | some i => simp [hi] at h2; simp [sizeOf, typeInfo, hi, h2]
  unfold Instr.fieldAt
  rw [Sem.run_bind, run_underlying hu, Result.andThen_ok]
  simp only [hf, Sem.run_bind, Instr.sureAddr, Sem.run_pure, Result.andThen_ok, fieldPlace, hs, h1, Addr.add_none]
  rw [if_neg (by omega)]
  rfl

theorem qs_move {x : Operand} (h : qeval E M tm g tag (.move x) = some r) (ho : o.op = .move x ∨ o.op = .assign x) (hc : r.cond) (hT : SatT N tm a) (hg : holdsG g) (hk : ∀ b w', Below w.heap.size w w' → r.laid w w' b → next (a.put o.dst (r.out b).val) w') : o.wp P a w next Q := by
  simp only [qeval] at h
  split at h
  · rename_i c av hx
    cases h
    refine wp_val (v := a.eval x) ?_ ?_
    · unfold execOp; rcases ho with ho | ho <;> rw [ho] <;> rfl
    · rw [opd_s hT hx hc hg]; exact hk 0 w (Below.refl _ _) trivial
  · cases h

theorem qs_alloc (hb : TblOk P E.tb) {t : TypeId} (h : qeval E M tm g tag (.alloc t) = some r) (ho : o.op = .alloc t) (hk : ∀ b w', Below w.heap.size w w' → r.laid w w' b → next (a.put o.dst (r.out b).val) w') : o.wp P a w next Q := by
  simp only [qeval] at h
  split at h
  · rename_i ro hr
    split at h
    · rename_i hf
      cases h
      obtain ⟨hf, hsz⟩ := (Bool.and_eq_true _ _ ▸ hf : _ ∧ _)
      have hsz := AV.isSize_eq hsz
      rw [← hsz] at hk
      refine wp_new (v := fun b => .pointer (some ⟨b, 0, none⟩)) (c := ro.zero.cells.toArray) (T := t) ?_ (fun b => ?_) (fun b => row1 hf t b) hk
      · unfold execOp
        rw [ho]
        simp only [Instr.alloc, Sem.run_bind, (hb.get hr).run_zero, Result.andThen_ok, newVar, newRow, Sem.run_pure, run_newObj, AV.valCells hf]
        rfl
      · simp [AV.val, AV.den, Pt.addr, Pt.cell]
    · cases h
  · cases h

theorem qs_box {t : TypeId} {x : Operand} (h : qeval E M tm g tag (.box t x) = some r) (ho : o.op = .box t x) (hc : r.cond) (hT : SatT N tm a) (hg : holdsG g) (hk : ∀ b w', Below w.heap.size w w' → r.laid w w' b → next (a.put o.dst (r.out b).val) w') : o.wp P a w next Q := by
  simp only [qeval] at h
  split at h
  · rename_i c av ro hx hr
    split at h
    · rename_i hf
      cases h
      obtain ⟨hf, hsz⟩ := (Bool.and_eq_true _ _ ▸ hf : _ ∧ _)
      have hsz := AV.isSize_eq hsz
      rw [← hsz] at hk
      refine wp_new (v := fun b => .pointer (some ⟨b, 0, none⟩)) (c := av.cells.toArray) (T := t) ?_ (fun b => ?_) (fun b => row1 hf t b) hk
      · unfold execOp
        rw [ho]
        simp only [Instr.box, Sem.run_bind, newVar, newRow, Sem.run_pure, run_newObj, Result.andThen_ok, opd_s hT hx hc hg, AV.valCells hf]
        rfl
      · simp [AV.val, AV.den, Pt.addr, Pt.cell]
    · cases h
  · cases h

theorem parts_eq (hT : SatT N tm a) (hg : holdsG g) {parts : Array (Nat × Operand)} {p : Prop} {l : List (Nat × AV)} (h : opds tm g parts.toList = some (p, l)) (hp : p) :
    (parts.map fun (x : Nat × Operand) => (x.1, a.eval x.2)) = (l.map fun x => (x.1, x.2.val)).toArray := by
  apply Array.ext'
  rw [Array.toList_map]
  exact opds_sound hT hg h hp

theorem qs_build (hb : TblOk P E.tb) {t : TypeId} {parts : Array (Nat × Operand)} (h : qeval E M tm g tag (.build t parts) = some r) (ho : o.op = .build t parts) (hc : r.cond) (hT : SatT N tm a) (hg : holdsG g) (hk : ∀ b w', Below w.heap.size w w' → r.laid w w' b → next (a.put o.dst (r.out b).val) w') : o.wp P a w next Q := by
  simp only [qeval] at h
  split at h
  · rename_i p l hl
    split at h
    · rename_i z hz
      split at h
      · rename_i hag
        cases h
        refine wp_val (v := z.val) ?_ (hk 0 w (Below.refl _ _) trivial)
        unfold execOp
        rw [ho]
        simp only [Sem.run_bind]
        have := buildV_run hb hz hag w
        rw [← parts_eq hT hg hl hc] at this
        rw [this]; rfl
      · cases h
    · cases h
  · cases h

theorem qs_buildSlice (hb : TblOk P E.tb) {t : TypeId} {n : Nat} {parts : Array (Nat × Operand)} (h : qeval E M tm g tag (.buildSlice t n parts) = some r) (ho : o.op = .buildSlice t n parts) (hc : r.cond) (hT : SatT N tm a) (hg : holdsG g) (hk : ∀ b w', Below w.heap.size w w' → r.laid w w' b → next (a.put o.dst (r.out b).val) w') : o.wp P a w next Q := by
  simp only [qeval] at h
  split at h
  · rename_i p l ro hl hr
    split at h
    · rename_i e he
      split at h
      · rename_i re hre
        split at h
        · rename_i z hq hu
          split at h
          · rename_i hch
            cases h
            simp only [Bool.and_eq_true] at hq
            obtain ⟨⟨⟨hfit, hpos⟩, hsz⟩, hzs⟩ := hq
            have hzs := AV.isSize_eq hzs
            have hpos := blt_lt hpos
            have hsz := Nat.le_of_ble_eq_true hsz
            obtain ⟨h1, h2⟩ := chain_get hch
            refine wp_new (v := fun b => .slice (some ⟨b, 0, none⟩) n n) (c := z.cells.toArray) (T := e) ?_ (fun b => ?_) (fun b => ⟨_, _, _, _, .inr rfl, by simp [h1], Nat.le_refl _, fun i hi => ?_⟩) hk
            · obtain ⟨d, hd, hv⟩ := (hb.get hr).under
              rw [he] at hv
              rw [viewD_sl hv] at hd
              obtain ⟨hf1, _⟩ := updParts_spec _ _ _ _ hu
              obtain ⟨hrep1, hrep2⟩ := rep_cells re.zero n
              have hzc : re.zero.val.cells = re.zero.cells.toArray := AV.valCells hfit
              have hz0 : n ≠ 0 → ((Array.range (n * re.size)).map (re.zero.val.cells[· % re.zero.val.cells.size]!)) = (re.zero.rep n).cells.toArray := by
                intro hn
                apply Array.ext'
                rw [Array.toList_map, Array.toList_range, hzc]
                apply List.ext_getElem?
                intro k
                rw [List.getElem?_map]
                by_cases hk : k < n * re.size
                · rw [List.getElem?_range hk, Option.map_some]
                  show _ = (re.zero.rep n).cells[k]?
                  rw [hrep2 k (by rw [hzs]; exact hk)]
                  have hm : k % re.zero.size < re.zero.cells.length := by rw [AV.size_cells]; exact Nat.mod_lt _ (by omega)
                  rw [List.getElem?_eq_getElem hm]
                  simp only [List.size_toArray, AV.size_cells]
                  congr 1
                  rw [getElem!_pos _ _ (by simpa [AV.size_cells] using hm)]
                  simp
                · rw [List.getElem?_eq_none (by simp; omega)]
                  show _ = (re.zero.rep n).cells[k]?
                  rw [List.getElem?_eq_none (by rw [hrep1, hzs]; omega)]
                  rfl
              have hpe := parts_eq hT hg hl hc
              unfold execOp
              rw [ho]
              simp only [Sem.run_bind, Instr.buildSlice, run_underlying hd, Result.andThen_ok, (hb.get hre).run_sizeOf]
              rw [if_neg (by omega)]
              have hcells : Instr.fill (fun i => some (i * re.size, re.size)) (re.zero.rep n).cells.toArray (parts.map fun (x : Nat × Operand) => (x.1, a.eval x.2)).toList = some z.cells.toArray := by
                rw [hpe]; exact hf1
              by_cases hn : n = 0
              · subst hn
                have e0 : (Array.map (fun x => (#[] : Array Value)[x % (#[] : Array Value).size]!) (Array.range 0)) = (re.zero.rep 0).cells.toArray := by simp [AV.rep]
                simp only [Nat.zero_mul, if_true, Sem.run_bind, Sem.run_pure, Result.andThen_ok]
                rw [e0, hcells]
                simp only [newRow, Sem.run_bind, run_newObj, Result.andThen_ok, Sem.run_pure]
                rfl
              · rw [if_neg (by have := Nat.mul_pos (Nat.pos_of_ne_zero hn) hpos; omega)]
                simp only [Sem.run_bind, (hb.get hre).run_zero, Result.andThen_ok, Sem.run_pure]
                rw [hz0 hn, hcells]
                simp only [newRow, Sem.run_bind, run_newObj, Result.andThen_ok, Sem.run_pure]
                rfl
            · simp [gs_val, ownB]
            · obtain ⟨h3, h4, h5⟩ := h2 i hi
              exact ⟨h3, h4, fun k hk => by rw [← h5 k hk]; simp⟩
          · cases h
        · cases h
      · cases h
    · cases h
  · cases h

end
end Go.Proofs.YtofophjfgalhaaaGreatDoor.V
/-! The evaluator is right: the rest, and all of it. -/
namespace Go.Proofs.YtofophjfgalhaaaGreatDoor.V
open Go Go.RowKit

section
variable {P : Program} {E : Env} {O : Nat → Prop} {w0 : World} {N : Nat} {M : MemF} {tm : TmF} {g : Option Bool} {tag : Nat} {a : Act} {w : World} {o : Oper} {r : R} {next : Act → World → Prop} {Q : Exit → Act → World → Prop}

theorem qs_load (hb : TblOk P E.tb) {t : TypeId} {x : Operand} (h : qeval E M tm g tag (.load t x) = some r) (ho : o.op = .load t x) (hc : r.cond) (hT : SatT N tm a) (hS : Sat O w0 M w) (hg : holdsG g) (hk : ∀ b w', Below w.heap.size w w' → r.laid w w' b → next (a.put o.dst (r.out b).val) w') : o.wp P a w next Q := by
  simp only [qeval] at h
  split at h
  · rename_i c p ro hx hr
    split at h
    · rename_i q s hl
      cases h
      refine wp_val (v := s.val) ?_ (hk 0 w (Below.refl _ _) trivial)
      unfold execOp
      rw [ho]
      simp only [Sem.run_bind, Instr.loadAt, opd_s hT hx hc.1 hg]
      have : (Instr.sureAddr (AV.ptr p).val).run P w = .ok p.addr w := rfl
      rw [this, Result.andThen_ok, loadV_run hS (hb.get hr) hl (imp_elim hc.2 hg)]
      rfl
    · cases h
  · cases h

theorem qs_nilCheck {x : Operand} (h : qeval E M tm g tag (.nilCheck x) = some r) (ho : o.op = .nilCheck x) (hc : r.cond) (hT : SatT N tm a) (hg : holdsG g) (hk : ∀ b w', Below w.heap.size w w' → r.laid w w' b → next (a.put o.dst (r.out b).val) w') : o.wp P a w next Q := by
  simp only [qeval] at h
  split at h
  · rename_i c p hx
    cases h
    refine wp_val (v := (AV.ptr p).val) ?_ (hk 0 w (Below.refl _ _) trivial)
    unfold execOp
    rw [ho]
    simp only [opd_s hT hx hc hg]
    rfl
  · cases h

theorem qs_binOp (hb : TblOk P E.tb) (he : EqOk P E.eqs) {op : BinOp} {t yt : TypeId} {x y : Operand} (h : qeval E M tm g tag (.binOp op t x y yt) = some r) (ho : o.op = .binOp op t x y yt) (hc : r.cond) (hT : SatT N tm a) (hg : holdsG g) (hk : ∀ b w', Below w.heap.size w w' → r.laid w w' b → next (a.put o.dst (r.out b).val) w') : o.wp P a w next Q := by
  simp only [qeval] at h
  split at h
  · rename_i cx u cy v ro hx hy hr
    split at h
    · rename_i hag
      simp only [Bool.and_eq_true] at hag
      split at h
      · rename_i q hq hm
        cases h
        refine wp_val (v := .bool q) ?_ (hk 0 w (Below.refl _ _) trivial)
        unfold execOp
        rw [ho]
        simp only [opd_s hT hx hc.1 hg, opd_s hT hy hc.2 hg]
        have := (eqT_bin hb he hq hag.1 hag.2 (he.mem hm).2.2 x y w).1
        rw [Sem.run_bind, this]; rfl
      · rename_i q hq hm
        cases h
        refine wp_val (v := .bool !q) ?_ (hk 0 w (Below.refl _ _) trivial)
        unfold execOp
        rw [ho]
        simp only [opd_s hT hx hc.1 hg, opd_s hT hy hc.2 hg]
        have := (eqT_bin hb he hq hag.1 hag.2 (he.mem hm).2.2 x y w).2
        rw [Sem.run_bind, this]; rfl
      · cases h
    · split at h
      · rename_i q z hz
        cases h
        obtain ⟨h1, h2, h3⟩ := hc
        refine wp_val (v := z) ?_ (hk 0 w (Below.refl _ _) trivial)
        unfold execOp
        rw [ho]
        simp only [opd_s hT hx h1 hg, opd_s hT hy h2 hg]
        rw [Sem.run_bind, binV_run (hb.get hr) hz (imp_elim h3 hg) x y w]; rfl
      · cases h
  · cases h

theorem qs_unOp {op : UnOp} {t : TypeId} {x : Operand} (h : qeval E M tm g tag (.unOp op t x) = some r) (ho : o.op = .unOp op t x) (hc : r.cond) (hT : SatT N tm a) (hg : holdsG g) (hk : ∀ b w', Below w.heap.size w w' → r.laid w w' b → next (a.put o.dst (r.out b).val) w') : o.wp P a w next Q := by
  simp only [qeval] at h
  split at h
  · rename_i c b hx
    split at h
    · cases h
      refine wp_val (v := .bool !b) ?_ (hk 0 w (Below.refl _ _) trivial)
      unfold execOp; rw [ho]; simp only [opd_s hT hx hc hg]; rfl
    · cases h
  · rename_i c k n hx
    split at h
    · cases h
      refine wp_val ?_ (hk 0 w (Below.refl _ _) trivial)
      unfold execOp; rw [ho]; simp only [opd_s hT hx hc hg]; rfl
    · cases h
      refine wp_val ?_ (hk 0 w (Below.refl _ _) trivial)
      unfold execOp; rw [ho]; simp only [opd_s hT hx hc hg]; rfl
    · cases h
  · cases h

theorem qs_convert (hb : TblOk P E.tb) {s t : TypeId} {x : Operand} (h : qeval E M tm g tag (.convert s t x) = some r) (ho : o.op = .convert s t x) (hc : r.cond) (hT : SatT N tm a) (hg : holdsG g) (hk : ∀ b w', Below w.heap.size w w' → r.laid w w' b → next (a.put o.dst (r.out b).val) w') : o.wp P a w next Q := by
  simp only [qeval] at h
  split at h
  · rename_i c k0 n rs rd hx hs hd
    split at h
    · rename_i k hk'
      cases h
      refine wp_val (v := .int k (k.wrap n)) ?_ (hk 0 w (Below.refl _ _) trivial)
      obtain ⟨d1, e1, _⟩ := (hb.get hs).under
      obtain ⟨d2, e2, v2⟩ := (hb.get hd).under
      rw [hk'] at v2
      have : d2 = .int k := by cases d2 <;> simp [viewD] at v2; rw [v2]
      rw [this] at e2
      unfold execOp; rw [ho]; simp only [opd_s hT hx hc hg, AV.val_v, convert, Sem.run_bind, run_underlying e1, run_underlying e2, Result.andThen_ok, Conv.intToInt]
      rfl
    · cases h
  · cases h

theorem foldr_vals : ∀ l : List AV, (l.foldr AV.cons .nil).vals = l.map AV.val
  | [] => rfl
  | x :: l => by rw [List.foldr_cons, AV.vals_cons, foldr_vals l]; rfl

theorem args_eq (hT : SatT N tm a) (hg : holdsG g) {xs : Array Operand} {p : Prop} {l : List (Nat × AV)} (h : opds tm g (xs.toList.map fun x => (0, x)) = some (p, l)) (hp : p) : xs.map a.eval = ((vals l).map AV.val).toArray := by
  have := opds_sound hT hg h hp
  apply Array.ext'
  rw [Array.toList_map]
  have e := congrArg (fun l => l.map (fun x : Nat × Value => x.2)) this
  simp only [List.map_map] at e
  unfold vals
  rw [List.map_map]
  exact e

theorem qs_makeFunc {fn : Fn} {first caps : Array Operand} (h : qeval E M tm g tag (.makeFunc fn first caps) = some r) (ho : o.op = .makeFunc fn first caps) (hc : r.cond) (hT : SatT N tm a) (hg : holdsG g) (hk : ∀ b w', Below w.heap.size w w' → r.laid w w' b → next (a.put o.dst (r.out b).val) w') : o.wp P a w next Q := by
  cases fn <;> try (simp [qeval] at h; done)
  rename_i f
  simp only [qeval] at h
  split at h
  · rename_i p l hf hl
    cases h
    refine wp_val ?_ (hk 0 w (Below.refl _ _) trivial)
    have hfirst : first = #[] := by apply Array.ext'; rw [hf]
    unfold execOp
    rw [ho, hfirst]
    simp only [args_eq hT hg hl hc, Array.map_empty]
    show Result.ok (Next.value (Value.func (.func f) #[] _)) w = Result.ok (Next.value (Value.func (.func f) #[] ((vals l).foldr AV.cons .nil).vals.toArray)) w
    rw [foldr_vals]
  · cases h

theorem qs_fieldAddr (hb : TblOk P E.tb) {s : TypeId} {x : Operand} {f : Nat} (h : qeval E M tm g tag (.fieldAddr s x f) = some r) (ho : o.op = .fieldAddr s x f) (hc : r.cond) (hT : SatT N tm a) (hg : holdsG g) (hk : ∀ b w', Below w.heap.size w w' → r.laid w w' b → next (a.put o.dst (r.out b).val) w') : o.wp P a w next Q := by
  simp only [qeval] at h
  split at h
  · rename_i c n ix b o0 es idx off j lf ofs sz ft hx hf
    split at h
    · rename_i hp
      cases h
      refine wp_val ?_ (hk 0 w (Below.refl _ _) trivial)
      unfold execOp; rw [ho]
      simp only [opd_s hT hx hc hg, Sem.run_bind]
      show ((Instr.fieldAt s (.pointer (some ⟨b, o0 + idx * es + off + j, none⟩)) f).run P w).andThen _ = _
      rw [run_fieldAt hb hf hp]
      show Result.ok (Next.value (Value.pointer (some ⟨b, o0 + idx * es + off + j + ofs, none⟩))) w = Result.ok (Next.value (Value.pointer (some ⟨b, o0 + idx * es + (off + ofs) + j, none⟩))) w
      congr 5
      omega
    · cases h
  · cases h

theorem qs_field (hb : TblOk P E.tb) {s : TypeId} {x : Operand} {f : Nat} (h : qeval E M tm g tag (.field s x f) = some r) (ho : o.op = .field s x f) (hc : r.cond) (hT : SatT N tm a) (hg : holdsG g) (hk : ∀ b w', Below w.heap.size w w' → r.laid w w' b → next (a.put o.dst (r.out b).val) w') : o.wp P a w next Q := by
  simp only [qeval] at h
  split at h
  · rename_i c av ofs sz ft hx hf
    split at h
    · rename_i ro hr hag
      split at h
      · rename_i st hs hsub
        cases h
        refine wp_val (v := st.val) ?_ (hk 0 w (Below.refl _ _) trivial)
        obtain ⟨gs, hu, fd, hfd, h1, h2, h3⟩ := fieldOf_spec hb hf
        obtain ⟨hp, hkd⟩ := AV.sub_spec av hsub
        unfold execOp; rw [ho]
        simp only [opd_s hT hx hc hg, AV.val_of_cells hag, Sem.run_bind, Instr.field, run_underlying hu, Result.andThen_ok, hfd, h1, h3]
        have hag2 : (asAgg (.agg av.cells.toArray)).run P w = .ok av.cells.toArray w := rfl
        rw [hag2, Result.andThen_ok, run_part (hb.get hr) (s := st) (by rw [kindB hs]; exact hp) hkd w]
        rfl
      · cases h
    · cases h
  · cases h

theorem qs_extract {x : Operand} {i : Nat} (h : qeval E M tm g tag (.extract x i) = some r) (ho : o.op = .extract x i) (hc : r.cond) (hT : SatT N tm a) (hg : holdsG g) (hk : ∀ b w', Below w.heap.size w w' → r.laid w w' b → next (a.put o.dst (r.out b).val) w') : o.wp P a w next Q := by
  simp only [qeval] at h
  split at h
  · rename_i c l hx
    split at h <;> first | (cases h; done) | skip
    all_goals
      cases h
      refine wp_val ?_ (hk 0 w (Below.refl _ _) trivial)
      unfold execOp; rw [ho]
      simp only [opd_s hT hx hc hg]
      rfl
  · cases h

theorem qs_len (hb : TblOk P E.tb) {args : Array Operand} {ts : Array TypeId} (h : qeval E M tm g tag (.call { callee := .builtin .len, args := args, argTypes := ts }) = some r) (ho : o.op = .call { callee := .builtin .len, args := args, argTypes := ts }) (hc : r.cond) (hT : SatT N tm a) (hS : Sat O w0 M w) (hg : holdsG g) (hk : ∀ b w', Below w.heap.size w w' → r.laid w w' b → next (a.put o.dst (r.out b).val) w') : o.wp P a w next Q := by
  simp only [qeval] at h
  split at h
  · rename_i x t hx0 ht0
    split at h
    · rename_i c av ro hx hr
      split at h
      · rename_i q n hn
        cases h
        obtain ⟨hc, hq⟩ := hc
        have hq := imp_elim hq hg
        have hx1 : args = #[x] := by apply Array.ext'; rw [hx0]
        have ht1 : ts = #[t] := by apply Array.ext'; rw [ht0]
        subst hx1 ht1
        refine wp_val (v := .int .i64 n) ?_ (hk 0 w (Below.refl _ _) trivial)
        have hrun : (Builtin.len_ #[t] o.type #[av.val]).run P w = .ok (.int .i64 n) w := by
          obtain ⟨d, hd, hv⟩ := (hb.get hr).under
          unfold Builtin.len_
          simp only [List.getElem?_toArray, List.getElem?_cons_zero, Sem.run_bind, run_underlying hd, Result.andThen_ok]
          unfold lenM at hn
          split at hn
          · split at hn
            · rename_i n' bm dd xx kk ee mine b' l clk he hM
              cases hn
              obtain ⟨es, h1, _, h3⟩ := hS.holds _ _ hM
              have hl := congrArg List.length h3
              simp only [List.length_map] at hl
              rw [he] at hv
              have : ∃ k e, d = .map k e := by cases d <;> simp [viewD] at hv; exact ⟨_, _, rfl⟩
              obtain ⟨k, e, rfl⟩ := this
              have hbb : b' = bm := hq
              subst hbb
              refine (Sem.run_bind (x := getObj b') ..).trans ?_
              rw [MapKept.run_getObj_map h1, Result.andThen_ok]
              rw [← hl]; rfl
            · cases hn
          · split at hn
            · rename_i n hn'
              cases hn
              unfold lenV at hn'
              split at hn'
              · split at hn'
                · rename_i he; cases hn'; rw [he] at hv; rw [viewD_sl hv]; rfl
                · cases hn'
              · split at hn'
                · rename_i he; cases hn'; rw [he] at hv; rw [viewD_sl hv]; rfl
                · cases hn'
              · split at hn'
                · rename_i he; cases hn'; rw [he] at hv; rw [viewD_sl hv]; rfl
                · cases hn'
              · split at hn'
                · rename_i he
                  cases hn'
                  rw [he] at hv
                  have : d = .string := by cases d <;> simp [viewD] at hv; rfl
                  rw [this]; rfl
                · cases hn'
              · split at hn'
                · rename_i he
                  cases hn'
                  rw [he] at hv
                  have : ∃ k e, d = .map k e := by cases d <;> simp [viewD] at hv; exact ⟨_, _, rfl⟩
                  obtain ⟨k, e, rfl⟩ := this
                  rfl
                · cases hn'
              · split at hn'
                · rename_i he; cases hn'; rw [he] at hv; rw [viewD_arr hv]; rfl
                · cases hn'
            · cases hn
        unfold execOp
        rw [ho]
        simp only [Sem.run_bind, resolve, List.map_toArray, List.map_cons, List.map_nil, opd_s hT hx hc hg, Sem.run_pure, Result.andThen_ok, invoke, builtin]
        rw [hrun]; rfl
      · cases h
    · cases h
  · cases h

theorem qs_cap (hb : TblOk P E.tb) {args : Array Operand} {ts : Array TypeId} (h : qeval E M tm g tag (.call { callee := .builtin .cap, args := args, argTypes := ts }) = some r) (ho : o.op = .call { callee := .builtin .cap, args := args, argTypes := ts }) (hc : r.cond) (hT : SatT N tm a) (hg : holdsG g) (hk : ∀ b w', Below w.heap.size w w' → r.laid w w' b → next (a.put o.dst (r.out b).val) w') : o.wp P a w next Q := by
  simp only [qeval] at h
  split at h
  · rename_i x t hx0 ht0
    split at h
    · rename_i c av ro hx hr
      split at h
      · rename_i n hn
        cases h
        have hx1 : args = #[x] := by apply Array.ext'; rw [hx0]
        have ht1 : ts = #[t] := by apply Array.ext'; rw [ht0]
        subst hx1 ht1
        refine wp_val (v := .int .i64 n) ?_ (hk 0 w (Below.refl _ _) trivial)
        have hrun : (Builtin.cap_ #[t] o.type #[av.val]).run P w = .ok (.int .i64 n) w := by
          obtain ⟨d, hd, hv⟩ := (hb.get hr).under
          unfold Builtin.cap_
          simp only [List.getElem?_toArray, List.getElem?_cons_zero, Sem.run_bind, run_underlying hd, Result.andThen_ok]
          unfold capV at hn
          split at hn
          · split at hn
            · rename_i he; cases hn; rw [he] at hv; rw [viewD_sl hv]; rfl
            · cases hn
          · split at hn
            · rename_i he; cases hn; rw [he] at hv; rw [viewD_sl hv]; rfl
            · cases hn
          · split at hn
            · rename_i he; cases hn; rw [he] at hv; rw [viewD_sl hv]; rfl
            · cases hn
          · cases hn
        unfold execOp
        rw [ho]
        simp only [Sem.run_bind, resolve, List.map_toArray, List.map_cons, List.map_nil, opd_s hT hx hc hg, Sem.run_pure, Result.andThen_ok, invoke, builtin]
        rw [hrun]; rfl
      · cases h
    · cases h
  · cases h

theorem fn_val (f : FuncId) (c : AV) : (AV.fn f c).val = .func (.func f) #[] (c.toL.map AV.val).toArray := by
  show Value.func (.func f) #[] c.vals.toArray = _
  rw [AV.toL_vals]

theorem qs_callT (hct : CtOk P O w0 E.ct) {t : Nat} {args : Array Operand} {ts : Array TypeId} (h : qeval E M tm g tag (.call { callee := .value (.tmp t), args := args, argTypes := ts }) = some r) (ho : o.op = .call { callee := .value (.tmp t), args := args, argTypes := ts }) (hc : r.cond) (hT : SatT N tm a) (hS : Sat O w0 M w) (hg : holdsG g) (hk : ∀ b w', Below w.heap.size w w' → r.laid w w' b → next (a.put o.dst (r.out b).val) w') : o.wp P a w next Q := by
  simp only [qeval] at h
  split at h
  · rename_i c f caps p l ht hl
    split at h
    · rename_i q res hq
      cases h
      unfold Oper.wp
      have hfv : a.eval (.tmp t) = (AV.fn f caps).val := opd_s hT (show opd tm (.tmp t) = _ from ht) hc.1 hg
      have : (execOp a.eval o).run P w = (callFunc f ((vals l ++ caps.toL).map AV.val).toArray).run P w := by
        unfold execOp
        rw [ho]
        simp only [Sem.run_bind, resolve, hfv, fn_val, Deferred.ofValue, args_eq hT hg hl hc.2.1, Sem.run_pure, Result.andThen_ok, invoke, List.append_toArray, List.map_append, List.nil_append]
      rw [this]
      exact hct f (vals l ++ caps.toL) M q res hq (imp_elim hc.2.2 hg) w hS o a next Q (fun w' hw' => hk 0 w' hw' trivial)
    · cases h
  · cases h

theorem qs_makeMap (hb : TblOk P E.tb) {t : TypeId} {x : Option Operand} (h : qeval E M tm g tag (.makeMap t x) = some r) (ho : o.op = .makeMap t x) (hc : r.cond) (hT : SatT N tm a) (hg : holdsG g) (hk : ∀ b w', Below w.heap.size w w' → r.laid w w' b → next (a.put o.dst (r.out b).val) w') : o.wp P a w next Q := by
  have key : (execOp a.eval o).run P w = .ok (.value (.map (some w.heap.size))) (w.alloc (.map #[] 0)) ∧ ∃ c, r = .new c (fun b => .mp tag b) (fun b => .mp true b [] 0) := by
    cases x with
    | none =>
      simp only [qeval] at h
      cases h
      refine ⟨?_, _, rfl⟩
      unfold execOp; rw [ho]; rfl
    | some x =>
      simp only [qeval] at h
      split at h
      · rename_i c k n ro hx hr
        split at h
        · rename_i he
          cases h
          refine ⟨?_, _, rfl⟩
          obtain ⟨d, hd, hv⟩ := (hb.get hr).under
          rw [he] at hv
          have : ∃ k e, d = .map k e := by cases d <;> simp [viewD] at hv; exact ⟨_, _, rfl⟩
          obtain ⟨k, e, rfl⟩ := this
          unfold execOp; rw [ho]
          simp only [Option.map_some, opd_s hT hx hc hg, Sem.run_bind, Instr.makeMap, run_underlying hd, Result.andThen_ok]
          rfl
        · cases h
      · cases h
  obtain ⟨h1, c, rfl⟩ := key
  unfold Oper.wp; rw [h1]
  refine hk w.heap.size (w.alloc (.map #[] 0)) ((Below.refl _ _).alloc (Nat.le_refl _) _) ⟨fun k hk => by cases hk; exact Nat.le_refl _, fun k hk => hk, #[], ?_, MapKept.stamped_empty 0, rfl⟩
  show (w.heap.push (.map #[] 0))[w.heap.size]? = _
  simp

theorem qs_call (hct : CtOk P O w0 E.ct) {f : FuncId} {args : Array Operand} {ts : Array TypeId} (h : qeval E M tm g tag (.call { callee := .value (.func f), args := args, argTypes := ts }) = some r) (ho : o.op = .call { callee := .value (.func f), args := args, argTypes := ts }) (hc : r.cond) (hT : SatT N tm a) (hS : Sat O w0 M w) (hg : holdsG g) (hk : ∀ b w', Below w.heap.size w w' → r.laid w w' b → next (a.put o.dst (r.out b).val) w') : o.wp P a w next Q := by
  simp only [qeval] at h
  split at h
  · rename_i p l hl
    split at h
    · rename_i q res hq
      cases h
      unfold Oper.wp
      have : (execOp a.eval o).run P w = (callFunc f ((vals l).map AV.val).toArray).run P w := by
        unfold execOp
        rw [ho]
        simp only [Sem.run_bind, resolve, Act.eval, Deferred.ofValue, args_eq hT hg hl hc.1, Sem.run_pure, Result.andThen_ok, invoke, Array.empty_append, Array.append_empty]
      rw [this]
      exact hct f (vals l) M q res hq (imp_elim hc.2 hg) w hS o a next Q (fun w' hw' => hk 0 w' hw' trivial)
    · cases h
  · cases h

end
end Go.Proofs.YtofophjfgalhaaaGreatDoor.V
