import Derived.Test.YtaohdlepocajcaaV8
/-! The evaluator is right: operation by operation. -/
namespace Go.Proofs.Ytaohdlepocajcaa.V
open Go Go.RowKit

section
variable {P : Program} {E : Env} {O : Nat → Prop} {w0 : World} {N : Nat} {M : MemF} {tm : TmF} {g : Option Bool} {tag : Nat} {a : Act} {w : World} {o : Oper} {r : R} {next : Act → World → Prop} {Q : Exit → Act → World → Prop}

theorem add_eq (b o0 es idx off j k : Nat) : (⟨b, o0 + idx * es + off + j, none⟩ : Addr).add k = ⟨b, o0 + idx * es + off + j + k, none⟩ := Addr.add_none _ _ _

theorem fieldOf_spec (hb : TblOk P E.tb) {s f ofs sz : Nat} {ft : TypeId} (h : fieldOf E.tb s f = some (ofs, sz, ft)) :
    ∃ gs : Array Field, P.underlying s = some (.struct gs) ∧ ∃ fd, gs[f]? = some fd ∧ fd.offset = ofs ∧ P.cellsOf fd.type = sz ∧ fd.type = ft := by
  unfold fieldOf at h
  split at h
  · rename_i r hr
    obtain ⟨d, hd, hv⟩ := (hb.get hr).under
    split at h
    · rename_i fs he
      rw [he] at hv
      obtain ⟨gs, rfl, hgs⟩ := viewD_st hv
      refine ⟨gs, hd, ?_⟩
      rw [nth_eq, ← hgs, List.getElem?_map] at h
      cases hq : gs.toList[f]? with
      | none => rw [hq] at h; cases h
      | some fd =>
        rw [hq] at h
        simp only [Option.map_some, Option.some.injEq, Prod.mk.injEq] at h
        exact ⟨fd, by simpa using hq, h.1, h.2.1, h.2.2⟩
    · cases h
  · cases h

theorem run_fieldAt (hb : TblOk P E.tb) {s f ofs sz : Nat} {ft : TypeId} (h : fieldOf E.tb s f = some (ofs, sz, ft)) (hp : Nat.blt 0 sz = true) (b c : Nat) (w : World) :
    (Instr.fieldAt s (.pointer (some ⟨b, c, none⟩)) f).run P w = .ok (.pointer (some ⟨b, c + ofs, none⟩)) w := by
  obtain ⟨gs, hu, fd, hf, h1, h2, h3⟩ := fieldOf_spec hb h
  have hp := blt_lt hp
  have hs : (sizeOf fd.type).run P w = .ok sz w := by
    unfold Program.cellsOf at h2
    cases hi : P.info? fd.type with
    | none => simp [hi] at h2; omega
    | some i => simp [hi] at h2; simp [sizeOf, typeInfo, hi, h2]
  unfold Instr.fieldAt
  rw [Sem.run_bind, run_underlying hu, Result.andThen_ok]
  simp only [hf, Sem.run_bind, Instr.sureAddr, Sem.run_pure, Result.andThen_ok, fieldPlace, hs, h1, Addr.add_none]
  rw [if_neg (by omega)]
  rfl

theorem qs_move {x : Operand} (h : qeval E M tm g tag (.move x) = some r) (ho : o.op = .move x ∨ o.op = .assign x) (hc : r.cond) (hT : SatT N tm a) (hg : holdsG g) (hk : ∀ b w', Below w.heap.size w w' → r.laid w w' b → next (a.put o.dst (r.out b).val) w') : o.wp P a w next Q := by
  simp only [qeval] at h
  split at h
  · rename_i c av hx
    cases h
    refine wp_val (v := a.eval x) ?_ ?_
    · unfold execOp; rcases ho with ho | ho <;> rw [ho] <;> rfl
    · rw [opd_s hT hx hc hg]; exact hk 0 w (Below.refl _ _) trivial
  · cases h

theorem qs_alloc (hb : TblOk P E.tb) {t : TypeId} (h : qeval E M tm g tag (.alloc t) = some r) (ho : o.op = .alloc t) (hk : ∀ b w', Below w.heap.size w w' → r.laid w w' b → next (a.put o.dst (r.out b).val) w') : o.wp P a w next Q := by
  simp only [qeval] at h
  split at h
  · rename_i ro hr
    split at h
    · rename_i hf
      cases h
      refine wp_new (v := fun b => .pointer (some ⟨b, 0, none⟩)) (c := ro.zero.cells.toArray) (T := t) ?_ (fun b => ?_) (fun b => row1 hf t b) hk
      · unfold execOp
        rw [ho]
        simp only [Instr.alloc, Sem.run_bind, (hb.get hr).run_zero, Result.andThen_ok, newVar, newRow, Sem.run_pure, run_newObj, AV.valCells hf]
        rfl
      · simp [AV.val, AV.den, Pt.addr, Pt.cell]
    · cases h
  · cases h

theorem qs_box {t : TypeId} {x : Operand} (h : qeval E M tm g tag (.box t x) = some r) (ho : o.op = .box t x) (hc : r.cond) (hT : SatT N tm a) (hg : holdsG g) (hk : ∀ b w', Below w.heap.size w w' → r.laid w w' b → next (a.put o.dst (r.out b).val) w') : o.wp P a w next Q := by
  simp only [qeval] at h
  split at h
  · rename_i c av hx
    split at h
    · rename_i hf
      cases h
      refine wp_new (v := fun b => .pointer (some ⟨b, 0, none⟩)) (c := av.cells.toArray) (T := t) ?_ (fun b => ?_) (fun b => row1 hf t b) hk
      · unfold execOp
        rw [ho]
        simp only [Instr.box, Sem.run_bind, newVar, newRow, Sem.run_pure, run_newObj, Result.andThen_ok, opd_s hT hx hc hg, AV.valCells hf]
        rfl
      · simp [AV.val, AV.den, Pt.addr, Pt.cell]
    · cases h
  · cases h

theorem parts_eq (hT : SatT N tm a) (hg : holdsG g) {parts : Array (Nat × Operand)} {p : Prop} {l : List (Nat × AV)} (h : opds tm g parts.toList = some (p, l)) (hp : p) :
    (parts.map fun (x : Nat × Operand) => (x.1, a.eval x.2)) = (l.map fun x => (x.1, x.2.val)).toArray := by
  apply Array.ext'
  rw [Array.toList_map]
  exact opds_sound hT hg h hp

theorem qs_build (hb : TblOk P E.tb) {t : TypeId} {parts : Array (Nat × Operand)} (h : qeval E M tm g tag (.build t parts) = some r) (ho : o.op = .build t parts) (hc : r.cond) (hT : SatT N tm a) (hg : holdsG g) (hk : ∀ b w', Below w.heap.size w w' → r.laid w w' b → next (a.put o.dst (r.out b).val) w') : o.wp P a w next Q := by
  simp only [qeval] at h
  split at h
  · rename_i p l hl
    split at h
    · rename_i z hz
      split at h
      · rename_i hag
        cases h
        refine wp_val (v := z.val) ?_ (hk 0 w (Below.refl _ _) trivial)
        unfold execOp
        rw [ho]
        simp only [Sem.run_bind]
        have := buildV_run hb hz hag w
        rw [← parts_eq hT hg hl hc] at this
        rw [this]; rfl
      · cases h
    · cases h
  · cases h

theorem qs_buildSlice (hb : TblOk P E.tb) {t : TypeId} {n : Nat} {parts : Array (Nat × Operand)} (h : qeval E M tm g tag (.buildSlice t n parts) = some r) (ho : o.op = .buildSlice t n parts) (hc : r.cond) (hT : SatT N tm a) (hg : holdsG g) (hk : ∀ b w', Below w.heap.size w w' → r.laid w w' b → next (a.put o.dst (r.out b).val) w') : o.wp P a w next Q := by
  simp only [qeval] at h
  split at h
  · rename_i p l ro hl hr
    split at h
    · rename_i e he
      split at h
      · rename_i re hre
        split at h
        · rename_i z hq hu
          split at h
          · rename_i hch
            cases h
            simp only [Bool.and_eq_true] at hq
            obtain ⟨⟨⟨hfit, hpos⟩, hsz⟩, hzs⟩ := hq
            have hzs := kindB hzs
            have hpos := blt_lt hpos
            have hsz := Nat.le_of_ble_eq_true hsz
            obtain ⟨h1, h2⟩ := chain_get hch
            refine wp_new (v := fun b => .slice (some ⟨b, 0, none⟩) n n) (c := z.cells.toArray) (T := e) ?_ (fun b => ?_) (fun b => ⟨_, _, _, _, .inr rfl, by simp [h1], Nat.le_refl _, fun i hi => ?_⟩) hk
            · obtain ⟨d, hd, hv⟩ := (hb.get hr).under
              rw [he] at hv
              rw [viewD_sl hv] at hd
              obtain ⟨hf1, _⟩ := updParts_spec _ _ _ _ hu
              obtain ⟨hrep1, hrep2⟩ := rep_cells re.zero n
              have hzc : re.zero.val.cells = re.zero.cells.toArray := AV.valCells hfit
              have hz0 : n ≠ 0 → ((Array.range (n * re.size)).map (re.zero.val.cells[· % re.zero.val.cells.size]!)) = (re.zero.rep n).cells.toArray := by
                intro hn
                apply Array.ext'
                rw [Array.toList_map, Array.toList_range, hzc]
                apply List.ext_getElem?
                intro k
                rw [List.getElem?_map]
                by_cases hk : k < n * re.size
                · rw [List.getElem?_range hk, Option.map_some]
                  show _ = (re.zero.rep n).cells[k]?
                  rw [hrep2 k (by rw [hzs]; exact hk)]
                  have hm : k % re.zero.size < re.zero.cells.length := by rw [AV.size_cells]; exact Nat.mod_lt _ (by omega)
                  rw [List.getElem?_eq_getElem hm]
                  simp only [List.size_toArray, AV.size_cells]
                  congr 1
                  rw [getElem!_pos _ _ (by simpa [AV.size_cells] using hm)]
                  simp
                · rw [List.getElem?_eq_none (by simp; omega)]
                  show _ = (re.zero.rep n).cells[k]?
                  rw [List.getElem?_eq_none (by rw [hrep1, hzs]; omega)]
                  rfl
              have hpe := parts_eq hT hg hl hc
              unfold execOp
              rw [ho]
              simp only [Sem.run_bind, Instr.buildSlice, run_underlying hd, Result.andThen_ok, (hb.get hre).run_sizeOf]
              rw [if_neg (by omega)]
              have hcells : Instr.fill (fun i => some (i * re.size, re.size)) (re.zero.rep n).cells.toArray (parts.map fun (x : Nat × Operand) => (x.1, a.eval x.2)).toList = some z.cells.toArray := by
                rw [hpe]; exact hf1
              by_cases hn : n = 0
              · subst hn
                have e0 : (Array.map (fun x => (#[] : Array Value)[x % (#[] : Array Value).size]!) (Array.range 0)) = (re.zero.rep 0).cells.toArray := by simp [AV.rep]
                simp only [Nat.zero_mul, if_true, Sem.run_bind, Sem.run_pure, Result.andThen_ok]
                rw [e0, hcells]
                simp only [newRow, Sem.run_bind, run_newObj, Result.andThen_ok, Sem.run_pure]
                rfl
              · rw [if_neg (by have := Nat.mul_pos (Nat.pos_of_ne_zero hn) hpos; omega)]
                simp only [Sem.run_bind, (hb.get hre).run_zero, Result.andThen_ok, Sem.run_pure]
                rw [hz0 hn, hcells]
                simp only [newRow, Sem.run_bind, run_newObj, Result.andThen_ok, Sem.run_pure]
                rfl
            · simp [gs_val, ownB]
            · obtain ⟨h3, h4, h5⟩ := h2 i hi
              exact ⟨h3, h4, fun k hk => by rw [← h5 k hk]; simp⟩
          · cases h
        · cases h
      · cases h
    · cases h
  · cases h

end
end Go.Proofs.Ytaohdlepocajcaa.V
