import Derived.Test.YtofophjfgalhaaaGreatDoorD13
import Derived.Laws.CopyRow
/-! Stores; a function's results; a function's contract out of its walk. -/
namespace Go.Proofs.YtofophjfgalhaaaGreatDoor.D
open Go Go.RowKit

/-- nothing but block b has turned -/
structure Only (b : Nat) (w w' : World) : Prop where
  os : w'.os = w.os
  tape : w'.tape = w.tape
  output : w'.output = w.output
  size : w'.heap.size = w.heap.size
  block : ∀ k, k ≠ b → w'.heap[k]? = w.heap[k]?

theorem Only.setRow (w : World) (b : Nat) (cs : Array Value) : Only b w (w.setRow b cs) := ⟨rfl, rfl, rfl, by simp, fun k hk => setRow_other w b k cs hk⟩

theorem Blk.holds_only {B : Blk} {b : Nat} {w w' : World} (h : B.holds w) (ho : Only b w w') (h1 : B.own ≠ some b) (h2 : ¬ B.reads b) : B.holds w' := by
  cases B with
  | row b1 T1 es1 len1 f1 cap1 =>
    obtain ⟨c, g1, g2⟩ := h
    exact ⟨c, by rw [ho.block b1 (fun e => h1 (by rw [e]; rfl))]; exact g1, g2⟩
  | ro es1 base1 len1 f1 =>
    refine ⟨h.1, fun ix i hi => ?_⟩
    obtain ⟨g1, g2⟩ := h.2 ix i hi
    have hb : (base1 ix).1 ≠ b := fun e => h2 ⟨ix, by omega, e⟩
    refine ⟨g1, fun k hk => ?_⟩
    rw [← g2 k hk]
    unfold World.cell?
    rw [ho.block _ hb]
  | mp m b1 l =>
    obtain ⟨es, cl, g1, g2⟩ := h
    have hb : b1 ≠ b := fun e => by
      cases m with
      | true => exact h1 (by rw [e]; rfl)
      | false => exact h2 e
    exact ⟨es, cl, by rw [ho.block b1 hb]; exact g1, g2⟩
theorem Sat.upd {O : Nat → Prop} {w0 w w' : World} {M : MemF} (h : Sat O w0 M w) {n b : Nat} {B B' : Blk} (hn : M n = some B) (hb : B.own = some b) (ho : Only b w w')
    (hb' : B'.own = some b) (hB : B'.holds w') : Sat O w0 (fun m => if n = m then some B' else M m) w' := by
  have hOb : O b := h.own _ _ _ hn hb
  have old : ∀ {m B1}, (if n = m then some B' else M m) = some B1 → ∃ B2, M m = some B2 ∧ ∀ b1, B1.own = some b1 → B2.own = some b1 := by
    intro m B1 hm
    split at hm
    · rename_i e; cases hm; subst e; exact ⟨_, hn, fun b1 h1 => by rw [hb'] at h1; rw [← h1]; exact hb⟩
    · exact ⟨_, hm, fun _ h1 => h1⟩
  refine ⟨⟨ho.os.trans h.keeps.os, ho.tape.trans h.keeps.tape, ho.output.trans h.keeps.output, by rw [ho.size]; exact h.keeps.size, ?_⟩, ?_, ?_, ?_, ?_⟩
  · intro k hk hO
    rw [ho.block k (fun e => hO (e ▸ hOb))]
    exact h.keeps.block k hk hO
  · intro m B1 hm
    split at hm
    · cases hm; exact hB
    · rename_i hne
      exact Blk.holds_only (h.holds m B1 hm) ho (fun e => hne (h.apart n m _ _ _ hn hm hb e)) (h.roapart n m _ _ _ hn hm hb)
  · intro m B1 b1 hm h1
    obtain ⟨B2, g1, g2⟩ := old hm
    exact h.own _ _ _ g1 (g2 _ h1)
  · intro m m' B1 B2 b1 hm hm' h1 h2
    obtain ⟨_, g1, g2⟩ := old hm
    obtain ⟨_, g3, g4⟩ := old hm'
    exact h.apart _ _ _ _ _ g1 g3 (g2 _ h1) (g4 _ h2)
  · intro m m' B1 B2 b1 hm hm' h1
    obtain ⟨_, g1, g2⟩ := old hm
    split at hm'
    · cases hm'; exact Blk.own_noreads hb'
    · exact h.roapart _ _ _ _ _ g1 hm' (g2 _ h1)

/-- a store of av (of type row r) at p: the tag, and the block behind it -/
def storeV (M : MemF) (r : TRow) (p : Pt) (av : AV) : Option (Prop × Nat × Blk) := match M p.n with
  | some (.row b T es len f cap) => match Nat.beq av.size r.size && av.fitV with
    | true => match (match p.lf with
        | false => match AV.upd p.off r.size av (f p.idx) with
          | some e => some (p.j = 0, e)
          | none => none
        | true => match (f p.idx).leaf p.off, av with
          | some (k, m, l), .v (.int k' x) => match kindEq k k', AV.upd p.off m (.ints k m (lset m l p.j x)) (f p.idx) with
            | true, some e => some (p.j < m, e)
            | _, _ => none
          | _, _ => none) with
      | none => none
      | some (q, e) => some (p.b = b ∧ p.o0 = 0 ∧ p.es = es ∧ p.idx < len ∧ q, p.n, .row b T es len (match Nat.beq len 1 with
          | true => fun _ => e
          | false => fun i => if i = p.idx then e else f i) cap)
    | false => none
  | _ => none

theorem upd_at {off n : Nat} {x a b : List Value} (h : Upd off n x a b) (hx : x.length = n) (k : Nat) : b[k]? = if off ≤ k ∧ k < off + n then x[k - off]? else a[k]? := by
  obtain ⟨h1, h2⟩ := h
  rw [h2, List.append_assoc, List.getElem?_append, List.length_take, Nat.min_eq_left (by omega)]
  by_cases h3 : k < off
  · rw [if_pos h3, if_neg (by omega), List.getElem?_take_of_lt h3]
  · rw [if_neg h3, List.getElem?_append]
    by_cases h4 : k - off < x.length
    · rw [if_pos h4, if_pos (by omega)]
    · rw [if_neg h4, if_neg (by omega), List.getElem?_drop]
      congr 1; omega

theorem upd_size {off n : Nat} {x a b : AV} (h : AV.upd off n x a = some b) (hx : x.size = n) : b.size = a.size := by
  obtain ⟨⟨h1, h2⟩, _⟩ := AV.upd_spec a h hx
  have := congrArg List.length h2
  simp only [List.length_append, List.length_take, List.length_drop, AV.size_cells] at this
  rw [AV.size_cells] at h1
  omega

/-- one element of a row turned, by n cells from off on -/
theorem row_turned {w : World} {b T es len cap : Nat} {f f' : Nat → AV} {idx off : Nat} {vs : List Value} (h : (Blk.row b T es len f cap).holds w) (hi : idx < len) (hvs : off + vs.length ≤ es)
    (hf : ∀ i, i < len → i ≠ idx → f' i = f i) (hs : (f' idx).size = es) (ho : (f' idx).one = true)
    (hc : ∀ k, k < es → (f' idx).cells[k]? = if off ≤ k ∧ k < off + vs.length then vs[k - off]? else (f idx).cells[k]?) {cs : Array Value} (hcs : w.heap[b]? = some (.cells cs T (0, 0))) :
    idx * es + off + vs.length ≤ cs.size ∧ (Blk.row b T es len f' cap).holds (w.setRow b (cs.toList.take (idx * es + off) ++ vs ++ cs.toList.drop (idx * es + off + vs.length)).toArray) := by
  obtain ⟨c, h1, h2, h3, h4⟩ := h
  rw [hcs] at h1
  cases h1
  have hfit : idx * es + es ≤ cs.size := by
    rw [h2, ← Nat.succ_mul]
    exact Nat.mul_le_mul_right _ (by omega)
  refine ⟨by omega, _, setRow_heap w b cs _ T (0, 0) hcs, ?_, h3, fun i hil => ?_⟩
  · simp only [List.size_toArray, List.length_append, List.length_take, List.length_drop, Array.length_toList]
    omega
  · have hget : ∀ j, ((cs.toList.take (idx * es + off) ++ vs ++ cs.toList.drop (idx * es + off + vs.length)).toArray)[j]? = if idx * es + off ≤ j ∧ j < idx * es + off + vs.length then vs[j - (idx * es + off)]? else cs[j]? := by
      intro j
      have := upd_at (off := idx * es + off) (n := vs.length) (x := vs) (a := cs.toList) (b := cs.toList.take (idx * es + off) ++ vs ++ cs.toList.drop (idx * es + off + vs.length)) ⟨by simp; omega, rfl⟩ rfl j
      rw [List.getElem?_toArray, this]
      simp
    by_cases hii : i = idx
    · subst hii
      refine ⟨hs, ho, fun k hk => ?_⟩
      rw [hget, hc k hk]
      by_cases hr : off ≤ k ∧ k < off + vs.length
      · rw [if_pos hr, if_pos (by omega)]
        congr 1; omega
      · rw [if_neg hr, if_neg (by omega)]
        exact (h4 i hil).2.2 k hk
    · rw [hf i hil hii]
      obtain ⟨g1, g2, g3⟩ := h4 i hil
      refine ⟨g1, g2, fun k hk => ?_⟩
      rw [hget, if_neg ?_]
      · exact g3 k hk
      · intro hr
        rcases Nat.lt_or_gt_of_ne hii with hlt | hgt
        · have : (i + 1) * es ≤ idx * es := Nat.mul_le_mul_right _ (by omega)
          rw [Nat.succ_mul] at this; omega
        · have : (idx + 1) * es ≤ i * es := Nat.mul_le_mul_right _ (by omega)
          rw [Nat.succ_mul] at this; omega

section
variable {X : Cx} {tm : Tm} {M : Mem}

theorem e_store {o : Oper} {t : TypeId} {x y : Operand} {p : Pt} {av : AV} {r : TRow} {q : Prop} {n : Nat} {B : Blk} {K : Tm → Mem → Prop} (ho : o.op = .store t x y) (hgd : o.guard = none) (hd : o.dst = none)
    (hx : opd tm.get x = some (none, .ptr p)) (hy : opd tm.get y = some (none, av)) (hr : X.E.tb.get t = some r) (h : storeV M.get r p av = some (q, n, B)) (hq : q) (hk : K tm ((n, B) :: M)) : EffS X o tm M K := by
  refine ⟨hgd, fun a w next Q ha hQ => ?_⟩
  have ex : a.eval x = .pointer (some p.addr) := opd_sound ha.T hx (g := none) trivial trivial
  have ey : a.eval y = av.val := opd_sound ha.T hy (g := none) trivial trivial
  unfold storeV at h
  split at h
  · rename_i b T es len f cap hM
    split at h
    · rename_i hfit
      simp only [Bool.and_eq_true] at hfit
      obtain ⟨hsz, hfv⟩ := hfit
      have hsz := kindB hsz
      split at h
      · cases h
      · rename_i q0 e he
        cases h
        obtain ⟨hb, h0, hes, hidx, hq0⟩ := hq
        have hholds := ha.S.holds _ _ hM
        obtain ⟨cs, hcs, _⟩ := hholds
        have hholds := ha.S.holds _ _ hM
        have hel := (hholds.choose_spec.2.2.2 p.idx hidx)
        -- the element's cells behind it
        have hkey : ∃ off, p.off + p.j = off ∧ off + av.cells.length ≤ es ∧ e.size = es ∧ e.one = true ∧ ∀ k, k < es → e.cells[k]? = if off ≤ k ∧ k < off + av.cells.length then av.cells[k - off]? else (f p.idx).cells[k]? := by
          split at he
          · split at he
            · rename_i e' hu
              cases he
              obtain ⟨h1, h2⟩ := AV.upd_spec _ hu hsz
              refine ⟨p.off, by omega, ?_, by rw [upd_size hu hsz]; exact hel.1, h2 hel.2.1 (fitV_one hfv), fun k _ => ?_⟩
              · have := h1.1; rw [AV.size_cells, hel.1] at this; rw [AV.size_cells, hsz]; exact this
              · rw [AV.size_cells, hsz]; exact upd_at h1 (by rw [AV.size_cells, hsz]) k
            · cases he
          · split at he
            · rename_i k m l k' xx hl _
              split at he
              · rename_i e' hk hu
                cases he
                have hk := kindEq_eq hk
                subst hk
                have hpl := AV.leaf_spec _ hl
                obtain ⟨h1, h2⟩ := AV.upd_spec _ hu (show (AV.ints k m (lset m l p.j xx)).size = m from rfl)
                refine ⟨p.off + p.j, rfl, ?_, by rw [upd_size hu rfl]; exact hel.1, h2 hel.2.1 rfl, fun i hi => ?_⟩
                · have := h1.1; rw [AV.size_cells, hel.1] at this
                  show p.off + p.j + 1 ≤ es
                  omega
                · rw [upd_at h1 (by rw [AV.size_cells]; rfl) i]
                  show _ = if p.off + p.j ≤ i ∧ i < p.off + p.j + 1 then [Value.int k xx][i - (p.off + p.j)]? else _
                  by_cases hin : p.off ≤ i ∧ i < p.off + m
                  · rw [if_pos hin, ints_get k m _ (by omega), lset_get m l p.j xx (by omega)]
                    by_cases hij : i = p.off + p.j
                    · subst hij
                      rw [if_pos (by omega), if_pos (by omega)]
                      simp
                    · rw [if_neg (by omega), if_neg (by omega)]
                      have := getElem?_part hpl (k := i - p.off) (by omega)
                      rw [ints_get k m l (by omega), show p.off + (i - p.off) = i by omega] at this
                      exact this.symm
                  · rw [if_neg hin, if_neg (by omega)]
              · cases he
            · cases he
        obtain ⟨off, hoff, hle, hes1, hone, hcells⟩ := hkey
        obtain ⟨hbound, hnew⟩ := row_turned (f' := fun i => if i = p.idx then e else f i) (vs := av.cells) (off := off) hholds hidx hle (fun i _ hne => by simp [hne]) (by simp [hes1]) (by simp [hone]) (by simpa using hcells) hcs
        have hrun : (storeVar t p.addr av.val).run X.P w = .ok () (w.setRow b (cs.toList.take (p.idx * es + off) ++ av.cells ++ cs.toList.drop (p.idx * es + off + av.cells.length)).toArray) := by
          have hst := run_storeCells_at (P := X.P) b (p.idx * es + off) T av.cells 0 cs w hcs (by omega) (av.one_cells (fitV_one hfv))
          simp only [Nat.add_zero] at hst
          unfold storeVar
          rw [Sem.run_bind, (X.hb.get hr).run_sizeOf, Result.andThen_ok, AV.valCells hfv]
          rw [if_neg (by simp [AV.size_cells, hsz])]
          have ha' : p.addr = ⟨b, p.idx * es + off, none⟩ := by
            unfold Pt.addr Pt.cell
            rw [hb, h0, hes]
            congr 1; omega
          rw [ha']
          exact hst
        unfold Oper.wp
        have hex : (execOp a.eval o).run X.P w = .ok .skip (w.setRow b (cs.toList.take (p.idx * es + off) ++ av.cells ++ cs.toList.drop (p.idx * es + off + av.cells.length)).toArray) := by
          unfold execOp
          rw [ho]
          simp only [ex, ey, Sem.run_bind, Instr.storeAt]
          have : (Instr.sureAddr (.pointer (some p.addr))).run X.P w = .ok p.addr w := rfl
          rw [this, Result.andThen_ok, hrun]; rfl
        rw [hex]
        show next (a.put o.dst undef) _
        rw [hd]
        refine hQ _ _ _ _ hk ⟨ha.T, ha.d, ?_⟩
        have hS := ha.S.upd hM rfl (Only.setRow w b _) rfl hnew
        refine hS.weaken fun m B hm => ?_
        rw [Mem.get_cons] at hm
        by_cases hnm : p.n = m
        · rw [if_pos hnm] at hm
          refine ⟨_, by rw [if_pos hnm], ?_⟩
          cases hm
          refine ⟨rfl, rfl, rfl, rfl, Nat.le_refl _, fun i hi => ?_⟩
          cases hb1 : Nat.beq len 1 with
          | true =>
            have : len = 1 := kindB hb1
            have h1 : i = p.idx := by omega
            simp [h1]
          | false => rfl
        · rw [if_neg hnm] at hm
          exact ⟨B, by rw [if_neg hnm]; exact hm, Blk.le_refl B⟩
    · cases h
  · cases h
end

end Go.Proofs.YtofophjfgalhaaaGreatDoor.D
