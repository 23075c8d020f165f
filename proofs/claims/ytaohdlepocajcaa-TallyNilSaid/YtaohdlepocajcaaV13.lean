import Derived.Test.YtaohdlepocajcaaV12
import Derived.Deep.AppendSrc
/-! Stores and appends. -/
namespace Go.Proofs.Ytaohdlepocajcaa.V
open Go Go.RowKit

/-! ### A store -/
/-- the element el with av stored at p -/
def storeE (p : Pt) (size : Nat) (av el : AV) : Option (Prop × AV) := match p.lf with
  | false => match AV.upd p.off size av el with
    | some e => some (p.j = 0, e)
    | none => none
  | true => match el.leaf p.off, av with
    | some (k, m, l), .v (.int k' x) => match kindEq k k', AV.upd p.off m (.ints k m (lset m l p.j x)) el with
      | true, some e => some (p.j < m, e)
      | _, _ => none
    | _, _ => none
/-- row contents with element idx turned -/
def fset (len idx : Nat) (f : Nat → AV) (e : AV) : Nat → AV := match Nat.beq len 1 with
  | true => fun _ => e
  | false => fun i => if i = idx then e else f i
/-- a store of av (of type row r) at p: what must hold, and the block behind it -/
def storeV (M : MemF) (r : TRow) (p : Pt) (av : AV) : Option (Prop × Blk) := match Nat.beq av.size r.size && av.fitV with
  | true => match M p.n with
    | some (.row b T es len f cap) => match storeE p r.size av (f p.idx) with
      | some (q, e) => some ((p.b = b ∧ p.o0 = 0 ∧ p.es = es ∧ p.idx < len) ∧ q, .row b T es len (fset len p.idx f e) cap)
      | none => none
    | some (.vrow a T es len f cap) => match storeE p r.size av (f p.idx) with
      | some (q, e) => some (((p.b, p.o0) = gsB (ownB a) ∧ p.es = es ∧ p.idx < len) ∧ q, .vrow a T es len (fset len p.idx f e) cap)
      | none => none
    | _ => none
  | false => none

def evStore (E : Env) (M : MemF) (tm : TmF) (g : Option Bool) : Op → Option Res
  | .store t x y => match g, opd tm x, opd tm y, E.tb.get t with
    | none, some (none, .ptr p), some (none, av), some r => match storeV M r p av with
      | some (q, B) => some ⟨Unit, q, fun _ => True, fun _ => .v undef, [p.n], fun _ => [B]⟩
      | none => none
    | _, _, _, _ => none
  | _ => none

theorem upd_at {off n : Nat} {x a b : List Value} (h : Upd off n x a b) (hx : x.length = n) (k : Nat) : b[k]? = if off ≤ k ∧ k < off + n then x[k - off]? else a[k]? := by
  obtain ⟨h1, h2⟩ := h
  rw [h2, List.append_assoc, List.getElem?_append, List.length_take, Nat.min_eq_left (by omega)]
  by_cases h3 : k < off
  · rw [if_pos h3, if_neg (by omega), List.getElem?_take_of_lt h3]
  · rw [if_neg h3, List.getElem?_append]
    by_cases h4 : k - off < x.length
    · rw [if_pos h4, if_pos (by omega)]
    · rw [if_neg h4, if_neg (by omega), List.getElem?_drop]
      congr 1; omega

theorem upd_size {off n : Nat} {x a b : AV} (h : AV.upd off n x a = some b) (hx : x.size = n) : b.size = a.size := by
  obtain ⟨⟨h1, h2⟩, _⟩ := AV.upd_spec a h hx
  have := congrArg List.length h2
  simp only [List.length_append, List.length_take, List.length_drop, AV.size_cells] at this
  rw [AV.size_cells] at h1
  omega

/-- cells o .. of a block replaced -/
theorem row_set {w : World} {b T es len cap : Nat} {f f' : Nat → AV} {len' o : Nat} {vs : List Value} (h : RowHolds w b T es len f cap) (ho : o + vs.length ≤ cap * es) (hl : len' ≤ cap)
    (hf : ∀ i, i < len' → (f' i).size = es ∧ (f' i).one = true ∧ ∀ k, k < es → (f' i).cells[k]? = if o ≤ i * es + k ∧ i * es + k < o + vs.length then vs[i * es + k - o]? else (f i).cells[k]?)
    (hin : ∀ i, len ≤ i → i < len' → ∀ k, k < es → o ≤ i * es + k ∧ i * es + k < o + vs.length) {cs : Array Value} (hcs : w.heap[b]? = some (.cells cs T (0, 0))) :
    o + vs.length ≤ cs.size ∧ RowHolds (w.setRow b (cs.toList.take o ++ vs ++ cs.toList.drop (o + vs.length)).toArray) b T es len' f' cap := by
  obtain ⟨c, h1, h2, h3, h4⟩ := h
  rw [hcs] at h1
  cases h1
  refine ⟨by omega, _, setRow_heap w b cs _ T (0, 0) hcs, ?_, hl, fun i hi => ?_⟩
  · simp only [List.size_toArray, List.length_append, List.length_take, List.length_drop, Array.length_toList]
    omega
  · obtain ⟨g1, g2, g3⟩ := hf i hi
    refine ⟨g1, g2, fun k hk => ?_⟩
    rw [g3 k hk]
    have := upd_at (off := o) (n := vs.length) (x := vs) (a := cs.toList) (b := cs.toList.take o ++ vs ++ cs.toList.drop (o + vs.length)) ⟨by simp; omega, rfl⟩ rfl (i * es + k)
    rw [List.getElem?_toArray, this]
    split
    · rfl
    · rename_i hno
      rcases Nat.lt_or_ge i len with hil | hil
      · rw [Array.getElem?_toList]
        exact (h4 i hil).2.2 k hk
      · exact absurd (hin i hil hi k hk) hno

theorem storeE_spec {p : Pt} {size : Nat} {av el e : AV} {q : Prop} (h : storeE p size av el = some (q, e)) (hq : q) (hsz : av.size = size) (hfv : av.fitV = true) (ho : el.one = true) :
    p.off + p.j + av.cells.length ≤ el.size ∧ e.size = el.size ∧ e.one = true ∧ ∀ k, k < el.size → e.cells[k]? = if p.off + p.j ≤ k ∧ k < p.off + p.j + av.cells.length then av.cells[k - (p.off + p.j)]? else el.cells[k]? := by
  unfold storeE at h
  split at h
  · split at h
    · rename_i e' hu
      cases h
      have hj : p.j = 0 := hq
      obtain ⟨h1, h2⟩ := AV.upd_spec _ hu hsz
      have h3 := h1.1
      rw [AV.size_cells] at h3
      refine ⟨by rw [AV.size_cells, hsz, hj]; exact h3, upd_size hu hsz, h2 ho (fitV_one hfv), fun k _ => ?_⟩
      rw [AV.size_cells, hsz, hj, Nat.add_zero]
      exact upd_at h1 (by rw [AV.size_cells, hsz]) k
    · cases h
  · split at h
    · rename_i k m l k' xx hl
      split at h
      · rename_i e' hk hu
        cases h
        have hj : p.j < m := hq
        have hk := kindEq_eq hk
        subst hk
        have hpl := AV.leaf_spec _ hl
        obtain ⟨h1, h2⟩ := AV.upd_spec _ hu (show (AV.ints k m (lset m l p.j xx)).size = m from rfl)
        have h3 := h1.1
        rw [AV.size_cells] at h3
        refine ⟨by show p.off + p.j + 1 ≤ el.size; omega, upd_size hu rfl, h2 ho rfl, fun i hi => ?_⟩
        rw [upd_at h1 (by rw [AV.size_cells]; rfl) i]
        show _ = if p.off + p.j ≤ i ∧ i < p.off + p.j + 1 then [Value.int k xx][i - (p.off + p.j)]? else _
        by_cases hin : p.off ≤ i ∧ i < p.off + m
        · rw [if_pos hin, ints_get k m _ (by omega), lset_get m l p.j xx (by omega)]
          by_cases hij : i = p.off + p.j
          · subst hij
            rw [if_pos (by omega), if_pos (by omega)]
            simp
          · rw [if_neg (by omega), if_neg (by omega)]
            have := getElem?_part hpl (k := i - p.off) (by omega)
            rw [ints_get k m l (by omega), show p.off + (i - p.off) = i by omega] at this
            exact this.symm
        · rw [if_neg hin, if_neg (by omega)]
      · cases h
    · cases h

theorem fset_at {len idx : Nat} {f : Nat → AV} {e : AV} {i : Nat} (hi : i < len) (hx : idx < len) : fset len idx f e i = if i = idx then e else f i := by
  unfold fset
  cases h : Nat.beq len 1 with
  | true =>
    have := kindB h
    rw [if_pos (by omega)]
  | false => rfl

theorem store_run {P : Program} {t : TypeId} {r : TRow} (hr : RowOk P t r) {w : World} {b T es len cap : Nat} {f : Nat → AV} (h : RowHolds w b T es len f cap) {p : Pt} (hb : p.b = b) (h0 : p.o0 = 0) (hes : p.es = es) (hidx : p.idx < len)
    {av e : AV} {q : Prop} (hE : storeE p r.size av (f p.idx) = some (q, e)) (hq : q) (hsz : av.size = r.size) (hfv : av.fitV = true) :
    ∃ w', (storeVar t p.addr av.val).run P w = .ok () w' ∧ w'.os = w.os ∧ w'.tape = w.tape ∧ w'.output = w.output ∧ w'.heap.size = w.heap.size ∧ (∀ k, k ≠ b → w'.heap[k]? = w.heap[k]?) ∧ RowHolds w' b T es len (fset len p.idx f e) cap := by
  obtain ⟨cs, hcs, hcz, hlc, hel⟩ := id h
  obtain ⟨h1, h2, h3, h4⟩ := storeE_spec hE hq hsz hfv (hel _ hidx).2.1
  rw [(hel _ hidx).1] at h1 h2 h4
  have hfit : p.idx * es + es ≤ cap * es := by
    rw [← Nat.succ_mul]
    exact Nat.mul_le_mul_right _ (by omega)
  obtain ⟨hbound, hnew⟩ := row_set (f' := fset len p.idx f e) (len' := len) (o := p.idx * es + (p.off + p.j)) (vs := av.cells) h (by omega) hlc (fun i hi => by
    rw [fset_at hi hidx]
    by_cases hii : i = p.idx
    · subst hii
      rw [if_pos rfl]
      refine ⟨h2, h3, fun k hk => ?_⟩
      rw [h4 k hk]
      by_cases hr : p.off + p.j ≤ k ∧ k < p.off + p.j + av.cells.length
      · rw [if_pos hr, if_pos (by omega)]
        congr 1; omega
      · rw [if_neg hr, if_neg (by omega)]
    · rw [if_neg hii]
      obtain ⟨g1, g2, g3⟩ := hel i hi
      refine ⟨g1, g2, fun k hk => ?_⟩
      rw [if_neg]
      intro hr
      rcases Nat.lt_or_gt_of_ne hii with hlt | hgt
      · have : (i + 1) * es ≤ p.idx * es := Nat.mul_le_mul_right _ (by omega)
        rw [Nat.succ_mul] at this; omega
      · have : (p.idx + 1) * es ≤ i * es := Nat.mul_le_mul_right _ (by omega)
        rw [Nat.succ_mul] at this; omega) (fun i hi hi' => by omega) hcs
  refine ⟨w.setRow b (cs.toList.take (p.idx * es + (p.off + p.j)) ++ av.cells ++ cs.toList.drop (p.idx * es + (p.off + p.j) + av.cells.length)).toArray, ?_, rfl, rfl, rfl, by simp, fun k hk => setRow_other w b k _ hk, hnew⟩
  have hst := run_storeCells_at (P := P) b (p.idx * es + (p.off + p.j)) T av.cells 0 cs w hcs (by omega) (av.one_cells (fitV_one hfv))
  simp only [Nat.add_zero] at hst
  unfold storeVar
  rw [Sem.run_bind, hr.run_sizeOf, Result.andThen_ok, AV.valCells hfv]
  rw [if_neg (by simp [AV.size_cells, hsz])]
  have ha' : p.addr = ⟨b, p.idx * es + (p.off + p.j), none⟩ := by
    unfold Pt.addr Pt.cell
    rw [hb, h0, hes]
    congr 1; omega
  rw [ha']
  exact hst

theorem evStore_ok {P : Program} {E : Env} {O : Nat → Prop} {w0 : World} (hb : TblOk P E.tb) : EvOk P O w0 (fun M tm g _ op => evStore E M tm g op) := by
  intro N M tm g tag a w o r h hok hT hS hg next Q hk
  dsimp only at h
  unfold evStore at h
  split at h
  · rename_i t x y ho
    split at h
    · rename_i p av rr hx hy hr
      split at h
      · rename_i q B hst
        cases h
        have ex : a.eval x = .pointer (some p.addr) := opd_sound hT hx (g := none) trivial trivial
        have ey : a.eval y = av.val := opd_sound hT hy (g := none) trivial trivial
        have fin : ∀ w', (storeVar t p.addr av.val).run P w = .ok () w' → next (a.put o.dst undef) w' → o.wp P a w next Q := fun w' hrun hn => by
          unfold Oper.wp
          have hex : (execOp a.eval o).run P w = .ok .skip w' := by
            unfold execOp
            rw [ho]
            simp only [ex, ey, Sem.run_bind, Instr.storeAt]
            have : (Instr.sureAddr (.pointer (some p.addr))).run P w = .ok p.addr w := rfl
            rw [this, Result.andThen_ok, hrun]; rfl
          rw [hex]
          exact hn
        unfold storeV at hst
        split at hst
        · rename_i hfit
          simp only [Bool.and_eq_true] at hfit
          obtain ⟨hsz, hfv⟩ := hfit
          have hsz := kindB hsz
          split at hst
          · rename_i b T es len f cap hM
            split at hst
            · rename_i q' e hE
              cases hst
              obtain ⟨⟨h1, h2, h3, h4⟩, h5⟩ := hok
              obtain ⟨w', r1, r2, r3, r4, r5, r6, r7⟩ := store_run (hb.get hr) (hS.holds _ _ hM) h1 h2 h3 h4 hE h5 hsz hfv
              refine fin w' r1 (hk () w' trivial ?_)
              exact Turn.upd hM r2 r3 r4 (by omega) (fun j _ hj => r6 j fun e => hj e.symm) r7 (fun k hk => .inr hk) fun k hk => hk
            · cases hst
          · rename_i a' T es len f cap hM
            split at hst
            · rename_i q' e hE
              cases hst
              obtain ⟨⟨h1, h3, h4⟩, h5⟩ := hok
              obtain ⟨b, rfl, hrow⟩ := vrow_some (hS.holds _ _ hM) h4
              have e1 : p.b = b := congrArg Prod.fst h1
              have e2 : p.o0 = 0 := congrArg Prod.snd h1
              obtain ⟨w', r1, r2, r3, r4, r5, r6, r7⟩ := store_run (hb.get hr) hrow e1 e2 h3 h4 hE h5 hsz hfv
              refine fin w' r1 (hk () w' trivial ?_)
              exact Turn.upd hM r2 r3 r4 (by omega) (fun j _ hj => r6 j fun e => hj (by rw [e]; rfl)) r7 (fun k hk => .inr hk) fun k hk => hk
            · cases hst
          · cases hst
        · cases hst
      · cases h
    · cases h
  · cases h

end Go.Proofs.Ytaohdlepocajcaa.V
