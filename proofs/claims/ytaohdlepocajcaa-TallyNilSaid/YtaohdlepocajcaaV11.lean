import Derived.Test.YtaohdlepocajcaaV10
/-! The evaluator is right: indexes, cuts, and all of it. -/
namespace Go.Proofs.Ytaohdlepocajcaa.V
open Go Go.RowKit

section
variable {P : Program} {E : Env} {O : Nat → Prop} {w0 : World} {N : Nat} {M : MemF} {tm : TmF} {g : Option Bool} {tag : Nat} {a : Act} {w : World} {o : Oper} {r : R} {next : Act → World → Prop} {Q : Exit → Act → World → Prop}

theorem run_indexAt_slice {t e : TypeId} {rt re : TRow} (hr : RowOk P t rt) (hd : rt.d = .sl e) (hre : RowOk P e re) {b c len cap : Nat} {k : IntKind} {i : Int} (h0 : 0 ≤ i) (h1 : i < len) (w : World) :
    (Instr.indexAt t (.slice (some ⟨b, c, none⟩) len cap) (.int k i)).run P w = .ok (.pointer (some ⟨b, c + i.toNat * re.size, none⟩)) w := by
  obtain ⟨d, hu, hv⟩ := hr.under
  rw [hd] at hv
  rw [viewD_sl hv] at hu
  have ha : (asIntOf (.int k i)).run P w = .ok (k, i) w := rfl
  unfold Instr.indexAt
  rw [Sem.run_bind, ha, Result.andThen_ok]
  simp only [Sem.run_bind, run_underlying hu, Result.andThen_ok, Sem.run_pure]
  rw [if_pos ⟨h0, h1⟩]
  simp only [Sem.run_bind, hre.run_sizeOf, Result.andThen_ok, Sem.run_pure, Addr.add_none]

theorem run_indexAt_arr {t e : TypeId} {rt re : TRow} (hr : RowOk P t rt) {m : Nat} (hd : rt.d = .arr m e) (hre : RowOk P e re) {b c : Nat} {k : IntKind} {i : Int} (h0 : 0 ≤ i) (h1 : i < m) (w : World) :
    (Instr.indexAt t (.pointer (some ⟨b, c, none⟩)) (.int k i)).run P w = .ok (.pointer (some ⟨b, c + i.toNat * re.size, none⟩)) w := by
  obtain ⟨d, hu, hv⟩ := hr.under
  rw [hd] at hv
  rw [viewD_arr hv] at hu
  have ha : (asIntOf (.int k i)).run P w = .ok (k, i) w := rfl
  unfold Instr.indexAt
  rw [Sem.run_bind, ha, Result.andThen_ok]
  have hs : (Instr.sureAddr (.pointer (some ⟨b, c, none⟩))).run P w = .ok ⟨b, c, none⟩ w := rfl
  simp only [Sem.run_bind, run_underlying hu, Result.andThen_ok, Sem.run_pure, hs]
  rw [if_pos ⟨h0, h1⟩]
  simp only [Sem.run_bind, hre.run_sizeOf, Result.andThen_ok, Sem.run_pure, Addr.add_none]

theorem gsAt_some (hS : Sat O w0 M w) {n ix i : Nat} {b : Option (Nat × Nat)} {q : Prop} (h : gsAt M n ix b i = some q) (hq : q) : ∃ x y, b = some (x, y) := by
  unfold gsAt at h
  split at h
  · rename_i hM
    cases h
    obtain ⟨h1, h2⟩ := hq
    obtain ⟨b', h3, _⟩ := vrow_some (hS.holds _ _ hM) h2
    subst h3
    exact ⟨b', 0, h1⟩
  · rename_i hM
    cases h
    obtain ⟨h1, h2⟩ := hq
    have h3 := hS.holds _ _ hM
    cases hb : b with
    | none => rw [hb] at h1; have := (h3 ix).1 h1.symm; omega
    | some z => exact ⟨z.1, z.2, rfl⟩
  · cases h

theorem qs_indexAddr (hb : TblOk P E.tb) {t : TypeId} {x i : Operand} (h : qeval E M tm g tag (.indexAddr t x i) = some r) (ho : o.op = .indexAddr t x i) (hc : r.cond) (hT : SatT N tm a) (hS : Sat O w0 M w) (hg : holdsG g) (hk : ∀ b w', Below w.heap.size w w' → r.laid w w' b → next (a.put o.dst (r.out b).val) w') : o.wp P a w next Q := by
  simp only [qeval] at h
  split at h
  · rename_i c n ix b o0 es idx off j lf len cap ci ki k rt hx hi hr
    split at h
    · rename_i e he
      split at h
      · rename_i re hre
        split at h
        · rename_i hs
          cases h
          obtain ⟨h1, h2, h3⟩ := hc
          have h3 := imp_elim h3 hg
          refine wp_val ?_ (hk 0 w (Below.refl _ _) trivial)
          unfold execOp; rw [ho]
          simp only [opd_s hT hx h1 hg, opd_s hT hi h2 hg, Sem.run_bind]
          show ((Instr.indexAt t (.slice (some ⟨b, o0 + idx * es + off + j, none⟩) len cap) (.int ki k)).run P w).andThen _ = _
          rw [run_indexAt_slice (hb.get hr) he (hb.get hre) h3.1 h3.2, kindB hs]
          show Result.ok (Next.value (Value.pointer (some ⟨b, o0 + idx * es + off + j + k.toNat * 1, none⟩))) w = Result.ok (Next.value (Value.pointer (some ⟨b, o0 + idx * es + off + (j + k.toNat), none⟩))) w
          congr 5; omega
        · cases h
      · rename_i re hre
        cases h
        obtain ⟨h1, h2, h3, h4⟩ := hc
        have h3 := imp_elim h3 hg
        refine wp_val ?_ (hk 0 w (Below.refl _ _) trivial)
        unfold execOp; rw [ho]
        simp only [opd_s hT hx h1 hg, opd_s hT hi h2 hg, Sem.run_bind]
        show ((Instr.indexAt t (.slice (some ⟨b, o0 + idx * es + off + j, none⟩) len cap) (.int ki k)).run P w).andThen _ = _
        rw [run_indexAt_slice (hb.get hr) he (hb.get hre) h3.1 h3.2]
        show Result.ok (Next.value (Value.pointer (some ⟨b, o0 + idx * es + off + j + k.toNat * re.size, none⟩))) w = Result.ok (Next.value (Value.pointer (some ⟨b, o0 + (idx + k.toNat) * es + off + j, none⟩))) w
        rw [h4, Nat.add_mul]
        congr 5; omega
      · cases h
    · cases h
  · rename_i c n ix b es i0 len cap ci ki k rt hx hi hr
    split at h
    · rename_i e he
      split at h
      · rename_i re q hre hq
        cases h
        obtain ⟨h1, h2, h3, h4⟩ := hc
        obtain ⟨h3, h5⟩ := imp_elim h3 hg
        obtain ⟨bb, bo, rfl⟩ := gsAt_some hS hq h5
        refine wp_val ?_ (hk 0 w (Below.refl _ _) trivial)
        unfold execOp; rw [ho]
        simp only [opd_s hT hx h1 hg, opd_s hT hi h2 hg, Sem.run_bind]
        show ((Instr.indexAt t (.slice (some ⟨bb, bo + i0 * es, none⟩) len cap) (.int ki k)).run P w).andThen _ = _
        rw [run_indexAt_slice (hb.get hr) he (hb.get hre) h3.1 h3.2]
        show Result.ok (Next.value (Value.pointer (some ⟨bb, bo + i0 * es + k.toNat * re.size, none⟩))) w = Result.ok (Next.value (Value.pointer (some ⟨bb, bo + (k.toNat + i0) * es + 0 + 0, none⟩))) w
        rw [h4, Nat.add_mul]
        congr 5; omega
      · cases h
    · cases h
  · rename_i c n ix b o0 es idx off j lf ci ki k rt hx hi hr
    split at h
    · rename_i m e he
      split at h
      · rename_i re hre
        split at h
        · rename_i k' _ hm hk'
          split at h
          · rename_i hs
            cases h
            obtain ⟨h1, h2, h3⟩ := hc
            have h3 := imp_elim h3 hg
            refine wp_val ?_ (hk 0 w (Below.refl _ _) trivial)
            unfold execOp; rw [ho]
            simp only [opd_s hT hx h1 hg, opd_s hT hi h2 hg, Sem.run_bind]
            show ((Instr.indexAt t (.pointer (some ⟨b, o0 + idx * es + off + j, none⟩)) (.int ki k)).run P w).andThen _ = _
            rw [run_indexAt_arr (hb.get hr) he (hb.get hre) h3.1 h3.2, kindB hs]
            show Result.ok (Next.value (Value.pointer (some ⟨b, o0 + idx * es + off + j + k.toNat * 1, none⟩))) w = Result.ok (Next.value (Value.pointer (some ⟨b, o0 + idx * es + off + (j + k.toNat), none⟩))) w
            congr 5; omega
          · cases h
        · rename_i kk k' hm hk'
          cases h
          obtain ⟨h1, h2, h3, h4⟩ := hc
          have h3 := imp_elim h3 hg
          subst h4
          refine wp_val ?_ (hk 0 w (Below.refl _ _) trivial)
          unfold execOp; rw [ho]
          simp only [opd_s hT hx h1 hg, opd_s hT hi h2 hg, Sem.run_bind]
          show ((Instr.indexAt t (.pointer (some ⟨b, o0 + idx * es + off + j, none⟩)) (.int ki k)).run P w).andThen _ = _
          rw [run_indexAt_arr (hb.get hr) he (hb.get hre) h3.1 h3.2]
          show Result.ok (Next.value (Value.pointer (some ⟨b, o0 + idx * es + off + j + k.toNat * re.size, none⟩))) w = Result.ok (Next.value (Value.pointer (some ⟨b, o0 + idx * es + (off + k.toNat * re.size) + j, none⟩))) w
          congr 5; omega
        · cases h
      · cases h
    · cases h
  · cases h

theorem qs_index (hb : TblOk P E.tb) {t : TypeId} {x i : Operand} (h : qeval E M tm g tag (.index t x i) = some r) (ho : o.op = .index t x i) (hc : r.cond) (hT : SatT N tm a) (hg : holdsG g) (hk : ∀ b w', Below w.heap.size w w' → r.laid w w' b → next (a.put o.dst (r.out b).val) w') : o.wp P a w next Q := by
  simp only [qeval] at h
  split at h
  · rename_i c k m l ci ki n rt hx hi hr
    split at h
    · rename_i m' e he
      split at h
      · rename_i re hre
        split at h
        · rename_i k' hk'
          split at h
          · rename_i hq
            cases h
            simp only [Bool.and_eq_true] at hq
            obtain ⟨⟨q1, q2⟩, q3⟩ := hq
            have q1 := kindEq_eq q1; have q2 := kindB q2; have q3 := kindB q3
            subst q1 q2
            obtain ⟨h1, h2, h3⟩ := hc
            have h3 := imp_elim h3 hg
            refine wp_val (v := .int k (l.getD n.toNat 0)) ?_ (hk 0 w (Below.refl _ _) trivial)
            obtain ⟨d, hu, hv⟩ := (hb.get hr).under
            rw [he] at hv
            rw [viewD_arr hv] at hu
            have hp : (part e ((List.range m).map fun j => Value.int k (l.getD j 0)).toArray (n.toNat * 1)).run P w = .ok (.int k (l.getD n.toNat 0)) w := by
              refine run_part (hb.get hre) (s := .v (.int k (l.getD n.toNat 0))) ⟨q3.symm, ?_, ?_⟩ (by rw [hk']; rfl) w
              · simp [q3]; omega
              · simp only [q3, Nat.mul_one]
                rw [← List.map_drop, ← List.map_take, List.drop_eq_getElem_cons (by simp; omega)]
                simp
            unfold execOp; rw [ho]
            simp only [opd_s hT hx h1 hg, opd_s hT hi h2 hg, Sem.run_bind]
            have ha : (asIntOf (.int ki n)).run P w = .ok (ki, n) w := rfl
            show ((Instr.index t (.agg ((List.range m).map fun j => Value.int k (l.getD j 0)).toArray) (.int ki n)).run P w).andThen _ = _
            unfold Instr.index
            rw [Sem.run_bind, ha, Result.andThen_ok]
            simp only [Sem.run_bind, run_underlying hu, Result.andThen_ok]
            rw [if_pos ⟨h3.1, h3.2⟩]
            simp only [Sem.run_bind, (hb.get hre).run_sizeOf, Result.andThen_ok, q3, hp]
            rfl
          · cases h
        · cases h
      · cases h
    · cases h
  · rename_i c l ci ki n rt hx hi hr
    split at h
    · rename_i m e he
      split at h
      · rename_i re hre
        split at h
        · rename_i s hs
          cases h
          obtain ⟨h1, h2, h3⟩ := hc
          refine wp_val (v := s.val) ?_ (hk 0 w (Below.refl _ _) trivial)
          obtain ⟨d, hu, hv⟩ := (hb.get hr).under
          rw [he] at hv
          rw [viewD_arr hv] at hu
          obtain ⟨hp, hkd⟩ := AV.sub_spec _ hs
          unfold execOp; rw [ho]
          simp only [opd_s hT hx h1 hg, opd_s hT hi h2 hg, Sem.run_bind]
          have ha : (asIntOf (.int ki (Int.ofNat n))).run P w = .ok (ki, Int.ofNat n) w := rfl
          show ((Instr.index t (.agg l.cells.toArray) (.int ki (Int.ofNat n))).run P w).andThen _ = _
          unfold Instr.index
          rw [Sem.run_bind, ha, Result.andThen_ok]
          simp only [Sem.run_bind, run_underlying hu, Result.andThen_ok]
          rw [if_pos ⟨Int.natCast_nonneg n, Int.ofNat_lt.2 h3⟩]
          simp only [Sem.run_bind, (hb.get hre).run_sizeOf, Result.andThen_ok]
          have hp2 : (part e l.cells.toArray ((Int.ofNat n).toNat * re.size)).run P w = .ok s.val w := run_part (hb.get hre) (s := s) (off := (Int.ofNat n).toNat * re.size) hp hkd w
          rw [hp2]
          rfl
        · cases h
      · cases h
    · cases h
  · rename_i c s ci ki n rt hx hi hr
    split at h
    · rename_i he
      cases h
      obtain ⟨h1, h2, h3⟩ := hc
      have h3 := imp_elim h3 hg
      refine wp_val ?_ (hk 0 w (Below.refl _ _) trivial)
      obtain ⟨d, hu, hv⟩ := (hb.get hr).under
      rw [he] at hv
      have hd : d = .string := by cases d <;> simp [viewD] at hv; rfl
      rw [hd] at hu
      unfold execOp; rw [ho]
      simp only [opd_s hT hx h1 hg, opd_s hT hi h2 hg, Sem.run_bind]
      have ha : (asIntOf (.int ki n)).run P w = .ok (ki, n) w := rfl
      show ((Instr.index t (.string s) (.int ki n)).run P w).andThen _ = _
      unfold Instr.index
      rw [Sem.run_bind, ha, Result.andThen_ok]
      simp only [Sem.run_bind, run_underlying hu, Result.andThen_ok]
      have hlt : n.toNat < s.size := by omega
      have hsz : s.data.toList.length = s.size := rfl
      rw [if_pos h3.1]
      have hget : s[n.toNat]? = some (s.data.toList.getD n.toNat 0) := by
        rw [List.getD_eq_getElem?_getD, List.getElem?_eq_getElem (by rw [hsz]; exact hlt)]
        rw [getElem?_pos s n.toNat hlt]
        rfl
      rw [hget]
      rfl
    · cases h
  · cases h

def BndIs : Option Int → Option Value → Prop
  | none, u => u = none
  | some n, u => ∃ k, u = some (.int k n)

theorem bnd_sound (hT : SatT N tm a) (hg : holdsG g) {x : Option Operand} {p : Prop} {v : Option Int} (h : bnd tm g x = some (p, v)) (hp : p) : ∃ u : Option Value, x.map a.eval = u ∧ BndIs v u := by
  cases x with
  | none => cases h; exact ⟨none, rfl, rfl⟩
  | some x =>
    simp only [bnd] at h
    split at h
    · rename_i c k n hx
      cases h
      exact ⟨some (.int k n), by rw [Option.map_some, opd_s hT hx hp hg]; rfl, k, rfl⟩
    · cases h

theorem run_sliceBound {k : IntKind} {i : Int} {y : Nat} {code : BoundsCode} (h0 : 0 ≤ i) (h1 : i ≤ y) (w : World) : (Instr.sliceBound (.int k i) y code).run P w = .ok i.toNat w := by
  have ha : (asIntOf (.int k i)).run P w = .ok (k, i) w := rfl
  unfold Instr.sliceBound
  rw [Sem.run_bind, ha, Result.andThen_ok]
  simp only []
  rw [if_pos ⟨h0, h1⟩]; rfl

theorem run_sliceBounds {isSlice : Bool} {lo hi mx : Option Int} {len cap : Nat} {p : Prop} {l h m : Nat} (hb : bounds lo hi mx len cap = some (p, l, h, m)) (hp : p) {ul uh um : Option Value}
    (hl : BndIs lo ul) (hh : BndIs hi uh) (hm : BndIs mx um) (w : World) :
    (Instr.sliceBounds isSlice len cap ul uh um).run P w = .ok (l, h, m) w := by
  unfold bounds at hb
  split at hb
  · cases hb
  · rename_i hno
    simp only [Option.some.injEq, Prod.mk.injEq] at hb
    obtain ⟨rfl, rfl, rfl, rfl⟩ := hb
    obtain ⟨p1, p2, p3⟩ := hp
    cases mx with
    | none =>
      cases hm
      cases hi with
      | none =>
        cases hh
        cases lo with
        | none => cases hl; rfl
        | some n => obtain ⟨k, rfl⟩ := hl; simp [Instr.sliceBounds, run_sliceBound p3.1 p3.2]
      | some n =>
        obtain ⟨k, rfl⟩ := hh
        cases lo with
        | none => cases hl; simp [Instr.sliceBounds, run_sliceBound p2.1 p2.2]
        | some n' => obtain ⟨k', rfl⟩ := hl; simp [Instr.sliceBounds, run_sliceBound p2.1 p2.2, run_sliceBound p3.1 p3.2]
    | some m =>
      obtain ⟨km, rfl⟩ := hm
      cases hi with
      | none => exact absurd rfl (hno m rfl)
      | some n =>
        obtain ⟨k, rfl⟩ := hh
        cases lo with
        | none => cases hl; simp [Instr.sliceBounds, run_sliceBound p1.1 p1.2, run_sliceBound p2.1 p2.2]
        | some n' => obtain ⟨k', rfl⟩ := hl; simp [Instr.sliceBounds, run_sliceBound p1.1 p1.2, run_sliceBound p2.1 p2.2, run_sliceBound p3.1 p3.2]

/-- where none is given as low, l is 0 -/
theorem bounds_lo {hi mx : Option Int} {len cap : Nat} {p : Prop} {l h m : Nat} (hb : bounds none hi mx len cap = some (p, l, h, m)) : l = 0 := by
  unfold bounds at hb
  split at hb
  · cases hb
  · simp only [Option.some.injEq, Prod.mk.injEq] at hb
    exact hb.2.1.symm

theorem cut_addr {lo hi mx : Option Int} {len cap : Nat} {p : Prop} {l h m : Nat} (hb : bounds lo hi mx len cap = some (p, l, h, m)) (b c s : Nat) :
    (if m = l then (⟨b, c, none⟩ : Addr) else (⟨b, c, none⟩ : Addr).add (l * s)) = ⟨b, c + cutOff lo m l * s, none⟩ := by
  cases lo with
  | none =>
    have := bounds_lo hb
    subst this
    simp only [cutOff, Nat.zero_mul, Nat.add_zero]
    split
    · rfl
    · simp [Addr.add]
  | some v =>
    simp only [cutOff]
    split
    · simp
    · rw [Addr.add_none]

theorem qs_slice (hb : TblOk P E.tb) {t : TypeId} {x : Operand} {lo hi mx : Option Operand} (h : qeval E M tm g tag (.slice t x lo hi mx) = some r) (ho : o.op = .slice t x lo hi mx) (hc : r.cond) (hT : SatT N tm a) (hg : holdsG g) (hk : ∀ b w', Below w.heap.size w w' → r.laid w w' b → next (a.put o.dst (r.out b).val) w') : o.wp P a w next Q := by
  simp only [qeval] at h
  split at h
  · rename_i c n ix b o0 es idx off j lf len cap rt cl vl ch vh cm vm hx hr hl hh hm
    split at h
    · rename_i e p l hh' m he hbd
      split at h
      · rename_i re hre
        split at h
        · rename_i hs
          cases h
          obtain ⟨h1, h2, h3, h4, h5⟩ := hc
          have h5 := imp_elim h5 hg
          obtain ⟨ul, el, fl⟩ := bnd_sound hT hg hl h2
          obtain ⟨uh, eh, fh⟩ := bnd_sound hT hg hh h3
          obtain ⟨um, em, fm⟩ := bnd_sound hT hg hm h4
          have hsb := run_sliceBounds (P := P) (isSlice := true) hbd h5 fl fh fm w
          refine wp_val ?_ (hk 0 w (Below.refl _ _) trivial)
          obtain ⟨d, hu, hv⟩ := (hb.get hr).under
          rw [he] at hv
          rw [viewD_sl hv] at hu
          unfold execOp; rw [ho]
          simp only [opd_s hT hx h1 hg, el, eh, em, Sem.run_bind, Instr.sliceAt, run_underlying hu, Result.andThen_ok]
          show ((Instr.slice t (.slice (some ⟨b, o0 + idx * es + off + j, none⟩) len cap) ul uh um).run P w).andThen _ = _
          unfold Instr.slice
          simp only [Sem.run_bind, run_underlying hu, Result.andThen_ok, hsb, (hb.get hre).run_sizeOf, Sem.run_pure, kindB hs]
          have hca := cut_addr hbd b (o0 + idx * es + off + j) 1
          have : (if m = l then (some ⟨b, o0 + idx * es + off + j, none⟩ : Option Addr) else Option.map (fun x : Addr => x.add (l * 1)) (some ⟨b, o0 + idx * es + off + j, none⟩)) = some ⟨b, o0 + idx * es + off + j + cutOff vl m l * 1, none⟩ := by
            rw [← hca]; split <;> rfl
          rw [this]
          show Result.ok (Next.value (Value.slice (some ⟨b, _, none⟩) _ _)) w = Result.ok (Next.value (Value.slice (some ⟨b, o0 + idx * es + off + (j + _), none⟩) _ _)) w
          congr 5; omega
        · cases h
      · rename_i re hre
        cases h
        obtain ⟨h1, h2, h3, h4, h5, h6⟩ := hc
        have h5 := imp_elim h5 hg
        obtain ⟨ul, el, fl⟩ := bnd_sound hT hg hl h2
        obtain ⟨uh, eh, fh⟩ := bnd_sound hT hg hh h3
        obtain ⟨um, em, fm⟩ := bnd_sound hT hg hm h4
        have hsb := run_sliceBounds (P := P) (isSlice := true) hbd h5 fl fh fm w
        refine wp_val ?_ (hk 0 w (Below.refl _ _) trivial)
        obtain ⟨d, hu, hv⟩ := (hb.get hr).under
        rw [he] at hv
        rw [viewD_sl hv] at hu
        unfold execOp; rw [ho]
        simp only [opd_s hT hx h1 hg, el, eh, em, Sem.run_bind, Instr.sliceAt, run_underlying hu, Result.andThen_ok]
        show ((Instr.slice t (.slice (some ⟨b, o0 + idx * es + off + j, none⟩) len cap) ul uh um).run P w).andThen _ = _
        unfold Instr.slice
        simp only [Sem.run_bind, run_underlying hu, Result.andThen_ok, hsb, (hb.get hre).run_sizeOf, Sem.run_pure]
        have hca := cut_addr hbd b (o0 + idx * es + off + j) re.size
        have : (if m = l then (some ⟨b, o0 + idx * es + off + j, none⟩ : Option Addr) else Option.map (fun x : Addr => x.add (l * re.size)) (some ⟨b, o0 + idx * es + off + j, none⟩)) = some ⟨b, o0 + idx * es + off + j + cutOff vl m l * re.size, none⟩ := by
          rw [← hca]; split <;> rfl
        rw [this]
        show Result.ok (Next.value (Value.slice (some ⟨b, _, none⟩) _ _)) w = Result.ok (Next.value (Value.slice (some ⟨b, o0 + (idx + _) * es + off + j, none⟩) _ _)) w
        rw [h6, Nat.add_mul]
        congr 5; omega
      · cases h
    · cases h
  · rename_i c n ix b es i0 len cap rt cl vl ch vh cm vm hx hr hl hh hm
    split at h
    · rename_i e p l hh' m he hbd
      split at h
      · rename_i re hre
        cases h
        obtain ⟨h1, h2, h3, h4, h5, h6⟩ := hc
        have h5 := imp_elim h5 hg
        obtain ⟨ul, el, fl⟩ := bnd_sound hT hg hl h2
        obtain ⟨uh, eh, fh⟩ := bnd_sound hT hg hh h3
        obtain ⟨um, em, fm⟩ := bnd_sound hT hg hm h4
        have hsb := run_sliceBounds (P := P) (isSlice := true) hbd h5 fl fh fm w
        refine wp_val ?_ (hk 0 w (Below.refl _ _) trivial)
        obtain ⟨d, hu, hv⟩ := (hb.get hr).under
        rw [he] at hv
        rw [viewD_sl hv] at hu
        unfold execOp; rw [ho]
        simp only [opd_s hT hx h1 hg, el, eh, em, Sem.run_bind, Instr.sliceAt, run_underlying hu, Result.andThen_ok, gs_val]
        unfold Instr.slice
        simp only [Sem.run_bind, run_underlying hu, Result.andThen_ok, hsb, (hb.get hre).run_sizeOf, Sem.run_pure]
        cases b with
        | none =>
          show Result.ok (Next.value (Value.slice (if m = l then none else none) _ _)) w = _
          rw [ite_self]; rfl
        | some bo =>
          have hca := cut_addr hbd bo.1 (bo.2 + i0 * es) re.size
          have : (if m = l then (some ⟨bo.1, bo.2 + i0 * es, none⟩ : Option Addr) else Option.map (fun x : Addr => x.add (l * re.size)) (some ⟨bo.1, bo.2 + i0 * es, none⟩)) = some ⟨bo.1, bo.2 + i0 * es + cutOff vl m l * re.size, none⟩ := by
            rw [← hca]; split <;> rfl
          show Result.ok (Next.value (Value.slice (if m = l then (some ⟨bo.1, bo.2 + i0 * es, none⟩ : Option Addr) else Option.map (fun x : Addr => x.add (l * re.size)) (some ⟨bo.1, bo.2 + i0 * es, none⟩)) _ _)) w = _
          rw [this]
          show Result.ok (Next.value (Value.slice (some ⟨bo.1, _, none⟩) _ _)) w = Result.ok (Next.value (Value.slice (some ⟨bo.1, bo.2 + (_ + i0) * es, none⟩) _ _)) w
          rw [h6, Nat.add_mul]
          congr 5; omega
      · cases h
    · cases h
  · rename_i c s rt cl vl ch vh cm hx hr hl hh hm
    split at h
    · rename_i p l hh' m he hbd
      cases h
      obtain ⟨h1, h2, h3, h5⟩ := hc
      have h5 := imp_elim h5 hg
      obtain ⟨ul, el, fl⟩ := bnd_sound hT hg hl h2
      obtain ⟨uh, eh, fh⟩ := bnd_sound hT hg hh h3
      have hmn : mx = none := by
        cases mx with
        | none => rfl
        | some mx => simp only [bnd] at hm; split at hm <;> cases hm
      subst hmn
      have hsb := run_sliceBounds (P := P) (isSlice := false) hbd h5 fl fh (um := none) rfl w
      refine wp_val (v := .string (s.extract l hh')) ?_ (hk 0 w (Below.refl _ _) trivial)
      obtain ⟨d, hu, hv⟩ := (hb.get hr).under
      rw [he] at hv
      have hd : d = .string := by cases d <;> simp [viewD] at hv; rfl
      rw [hd] at hu
      unfold execOp; rw [ho]
      simp only [opd_s hT hx h1 hg, el, eh, Option.map_none, Sem.run_bind, Instr.sliceAt, run_underlying hu, Result.andThen_ok, AV.val_v]
      unfold Instr.slice
      simp only [Sem.run_bind, run_underlying hu, Result.andThen_ok, Option.isSome_none, Bool.false_eq_true, if_false, hsb, Sem.run_pure]
    · cases h
  · rename_i c n ix b o0 es idx off j lf rt cl vl ch vh cm vm hx hr hl hh hm
    split at h
    · rename_i k e he
      split at h
      · rename_i re p l hh' m hre hbd
        split at h
        · rename_i hs
          cases h
          obtain ⟨h1, h2, h3, h4, h5⟩ := hc
          have h5 := imp_elim h5 hg
          obtain ⟨ul, el, fl⟩ := bnd_sound hT hg hl h2
          obtain ⟨uh, eh, fh⟩ := bnd_sound hT hg hh h3
          obtain ⟨um, em, fm⟩ := bnd_sound hT hg hm h4
          have hsb := run_sliceBounds (P := P) (isSlice := false) hbd h5 fl fh fm w
          refine wp_val ?_ (hk 0 w (Below.refl _ _) trivial)
          obtain ⟨d, hu, hv⟩ := (hb.get hr).under
          rw [he] at hv
          rw [viewD_arr hv] at hu
          unfold execOp; rw [ho]
          have hsa : (Instr.sureAddr (AV.ptr ⟨n, ix, b, o0, es, idx, off, j, lf⟩).val).run P w = .ok ⟨b, o0 + idx * es + off + j, none⟩ w := rfl
          simp only [opd_s hT hx h1 hg, el, eh, em, Sem.run_bind, Instr.sliceAt, run_underlying hu, Result.andThen_ok, hsa, hsb, (hb.get hre).run_sizeOf, Sem.run_pure, kindB hs, cut_addr hbd b (o0 + idx * es + off + j) 1]
          show Result.ok (Next.value (Value.slice (some ⟨b, _, none⟩) _ _)) w = Result.ok (Next.value (Value.slice (some ⟨b, o0 + idx * es + off + (j + _), none⟩) _ _)) w
          congr 5; omega
        · cases h
      · cases h
    · cases h
  · cases h

/-- THE EVALUATOR IS RIGHT. -/
theorem qeval_sound (hb : TblOk P E.tb) (he : EqOk P E.eqs) (hct : CtOk P O w0 E.ct) {op : Op} (h : qeval E M tm g tag op = some r) (ho : o.op = op) (hc : r.cond) (hT : SatT N tm a) (hS : Sat O w0 M w) (hg : holdsG g)
    (hk : ∀ b w', Below w.heap.size w w' → r.laid w w' b → next (a.put o.dst (r.out b).val) w') : o.wp P a w next Q := by
  cases op with
  | move x => exact qs_move h (.inl ho) hc hT hg hk
  | assign x => exact qs_move (E := E) (M := M) (tag := tag) (x := x) h (.inr ho) hc hT hg hk
  | pick c x y =>
    simp only [qeval] at h
    split at h
    · rename_i cc bc ca av cb bv h1 h2 h3
      split at h
      · rename_i res hp
        cases h
        obtain ⟨e1, e2, e3⟩ := hc
        exact wp_val (q_pick ho hT hg h1 h2 h3 hp e1 e2 e3) (hk 0 w (Below.refl _ _) trivial)
      · split at h
        · cases h
          have hb := imp_elim hc.2 hg
          refine wp_val (v := .bool true) ?_ (hk 0 w (Below.refl _ _) trivial)
          rw [q_pickB ho hT hg h1 hc.1, hb]; rfl
        · cases h
          have hb := imp_elim hc.2 hg
          refine wp_val (v := .bool false) ?_ (hk 0 w (Below.refl _ _) trivial)
          rw [q_pickB ho hT hg h1 hc.1, hb]; rfl
        · cases h
    · cases h
  | alloc t => exact qs_alloc hb h ho hk
  | box t x => exact qs_box h ho hc hT hg hk
  | build t ps => exact qs_build hb h ho hc hT hg hk
  | buildSlice t n ps => exact qs_buildSlice hb h ho hc hT hg hk
  | makeMap t x => exact qs_makeMap hb h ho hc hT hg hk
  | load t x => exact qs_load hb h ho hc hT hS hg hk
  | nilCheck x => exact qs_nilCheck h ho hc hT hg hk
  | binOp op t x y yt => exact qs_binOp hb he h ho hc hT hg hk
  | unOp op t x => exact qs_unOp h ho hc hT hg hk
  | convert s t x => exact qs_convert hb h ho hc hT hg hk
  | makeFunc fn f c => exact qs_makeFunc h ho hc hT hg hk
  | fieldAddr s x f => exact qs_fieldAddr hb h ho hc hT hg hk
  | field s x f => exact qs_field hb h ho hc hT hg hk
  | indexAddr t x i => exact qs_indexAddr hb h ho hc hT hS hg hk
  | index t x i => exact qs_index hb h ho hc hT hg hk
  | slice t x l hh m => exact qs_slice hb h ho hc hT hg hk
  | extract x i => exact qs_extract h ho hc hT hg hk
  | call c =>
    obtain ⟨callee, args, ts⟩ := c
    cases callee with
    | builtin b =>
      cases b <;> first | (simp [qeval] at h; done) | exact qs_len hb h ho hc hT hS hg hk | exact qs_cap hb h ho hc hT hg hk
    | value f =>
      cases f <;> first | (simp [qeval] at h; done) | exact qs_call hct h ho hc hT hS hg hk | exact qs_callT hct h ho hc hT hS hg hk
    | invoke rr m => simp [qeval] at h
  | _ => simp [qeval] at h

end
end Go.Proofs.Ytaohdlepocajcaa.V
