import Derived.Test.YtofophjfgalhaaaGreatDoorMisdeedPicksW03
import Derived.Deep.AppendSrc
set_option linter.unusedVariables false
set_option linter.unusedSimpArgs false
/-! The evaluator is right: indexes, cuts, and all of it. -/
namespace Go.Proofs.YtofophjfgalhaaaGreatDoor.V
open Go Go.RowKit

section
variable {P : Program} {E : Env} {O : Nat → Prop} {w0 : World} {N : Nat} {M : MemF} {tm : TmF} {g : Option Bool} {tag : Nat} {a : Act} {w : World} {o : Oper} {r : R} {next : Act → World → Prop} {Q : Exit → Act → World → Prop}

theorem run_indexAt_slice {t e : TypeId} {rt re : TRow} (hr : RowOk P t rt) (hd : rt.d = .sl e) (hre : RowOk P e re) {b c len cap : Nat} {k : IntKind} {i : Int} (h0 : 0 ≤ i) (h1 : i < len) (w : World) :
    (Instr.indexAt t (.slice (some ⟨b, c, none⟩) len cap) (.int k i)).run P w = .ok (.pointer (some ⟨b, c + i.toNat * re.size, none⟩)) w := by
  obtain ⟨d, hu, hv⟩ := hr.under
  rw [hd] at hv
  rw [viewD_sl hv] at hu
  have ha : (asIntOf (.int k i)).run P w = .ok (k, i) w := rfl
  unfold Instr.indexAt
  rw [Sem.run_bind, ha, Result.andThen_ok]
  simp only [Sem.run_bind, run_underlying hu, Result.andThen_ok, Sem.run_pure]
  rw [if_pos ⟨h0, h1⟩]
  simp only [Sem.run_bind, hre.run_sizeOf, Result.andThen_ok, Sem.run_pure, Addr.add_none]

theorem run_indexAt_arr {t e : TypeId} {rt re : TRow} (hr : RowOk P t rt) {m : Nat} (hd : rt.d = .arr m e) (hre : RowOk P e re) {b c : Nat} {k : IntKind} {i : Int} (h0 : 0 ≤ i) (h1 : i < m) (w : World) :
    (Instr.indexAt t (.pointer (some ⟨b, c, none⟩)) (.int k i)).run P w = .ok (.pointer (some ⟨b, c + i.toNat * re.size, none⟩)) w := by
  obtain ⟨d, hu, hv⟩ := hr.under
  rw [hd] at hv
  rw [viewD_arr hv] at hu
  have ha : (asIntOf (.int k i)).run P w = .ok (k, i) w := rfl
  unfold Instr.indexAt
  rw [Sem.run_bind, ha, Result.andThen_ok]
  have hs : (Instr.sureAddr (.pointer (some ⟨b, c, none⟩))).run P w = .ok ⟨b, c, none⟩ w := rfl
  simp only [Sem.run_bind, run_underlying hu, Result.andThen_ok, Sem.run_pure, hs]
  rw [if_pos ⟨h0, h1⟩]
  simp only [Sem.run_bind, hre.run_sizeOf, Result.andThen_ok, Sem.run_pure, Addr.add_none]

theorem gsAt_some (hS : Sat O w0 M w) {n ix i : Nat} {b : Option (Nat × Nat)} {q : Prop} (h : gsAt M n ix b i = some q) (hq : q) : ∃ x y, b = some (x, y) := by
  unfold gsAt at h
  split at h
  · rename_i hM
    cases h
    obtain ⟨h1, h2⟩ := hq
    obtain ⟨b', h3, _⟩ := vrow_some (hS.holds _ _ hM) h2
    subst h3
    exact ⟨b', 0, h1⟩
  · rename_i hM
    cases h
    obtain ⟨h1, h2⟩ := hq
    have h3 := hS.holds _ _ hM
    cases hb : b with
    | none => rw [hb] at h1; have := (h3 ix).1 h1.symm; omega
    | some z => exact ⟨z.1, z.2, rfl⟩
  · cases h

theorem qs_indexAddr (hb : TblOk P E.tb) {t : TypeId} {x i : Operand} (h : qeval E M tm g tag (.indexAddr t x i) = some r) (ho : o.op = .indexAddr t x i) (hc : r.cond) (hT : SatT N tm a) (hS : Sat O w0 M w) (hg : holdsG g) (hk : ∀ b w', Below w.heap.size w w' → r.laid w w' b → next (a.put o.dst (r.out b).val) w') : o.wp P a w next Q := by
  simp only [qeval] at h
  split at h
  · rename_i c n ix b o0 es idx off j lf len cap ci ki k rt hx hi hr
    split at h
    · rename_i e he
      split at h
      · rename_i re hre
        split at h
        · rename_i hs
          cases h
          obtain ⟨h1, h2, h3⟩ := hc
          have h3 := imp_elim h3 hg
          refine wp_val ?_ (hk 0 w (Below.refl _ _) trivial)
          unfold execOp; rw [ho]
          simp only [opd_s hT hx h1 hg, opd_s hT hi h2 hg, Sem.run_bind]
          show ((Instr.indexAt t (.slice (some ⟨b, o0 + idx * es + off + j, none⟩) len cap) (.int ki k)).run P w).andThen _ = _
          rw [run_indexAt_slice (hb.get hr) he (hb.get hre) h3.1 h3.2, kindB hs]
          show Result.ok (Next.value (Value.pointer (some ⟨b, o0 + idx * es + off + j + k.toNat * 1, none⟩))) w = Result.ok (Next.value (Value.pointer (some ⟨b, o0 + idx * es + off + (j + k.toNat), none⟩))) w
          congr 5; omega
        · cases h
      · rename_i re hre
        cases h
        obtain ⟨h1, h2, h3, h4⟩ := hc
        have h3 := imp_elim h3 hg
        refine wp_val ?_ (hk 0 w (Below.refl _ _) trivial)
        unfold execOp; rw [ho]
        simp only [opd_s hT hx h1 hg, opd_s hT hi h2 hg, Sem.run_bind]
        show ((Instr.indexAt t (.slice (some ⟨b, o0 + idx * es + off + j, none⟩) len cap) (.int ki k)).run P w).andThen _ = _
        rw [run_indexAt_slice (hb.get hr) he (hb.get hre) h3.1 h3.2]
        show Result.ok (Next.value (Value.pointer (some ⟨b, o0 + idx * es + off + j + k.toNat * re.size, none⟩))) w = Result.ok (Next.value (Value.pointer (some ⟨b, o0 + (idx + k.toNat) * es + off + j, none⟩))) w
        rw [h4, Nat.add_mul]
        congr 5; omega
      · cases h
    · cases h
  · rename_i c n ix b es i0 len cap ci ki k rt hx hi hr
    split at h
    · rename_i e he
      split at h
      · rename_i re q hre hq
        cases h
        obtain ⟨h1, h2, h3, h4⟩ := hc
        obtain ⟨h3, h5⟩ := imp_elim h3 hg
        obtain ⟨bb, bo, rfl⟩ := gsAt_some hS hq h5
        refine wp_val ?_ (hk 0 w (Below.refl _ _) trivial)
        unfold execOp; rw [ho]
        simp only [opd_s hT hx h1 hg, opd_s hT hi h2 hg, Sem.run_bind]
        show ((Instr.indexAt t (.slice (some ⟨bb, bo + i0 * es, none⟩) len cap) (.int ki k)).run P w).andThen _ = _
        rw [run_indexAt_slice (hb.get hr) he (hb.get hre) h3.1 h3.2]
        show Result.ok (Next.value (Value.pointer (some ⟨bb, bo + i0 * es + k.toNat * re.size, none⟩))) w = Result.ok (Next.value (Value.pointer (some ⟨bb, bo + (k.toNat + i0) * es + 0 + 0, none⟩))) w
        rw [h4, Nat.add_mul]
        congr 5; omega
      · cases h
    · cases h
  · rename_i c n ix b o0 es idx off j lf ci ki k rt hx hi hr
    split at h
    · rename_i m e he
      split at h
      · rename_i re hre
        split at h
        · rename_i k' _ hm hk'
          split at h
          · rename_i hs
            cases h
            obtain ⟨h1, h2, h3⟩ := hc
            have h3 := imp_elim h3 hg
            refine wp_val ?_ (hk 0 w (Below.refl _ _) trivial)
            unfold execOp; rw [ho]
            simp only [opd_s hT hx h1 hg, opd_s hT hi h2 hg, Sem.run_bind]
            show ((Instr.indexAt t (.pointer (some ⟨b, o0 + idx * es + off + j, none⟩)) (.int ki k)).run P w).andThen _ = _
            rw [run_indexAt_arr (hb.get hr) he (hb.get hre) h3.1 h3.2, kindB hs]
            show Result.ok (Next.value (Value.pointer (some ⟨b, o0 + idx * es + off + j + k.toNat * 1, none⟩))) w = Result.ok (Next.value (Value.pointer (some ⟨b, o0 + idx * es + off + (j + k.toNat), none⟩))) w
            congr 5; omega
          · cases h
        · rename_i kk k' hm hk'
          cases h
          obtain ⟨h1, h2, h3, h4⟩ := hc
          have h3 := imp_elim h3 hg
          subst h4
          refine wp_val ?_ (hk 0 w (Below.refl _ _) trivial)
          unfold execOp; rw [ho]
          simp only [opd_s hT hx h1 hg, opd_s hT hi h2 hg, Sem.run_bind]
          show ((Instr.indexAt t (.pointer (some ⟨b, o0 + idx * es + off + j, none⟩)) (.int ki k)).run P w).andThen _ = _
          rw [run_indexAt_arr (hb.get hr) he (hb.get hre) h3.1 h3.2]
          show Result.ok (Next.value (Value.pointer (some ⟨b, o0 + idx * es + off + j + k.toNat * re.size, none⟩))) w = Result.ok (Next.value (Value.pointer (some ⟨b, o0 + idx * es + (off + k.toNat * re.size) + j, none⟩))) w
          congr 5; omega
        · cases h
      · cases h
    · cases h
  · cases h

theorem qs_index (hb : TblOk P E.tb) {t : TypeId} {x i : Operand} (h : qeval E M tm g tag (.index t x i) = some r) (ho : o.op = .index t x i) (hc : r.cond) (hT : SatT N tm a) (hg : holdsG g) (hk : ∀ b w', Below w.heap.size w w' → r.laid w w' b → next (a.put o.dst (r.out b).val) w') : o.wp P a w next Q := by
  simp only [qeval] at h
  split at h
  · rename_i c k m l ci ki n rt hx hi hr
    split at h
    · rename_i m' e he
      split at h
      · rename_i re hre
        split at h
        · rename_i k' hk'
          split at h
          · rename_i hq
            cases h
            simp only [Bool.and_eq_true] at hq
            obtain ⟨⟨q1, q2⟩, q3⟩ := hq
            have q1 := kindEq_eq q1; have q2 := kindB q2; have q3 := kindB q3
            subst q1 q2
            obtain ⟨h1, h2, h3⟩ := hc
            have h3 := imp_elim h3 hg
            refine wp_val (v := .int k (l.getD n.toNat 0)) ?_ (hk 0 w (Below.refl _ _) trivial)
            obtain ⟨d, hu, hv⟩ := (hb.get hr).under
            rw [he] at hv
            rw [viewD_arr hv] at hu
            have hp : (part e ((List.range m).map fun j => Value.int k (l.getD j 0)).toArray (n.toNat * 1)).run P w = .ok (.int k (l.getD n.toNat 0)) w := by
              refine run_part (hb.get hre) (s := .v (.int k (l.getD n.toNat 0))) ⟨q3.symm, ?_, ?_⟩ (by rw [hk']; rfl) w
              · simp [q3]; omega
              · simp only [q3, Nat.mul_one]
                rw [← List.map_drop, ← List.map_take, List.drop_eq_getElem_cons (by simp; omega)]
                simp
            unfold execOp; rw [ho]
            simp only [opd_s hT hx h1 hg, opd_s hT hi h2 hg, Sem.run_bind]
            have ha : (asIntOf (.int ki n)).run P w = .ok (ki, n) w := rfl
            show ((Instr.index t (.agg ((List.range m).map fun j => Value.int k (l.getD j 0)).toArray) (.int ki n)).run P w).andThen _ = _
            unfold Instr.index
            rw [Sem.run_bind, ha, Result.andThen_ok]
            simp only [Sem.run_bind, run_underlying hu, Result.andThen_ok]
            rw [if_pos ⟨h3.1, h3.2⟩]
            simp only [Sem.run_bind, (hb.get hre).run_sizeOf, Result.andThen_ok, q3, hp]
            rfl
          · cases h
        · cases h
      · cases h
    · cases h
  · rename_i c l ci ki n rt hx hi hr
    split at h
    · rename_i m e he
      split at h
      · rename_i re hre
        split at h
        · rename_i s hs
          cases h
          obtain ⟨h1, h2, h3⟩ := hc
          refine wp_val (v := s.val) ?_ (hk 0 w (Below.refl _ _) trivial)
          obtain ⟨d, hu, hv⟩ := (hb.get hr).under
          rw [he] at hv
          rw [viewD_arr hv] at hu
          obtain ⟨hp, hkd⟩ := AV.sub_spec _ hs
          unfold execOp; rw [ho]
          simp only [opd_s hT hx h1 hg, opd_s hT hi h2 hg, Sem.run_bind]
          have ha : (asIntOf (.int ki (Int.ofNat n))).run P w = .ok (ki, Int.ofNat n) w := rfl
          show ((Instr.index t (.agg l.cells.toArray) (.int ki (Int.ofNat n))).run P w).andThen _ = _
          unfold Instr.index
          rw [Sem.run_bind, ha, Result.andThen_ok]
          simp only [Sem.run_bind, run_underlying hu, Result.andThen_ok]
          rw [if_pos ⟨Int.natCast_nonneg n, Int.ofNat_lt.2 h3⟩]
          simp only [Sem.run_bind, (hb.get hre).run_sizeOf, Result.andThen_ok]
          have hp2 : (part e l.cells.toArray ((Int.ofNat n).toNat * re.size)).run P w = .ok s.val w := run_part (hb.get hre) (s := s) (off := (Int.ofNat n).toNat * re.size) hp hkd w
          rw [hp2]
          rfl
        · cases h
      · cases h
    · cases h
  · rename_i c s ci ki n rt hx hi hr
    split at h
    · rename_i he
      cases h
      obtain ⟨h1, h2, h3⟩ := hc
      have h3 := imp_elim h3 hg
      refine wp_val ?_ (hk 0 w (Below.refl _ _) trivial)
      obtain ⟨d, hu, hv⟩ := (hb.get hr).under
      rw [he] at hv
      have hd : d = .string := by cases d <;> simp [viewD] at hv; rfl
      rw [hd] at hu
      unfold execOp; rw [ho]
      simp only [opd_s hT hx h1 hg, opd_s hT hi h2 hg, Sem.run_bind]
      have ha : (asIntOf (.int ki n)).run P w = .ok (ki, n) w := rfl
      show ((Instr.index t (.string s) (.int ki n)).run P w).andThen _ = _
      unfold Instr.index
      rw [Sem.run_bind, ha, Result.andThen_ok]
      simp only [Sem.run_bind, run_underlying hu, Result.andThen_ok]
      have hlt : n.toNat < s.size := by omega
      have hsz : s.data.toList.length = s.size := rfl
      rw [if_pos h3.1]
      have hget : s[n.toNat]? = some (s.data.toList.getD n.toNat 0) := by
        rw [List.getD_eq_getElem?_getD, List.getElem?_eq_getElem (by rw [hsz]; exact hlt)]
        rw [getElem?_pos s n.toNat hlt]
        rfl
      rw [hget]
      rfl
    · cases h
  · cases h

def BndIs : Option Int → Option Value → Prop
  | none, u => u = none
  | some n, u => ∃ k, u = some (.int k n)

theorem bnd_sound (hT : SatT N tm a) (hg : holdsG g) {x : Option Operand} {p : Prop} {v : Option Int} (h : bnd tm g x = some (p, v)) (hp : p) : ∃ u : Option Value, x.map a.eval = u ∧ BndIs v u := by
  cases x with
  | none => cases h; exact ⟨none, rfl, rfl⟩
  | some x =>
    simp only [bnd] at h
    split at h
    · rename_i c k n hx
      cases h
      exact ⟨some (.int k n), by rw [Option.map_some, opd_s hT hx hp hg]; rfl, k, rfl⟩
    · cases h

theorem run_sliceBound {k : IntKind} {i : Int} {y : Nat} {code : BoundsCode} (h0 : 0 ≤ i) (h1 : i ≤ y) (w : World) : (Instr.sliceBound (.int k i) y code).run P w = .ok i.toNat w := by
  have ha : (asIntOf (.int k i)).run P w = .ok (k, i) w := rfl
  unfold Instr.sliceBound
  rw [Sem.run_bind, ha, Result.andThen_ok]
  simp only []
  rw [if_pos ⟨h0, h1⟩]; rfl

theorem run_sliceBounds {isSlice : Bool} {lo hi mx : Option Int} {len cap : Nat} {p : Prop} {l h m : Nat} (hb : bounds lo hi mx len cap = some (p, l, h, m)) (hp : p) {ul uh um : Option Value}
    (hl : BndIs lo ul) (hh : BndIs hi uh) (hm : BndIs mx um) (w : World) :
    (Instr.sliceBounds isSlice len cap ul uh um).run P w = .ok (l, h, m) w := by
  unfold bounds at hb
  split at hb
  · cases hb
  · rename_i hno
    simp only [Option.some.injEq, Prod.mk.injEq] at hb
    obtain ⟨rfl, rfl, rfl, rfl⟩ := hb
    obtain ⟨p1, p2, p3⟩ := hp
    cases mx with
    | none =>
      cases hm
      cases hi with
      | none =>
        cases hh
        cases lo with
        | none => cases hl; rfl
        | some n => obtain ⟨k, rfl⟩ := hl; simp [Instr.sliceBounds, run_sliceBound p3.1 p3.2]
      | some n =>
        obtain ⟨k, rfl⟩ := hh
        cases lo with
        | none => cases hl; simp [Instr.sliceBounds, run_sliceBound p2.1 p2.2]
        | some n' => obtain ⟨k', rfl⟩ := hl; simp [Instr.sliceBounds, run_sliceBound p2.1 p2.2, run_sliceBound p3.1 p3.2]
    | some m =>
      obtain ⟨km, rfl⟩ := hm
      cases hi with
      | none => exact absurd rfl (hno m rfl)
      | some n =>
        obtain ⟨k, rfl⟩ := hh
        cases lo with
        | none => cases hl; simp [Instr.sliceBounds, run_sliceBound p1.1 p1.2, run_sliceBound p2.1 p2.2]
        | some n' => obtain ⟨k', rfl⟩ := hl; simp [Instr.sliceBounds, run_sliceBound p1.1 p1.2, run_sliceBound p2.1 p2.2, run_sliceBound p3.1 p3.2]

/-- where none is given as low, l is 0 -/
theorem bounds_lo {hi mx : Option Int} {len cap : Nat} {p : Prop} {l h m : Nat} (hb : bounds none hi mx len cap = some (p, l, h, m)) : l = 0 := by
  unfold bounds at hb
  split at hb
  · cases hb
  · simp only [Option.some.injEq, Prod.mk.injEq] at hb
    exact hb.2.1.symm

theorem cut_addr {lo hi mx : Option Int} {len cap : Nat} {p : Prop} {l h m : Nat} (hb : bounds lo hi mx len cap = some (p, l, h, m)) (b c s : Nat) :
    (if m = l then (⟨b, c, none⟩ : Addr) else (⟨b, c, none⟩ : Addr).add (l * s)) = ⟨b, c + cutOff lo m l * s, none⟩ := by
  cases lo with
  | none =>
    have := bounds_lo hb
    subst this
    simp only [cutOff, Nat.zero_mul, Nat.add_zero]
    split
    · rfl
    · simp [Addr.add]
  | some v =>
    simp only [cutOff]
    split
    · simp
    · rw [Addr.add_none]

theorem qs_slice (hb : TblOk P E.tb) {t : TypeId} {x : Operand} {lo hi mx : Option Operand} (h : qeval E M tm g tag (.slice t x lo hi mx) = some r) (ho : o.op = .slice t x lo hi mx) (hc : r.cond) (hT : SatT N tm a) (hg : holdsG g) (hk : ∀ b w', Below w.heap.size w w' → r.laid w w' b → next (a.put o.dst (r.out b).val) w') : o.wp P a w next Q := by
  simp only [qeval] at h
  split at h
  · rename_i c n ix b o0 es idx off j lf len cap rt cl vl ch vh cm vm hx hr hl hh hm
    split at h
    · rename_i e p l hh' m he hbd
      split at h
      · rename_i re hre
        split at h
        · rename_i hs
          cases h
          obtain ⟨h1, h2, h3, h4, h5⟩ := hc
          have h5 := imp_elim h5 hg
          obtain ⟨ul, el, fl⟩ := bnd_sound hT hg hl h2
          obtain ⟨uh, eh, fh⟩ := bnd_sound hT hg hh h3
          obtain ⟨um, em, fm⟩ := bnd_sound hT hg hm h4
          have hsb := run_sliceBounds (P := P) (isSlice := true) hbd h5 fl fh fm w
          refine wp_val ?_ (hk 0 w (Below.refl _ _) trivial)
          obtain ⟨d, hu, hv⟩ := (hb.get hr).under
          rw [he] at hv
          rw [viewD_sl hv] at hu
          unfold execOp; rw [ho]
          simp only [opd_s hT hx h1 hg, el, eh, em, Sem.run_bind, Instr.sliceAt, run_underlying hu, Result.andThen_ok]
          show ((Instr.slice t (.slice (some ⟨b, o0 + idx * es + off + j, none⟩) len cap) ul uh um).run P w).andThen _ = _
          unfold Instr.slice
          simp only [Sem.run_bind, run_underlying hu, Result.andThen_ok, hsb, (hb.get hre).run_sizeOf, Sem.run_pure, kindB hs]
          have hca := cut_addr hbd b (o0 + idx * es + off + j) 1
          have : (if m = l then (some ⟨b, o0 + idx * es + off + j, none⟩ : Option Addr) else Option.map (fun x : Addr => x.add (l * 1)) (some ⟨b, o0 + idx * es + off + j, none⟩)) = some ⟨b, o0 + idx * es + off + j + cutOff vl m l * 1, none⟩ := by
            rw [← hca]; split <;> rfl
          rw [this]
          show Result.ok (Next.value (Value.slice (some ⟨b, _, none⟩) _ _)) w = Result.ok (Next.value (Value.slice (some ⟨b, o0 + idx * es + off + (j + _), none⟩) _ _)) w
          congr 5; omega
        · cases h
      · rename_i re hre
        cases h
        obtain ⟨h1, h2, h3, h4, h5, h6⟩ := hc
        have h5 := imp_elim h5 hg
        obtain ⟨ul, el, fl⟩ := bnd_sound hT hg hl h2
        obtain ⟨uh, eh, fh⟩ := bnd_sound hT hg hh h3
        obtain ⟨um, em, fm⟩ := bnd_sound hT hg hm h4
        have hsb := run_sliceBounds (P := P) (isSlice := true) hbd h5 fl fh fm w
        refine wp_val ?_ (hk 0 w (Below.refl _ _) trivial)
        obtain ⟨d, hu, hv⟩ := (hb.get hr).under
        rw [he] at hv
        rw [viewD_sl hv] at hu
        unfold execOp; rw [ho]
        simp only [opd_s hT hx h1 hg, el, eh, em, Sem.run_bind, Instr.sliceAt, run_underlying hu, Result.andThen_ok]
        show ((Instr.slice t (.slice (some ⟨b, o0 + idx * es + off + j, none⟩) len cap) ul uh um).run P w).andThen _ = _
        unfold Instr.slice
        simp only [Sem.run_bind, run_underlying hu, Result.andThen_ok, hsb, (hb.get hre).run_sizeOf, Sem.run_pure]
        have hca := cut_addr hbd b (o0 + idx * es + off + j) re.size
        have : (if m = l then (some ⟨b, o0 + idx * es + off + j, none⟩ : Option Addr) else Option.map (fun x : Addr => x.add (l * re.size)) (some ⟨b, o0 + idx * es + off + j, none⟩)) = some ⟨b, o0 + idx * es + off + j + cutOff vl m l * re.size, none⟩ := by
          rw [← hca]; split <;> rfl
        rw [this]
        show Result.ok (Next.value (Value.slice (some ⟨b, _, none⟩) _ _)) w = Result.ok (Next.value (Value.slice (some ⟨b, o0 + (idx + _) * es + off + j, none⟩) _ _)) w
        rw [h6, Nat.add_mul]
        congr 5; omega
      · cases h
    · cases h
  · rename_i c n ix b es i0 len cap rt cl vl ch vh cm vm hx hr hl hh hm
    split at h
    · rename_i e p l hh' m he hbd
      split at h
      · rename_i re hre
        cases h
        obtain ⟨h1, h2, h3, h4, h5, h6⟩ := hc
        have h5 := imp_elim h5 hg
        obtain ⟨ul, el, fl⟩ := bnd_sound hT hg hl h2
        obtain ⟨uh, eh, fh⟩ := bnd_sound hT hg hh h3
        obtain ⟨um, em, fm⟩ := bnd_sound hT hg hm h4
        have hsb := run_sliceBounds (P := P) (isSlice := true) hbd h5 fl fh fm w
        refine wp_val ?_ (hk 0 w (Below.refl _ _) trivial)
        obtain ⟨d, hu, hv⟩ := (hb.get hr).under
        rw [he] at hv
        rw [viewD_sl hv] at hu
        unfold execOp; rw [ho]
        simp only [opd_s hT hx h1 hg, el, eh, em, Sem.run_bind, Instr.sliceAt, run_underlying hu, Result.andThen_ok, gs_val]
        unfold Instr.slice
        simp only [Sem.run_bind, run_underlying hu, Result.andThen_ok, hsb, (hb.get hre).run_sizeOf, Sem.run_pure]
        cases b with
        | none =>
          show Result.ok (Next.value (Value.slice (if m = l then none else none) _ _)) w = _
          rw [ite_self]; rfl
        | some bo =>
          have hca := cut_addr hbd bo.1 (bo.2 + i0 * es) re.size
          have : (if m = l then (some ⟨bo.1, bo.2 + i0 * es, none⟩ : Option Addr) else Option.map (fun x : Addr => x.add (l * re.size)) (some ⟨bo.1, bo.2 + i0 * es, none⟩)) = some ⟨bo.1, bo.2 + i0 * es + cutOff vl m l * re.size, none⟩ := by
            rw [← hca]; split <;> rfl
          show Result.ok (Next.value (Value.slice (if m = l then (some ⟨bo.1, bo.2 + i0 * es, none⟩ : Option Addr) else Option.map (fun x : Addr => x.add (l * re.size)) (some ⟨bo.1, bo.2 + i0 * es, none⟩)) _ _)) w = _
          rw [this]
          show Result.ok (Next.value (Value.slice (some ⟨bo.1, _, none⟩) _ _)) w = Result.ok (Next.value (Value.slice (some ⟨bo.1, bo.2 + (_ + i0) * es, none⟩) _ _)) w
          rw [h6, Nat.add_mul]
          congr 5; omega
      · cases h
    · cases h
  · rename_i c s rt cl vl ch vh cm hx hr hl hh hm
    split at h
    · rename_i p l hh' m he hbd
      cases h
      obtain ⟨h1, h2, h3, h5⟩ := hc
      have h5 := imp_elim h5 hg
      obtain ⟨ul, el, fl⟩ := bnd_sound hT hg hl h2
      obtain ⟨uh, eh, fh⟩ := bnd_sound hT hg hh h3
      have hmn : mx = none := by
        cases mx with
        | none => rfl
        | some mx => simp only [bnd] at hm; split at hm <;> cases hm
      subst hmn
      have hsb := run_sliceBounds (P := P) (isSlice := false) hbd h5 fl fh (um := none) rfl w
      refine wp_val (v := .string (s.extract l hh')) ?_ (hk 0 w (Below.refl _ _) trivial)
      obtain ⟨d, hu, hv⟩ := (hb.get hr).under
      rw [he] at hv
      have hd : d = .string := by cases d <;> simp [viewD] at hv; rfl
      rw [hd] at hu
      unfold execOp; rw [ho]
      simp only [opd_s hT hx h1 hg, el, eh, Option.map_none, Sem.run_bind, Instr.sliceAt, run_underlying hu, Result.andThen_ok, AV.val_v]
      unfold Instr.slice
      simp only [Sem.run_bind, run_underlying hu, Result.andThen_ok, Option.isSome_none, Bool.false_eq_true, if_false, hsb, Sem.run_pure]
    · cases h
  · rename_i c n ix b o0 es idx off j lf rt cl vl ch vh cm vm hx hr hl hh hm
    split at h
    · rename_i k e he
      split at h
      · rename_i re p l hh' m hre hbd
        split at h
        · rename_i hs
          cases h
          obtain ⟨h1, h2, h3, h4, h5⟩ := hc
          have h5 := imp_elim h5 hg
          obtain ⟨ul, el, fl⟩ := bnd_sound hT hg hl h2
          obtain ⟨uh, eh, fh⟩ := bnd_sound hT hg hh h3
          obtain ⟨um, em, fm⟩ := bnd_sound hT hg hm h4
          have hsb := run_sliceBounds (P := P) (isSlice := false) hbd h5 fl fh fm w
          refine wp_val ?_ (hk 0 w (Below.refl _ _) trivial)
          obtain ⟨d, hu, hv⟩ := (hb.get hr).under
          rw [he] at hv
          rw [viewD_arr hv] at hu
          unfold execOp; rw [ho]
          have hsa : (Instr.sureAddr (AV.ptr ⟨n, ix, b, o0, es, idx, off, j, lf⟩).val).run P w = .ok ⟨b, o0 + idx * es + off + j, none⟩ w := rfl
          simp only [opd_s hT hx h1 hg, el, eh, em, Sem.run_bind, Instr.sliceAt, run_underlying hu, Result.andThen_ok, hsa, hsb, (hb.get hre).run_sizeOf, Sem.run_pure, kindB hs, cut_addr hbd b (o0 + idx * es + off + j) 1]
          show Result.ok (Next.value (Value.slice (some ⟨b, _, none⟩) _ _)) w = Result.ok (Next.value (Value.slice (some ⟨b, o0 + idx * es + off + (j + _), none⟩) _ _)) w
          congr 5; omega
        · cases h
      · cases h
    · cases h
  · cases h

/-- THE EVALUATOR IS RIGHT. -/
theorem qeval_sound (hb : TblOk P E.tb) (he : EqOk P E.eqs) (hct : CtOk P O w0 E.ct) {op : Op} (h : qeval E M tm g tag op = some r) (ho : o.op = op) (hc : r.cond) (hT : SatT N tm a) (hS : Sat O w0 M w) (hg : holdsG g)
    (hk : ∀ b w', Below w.heap.size w w' → r.laid w w' b → next (a.put o.dst (r.out b).val) w') : o.wp P a w next Q := by
  cases op with
  | move x => exact qs_move h (.inl ho) hc hT hg hk
  | assign x => exact qs_move (E := E) (M := M) (tag := tag) (x := x) h (.inr ho) hc hT hg hk
  | pick c x y =>
    simp only [qeval] at h
    split at h
    · rename_i cc bc ca av cb bv h1 h2 h3
      split at h
      · rename_i res hp
        cases h
        obtain ⟨e1, e2, e3⟩ := hc
        exact wp_val (q_pick ho hT hg h1 h2 h3 hp e1 e2 e3) (hk 0 w (Below.refl _ _) trivial)
      · split at h
        · cases h
          have hb := imp_elim hc.2 hg
          refine wp_val (v := .bool true) ?_ (hk 0 w (Below.refl _ _) trivial)
          rw [q_pickB ho hT hg h1 hc.1, hb]; rfl
        · cases h
          have hb := imp_elim hc.2 hg
          refine wp_val (v := .bool false) ?_ (hk 0 w (Below.refl _ _) trivial)
          rw [q_pickB ho hT hg h1 hc.1, hb]; rfl
        · cases h
    · cases h
  | alloc t => exact qs_alloc hb h ho hk
  | box t x => exact qs_box h ho hc hT hg hk
  | build t ps => exact qs_build hb h ho hc hT hg hk
  | buildSlice t n ps => exact qs_buildSlice hb h ho hc hT hg hk
  | makeMap t x => exact qs_makeMap hb h ho hc hT hg hk
  | load t x => exact qs_load hb h ho hc hT hS hg hk
  | nilCheck x => exact qs_nilCheck h ho hc hT hg hk
  | binOp op t x y yt => exact qs_binOp hb he h ho hc hT hg hk
  | unOp op t x => exact qs_unOp h ho hc hT hg hk
  | convert s t x => exact qs_convert hb h ho hc hT hg hk
  | makeFunc fn f c => exact qs_makeFunc h ho hc hT hg hk
  | fieldAddr s x f => exact qs_fieldAddr hb h ho hc hT hg hk
  | field s x f => exact qs_field hb h ho hc hT hg hk
  | indexAddr t x i => exact qs_indexAddr hb h ho hc hT hS hg hk
  | index t x i => exact qs_index hb h ho hc hT hg hk
  | slice t x l hh m => exact qs_slice hb h ho hc hT hg hk
  | extract x i => exact qs_extract h ho hc hT hg hk
  | call c =>
    obtain ⟨callee, args, ts⟩ := c
    cases callee with
    | builtin b =>
      cases b <;> first | (simp [qeval] at h; done) | exact qs_len hb h ho hc hT hS hg hk | exact qs_cap hb h ho hc hT hg hk
    | value f =>
      cases f <;> first | (simp [qeval] at h; done) | exact qs_call hct h ho hc hT hS hg hk | exact qs_callT hct h ho hc hT hS hg hk
    | invoke rr m => simp [qeval] at h
  | _ => simp [qeval] at h

end
end Go.Proofs.YtofophjfgalhaaaGreatDoor.V
/-! One operation with its guard; states; a region in the order of the text. -/
namespace Go.Proofs.YtofophjfgalhaaaGreatDoor.V
open Go Go.RowKit

/-- the guard of an operation, by what the slots hold -/
def guardOf (dst : Nat → Option Tmp) (tm : TmF) : Option (Nat × Bool) → Option (Option Bool)
  | none => some none
  | some (j, want) => match dst j with
    | none => none
    | some d => match tm d with
      | some (none, .v (.bool b)) => match want with
        | true => some (some b)
        | false => some (some (!b))
      | some (some c, .v (.bool b)) => match want with
        | true => some (some (c && b))
        | false => some (some (c && !b))
      | _ => none

def dstAt (ops : Array Oper) (j : Nat) : Option Tmp := (ops[j]?).bind (·.dst)

theorem guard_sound {ops : Array Oper} {N : Nat} {tm : TmF} {a : Act} (hT : SatT N tm a) {dst : Nat → Option Tmp} (hd : ∀ j d, dst j = some d → dstAt ops j = some d) {o : Oper} {g : Option Bool} (h : guardOf dst tm o.guard = some g) :
    (Region.wanted o (yielded ops a.tmps) = true ↔ holdsG g) := by
  cases hgd : o.guard with
  | none =>
    rw [hgd] at h
    cases h
    unfold Region.wanted
    rw [hgd]
    exact ⟨fun _ => trivial, fun _ => rfl⟩
  | some jw =>
    obtain ⟨j, want⟩ := jw
    rw [hgd] at h
    simp only [guardOf] at h
    split at h
    · cases h
    · rename_i d hdj
      have hd' := hd j d hdj
      have key : ∀ c b, tm d = some (c, .v (.bool b)) → yielded ops a.tmps j = match c with
          | none => some b
          | some c => if c = true then some b else none := by
        intro c b htm
        have hs := hT.slot d _ htm
        unfold yielded
        unfold dstAt at hd'
        rw [hd', Option.bind_some]
        cases c with
        | none =>
          obtain ⟨h1, h2⟩ := hs
          have : a.tmps[d]? = some (.bool b) := by
            rw [Array.getElem?_eq_getElem h1]
            rw [Array.getD_eq_getD_getElem?, Array.getElem?_eq_getElem h1] at h2
            simpa using h2
          rw [this]
        | some c =>
          obtain ⟨h1, h2⟩ := hs
          rw [Array.getD_eq_getD_getElem?, Array.getElem?_eq_getElem h1] at h2
          rw [Array.getElem?_eq_getElem h1]
          simp only [Option.getD_some] at h2
          rw [h2]
          cases c <;> rfl
      unfold Region.wanted
      rw [hgd]
      simp only []
      split at h
      · rename_i b htm
        have hy := key _ _ htm
        simp only at hy
        rw [hy]
        split at h <;> cases h <;> cases b <;> simp [holdsG]
      · rename_i c b htm
        have hy := key _ _ htm
        simp only at hy
        rw [hy]
        split at h <;> cases h <;> cases b <;> cases c <;> simp [holdsG]
      · cases h

theorem put_get {a : Act} {N d : Nat} (hs : a.tmps.size = N) (hd : d < N) (v : Value) : (a.put (some d) v).tmps.getD d undef = v := by
  show (a.tmps.setIfInBounds d v).getD d undef = v
  rw [Array.getD_eq_getD_getElem?, Array.getElem?_setIfInBounds_self_of_lt (by omega)]; rfl
theorem put_ne {a : Act} {d t : Nat} (h : d ≠ t) (v : Value) : (a.put (some d) v).tmps.getD t undef = a.tmps.getD t undef := by
  show (a.tmps.setIfInBounds d v).getD t undef = _
  rw [Array.getD_eq_getD_getElem?, Array.getElem?_setIfInBounds_ne h, ← Array.getD_eq_getD_getElem?]
theorem put_size {a : Act} {d : Option Tmp} (v : Value) : (a.put d v).tmps.size = a.tmps.size := by
  cases d with
  | none => rfl
  | some d => show (a.tmps.setIfInBounds d v).size = _; simp

theorem slot_ne {a : Act} {d t : Nat} (h : d ≠ t) {v : Value} {e : Option Bool × AV} (hs : SlotOk a t e) : SlotOk (a.put (some d) v) t e := by
  obtain ⟨c, av⟩ := e
  cases c with
  | none => exact ⟨by rw [put_size]; exact hs.1, by rw [put_ne h]; exact hs.2⟩
  | some c => exact ⟨by rw [put_size]; exact hs.1, by rw [put_ne h]; exact hs.2⟩

/-- The slot d filled. -/
theorem SatT.put {N : Nat} {tm : TmF} {a : Act} (hT : SatT N tm a) {d : Nat} (hd : d < N) {g : Option Bool} {av : AV} {v : Value} (hv : match g with | none => v = av.val | some g => v = if g then av.val else undef) :
    SatT N (fun t => if d = t then some (g, av) else tm t) (a.put (some d) v) := by
  refine ⟨by rw [put_size]; exact hT.size, fun t e h => ?_⟩
  split at h
  · rename_i hdt
    subst hdt
    cases h
    have h1 : d < (a.put (some d) v).tmps.size := by rw [put_size, hT.size]; exact hd
    cases g with
    | none => exact ⟨h1, by rw [put_get hT.size hd]; exact hv⟩
    | some g => exact ⟨h1, by rw [put_get hT.size hd]; exact hv⟩
  · rename_i hdt
    exact slot_ne hdt (hT.slot t e h)

def zipM : List Nat → List Blk → Mem
  | t :: ts, B :: Bs => (t, B) :: zipM ts Bs
  | _, _ => []

/-- what an evaluator must satisfy -/
def EvOk (P : Program) (O : Nat → Prop) (w0 : World) (ev : MemF → TmF → Option Bool → Nat → Op → Option Res) : Prop :=
  ∀ (N : Nat) (M : MemF) (tm : TmF) (g : Option Bool) (tag : Nat) (a : Act) (w : World) (o : Oper) (r : Res), ev M tm g tag o.op = some r → r.ok → SatT N tm a → Sat O w0 M w → holdsG g →
    ∀ (next : Act → World → Prop) (Q : Exit → Act → World → Prop), (∀ x w', r.can x → Turn M w w' (zipM r.tags (r.mem x)).get → next (a.put o.dst (r.out x).val) w') → o.wp P a w next Q

def R.res (tag : Nat) : R → Res
  | .val c a => ⟨Unit, c, fun _ => True, fun _ => a, [], fun _ => []⟩
  | .new c a B => ⟨Nat, c, fun _ => True, a, [tag], fun b => [B b]⟩

theorem Turn.laid {M : MemF} {w w' : World} (hb : Below w.heap.size w w') {r : R} {b tag : Nat} (hl : r.laid w w' b) : ∃ x, (r.res tag).can x ∧ (r.res tag).out x = r.out b ∧ Turn M w w' (zipM (r.res tag).tags ((r.res tag).mem x)).get := by
  cases r with
  | val c a => exact ⟨(), trivial, rfl, Turn.below hb⟩
  | new c a B => exact ⟨b, trivial, rfl, Turn.new hb hl.2.2 (fun k hk => hl.1 k hk) hl.2.1⟩

/-- a quiet operation -/
def evQ (E : Env) (M : MemF) (tm : TmF) (g : Option Bool) (tag : Nat) (op : Op) : Option Res := match qeval E M tm g tag op with
  | some (.val c a) => some ⟨Unit, c, fun _ => True, fun _ => a, [], fun _ => []⟩
  | some (.new c a B) => some ⟨Nat, c, fun _ => True, a, [tag], fun b => [B b]⟩
  | none => none
theorem evQ_res {E : Env} {M : MemF} {tm : TmF} {g : Option Bool} {tag : Nat} {op : Op} {r : Res} (h : evQ E M tm g tag op = some r) : ∃ q, qeval E M tm g tag op = some q ∧ r = q.res tag := by
  unfold evQ at h
  split at h
  · rename_i c a hq; cases h; exact ⟨_, hq, rfl⟩
  · rename_i c a B hq; cases h; exact ⟨_, hq, rfl⟩
  · cases h
theorem evQ_ok {P : Program} {E : Env} {O : Nat → Prop} {w0 : World} (hb : TblOk P E.tb) (he : EqOk P E.eqs) (hct : CtOk P O w0 E.ct) : EvOk P O w0 (evQ E) := by
  intro N M tm g tag a w o r h hok hT hS hg next Q hk
  obtain ⟨q, hq, rfl⟩ := evQ_res h
  refine qeval_sound hb he hct hq rfl (by cases q <;> exact hok) hT hS hg fun b w' hbel hl => ?_
  obtain ⟨x, h1, h2, h3⟩ := Turn.laid (M := M) (tag := tag) hbel hl
  rw [← h2]
  exact hk x w' h1 h3

/-! ### A sequence that is read -/
/-- from cell o of block b on there stand len elements of es cells: f 0, f 1, .. -/
def Reads (w : World) (b o es len : Nat) (f : Nat → AV) : Prop := ∀ i, i < len → (f i).size = es ∧ (f i).one = true ∧ ∀ k, k < es → w.cell? ⟨b, o + i * es + k, none⟩ = (f i).cells[k]?
theorem Reads.congr {w : World} {b o es len : Nat} {f g : Nat → AV} (h : Reads w b o es len f) (hg : ∀ i, i < len → f i = g i) : Reads w b o es len g :=
  fun i hi => by rw [← hg i hi]; exact h i hi
theorem Reads.sub {w : World} {b o es len : Nat} {f : Nat → AV} (h : Reads w b o es len f) {i n : Nat} (hi : i + n ≤ len) : Reads w b (o + i * es) es n (fun j => f (j + i)) := by
  intro j hj
  obtain ⟨h1, h2, h3⟩ := h (j + i) (by omega)
  refine ⟨h1, h2, fun k hk => ?_⟩
  rw [← h3 k hk, Nat.add_mul]
  congr 2; omega
theorem RowHolds.reads {w : World} {b T es len cap : Nat} {f : Nat → AV} (h : RowHolds w b T es len f cap) : Reads w b 0 es len f := fun i hi =>
  ⟨(h.at hi).1, (h.at hi).2, fun k hk => by rw [Nat.zero_add]; exact h.cell hi hk⟩

/-- the cells of n elements -/
def seqCells (f : Nat → AV) : Nat → List Value
  | 0 => []
  | n + 1 => seqCells f n ++ (f n).cells
theorem seqCells_length {f : Nat → AV} {es : Nat} : ∀ {n : Nat}, (∀ i, i < n → (f i).size = es) → (seqCells f n).length = n * es
  | 0, _ => by simp [seqCells]
  | n + 1, h => by
    rw [seqCells, List.length_append, seqCells_length fun i hi => h i (by omega), AV.size_cells, h n (by omega), Nat.succ_mul]
theorem seqCells_get {f : Nat → AV} {es : Nat} : ∀ {n : Nat}, (∀ i, i < n → (f i).size = es) → ∀ i k, i < n → k < es → (seqCells f n)[i * es + k]? = (f i).cells[k]?
  | 0, _, i, k, hi, _ => by omega
  | n + 1, h, i, k, hi, hk => by
    have hl := seqCells_length (f := f) (es := es) (n := n) fun i hi => h i (by omega)
    rw [seqCells]
    by_cases hin : i = n
    · subst hin
      rw [List.getElem?_append_right (by omega), hl]
      congr 1; omega
    · have : i * es + k < n * es := by
        have : (i + 1) * es ≤ n * es := Nat.mul_le_mul_right _ (by omega)
        rw [Nat.succ_mul] at this; omega
      rw [List.getElem?_append_left (by omega)]
      exact seqCells_get (fun i hi => h i (by omega)) i k (by omega) hk
theorem seqCells_one {f : Nat → AV} : ∀ {n : Nat}, (∀ i, i < n → (f i).one = true) → ∀ v ∈ seqCells f n, v.oneCell' = true
  | 0, _, v, hv => by cases hv
  | n + 1, h, v, hv => by
    rw [seqCells, List.mem_append] at hv
    rcases hv with hv | hv
    · exact seqCells_one (fun i hi => h i (by omega)) v hv
    · exact (f n).one_cells (h n (by omega)) v hv
theorem Reads.cells {w : World} {b o es len : Nat} {f : Nat → AV} (h : Reads w b o es len f) : ∀ j v, (seqCells f len)[j]? = some v → w.cell? ((⟨b, o, none⟩ : Addr).add j) = some v := by
  intro j v hj
  have hl := seqCells_length (f := f) (es := es) (n := len) fun i hi => (h i hi).1
  have hlt := (List.getElem?_eq_some_iff.1 hj).1
  rw [hl] at hlt
  have hes : 0 < es := by
    rcases Nat.eq_zero_or_pos es with h0 | h0
    · subst h0; simp at hlt
    · exact h0
  have hi : j / es < len := Nat.div_lt_of_lt_mul (by rw [Nat.mul_comm]; exact hlt)
  have hk : j % es < es := Nat.mod_lt _ hes
  have he : j / es * es + j % es = j := by rw [Nat.mul_comm]; exact Nat.div_add_mod j es
  have := seqCells_get (f := f) (es := es) (n := len) (fun i hi => (h i hi).1) _ _ hi hk
  rw [he] at this
  rw [Addr.add_none]
  have h2 := (h _ hi).2.2 _ hk
  rw [Nat.add_assoc, he, ← this, hj] at h2
  exact h2

/-- the elements of a slice: what must hold; how many cells one has; how many; which -/
def seqOf (M : MemF) : AV → Option (Prop × Nat × Nat × (Nat → AV))
  | .gs n ix a es i0 len _ => match M n with
    | some (.vrow a' _ es' len' f _) => some (a = ownB a' ∧ es = es' ∧ i0 + len ≤ len', es, len, fun i => f (i + i0))
    | some (.vro es' base len' f) => some (a = base ix ∧ es = es' ∧ i0 + len ≤ len' ix, es, len, fun i => f ix (i + i0))
    | _ => none
  | .sl p len _ => match p.lf, elemAt M p with
    | true, some (c, e) => match e.leaf p.off with
      | some (k, m, xs) => some (c ∧ p.j + len ≤ m, 1, len, fun i => .v (.int k (xs.getD (i + p.j) 0)))
      | none => none
    | false, _ => match M p.n with
      | some (.vrow a' _ es' len' f _) => some ((p.b, p.o0) = gsB (ownB a') ∧ p.es = es' ∧ p.off = 0 ∧ p.j = 0 ∧ p.idx + len ≤ len', p.es, len, fun i => f (i + p.idx))
      | _ => none
    | _, _ => none
  | .v (.slice none n _) => some (n = 0, 1, 0, fun _ => .nil)
  | _ => none

theorem leaf_reads {w : World} {b o off m j len : Nat} {e : AV} {k : IntKind} {xs : List Int} (hl : e.leaf off = some (k, m, xs)) (hc : ∀ k, k < e.size → w.cell? ⟨b, o + k, none⟩ = e.cells[k]?) (hj : j + len ≤ m) :
    Reads w b (o + off + j) 1 len (fun i => .v (.int k (xs.getD (i + j) 0))) := by
  refine fun i hi => ⟨rfl, rfl, fun k' hk' => ?_⟩
  have hk0 : k' = 0 := by omega
  subst hk0
  have hp := AV.leaf_spec e hl
  have hle : off + m ≤ e.cells.length := hp.2.1
  rw [AV.size_cells] at hle
  have := hc (off + (i + j)) (by omega)
  rw [getElem?_part hp (by omega), ints_get k m xs (by omega)] at this
  rw [show o + off + j + i * 1 + 0 = o + (off + (i + j)) by omega, this]; rfl

/-- a slice's value -/
def slV (base : Option (Nat × Nat)) (len cap : Nat) : Value := .slice (base.map fun p => ⟨p.1, p.2, none⟩) len cap
/-- what a slice's value is, and that its elements stand there -/
theorem seqOf_spec {O : Nat → Prop} {w0 w : World} {M : MemF} (hS : Sat O w0 M w) {x : AV} {c : Prop} {es len : Nat} {f : Nat → AV} (h : seqOf M x = some (c, es, len, f)) (hc : c) :
    ∃ base cap, x.val = slV base len cap ∧ (len ≠ 0 → ∃ b o, base = some (b, o) ∧ Reads w b o es len f) := by
  unfold seqOf at h
  split at h
  · rename_i n ix a es0 i0 len0 cap
    have hval : (AV.gs n ix a es0 i0 len0 cap).val = slV (a.map fun p => (p.1, p.2 + i0 * es0)) len0 cap := by
      rw [gs_val]; unfold slV; rw [Option.map_map]; rfl
    split at h
    · rename_i a' T es' len' f' cap' hM
      cases h
      obtain ⟨rfl, rfl, hle⟩ := hc
      refine ⟨_, _, hval, fun h0 => ?_⟩
      obtain ⟨b, rfl, hr⟩ := vrow_some (hS.holds _ _ hM) (i := i0) (by omega)
      exact ⟨b, 0 + i0 * es, rfl, hr.reads.sub hle⟩
    · rename_i es' base len' f' hM
      cases h
      obtain ⟨rfl, rfl, hle⟩ := hc
      refine ⟨_, _, hval, fun h0 => ?_⟩
      obtain ⟨h5, h6⟩ := (hS.holds _ _ hM : (Blk.vro es base len' f').holds w) ix
      cases hb : base ix with
      | none => have := h5 hb; omega
      | some z => exact ⟨z.1, z.2 + i0 * es, rfl, Reads.sub (fun i hi => h6 z.1 z.2 hb i hi) hle⟩
    · cases h
  · rename_i p len0 cap
    have hval : (AV.sl p len0 cap).val = slV (some (p.b, p.cell)) len0 cap := rfl
    split at h
    · rename_i c0 e hlf he
      split at h
      · rename_i k m xs hl
        cases h
        refine ⟨_, _, hval, fun _ => ⟨p.b, p.cell, rfl, ?_⟩⟩
        have := leaf_reads (b := p.b) (o := p.o0 + p.idx * p.es) hl (elemAt_spec hS he hc.1) hc.2
        exact this
      · cases h
    · split at h
      · rename_i a' T es' len' f' cap' hM
        cases h
        obtain ⟨h0, h1, h2, h3, hle⟩ := hc
        refine ⟨_, _, hval, fun hz => ?_⟩
        obtain ⟨b, rfl, hr⟩ := vrow_some (hS.holds _ _ hM) (i := p.idx) (by omega)
        have e1 : p.b = b := congrArg Prod.fst h0
        have e2 : p.o0 = 0 := congrArg Prod.snd h0
        refine ⟨p.b, p.cell, rfl, ?_⟩
        have := hr.reads.sub hle
        rw [h1]
        unfold Pt.cell
        rw [e1, e2, h2, h3, h1]
        exact this
      · cases h
    · cases h
  · cases h
    subst hc
    exact ⟨none, _, rfl, fun h => absurd rfl h⟩
  · cases h

end Go.Proofs.YtofophjfgalhaaaGreatDoor.V
/-! Stores and appends. -/
namespace Go.Proofs.YtofophjfgalhaaaGreatDoor.V
open Go Go.RowKit

/-! ### A store -/
/-- the element el with av stored at p -/
def storeE (p : Pt) (size : Nat) (av el : AV) : Option (Prop × AV) := match p.lf with
  | false => match AV.upd p.off size av el with
    | some e => some (p.j = 0, e)
    | none => none
  | true => match el.leaf p.off, av with
    | some (k, m, l), .v (.int k' x) => match kindEq k k', AV.upd p.off m (.ints k m (lset m l p.j x)) el with
      | true, some e => some (p.j < m, e)
      | _, _ => none
    | _, _ => none
/-- row contents with element idx turned -/
def fset (len idx : Nat) (f : Nat → AV) (e : AV) : Nat → AV := match Nat.beq len 1 with
  | true => fun _ => e
  | false => fun i => if i = idx then e else f i
/-- a store of av (of type row r) at p: what must hold, and the block behind it -/
def storeV (M : MemF) (r : TRow) (p : Pt) (av : AV) : Option (Prop × Blk) := match av.isSize r.size && av.fitV with
  | true => match M p.n with
    | some (.row b T es len f cap) => match storeE p r.size av (f p.idx) with
      | some (q, e) => some ((p.b = b ∧ p.o0 = 0 ∧ p.es = es ∧ p.idx < len) ∧ q, .row b T es len (fset len p.idx f e) cap)
      | none => none
    | some (.vrow a T es len f cap) => match storeE p r.size av (f p.idx) with
      | some (q, e) => some (((p.b, p.o0) = gsB (ownB a) ∧ p.es = es ∧ p.idx < len) ∧ q, .vrow a T es len (fset len p.idx f e) cap)
      | none => none
    | _ => none
  | false => none

def evStore (E : Env) (M : MemF) (tm : TmF) (g : Option Bool) : Op → Option Res
  | .store t x y => match g, opd tm x, opd tm y, E.tb.get t with
    | none, some (none, .ptr p), some (none, av), some r => match storeV M r p av with
      | some (q, B) => some ⟨Unit, q, fun _ => True, fun _ => .v undef, [p.n], fun _ => [B]⟩
      | none => none
    | _, _, _, _ => none
  | _ => none

theorem upd_at {off n : Nat} {x a b : List Value} (h : Upd off n x a b) (hx : x.length = n) (k : Nat) : b[k]? = if off ≤ k ∧ k < off + n then x[k - off]? else a[k]? := by
  obtain ⟨h1, h2⟩ := h
  rw [h2, List.append_assoc, List.getElem?_append, List.length_take, Nat.min_eq_left (by omega)]
  by_cases h3 : k < off
  · rw [if_pos h3, if_neg (by omega), List.getElem?_take_of_lt h3]
  · rw [if_neg h3, List.getElem?_append]
    by_cases h4 : k - off < x.length
    · rw [if_pos h4, if_pos (by omega)]
    · rw [if_neg h4, if_neg (by omega), List.getElem?_drop]
      congr 1; omega

theorem upd_size {off n : Nat} {x a b : AV} (h : AV.upd off n x a = some b) (hx : x.size = n) : b.size = a.size := by
  obtain ⟨⟨h1, h2⟩, _⟩ := AV.upd_spec a h hx
  have := congrArg List.length h2
  simp only [List.length_append, List.length_take, List.length_drop, AV.size_cells] at this
  rw [AV.size_cells] at h1
  omega

/-- cells o .. of a block replaced -/
theorem row_set {w : World} {b T es len cap : Nat} {f f' : Nat → AV} {len' o : Nat} {vs : List Value} (h : RowHolds w b T es len f cap) (ho : o + vs.length ≤ cap * es) (hl : len' ≤ cap)
    (hf : ∀ i, i < len' → (f' i).size = es ∧ (f' i).one = true ∧ ∀ k, k < es → (f' i).cells[k]? = if o ≤ i * es + k ∧ i * es + k < o + vs.length then vs[i * es + k - o]? else (f i).cells[k]?)
    (hin : ∀ i, len ≤ i → i < len' → ∀ k, k < es → o ≤ i * es + k ∧ i * es + k < o + vs.length) {cs : Array Value} (hcs : w.heap[b]? = some (.cells cs T (0, 0))) :
    o + vs.length ≤ cs.size ∧ RowHolds (w.setRow b (cs.toList.take o ++ vs ++ cs.toList.drop (o + vs.length)).toArray) b T es len' f' cap := by
  obtain ⟨c, h1, h2, h3, h4⟩ := h
  rw [hcs] at h1
  cases h1
  refine ⟨by omega, _, setRow_heap w b cs _ T (0, 0) hcs, ?_, hl, fun i hi => ?_⟩
  · simp only [List.size_toArray, List.length_append, List.length_take, List.length_drop, Array.length_toList]
    omega
  · obtain ⟨g1, g2, g3⟩ := hf i hi
    refine ⟨g1, g2, fun k hk => ?_⟩
    rw [g3 k hk]
    have := upd_at (off := o) (n := vs.length) (x := vs) (a := cs.toList) (b := cs.toList.take o ++ vs ++ cs.toList.drop (o + vs.length)) ⟨by simp; omega, rfl⟩ rfl (i * es + k)
    rw [List.getElem?_toArray, this]
    split
    · rfl
    · rename_i hno
      rcases Nat.lt_or_ge i len with hil | hil
      · rw [Array.getElem?_toList]
        exact (h4 i hil).2.2 k hk
      · exact absurd (hin i hil hi k hk) hno

theorem storeE_spec {p : Pt} {size : Nat} {av el e : AV} {q : Prop} (h : storeE p size av el = some (q, e)) (hq : q) (hsz : av.size = size) (hfv : av.fitV = true) (ho : el.one = true) :
    p.off + p.j + av.cells.length ≤ el.size ∧ e.size = el.size ∧ e.one = true ∧ ∀ k, k < el.size → e.cells[k]? = if p.off + p.j ≤ k ∧ k < p.off + p.j + av.cells.length then av.cells[k - (p.off + p.j)]? else el.cells[k]? := by
  unfold storeE at h
  split at h
  · split at h
    · rename_i e' hu
      cases h
      have hj : p.j = 0 := hq
      obtain ⟨h1, h2⟩ := AV.upd_spec _ hu hsz
      have h3 := h1.1
      rw [AV.size_cells] at h3
      refine ⟨by rw [AV.size_cells, hsz, hj]; exact h3, upd_size hu hsz, h2 ho (fitV_one hfv), fun k _ => ?_⟩
      rw [AV.size_cells, hsz, hj, Nat.add_zero]
      exact upd_at h1 (by rw [AV.size_cells, hsz]) k
    · cases h
  · split at h
    · rename_i k m l k' xx hl
      split at h
      · rename_i e' hk hu
        cases h
        have hj : p.j < m := hq
        have hk := kindEq_eq hk
        subst hk
        have hpl := AV.leaf_spec _ hl
        obtain ⟨h1, h2⟩ := AV.upd_spec _ hu (show (AV.ints k m (lset m l p.j xx)).size = m from rfl)
        have h3 := h1.1
        rw [AV.size_cells] at h3
        refine ⟨by show p.off + p.j + 1 ≤ el.size; omega, upd_size hu rfl, h2 ho rfl, fun i hi => ?_⟩
        rw [upd_at h1 (by rw [AV.size_cells]; rfl) i]
        show _ = if p.off + p.j ≤ i ∧ i < p.off + p.j + 1 then [Value.int k xx][i - (p.off + p.j)]? else _
        by_cases hin : p.off ≤ i ∧ i < p.off + m
        · rw [if_pos hin, ints_get k m _ (by omega), lset_get m l p.j xx (by omega)]
          by_cases hij : i = p.off + p.j
          · subst hij
            rw [if_pos (by omega), if_pos (by omega)]
            simp
          · rw [if_neg (by omega), if_neg (by omega)]
            have := getElem?_part hpl (k := i - p.off) (by omega)
            rw [ints_get k m l (by omega), show p.off + (i - p.off) = i by omega] at this
            exact this.symm
        · rw [if_neg hin, if_neg (by omega)]
      · cases h
    · cases h

theorem fset_at {len idx : Nat} {f : Nat → AV} {e : AV} {i : Nat} (hi : i < len) (hx : idx < len) : fset len idx f e i = if i = idx then e else f i := by
  unfold fset
  cases h : Nat.beq len 1 with
  | true =>
    have := kindB h
    rw [if_pos (by omega)]
  | false => rfl

theorem store_run {P : Program} {t : TypeId} {r : TRow} (hr : RowOk P t r) {w : World} {b T es len cap : Nat} {f : Nat → AV} (h : RowHolds w b T es len f cap) {p : Pt} (hb : p.b = b) (h0 : p.o0 = 0) (hes : p.es = es) (hidx : p.idx < len)
    {av e : AV} {q : Prop} (hE : storeE p r.size av (f p.idx) = some (q, e)) (hq : q) (hsz : av.size = r.size) (hfv : av.fitV = true) :
    ∃ w', (storeVar t p.addr av.val).run P w = .ok () w' ∧ w'.os = w.os ∧ w'.tape = w.tape ∧ w'.output = w.output ∧ (w.drawn ≤ w'.drawn ∧ w'.heap.size = w.heap.size) ∧ (∀ k, k ≠ b → w'.heap[k]? = w.heap[k]?) ∧ RowHolds w' b T es len (fset len p.idx f e) cap := by
  obtain ⟨cs, hcs, hcz, hlc, hel⟩ := id h
  obtain ⟨h1, h2, h3, h4⟩ := storeE_spec hE hq hsz hfv (hel _ hidx).2.1
  rw [(hel _ hidx).1] at h1 h2 h4
  have hfit : p.idx * es + es ≤ cap * es := by
    rw [← Nat.succ_mul]
    exact Nat.mul_le_mul_right _ (by omega)
  obtain ⟨hbound, hnew⟩ := row_set (f' := fset len p.idx f e) (len' := len) (o := p.idx * es + (p.off + p.j)) (vs := av.cells) h (by omega) hlc (fun i hi => by
    rw [fset_at hi hidx]
    by_cases hii : i = p.idx
    · subst hii
      rw [if_pos rfl]
      refine ⟨h2, h3, fun k hk => ?_⟩
      rw [h4 k hk]
      by_cases hr : p.off + p.j ≤ k ∧ k < p.off + p.j + av.cells.length
      · rw [if_pos hr, if_pos (by omega)]
        congr 1; omega
      · rw [if_neg hr, if_neg (by omega)]
    · rw [if_neg hii]
      obtain ⟨g1, g2, g3⟩ := hel i hi
      refine ⟨g1, g2, fun k hk => ?_⟩
      rw [if_neg]
      intro hr
      rcases Nat.lt_or_gt_of_ne hii with hlt | hgt
      · have : (i + 1) * es ≤ p.idx * es := Nat.mul_le_mul_right _ (by omega)
        rw [Nat.succ_mul] at this; omega
      · have : (p.idx + 1) * es ≤ i * es := Nat.mul_le_mul_right _ (by omega)
        rw [Nat.succ_mul] at this; omega) (fun i hi hi' => by omega) hcs
  refine ⟨w.setRow b (cs.toList.take (p.idx * es + (p.off + p.j)) ++ av.cells ++ cs.toList.drop (p.idx * es + (p.off + p.j) + av.cells.length)).toArray, ?_, rfl, rfl, rfl, ⟨Nat.le_refl _, by simp⟩, fun k hk => setRow_other w b k _ hk, hnew⟩
  have hst := run_storeCells_at (P := P) b (p.idx * es + (p.off + p.j)) T av.cells 0 cs w hcs (by omega) (av.one_cells (fitV_one hfv))
  simp only [Nat.add_zero] at hst
  unfold storeVar
  rw [Sem.run_bind, hr.run_sizeOf, Result.andThen_ok, AV.valCells hfv]
  rw [if_neg (by simp [AV.size_cells, hsz])]
  have ha' : p.addr = ⟨b, p.idx * es + (p.off + p.j), none⟩ := by
    unfold Pt.addr Pt.cell
    rw [hb, h0, hes]
    congr 1; omega
  rw [ha']
  exact hst

theorem evStore_ok {P : Program} {E : Env} {O : Nat → Prop} {w0 : World} (hb : TblOk P E.tb) : EvOk P O w0 (fun M tm g _ op => evStore E M tm g op) := by
  intro N M tm g tag a w o r h hok hT hS hg next Q hk
  dsimp only at h
  unfold evStore at h
  split at h
  · rename_i t x y ho
    split at h
    · rename_i p av rr hx hy hr
      split at h
      · rename_i q B hst
        cases h
        have ex : a.eval x = .pointer (some p.addr) := opd_sound hT hx (g := none) trivial trivial
        have ey : a.eval y = av.val := opd_sound hT hy (g := none) trivial trivial
        have fin : ∀ w', (storeVar t p.addr av.val).run P w = .ok () w' → next (a.put o.dst undef) w' → o.wp P a w next Q := fun w' hrun hn => by
          unfold Oper.wp
          have hex : (execOp a.eval o).run P w = .ok .skip w' := by
            unfold execOp
            rw [ho]
            simp only [ex, ey, Sem.run_bind, Instr.storeAt]
            have : (Instr.sureAddr (.pointer (some p.addr))).run P w = .ok p.addr w := rfl
            rw [this, Result.andThen_ok, hrun]; rfl
          rw [hex]
          exact hn
        unfold storeV at hst
        split at hst
        · rename_i hfit
          simp only [Bool.and_eq_true] at hfit
          obtain ⟨hsz, hfv⟩ := hfit
          have hsz := AV.isSize_eq hsz
          split at hst
          · rename_i b T es len f cap hM
            split at hst
            · rename_i q' e hE
              cases hst
              obtain ⟨⟨h1, h2, h3, h4⟩, h5⟩ := hok
              obtain ⟨w', r1, r2, r3, r4, r5, r6, r7⟩ := store_run (hb.get hr) (hS.holds _ _ hM) h1 h2 h3 h4 hE h5 hsz hfv
              refine fin w' r1 (hk () w' trivial ?_)
              exact Turn.upd hM r2 r3 r4 r5.1 (by omega) (fun j _ hj => r6 j fun e => hj e.symm) r7 (fun k hk => .inr hk) fun k hk => hk
            · cases hst
          · rename_i a' T es len f cap hM
            split at hst
            · rename_i q' e hE
              cases hst
              obtain ⟨⟨h1, h3, h4⟩, h5⟩ := hok
              obtain ⟨b, rfl, hrow⟩ := vrow_some (hS.holds _ _ hM) h4
              have e1 : p.b = b := congrArg Prod.fst h1
              have e2 : p.o0 = 0 := congrArg Prod.snd h1
              obtain ⟨w', r1, r2, r3, r4, r5, r6, r7⟩ := store_run (hb.get hr) hrow e1 e2 h3 h4 hE h5 hsz hfv
              refine fin w' r1 (hk () w' trivial ?_)
              exact Turn.upd hM r2 r3 r4 r5.1 (by omega) (fun j _ hj => r6 j fun e => hj (by rw [e]; rfl)) r7 (fun k hk => .inr hk) fun k hk => hk
            · cases hst
          · cases hst
        · cases hst
      · cases h
    · cases h
  · cases h

end Go.Proofs.YtofophjfgalhaaaGreatDoor.V
