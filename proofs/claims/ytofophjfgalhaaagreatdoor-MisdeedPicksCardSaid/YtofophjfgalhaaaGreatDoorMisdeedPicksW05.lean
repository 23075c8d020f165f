import Derived.Test.YtofophjfgalhaaaGreatDoorMisdeedPicksW04
import Derived.Laws.AppendOwn
import Derived.WideKeyRuns
import GoSem.Builtin.Delete
set_option linter.unusedVariables false
set_option linter.unusedSimpArgs false
/-! append. -/
namespace Go.Proofs.YtofophjfgalhaaaGreatDoor.V
open Go Go.RowKit

def fapp (n : Nat) (f src : Nat → AV) : Nat → AV := fun i => match Nat.blt i n with
  | true => f i
  | false => src (i - n)
theorem fapp_lt {n i : Nat} {f src : Nat → AV} (h : i < n) : fapp n f src i = f i := by
  unfold fapp
  rw [show Nat.blt i n = true by rw [Nat.blt_eq]; exact h]
theorem fapp_ge {n i : Nat} {f src : Nat → AV} (h : n ≤ i) : fapp n f src i = src (i - n) := by
  unfold fapp
  have : Nat.blt i n = false := by
    cases hb : Nat.blt i n with
    | true => have := blt_lt hb; omega
    | false => rfl
  rw [this]

def strAt (s : ByteArray) (i : Nat) : AV := .v (.int .u8 (s.data.toList.getD i 0).toNat)
/-- what is appended -/
def srcOf (M : MemF) (size : Nat) (d : TD) (Y : AV) : Option (Prop × Nat × (Nat → AV)) := match d, Y with
  | .str, .v (.string s) => some (size = 1, s.size, strAt s)
  | .sl _, Y => match seqOf M Y with
    | some (c, es, m, f) => some (c ∧ (m ≠ 0 → es = size), m, f)
    | none => none
  | _, _ => none
/-- to what: the tag, how many are there, which -/
def dstOf (M : MemF) (tag size e : Nat) (X : AV) : Option (Prop × Nat × Nat × (Nat → AV)) := match X with
  | .gs n _ a es i0 len cap => match M n with
    | some (.vrow a' T es' len' f cap') => some ((a = ownB a' ∧ es = size ∧ es' = size ∧ i0 = 0 ∧ cap = cap') ∧ len ≤ len' ∧ T = e, n, len, f)
    | _ => none
  | .v (.slice none n c) => some (n = 0 ∧ c = 0, tag, 0, fun _ => .nil)
  | _ => none
def evAppend (E : Env) (M : MemF) (tm : TmF) (g : Option Bool) (tag : Nat) : Op → Option Res
  | .call { callee := .builtin .append, args, argTypes } => match g, args.toList, argTypes.toList with
    | none, [x, y], [t, t2] => match opd tm x, opd tm y, E.tb.get t, E.tb.get t2 with
      | some (none, X), some (none, Y), some r, some r2 => match r.d with
        | .sl e => match E.tb.get e with
          | some re => match re.zero.fitV && re.zero.isSize re.size && Nat.blt 0 re.bytes, srcOf M re.size r2.d Y, dstOf M tag re.size e X with
            | true, some (q1, m, src), some (q2, n, len, f) => some ⟨Option Nat × Nat, q1 ∧ q2 ∧ (len + m) * re.bytes ≤ 140737488355328, fun x => len + m ≤ x.2, fun x => .gs n 0 (ownB x.1) re.size 0 (len + m) x.2, [n], fun x => [.vrow x.1 e re.size (len + m) (fapp len f src) x.2]⟩
            | _, _, _ => none
          | none => none
        | _ => none
      | _, _, _, _ => none
    | _, _, _ => none
  | _ => none

theorem strAt_cells (s : ByteArray) : byteCells s = seqCells (strAt s) s.size := by
  have hl : (seqCells (strAt s) s.size).length = s.size * 1 := seqCells_length (es := 1) fun _ _ => rfl
  apply List.ext_getElem?
  intro i
  by_cases hi : i < s.size
  · have := seqCells_get (f := strAt s) (es := 1) (n := s.size) (fun _ _ => rfl) i 0 hi Nat.zero_lt_one
    rw [Nat.mul_one, Nat.add_zero] at this
    rw [this]
    unfold byteCells strAt
    have hi' : i < s.data.toList.length := hi
    rw [List.getElem?_map, List.getElem?_eq_getElem hi', List.getD_eq_getElem?_getD, List.getElem?_eq_getElem hi']
    rfl
  · rw [List.getElem?_eq_none (by rw [byteCells_length]; omega), List.getElem?_eq_none (by omega)]

theorem srcOf_spec {P : Program} {O : Nat → Prop} {w0 w : World} {M : MemF} (hS : Sat O w0 M w) {t2 : TypeId} {r2 : TRow} (hr : RowOk P t2 r2) {size : Nat} {Y : AV} {q : Prop} {m : Nat} {src : Nat → AV} (h : srcOf M size r2.d Y = some (q, m, src)) (hq : q) :
    Src P size t2 Y.val m (seqCells src m) w ∧ ∀ i, i < m → (src i).size = size ∧ (src i).one = true := by
  obtain ⟨d, hu, hv⟩ := hr.under
  unfold srcOf at h
  split at h
  · rename_i s hd
    cases h
    rw [hd] at hv
    have : d = .string := by cases d <;> simp [viewD] at hv; rfl
    subst this hq
    refine ⟨?_, fun i _ => ⟨rfl, rfl⟩⟩
    have := Src.ofString (P := P) w (tx := t2) hu s
    rw [strAt_cells] at this
    exact this
  · rename_i e' Y' hd
    split at h
    · rename_i c es m' f hs
      cases h
      rw [hd] at hv
      rw [viewD_sl hv] at hu
      obtain ⟨hc, hsz⟩ := hq
      obtain ⟨base, cap, hval, hcase⟩ := seqOf_spec hS hs hc
      rw [hval]
      rcases Nat.eq_zero_or_pos m with h0 | h0
      · subst h0
        refine ⟨?_, fun i hi => by omega⟩
        cases base with
        | none => exact Src.ofNil w hu cap
        | some a => exact Src.ofSlice w hu _ 0 cap [] (by simp) (fun j u hj => by simp at hj) (fun u hu => by cases hu)
      · obtain ⟨b, o, rfl, hR⟩ := hcase (by omega)
        · have hsz := hsz (by omega)
          subst hsz
          exact ⟨Src.ofSlice w hu _ m cap _ (seqCells_length fun i hi => (hR i hi).1) hR.cells (seqCells_one fun i hi => (hR i hi).2.1), fun i hi => ⟨(hR i hi).1, (hR i hi).2.1⟩⟩
    · cases h
  · cases h

section
variable {P : Program} {O : Nat → Prop} {w0 w : World} {M : MemF}

/-- the new row -/
theorem grown_row {e size cap len m : Nat} {f src : Nat → AV} {z : AV} (hz : z.size = size) (hzf : z.fitV = true) (hcap : len + m ≤ cap) (w1 : World) (hf : ∀ i, i < len → (f i).size = size ∧ (f i).one = true)
    (hs : ∀ i, i < m → (src i).size = size ∧ (src i).one = true) :
    RowHolds (w1.alloc (.cells ((seqCells f len ++ seqCells src m).toArray ++ Builtin.zeroCells z.val.cells (cap - (len + m))) e)) w1.heap.size e size (len + m) (fapp len f src) cap := by
  have l1 := seqCells_length (f := f) (es := size) (n := len) fun i hi => (hf i hi).1
  have l2 := seqCells_length (f := src) (es := size) (n := m) fun i hi => (hs i hi).1
  refine ⟨(seqCells f len ++ seqCells src m).toArray ++ Builtin.zeroCells z.val.cells (cap - (len + m)), ?_, ?_, hcap, fun i hi => ?_⟩
  · show (w1.heap.push _)[w1.heap.size]? = _
    simp
  · rw [Array.size_append, size_zeroCells, AV.valCells hzf]
    simp only [List.size_toArray, List.length_append, l1, l2, AV.size_cells, hz]
    rw [← Nat.add_mul, ← Nat.add_mul]
    congr 1; omega
  · rcases Nat.lt_or_ge i len with hil | hil
    · rw [fapp_lt hil]
      refine ⟨(hf i hil).1, (hf i hil).2, fun k hk => ?_⟩
      have h1 : i * size + k < len * size := by
        have : (i + 1) * size ≤ len * size := Nat.mul_le_mul_right _ hil
        rw [Nat.succ_mul] at this; omega
      rw [Array.getElem?_append_left (by simp only [List.size_toArray, List.length_append, l1]; omega), List.getElem?_toArray, List.getElem?_append_left (by omega)]
      exact seqCells_get (fun i hi => (hf i hi).1) i k hil hk
    · rw [fapp_ge hil]
      have him : i - len < m := by omega
      refine ⟨(hs _ him).1, (hs _ him).2, fun k hk => ?_⟩
      have h1 : (i - len) * size + k < m * size := by
        have : (i - len + 1) * size ≤ m * size := Nat.mul_le_mul_right _ him
        rw [Nat.succ_mul] at this; omega
      have h2 : i * size = len * size + (i - len) * size := by rw [← Nat.add_mul]; congr 1; omega
      rw [Array.getElem?_append_left (by simp only [List.size_toArray, List.length_append, l1, l2]; omega), List.getElem?_toArray, List.getElem?_append_right (by omega), l1, show i * size + k - len * size = (i - len) * size + k by omega]
      exact seqCells_get (fun i hi => (hs i hi).1) _ k him hk

theorem append_room {t t2 ty e : TypeId} {r re : TRow} (hr : RowOk P t r) (hd : r.d = .sl e) (hre : RowOk P e re) {b T len len' cap m : Nat} {f src : Nat → AV} (hrow : RowHolds w b T re.size len' f cap) (hlen : len ≤ len')
    {Y : AV} (hs : Src P re.size t2 Y.val m (seqCells src m) w) (hsz : ∀ i, i < m → (src i).size = re.size ∧ (src i).one = true) (hroom : len + m ≤ cap) :
    ∃ w', (Builtin.append_ #[t, t2] ty #[.slice (some ⟨b, 0, none⟩) len cap, Y.val]).run P w = .ok (.slice (some ⟨b, 0, none⟩) (len + m) cap) w' ∧ w'.os = w.os ∧ w'.tape = w.tape ∧ w'.output = w.output ∧ (w.drawn ≤ w'.drawn ∧ w'.heap.size = w.heap.size) ∧ (∀ k, k ≠ b → w'.heap[k]? = w.heap[k]?) ∧ RowHolds w' b T re.size (len + m) (fapp len f src) cap := by
  obtain ⟨d, hu, hv⟩ := hr.under
  rw [hd] at hv
  rw [viewD_sl hv] at hu
  obtain ⟨i, hi, hi1, hi2, hi3⟩ := hre.info
  obtain ⟨cs, hcs, hcz, hlc, hel⟩ := id hrow
  have l2 := seqCells_length (f := src) (es := re.size) (n := m) fun i hi => (hsz i hi).1
  have hfit : len * re.size + m * re.size ≤ cap * re.size := by
    rw [← Nat.add_mul]; exact Nat.mul_le_mul_right _ hroom
  obtain ⟨hbound, hnew⟩ := row_set (f' := fapp len f src) (len' := len + m) (o := len * re.size) (vs := seqCells src m) hrow (by omega) hroom (fun i hi => by
    rcases Nat.lt_or_ge i len with hil | hil
    · rw [fapp_lt hil]
      obtain ⟨g1, g2, g3⟩ := hel i (by omega)
      refine ⟨g1, g2, fun k hk => ?_⟩
      have : (i + 1) * re.size ≤ len * re.size := Nat.mul_le_mul_right _ hil
      rw [Nat.succ_mul] at this
      rw [if_neg (by omega)]
    · rw [fapp_ge hil]
      have him : i - len < m := by omega
      refine ⟨(hsz _ him).1, (hsz _ him).2, fun k hk => ?_⟩
      have h1 : (i - len) * re.size + k < m * re.size := by
        have : (i - len + 1) * re.size ≤ m * re.size := Nat.mul_le_mul_right _ him
        rw [Nat.succ_mul] at this; omega
      have h2 : i * re.size = len * re.size + (i - len) * re.size := by rw [← Nat.add_mul]; congr 1; omega
      rw [if_pos (by omega), show i * re.size + k - len * re.size = (i - len) * re.size + k by omega]
      exact (seqCells_get (fun i hi => (hsz i hi).1) _ k him hk).symm) (fun i h1 h2 k hk => by
      have h3 : len * re.size ≤ i * re.size := Nat.mul_le_mul_right _ (by omega)
      have h4 : (i + 1) * re.size ≤ (len + m) * re.size := Nat.mul_le_mul_right _ (by omega)
      rw [Nat.succ_mul, Nat.add_mul] at h4
      omega) hcs
  refine ⟨w.setRow b (cs.toList.take (len * re.size) ++ seqCells src m ++ cs.toList.drop (len * re.size + (seqCells src m).length)).toArray, ?_, rfl, rfl, rfl, ⟨Nat.le_refl _, by simp⟩, fun k hk => setRow_other w b k _ hk, hnew⟩
  have hst := run_storeCells_at (P := P) b (len * re.size) T (seqCells src m) 0 cs w hcs (by omega) hs.one
  simp only [Nat.add_zero] at hst
  have hcl : (Builtin.firstCells re.size m Y.val).run P w = .ok (seqCells src m).toArray w := hs.cells
  rcases hs.kind with ⟨e', hk⟩ | hk <;> simp [Builtin.append_, run_underlying hu, run_underlying hk, sizeOf, typeInfo, hi, hi1, hs.len, hroom, hcl, Addr.add_none, hst]

theorem append_grow {t t2 ty e : TypeId} {r re : TRow} (hr : RowOk P t r) (hd : r.d = .sl e) (hre : RowOk P e re) (hzf : re.zero.fitV = true) (hzs : re.zero.size = re.size) (hby : 0 < re.bytes) {base : Option Addr} {len cap m : Nat} {f src : Nat → AV}
    (hold : (len = 0 ∨ ∃ b o, base = some ⟨b, o, none⟩ ∧ Reads w b o re.size len f)) {Y : AV} (hs : Src P re.size t2 Y.val m (seqCells src m) w) (hsz : ∀ i, i < m → (src i).size = re.size ∧ (src i).one = true)
    (hno : cap < len + m) (hfits : (len + m) * re.bytes ≤ 140737488355328) :
    ∃ w' b cap', (Builtin.append_ #[t, t2] ty #[.slice base len cap, Y.val]).run P w = .ok (.slice (some ⟨b, 0, none⟩) (len + m) cap') w' ∧ len + m ≤ cap' ∧ w.heap.size ≤ b ∧ Below w.heap.size w w' ∧ RowHolds w' b e re.size (len + m) (fapp len f src) cap' := by
  obtain ⟨d, hu, hv⟩ := hr.under
  rw [hd] at hv
  rw [viewD_sl hv] at hu
  obtain ⟨i, hi, hi1, hi2, hi3⟩ := hre.info
  have hf : ∀ i, i < len → (f i).size = re.size ∧ (f i).one = true := by
    rcases hold with h0 | ⟨b, o, _, hR⟩
    · intro i hi; omega
    · exact fun i hi => ⟨(hR i hi).1, (hR i hi).2.1⟩
  have holdc : (Builtin.firstCells i.size len (.slice base len cap)).run P w.drew = .ok (seqCells f len).toArray w.drew := by
    rcases hold with h0 | ⟨b, o, rfl, hR⟩
    · subst h0
      cases base with
      | none => exact run_firstCells_none w.drew i.size 0 0 cap
      | some a => exact run_firstCells_some w.drew i.size 0 a 0 cap [] (by simp) (fun j v hj => by simp at hj)
    · exact run_firstCells_some w.drew i.size len _ len cap _ (by rw [hi1]; exact seqCells_length fun i hi => (hR i hi).1) (fun j v hj => hR.cells j v hj)
  have hneed : len + m ≤ 140737488355328 := Nat.le_trans (Nat.le_mul_of_pos_right _ hby) hfits
  have hcapb : Builtin.nextslicecap (len + m) cap * i.bytes ≤ 281474976710656 := by
    have h1 := nextslicecap_le (need := len + m) (old := cap) hno
    have h2 : Builtin.nextslicecap (len + m) cap * re.bytes ≤ 2 * (len + m) * re.bytes := Nat.mul_le_mul_right _ h1
    rw [Nat.mul_assoc] at h2
    rw [hi2]; omega
  have hge := grownCap_ge w (len + m) cap e
  have := run_append_grow_src (P := P) w t t2 ty e i re.zero.val hu hi hi3 base len cap _ holdc Y.val m (seqCells src m) (by rw [hi1]; exact hs) hno (by omega) hcapb
  refine ⟨_, w.heap.size, grownCap w (len + m) cap e, this, hge, Nat.le_refl _, ?_, ?_⟩
  · exact (Below.refl _ _).drew.alloc (Nat.le_refl _) _
  · exact grown_row hzs hzf hge w.drew hf hsz

theorem evAppend_ok {E : Env} (hb : TblOk P E.tb) : EvOk P O w0 (evAppend E) := by
  intro N M tm g tag a w o r h hok hT hS hg next Q hk
  unfold evAppend at h
  split at h
  · rename_i args tys ho
    split at h
    · rename_i x y t t2 hargs htys
      split at h
      · rename_i X Y r0 r2 hx hy hr hr2
        split at h
        · rename_i e hd
          split at h
          · rename_i re hre
            split at h
            · rename_i q1 m src q2 n len f hfit hsrc hdst
              cases h
              obtain ⟨hq1, hq2, hfits⟩ := hok
              simp only [Bool.and_eq_true] at hfit
              obtain ⟨⟨hzf, hzs⟩, hby⟩ := hfit
              have hzs := AV.isSize_eq hzs
              have hby := blt_lt hby
              obtain ⟨hs, hsz⟩ := srcOf_spec hS (hb.get hr2) hsrc hq1
              have ex : a.eval x = X.val := opd_sound hT hx (g := none) trivial trivial
              have ey : a.eval y = Y.val := opd_sound hT hy (g := none) trivial trivial
              have hargs : args = #[x, y] := by apply Array.ext'; rw [hargs]
              have htys : tys = #[t, t2] := by apply Array.ext'; rw [htys]
              subst hargs htys
              have fin : ∀ v w', (Builtin.append_ #[t, t2] o.type #[X.val, Y.val]).run P w = .ok v w' → next (a.put o.dst v) w' → o.wp P a w next Q := fun v w' hrun hn => by
                unfold Oper.wp
                have hex : (execOp a.eval o).run P w = .ok (.value v) w' := by
                  unfold execOp
                  rw [ho]
                  simp only [Sem.run_bind, resolve, List.map_toArray, List.map_cons, List.map_nil, ex, ey, Sem.run_pure, Result.andThen_ok, invoke, builtin]
                  rw [hrun]; rfl
                rw [hex]
                exact hn
              have none_room : ∀ (base : Option Addr), len = 0 → m = 0 → base = none → ∀ X0, X0 = Value.slice base 0 0 → (Builtin.append_ #[t, t2] o.type #[X0, Y.val]).run P w = .ok (.slice none 0 0) w := by
                intro base h1 h2 h3 X0 h4
                subst h3 h4 h2
                obtain ⟨d, hu, hv⟩ := (hb.get hr).under
                rw [hd] at hv
                rw [viewD_sl hv] at hu
                obtain ⟨i, hi, hi1, hi2, hi3⟩ := (hb.get hre).info
                have hcl : (Builtin.firstCells re.size 0 Y.val).run P w = .ok #[] w := hs.cells
                rcases hs.kind with ⟨e', hk⟩ | hk <;> simp [Builtin.append_, run_underlying hu, run_underlying hk, sizeOf, typeInfo, hi, hi1, hs.len, hcl]
              unfold dstOf at hdst
              split at hdst
              · rename_i n' ix aa es i0 len0 cap
                split at hdst
                · rename_i a' T es' len' f' cap' hM
                  cases hdst
                  obtain ⟨⟨rfl, rfl, rfl, rfl, rfl⟩, hle, rfl⟩ := hq2
                  have hB := hS.holds _ _ hM
                  cases a' with
                  | none =>
                    obtain ⟨z1, z2⟩ := hB
                    have hl0 : len = 0 := by omega
                    subst z2 hl0
                    rcases Nat.eq_zero_or_pos m with hm | hm
                    · subst hm
                      refine fin _ w (none_room none rfl rfl rfl _ rfl) (hk (none, 0) w (Nat.le_refl _) ?_)
                      exact Turn.upd hM rfl rfl rfl (Nat.le_refl _) (Nat.le_refl _) (fun _ _ _ => rfl) ⟨rfl, rfl⟩ (fun b hb => by cases hb) fun k hk => hk
                    · obtain ⟨w', b, cap', h1, h2, h3, h4, h5⟩ := append_grow (P := P) (t2 := t2) (ty := o.type) (base := none) (cap := 0) (f := f) (hb.get hr) hd (hb.get hre) hzf hzs hby (.inl rfl) hs hsz (by omega) hfits
                      refine fin _ w' h1 ?_
                      have := hk (some b, cap') w' h2 (Turn.upd hM h4.os h4.tape h4.output h4.drawn h4.size (fun j hj _ => h4.block j hj) h5 (fun k hk => by cases hk; exact .inl h3) fun k hk => hk)
                      simpa [gs_val, ownB] using this
                  | some b0 =>
                    have hrow : RowHolds w b0 T re.size len' f cap := hB
                    have hval : (AV.gs n ix (ownB (some b0)) re.size 0 len cap).val = .slice (some ⟨b0, 0, none⟩) len cap := by simp [gs_val, ownB]
                    rw [hval] at fin
                    rcases Nat.lt_or_ge cap (len + m) with hno | hroom
                    · obtain ⟨w', b, cap', h1, h2, h3, h4, h5⟩ := append_grow (P := P) (t2 := t2) (ty := o.type) (base := some ⟨b0, 0, none⟩) (cap := cap) (f := f) (hb.get hr) hd (hb.get hre) hzf hzs hby (.inr ⟨b0, 0, rfl, fun i hi => hrow.reads i (by omega)⟩) hs hsz hno hfits
                      refine fin _ w' h1 ?_
                      have := hk (some b, cap') w' h2 (Turn.upd hM h4.os h4.tape h4.output h4.drawn h4.size (fun j hj _ => h4.block j hj) h5 (fun k hk => by cases hk; exact .inl h3) fun k hk => hk)
                      simpa [gs_val, ownB] using this
                    · obtain ⟨w', h1, h2, h3, h4, h5, h6, h7⟩ := append_room (P := P) (t2 := t2) (ty := o.type) (hb.get hr) hd (hb.get hre) hrow hle hs hsz hroom
                      refine fin _ w' h1 ?_
                      have := hk (some b0, cap) w' hroom (Turn.upd hM h2 h3 h4 h5.1 (by omega) (fun j _ hj => h6 j fun e => hj (by rw [e]; rfl)) h7 (fun k hk => .inr hk) fun k hk => hk)
                      simpa [gs_val, ownB] using this
                · cases hdst
              · rename_i n' c'
                cases hdst
                obtain ⟨rfl, rfl⟩ := hq2
                rcases Nat.eq_zero_or_pos m with hm | hm
                · subst hm
                  refine fin _ w (none_room none rfl rfl rfl _ rfl) (hk (none, 0) w (Nat.le_refl _) ?_)
                  exact Turn.new (Below.refl _ _) ⟨rfl, rfl⟩ (fun b hb => by cases hb) fun k hk => hk
                · obtain ⟨w', b, cap', h1, h2, h3, h4, h5⟩ := append_grow (P := P) (t2 := t2) (ty := o.type) (base := none) (cap := 0) (len := 0) (f := fun _ => .nil) (hb.get hr) hd (hb.get hre) hzf hzs hby (.inl rfl) hs hsz (by omega) hfits
                  refine fin _ w' h1 ?_
                  have := hk (some b, cap') w' h2 (Turn.new h4 h5 (fun k hk => by cases hk; exact h3) fun k hk => hk)
                  simpa [gs_val, ownB] using this
              · cases hdst
            · cases h
          · cases h
        · cases h
      · cases h
    · cases h
  · cases h
end

end Go.Proofs.YtofophjfgalhaaaGreatDoor.V
/-! Maps: looked up, set, deleted from. -/
namespace Go.Proofs.YtofophjfgalhaaaGreatDoor.V
open Go Go.RowKit

mutual
/-- a key of type t: integers, strings, bools, arrays of integers, structs of such -/
def keyT (tb : Tbl) : Nat → TypeId → AV → Bool
  | 0, _, _ => false
  | d + 1, t, x => match tb.get t with
    | none => false
    | some r => match r.d, x with
      | .arr n e, .ints k1 n1 _ => match tb.get e with
        | none => false
        | some re => match re.d, Nat.beq re.size 1 with
          | .int k, true => kindEq k1 k && Nat.beq n1 n
          | _, _ => false
      | .st fs, .agg l => keyF tb d fs 0 l
      | .int k, .v (.int k1 _) => kindEq k1 k
      | .bool, .v (.bool _) => true
      | .str, .v (.string _) => true
      | _, _ => false
def keyF (tb : Tbl) : Nat → List (Nat × Nat × TypeId) → Nat → AV → Bool
  | 0, _, _, _ => false
  | d + 1, fs, run, l => match fs, l with
    | [], .nil => true
    | (o, s, t) :: fs, .cons a l => Nat.beq o run && a.isSize s && fitsK tb t a && keyT tb d t a && keyF tb d fs (o + s) l
    | _, _ => false
end

theorem bind_ok {P : Program} {α β : Type} {x : Sem α} {f : α → Sem β} {w : World} {a : α} {r : Result β} (h : x.run P w = .ok a w) (h2 : (f a).run P w = r) : (x >>= f).run P w = r := by
  rw [Sem.run_bind, h, Result.andThen_ok]; exact h2
theorem run_forIn_yield {P : Program} {α : Type} {f : α → PUnit → Sem (ForInStep PUnit)} {w : World} : ∀ {l : List α}, (∀ a ∈ l, (f a PUnit.unit).run P w = .ok (.yield PUnit.unit) w) → (forIn l PUnit.unit f).run P w = .ok PUnit.unit w
  | [], _ => rfl
  | a :: l, h => by
    rw [List.forIn_cons, Sem.run_bind, h a (.head _), Result.andThen_ok]
    exact run_forIn_yield fun b hb => h b (.tail _ hb)

mutual
theorem keyT_check {P : Program} {tb : Tbl} (hb : TblOk P tb) : ∀ (d : Nat) {t : TypeId} {x : AV}, keyT tb d t x = true → ∀ (D : Nat), d < D → ∀ (em : Bool) (w : World), (Instr.checkKey em D t x.val).run P w = .ok () w
  | 0, _, _, h, _, _, _, _ => by simp [keyT] at h
  | d + 1, t, x, h, D, hD, em, w => by
    obtain ⟨D, rfl⟩ : ∃ m, D = m + 2 := ⟨D - 2, by omega⟩
    simp only [keyT] at h
    split at h
    · cases h
    · rename_i r hr
      have hro := hb.get hr
      obtain ⟨dd, hdd, hv⟩ := hro.under
      split at h
      · rename_i n e k1 n1 l hd
        split at h
        · cases h
        · rename_i re hre
          split at h
          · rename_i k hk hs
            simp only [Bool.and_eq_true] at h
            have q1 := kindEq_eq h.1; have q2 := kindB h.2; have hs := kindB hs
            subst q1 q2
            rw [hd] at hv
            rw [viewD_arr hv] at hdd
            obtain ⟨de, hde, hve⟩ := (hb.get hre).under
            rw [hk] at hve
            have hd2 : de = .int k1 := by cases de <;> simp [viewD] at hve; rw [hve]
            rw [hd2] at hde
            show (Instr.checkKey em (D + 1 + 1) t (.agg ((List.range n1).map fun j => Value.int k1 (l.getD j 0)).toArray)).run P w = _
            unfold Instr.checkKey
            rw [Sem.run_bind, run_underlying hdd, Result.andThen_ok]
            simp only []
            refine bind_ok (a := PUnit.unit) ?_ rfl
            rw [run_forIn_range]
            refine run_forIn_yield fun i hi => ?_
            have hi := List.mem_range.1 hi
            have hp : (part e ((List.range n1).map fun j => Value.int k1 (l.getD j 0)).toArray (i * re.size)).run P w = .ok (.int k1 (l.getD i 0)) w := by
              refine run_part (hb.get hre) (s := .v (.int k1 (l.getD i 0))) ⟨hs.symm, ?_, ?_⟩ (by rw [hk]; rfl) w
              · simp [hs]; omega
              · simp only [hs, Nat.mul_one]
                rw [← List.map_drop, ← List.map_take, List.drop_eq_getElem_cons (by simpa using hi)]
                simp
            have hc : (Instr.checkKey em (D + 1) e (.int k1 (l.getD i 0))).run P w = .ok () w := by
              unfold Instr.checkKey
              rw [Sem.run_bind, run_underlying hde, Result.andThen_ok]; rfl
            simp only [Sem.run_bind, (hb.get hre).run_sizeOf, Result.andThen_ok, hp, hc, Sem.run_pure]
          · cases h
      · rename_i fs l hd
        rw [hd] at hv
        obtain ⟨gs, rfl, hgs⟩ := viewD_st hv
        show (Instr.checkKey em (D + 1 + 1) t (.agg l.cells.toArray)).run P w = _
        unfold Instr.checkKey
        rw [Sem.run_bind, run_underlying hdd, Result.andThen_ok]
        simp only []
        refine bind_ok (a := PUnit.unit) ?_ rfl
        rw [← Array.forIn_toList]
        refine run_forIn_yield fun f hf => ?_
        obtain ⟨a, h1, h2⟩ := keyF_check hb d h (D + 1) (by omega) gs.toList (fields_map hgs) [] rfl em w f hf
        have h1 : (part f.type l.cells.toArray f.offset).run P w = .ok a.val w := h1
        split
        · simp only [Sem.run_bind, h1, h2, Result.andThen_ok, Sem.run_pure]
        · rfl
      · rename_i k k1 z hd
        rw [hd] at hv
        have hd2 : dd = .int k := by cases dd <;> simp [viewD] at hv; rw [hv]
        rw [hd2] at hdd
        unfold Instr.checkKey
        rw [Sem.run_bind, run_underlying hdd, Result.andThen_ok]; rfl
      · rename_i b hd
        rw [hd] at hv
        rw [viewD_bool hv] at hdd
        unfold Instr.checkKey
        rw [Sem.run_bind, run_underlying hdd, Result.andThen_ok]; rfl
      · rename_i s hd
        rw [hd] at hv
        have hd2 : dd = .string := by cases dd <;> simp [viewD] at hv; rfl
        rw [hd2] at hdd
        unfold Instr.checkKey
        rw [Sem.run_bind, run_underlying hdd, Result.andThen_ok]; rfl
      · cases h
theorem keyF_check {P : Program} {tb : Tbl} (hb : TblOk P tb) : ∀ (d : Nat) {fs : List (Nat × Nat × TypeId)} {run : Nat} {l : AV}, keyF tb d fs run l = true → ∀ (D : Nat), d < D →
    ∀ gs : List Field, gs.map (fun f => (f.offset, f.type)) = fs.map (fun f => (f.1, f.2.2)) → ∀ (cs1 : List Value), cs1.length = run → ∀ (em : Bool) (w : World) (f : Field), f ∈ gs →
    ∃ a : AV, (part f.type (cs1 ++ l.cells).toArray f.offset).run P w = .ok a.val w ∧ (Instr.checkKey em D f.type a.val).run P w = .ok () w
  | d, fs, run, l, h, D, hD, gs, hg, cs1, hc1, em, w, f, hf => by
    cases d with
    | zero => simp [keyF] at h
    | succ d =>
      simp only [keyF] at h
      split at h
      · have hgn : gs = [] := by simpa using hg
        subst hgn
        cases hf
      · rename_i o s t fs a l
        simp only [Bool.and_eq_true] at h
        obtain ⟨⟨⟨⟨q1, q2⟩, hk⟩, ht⟩, hrest⟩ := h
        have q1 := kindB q1; have q2 := (AV.isSize_eq q2).symm
        cases gs with
        | nil => simp at hg
        | cons g gs =>
          simp only [List.map_cons, List.cons.injEq, Prod.mk.injEq] at hg
          obtain ⟨⟨hgo, hgt⟩, hg⟩ := hg
          rcases List.mem_cons.1 hf with rfl | hf
          · obtain ⟨r1, hr1, ho1, hs1, hk1⟩ := fitsK_spec hb hk
            refine ⟨a, ?_, ?_⟩
            · rw [hgt, hgo]
              refine run_part ho1 ?_ hk1 w
              rw [AV.cells_cons, ← List.append_assoc]
              refine Part.inl (Part.inr (by omega) ?_)
              rw [hs1, show o - cs1.length = 0 by omega]
              exact Part.whole a
            · rw [hgt]; exact keyT_check hb d ht D (by omega) em w
          · obtain ⟨b, h1, h2⟩ := keyF_check hb d hrest D (by omega) gs hg (cs1 ++ a.cells) (by simp [AV.size_cells]; omega) em w f hf
            rw [List.append_assoc, ← AV.cells_cons] at h1
            exact ⟨b, h1, h2⟩
      · cases h
end

theorem intsEq_cells {n : Nat} {k : IntKind} {a b : List Int} (h : intsEq n a b = true) : (AV.ints k n a).cells = (AV.ints k n b).cells := by
  show (List.range n).map _ = (List.range n).map _
  refine List.map_congr_left fun j hj => ?_
  have := List.all_eq_true.1 h j hj
  rw [beq_iff_eq] at this
  rw [this]
theorem bytes_toList {a b : ByteArray} (h : a.toList = b.toList) : a = b := by
  rw [ByteArray.toList_eq, ByteArray.toList_eq] at h
  obtain ⟨⟨x⟩⟩ := a
  obtain ⟨⟨y⟩⟩ := b
  have h : x = y := h
  rw [h]
theorem eqLeaf_true {d : TD} {x y : AV} (h : eqLeaf d x y = some true) : x.cells = y.cells ∧ x.val = y.val := by
  unfold eqLeaf at h
  split at h
  · split at h
    · rename_i hk
      simp only [Option.some.injEq, beq_iff_eq] at h
      simp only [Bool.and_eq_true] at hk
      rw [kindEq_eq hk.1, kindEq_eq hk.2, h]; exact ⟨rfl, rfl⟩
    · cases h
  · simp only [Option.some.injEq, beq_iff_eq] at h
    rw [h]; exact ⟨rfl, rfl⟩
  · simp only [Option.some.injEq, beq_iff_eq] at h
    rw [bytes_toList h]; exact ⟨rfl, rfl⟩
  · cases h
mutual
theorem eqT_true {tb : Tbl} {eqs : List TypeId} : ∀ (d : Nat) {t : TypeId} {x y : AV}, eqT tb eqs d t x y = some true → x.cells = y.cells ∧ x.val = y.val
  | 0, _, _, _, h => by simp [eqT] at h
  | d + 1, t, x, y, h => by
    simp only [eqT] at h
    split at h
    · cases h
    · split at h
      · split at h
        · cases h
        · split at h
          · split at h
            · rename_i hq
              simp only [Option.some.injEq] at h
              simp only [Bool.and_eq_true] at hq
              obtain ⟨⟨⟨q1, q2⟩, q3⟩, q4⟩ := hq
              have q1 := kindEq_eq q1; have q2 := kindEq_eq q2
              have q3 := kindB q3; have q4 := kindB q4
              subst q1 q2 q3 q4
              have := intsEq_cells (k := by assumption) h
              exact ⟨this, by rw [AV.val_of_cells rfl, AV.val_of_cells rfl, this]⟩
            · cases h
          · cases h
      · split at h
        · have := eqF_true d h
          exact ⟨this, by rw [AV.val_agg, AV.val_agg, this]⟩
        · cases h
      · exact eqLeaf_true h
theorem eqF_true {tb : Tbl} {eqs : List TypeId} : ∀ (d : Nat) {fs : List (Nat × Nat × TypeId)} {run : Nat} {l m : AV}, eqF tb eqs d fs run l m = some true → l.cells = m.cells
  | d, fs, run, l, m, h => by
    cases d with
    | zero => simp [eqF] at h
    | succ d =>
      simp only [eqF] at h
      split at h
      · rfl
      · split at h
        · split at h
          · rename_i p q hp hq
            simp only [Option.some.injEq, Bool.and_eq_true] at h
            obtain ⟨rfl, rfl⟩ := h
            rw [AV.cells_cons, AV.cells_cons, (eqT_true d hp).1, eqF_true d hq]
          · cases h
        · cases h
      · cases h
end
mutual
theorem eqT_refl {tb : Tbl} {eqs : List TypeId} : ∀ (d : Nat) {t : TypeId} {x y : AV} {b : Bool}, eqT tb eqs d t x y = some b → eqT tb eqs d t y y = some true
  | 0, _, _, _, _, h => by simp [eqT] at h
  | d + 1, t, x, y, b, h => by
    simp only [eqT] at h ⊢
    split at h
    · cases h
    · split at h
      · split at h
        · cases h
        · rename_i re hre
          split at h
          · split at h
            · rename_i hd hs hq
              simp only [Bool.and_eq_true] at hq
              simp [*, intsEq]
            · cases h
          · cases h
      · split at h
        · rename_i hm
          have := eqF_refl d h
          simp [*]
        · cases h
      · unfold eqLeaf at h
        split at h
        · split at h
          · rename_i hk
            simp only [Bool.and_eq_true] at hk
            simp [*, eqLeaf]
          · cases h
        · simp [*, eqLeaf]
        · simp [*, eqLeaf]
        · cases h
theorem eqF_refl {tb : Tbl} {eqs : List TypeId} : ∀ (d : Nat) {fs : List (Nat × Nat × TypeId)} {run : Nat} {l m : AV} {b : Bool}, eqF tb eqs d fs run l m = some b → eqF tb eqs d fs run m m = some true
  | d, fs, run, l, m, b, h => by
    cases d with
    | zero => simp [eqF] at h
    | succ d =>
      simp only [eqF] at h ⊢
      split at h
      · rfl
      · split at h
        · rename_i hq h1 h2
          split at h
          · rename_i p q hp hq'
            have e1 := eqT_refl d hp
            have e2 := eqF_refl d hq'
            simp only [Bool.and_eq_true] at hq
            simp [*]
          · cases h
        · cases h
      · cases h
end
end Go.Proofs.YtofophjfgalhaaaGreatDoor.V
/-! Maps: looked up, set, deleted from. -/
namespace Go.Proofs.YtofophjfgalhaaaGreatDoor.V
open Go Go.RowKit

def mfind (tb : Tbl) (eqs : List TypeId) (kt : TypeId) (key : AV) : List (AV × AV × Nat) → Nat → Option (Option (Nat × AV))
  | [], _ => some none
  | (k, v, _) :: r, i => match eqT tb eqs 64 kt key k with
    | some true => some (some (i, v))
    | some false => mfind tb eqs kt key r (i + 1)
    | none => none
def trip (p : AV × AV × Nat) : Value × Value × Nat := (p.1.val, p.2.1.val, p.2.2)
def tripE (e : MapEntry) : Value × Value × Nat := (e.key, e.val, e.born)

/-- the kinds of key types that are served -/
def keyTop : TD → Bool
  | .int _ => true
  | .st _ => true
  | .arr _ _ => true
  | _ => false

section
variable {P : Program} {tb : Tbl} {eqs : List TypeId}
theorem findAsking_run (hb : TblOk P tb) (he : EqOk P eqs) {kt : TypeId} {key : AV} (w : World) : ∀ {l : List (AV × AV × Nat)} {es : List MapEntry} {i : Nat} {r : Option (Nat × AV)}, es.map tripE = l.map trip → mfind tb eqs kt key l i = some r →
    (Instr.findAsking kt key.val es i).run P w = .ok (r.map fun p => (p.1, p.2.val)) w
  | [], es, i, r, hm, h => by
    have : es = [] := by simpa using hm
    subst this
    cases h; rfl
  | (k, v, b) :: l, [], i, r, hm, h => by simp at hm
  | (k, v, b) :: l, e :: es, i, r, hm, h => by
    simp only [List.map_cons, List.cons.injEq] at hm
    obtain ⟨h1, h2⟩ := hm
    have hk : e.key = k.val := congrArg (·.1) h1
    have hv : e.val = v.val := congrArg (·.2.1) h1
    simp only [mfind] at h
    unfold Instr.findAsking
    split at h
    · rename_i hq
      cases h
      have : (Op.equal kt key.val e.key).run P w = .ok true w := by rw [hk]; exact eqT_run hb he 64 hq 10000 (by omega) w
      rw [Sem.run_bind, this, Result.andThen_ok, if_pos rfl, hv]; rfl
    · rename_i hq
      have : (Op.equal kt key.val e.key).run P w = .ok false w := by rw [hk]; exact eqT_run hb he 64 hq 10000 (by omega) w
      rw [Sem.run_bind, this, Result.andThen_ok, if_neg (by simp)]
      exact findAsking_run hb he w h2 h
    · cases h

theorem findNow_int {tb : Tbl} {eqs : List TypeId} {kt : TypeId} {r0 : TRow} {k : IntKind} (hr : tb.get kt = some r0) (hd : r0.d = .int k) {key : AV} : ∀ {l : List (AV × AV × Nat)} {es : List MapEntry} {i : Nat} {r : Option (Nat × AV)}, es.map tripE = l.map trip → mfind tb eqs kt key l i = some r →
    Instr.findNow (.int k) key.val es i = some (r.map fun p => (p.1, p.2.val))
  | [], es, i, r, hm, h => by
    have : es = [] := by simpa using hm
    subst this
    cases h; rfl
  | (k', v, b) :: l, [], i, r, hm, h => by simp at hm
  | (k', v, b) :: l, e :: es, i, r, hm, h => by
    simp only [List.map_cons, List.cons.injEq] at hm
    obtain ⟨h1, h2⟩ := hm
    have hk : e.key = k'.val := congrArg (·.1) h1
    have hv : e.val = v.val := congrArg (·.2.1) h1
    simp only [mfind] at h
    have key' : ∀ b, eqT tb eqs 64 kt key k' = some b → Instr.sameNow (.int k) key.val e.key = some b := by
      intro b hq
      simp only [eqT, hr, hd] at hq
      unfold eqLeaf at hq
      split at hq <;> (try cases hq) <;> (try (rename_i hdd; cases hdd))
      split at hq
      · rename_i hkk
        simp only [Bool.and_eq_true] at hkk
        cases hq
        rw [hk]
        simp [Instr.sameNow, kindEq_eq hkk.1, kindEq_eq hkk.2]
      · cases hq
    unfold Instr.findNow
    split at h
    · rename_i hq
      cases h
      rw [key' _ hq]
      simp [hv]
    · rename_i hq
      rw [key' _ hq]
      exact findNow_int hr hd h2 h
    · cases h

theorem findKey_run (hb : TblOk P tb) (he : EqOk P eqs) {kt : TypeId} {r0 : TRow} (hr : tb.get kt = some r0) (ht : keyTop r0.d = true) {key : AV} (w : World) {l : List (AV × AV × Nat)} {es : List MapEntry} {r : Option (Nat × AV)} (hm : es.map tripE = l.map trip) (h : mfind tb eqs kt key l 0 = some r) :
    (Instr.findKey kt key.val es).run P w = .ok (r.map fun p => (p.1, p.2.val)) w := by
  obtain ⟨d, hu, hv⟩ := (hb.get hr).under
  unfold keyTop at ht
  split at ht
  · rename_i k hd
    rw [hd] at hv
    have hd2 : d = .int k := by cases d <;> simp [viewD] at hv; rw [hv]
    rw [hd2] at hu
    unfold Instr.findKey
    rw [Sem.run_bind, run_underlying hu, Result.andThen_ok, findNow_int hr hd hm h]; rfl
  · rename_i fs hd
    rw [hd] at hv
    obtain ⟨gs, rfl, _⟩ := viewD_st hv
    rw [run_findKey_eq w (by rw [hu])]
    exact findAsking_run hb he w hm h
  · rename_i n e hd
    rw [hd] at hv
    rw [viewD_arr hv] at hu
    rw [run_findKey_eq w (by rw [hu])]
    exact findAsking_run hb he w hm h
  · cases ht

theorem mfind_some {kt : TypeId} {key : AV} : ∀ {l : List (AV × AV × Nat)} {i j : Nat} {v : AV}, mfind tb eqs kt key l i = some (some (j, v)) → i ≤ j ∧ ∃ p, l[j - i]? = some p ∧ p.2.1 = v ∧ p.1.val = key.val ∧ p.1.cells = key.cells
  | [], i, j, v, h => by cases h
  | (k, v0, b) :: l, i, j, v, h => by
    simp only [mfind] at h
    split at h
    · rename_i hq
      cases h
      obtain ⟨h1, h2⟩ := eqT_true 64 hq
      exact ⟨Nat.le_refl _, (k, v0, b), by simp, rfl, h2.symm, h1.symm⟩
    · obtain ⟨h1, p, h2, h3⟩ := mfind_some h
      exact ⟨by omega, p, by rw [show j - i = (j - (i + 1)) + 1 by omega]; simpa using h2, h3⟩
    · cases h
theorem mfind_none (hb : TblOk P tb) (he : EqOk P eqs) (w : World) {kt : TypeId} {key : AV} : ∀ {l : List (AV × AV × Nat)} {i : Nat}, mfind tb eqs kt key l i = some none → ∀ p ∈ l, p.1.val ≠ key.val
  | [], i, h, p, hp => by cases hp
  | (k, v0, b) :: l, i, h, p, hp => by
    simp only [mfind] at h
    split at h
    · cases h
    · rename_i hq
      rcases List.mem_cons.1 hp with rfl | hp
      · intro e
        have h1 := eqT_run hb he 64 hq 10000 (by omega) w
        have h2 := eqT_run hb he 64 (eqT_refl 64 hq) 10000 (by omega) w
        rw [e] at h2
        rw [e] at h1
        rw [h1] at h2
        cases h2
      · exact mfind_none hb he w h p hp
    · cases h
end

/-- simple cells -/
def simpV : Value → Bool
  | .bool _ => true
  | .int _ _ => true
  | .string _ => true
  | _ => false
theorem sameBits_simp {v : Value} (h : simpV v = true) (n : Nat) : Instr.sameBits n v v = true := by
  cases v <;> simp [simpV] at h <;> simp [Instr.sameBits]
  exact (MapKept.bytes_beq _ _).2 rfl
mutual
theorem keyT_simp {tb : Tbl} : ∀ (d : Nat) {t : TypeId} {x : AV}, keyT tb d t x = true → (∀ c ∈ x.cells, simpV c = true) ∧ (x.isAgg = true ∨ simpV x.val = true)
  | 0, _, _, h => by simp [keyT] at h
  | d + 1, t, x, h => by
    simp only [keyT] at h
    split at h
    · cases h
    · split at h
      · refine ⟨fun c hc => ?_, .inl rfl⟩
        obtain ⟨j, _, rfl⟩ := List.mem_map.1 (show c ∈ (List.range _).map _ from hc); rfl
      · exact ⟨fun c hc => keyF_simp d h c (by rwa [AV.cells_agg] at hc), .inl rfl⟩
      · exact ⟨fun c hc => by simp at hc; subst hc; rfl, .inr rfl⟩
      · exact ⟨fun c hc => by simp at hc; subst hc; rfl, .inr rfl⟩
      · exact ⟨fun c hc => by simp at hc; subst hc; rfl, .inr rfl⟩
      · cases h
theorem keyF_simp {tb : Tbl} : ∀ (d : Nat) {fs : List (Nat × Nat × TypeId)} {run : Nat} {l : AV}, keyF tb d fs run l = true → ∀ c ∈ l.cells, simpV c = true
  | d, fs, run, l, h => by
    cases d with
    | zero => simp [keyF] at h
    | succ d =>
      simp only [keyF] at h
      split at h
      · intro c hc; cases hc
      · simp only [Bool.and_eq_true] at h
        intro c hc
        rw [AV.cells_cons] at hc
        rcases List.mem_append.1 hc with hc | hc
        · exact (keyT_simp d h.1.2).1 c hc
        · exact keyF_simp d h.2 c hc
      · cases h
end
theorem zip_same {n : Nat} : ∀ {l : List Value}, (∀ c ∈ l, simpV c = true) → ((l.zip l).all fun (x, y) => Instr.sameBits n x y) = true
  | [], _ => rfl
  | a :: l, h => by
    rw [List.zip_cons_cons, List.all_cons, zip_same fun c hc => h c (.tail _ hc)]
    simp [sameBits_simp (h a (.head _))]
theorem keyT_stays {P : Program} {tb : Tbl} {t : TypeId} {x : AV} (h : keyT tb 64 t x = true) (w : World) : (Instr.keyThatStays x.val x.val).run P w = .ok x.val w := by
  have : Instr.sameBits 10000 x.val x.val = true := by
    obtain ⟨h1, h2⟩ := keyT_simp 64 h
    rcases h2 with h2 | h2
    · rw [AV.val_of_cells h2]
      show (_ && _) = true
      simp only [beq_self_eq_true, Bool.true_and]
      exact zip_same h1
    · exact sameBits_simp h2 _
  unfold Instr.keyThatStays
  rw [this]; rfl
end Go.Proofs.YtofophjfgalhaaaGreatDoor.V
/-! Maps: the evaluators. -/
namespace Go.Proofs.YtofophjfgalhaaaGreatDoor.V
open Go Go.RowKit

def lookV (ok : Bool) (v : AV) (b : Bool) : AV := match ok with
  | true => .tup (.cons v (.cons (.v (.bool b)) .nil))
  | false => v
def evLookup (E : Env) (M : MemF) (tm : TmF) (g : Option Bool) : Op → Option Res
  | .lookup xt x ix ok => match opd tm x, opd tm ix, E.tb.get xt with
    | some (cx, X), some (ci, K), some r => match r.d with
      | .map kt e => match E.tb.get kt, E.tb.get e with
        | some rk, some re => match keyTop rk.d && keyT E.tb 64 kt K, X with
          | true, .v (.map none) => some ⟨Unit, need g cx ∧ need g ci, fun _ => True, fun _ => lookV ok re.zero false, [], fun _ => []⟩
          | true, .mp n b => match M n with
            | some (.mp _ b' l _) => match mfind E.tb E.eqs kt K l 0 with
              | some none => some ⟨Unit, (need g cx ∧ need g ci) ∧ imp g (b' = b), fun _ => True, fun _ => lookV ok re.zero false, [], fun _ => []⟩
              | some (some (_, v)) => some ⟨Unit, (need g cx ∧ need g ci) ∧ imp g (b' = b), fun _ => True, fun _ => lookV ok v true, [], fun _ => []⟩
              | none => none
            | _ => none
          | _, _ => none
        | _, _ => none
      | _ => none
    | _, _, _ => none
  | _ => none

def pickZ (rr : Option (Nat × AV)) (z : AV) : AV := match rr with
  | some p => p.2
  | none => z
def mset : List (AV × AV × Nat) → Nat → AV → AV → List (AV × AV × Nat)
  | [], _, _, _ => []
  | (_, _, b) :: r, 0, k, v => (k, v, b) :: r
  | x :: r, i + 1, k, v => x :: mset r i k v
def mputV (tb : Tbl) (eqs : List TypeId) (kt : TypeId) (K X : AV) (b : Nat) (l : List (AV × AV × Nat)) (clk : Nat) : Option Blk := match mfind tb eqs kt K l 0 with
  | some none => some (.mp true b (l ++ [(K, X, clk)]) (clk + 1))
  | some (some (i, _)) => some (.mp true b (mset l i K X) clk)
  | none => none
def mdelV (tb : Tbl) (eqs : List TypeId) (kt : TypeId) (K : AV) (b : Nat) (l : List (AV × AV × Nat)) (clk : Nat) : Option Blk := match mfind tb eqs kt K l 0 with
  | some none => some (.mp true b l clk)
  | some (some (i, _)) => some (.mp true b (l.eraseIdx i) clk)
  | none => none
def evMapUpd (E : Env) (M : MemF) (tm : TmF) (g : Option Bool) (t : TypeId) (m k x : Operand) : Option Res := match g, opd tm m, opd tm k, opd tm x, E.tb.get t with
  | none, some (none, .mp n b), some (none, K), some (none, X), some r => match r.d with
    | .map kt _ => match E.tb.get kt, M n with
      | some rk, some (.mp true b' l clk) => match keyTop rk.d && keyT E.tb 64 kt K, mputV E.tb E.eqs kt K X b l clk with
        | true, some B => some ⟨Unit, b' = b, fun _ => True, fun _ => .v undef, [n], fun _ => [B]⟩
        | _, _ => none
      | _, _ => none
    | _ => none
  | _, _, _, _, _ => none
def evMapDel (E : Env) (M : MemF) (tm : TmF) (g : Option Bool) (args : Array Operand) (tys : Array TypeId) : Option Res := match g, args.toList, tys.toList with
  | none, [m, k], t :: _ => match opd tm m, opd tm k, E.tb.get t with
    | some (none, .mp n b), some (none, K), some r => match r.d with
      | .map kt _ => match E.tb.get kt, M n with
        | some rk, some (.mp true b' l clk) => match keyTop rk.d && keyT E.tb 64 kt K, mdelV E.tb E.eqs kt K b l clk with
          | true, some B => some ⟨Unit, b' = b, fun _ => True, fun _ => .tup .nil, [n], fun _ => [B]⟩
          | _, _ => none
        | _, _ => none
      | _ => none
    | _, _, _ => none
  | _, _, _ => none

theorem mset_map : ∀ (l : List (AV × AV × Nat)) (es : List MapEntry) (i : Nat) (k v : AV), es.map tripE = l.map trip → (es.modify i fun e => { e with key := k.val, val := v.val }).map tripE = (mset l i k v).map trip
  | [], [], i, k, v, _ => by cases i <;> rfl
  | [], e :: es, i, k, v, h => by simp at h
  | p :: l, [], i, k, v, h => by simp at h
  | (k0, v0, b) :: l, e :: es, 0, k, v, h => by
    simp only [List.map_cons, List.cons.injEq] at h
    have hb : e.born = b := congrArg (·.2.2) h.1
    show _ = ((k, v, b) :: l).map trip
    rw [List.modify_zero_cons, List.map_cons, List.map_cons, h.2]
    congr 1
    show (k.val, v.val, e.born) = (k.val, v.val, b)
    rw [hb]
  | p :: l, e :: es, i + 1, k, v, h => by
    simp only [List.map_cons, List.cons.injEq] at h
    show _ = (p :: mset l i k v).map trip
    rw [List.modify_succ_cons, List.map_cons, List.map_cons, h.1, mset_map l es i k v h.2]

section
variable {P : Program} {E : Env} {O : Nat → Prop} {w0 : World}

theorem evLookup_ok (hb : TblOk P E.tb) (he : EqOk P E.eqs) : EvOk P O w0 (fun M tm g _ op => evLookup E M tm g op) := by
  intro N M tm g tag a w o r h hok hT hS hg next Q hk
  dsimp only at h
  unfold evLookup at h
  split at h
  · rename_i xt x ix ok ho
    split at h
    · rename_i cx X ci K rr hx hi hr
      split at h
      · rename_i kt e hd
        split at h
        · rename_i rk re hrk hre
          obtain ⟨dd, hu, hv⟩ := (hb.get hr).under
          rw [hd] at hv
          have hu := viewD_map hv ▸ hu
          have fin : ∀ (es : Array MapEntry) (rr : Option (Nat × AV)), keyTop rk.d = true → keyT E.tb 64 kt K = true → need g cx → need g ci → ((X.val = .map none ∧ es = #[]) ∨ ∃ b clk, X.val = .map (some b) ∧ w.heap[b]? = some (.map es clk)) →
              (Instr.findKey kt K.val es.toList).run P w = .ok (rr.map fun p => (p.1, p.2.val)) w →
              next (a.put o.dst (lookV ok (pickZ rr re.zero) rr.isSome).val) w → o.wp P a w next Q := by
            intro es rr h1 h2 h3 h4 h5 h7 h8
            refine wp_val (v := (lookV ok (pickZ rr re.zero) rr.isSome).val) ?_ h8
            unfold execOp; rw [ho]
            simp only [opd_s hT hx h3 hg, opd_s hT hi h4 hg, Sem.run_bind]
            have : (Instr.lookup xt X.val K.val ok).run P w = .ok (lookV ok (pickZ rr re.zero) rr.isSome).val w := by
              unfold Instr.lookup
              refine bind_ok (run_underlying hu w) ?_
              simp only []
              rcases h5 with ⟨h5, h6⟩ | ⟨b, clk, h5, h6⟩
              · rw [h5]
                subst h6
                refine bind_ok (a := #[]) rfl ?_
                refine bind_ok (keyT_check hb 64 h2 10000 (by omega) _ w) ?_
                refine bind_ok h7 ?_
                cases rr with
                | none =>
                  simp only [Option.map_none, Sem.run_bind, (hb.get hre).run_zero, Result.andThen_ok, Sem.run_pure]
                  cases ok <;> rfl
                | some p =>
                  simp only [Option.map_some, Sem.run_bind, Result.andThen_ok, Sem.run_pure]
                  cases ok <;> rfl
              · rw [h5]
                refine bind_ok (MapKept.run_getObj_map h6) ?_
                refine bind_ok (a := es) rfl ?_
                refine bind_ok (keyT_check hb 64 h2 10000 (by omega) _ w) ?_
                refine bind_ok h7 ?_
                cases rr with
                | none =>
                  simp only [Option.map_none, Sem.run_bind, (hb.get hre).run_zero, Result.andThen_ok, Sem.run_pure]
                  cases ok <;> rfl
                | some p =>
                  simp only [Option.map_some, Sem.run_bind, Result.andThen_ok, Sem.run_pure]
                  cases ok <;> rfl
            rw [this]; rfl
          split at h
          · rename_i hkk
            simp only [Bool.and_eq_true] at hkk
            cases h
            exact fin #[] none hkk.1 hkk.2 hok.1 hok.2 (.inl ⟨rfl, rfl⟩) (findKey_run hb he hrk hkk.1 w (l := []) rfl rfl) (hk () w trivial (Turn.below (Below.refl _ _)))
          · rename_i n b hkk
            simp only [Bool.and_eq_true] at hkk
            split at h
            · rename_i mine b' l clk hM
              obtain ⟨es, q1, q2, q3⟩ := hS.holds _ _ hM
              split at h
              · rename_i hf
                cases h
                obtain ⟨⟨c1, c2⟩, c3⟩ := hok
                have c3 := imp_elim c3 hg
                subst c3
                exact fin es none hkk.1 hkk.2 c1 c2 (.inr ⟨b', clk, rfl, q1⟩) (findKey_run hb he hrk hkk.1 w q3 hf) (hk () w trivial (Turn.below (Below.refl _ _)))
              · rename_i j v hf
                cases h
                obtain ⟨⟨c1, c2⟩, c3⟩ := hok
                have c3 := imp_elim c3 hg
                subst c3
                exact fin es (some (j, v)) hkk.1 hkk.2 c1 c2 (.inr ⟨b', clk, rfl, q1⟩) (findKey_run hb he hrk hkk.1 w q3 hf) (hk () w trivial (Turn.below (Below.refl _ _)))
              · cases h
            · cases h
          · cases h
        · cases h
      · cases h
    · cases h
  · cases h

/-- a map turned: what stands then -/
theorem map_turn {w : World} {M : MemF} {n b : Nat} {l l' : List (AV × AV × Nat)} {clk clk' : Nat} (hM : M n = some (.mp true b l clk)) {es es' : Array MapEntry} (q1 : w.heap[b]? = some (.map es clk)) (hs : MapKept.Stamped es' clk') (hm : es'.toList.map tripE = l'.map trip) :
    Turn M w { w with heap := w.heap.setIfInBounds b (.map es' clk') } (Mem.get [(n, .mp true b l' clk')]) := by
  obtain ⟨h1, h2⟩ := MapKept.heap_set (o' := .map es' clk') q1
  refine Turn.upd hM rfl rfl rfl (Nat.le_refl _) (by simp) (fun j _ hj => h2 j fun e => hj e.symm) ⟨es', h1, hs, hm⟩ (fun k hk => .inr hk) fun k hk => hk

theorem mput_runs (hb : TblOk P E.tb) (he : EqOk P E.eqs) {kt : TypeId} {rk : TRow} (hrk : E.tb.get kt = some rk) {K X : AV} {b : Nat} {l : List (AV × AV × Nat)} {clk n : Nat} {B : Blk} {M : MemF} {w : World} (hM : M n = some (.mp true b l clk)) (hh : (Blk.mp true b l clk).holds w)
    (h1 : keyTop rk.d = true) (h2 : keyT E.tb 64 kt K = true) (hB : mputV E.tb E.eqs kt K X b l clk = some B) {t e : TypeId} (hu : P.underlying t = some (.map kt e)) :
    ∃ w', (Instr.mapUpdate t (.map (some b)) K.val X.val).run P w = .ok () w' ∧ Turn M w w' (Mem.get [(n, B)]) := by
  obtain ⟨es, q1, q2, q3⟩ := hh
  have q3 : es.toList.map tripE = l.map trip := q3
  unfold mputV at hB
  have base : ∀ (r : Option (Nat × AV)) (w' : World), mfind E.tb E.eqs kt K l 0 = some r → ((match r.map fun p => (p.1, p.2.val) with
      | some (i, _) => do
        let key ← Instr.keyThatStays (((es[i]?).map (·.key)).getD K.val) K.val
        setObj b (.map (es.modify i fun e => { e with key := key, val := X.val }) clk)
      | none => setObj b (.map (es.push { key := K.val, val := X.val, born := clk }) (clk + 1)) : Sem Unit).run P w = .ok () w') → (Instr.mapUpdate t (.map (some b)) K.val X.val).run P w = .ok () w' := by
    intro r w' hf hr
    unfold Instr.mapUpdate
    refine bind_ok (run_underlying hu w) ?_
    refine bind_ok (MapKept.run_getObj_map q1) ?_
    refine bind_ok (keyT_check hb 64 h2 10000 (by omega) _ w) ?_
    refine bind_ok (findKey_run hb he hrk h1 w q3 hf) ?_
    exact hr
  split at hB
  · rename_i hf
    cases hB
    refine ⟨_, base none _ hf (MapKept.run_setObj_map _ q1), map_turn hM q1 (MapKept.stamped_push q2 fun x hx => ?_) ?_⟩
    · obtain ⟨p, hp, hpe⟩ := List.mem_map.1 (show tripE x ∈ l.map trip by rw [← q3]; exact List.mem_map_of_mem hx)
      have : p.1.val = x.key := congrArg (·.1) hpe
      rw [← this]
      exact mfind_none hb he w hf p hp
    · rw [Array.toList_push, List.map_append, List.map_append, q3]; rfl
  · rename_i i v hf
    cases hB
    obtain ⟨_, p, hp, hpv, hpk, _⟩ := mfind_some hf
    rw [Nat.sub_zero] at hp
    have hei : ∃ e, es[i]? = some e ∧ tripE e = trip p := by
      have := congrArg (fun l => l[i]?) q3
      simp only [List.getElem?_map, hp, Option.map_some] at this
      cases hq : es.toList[i]? with
      | none => rw [hq] at this; cases this
      | some e => rw [hq] at this; exact ⟨e, by simpa using hq, by simpa using this⟩
    obtain ⟨e0, he1, he2⟩ := hei
    have hkey : e0.key = K.val := (congrArg (·.1) he2).trans hpk
    refine ⟨_, base (some (i, v)) _ hf ?_, map_turn hM q1 (MapKept.stamped_modify q2 i (fun e => { e with key := K.val, val := X.val }) (fun _ _ => rfl) (fun e _ hee => ?_)) ?_⟩
    · simp only [Option.map_some]
      refine bind_ok (a := K.val) ?_ (MapKept.run_setObj_map _ q1)
      rw [he1]
      simp only [Option.map_some, Option.getD_some, hkey]
      exact keyT_stays h2 w
    · rw [he1] at hee
      cases hee
      exact hkey.symm
    · rw [Array.toList_modify]
      exact mset_map l es.toList i K X q3
  · cases hB

theorem evMapUpd_ok (hb : TblOk P E.tb) (he : EqOk P E.eqs) : EvOk P O w0 (fun M tm g _ op => match op with
    | .mapUpdate t m k x => evMapUpd E M tm g t m k x
    | .insert t m k x => evMapUpd E M tm g t m k x
    | _ => none) := by
  intro N M tm g tag a w o r h0 hok hT hS hg next Q hk
  have key : ∀ t m k x, (execOp a.eval o).run P w = ((Instr.mapUpdate t (a.eval m) (a.eval k) (a.eval x)).run P w).andThen (fun _ w => .ok .skip w) → evMapUpd E M tm g t m k x = some r → o.wp P a w next Q := by
    intro t m k x hex h
    unfold evMapUpd at h
    split at h
    · rename_i n b K X rr hm hkk hx hr
      split at h
      · rename_i kt e hd
        obtain ⟨dd, hu, hv⟩ := (hb.get hr).under
        rw [hd] at hv
        have hu := viewD_map hv ▸ hu
        split at h
        · rename_i rk b' l clk hrk hM
          split at h
          · rename_i B hkt hB
            simp only [Bool.and_eq_true] at hkt
            cases h
            have hok : b' = b := hok
            subst hok
            obtain ⟨w', h1, h2⟩ := mput_runs hb he hrk hM (hS.holds _ _ hM) hkt.1 hkt.2 hB hu
            unfold Oper.wp
            rw [hex, opd_s hT hm (g := none) trivial trivial, opd_s hT hkk (g := none) trivial trivial, opd_s hT hx (g := none) trivial trivial]
            have : (AV.mp n b').val = .map (some b') := rfl
            rw [this, h1]
            exact hk () w' trivial h2
          · cases h
        · cases h
      · cases h
    · cases h
  dsimp only at h0
  split at h0
  · rename_i t m k x ho
    refine key t m k x ?_ h0
    unfold execOp; rw [ho]; simp only [Sem.run_bind, Sem.run_pure]
  · rename_i t m k x ho
    refine key t m k x ?_ h0
    unfold execOp; rw [ho]; simp only [Sem.run_bind, Sem.run_pure]
  · cases h0
end
end Go.Proofs.YtofophjfgalhaaaGreatDoor.V
/-! delete. -/
namespace Go.Proofs.YtofophjfgalhaaaGreatDoor.V
open Go Go.RowKit

theorem eraseIdx_map {l : List (AV × AV × Nat)} {es : List MapEntry} (h : es.map tripE = l.map trip) (i : Nat) : (es.eraseIdx i).map tripE = (l.eraseIdx i).map trip := by
  have key : ∀ {α β : Type} (f : α → β) (l : List α) (i : Nat), (l.eraseIdx i).map f = (l.map f).eraseIdx i := by
    intro α β f l
    induction l with
    | nil => intro i; rfl
    | cons a l ih => intro i; cases i with
      | zero => rfl
      | succ i => simp [ih]
  rw [key, key, h]
section
variable {P : Program} {E : Env} {O : Nat → Prop} {w0 : World}
theorem evMapDel_ok (hb : TblOk P E.tb) (he : EqOk P E.eqs) : EvOk P O w0 (fun M tm g _ op => match op with
    | .call { callee := .builtin .delete, args, argTypes } => evMapDel E M tm g args argTypes
    | _ => none) := by
  intro N M tm g tag a w o r h0 hok hT hS hg next Q hk
  dsimp only at h0
  split at h0
  · rename_i args tys ho
    unfold evMapDel at h0
    split at h0
    · rename_i m k t ts hargs htys
      split at h0
      · rename_i n b K rr hm hkk hr
        split at h0
        · rename_i kt e hd
          obtain ⟨dd, hu, hv⟩ := (hb.get hr).under
          rw [hd] at hv
          have hu := viewD_map hv ▸ hu
          split at h0
          · rename_i rk b' l clk hrk hM
            split at h0
            · rename_i B hkt hB
              simp only [Bool.and_eq_true] at hkt
              cases h0
              have hok : b' = b := hok
              subst hok
              have ha1 : args = #[m, k] := by apply Array.ext'; rw [hargs]
              have ht1 : tys = (t :: ts).toArray := by apply Array.ext'; rw [htys]
              subst ha1 ht1
              obtain ⟨es, q1, q2, q3⟩ := hS.holds _ _ hM
              have q3 : es.toList.map tripE = l.map trip := q3
              have fin : ∀ w' B', B = B' → (Builtin.delete_ (t :: ts).toArray o.type #[.map (some b'), K.val]).run P w = .ok (.tuple #[]) w' → Turn M w w' (Mem.get [(n, B')]) → o.wp P a w next Q := by
                intro w' B' hBB hrun hturn
                subst hBB
                unfold Oper.wp
                have hex : (execOp a.eval o).run P w = .ok (.value (.tuple #[])) w' := by
                  unfold execOp
                  rw [ho]
                  simp only [Sem.run_bind, resolve, List.map_toArray, List.map_cons, List.map_nil, opd_s hT hm (g := none) trivial trivial, opd_s hT hkk (g := none) trivial trivial, Sem.run_pure, Result.andThen_ok, invoke, builtin]
                  have : (AV.mp n b').val = .map (some b') := rfl
                  rw [this, hrun]; rfl
                rw [hex]
                exact hk () w' trivial hturn
              have base : ∀ (r : Option (Nat × AV)) (w' : World), mfind E.tb E.eqs kt K l 0 = some r → ((match r.map fun p => (p.1, p.2.val) with
                  | some (i, _) => setObj b' (.map (es.eraseIdxIfInBounds i) clk)
                  | none => setObj b' (.map es clk) : Sem Unit).run P w = .ok () w') → (Builtin.delete_ (t :: ts).toArray o.type #[.map (some b'), K.val]).run P w = .ok (.tuple #[]) w' := by
                intro r w' hf hr
                unfold Builtin.delete_
                simp only [List.getElem?_toArray, List.getElem?_cons_zero, List.getElem?_cons_succ]
                refine bind_ok (run_underlying hu w) ?_
                refine bind_ok (MapKept.run_getObj_map q1) ?_
                refine bind_ok (keyT_check hb 64 hkt.2 10000 (by omega) _ w) ?_
                refine bind_ok (findKey_run hb he hrk hkt.1 w q3 hf) ?_
                cases r with
                | none => simp only [Option.map_none] at hr ⊢; rw [Sem.run_bind, hr]; rfl
                | some p => simp only [Option.map_some] at hr ⊢; rw [Sem.run_bind, hr]; rfl
              unfold mdelV at hB
              split at hB
              · rename_i hf
                cases hB
                exact fin _ _ rfl (base none _ hf (MapKept.run_setObj_map _ q1)) (map_turn hM q1 q2 q3)
              · rename_i i v hf
                cases hB
                obtain ⟨_, p, hp, _⟩ := mfind_some hf
                have hil : i < es.size := by
                  have h1 : es.toList.length = l.length := by have := congrArg List.length q3; simpa using this
                  have h2 := (List.getElem?_eq_some_iff.1 hp).1
                  rw [Array.length_toList] at h1
                  omega
                refine fin _ _ rfl (base (some (i, v)) _ hf (MapKept.run_setObj_map _ q1)) (map_turn hM q1 (MapKept.stamped_erase q2 i) ?_)
                unfold Array.eraseIdxIfInBounds
                rw [dif_pos hil, Array.toList_eraseIdx]
                exact eraseIdx_map q3 i
              · cases hB
            · cases h0
          · cases h0
        · cases h0
      · cases h0
    · cases h0
  · cases h0
end
end Go.Proofs.YtofophjfgalhaaaGreatDoor.V
