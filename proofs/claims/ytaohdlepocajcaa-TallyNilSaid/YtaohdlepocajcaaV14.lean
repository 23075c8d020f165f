import Derived.Test.YtaohdlepocajcaaV13
import Derived.Laws.AppendOwn
/-! append. -/
namespace Go.Proofs.Ytaohdlepocajcaa.V
open Go Go.RowKit

def fapp (n : Nat) (f src : Nat → AV) : Nat → AV := fun i => match Nat.blt i n with
  | true => f i
  | false => src (i - n)
theorem fapp_lt {n i : Nat} {f src : Nat → AV} (h : i < n) : fapp n f src i = f i := by
  unfold fapp
  rw [show Nat.blt i n = true by rw [Nat.blt_eq]; exact h]
theorem fapp_ge {n i : Nat} {f src : Nat → AV} (h : n ≤ i) : fapp n f src i = src (i - n) := by
  unfold fapp
  have : Nat.blt i n = false := by
    cases hb : Nat.blt i n with
    | true => have := blt_lt hb; omega
    | false => rfl
  rw [this]

def strAt (s : ByteArray) (i : Nat) : AV := .v (.int .u8 (s.data.toList.getD i 0).toNat)
/-- what is appended -/
def srcOf (M : MemF) (size : Nat) (d : TD) (Y : AV) : Option (Prop × Nat × (Nat → AV)) := match d, Y with
  | .str, .v (.string s) => some (size = 1, s.size, strAt s)
  | .sl _, Y => match seqOf M Y with
    | some (c, es, m, f) => some (c ∧ (m ≠ 0 → es = size), m, f)
    | none => none
  | _, _ => none
/-- to what: the tag, how many are there, which -/
def dstOf (M : MemF) (tag size e : Nat) (X : AV) : Option (Prop × Nat × Nat × (Nat → AV)) := match X with
  | .gs n _ a es i0 len cap => match M n with
    | some (.vrow a' T es' len' f cap') => some ((a = ownB a' ∧ es = size ∧ es' = size ∧ i0 = 0 ∧ cap = cap') ∧ len ≤ len' ∧ T = e, n, len, f)
    | _ => none
  | .v (.slice none n c) => some (n = 0 ∧ c = 0, tag, 0, fun _ => .nil)
  | _ => none
def evAppend (E : Env) (M : MemF) (tm : TmF) (g : Option Bool) (tag : Nat) : Op → Option Res
  | .call { callee := .builtin .append, args, argTypes } => match g, args.toList, argTypes.toList with
    | none, [x, y], [t, t2] => match opd tm x, opd tm y, E.tb.get t, E.tb.get t2 with
      | some (none, X), some (none, Y), some r, some r2 => match r.d with
        | .sl e => match E.tb.get e with
          | some re => match re.zero.fitV && Nat.beq re.zero.size re.size && Nat.blt 0 re.bytes, srcOf M re.size r2.d Y, dstOf M tag re.size e X with
            | true, some (q1, m, src), some (q2, n, len, f) => some ⟨Option Nat × Nat, q1 ∧ q2 ∧ (len + m) * re.bytes ≤ 140737488355328, fun x => len + m ≤ x.2, fun x => .gs n 0 (ownB x.1) re.size 0 (len + m) x.2, [n], fun x => [.vrow x.1 e re.size (len + m) (fapp len f src) x.2]⟩
            | _, _, _ => none
          | none => none
        | _ => none
      | _, _, _, _ => none
    | _, _, _ => none
  | _ => none

theorem strAt_cells (s : ByteArray) : byteCells s = seqCells (strAt s) s.size := by
  have hl : (seqCells (strAt s) s.size).length = s.size * 1 := seqCells_length (es := 1) fun _ _ => rfl
  apply List.ext_getElem?
  intro i
  by_cases hi : i < s.size
  · have := seqCells_get (f := strAt s) (es := 1) (n := s.size) (fun _ _ => rfl) i 0 hi Nat.zero_lt_one
    rw [Nat.mul_one, Nat.add_zero] at this
    rw [this]
    unfold byteCells strAt
    have hi' : i < s.data.toList.length := hi
    rw [List.getElem?_map, List.getElem?_eq_getElem hi', List.getD_eq_getElem?_getD, List.getElem?_eq_getElem hi']
    rfl
  · rw [List.getElem?_eq_none (by rw [byteCells_length]; omega), List.getElem?_eq_none (by omega)]

theorem srcOf_spec {P : Program} {O : Nat → Prop} {w0 w : World} {M : MemF} (hS : Sat O w0 M w) {t2 : TypeId} {r2 : TRow} (hr : RowOk P t2 r2) {size : Nat} {Y : AV} {q : Prop} {m : Nat} {src : Nat → AV} (h : srcOf M size r2.d Y = some (q, m, src)) (hq : q) :
    Src P size t2 Y.val m (seqCells src m) w ∧ ∀ i, i < m → (src i).size = size ∧ (src i).one = true := by
  obtain ⟨d, hu, hv⟩ := hr.under
  unfold srcOf at h
  split at h
  · rename_i s hd
    cases h
    rw [hd] at hv
    have : d = .string := by cases d <;> simp [viewD] at hv; rfl
    subst this hq
    refine ⟨?_, fun i _ => ⟨rfl, rfl⟩⟩
    have := Src.ofString (P := P) w (tx := t2) hu s
    rw [strAt_cells] at this
    exact this
  · rename_i e' Y' hd
    split at h
    · rename_i c es m' f hs
      cases h
      rw [hd] at hv
      rw [viewD_sl hv] at hu
      obtain ⟨hc, hsz⟩ := hq
      obtain ⟨base, cap, hval, hcase⟩ := seqOf_spec hS hs hc
      rw [hval]
      rcases Nat.eq_zero_or_pos m with h0 | h0
      · subst h0
        refine ⟨?_, fun i hi => by omega⟩
        cases base with
        | none => exact Src.ofNil w hu cap
        | some a => exact Src.ofSlice w hu _ 0 cap [] (by simp) (fun j u hj => by simp at hj) (fun u hu => by cases hu)
      · obtain ⟨b, o, rfl, hR⟩ := hcase (by omega)
        · have hsz := hsz (by omega)
          subst hsz
          exact ⟨Src.ofSlice w hu _ m cap _ (seqCells_length fun i hi => (hR i hi).1) hR.cells (seqCells_one fun i hi => (hR i hi).2.1), fun i hi => ⟨(hR i hi).1, (hR i hi).2.1⟩⟩
    · cases h
  · cases h

section
variable {P : Program} {O : Nat → Prop} {w0 w : World} {M : MemF}

/-- the new row -/
theorem grown_row {e size cap len m : Nat} {f src : Nat → AV} {z : AV} (hz : z.size = size) (hzf : z.fitV = true) (hcap : len + m ≤ cap) (w1 : World) (hf : ∀ i, i < len → (f i).size = size ∧ (f i).one = true)
    (hs : ∀ i, i < m → (src i).size = size ∧ (src i).one = true) :
    RowHolds (w1.alloc (.cells ((seqCells f len ++ seqCells src m).toArray ++ Builtin.zeroCells z.val.cells (cap - (len + m))) e)) w1.heap.size e size (len + m) (fapp len f src) cap := by
  have l1 := seqCells_length (f := f) (es := size) (n := len) fun i hi => (hf i hi).1
  have l2 := seqCells_length (f := src) (es := size) (n := m) fun i hi => (hs i hi).1
  refine ⟨(seqCells f len ++ seqCells src m).toArray ++ Builtin.zeroCells z.val.cells (cap - (len + m)), ?_, ?_, hcap, fun i hi => ?_⟩
  · show (w1.heap.push _)[w1.heap.size]? = _
    simp
  · rw [Array.size_append, size_zeroCells, AV.valCells hzf]
    simp only [List.size_toArray, List.length_append, l1, l2, AV.size_cells, hz]
    rw [← Nat.add_mul, ← Nat.add_mul]
    congr 1; omega
  · rcases Nat.lt_or_ge i len with hil | hil
    · rw [fapp_lt hil]
      refine ⟨(hf i hil).1, (hf i hil).2, fun k hk => ?_⟩
      have h1 : i * size + k < len * size := by
        have : (i + 1) * size ≤ len * size := Nat.mul_le_mul_right _ hil
        rw [Nat.succ_mul] at this; omega
      rw [Array.getElem?_append_left (by simp only [List.size_toArray, List.length_append, l1]; omega), List.getElem?_toArray, List.getElem?_append_left (by omega)]
      exact seqCells_get (fun i hi => (hf i hi).1) i k hil hk
    · rw [fapp_ge hil]
      have him : i - len < m := by omega
      refine ⟨(hs _ him).1, (hs _ him).2, fun k hk => ?_⟩
      have h1 : (i - len) * size + k < m * size := by
        have : (i - len + 1) * size ≤ m * size := Nat.mul_le_mul_right _ him
        rw [Nat.succ_mul] at this; omega
      have h2 : i * size = len * size + (i - len) * size := by rw [← Nat.add_mul]; congr 1; omega
      rw [Array.getElem?_append_left (by simp only [List.size_toArray, List.length_append, l1, l2]; omega), List.getElem?_toArray, List.getElem?_append_right (by omega), l1, show i * size + k - len * size = (i - len) * size + k by omega]
      exact seqCells_get (fun i hi => (hs i hi).1) _ k him hk

theorem append_room {t t2 ty e : TypeId} {r re : TRow} (hr : RowOk P t r) (hd : r.d = .sl e) (hre : RowOk P e re) {b T len len' cap m : Nat} {f src : Nat → AV} (hrow : RowHolds w b T re.size len' f cap) (hlen : len ≤ len')
    {Y : AV} (hs : Src P re.size t2 Y.val m (seqCells src m) w) (hsz : ∀ i, i < m → (src i).size = re.size ∧ (src i).one = true) (hroom : len + m ≤ cap) :
    ∃ w', (Builtin.append_ #[t, t2] ty #[.slice (some ⟨b, 0, none⟩) len cap, Y.val]).run P w = .ok (.slice (some ⟨b, 0, none⟩) (len + m) cap) w' ∧ w'.os = w.os ∧ w'.tape = w.tape ∧ w'.output = w.output ∧ w'.heap.size = w.heap.size ∧ (∀ k, k ≠ b → w'.heap[k]? = w.heap[k]?) ∧ RowHolds w' b T re.size (len + m) (fapp len f src) cap := by
  obtain ⟨d, hu, hv⟩ := hr.under
  rw [hd] at hv
  rw [viewD_sl hv] at hu
  obtain ⟨i, hi, hi1, hi2, hi3⟩ := hre.info
  obtain ⟨cs, hcs, hcz, hlc, hel⟩ := id hrow
  have l2 := seqCells_length (f := src) (es := re.size) (n := m) fun i hi => (hsz i hi).1
  have hfit : len * re.size + m * re.size ≤ cap * re.size := by
    rw [← Nat.add_mul]; exact Nat.mul_le_mul_right _ hroom
  obtain ⟨hbound, hnew⟩ := row_set (f' := fapp len f src) (len' := len + m) (o := len * re.size) (vs := seqCells src m) hrow (by omega) hroom (fun i hi => by
    rcases Nat.lt_or_ge i len with hil | hil
    · rw [fapp_lt hil]
      obtain ⟨g1, g2, g3⟩ := hel i (by omega)
      refine ⟨g1, g2, fun k hk => ?_⟩
      have : (i + 1) * re.size ≤ len * re.size := Nat.mul_le_mul_right _ hil
      rw [Nat.succ_mul] at this
      rw [if_neg (by omega)]
    · rw [fapp_ge hil]
      have him : i - len < m := by omega
      refine ⟨(hsz _ him).1, (hsz _ him).2, fun k hk => ?_⟩
      have h1 : (i - len) * re.size + k < m * re.size := by
        have : (i - len + 1) * re.size ≤ m * re.size := Nat.mul_le_mul_right _ him
        rw [Nat.succ_mul] at this; omega
      have h2 : i * re.size = len * re.size + (i - len) * re.size := by rw [← Nat.add_mul]; congr 1; omega
      rw [if_pos (by omega), show i * re.size + k - len * re.size = (i - len) * re.size + k by omega]
      exact (seqCells_get (fun i hi => (hsz i hi).1) _ k him hk).symm) (fun i h1 h2 k hk => by
      have h3 : len * re.size ≤ i * re.size := Nat.mul_le_mul_right _ (by omega)
      have h4 : (i + 1) * re.size ≤ (len + m) * re.size := Nat.mul_le_mul_right _ (by omega)
      rw [Nat.succ_mul, Nat.add_mul] at h4
      omega) hcs
  refine ⟨w.setRow b (cs.toList.take (len * re.size) ++ seqCells src m ++ cs.toList.drop (len * re.size + (seqCells src m).length)).toArray, ?_, rfl, rfl, rfl, by simp, fun k hk => setRow_other w b k _ hk, hnew⟩
  have hst := run_storeCells_at (P := P) b (len * re.size) T (seqCells src m) 0 cs w hcs (by omega) hs.one
  simp only [Nat.add_zero] at hst
  have hcl : (Builtin.firstCells re.size m Y.val).run P w = .ok (seqCells src m).toArray w := hs.cells
  rcases hs.kind with ⟨e', hk⟩ | hk <;> simp [Builtin.append_, run_underlying hu, run_underlying hk, sizeOf, typeInfo, hi, hi1, hs.len, hroom, hcl, Addr.add_none, hst]

theorem append_grow {t t2 ty e : TypeId} {r re : TRow} (hr : RowOk P t r) (hd : r.d = .sl e) (hre : RowOk P e re) (hzf : re.zero.fitV = true) (hzs : re.zero.size = re.size) (hby : 0 < re.bytes) {base : Option Addr} {len cap m : Nat} {f src : Nat → AV}
    (hold : (len = 0 ∨ ∃ b o, base = some ⟨b, o, none⟩ ∧ Reads w b o re.size len f)) {Y : AV} (hs : Src P re.size t2 Y.val m (seqCells src m) w) (hsz : ∀ i, i < m → (src i).size = re.size ∧ (src i).one = true)
    (hno : cap < len + m) (hfits : (len + m) * re.bytes ≤ 140737488355328) :
    ∃ w' b cap', (Builtin.append_ #[t, t2] ty #[.slice base len cap, Y.val]).run P w = .ok (.slice (some ⟨b, 0, none⟩) (len + m) cap') w' ∧ len + m ≤ cap' ∧ w.heap.size ≤ b ∧ Below w.heap.size w w' ∧ RowHolds w' b e re.size (len + m) (fapp len f src) cap' := by
  obtain ⟨d, hu, hv⟩ := hr.under
  rw [hd] at hv
  rw [viewD_sl hv] at hu
  obtain ⟨i, hi, hi1, hi2, hi3⟩ := hre.info
  have hf : ∀ i, i < len → (f i).size = re.size ∧ (f i).one = true := by
    rcases hold with h0 | ⟨b, o, _, hR⟩
    · intro i hi; omega
    · exact fun i hi => ⟨(hR i hi).1, (hR i hi).2.1⟩
  have holdc : (Builtin.firstCells i.size len (.slice base len cap)).run P w.drew = .ok (seqCells f len).toArray w.drew := by
    rcases hold with h0 | ⟨b, o, rfl, hR⟩
    · subst h0
      cases base with
      | none => exact run_firstCells_none w.drew i.size 0 0 cap
      | some a => exact run_firstCells_some w.drew i.size 0 a 0 cap [] (by simp) (fun j v hj => by simp at hj)
    · exact run_firstCells_some w.drew i.size len _ len cap _ (by rw [hi1]; exact seqCells_length fun i hi => (hR i hi).1) (fun j v hj => hR.cells j v hj)
  have hneed : len + m ≤ 140737488355328 := Nat.le_trans (Nat.le_mul_of_pos_right _ hby) hfits
  have hcapb : Builtin.nextslicecap (len + m) cap * i.bytes ≤ 281474976710656 := by
    have h1 := nextslicecap_le (need := len + m) (old := cap) hno
    have h2 : Builtin.nextslicecap (len + m) cap * re.bytes ≤ 2 * (len + m) * re.bytes := Nat.mul_le_mul_right _ h1
    rw [Nat.mul_assoc] at h2
    rw [hi2]; omega
  have hge := grownCap_ge w (len + m) cap e
  have := run_append_grow_src (P := P) w t t2 ty e i re.zero.val hu hi hi3 base len cap _ holdc Y.val m (seqCells src m) (by rw [hi1]; exact hs) hno (by omega) hcapb
  refine ⟨_, w.heap.size, grownCap w (len + m) cap e, this, hge, Nat.le_refl _, ?_, ?_⟩
  · exact (Below.refl _ _).drew.alloc (Nat.le_refl _) _
  · exact grown_row hzs hzf hge w.drew hf hsz

theorem evAppend_ok {E : Env} (hb : TblOk P E.tb) : EvOk P O w0 (evAppend E) := by
  intro N M tm g tag a w o r h hok hT hS hg next Q hk
  unfold evAppend at h
  split at h
  · rename_i args tys ho
    split at h
    · rename_i x y t t2 hargs htys
      split at h
      · rename_i X Y r0 r2 hx hy hr hr2
        split at h
        · rename_i e hd
          split at h
          · rename_i re hre
            split at h
            · rename_i q1 m src q2 n len f hfit hsrc hdst
              cases h
              obtain ⟨hq1, hq2, hfits⟩ := hok
              simp only [Bool.and_eq_true] at hfit
              obtain ⟨⟨hzf, hzs⟩, hby⟩ := hfit
              have hzs := kindB hzs
              have hby := blt_lt hby
              obtain ⟨hs, hsz⟩ := srcOf_spec hS (hb.get hr2) hsrc hq1
              have ex : a.eval x = X.val := opd_sound hT hx (g := none) trivial trivial
              have ey : a.eval y = Y.val := opd_sound hT hy (g := none) trivial trivial
              have hargs : args = #[x, y] := by apply Array.ext'; rw [hargs]
              have htys : tys = #[t, t2] := by apply Array.ext'; rw [htys]
              subst hargs htys
              have fin : ∀ v w', (Builtin.append_ #[t, t2] o.type #[X.val, Y.val]).run P w = .ok v w' → next (a.put o.dst v) w' → o.wp P a w next Q := fun v w' hrun hn => by
                unfold Oper.wp
                have hex : (execOp a.eval o).run P w = .ok (.value v) w' := by
                  unfold execOp
                  rw [ho]
                  simp only [Sem.run_bind, resolve, List.map_toArray, List.map_cons, List.map_nil, ex, ey, Sem.run_pure, Result.andThen_ok, invoke, builtin]
                  rw [hrun]; rfl
                rw [hex]
                exact hn
              have none_room : ∀ (base : Option Addr), len = 0 → m = 0 → base = none → ∀ X0, X0 = Value.slice base 0 0 → (Builtin.append_ #[t, t2] o.type #[X0, Y.val]).run P w = .ok (.slice none 0 0) w := by
                intro base h1 h2 h3 X0 h4
                subst h3 h4 h2
                obtain ⟨d, hu, hv⟩ := (hb.get hr).under
                rw [hd] at hv
                rw [viewD_sl hv] at hu
                obtain ⟨i, hi, hi1, hi2, hi3⟩ := (hb.get hre).info
                have hcl : (Builtin.firstCells re.size 0 Y.val).run P w = .ok #[] w := hs.cells
                rcases hs.kind with ⟨e', hk⟩ | hk <;> simp [Builtin.append_, run_underlying hu, run_underlying hk, sizeOf, typeInfo, hi, hi1, hs.len, hcl]
              unfold dstOf at hdst
              split at hdst
              · rename_i n' ix aa es i0 len0 cap
                split at hdst
                · rename_i a' T es' len' f' cap' hM
                  cases hdst
                  obtain ⟨⟨rfl, rfl, rfl, rfl, rfl⟩, hle, rfl⟩ := hq2
                  have hB := hS.holds _ _ hM
                  cases a' with
                  | none =>
                    obtain ⟨z1, z2⟩ := hB
                    have hl0 : len = 0 := by omega
                    subst z2 hl0
                    rcases Nat.eq_zero_or_pos m with hm | hm
                    · subst hm
                      refine fin _ w (none_room none rfl rfl rfl _ rfl) (hk (none, 0) w (Nat.le_refl _) ?_)
                      exact Turn.upd hM rfl rfl rfl (Nat.le_refl _) (fun _ _ _ => rfl) ⟨rfl, rfl⟩ (fun b hb => by cases hb) fun k hk => hk
                    · obtain ⟨w', b, cap', h1, h2, h3, h4, h5⟩ := append_grow (P := P) (t2 := t2) (ty := o.type) (base := none) (cap := 0) (f := f) (hb.get hr) hd (hb.get hre) hzf hzs hby (.inl rfl) hs hsz (by omega) hfits
                      refine fin _ w' h1 ?_
                      have := hk (some b, cap') w' h2 (Turn.upd hM h4.os h4.tape h4.output h4.size (fun j hj _ => h4.block j hj) h5 (fun k hk => by cases hk; exact .inl h3) fun k hk => hk)
                      simpa [gs_val, ownB] using this
                  | some b0 =>
                    have hrow : RowHolds w b0 T re.size len' f cap := hB
                    have hval : (AV.gs n ix (ownB (some b0)) re.size 0 len cap).val = .slice (some ⟨b0, 0, none⟩) len cap := by simp [gs_val, ownB]
                    rw [hval] at fin
                    rcases Nat.lt_or_ge cap (len + m) with hno | hroom
                    · obtain ⟨w', b, cap', h1, h2, h3, h4, h5⟩ := append_grow (P := P) (t2 := t2) (ty := o.type) (base := some ⟨b0, 0, none⟩) (cap := cap) (f := f) (hb.get hr) hd (hb.get hre) hzf hzs hby (.inr ⟨b0, 0, rfl, fun i hi => hrow.reads i (by omega)⟩) hs hsz hno hfits
                      refine fin _ w' h1 ?_
                      have := hk (some b, cap') w' h2 (Turn.upd hM h4.os h4.tape h4.output h4.size (fun j hj _ => h4.block j hj) h5 (fun k hk => by cases hk; exact .inl h3) fun k hk => hk)
                      simpa [gs_val, ownB] using this
                    · obtain ⟨w', h1, h2, h3, h4, h5, h6, h7⟩ := append_room (P := P) (t2 := t2) (ty := o.type) (hb.get hr) hd (hb.get hre) hrow hle hs hsz hroom
                      refine fin _ w' h1 ?_
                      have := hk (some b0, cap) w' hroom (Turn.upd hM h2 h3 h4 (by omega) (fun j _ hj => h6 j fun e => hj (by rw [e]; rfl)) h7 (fun k hk => .inr hk) fun k hk => hk)
                      simpa [gs_val, ownB] using this
                · cases hdst
              · rename_i n' c'
                cases hdst
                obtain ⟨rfl, rfl⟩ := hq2
                rcases Nat.eq_zero_or_pos m with hm | hm
                · subst hm
                  refine fin _ w (none_room none rfl rfl rfl _ rfl) (hk (none, 0) w (Nat.le_refl _) ?_)
                  exact Turn.new (Below.refl _ _) ⟨rfl, rfl⟩ (fun b hb => by cases hb) fun k hk => hk
                · obtain ⟨w', b, cap', h1, h2, h3, h4, h5⟩ := append_grow (P := P) (t2 := t2) (ty := o.type) (base := none) (cap := 0) (len := 0) (f := fun _ => .nil) (hb.get hr) hd (hb.get hre) hzf hzs hby (.inl rfl) hs hsz (by omega) hfits
                  refine fin _ w' h1 ?_
                  have := hk (some b, cap') w' h2 (Turn.new h4 h5 (fun k hk => by cases hk; exact h3) fun k hk => hk)
                  simpa [gs_val, ownB] using this
              · cases hdst
            · cases h
          · cases h
        · cases h
      · cases h
    · cases h
  · cases h
end

end Go.Proofs.Ytaohdlepocajcaa.V
