import Derived.Test.YtofophjfgalhaaaGreatDoorMisdeedPoolsW03
import Derived.Deep.AppendSrc
import Derived.Laws.AppendOwn
import Derived.WideKeyRuns
import GoSem.Builtin.Delete
set_option linter.unusedVariables false
set_option linter.unusedSimpArgs false
set_option maxRecDepth 100000
set_option maxHeartbeats 8000000
namespace Go.Proofs.YtofophjfgalhaaaGreatDoor.V
open Go Go.RowKit
def storeE (p : Pt) (size : Nat) (av el : AV) : Option (Prop × AV) := match p.lf with
 | false => match AV.upd p.off size av el with
  | some e => some (p.j = 0, e)
  | none => none
 | true => match el.leaf p.off, av with
  | some (k, m, l), .v (.int k' x) => match kindEq k k', AV.upd p.off m (.ints k m (lset m l p.j x)) el with
   | true, some e => some (p.j < m, e)
   | _, _ => none
  | _, _ => none
def fset (len idx : Nat) (f : Nat → AV) (e : AV) : Nat → AV := match Nat.beq len 1 with
 | true => fun _ => e
 | false => fun i => if i = idx then e else f i
def storeV (M : MemF) (r : TRow) (p : Pt) (av : AV) : Option (Prop × Blk) := match av.isSize r.size && av.fitV with
 | true => match M p.n with
  | some (.row b T es len f cap) => match storeE p r.size av (f p.idx) with
   | some (q, e) => some ((p.b = b ∧ p.o0 = 0 ∧ p.es = es ∧ p.idx < len) ∧ q, .row b T es len (fset len p.idx f e) cap)
   | none => none
  | some (.vrow a T es len f cap) => match storeE p r.size av (f p.idx) with
   | some (q, e) => some (((p.b, p.o0) = gsB (ownB a) ∧ p.es = es ∧ p.idx < len) ∧ q, .vrow a T es len (fset len p.idx f e) cap)
   | none => none
  | _ => none
 | false => none
def evStore (E : Env) (M : MemF) (tm : TmF) (g : Option Bool) : Op → Option Res
 | .store t x y => match g, opd tm x, opd tm y, E.tb.get t with
  | none, some (none, .ptr p), some (none, av), some r => match storeV M r p av with
   | some (q, B) => some ⟨Unit, q, fun _ => True, fun _ => .v undef, [p.n], fun _ => [B]⟩
   | none => none
  | _, _, _, _ => none
 | _ => none
theorem upd_at {off n : Nat} {x a b : List Value} (h : Upd off n x a b) (hx : x.length = n) (k : Nat) : b[k]? = if off ≤ k ∧ k < off + n then x[k - off]? else a[k]? := by
 obtain ⟨h1, h2⟩ := h
 rw [h2, List.append_assoc, List.getElem?_append, List.length_take, Nat.min_eq_left (by omega)]
 by_cases h3 : k < off
 ·
  rw [if_pos h3, if_neg (by omega), List.getElem?_take_of_lt h3]
 ·
  rw [if_neg h3, List.getElem?_append]
  by_cases h4 : k - off < x.length
  ·
   rw [if_pos h4, if_pos (by omega)]
  ·
   rw [if_neg h4, if_neg (by omega), List.getElem?_drop]
   congr 1; omega
theorem upd_size {off n : Nat} {x a b : AV} (h : AV.upd off n x a = some b) (hx : x.size = n) : b.size = a.size := by
 obtain ⟨⟨h1, h2⟩, _⟩ := AV.upd_spec a h hx
 have := congrArg List.length h2
 simp only [List.length_append, List.length_take, List.length_drop, AV.size_cells] at this
 rw [AV.size_cells] at h1
 omega
theorem row_set {w : World} {b T es len cap : Nat} {f f' : Nat → AV} {len' o : Nat} {vs : List Value} (h : RowHolds w b T es len f cap) (ho : o + vs.length ≤ cap * es) (hl : len' ≤ cap)
  (hf : ∀ i, i < len' → (f' i).size = es ∧ (f' i).one = true ∧ ∀ k, k < es → (f' i).cells[k]? = if o ≤ i * es + k ∧ i * es + k < o + vs.length then vs[i * es + k - o]? else (f i).cells[k]?)
  (hin : ∀ i, len ≤ i → i < len' → ∀ k, k < es → o ≤ i * es + k ∧ i * es + k < o + vs.length) {cs : Array Value} (hcs : w.heap[b]? = some (.cells cs T (0, 0))) :
  o + vs.length ≤ cs.size ∧ RowHolds (w.setRow b (cs.toList.take o ++ vs ++ cs.toList.drop (o + vs.length)).toArray) b T es len' f' cap := by
 obtain ⟨c, h1, h2, h3, h4⟩ := h
 rw [hcs] at h1
 cases h1
 refine ⟨by omega, _, setRow_heap w b cs _ T (0, 0) hcs, ?_, hl, fun i hi => ?_⟩
 ·
  simp only [List.size_toArray, List.length_append, List.length_take, List.length_drop, Array.length_toList]
  omega
 ·
  obtain ⟨g1, g2, g3⟩ := hf i hi
  refine ⟨g1, g2, fun k hk => ?_⟩
  rw [g3 k hk]
  have := upd_at (off := o) (n := vs.length) (x := vs) (a := cs.toList) (b := cs.toList.take o ++ vs ++ cs.toList.drop (o + vs.length)) ⟨by simp; omega, rfl⟩ rfl (i * es + k)
  rw [List.getElem?_toArray, this]
  split
  ·
   rfl
  ·
   rename_i hno
   rcases Nat.lt_or_ge i len with hil | hil
   ·
    rw [Array.getElem?_toList]
    exact (h4 i hil).2.2 k hk
   ·
    exact absurd (hin i hil hi k hk) hno
theorem storeE_spec {p : Pt} {size : Nat} {av el e : AV} {q : Prop} (h : storeE p size av el = some (q, e)) (hq : q) (hsz : av.size = size) (hfv : av.fitV = true) (ho : el.one = true) :
  p.off + p.j + av.cells.length ≤ el.size ∧ e.size = el.size ∧ e.one = true ∧ ∀ k, k < el.size → e.cells[k]? = if p.off + p.j ≤ k ∧ k < p.off + p.j + av.cells.length then av.cells[k - (p.off + p.j)]? else el.cells[k]? := by
 unfold storeE at h
 split at h
 ·
  split at h
  ·
   rename_i e' hu
   cases h
   have hj : p.j = 0 := hq
   obtain ⟨h1, h2⟩ := AV.upd_spec _ hu hsz
   have h3 := h1.1
   rw [AV.size_cells] at h3
   refine ⟨by rw [AV.size_cells, hsz, hj]; exact h3, upd_size hu hsz, h2 ho (fitV_one hfv), fun k _ => ?_⟩
   rw [AV.size_cells, hsz, hj, Nat.add_zero]
   exact upd_at h1 (by rw [AV.size_cells, hsz]) k
  ·
   cases h
 ·
  split at h
  ·
   rename_i k m l k' xx hl
   split at h
   ·
    rename_i e' hk hu
    cases h
    have hj : p.j < m := hq
    have hk := kindEq_eq hk
    subst hk
    have hpl := AV.leaf_spec _ hl
    obtain ⟨h1, h2⟩ := AV.upd_spec _ hu (show (AV.ints k m (lset m l p.j xx)).size = m from rfl)
    have h3 := h1.1
    rw [AV.size_cells] at h3
    refine ⟨by show p.off + p.j + 1 ≤ el.size; omega, upd_size hu rfl, h2 ho rfl, fun i hi => ?_⟩
    rw [upd_at h1 (by rw [AV.size_cells]; rfl) i]
    show _ = if p.off + p.j ≤ i ∧ i < p.off + p.j + 1 then [Value.int k xx][i - (p.off + p.j)]? else _
    by_cases hin : p.off ≤ i ∧ i < p.off + m
    ·
     rw [if_pos hin, ints_get k m _ (by omega), lset_get m l p.j xx (by omega)]
     by_cases hij : i = p.off + p.j
     ·
      subst hij
      rw [if_pos (by omega), if_pos (by omega)]
      simp
     ·
      rw [if_neg (by omega), if_neg (by omega)]
      have := getElem?_part hpl (k := i - p.off) (by omega)
      rw [ints_get k m l (by omega), show p.off + (i - p.off) = i by omega] at this
      exact this.symm
    ·
     rw [if_neg hin, if_neg (by omega)]
   ·
    cases h
  ·
   cases h
theorem fset_at {len idx : Nat} {f : Nat → AV} {e : AV} {i : Nat} (hi : i < len) (hx : idx < len) : fset len idx f e i = if i = idx then e else f i := by
 unfold fset
 cases h : Nat.beq len 1 with
 | true =>
  have := kindB h
  rw [if_pos (by omega)]
 | false => rfl
theorem store_run {P : Program} {t : TypeId} {r : TRow} (hr : RowOk P t r) {w : World} {b T es len cap : Nat} {f : Nat → AV} (h : RowHolds w b T es len f cap) {p : Pt} (hb : p.b = b) (h0 : p.o0 = 0) (hes : p.es = es) (hidx : p.idx < len)
  {av e : AV} {q : Prop} (hE : storeE p r.size av (f p.idx) = some (q, e)) (hq : q) (hsz : av.size = r.size) (hfv : av.fitV = true) :
  ∃ w', (storeVar t p.addr av.val).run P w = .ok () w' ∧ w'.os = w.os ∧ w'.tape = w.tape ∧ w'.output = w.output ∧ (w.drawn ≤ w'.drawn ∧ w'.heap.size = w.heap.size) ∧ (∀ k, k ≠ b → w'.heap[k]? = w.heap[k]?) ∧ RowHolds w' b T es len (fset len p.idx f e) cap := by
 obtain ⟨cs, hcs, hcz, hlc, hel⟩ := id h
 obtain ⟨h1, h2, h3, h4⟩ := storeE_spec hE hq hsz hfv (hel _ hidx).2.1
 rw [(hel _ hidx).1] at h1 h2 h4
 have hfit : p.idx * es + es ≤ cap * es := by
  rw [← Nat.succ_mul]
  exact Nat.mul_le_mul_right _ (by omega)
 obtain ⟨hbound, hnew⟩ := row_set (f' := fset len p.idx f e) (len' := len) (o := p.idx * es + (p.off + p.j)) (vs := av.cells) h (by omega) hlc (fun i hi => by
  rw [fset_at hi hidx]
  by_cases hii : i = p.idx
  ·
   subst hii
   rw [if_pos rfl]
   refine ⟨h2, h3, fun k hk => ?_⟩
   rw [h4 k hk]
   by_cases hr : p.off + p.j ≤ k ∧ k < p.off + p.j + av.cells.length
   ·
    rw [if_pos hr, if_pos (by omega)]
    congr 1; omega
   ·
    rw [if_neg hr, if_neg (by omega)]
  ·
   rw [if_neg hii]
   obtain ⟨g1, g2, g3⟩ := hel i hi
   refine ⟨g1, g2, fun k hk => ?_⟩
   rw [if_neg]
   intro hr
   rcases Nat.lt_or_gt_of_ne hii with hlt | hgt
   ·
    have : (i + 1) * es ≤ p.idx * es := Nat.mul_le_mul_right _ (by omega)
    rw [Nat.succ_mul] at this; omega
   ·
    have : (p.idx + 1) * es ≤ i * es := Nat.mul_le_mul_right _ (by omega)
    rw [Nat.succ_mul] at this; omega) (fun i hi hi' => by omega) hcs
 refine ⟨w.setRow b (cs.toList.take (p.idx * es + (p.off + p.j)) ++ av.cells ++ cs.toList.drop (p.idx * es + (p.off + p.j) + av.cells.length)).toArray, ?_, rfl, rfl, rfl, ⟨Nat.le_refl _, by simp⟩, fun k hk => setRow_other w b k _ hk, hnew⟩
 have hst := run_storeCells_at (P := P) b (p.idx * es + (p.off + p.j)) T av.cells 0 cs w hcs (by omega) (av.one_cells (fitV_one hfv))
 simp only [Nat.add_zero] at hst
 unfold storeVar
 rw [Sem.run_bind, hr.run_sizeOf, Result.andThen_ok, AV.valCells hfv]
 rw [if_neg (by simp [AV.size_cells, hsz])]
 have ha' : p.addr = ⟨b, p.idx * es + (p.off + p.j), none⟩ := by
  unfold Pt.addr Pt.cell
  rw [hb, h0, hes]
  congr 1; omega
 rw [ha']
 exact hst
theorem evStore_ok {P : Program} {E : Env} {O : Nat → Prop} {w0 : World} (hb : TblOk P E.tb) : EvOk P O w0 (fun M tm g _ op => evStore E M tm g op) := by
 intro N M tm g tag a w o r h hok hT hS hg next Q hk
 dsimp only at h
 unfold evStore at h
 split at h
 ·
  rename_i t x y ho
  split at h
  ·
   rename_i p av rr hx hy hr
   split at h
   ·
    rename_i q B hst
    cases h
    have ex : a.eval x = .pointer (some p.addr) := opd_sound hT hx (g := none) trivial trivial
    have ey : a.eval y = av.val := opd_sound hT hy (g := none) trivial trivial
    have fin : ∀ w', (storeVar t p.addr av.val).run P w = .ok () w' → next (a.put o.dst undef) w' → o.wp P a w next Q := fun w' hrun hn => by
     unfold Oper.wp
     have hex : (execOp a.eval o).run P w = .ok .skip w' := by
      unfold execOp
      rw [ho]
      simp only [ex, ey, Sem.run_bind, Instr.storeAt]
      have : (Instr.sureAddr (.pointer (some p.addr))).run P w = .ok p.addr w := rfl
      rw [this, Result.andThen_ok, hrun]; rfl
     rw [hex]
     exact hn
    unfold storeV at hst
    split at hst
    ·
     rename_i hfit
     simp only [Bool.and_eq_true] at hfit
     obtain ⟨hsz, hfv⟩ := hfit
     have hsz := AV.isSize_eq hsz
     split at hst
     ·
      rename_i b T es len f cap hM
      split at hst
      ·
       rename_i q' e hE
       cases hst
       obtain ⟨⟨h1, h2, h3, h4⟩, h5⟩ := hok
       obtain ⟨w', r1, r2, r3, r4, r5, r6, r7⟩ := store_run (hb.get hr) (hS.holds _ _ hM) h1 h2 h3 h4 hE h5 hsz hfv
       refine fin w' r1 (hk () w' trivial ?_)
       exact Turn.upd hM r2 r3 r4 r5.1 (by omega) (fun j _ hj => r6 j fun e => hj e.symm) r7 (fun k hk => .inr hk) fun k hk => hk
      ·
       cases hst
     ·
      rename_i a' T es len f cap hM
      split at hst
      ·
       rename_i q' e hE
       cases hst
       obtain ⟨⟨h1, h3, h4⟩, h5⟩ := hok
       obtain ⟨b, rfl, hrow⟩ := vrow_some (hS.holds _ _ hM) h4
       have e1 : p.b = b := congrArg Prod.fst h1
       have e2 : p.o0 = 0 := congrArg Prod.snd h1
       obtain ⟨w', r1, r2, r3, r4, r5, r6, r7⟩ := store_run (hb.get hr) hrow e1 e2 h3 h4 hE h5 hsz hfv
       refine fin w' r1 (hk () w' trivial ?_)
       exact Turn.upd hM r2 r3 r4 r5.1 (by omega) (fun j _ hj => r6 j fun e => hj (by rw [e]; rfl)) r7 (fun k hk => .inr hk) fun k hk => hk
      ·
       cases hst
     ·
      cases hst
    ·
     cases hst
   ·
    cases h
  ·
   cases h
 ·
  cases h
def fapp (n : Nat) (f src : Nat → AV) : Nat → AV := fun i => match Nat.blt i n with
 | true => f i
 | false => src (i - n)
theorem fapp_lt {n i : Nat} {f src : Nat → AV} (h : i < n) : fapp n f src i = f i := by
 unfold fapp
 rw [show Nat.blt i n = true by rw [Nat.blt_eq]; exact h]
theorem fapp_ge {n i : Nat} {f src : Nat → AV} (h : n ≤ i) : fapp n f src i = src (i - n) := by
 unfold fapp
 have : Nat.blt i n = false := by
  cases hb : Nat.blt i n with
  | true => have := blt_lt hb; omega
  | false => rfl
 rw [this]
def strAt (s : ByteArray) (i : Nat) : AV := .v (.int .u8 (s.data.toList.getD i 0).toNat)
def srcOf (M : MemF) (size : Nat) (d : TD) (Y : AV) : Option (Prop × Nat × (Nat → AV)) := match d, Y with
 | .str, .v (.string s) => some (size = 1, s.size, strAt s)
 | .sl _, Y => match seqOf M Y with
  | some (c, es, m, f) => some (c ∧ (m ≠ 0 → es = size), m, f)
  | none => none
 | _, _ => none
def dstOf (M : MemF) (tag size e : Nat) (X : AV) : Option (Prop × Nat × Nat × (Nat → AV)) := match X with
 | .gs n _ a es i0 len cap => match M n with
  | some (.vrow a' T es' len' f cap') => some ((a = ownB a' ∧ es = size ∧ es' = size ∧ i0 = 0 ∧ cap = cap') ∧ len ≤ len' ∧ T = e, n, len, f)
  | _ => none
 | .v (.slice none n c) => some (n = 0 ∧ c = 0, tag, 0, fun _ => .nil)
 | _ => none
def evAppend (E : Env) (M : MemF) (tm : TmF) (g : Option Bool) (tag : Nat) : Op → Option Res
 | .call { callee := .builtin .append, args, argTypes } => match g, args.toList, argTypes.toList with
  | none, [x, y], [t, t2] => match opd tm x, opd tm y, E.tb.get t, E.tb.get t2 with
   | some (none, X), some (none, Y), some r, some r2 => match r.d with
    | .sl e => match E.tb.get e with
     | some re => match re.zero.fitV && re.zero.isSize re.size && Nat.blt 0 re.bytes, srcOf M re.size r2.d Y, dstOf M tag re.size e X with
      | true, some (q1, m, src), some (q2, n, len, f) => some ⟨Option Nat × Nat, q1 ∧ q2 ∧ (len + m) * re.bytes ≤ 140737488355328, fun x => len + m ≤ x.2, fun x => .gs n 0 (ownB x.1) re.size 0 (len + m) x.2, [n], fun x => [.vrow x.1 e re.size (len + m) (fapp len f src) x.2]⟩
      | _, _, _ => none
     | none => none
    | _ => none
   | _, _, _, _ => none
  | _, _, _ => none
 | _ => none
theorem strAt_cells (s : ByteArray) : byteCells s = seqCells (strAt s) s.size := by
 have hl : (seqCells (strAt s) s.size).length = s.size * 1 := seqCells_length (es := 1) fun _ _ => rfl
 apply List.ext_getElem?
 intro i
 by_cases hi : i < s.size
 ·
  have := seqCells_get (f := strAt s) (es := 1) (n := s.size) (fun _ _ => rfl) i 0 hi Nat.zero_lt_one
  rw [Nat.mul_one, Nat.add_zero] at this
  rw [this]
  unfold byteCells strAt
  have hi' : i < s.data.toList.length := hi
  rw [List.getElem?_map, List.getElem?_eq_getElem hi', List.getD_eq_getElem?_getD, List.getElem?_eq_getElem hi']
  rfl
 ·
  rw [List.getElem?_eq_none (by rw [byteCells_length]; omega), List.getElem?_eq_none (by omega)]
theorem srcOf_spec {P : Program} {O : Nat → Prop} {w0 w : World} {M : MemF} (hS : Sat O w0 M w) {t2 : TypeId} {r2 : TRow} (hr : RowOk P t2 r2) {size : Nat} {Y : AV} {q : Prop} {m : Nat} {src : Nat → AV} (h : srcOf M size r2.d Y = some (q, m, src)) (hq : q) :
  Src P size t2 Y.val m (seqCells src m) w ∧ ∀ i, i < m → (src i).size = size ∧ (src i).one = true := by
 obtain ⟨d, hu, hv⟩ := hr.under
 unfold srcOf at h
 split at h
 ·
  rename_i s hd
  cases h
  rw [hd] at hv
  have : d = .string := by cases d <;> simp [viewD] at hv; rfl
  subst this hq
  refine ⟨?_, fun i _ => ⟨rfl, rfl⟩⟩
  have := Src.ofString (P := P) w (tx := t2) hu s
  rw [strAt_cells] at this
  exact this
 ·
  rename_i e' Y' hd
  split at h
  ·
   rename_i c es m' f hs
   cases h
   rw [hd] at hv
   rw [viewD_sl hv] at hu
   obtain ⟨hc, hsz⟩ := hq
   obtain ⟨base, cap, hval, hcase⟩ := seqOf_spec hS hs hc
   rw [hval]
   rcases Nat.eq_zero_or_pos m with h0 | h0
   ·
    subst h0
    refine ⟨?_, fun i hi => by omega⟩
    cases base with
    | none => exact Src.ofNil w hu cap
    | some a => exact Src.ofSlice w hu _ 0 cap [] (by simp) (fun j u hj => by simp at hj) (fun u hu => by cases hu)
   ·
    obtain ⟨b, o, rfl, hR⟩ := hcase (by omega)
    ·
     have hsz := hsz (by omega)
     subst hsz
     exact ⟨Src.ofSlice w hu _ m cap _ (seqCells_length fun i hi => (hR i hi).1) hR.cells (seqCells_one fun i hi => (hR i hi).2.1), fun i hi => ⟨(hR i hi).1, (hR i hi).2.1⟩⟩
  ·
   cases h
 ·
  cases h
section
variable {P : Program} {O : Nat → Prop} {w0 w : World} {M : MemF}
theorem grown_row {e size cap len m : Nat} {f src : Nat → AV} {z : AV} (hz : z.size = size) (hzf : z.fitV = true) (hcap : len + m ≤ cap) (w1 : World) (hf : ∀ i, i < len → (f i).size = size ∧ (f i).one = true)
  (hs : ∀ i, i < m → (src i).size = size ∧ (src i).one = true) :
  RowHolds (w1.alloc (.cells ((seqCells f len ++ seqCells src m).toArray ++ Builtin.zeroCells z.val.cells (cap - (len + m))) e)) w1.heap.size e size (len + m) (fapp len f src) cap := by
 have l1 := seqCells_length (f := f) (es := size) (n := len) fun i hi => (hf i hi).1
 have l2 := seqCells_length (f := src) (es := size) (n := m) fun i hi => (hs i hi).1
 refine ⟨(seqCells f len ++ seqCells src m).toArray ++ Builtin.zeroCells z.val.cells (cap - (len + m)), ?_, ?_, hcap, fun i hi => ?_⟩
 ·
  show (w1.heap.push _)[w1.heap.size]? = _
  simp
 ·
  rw [Array.size_append, size_zeroCells, AV.valCells hzf]
  simp only [List.size_toArray, List.length_append, l1, l2, AV.size_cells, hz]
  rw [← Nat.add_mul, ← Nat.add_mul]
  congr 1; omega
 ·
  rcases Nat.lt_or_ge i len with hil | hil
  ·
   rw [fapp_lt hil]
   refine ⟨(hf i hil).1, (hf i hil).2, fun k hk => ?_⟩
   have h1 : i * size + k < len * size := by
    have : (i + 1) * size ≤ len * size := Nat.mul_le_mul_right _ hil
    rw [Nat.succ_mul] at this; omega
   rw [Array.getElem?_append_left (by simp only [List.size_toArray, List.length_append, l1]; omega), List.getElem?_toArray, List.getElem?_append_left (by omega)]
   exact seqCells_get (fun i hi => (hf i hi).1) i k hil hk
  ·
   rw [fapp_ge hil]
   have him : i - len < m := by omega
   refine ⟨(hs _ him).1, (hs _ him).2, fun k hk => ?_⟩
   have h1 : (i - len) * size + k < m * size := by
    have : (i - len + 1) * size ≤ m * size := Nat.mul_le_mul_right _ him
    rw [Nat.succ_mul] at this; omega
   have h2 : i * size = len * size + (i - len) * size := by rw [← Nat.add_mul]; congr 1; omega
   rw [Array.getElem?_append_left (by simp only [List.size_toArray, List.length_append, l1, l2]; omega), List.getElem?_toArray, List.getElem?_append_right (by omega), l1, show i * size + k - len * size = (i - len) * size + k by omega]
   exact seqCells_get (fun i hi => (hs i hi).1) _ k him hk
theorem append_room {t t2 ty e : TypeId} {r re : TRow} (hr : RowOk P t r) (hd : r.d = .sl e) (hre : RowOk P e re) {b T len len' cap m : Nat} {f src : Nat → AV} (hrow : RowHolds w b T re.size len' f cap) (hlen : len ≤ len')
  {Y : AV} (hs : Src P re.size t2 Y.val m (seqCells src m) w) (hsz : ∀ i, i < m → (src i).size = re.size ∧ (src i).one = true) (hroom : len + m ≤ cap) :
  ∃ w', (Builtin.append_ #[t, t2] ty #[.slice (some ⟨b, 0, none⟩) len cap, Y.val]).run P w = .ok (.slice (some ⟨b, 0, none⟩) (len + m) cap) w' ∧ w'.os = w.os ∧ w'.tape = w.tape ∧ w'.output = w.output ∧ (w.drawn ≤ w'.drawn ∧ w'.heap.size = w.heap.size) ∧ (∀ k, k ≠ b → w'.heap[k]? = w.heap[k]?) ∧ RowHolds w' b T re.size (len + m) (fapp len f src) cap := by
 obtain ⟨d, hu, hv⟩ := hr.under
 rw [hd] at hv
 rw [viewD_sl hv] at hu
 obtain ⟨i, hi, hi1, hi2, hi3⟩ := hre.info
 obtain ⟨cs, hcs, hcz, hlc, hel⟩ := id hrow
 have l2 := seqCells_length (f := src) (es := re.size) (n := m) fun i hi => (hsz i hi).1
 have hfit : len * re.size + m * re.size ≤ cap * re.size := by
  rw [← Nat.add_mul]; exact Nat.mul_le_mul_right _ hroom
 obtain ⟨hbound, hnew⟩ := row_set (f' := fapp len f src) (len' := len + m) (o := len * re.size) (vs := seqCells src m) hrow (by omega) hroom (fun i hi => by
  rcases Nat.lt_or_ge i len with hil | hil
  ·
   rw [fapp_lt hil]
   obtain ⟨g1, g2, g3⟩ := hel i (by omega)
   refine ⟨g1, g2, fun k hk => ?_⟩
   have : (i + 1) * re.size ≤ len * re.size := Nat.mul_le_mul_right _ hil
   rw [Nat.succ_mul] at this
   rw [if_neg (by omega)]
  ·
   rw [fapp_ge hil]
   have him : i - len < m := by omega
   refine ⟨(hsz _ him).1, (hsz _ him).2, fun k hk => ?_⟩
   have h1 : (i - len) * re.size + k < m * re.size := by
    have : (i - len + 1) * re.size ≤ m * re.size := Nat.mul_le_mul_right _ him
    rw [Nat.succ_mul] at this; omega
   have h2 : i * re.size = len * re.size + (i - len) * re.size := by rw [← Nat.add_mul]; congr 1; omega
   rw [if_pos (by omega), show i * re.size + k - len * re.size = (i - len) * re.size + k by omega]
   exact (seqCells_get (fun i hi => (hsz i hi).1) _ k him hk).symm) (fun i h1 h2 k hk => by
   have h3 : len * re.size ≤ i * re.size := Nat.mul_le_mul_right _ (by omega)
   have h4 : (i + 1) * re.size ≤ (len + m) * re.size := Nat.mul_le_mul_right _ (by omega)
   rw [Nat.succ_mul, Nat.add_mul] at h4
   omega) hcs
 refine ⟨w.setRow b (cs.toList.take (len * re.size) ++ seqCells src m ++ cs.toList.drop (len * re.size + (seqCells src m).length)).toArray, ?_, rfl, rfl, rfl, ⟨Nat.le_refl _, by simp⟩, fun k hk => setRow_other w b k _ hk, hnew⟩
 have hst := run_storeCells_at (P := P) b (len * re.size) T (seqCells src m) 0 cs w hcs (by omega) hs.one
 simp only [Nat.add_zero] at hst
 have hcl : (Builtin.firstCells re.size m Y.val).run P w = .ok (seqCells src m).toArray w := hs.cells
 rcases hs.kind with ⟨e', hk⟩ | hk <;> simp [Builtin.append_, run_underlying hu, run_underlying hk, sizeOf, typeInfo, hi, hi1, hs.len, hroom, hcl, Addr.add_none, hst]
theorem append_grow {t t2 ty e : TypeId} {r re : TRow} (hr : RowOk P t r) (hd : r.d = .sl e) (hre : RowOk P e re) (hzf : re.zero.fitV = true) (hzs : re.zero.size = re.size) (hby : 0 < re.bytes) {base : Option Addr} {len cap m : Nat} {f src : Nat → AV}
  (hold : (len = 0 ∨ ∃ b o, base = some ⟨b, o, none⟩ ∧ Reads w b o re.size len f)) {Y : AV} (hs : Src P re.size t2 Y.val m (seqCells src m) w) (hsz : ∀ i, i < m → (src i).size = re.size ∧ (src i).one = true)
  (hno : cap < len + m) (hfits : (len + m) * re.bytes ≤ 140737488355328) :
  ∃ w' b cap', (Builtin.append_ #[t, t2] ty #[.slice base len cap, Y.val]).run P w = .ok (.slice (some ⟨b, 0, none⟩) (len + m) cap') w' ∧ len + m ≤ cap' ∧ w.heap.size ≤ b ∧ Below w.heap.size w w' ∧ RowHolds w' b e re.size (len + m) (fapp len f src) cap' := by
 obtain ⟨d, hu, hv⟩ := hr.under
 rw [hd] at hv
 rw [viewD_sl hv] at hu
 obtain ⟨i, hi, hi1, hi2, hi3⟩ := hre.info
 have hf : ∀ i, i < len → (f i).size = re.size ∧ (f i).one = true := by
  rcases hold with h0 | ⟨b, o, _, hR⟩
  ·
   intro i hi; omega
  ·
   exact fun i hi => ⟨(hR i hi).1, (hR i hi).2.1⟩
 have holdc : (Builtin.firstCells i.size len (.slice base len cap)).run P w.drew = .ok (seqCells f len).toArray w.drew := by
  rcases hold with h0 | ⟨b, o, rfl, hR⟩
  ·
   subst h0
   cases base with
   | none => exact run_firstCells_none w.drew i.size 0 0 cap
   | some a => exact run_firstCells_some w.drew i.size 0 a 0 cap [] (by simp) (fun j v hj => by simp at hj)
  ·
   exact run_firstCells_some w.drew i.size len _ len cap _ (by rw [hi1]; exact seqCells_length fun i hi => (hR i hi).1) (fun j v hj => hR.cells j v hj)
 have hneed : len + m ≤ 140737488355328 := Nat.le_trans (Nat.le_mul_of_pos_right _ hby) hfits
 have hcapb : Builtin.nextslicecap (len + m) cap * i.bytes ≤ 281474976710656 := by
  have h1 := nextslicecap_le (need := len + m) (old := cap) hno
  have h2 : Builtin.nextslicecap (len + m) cap * re.bytes ≤ 2 * (len + m) * re.bytes := Nat.mul_le_mul_right _ h1
  rw [Nat.mul_assoc] at h2
  rw [hi2]; omega
 have hge := grownCap_ge w (len + m) cap e
 have := run_append_grow_src (P := P) w t t2 ty e i re.zero.val hu hi hi3 base len cap _ holdc Y.val m (seqCells src m) (by rw [hi1]; exact hs) hno (by omega) hcapb
 refine ⟨_, w.heap.size, grownCap w (len + m) cap e, this, hge, Nat.le_refl _, ?_, ?_⟩
 ·
  exact (Below.refl _ _).drew.alloc (Nat.le_refl _) _
 ·
  exact grown_row hzs hzf hge w.drew hf hsz
theorem evAppend_ok {E : Env} (hb : TblOk P E.tb) : EvOk P O w0 (evAppend E) := by
 intro N M tm g tag a w o r h hok hT hS hg next Q hk
 unfold evAppend at h
 split at h
 ·
  rename_i args tys ho
  split at h
  ·
   rename_i x y t t2 hargs htys
   split at h
   ·
    rename_i X Y r0 r2 hx hy hr hr2
    split at h
    ·
     rename_i e hd
     split at h
     ·
      rename_i re hre
      split at h
      ·
       rename_i q1 m src q2 n len f hfit hsrc hdst
       cases h
       obtain ⟨hq1, hq2, hfits⟩ := hok
       simp only [Bool.and_eq_true] at hfit
       obtain ⟨⟨hzf, hzs⟩, hby⟩ := hfit
       have hzs := AV.isSize_eq hzs
       have hby := blt_lt hby
       obtain ⟨hs, hsz⟩ := srcOf_spec hS (hb.get hr2) hsrc hq1
       have ex : a.eval x = X.val := opd_sound hT hx (g := none) trivial trivial
       have ey : a.eval y = Y.val := opd_sound hT hy (g := none) trivial trivial
       have hargs : args = #[x, y] := by apply Array.ext'; rw [hargs]
       have htys : tys = #[t, t2] := by apply Array.ext'; rw [htys]
       subst hargs htys
       have fin : ∀ v w', (Builtin.append_ #[t, t2] o.type #[X.val, Y.val]).run P w = .ok v w' → next (a.put o.dst v) w' → o.wp P a w next Q := fun v w' hrun hn => by
        unfold Oper.wp
        have hex : (execOp a.eval o).run P w = .ok (.value v) w' := by
         unfold execOp
         rw [ho]
         simp only [Sem.run_bind, resolve, List.map_toArray, List.map_cons, List.map_nil, ex, ey, Sem.run_pure, Result.andThen_ok, invoke, builtin]
         rw [hrun]; rfl
        rw [hex]
        exact hn
       have none_room : ∀ (base : Option Addr), len = 0 → m = 0 → base = none → ∀ X0, X0 = Value.slice base 0 0 → (Builtin.append_ #[t, t2] o.type #[X0, Y.val]).run P w = .ok (.slice none 0 0) w := by
        intro base h1 h2 h3 X0 h4
        subst h3 h4 h2
        obtain ⟨d, hu, hv⟩ := (hb.get hr).under
        rw [hd] at hv
        rw [viewD_sl hv] at hu
        obtain ⟨i, hi, hi1, hi2, hi3⟩ := (hb.get hre).info
        have hcl : (Builtin.firstCells re.size 0 Y.val).run P w = .ok #[] w := hs.cells
        rcases hs.kind with ⟨e', hk⟩ | hk <;> simp [Builtin.append_, run_underlying hu, run_underlying hk, sizeOf, typeInfo, hi, hi1, hs.len, hcl]
       unfold dstOf at hdst
       split at hdst
       ·
        rename_i n' ix aa es i0 len0 cap
        split at hdst
        ·
         rename_i a' T es' len' f' cap' hM
         cases hdst
         obtain ⟨⟨rfl, rfl, rfl, rfl, rfl⟩, hle, rfl⟩ := hq2
         have hB := hS.holds _ _ hM
         cases a' with
         | none =>
          obtain ⟨z1, z2⟩ := hB
          have hl0 : len = 0 := by omega
          subst z2 hl0
          rcases Nat.eq_zero_or_pos m with hm | hm
          ·
           subst hm
           refine fin _ w (none_room none rfl rfl rfl _ rfl) (hk (none, 0) w (Nat.le_refl _) ?_)
           exact Turn.upd hM rfl rfl rfl (Nat.le_refl _) (Nat.le_refl _) (fun _ _ _ => rfl) ⟨rfl, rfl⟩ (fun b hb => by cases hb) fun k hk => hk
          ·
           obtain ⟨w', b, cap', h1, h2, h3, h4, h5⟩ := append_grow (P := P) (t2 := t2) (ty := o.type) (base := none) (cap := 0) (f := f) (hb.get hr) hd (hb.get hre) hzf hzs hby (.inl rfl) hs hsz (by omega) hfits
           refine fin _ w' h1 ?_
           have := hk (some b, cap') w' h2 (Turn.upd hM h4.os h4.tape h4.output h4.drawn h4.size (fun j hj _ => h4.block j hj) h5 (fun k hk => by cases hk; exact .inl h3) fun k hk => hk)
           simpa [gs_val, ownB] using this
         | some b0 =>
          have hrow : RowHolds w b0 T re.size len' f cap := hB
          have hval : (AV.gs n ix (ownB (some b0)) re.size 0 len cap).val = .slice (some ⟨b0, 0, none⟩) len cap := by simp [gs_val, ownB]
          rw [hval] at fin
          rcases Nat.lt_or_ge cap (len + m) with hno | hroom
          ·
           obtain ⟨w', b, cap', h1, h2, h3, h4, h5⟩ := append_grow (P := P) (t2 := t2) (ty := o.type) (base := some ⟨b0, 0, none⟩) (cap := cap) (f := f) (hb.get hr) hd (hb.get hre) hzf hzs hby (.inr ⟨b0, 0, rfl, fun i hi => hrow.reads i (by omega)⟩) hs hsz hno hfits
           refine fin _ w' h1 ?_
           have := hk (some b, cap') w' h2 (Turn.upd hM h4.os h4.tape h4.output h4.drawn h4.size (fun j hj _ => h4.block j hj) h5 (fun k hk => by cases hk; exact .inl h3) fun k hk => hk)
           simpa [gs_val, ownB] using this
          ·
           obtain ⟨w', h1, h2, h3, h4, h5, h6, h7⟩ := append_room (P := P) (t2 := t2) (ty := o.type) (hb.get hr) hd (hb.get hre) hrow hle hs hsz hroom
           refine fin _ w' h1 ?_
           have := hk (some b0, cap) w' hroom (Turn.upd hM h2 h3 h4 h5.1 (by omega) (fun j _ hj => h6 j fun e => hj (by rw [e]; rfl)) h7 (fun k hk => .inr hk) fun k hk => hk)
           simpa [gs_val, ownB] using this
        ·
         cases hdst
       ·
        rename_i n' c'
        cases hdst
        obtain ⟨rfl, rfl⟩ := hq2
        rcases Nat.eq_zero_or_pos m with hm | hm
        ·
         subst hm
         refine fin _ w (none_room none rfl rfl rfl _ rfl) (hk (none, 0) w (Nat.le_refl _) ?_)
         exact Turn.new (Below.refl _ _) ⟨rfl, rfl⟩ (fun b hb => by cases hb) fun k hk => hk
        ·
         obtain ⟨w', b, cap', h1, h2, h3, h4, h5⟩ := append_grow (P := P) (t2 := t2) (ty := o.type) (base := none) (cap := 0) (len := 0) (f := fun _ => .nil) (hb.get hr) hd (hb.get hre) hzf hzs hby (.inl rfl) hs hsz (by omega) hfits
         refine fin _ w' h1 ?_
         have := hk (some b, cap') w' h2 (Turn.new h4 h5 (fun k hk => by cases hk; exact h3) fun k hk => hk)
         simpa [gs_val, ownB] using this
       ·
        cases hdst
      ·
       cases h
     ·
      cases h
    ·
     cases h
   ·
    cases h
  ·
   cases h
 ·
  cases h
end
mutual
def keyT (tb : Tbl) : Nat → TypeId → AV → Bool
 | 0, _, _ => false
 | d + 1, t, x => match tb.get t with
  | none => false
  | some r => match r.d, x with
   | .arr n e, .ints k1 n1 _ => match tb.get e with
    | none => false
    | some re => match re.d, Nat.beq re.size 1 with
     | .int k, true => kindEq k1 k && Nat.beq n1 n
     | _, _ => false
   | .st fs, .agg l => keyF tb d fs 0 l
   | .int k, .v (.int k1 _) => kindEq k1 k
   | .bool, .v (.bool _) => true
   | .str, .v (.string _) => true
   | _, _ => false
def keyF (tb : Tbl) : Nat → List (Nat × Nat × TypeId) → Nat → AV → Bool
 | 0, _, _, _ => false
 | d + 1, fs, run, l => match fs, l with
  | [], .nil => true
  | (o, s, t) :: fs, .cons a l => Nat.beq o run && a.isSize s && fitsK tb t a && keyT tb d t a && keyF tb d fs (o + s) l
  | _, _ => false
end
theorem bind_ok {P : Program} {α β : Type} {x : Sem α} {f : α → Sem β} {w : World} {a : α} {r : Result β} (h : x.run P w = .ok a w) (h2 : (f a).run P w = r) : (x >>= f).run P w = r := by
 rw [Sem.run_bind, h, Result.andThen_ok]; exact h2
theorem run_forIn_yield {P : Program} {α : Type} {f : α → PUnit → Sem (ForInStep PUnit)} {w : World} : ∀ {l : List α}, (∀ a ∈ l, (f a PUnit.unit).run P w = .ok (.yield PUnit.unit) w) → (forIn l PUnit.unit f).run P w = .ok PUnit.unit w
 | [], _ => rfl
 | a :: l, h => by
  rw [List.forIn_cons, Sem.run_bind, h a (.head _), Result.andThen_ok]
  exact run_forIn_yield fun b hb => h b (.tail _ hb)
mutual
theorem keyT_check {P : Program} {tb : Tbl} (hb : TblOk P tb) : ∀ (d : Nat) {t : TypeId} {x : AV}, keyT tb d t x = true → ∀ (D : Nat), d < D → ∀ (em : Bool) (w : World), (Instr.checkKey em D t x.val).run P w = .ok () w
 | 0, _, _, h, _, _, _, _ => by simp [keyT] at h
 | d + 1, t, x, h, D, hD, em, w => by
  obtain ⟨D, rfl⟩ : ∃ m, D = m + 2 := ⟨D - 2, by omega⟩
  simp only [keyT] at h
  split at h
  ·
   cases h
  ·
   rename_i r hr
   have hro := hb.get hr
   obtain ⟨dd, hdd, hv⟩ := hro.under
   split at h
   ·
    rename_i n e k1 n1 l hd
    split at h
    ·
     cases h
    ·
     rename_i re hre
     split at h
     ·
      rename_i k hk hs
      simp only [Bool.and_eq_true] at h
      have q1 := kindEq_eq h.1; have q2 := kindB h.2; have hs := kindB hs
      subst q1 q2
      rw [hd] at hv
      rw [viewD_arr hv] at hdd
      obtain ⟨de, hde, hve⟩ := (hb.get hre).under
      rw [hk] at hve
      have hd2 : de = .int k1 := by cases de <;> simp [viewD] at hve; rw [hve]
      rw [hd2] at hde
      show (Instr.checkKey em (D + 1 + 1) t (.agg ((List.range n1).map fun j => Value.int k1 (l.getD j 0)).toArray)).run P w = _
      unfold Instr.checkKey
      rw [Sem.run_bind, run_underlying hdd, Result.andThen_ok]
      simp only []
      refine bind_ok (a := PUnit.unit) ?_ rfl
      rw [run_forIn_range]
      refine run_forIn_yield fun i hi => ?_
      have hi := List.mem_range.1 hi
      have hp : (part e ((List.range n1).map fun j => Value.int k1 (l.getD j 0)).toArray (i * re.size)).run P w = .ok (.int k1 (l.getD i 0)) w := by
       refine run_part (hb.get hre) (s := .v (.int k1 (l.getD i 0))) ⟨hs.symm, ?_, ?_⟩ (by rw [hk]; rfl) w
       ·
        simp [hs]; omega
       ·
        simp only [hs, Nat.mul_one]
        rw [← List.map_drop, ← List.map_take, List.drop_eq_getElem_cons (by simpa using hi)]
        simp
      have hc : (Instr.checkKey em (D + 1) e (.int k1 (l.getD i 0))).run P w = .ok () w := by
       unfold Instr.checkKey
       rw [Sem.run_bind, run_underlying hde, Result.andThen_ok]; rfl
      simp only [Sem.run_bind, (hb.get hre).run_sizeOf, Result.andThen_ok, hp, hc, Sem.run_pure]
     ·
      cases h
   ·
    rename_i fs l hd
    rw [hd] at hv
    obtain ⟨gs, rfl, hgs⟩ := viewD_st hv
    show (Instr.checkKey em (D + 1 + 1) t (.agg l.cells.toArray)).run P w = _
    unfold Instr.checkKey
    rw [Sem.run_bind, run_underlying hdd, Result.andThen_ok]
    simp only []
    refine bind_ok (a := PUnit.unit) ?_ rfl
    rw [← Array.forIn_toList]
    refine run_forIn_yield fun f hf => ?_
    obtain ⟨a, h1, h2⟩ := keyF_check hb d h (D + 1) (by omega) gs.toList (fields_map hgs) [] rfl em w f hf
    have h1 : (part f.type l.cells.toArray f.offset).run P w = .ok a.val w := h1
    split
    ·
     simp only [Sem.run_bind, h1, h2, Result.andThen_ok, Sem.run_pure]
    ·
     rfl
   ·
    rename_i k k1 z hd
    rw [hd] at hv
    have hd2 : dd = .int k := by cases dd <;> simp [viewD] at hv; rw [hv]
    rw [hd2] at hdd
    unfold Instr.checkKey
    rw [Sem.run_bind, run_underlying hdd, Result.andThen_ok]; rfl
   ·
    rename_i b hd
    rw [hd] at hv
    rw [viewD_bool hv] at hdd
    unfold Instr.checkKey
    rw [Sem.run_bind, run_underlying hdd, Result.andThen_ok]; rfl
   ·
    rename_i s hd
    rw [hd] at hv
    have hd2 : dd = .string := by cases dd <;> simp [viewD] at hv; rfl
    rw [hd2] at hdd
    unfold Instr.checkKey
    rw [Sem.run_bind, run_underlying hdd, Result.andThen_ok]; rfl
   ·
    cases h
theorem keyF_check {P : Program} {tb : Tbl} (hb : TblOk P tb) : ∀ (d : Nat) {fs : List (Nat × Nat × TypeId)} {run : Nat} {l : AV}, keyF tb d fs run l = true → ∀ (D : Nat), d < D →
  ∀ gs : List Field, gs.map (fun f => (f.offset, f.type)) = fs.map (fun f => (f.1, f.2.2)) → ∀ (cs1 : List Value), cs1.length = run → ∀ (em : Bool) (w : World) (f : Field), f ∈ gs →
  ∃ a : AV, (part f.type (cs1 ++ l.cells).toArray f.offset).run P w = .ok a.val w ∧ (Instr.checkKey em D f.type a.val).run P w = .ok () w
 | d, fs, run, l, h, D, hD, gs, hg, cs1, hc1, em, w, f, hf => by
  cases d with
  | zero => simp [keyF] at h
  | succ d =>
   simp only [keyF] at h
   split at h
   ·
    have hgn : gs = [] := by simpa using hg
    subst hgn
    cases hf
   ·
    rename_i o s t fs a l
    simp only [Bool.and_eq_true] at h
    obtain ⟨⟨⟨⟨q1, q2⟩, hk⟩, ht⟩, hrest⟩ := h
    have q1 := kindB q1; have q2 := (AV.isSize_eq q2).symm
    cases gs with
    | nil => simp at hg
    | cons g gs =>
     simp only [List.map_cons, List.cons.injEq, Prod.mk.injEq] at hg
     obtain ⟨⟨hgo, hgt⟩, hg⟩ := hg
     rcases List.mem_cons.1 hf with rfl | hf
     ·
      obtain ⟨r1, hr1, ho1, hs1, hk1⟩ := fitsK_spec hb hk
      refine ⟨a, ?_, ?_⟩
      ·
       rw [hgt, hgo]
       refine run_part ho1 ?_ hk1 w
       rw [AV.cells_cons, ← List.append_assoc]
       refine Part.inl (Part.inr (by omega) ?_)
       rw [hs1, show o - cs1.length = 0 by omega]
       exact Part.whole a
      ·
       rw [hgt]; exact keyT_check hb d ht D (by omega) em w
     ·
      obtain ⟨b, h1, h2⟩ := keyF_check hb d hrest D (by omega) gs hg (cs1 ++ a.cells) (by simp [AV.size_cells]; omega) em w f hf
      rw [List.append_assoc, ← AV.cells_cons] at h1
      exact ⟨b, h1, h2⟩
   ·
    cases h
end
theorem intsEq_cells {n : Nat} {k : IntKind} {a b : List Int} (h : intsEq n a b = true) : (AV.ints k n a).cells = (AV.ints k n b).cells := by
 show (List.range n).map _ = (List.range n).map _
 refine List.map_congr_left fun j hj => ?_
 have := List.all_eq_true.1 h j hj
 rw [beq_iff_eq] at this
 rw [this]
theorem bytes_toList {a b : ByteArray} (h : a.toList = b.toList) : a = b := by
 rw [ByteArray.toList_eq, ByteArray.toList_eq] at h
 obtain ⟨⟨x⟩⟩ := a
 obtain ⟨⟨y⟩⟩ := b
 have h : x = y := h
 rw [h]
theorem eqLeaf_true {d : TD} {x y : AV} (h : eqLeaf d x y = some true) : x.cells = y.cells ∧ x.val = y.val := by
 unfold eqLeaf at h
 split at h
 ·
  split at h
  ·
   rename_i hk
   simp only [Option.some.injEq, beq_iff_eq] at h
   simp only [Bool.and_eq_true] at hk
   rw [kindEq_eq hk.1, kindEq_eq hk.2, h]; exact ⟨rfl, rfl⟩
  ·
   cases h
 ·
  simp only [Option.some.injEq, beq_iff_eq] at h
  rw [h]; exact ⟨rfl, rfl⟩
 ·
  simp only [Option.some.injEq, beq_iff_eq] at h
  rw [bytes_toList h]; exact ⟨rfl, rfl⟩
 ·
  cases h
mutual
theorem eqT_true {tb : Tbl} {eqs : List TypeId} : ∀ (d : Nat) {t : TypeId} {x y : AV}, eqT tb eqs d t x y = some true → x.cells = y.cells ∧ x.val = y.val
 | 0, _, _, _, h => by simp [eqT] at h
 | d + 1, t, x, y, h => by
  simp only [eqT] at h
  split at h
  ·
   cases h
  ·
   split at h
   ·
    split at h
    ·
     cases h
    ·
     split at h
     ·
      split at h
      ·
       rename_i hq
       simp only [Option.some.injEq] at h
       simp only [Bool.and_eq_true] at hq
       obtain ⟨⟨⟨q1, q2⟩, q3⟩, q4⟩ := hq
       have q1 := kindEq_eq q1; have q2 := kindEq_eq q2
       have q3 := kindB q3; have q4 := kindB q4
       subst q1 q2 q3 q4
       have := intsEq_cells (k := by assumption) h
       exact ⟨this, by rw [AV.val_of_cells rfl, AV.val_of_cells rfl, this]⟩
      ·
       cases h
     ·
      cases h
   ·
    split at h
    ·
     have := eqF_true d h
     exact ⟨this, by rw [AV.val_agg, AV.val_agg, this]⟩
    ·
     cases h
   ·
    exact eqLeaf_true h
theorem eqF_true {tb : Tbl} {eqs : List TypeId} : ∀ (d : Nat) {fs : List (Nat × Nat × TypeId)} {run : Nat} {l m : AV}, eqF tb eqs d fs run l m = some true → l.cells = m.cells
 | d, fs, run, l, m, h => by
  cases d with
  | zero => simp [eqF] at h
  | succ d =>
   simp only [eqF] at h
   split at h
   ·
    rfl
   ·
    split at h
    ·
     split at h
     ·
      rename_i p q hp hq
      simp only [Option.some.injEq, Bool.and_eq_true] at h
      obtain ⟨rfl, rfl⟩ := h
      rw [AV.cells_cons, AV.cells_cons, (eqT_true d hp).1, eqF_true d hq]
     ·
      cases h
    ·
     cases h
   ·
    cases h
end
mutual
theorem eqT_refl {tb : Tbl} {eqs : List TypeId} : ∀ (d : Nat) {t : TypeId} {x y : AV} {b : Bool}, eqT tb eqs d t x y = some b → eqT tb eqs d t y y = some true
 | 0, _, _, _, _, h => by simp [eqT] at h
 | d + 1, t, x, y, b, h => by
  simp only [eqT] at h ⊢
  split at h
  ·
   cases h
  ·
   split at h
   ·
    split at h
    ·
     cases h
    ·
     rename_i re hre
     split at h
     ·
      split at h
      ·
       rename_i hd hs hq
       simp only [Bool.and_eq_true] at hq
       simp [*, intsEq]
      ·
       cases h
     ·
      cases h
   ·
    split at h
    ·
     rename_i hm
     have := eqF_refl d h
     simp [*]
    ·
     cases h
   ·
    unfold eqLeaf at h
    split at h
    ·
     split at h
     ·
      rename_i hk
      simp only [Bool.and_eq_true] at hk
      simp [*, eqLeaf]
     ·
      cases h
    ·
     simp [*, eqLeaf]
    ·
     simp [*, eqLeaf]
    ·
     cases h
theorem eqF_refl {tb : Tbl} {eqs : List TypeId} : ∀ (d : Nat) {fs : List (Nat × Nat × TypeId)} {run : Nat} {l m : AV} {b : Bool}, eqF tb eqs d fs run l m = some b → eqF tb eqs d fs run m m = some true
 | d, fs, run, l, m, b, h => by
  cases d with
  | zero => simp [eqF] at h
  | succ d =>
   simp only [eqF] at h ⊢
   split at h
   ·
    rfl
   ·
    split at h
    ·
     rename_i hq h1 h2
     split at h
     ·
      rename_i p q hp hq'
      have e1 := eqT_refl d hp
      have e2 := eqF_refl d hq'
      simp only [Bool.and_eq_true] at hq
      simp [*]
     ·
      cases h
    ·
     cases h
   ·
    cases h
end
def mfind (tb : Tbl) (eqs : List TypeId) (kt : TypeId) (key : AV) : List (AV × AV × Nat) → Nat → Option (Option (Nat × AV))
 | [], _ => some none
 | (k, v, _) :: r, i => match eqT tb eqs 64 kt key k with
  | some true => some (some (i, v))
  | some false => mfind tb eqs kt key r (i + 1)
  | none => none
def trip (p : AV × AV × Nat) : Value × Value × Nat := (p.1.val, p.2.1.val, p.2.2)
def tripE (e : MapEntry) : Value × Value × Nat := (e.key, e.val, e.born)
def keyTop : TD → Bool
 | .int _ => true
 | .st _ => true
 | .arr _ _ => true
 | _ => false
section
variable {P : Program} {tb : Tbl} {eqs : List TypeId}
theorem findAsking_run (hb : TblOk P tb) (he : EqOk P eqs) {kt : TypeId} {key : AV} (w : World) : ∀ {l : List (AV × AV × Nat)} {es : List MapEntry} {i : Nat} {r : Option (Nat × AV)}, es.map tripE = l.map trip → mfind tb eqs kt key l i = some r →
  (Instr.findAsking kt key.val es i).run P w = .ok (r.map fun p => (p.1, p.2.val)) w
 | [], es, i, r, hm, h => by
  have : es = [] := by simpa using hm
  subst this
  cases h; rfl
 | (k, v, b) :: l, [], i, r, hm, h => by simp at hm
 | (k, v, b) :: l, e :: es, i, r, hm, h => by
  simp only [List.map_cons, List.cons.injEq] at hm
  obtain ⟨h1, h2⟩ := hm
  have hk : e.key = k.val := congrArg (·.1) h1
  have hv : e.val = v.val := congrArg (·.2.1) h1
  simp only [mfind] at h
  unfold Instr.findAsking
  split at h
  ·
   rename_i hq
   cases h
   have : (Op.equal kt key.val e.key).run P w = .ok true w := by rw [hk]; exact eqT_run hb he 64 hq 10000 (by omega) w
   rw [Sem.run_bind, this, Result.andThen_ok, if_pos rfl, hv]; rfl
  ·
   rename_i hq
   have : (Op.equal kt key.val e.key).run P w = .ok false w := by rw [hk]; exact eqT_run hb he 64 hq 10000 (by omega) w
   rw [Sem.run_bind, this, Result.andThen_ok, if_neg (by simp)]
   exact findAsking_run hb he w h2 h
  ·
   cases h
theorem findNow_int {tb : Tbl} {eqs : List TypeId} {kt : TypeId} {r0 : TRow} {k : IntKind} (hr : tb.get kt = some r0) (hd : r0.d = .int k) {key : AV} : ∀ {l : List (AV × AV × Nat)} {es : List MapEntry} {i : Nat} {r : Option (Nat × AV)}, es.map tripE = l.map trip → mfind tb eqs kt key l i = some r →
  Instr.findNow (.int k) key.val es i = some (r.map fun p => (p.1, p.2.val))
 | [], es, i, r, hm, h => by
  have : es = [] := by simpa using hm
  subst this
  cases h; rfl
 | (k', v, b) :: l, [], i, r, hm, h => by simp at hm
 | (k', v, b) :: l, e :: es, i, r, hm, h => by
  simp only [List.map_cons, List.cons.injEq] at hm
  obtain ⟨h1, h2⟩ := hm
  have hk : e.key = k'.val := congrArg (·.1) h1
  have hv : e.val = v.val := congrArg (·.2.1) h1
  simp only [mfind] at h
  have key' : ∀ b, eqT tb eqs 64 kt key k' = some b → Instr.sameNow (.int k) key.val e.key = some b := by
   intro b hq
   simp only [eqT, hr, hd] at hq
   unfold eqLeaf at hq
   split at hq <;> (try cases hq) <;> (try (rename_i hdd; cases hdd))
   split at hq
   ·
    rename_i hkk
    simp only [Bool.and_eq_true] at hkk
    cases hq
    rw [hk]
    simp [Instr.sameNow, kindEq_eq hkk.1, kindEq_eq hkk.2]
   ·
    cases hq
  unfold Instr.findNow
  split at h
  ·
   rename_i hq
   cases h
   rw [key' _ hq]
   simp [hv]
  ·
   rename_i hq
   rw [key' _ hq]
   exact findNow_int hr hd h2 h
  ·
   cases h
theorem findKey_run (hb : TblOk P tb) (he : EqOk P eqs) {kt : TypeId} {r0 : TRow} (hr : tb.get kt = some r0) (ht : keyTop r0.d = true) {key : AV} (w : World) {l : List (AV × AV × Nat)} {es : List MapEntry} {r : Option (Nat × AV)} (hm : es.map tripE = l.map trip) (h : mfind tb eqs kt key l 0 = some r) :
  (Instr.findKey kt key.val es).run P w = .ok (r.map fun p => (p.1, p.2.val)) w := by
 obtain ⟨d, hu, hv⟩ := (hb.get hr).under
 unfold keyTop at ht
 split at ht
 ·
  rename_i k hd
  rw [hd] at hv
  have hd2 : d = .int k := by cases d <;> simp [viewD] at hv; rw [hv]
  rw [hd2] at hu
  unfold Instr.findKey
  rw [Sem.run_bind, run_underlying hu, Result.andThen_ok, findNow_int hr hd hm h]; rfl
 ·
  rename_i fs hd
  rw [hd] at hv
  obtain ⟨gs, rfl, _⟩ := viewD_st hv
  rw [run_findKey_eq w (by rw [hu])]
  exact findAsking_run hb he w hm h
 ·
  rename_i n e hd
  rw [hd] at hv
  rw [viewD_arr hv] at hu
  rw [run_findKey_eq w (by rw [hu])]
  exact findAsking_run hb he w hm h
 ·
  cases ht
theorem mfind_some {kt : TypeId} {key : AV} : ∀ {l : List (AV × AV × Nat)} {i j : Nat} {v : AV}, mfind tb eqs kt key l i = some (some (j, v)) → i ≤ j ∧ ∃ p, l[j - i]? = some p ∧ p.2.1 = v ∧ p.1.val = key.val ∧ p.1.cells = key.cells
 | [], i, j, v, h => by cases h
 | (k, v0, b) :: l, i, j, v, h => by
  simp only [mfind] at h
  split at h
  ·
   rename_i hq
   cases h
   obtain ⟨h1, h2⟩ := eqT_true 64 hq
   exact ⟨Nat.le_refl _, (k, v0, b), by simp, rfl, h2.symm, h1.symm⟩
  ·
   obtain ⟨h1, p, h2, h3⟩ := mfind_some h
   exact ⟨by omega, p, by rw [show j - i = (j - (i + 1)) + 1 by omega]; simpa using h2, h3⟩
  ·
   cases h
theorem mfind_none (hb : TblOk P tb) (he : EqOk P eqs) (w : World) {kt : TypeId} {key : AV} : ∀ {l : List (AV × AV × Nat)} {i : Nat}, mfind tb eqs kt key l i = some none → ∀ p ∈ l, p.1.val ≠ key.val
 | [], i, h, p, hp => by cases hp
 | (k, v0, b) :: l, i, h, p, hp => by
  simp only [mfind] at h
  split at h
  ·
   cases h
  ·
   rename_i hq
   rcases List.mem_cons.1 hp with rfl | hp
   ·
    intro e
    have h1 := eqT_run hb he 64 hq 10000 (by omega) w
    have h2 := eqT_run hb he 64 (eqT_refl 64 hq) 10000 (by omega) w
    rw [e] at h2
    rw [e] at h1
    rw [h1] at h2
    cases h2
   ·
    exact mfind_none hb he w h p hp
  ·
   cases h
end
def simpV : Value → Bool
 | .bool _ => true
 | .int _ _ => true
 | .string _ => true
 | _ => false
theorem sameBits_simp {v : Value} (h : simpV v = true) (n : Nat) : Instr.sameBits n v v = true := by
 cases v <;> simp [simpV] at h <;> simp [Instr.sameBits]
 exact (MapKept.bytes_beq _ _).2 rfl
mutual
theorem keyT_simp {tb : Tbl} : ∀ (d : Nat) {t : TypeId} {x : AV}, keyT tb d t x = true → (∀ c ∈ x.cells, simpV c = true) ∧ (x.isAgg = true ∨ simpV x.val = true)
 | 0, _, _, h => by simp [keyT] at h
 | d + 1, t, x, h => by
  simp only [keyT] at h
  split at h
  ·
   cases h
  ·
   split at h
   ·
    refine ⟨fun c hc => ?_, .inl rfl⟩
    obtain ⟨j, _, rfl⟩ := List.mem_map.1 (show c ∈ (List.range _).map _ from hc); rfl
   ·
    exact ⟨fun c hc => keyF_simp d h c (by rwa [AV.cells_agg] at hc), .inl rfl⟩
   ·
    exact ⟨fun c hc => by simp at hc; subst hc; rfl, .inr rfl⟩
   ·
    exact ⟨fun c hc => by simp at hc; subst hc; rfl, .inr rfl⟩
   ·
    exact ⟨fun c hc => by simp at hc; subst hc; rfl, .inr rfl⟩
   ·
    cases h
theorem keyF_simp {tb : Tbl} : ∀ (d : Nat) {fs : List (Nat × Nat × TypeId)} {run : Nat} {l : AV}, keyF tb d fs run l = true → ∀ c ∈ l.cells, simpV c = true
 | d, fs, run, l, h => by
  cases d with
  | zero => simp [keyF] at h
  | succ d =>
   simp only [keyF] at h
   split at h
   ·
    intro c hc; cases hc
   ·
    simp only [Bool.and_eq_true] at h
    intro c hc
    rw [AV.cells_cons] at hc
    rcases List.mem_append.1 hc with hc | hc
    ·
     exact (keyT_simp d h.1.2).1 c hc
    ·
     exact keyF_simp d h.2 c hc
   ·
    cases h
end
theorem zip_same {n : Nat} : ∀ {l : List Value}, (∀ c ∈ l, simpV c = true) → ((l.zip l).all fun (x, y) => Instr.sameBits n x y) = true
 | [], _ => rfl
 | a :: l, h => by
  rw [List.zip_cons_cons, List.all_cons, zip_same fun c hc => h c (.tail _ hc)]
  simp [sameBits_simp (h a (.head _))]
theorem keyT_stays {P : Program} {tb : Tbl} {t : TypeId} {x : AV} (h : keyT tb 64 t x = true) (w : World) : (Instr.keyThatStays x.val x.val).run P w = .ok x.val w := by
 have : Instr.sameBits 10000 x.val x.val = true := by
  obtain ⟨h1, h2⟩ := keyT_simp 64 h
  rcases h2 with h2 | h2
  ·
   rw [AV.val_of_cells h2]
   show (_ && _) = true
   simp only [beq_self_eq_true, Bool.true_and]
   exact zip_same h1
  ·
   exact sameBits_simp h2 _
 unfold Instr.keyThatStays
 rw [this]; rfl
end Go.Proofs.YtofophjfgalhaaaGreatDoor.V
