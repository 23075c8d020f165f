import Derived.Test.YtofophjfgalhaaaGreatDoorMisdeedPoolsW10
import Derived.Test.YtofophjfgalhaaaGreatDoorMisdeedPoolsW11
import Derived.Deep.Slices
set_option linter.unusedVariables false
set_option linter.unusedSimpArgs false
set_option maxRecDepth 100000
set_option maxHeartbeats 8000000
namespace Go.Proofs.YtofophjfgalhaaaGreatDoor.V
open Go Go.RowKit Go.ChangeShapes Go.WideShapes
instance : Inhabited AV := ⟨.nil⟩
theorem open_slv {H : Type} {enc : TypeId × Value → H} {P : Program} {tb : Tbl} (hb : TblOk P tb) {w : World} {r : Reach} {b0 base fuel n : Nat} {held : Bool} {t e : TypeId} {re : TRow} (ht : P.underlying t = some (.slice e)) (hre : tb.get e = some re)
  (hd : deepOk tb n e = true) {v : Value} {x : DataW H × List MemPlace} (hval : Cell.okWide P w r b0 t v) (hx : DataW.trod enc P w base (fun _ => true) held fuel t [v] = some x) :
  ∃ (p : Option (Nat × Nat)) (len cap : Nat) (f : Nat → AV), v = slV p len cap ∧ len ≤ cap ∧ cap ≤ maxLen ∧ (∀ i, i < len → wfA tb n e (f i) ∧ (f i).size = re.size) ∧
   (len ≠ 0 → ∃ b o, p = some (b, o) ∧ ∀ i, i < len → ∀ k, k < re.size → w.cell? ⟨b, o + i * re.size + k, none⟩ = (f i).cells[k]?) ∧ (len ≠ 0 → ∃ (D : Nat → DataW H) (sp : List (DataW H)), x.1 = .slice ((List.range len).map D) sp) := by
 have hes := cellsOf_row (hb.get hre)
 rcases Go.Deep.open_slice ht hx with ⟨h0, _⟩ | ⟨a, len, cap, m, n', D, Pl, hv, hba, hl, hm, hmm, hxx, hall⟩
 ·
  injection h0 with h0
  exact ⟨none, 0, 0, fun _ => .nil, h0, Nat.le_refl _, Nat.zero_le _, fun i hi => absurd hi (by omega), fun h => absurd rfl h, fun h => absurd rfl h⟩
 ·
  injection hv with hv
  subst hv
  have hsp : a.spot = none := by
   unfold Cell.okWide Cell.ok at hval
   simp only [ht] at hval
   exact hval.2.2.2.1
  have hmc : m = cap := by simpa using hmm
  subst hmc
  obtain ⟨f, hf⟩ := Go.Deep.choose_lt (α := AV) (n := len) (p := fun i av => wfA tb n e av ∧ av.size = re.size ∧ ∀ k, k < re.size → w.cell? ⟨a.block, a.off + i * re.size + k, none⟩ = av.cells[k]?) (fun i hi => by
   obtain ⟨cs', h1, h2⟩ := hall i (by omega)
   obtain ⟨av, h3, h4⟩ := open_plain hb n n' e cs' _ hd h2
   obtain ⟨_, h5, h6⟩ := World.cells?_some h1
   refine ⟨av, h3, by rw [← AV.size_cells, h4, h5, hes], fun k hk => ?_⟩
   rw [h4, ← h6 k (by omega), hes, Go.Deep.add_add]
   congr 1
   unfold Addr.add
   obtain ⟨ab, ao, asp⟩ := a
   cases hsp
   by_cases h0 : i * re.size + k = 0
   ·
    rw [if_pos h0]; simp <;> omega
   ·
    rw [if_neg h0]; simp <;> omega)
  refine ⟨some (a.block, a.off), len, m, f, ?_, hl, hm, fun i hi => ⟨(hf i hi).1, (hf i hi).2.1⟩, fun _ => ⟨_, _, rfl, fun i hi => (hf i hi).2.2⟩, fun _ => ⟨D, _, by rw [hxx]⟩⟩
  obtain ⟨ab, ao, asp⟩ := a
  cases hsp
  rfl
theorem open_roB {w : World} {p : Option (Nat × Nat)} {es len : Nat} {f g : Nat → AV} (hs : ∀ i, i < len → (f i).size = es) (ho : ∀ i, i < len → (f i).one = true)
  (hr : len ≠ 0 → ∃ b o, p = some (b, o) ∧ ∀ i, i < len → ∀ k, k < es → w.cell? ⟨b, o + i * es + k, none⟩ = (f i).cells[k]?) (hg : ∀ i, i < len → f i = g i) : (roB p es len g).holds w :=
 roB_holds fun h0 => by
  obtain ⟨b, o, hp, h⟩ := hr h0
  exact ⟨b, o, hp, fun i hi => ⟨by rw [← hg i hi]; exact hs i hi, by rw [← hg i hi]; exact ho i hi, fun k hk => by rw [← hg i hi]; exact h i hi k hk⟩⟩
end Go.Proofs.YtofophjfgalhaaaGreatDoor.V
namespace Go.Proofs.YtofophjfgalhaaaGreatDoor.V
open Go Go.RowKit Go.ChangeShapes Go.ChangeAt
def Trd {H : Type} (enc : TypeId × Value → H) (P : Program) (w : World) (base : Nat) (t : TypeId) (v : Value) : Prop := ∃ fuel x, DataW.trod enc P w base (fun _ => true) true fuel t [v] = some x
mutual
def wfQ (Q : TypeId → Value → Prop) (tb : Tbl) : Nat → TypeId → AV → Prop
 | 0, _, _ => False
 | n + 1, t, av => match tb.get t with
  | none => False
  | some r => match r.d with
   | .int k => ∃ x, av = .v (.int k x) ∧ (Lit.int k x).wf = true
   | .bool => ∃ b, av = .v (.bool b)
   | .str => ∃ s, av = .v (.string s)
   | .sl _ => ∃ v, av = .v v ∧ Q t v
   | .st fs => ∃ l, av = .agg l ∧ wfQF Q tb n fs l
   | .arr m e => match tb.get e with
    | none => False
    | some re => match isInt re.d with
     | some k => ∃ xs : List Int, av = .ints k m xs ∧ xs.length = m ∧ ∀ x ∈ xs, (Lit.int k x).wf = true
     | none => ∃ l, av = .agg l ∧ wfQR Q tb n e m l
   | _ => False
def wfQF (Q : TypeId → Value → Prop) (tb : Tbl) : Nat → List (Nat × Nat × TypeId) → AV → Prop
 | _, [], l => l = .nil
 | n, f :: r, l => ∃ a b, l = .cons a b ∧ wfQ Q tb n f.2.2 a ∧ wfQF Q tb n r b
def wfQR (Q : TypeId → Value → Prop) (tb : Tbl) : Nat → TypeId → Nat → AV → Prop
 | _, _, 0, l => l = .nil
 | n, e, m + 1, l => ∃ a b, l = .cons a b ∧ wfQ Q tb n e a ∧ wfQR Q tb n e m b
end
theorem wfQF_of {Q : TypeId → Value → Prop} {tb : Tbl} {n : Nat} {cs : List Value} : ∀ {L : List (Nat × Nat × TypeId)} {o : Nat}, layF o L cs.length = true →
  (∀ f ∈ L, ∃ av, wfQ Q tb n f.2.2 av ∧ av.cells = (cs.drop f.1).take f.2.1) → ∃ l, wfQF Q tb n L l ∧ l.cells = cs.drop o
 | [], o, hl, _ => by
  have := Nat.eq_of_beq_eq_true hl
  exact ⟨.nil, by unfold wfQF; rfl, by rw [this]; simp⟩
 | (p, sz, t) :: r, o, hl, h => by
  simp only [layF, Bool.and_eq_true] at hl
  have hp := Nat.eq_of_beq_eq_true hl.1
  subst hp
  obtain ⟨a, ha1, ha2⟩ := h _ (.head _)
  obtain ⟨b, hb1, hb2⟩ := wfQF_of (L := r) (o := p + sz) hl.2 (fun f hf => h f (.tail _ hf))
  refine ⟨.cons a b, ?_, ?_⟩
  ·
   unfold wfQF; exact ⟨a, b, rfl, ha1, hb1⟩
  ·
   rw [AV.cells_cons, ha2, hb2, ← List.drop_drop, List.take_append_drop]
theorem wfQR_of {Q : TypeId → Value → Prop} {tb : Tbl} {n : Nat} {cs : List Value} {e es : Nat} : ∀ {m o : Nat}, o + m * es = cs.length →
  (∀ i, i < m → ∃ av, wfQ Q tb n e av ∧ av.cells = (cs.drop (o + i * es)).take es) → ∃ l, wfQR Q tb n e m l ∧ l.cells = cs.drop o
 | 0, o, hl, _ => ⟨.nil, by unfold wfQR; rfl, by rw [List.drop_of_length_le (by omega)]; rfl⟩
 | m + 1, o, hl, h => by
  obtain ⟨a, ha1, ha2⟩ := h 0 (by omega)
  obtain ⟨b, hb1, hb2⟩ := wfQR_of (m := m) (o := o + es) (es := es) (by rw [← hl, Nat.add_mul]; omega) (fun i hi => by
   obtain ⟨av, h1, h2⟩ := h (i + 1) (by omega)
   exact ⟨av, h1, by rw [h2, Nat.add_mul]; congr 2; omega⟩)
  refine ⟨.cons a b, ?_, ?_⟩
  ·
   unfold wfQR; exact ⟨a, b, rfl, ha1, hb1⟩
  ·
   rw [AV.cells_cons, ha2, hb2, Nat.zero_mul, Nat.add_zero, ← List.drop_drop, List.take_append_drop]
theorem open_plainQ {H : Type} {enc : TypeId × Value → H} {P : Program} {tb : Tbl} {Q : TypeId → Value → Prop} (hb : TblOk P tb) {w : World} {base : Nat} {spare : Nat → Bool} {held : Bool} (hQ : ∀ t e fuel v x, P.underlying t = some (.slice e) → DataW.trod enc P w base spare held fuel t [v] = some x → Q t v) :
  ∀ (n fuel : Nat) (t : TypeId) (cs : List Value) (x : DataW H × List MemPlace), deepOk tb n t = true → DataW.trod enc P w base spare held fuel t cs = some x → ∃ av, wfQ Q tb n t av ∧ av.cells = cs
 | 0, _, _, _, _, h, _ => by cases h
 | n + 1, fuel, t, cs, x, hd, hx => by
  simp only [deepOk] at hd
  split at hd
  ·
   cases hd
  ·
   rename_i r hr
   obtain ⟨d, hu, hv⟩ := (hb.get hr).under
   have hsz := cellsOf_row (hb.get hr)
   split at hd
   ·
    rename_i k hk
    rw [hk] at hv
    have : d = .int k := by cases d <;> simp [viewD] at hv; rw [hv]
    subst this
    cases fuel with
    | zero => simp [DataW.trod] at hx
    | succ m =>
     unfold DataW.trod at hx
     rw [hu] at hx
     split at hx <;> simp_all
     rename_i k' z _
     obtain ⟨⟨rfl, hwf⟩, _⟩ := hx
     exact ⟨.v (.int k' z), by unfold wfQ; simp [hr, hk, hwf], rfl⟩
   ·
    rename_i hk
    rw [hk] at hv
    have : d = .bool := by cases d <;> simp [viewD] at hv; rfl
    subst this
    cases fuel with
    | zero => simp [DataW.trod] at hx
    | succ m =>
     unfold DataW.trod at hx
     rw [hu] at hx
     split at hx <;> simp_all
     exact ⟨.v (.bool _), by unfold wfQ; simp [hr, hk], rfl⟩
   ·
    rename_i hk
    rw [hk] at hv
    have : d = .string := by cases d <;> simp [viewD] at hv; rfl
    subst this
    cases fuel with
    | zero => simp [DataW.trod] at hx
    | succ m =>
     unfold DataW.trod at hx
     rw [hu] at hx
     split at hx <;> simp_all
     exact ⟨.v (.string _), by unfold wfQ; simp [hr, hk], rfl⟩
   ·
    rename_i e hk
    rw [hk] at hv
    have : d = .slice e := viewD_sl hv
    subst this
    obtain ⟨v, rfl⟩ : ∃ v, cs = [v] := by
     rcases Go.Deep.open_slice hu hx with ⟨h0, _⟩ | ⟨a, len, cap, m, n', D, Pl, hv, _⟩
     ·
      exact ⟨_, h0⟩
     ·
      exact ⟨_, hv⟩
    exact ⟨.v v, by unfold wfQ; simp only [hr, hk]; exact ⟨v, rfl, hQ _ _ _ _ _ hu hx⟩, rfl⟩
   ·
    rename_i fs hk
    simp only [Bool.and_eq_true] at hd
    rw [hk] at hv
    obtain ⟨fa, rfl⟩ : ∃ fa, d = .struct fa := by cases d <;> simp [viewD] at hv; exact ⟨_, rfl⟩
    simp only [viewD, TD.st.injEq] at hv
    obtain ⟨xs, m, rfl, rfl, hlen, hxl, hf⟩ := DataW.trod_struct hu hx
    rw [hsz] at hlen
    rw [← hlen] at hd
    obtain ⟨l, h1, h2⟩ := wfQF_of (tb := tb) (n := n) (cs := cs) hd.1 (fun f hfm => by
     have hdf := List.all_eq_true.1 hd.2 f hfm
     rw [← hv] at hfm
     obtain ⟨g, hg, rfl⟩ := List.mem_map.1 hfm
     obtain ⟨i, hi, hgi⟩ := List.getElem_of_mem hg
     have hfi := hf i g (by rw [Array.getElem?_eq_getElem (by simpa using hi)]; simpa using hgi)
     have hix : i < xs.length := by rw [hxl]; simpa using hi
     rw [List.getElem?_eq_getElem hix] at hfi
     exact open_plainQ hb hQ n m g.type _ _ hdf hfi)
    exact ⟨.agg l, by unfold wfQ; simp only [hr, hk]; exact ⟨l, rfl, h1⟩, by rw [AV.cells_agg, h2]; rfl⟩
   ·
    rename_i m e hk
    split at hd
    ·
     rename_i re hre
     simp only [Bool.and_eq_true] at hd
     rw [hk] at hv
     have : d = .array m e := viewD_arr hv
     subst this
     obtain ⟨xs, f2, rfl, rfl, hlen, hxl, hf⟩ := DataW.trod_array hu hx
     rw [hsz] at hlen
     have hes := cellsOf_row (hb.get hre)
     have hms := Nat.eq_of_beq_eq_true hd.1.1
     have hall : ∀ i, i < m → ∃ av, wfQ Q tb n e av ∧ av.cells = (cs.drop (0 + i * re.size)).take re.size := fun i hi => by
      have hfi := hf i hi
      rw [List.getElem?_eq_getElem (by omega), hes] at hfi
      rw [Nat.zero_add]
      exact open_plainQ hb hQ n f2 e _ _ hd.1.2 hfi
     cases hki : isInt re.d with
     | none =>
      obtain ⟨l, h1, h2⟩ := wfQR_of (tb := tb) (n := n) (cs := cs) (e := e) (es := re.size) (m := m) (o := 0) (by omega) hall
      exact ⟨.agg l, by unfold wfQ; simp only [hr, hk, hre, hki]; exact ⟨l, rfl, h1⟩, by rw [AV.cells_agg, h2]; rfl⟩
     | some k =>
      have hre1 : re.size = 1 := by
       have := hd.2
       rw [hki] at this
       simpa using this
      have hdk : re.d = .int k := by
       unfold isInt at hki
       split at hki
       ·
        cases hki; assumption
       ·
        cases hki
      rw [hre1] at hall hms
      have hcl : cs.length = m := by omega
      have hint : ∀ i, i < m → ∃ z, cs[i]? = some (.int k z) ∧ (Lit.int k z).wf = true := fun i hi => by
       obtain ⟨av, h1, h2⟩ := hall i hi
       cases n with
       | zero => unfold wfQ at h1; exact h1.elim
       | succ n =>
        unfold wfQ at h1
        simp only [hre, hdk] at h1
        obtain ⟨z, rfl, hz⟩ := h1
        refine ⟨z, ?_, hz⟩
        have := congrArg (fun l => l[0]?) h2
        rw [Nat.zero_add, Nat.mul_one] at this
        simp only [AV.cells_v, List.getElem?_cons_zero, List.getElem?_take, List.getElem?_drop] at this
        simpa using this.symm
      refine ⟨.ints k m (cs.map fun v => match v with | .int _ z => z | _ => 0), ?_, ?_⟩
      ·
       unfold wfQ
       simp only [hr, hk, hre, hki]
       refine ⟨_, rfl, by simpa using hcl, fun z hz => ?_⟩
       obtain ⟨v, hv, rfl⟩ := List.mem_map.1 hz
       obtain ⟨i, hi, hvi⟩ := List.getElem_of_mem hv
       obtain ⟨z, h1, h2⟩ := hint i (by omega)
       rw [List.getElem?_eq_getElem hi, hvi] at h1
       cases h1
       exact h2
      ·
       apply List.ext_getElem?
       intro i
       by_cases hi : i < m
       ·
        rw [ints_get k m _ hi]
        obtain ⟨z, h1, _⟩ := hint i hi
        rw [List.getD_eq_getElem?_getD, List.getElem?_map, h1]; rfl
       ·
        rw [List.getElem?_eq_none (by rw [AV.size_cells]; show m ≤ i; omega), List.getElem?_eq_none (by omega)]
    ·
     cases hd
   ·
    cases hd
mutual
theorem wfQ_one {Q : TypeId → Value → Prop} (hQ : ∀ t v, Q t v → v.oneCell' = true) {tb : Tbl} : ∀ {n : Nat} {t : TypeId} {av : AV}, wfQ Q tb n t av → av.one = true
 | 0, _, _, h => by unfold wfQ at h; exact h.elim
 | n + 1, t, av, h => by
  unfold wfQ at h
  split at h
  ·
   exact h.elim
  ·
   split at h
   ·
    obtain ⟨x, rfl, _⟩ := h; rfl
   ·
    obtain ⟨x, rfl⟩ := h; rfl
   ·
    obtain ⟨x, rfl⟩ := h; rfl
   ·
    obtain ⟨v, rfl, h⟩ := h; exact hQ _ _ h
   ·
    obtain ⟨l, rfl, h⟩ := h; exact show l.one = true from wfQF_one hQ h
   ·
    split at h
    ·
     exact h.elim
    ·
     split at h
     ·
      obtain ⟨x, rfl, _⟩ := h; rfl
     ·
      obtain ⟨l, rfl, h⟩ := h; exact show l.one = true from wfQR_one hQ h
   ·
    exact h.elim
theorem wfQF_one {Q : TypeId → Value → Prop} (hQ : ∀ t v, Q t v → v.oneCell' = true) {tb : Tbl} : ∀ {n : Nat} {L : List (Nat × Nat × TypeId)} {l : AV}, wfQF Q tb n L l → l.one = true
 | _, [], _, h => by unfold wfQF at h; subst h; rfl
 | n, f :: r, _, h => by
  unfold wfQF at h
  obtain ⟨a, b, rfl, h1, h2⟩ := h
  show (a.one && b.one) = true
  rw [wfQ_one hQ h1, wfQF_one hQ h2]; rfl
theorem wfQR_one {Q : TypeId → Value → Prop} (hQ : ∀ t v, Q t v → v.oneCell' = true) {tb : Tbl} : ∀ {n : Nat} {e : TypeId} {m : Nat} {l : AV}, wfQR Q tb n e m l → l.one = true
 | _, _, 0, _, h => by unfold wfQR at h; subst h; rfl
 | n, e, m + 1, _, h => by
  unfold wfQR at h
  obtain ⟨a, b, rfl, h1, h2⟩ := h
  show (a.one && b.one) = true
  rw [wfQ_one hQ h1, wfQR_one hQ h2]; rfl
end
theorem Trd.one {H : Type} {enc : TypeId × Value → H} {P : Program} {w : World} {base : Nat} {t e : TypeId} {v : Value} (hu : P.underlying t = some (.slice e)) (h : Trd enc P w base t v) : v.oneCell' = true := by
 obtain ⟨fuel, x, hx⟩ := h
 rcases Go.Deep.open_slice hu hx with ⟨h0, _⟩ | ⟨a, len, cap, m, n', D, Pl, hv, _⟩
 ·
  cases h0; rfl
 ·
  cases hv; rfl
theorem Trd.open {H : Type} {enc : TypeId × Value → H} {P : Program} {tb : Tbl} (hb : TblOk P tb) {w : World} {base n : Nat} {t e : TypeId} {re : TRow} (hu : P.underlying t = some (.slice e)) (hre : tb.get e = some re) (hd : deepOk tb n e = true) (hsz : 0 < re.size) {v : Value} (h : Trd enc P w base t v) :
  (∃ p cap, v = .slice p 0 cap) ∨ ∃ (b o len cap : Nat) (f : Nat → AV), v = slV (some (b, o)) len cap ∧ 0 < len ∧ len ≤ cap ∧ cap ≤ maxLen ∧ ∀ i, i < len → wfQ (fun t v => (∃ e, P.underlying t = some (.slice e)) ∧ Trd enc P w base t v) tb n e (f i) ∧ (f i).size = re.size ∧ ∀ k, k < re.size → w.cell? ⟨b, o + i * re.size + k, none⟩ = (f i).cells[k]? := by
 obtain ⟨fuel, x, hx⟩ := h
 have hes := cellsOf_row (hb.get hre)
 rcases Go.Deep.open_slice hu hx with ⟨h0, _⟩ | ⟨a, len, cap, m, n', D, Pl, hv, hba, hl, hm, hmm, hxx, hall⟩
 ·
  cases h0; exact .inl ⟨_, _, rfl⟩
 ·
  cases hv
  rcases Nat.eq_zero_or_pos len with h0 | h0
  ·
   subst h0; exact .inl ⟨_, _, rfl⟩
  ·
   have hmc : m = cap := by simpa using hmm
   subst hmc
   obtain ⟨cs0, g1, _⟩ := hall 0 (by omega)
   obtain ⟨_, g2, g3⟩ := World.cells?_some g1
   have hsp : a.spot = none := by
    have h4 := g3 0 (by rw [hes]; exact hsz)
    rw [Nat.zero_mul] at h4
    have h5 : (a.add 0).add 0 = a := rfl
    rw [h5, List.getElem?_eq_getElem (by rw [g2, hes]; exact hsz)] at h4
    unfold World.cell? at h4
    split at h4
    ·
     split at h4
     ·
      cases h4
     ·
      rename_i hs; cases hh : a.spot with
      | none => rfl
      | some z => rw [hh] at hs; exact absurd rfl hs
    ·
     cases h4
   obtain ⟨f, hf⟩ := Go.Deep.choose_lt (α := AV) (n := len) (p := fun i av => wfQ (fun t v => (∃ e, P.underlying t = some (.slice e)) ∧ Trd enc P w base t v) tb n e av ∧ av.size = re.size ∧ ∀ k, k < re.size → w.cell? ⟨a.block, a.off + i * re.size + k, none⟩ = av.cells[k]?) (fun i hi => by
    obtain ⟨cs', h1, h2⟩ := hall i (by omega)
    obtain ⟨av, h3, h4⟩ := open_plainQ (Q := fun t v => (∃ e, P.underlying t = some (.slice e)) ∧ Trd enc P w base t v) hb (fun t e fuel v x h1 h2 => ⟨⟨e, h1⟩, fuel, x, h2⟩) n n' e cs' _ hd h2
    obtain ⟨_, h5, h6⟩ := World.cells?_some h1
    refine ⟨av, h3, by rw [← AV.size_cells, h4, h5, hes], fun k hk => ?_⟩
    rw [h4, ← h6 k (by omega), hes, Go.Deep.add_add]
    congr 1
    unfold Addr.add
    obtain ⟨ab, ao, asp⟩ := a
    cases hsp
    by_cases h0 : i * re.size + k = 0
    ·
     rw [if_pos h0]; simp <;> omega
    ·
     rw [if_neg h0]; simp <;> omega)
   refine .inr ⟨a.block, a.off, len, m, f, ?_, h0, hl, hm, hf⟩
   obtain ⟨ab, ao, asp⟩ := a
   cases hsp
   rfl
end Go.Proofs.YtofophjfgalhaaaGreatDoor.V
namespace Go.Proofs.YtofophjfgalhaaaGreatDoor.V
open Go Go.RowKit
def pairN (a b : Nat) : Nat := (a + b) * (a + b) + a
theorem pairN_inj {a b c d : Nat} (h : pairN a b = pairN c d) : a = c ∧ b = d := by
 unfold pairN at h
 have key : ∀ {s t a c : Nat}, a ≤ s → s * s + a = t * t + c → ¬ s < t := by
  intro s t a c ha he hlt
  have h1 : (s + 1) * (s + 1) ≤ t * t := Nat.mul_self_le_mul_self hlt
  have h2 : (s + 1) * (s + 1) = s * s + s + s + 1 := by rw [Nat.add_mul, Nat.mul_add]; omega
  omega
 have h1 := key (Nat.le_add_right a b) h
 have h2 := key (Nat.le_add_right c d) h.symm
 have h3 : a + b = c + d := by omega
 rw [h3] at h
 omega
def hx (b o n : Nat) : Nat := pairN (pairN b o) n
theorem hx_inj {b o n b' o' n' : Nat} (h : hx b o n = hx b' o' n') : b = b' ∧ o = o' ∧ n = n' := by
 obtain ⟨h1, h2⟩ := pairN_inj h
 obtain ⟨h3, h4⟩ := pairN_inj h1
 exact ⟨h3, h4, h2⟩
def hxA (a : Option Addr) (n : Nat) : Nat := match a with
 | some a => hx a.block a.off n
 | none => 0
def Stand (w : World) (es : Nat) (Pr : AV → Prop) (b o n : Nat) : Prop := ∀ i, i < n → ∃ av, Pr av ∧ av.size = es ∧ av.one = true ∧ ∀ k, k < es → w.cell? ⟨b, o + i * es + k, none⟩ = av.cells[k]?
open Classical in
theorem uni_exists (w : World) (es : Nat) (Pr : AV → Prop) : ∃ (base : Nat → Option (Nat × Nat)) (len : Nat → Nat) (f : Nat → Nat → AV), (Blk.vro es base len f).holds w ∧
  ∀ b o n, Stand w es Pr b o n → base (hx b o n) = some (b, o) ∧ len (hx b o n) = n ∧ ∀ i, i < n → Pr (f (hx b o n) i) := by
 have ch : ∀ ix : Nat, ∃ q : Option (Nat × Nat) × Nat × (Nat → AV), ((q.1 = none → q.2.1 = 0) ∧ ∀ b o, q.1 = some (b, o) → ∀ i, i < q.2.1 → (q.2.2 i).size = es ∧ (q.2.2 i).one = true ∧ ∀ k, k < es → w.cell? ⟨b, o + i * es + k, none⟩ = (q.2.2 i).cells[k]?) ∧
   ∀ b o n, ix = hx b o n → Stand w es Pr b o n → q.1 = some (b, o) ∧ q.2.1 = n ∧ ∀ i, i < n → Pr (q.2.2 i) := by
  intro ix
  by_cases h : ∃ b o n, ix = hx b o n ∧ Stand w es Pr b o n
  ·
   obtain ⟨b, o, n, h1, h2⟩ := h
   refine ⟨(some (b, o), n, fun i => if h : i < n then Classical.choose (h2 i h) else .nil), ⟨fun h => (by cases h), fun b' o' he i hi => ?_⟩, fun b' o' n' h3 _ => ?_⟩
   ·
    cases he
    have hi : i < n := hi
    dsimp only
    rw [dif_pos hi]
    exact (Classical.choose_spec (h2 i hi)).2
   ·
    obtain ⟨rfl, rfl, rfl⟩ := hx_inj (h1.symm.trans h3)
    refine ⟨rfl, rfl, fun i hi => ?_⟩
    dsimp only
    rw [dif_pos hi]
    exact (Classical.choose_spec (h2 i hi)).1
  ·
   exact ⟨(none, 0, fun _ => .nil), ⟨fun _ => rfl, fun b o h => (by cases h)⟩, fun b o n h1 h2 => absurd ⟨b, o, n, h1, h2⟩ h⟩
 refine ⟨fun ix => (Classical.choose (ch ix)).1, fun ix => (Classical.choose (ch ix)).2.1, fun ix => (Classical.choose (ch ix)).2.2, fun ix => (Classical.choose_spec (ch ix)).1, fun b o n h => (Classical.choose_spec (ch (hx b o n))).2 b o n rfl h⟩
section
variable {X : Cx} {tm : Tm} {M : Mem}
theorem le_sub {n k ix es m b o : Nat} {base : Nat → Option (Nat × Nat)} {len : Nat → Nat} {f : Nat → Nat → AV} {g : Nat → AV} (hn : Nat.beq n 777777 = false) (h : M.get k = some (.vro es base len f)) (hb : base ix = some (b, o)) (hl : m ≤ len ix) (hg : ∀ i, i < m → g i = f ix i) :
  Le X tm M tm ((n, roB (some (b, o)) es m g) :: M) := by
 intro a w ha
 have get : ∀ {m' : Nat} {C : Blk}, Mem.get ((n, roB (some (b, o)) es m g) :: M) m' = some C → (m' = n ∧ C = roB (some (b, o)) es m g) ∨ M.get m' = some C := by
  intro m' C h
  rw [Mem.get_cons] at h
  split at h
  ·
   rename_i q; exact .inl ⟨q.symm, (Option.some.inj h).symm⟩
  ·
   exact .inr h
 have hrd : ∀ j, (roB (some (b, o)) es m g).reads j → (Blk.vro es base len f).reads j := by
  rintro j ⟨he, ix', o', hl', hb'⟩
  have hl' : 0 < m := hl'
  refine ⟨he, ix, o, by omega, ?_⟩
  have hb' : some (b, o) = some (j, o') := hb'
  cases hb'
  exact hb
 refine ⟨⟨ha.T.size, fun t e ht => ha.T.slot t e ht⟩, ?_, ⟨ha.S.keeps, ?_, ?_, ?_, ?_⟩⟩
 ·
  rw [ha.d]
  unfold Mem.dfs
  rw [Mem.get_cons, if_neg (fun e => by rw [e] at hn; simp at hn)]
 ·
  intro m' C h2
  rcases get h2 with ⟨_, rfl⟩ | h2
  ·
   refine roB_holds fun _ => ⟨b, o, rfl, fun i hi => ?_⟩
   rw [hg i hi]
   exact (ha.S.holds _ _ h ix).2 b o hb i (Nat.lt_of_lt_of_le hi hl)
  ·
   exact ha.S.holds _ _ h2
 ·
  intro m' C j h2 h3
  rcases get h2 with ⟨_, rfl⟩ | h2
  ·
   exact (roB_noOwn j h3).elim
  ·
   exact ha.S.own _ _ _ h2 h3
 ·
  intro m1 m2 C C' j h1 h2 o1 o2
  rcases get h1 with ⟨_, rfl⟩ | h1
  ·
   exact (roB_noOwn j o1).elim
  ·
   rcases get h2 with ⟨_, rfl⟩ | h2
   ·
    exact (roB_noOwn j o2).elim
   ·
    exact ha.S.apart _ _ _ _ _ h1 h2 o1 o2
 ·
  intro m1 m2 C C' j h1 h2 o1 r2
  rcases get h1 with ⟨_, rfl⟩ | h1
  ·
   exact (roB_noOwn j o1).elim
  ·
   rcases get h2 with ⟨_, rfl⟩ | h2
   ·
    exact ha.S.roapart _ _ _ _ _ h1 h o1 (hrd j r2)
   ·
    exact ha.S.roapart _ _ _ _ _ h1 h2 o1 r2
end
def comeIn (M : MemF) (tag es : Nat) {α : Type} (dec : AV → α) (enc : α → AV) (a : Option Addr) (n : Nat) : Option (Prop × List α) := match M tag with
 | some (.vro es' base len f) => some (n ≤ 9223372036854775807 ∧ (n ≠ 0 → es' = es ∧ ∃ b o, a = some ⟨b, o, none⟩ ∧ base (hx b o n) = some (b, o) ∧ n ≤ len (hx b o n) ∧ ∀ i, i < n → f (hx b o n) i = enc (dec (f (hx b o n) i))), (List.range n).map fun i => dec (f (hxA a n) i))
 | _ => none
theorem comeIn_spec {M : MemF} {tag es : Nat} {α : Type} [Inhabited α] {dec : AV → α} {enc : α → AV} {a : Option Addr} {n : Nat} {c : Prop} {l : List α} (h : comeIn M tag es dec enc a n = some (c, l)) (hc : c) :
  n ≤ 9223372036854775807 ∧ l.length = n ∧ (n ≠ 0 → ∃ base len f b o, M tag = some (.vro es base len f) ∧ a = some ⟨b, o, none⟩ ∧ base (hx b o n) = some (b, o) ∧ n ≤ len (hx b o n) ∧ ∀ i, i < n → f (hx b o n) i = enc (l.getD i default)) := by
 unfold comeIn at h
 split at h
 ·
  rename_i es' base len f hM
  cases h
  obtain ⟨h1, h2⟩ := hc
  refine ⟨h1, by simp, fun h0 => ?_⟩
  obtain ⟨rfl, b, o, rfl, h4, h5, h6⟩ := h2 h0
  refine ⟨base, len, f, b, o, hM, rfl, h4, h5, fun i hi => ?_⟩
  rw [List.getD_eq_getElem?_getD, List.getElem?_map, List.getElem?_range hi]
  exact h6 i hi
 ·
  cases h
theorem comeIn_ro {O : Nat → Prop} {w0 w : World} {M : MemF} (hS : Sat O w0 M w) {tag es : Nat} {α : Type} [Inhabited α] {dec : AV → α} {enc : α → AV} {a : Option Addr} {n cap : Nat} {c : Prop} {l : List α} (h : comeIn M tag es dec enc a n = some (c, l)) (hc : c) :
  (∃ base, Value.slice a n cap = slV base n cap ∧ (roB base es n fun i => enc (l.getD i default)).holds w) ∨ n = 0 ∧ l = [] := by
 obtain ⟨_, hl, h2⟩ := comeIn_spec h hc
 rcases Nat.eq_zero_or_pos n with h0 | h0
 ·
  exact .inr ⟨h0, List.length_eq_zero_iff.1 (hl.trans h0)⟩
 ·
  obtain ⟨base, len, f, b, o, hM, rfl, h4, h5, h6⟩ := h2 (by omega)
  refine .inl ⟨some (b, o), rfl, roB_holds fun _ => ⟨b, o, rfl, fun i hi => ?_⟩⟩
  have h7 := (hS.holds _ _ hM _).2 b o h4 i (Nat.lt_of_lt_of_le hi h5)
  rw [h6 i hi] at h7
  exact h7
section
variable {X : Cx} {tm : Tm} {M : Mem}
theorem o_resG {l0 : List Oper} {i : Nat} {o : Oper} {rest : List Oper} {K : Tm → Mem → Prop} {g : Bool} {d : Nat} {β : Type} {ok : Prop} {can : β → Prop} {out : β → AV} {tags : List Nat} {mem : β → List Blk} (hgd : guardOf (dstL l0) tm.get o.guard = some (some g)) (hg : g = true) (hd : o.dst = some d) (hlt : Nat.blt d X.N = true)
  (h : xeval X.E M.get tm.get (some g) d o.op = some ⟨β, ok, can, out, tags, mem⟩) (hok : ok) (hnd : noDfr tags = true) (hk : ∀ x, can x → OpsS X l0 (i + 1) rest ((d, none, out x) :: tm) (Mem.app (zipM tags (mem x)) M) K) : OpsS X l0 i (o :: rest) tm M K := by
 intro hl a w Q ha hQ
 obtain ⟨h1, h2⟩ := drop_succ hl
 rw [List.length_cons]
 refine wpOps_step h1 ?_
 have hgs := guard_sound ha.T dstL_at hgd
 rw [if_pos (hgs.2 hg)]
 refine xeval_ok X.hb X.he X.hct X.hcr X.N M.get tm.get (some g) d a w o _ h hok ha.T ha.S hg _ Q fun x w' hc ht => hk x hc h2 _ w' Q ?_ hQ
 have := ha.put (d := o.dst) (fun d' hd' => by rw [hd] at hd'; cases hd'; exact hlt) (g := none) (av := out x) rfl ht (tm' := putT o.dst none (out x) tm) (M' := Mem.app (zipM tags (mem x)) M) rfl (Mem.app_get _ _) (app_dfs (zipM_dfr hnd))
 rw [hd] at this ⊢
 exact this
theorem o_skipG {l0 : List Oper} {i : Nat} {o : Oper} {rest : List Oper} {K : Tm → Mem → Prop} {g : Bool} {d : Nat} (av : AV) (hgd : guardOf (dstL l0) tm.get o.guard = some (some g)) (hg : g = false) (hd : o.dst = some d) (hlt : Nat.blt d X.N = true)
  (hk : OpsS X l0 (i + 1) rest ((d, some false, av) :: tm) M K) : OpsS X l0 i (o :: rest) tm M K := by
 intro hl a w Q ha hQ
 obtain ⟨h1, h2⟩ := drop_succ hl
 rw [List.length_cons]
 refine wpOps_step h1 ?_
 have hgs := guard_sound ha.T dstL_at hgd
 have hw : ¬ Region.wanted o (yielded l0.toArray a.tmps) = true := fun hw => by have : g = true := hgs.1 hw; rw [hg] at this; cases this
 rw [if_neg hw]
 have := ha.put (d := o.dst) (fun d' hd' => by rw [hd] at hd'; cases hd'; exact hlt) (g := some false) (av := av) (v := undef) rfl (Turn.below (Below.refl _ _)) (L := []) (tm' := putT o.dst (some false) av tm) (M' := M) rfl (by rw [show (Mem.get [] : MemF) = fun _ => none from rfl, updM_none]) rfl
 rw [hd] at this ⊢
 exact hk h2 _ w Q this hQ
end
section
variable {P : Program} {ct : CtL} {cr : CrL} {f : FuncId} {fn : Func} {c : Code}
theorem turn_two (B : Tabs P) (hct : CtLOk P ct) (hcr : CrLOk P cr) (hf : P.funcs[f]? = some fn) (hbd : fn.body = some c) {args : List AV} (hlen : Nat.ble args.length fn.ntmps = true) {M : MemF} {O0 : Nat → Prop} {w0 w : World} (hS0 : Sat O0 w0 M w) (r : Res) {n1 n2 : Nat} {B1 B2 C1 C2 : Blk} (hM1 : M n1 = some B1) (hM2 : M n2 = some B2) (hne : n1 ≠ n2) (ro : Mem) (htag : r.tags = [n1, n2]) (hd : Mem.dfs ((900, C1) :: (901, C2) :: ro) = [])
  (h1 : C1.holds w) (hown1 : ∀ k, C1.own k → B1.own k) (hrd1 : ∀ k, ¬ C1.reads k) (h2 : C2.holds w) (hown2 : ∀ k, C2.own k → B2.own k) (hrd2 : ∀ k, ¬ C2.reads k) (hro : allHold w ro) (hno : noOwn ro) (hap1 : apartL B1 ro) (hap2 : apartL B2 ro)
  (h : CodeS (cx B ct hct cr hcr (fun b => ∃ a m C, (a, m) ∈ [(900, n1), (901, n2)] ∧ M m = some C ∧ C.own b) w fn.ntmps) c (argsTm 0 args) ((900, C1) :: (901, C2) :: ro) (retK (cx B ct hct cr hcr (fun b => ∃ a m C, (a, m) ∈ [(900, n1), (901, n2)] ∧ M m = some C ∧ C.own b) w fn.ntmps) fn fun av M' => ∃ x, r.can x ∧ av.val = (r.out x).val ∧ outsOk M' [900, 901] (r.mem x))) :
  Calls P f (args.map AV.val).toArray w fun e w' => ∃ x, r.can x ∧ e = .returned (r.out x).val ∧ Turn M w w' (zipM r.tags (r.mem x)).get := by
 have get : ∀ {n' : Nat} {B' : Blk}, Mem.get ((900, C1) :: (901, C2) :: ro) n' = some B' → (n' = 900 ∧ B' = C1) ∨ (n' = 901 ∧ B' = C2) ∨ ro.get n' = some B' := by
  intro n' B' hn
  rw [Mem.get_cons] at hn
  split at hn
  ·
   rename_i e; cases hn; exact .inl ⟨e.symm, rfl⟩
  ·
   rw [Mem.get_cons] at hn
   split at hn
   ·
    rename_i e; cases hn; exact .inr (.inl ⟨e.symm, rfl⟩)
   ·
    exact .inr (.inr hn)
 have pr : ∀ {a m : Nat}, (a, m) ∈ [(900, n1), (901, n2)] → (a = 900 ∧ m = n1) ∨ (a = 901 ∧ m = n2) := by
  intro a m h
  simpa using h
 refine turn_fn B hct hcr hf hbd hlen hS0 r ((900, C1) :: (901, C2) :: ro) [(900, n1), (901, n2)] [900, 901] hd ⟨h1, h2, hro⟩ (fun n' B' k hn ho => ?_) (fun n' B' k hn hr n2' C n3 hin hM3 ho2 => ?_) (fun a b m e1 e2 => ?_) (fun a m e => ?_) (by decide) (by rw [htag]; rfl) h
 ·
  rcases get hn with ⟨rfl, rfl⟩ | ⟨rfl, rfl⟩ | hn
  ·
   exact ⟨n1, B1, .head _, hM1, hown1 k ho⟩
  ·
   exact ⟨n2, B2, .tail _ (.head _), hM2, hown2 k ho⟩
  ·
   exact (noOwn_get hno _ _ _ hn ho).elim
 ·
  rcases get hn with ⟨rfl, rfl⟩ | ⟨rfl, rfl⟩ | hn
  ·
   exact hrd1 k hr
  ·
   exact hrd2 k hr
  ·
   rcases pr hin with ⟨_, rfl⟩ | ⟨_, rfl⟩
   ·
    rw [hM1] at hM3; cases hM3; exact apartL_get hap1 _ _ _ hn hr ho2
   ·
    rw [hM2] at hM3; cases hM3; exact apartL_get hap2 _ _ _ hn hr ho2
 ·
  rcases pr e1 with ⟨q1, q2⟩ | ⟨q1, q2⟩ <;> rcases pr e2 with ⟨q3, q4⟩ | ⟨q3, q4⟩
  ·
   rw [q1, q3]
  ·
   exact absurd (q2.symm.trans q4) hne
  ·
   exact absurd (q4.symm.trans q2) hne
  ·
   rw [q1, q3]
 ·
  rcases pr e with ⟨_, rfl⟩ | ⟨_, rfl⟩
  ·
   rw [htag]; exact .head _
  ·
   rw [htag]; exact .tail _ (.head _)
end
theorem le_blk {X : Cx} {tm : Tm} {M : Mem} {k : Nat} {B B' : Blk} (hk : Nat.beq k 777777 = false) (h : M.get k = some B) (hl : B.le B') : Le X tm M tm ((k, B') :: M) := by
 intro a w ha
 refine ⟨⟨ha.T.size, fun t e ht => ha.T.slot t e ht⟩, ?_, ha.S.weaken fun n C hn => ?_⟩
 ·
  rw [ha.d]
  unfold Mem.dfs
  rw [Mem.get_cons, if_neg (fun e => by rw [e] at hk; simp at hk)]
 ·
  rw [Mem.get_cons] at hn
  split at hn
  ·
   rename_i e
   cases hn
   exact ⟨B, by rw [← e]; exact h, hl⟩
  ·
   exact ⟨C, hn, Blk.le_refl _⟩
end Go.Proofs.YtofophjfgalhaaaGreatDoor.V
