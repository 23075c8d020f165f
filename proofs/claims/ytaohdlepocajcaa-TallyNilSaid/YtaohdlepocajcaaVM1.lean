import Derived.Test.YtaohdlepocajcaaV14
import Derived.WideKeyRuns
/-! Maps: looked up, set, deleted from. -/
namespace Go.Proofs.Ytaohdlepocajcaa.V
open Go Go.RowKit

mutual
/-- a key of type t: integers, strings, bools, arrays of integers, structs of such -/
def keyT (tb : Tbl) : Nat → TypeId → AV → Bool
  | 0, _, _ => false
  | d + 1, t, x => match tb.get t with
    | none => false
    | some r => match r.d, x with
      | .arr n e, .ints k1 n1 _ => match tb.get e with
        | none => false
        | some re => match re.d, Nat.beq re.size 1 with
          | .int k, true => kindEq k1 k && Nat.beq n1 n
          | _, _ => false
      | .st fs, .agg l => keyF tb d fs 0 l
      | .int k, .v (.int k1 _) => kindEq k1 k
      | .bool, .v (.bool _) => true
      | .str, .v (.string _) => true
      | _, _ => false
def keyF (tb : Tbl) : Nat → List (Nat × Nat × TypeId) → Nat → AV → Bool
  | 0, _, _, _ => false
  | d + 1, fs, run, l => match fs, l with
    | [], .nil => true
    | (o, s, t) :: fs, .cons a l => Nat.beq o run && Nat.beq s a.size && fitsK tb t a && keyT tb d t a && keyF tb d fs (run + s) l
    | _, _ => false
end

theorem bind_ok {P : Program} {α β : Type} {x : Sem α} {f : α → Sem β} {w : World} {a : α} {r : Result β} (h : x.run P w = .ok a w) (h2 : (f a).run P w = r) : (x >>= f).run P w = r := by
  rw [Sem.run_bind, h, Result.andThen_ok]; exact h2
theorem run_forIn_yield {P : Program} {α : Type} {f : α → PUnit → Sem (ForInStep PUnit)} {w : World} : ∀ {l : List α}, (∀ a ∈ l, (f a PUnit.unit).run P w = .ok (.yield PUnit.unit) w) → (forIn l PUnit.unit f).run P w = .ok PUnit.unit w
  | [], _ => rfl
  | a :: l, h => by
    rw [List.forIn_cons, Sem.run_bind, h a (.head _), Result.andThen_ok]
    exact run_forIn_yield fun b hb => h b (.tail _ hb)

mutual
theorem keyT_check {P : Program} {tb : Tbl} (hb : TblOk P tb) : ∀ (d : Nat) {t : TypeId} {x : AV}, keyT tb d t x = true → ∀ (D : Nat), d < D → ∀ (em : Bool) (w : World), (Instr.checkKey em D t x.val).run P w = .ok () w
  | 0, _, _, h, _, _, _, _ => by simp [keyT] at h
  | d + 1, t, x, h, D, hD, em, w => by
    obtain ⟨D, rfl⟩ : ∃ m, D = m + 2 := ⟨D - 2, by omega⟩
    simp only [keyT] at h
    split at h
    · cases h
    · rename_i r hr
      have hro := hb.get hr
      obtain ⟨dd, hdd, hv⟩ := hro.under
      split at h
      · rename_i n e k1 n1 l hd
        split at h
        · cases h
        · rename_i re hre
          split at h
          · rename_i k hk hs
            simp only [Bool.and_eq_true] at h
            have q1 := kindEq_eq h.1; have q2 := kindB h.2; have hs := kindB hs
            subst q1 q2
            rw [hd] at hv
            rw [viewD_arr hv] at hdd
            obtain ⟨de, hde, hve⟩ := (hb.get hre).under
            rw [hk] at hve
            have hd2 : de = .int k1 := by cases de <;> simp [viewD] at hve; rw [hve]
            rw [hd2] at hde
            show (Instr.checkKey em (D + 1 + 1) t (.agg ((List.range n1).map fun j => Value.int k1 (l.getD j 0)).toArray)).run P w = _
            unfold Instr.checkKey
            rw [Sem.run_bind, run_underlying hdd, Result.andThen_ok]
            simp only []
            refine bind_ok (a := PUnit.unit) ?_ rfl
            rw [run_forIn_range]
            refine run_forIn_yield fun i hi => ?_
            have hi := List.mem_range.1 hi
            have hp : (part e ((List.range n1).map fun j => Value.int k1 (l.getD j 0)).toArray (i * re.size)).run P w = .ok (.int k1 (l.getD i 0)) w := by
              refine run_part (hb.get hre) (s := .v (.int k1 (l.getD i 0))) ⟨hs.symm, ?_, ?_⟩ (by rw [hk]; rfl) w
              · simp [hs]; omega
              · simp only [hs, Nat.mul_one]
                rw [← List.map_drop, ← List.map_take, List.drop_eq_getElem_cons (by simpa using hi)]
                simp
            have hc : (Instr.checkKey em (D + 1) e (.int k1 (l.getD i 0))).run P w = .ok () w := by
              unfold Instr.checkKey
              rw [Sem.run_bind, run_underlying hde, Result.andThen_ok]; rfl
            simp only [Sem.run_bind, (hb.get hre).run_sizeOf, Result.andThen_ok, hp, hc, Sem.run_pure]
          · cases h
      · rename_i fs l hd
        rw [hd] at hv
        obtain ⟨gs, rfl, hgs⟩ := viewD_st hv
        show (Instr.checkKey em (D + 1 + 1) t (.agg l.cells.toArray)).run P w = _
        unfold Instr.checkKey
        rw [Sem.run_bind, run_underlying hdd, Result.andThen_ok]
        simp only []
        refine bind_ok (a := PUnit.unit) ?_ rfl
        rw [← Array.forIn_toList]
        refine run_forIn_yield fun f hf => ?_
        obtain ⟨a, h1, h2⟩ := keyF_check hb d h (D + 1) (by omega) gs.toList (fields_map hgs) [] rfl em w f hf
        have h1 : (part f.type l.cells.toArray f.offset).run P w = .ok a.val w := h1
        split
        · simp only [Sem.run_bind, h1, h2, Result.andThen_ok, Sem.run_pure]
        · rfl
      · rename_i k k1 z hd
        rw [hd] at hv
        have hd2 : dd = .int k := by cases dd <;> simp [viewD] at hv; rw [hv]
        rw [hd2] at hdd
        unfold Instr.checkKey
        rw [Sem.run_bind, run_underlying hdd, Result.andThen_ok]; rfl
      · rename_i b hd
        rw [hd] at hv
        rw [viewD_bool hv] at hdd
        unfold Instr.checkKey
        rw [Sem.run_bind, run_underlying hdd, Result.andThen_ok]; rfl
      · rename_i s hd
        rw [hd] at hv
        have hd2 : dd = .string := by cases dd <;> simp [viewD] at hv; rfl
        rw [hd2] at hdd
        unfold Instr.checkKey
        rw [Sem.run_bind, run_underlying hdd, Result.andThen_ok]; rfl
      · cases h
theorem keyF_check {P : Program} {tb : Tbl} (hb : TblOk P tb) : ∀ (d : Nat) {fs : List (Nat × Nat × TypeId)} {run : Nat} {l : AV}, keyF tb d fs run l = true → ∀ (D : Nat), d < D →
    ∀ gs : List Field, gs.map (fun f => (f.offset, f.type)) = fs.map (fun f => (f.1, f.2.2)) → ∀ (cs1 : List Value), cs1.length = run → ∀ (em : Bool) (w : World) (f : Field), f ∈ gs →
    ∃ a : AV, (part f.type (cs1 ++ l.cells).toArray f.offset).run P w = .ok a.val w ∧ (Instr.checkKey em D f.type a.val).run P w = .ok () w
  | d, fs, run, l, h, D, hD, gs, hg, cs1, hc1, em, w, f, hf => by
    cases d with
    | zero => simp [keyF] at h
    | succ d =>
      simp only [keyF] at h
      split at h
      · have hgn : gs = [] := by simpa using hg
        subst hgn
        cases hf
      · rename_i o s t fs a l
        simp only [Bool.and_eq_true] at h
        obtain ⟨⟨⟨⟨q1, q2⟩, hk⟩, ht⟩, hrest⟩ := h
        have q1 := kindB q1; have q2 := kindB q2
        cases gs with
        | nil => simp at hg
        | cons g gs =>
          simp only [List.map_cons, List.cons.injEq, Prod.mk.injEq] at hg
          obtain ⟨⟨hgo, hgt⟩, hg⟩ := hg
          rcases List.mem_cons.1 hf with rfl | hf
          · obtain ⟨r1, hr1, ho1, hs1, hk1⟩ := fitsK_spec hb hk
            refine ⟨a, ?_, ?_⟩
            · rw [hgt, hgo]
              refine run_part ho1 ?_ hk1 w
              rw [AV.cells_cons, ← List.append_assoc]
              refine Part.inl (Part.inr (by omega) ?_)
              rw [hs1, show o - cs1.length = 0 by omega]
              exact Part.whole a
            · rw [hgt]; exact keyT_check hb d ht D (by omega) em w
          · obtain ⟨b, h1, h2⟩ := keyF_check hb d hrest D (by omega) gs hg (cs1 ++ a.cells) (by simp [AV.size_cells]; omega) em w f hf
            rw [List.append_assoc, ← AV.cells_cons] at h1
            exact ⟨b, h1, h2⟩
      · cases h
end

theorem intsEq_cells {n : Nat} {k : IntKind} {a b : List Int} (h : intsEq n a b = true) : (AV.ints k n a).cells = (AV.ints k n b).cells := by
  show (List.range n).map _ = (List.range n).map _
  refine List.map_congr_left fun j hj => ?_
  have := List.all_eq_true.1 h j hj
  rw [beq_iff_eq] at this
  rw [this]
theorem bytes_toList {a b : ByteArray} (h : a.toList = b.toList) : a = b := by
  rw [ByteArray.toList_eq, ByteArray.toList_eq] at h
  obtain ⟨⟨x⟩⟩ := a
  obtain ⟨⟨y⟩⟩ := b
  have h : x = y := h
  rw [h]
theorem eqLeaf_true {d : TD} {x y : AV} (h : eqLeaf d x y = some true) : x.cells = y.cells ∧ x.val = y.val := by
  unfold eqLeaf at h
  split at h
  · split at h
    · rename_i hk
      simp only [Option.some.injEq, beq_iff_eq] at h
      simp only [Bool.and_eq_true] at hk
      rw [kindEq_eq hk.1, kindEq_eq hk.2, h]; exact ⟨rfl, rfl⟩
    · cases h
  · simp only [Option.some.injEq, beq_iff_eq] at h
    rw [h]; exact ⟨rfl, rfl⟩
  · simp only [Option.some.injEq, beq_iff_eq] at h
    rw [bytes_toList h]; exact ⟨rfl, rfl⟩
  · cases h
mutual
theorem eqT_true {tb : Tbl} {eqs : List TypeId} : ∀ (d : Nat) {t : TypeId} {x y : AV}, eqT tb eqs d t x y = some true → x.cells = y.cells ∧ x.val = y.val
  | 0, _, _, _, h => by simp [eqT] at h
  | d + 1, t, x, y, h => by
    simp only [eqT] at h
    split at h
    · cases h
    · split at h
      · split at h
        · cases h
        · split at h
          · split at h
            · rename_i hq
              simp only [Option.some.injEq] at h
              simp only [Bool.and_eq_true] at hq
              obtain ⟨⟨⟨q1, q2⟩, q3⟩, q4⟩ := hq
              have q1 := kindEq_eq q1; have q2 := kindEq_eq q2
              have q3 := kindB q3; have q4 := kindB q4
              subst q1 q2 q3 q4
              have := intsEq_cells (k := by assumption) h
              exact ⟨this, by rw [AV.val_of_cells rfl, AV.val_of_cells rfl, this]⟩
            · cases h
          · cases h
      · split at h
        · have := eqF_true d h
          exact ⟨this, by rw [AV.val_agg, AV.val_agg, this]⟩
        · cases h
      · exact eqLeaf_true h
theorem eqF_true {tb : Tbl} {eqs : List TypeId} : ∀ (d : Nat) {fs : List (Nat × Nat × TypeId)} {run : Nat} {l m : AV}, eqF tb eqs d fs run l m = some true → l.cells = m.cells
  | d, fs, run, l, m, h => by
    cases d with
    | zero => simp [eqF] at h
    | succ d =>
      simp only [eqF] at h
      split at h
      · rfl
      · split at h
        · split at h
          · rename_i p q hp hq
            simp only [Option.some.injEq, Bool.and_eq_true] at h
            obtain ⟨rfl, rfl⟩ := h
            rw [AV.cells_cons, AV.cells_cons, (eqT_true d hp).1, eqF_true d hq]
          · cases h
        · cases h
      · cases h
end
mutual
theorem eqT_refl {tb : Tbl} {eqs : List TypeId} : ∀ (d : Nat) {t : TypeId} {x y : AV} {b : Bool}, eqT tb eqs d t x y = some b → eqT tb eqs d t y y = some true
  | 0, _, _, _, _, h => by simp [eqT] at h
  | d + 1, t, x, y, b, h => by
    simp only [eqT] at h ⊢
    split at h
    · cases h
    · split at h
      · split at h
        · cases h
        · rename_i re hre
          split at h
          · split at h
            · rename_i hd hs hq
              simp only [Bool.and_eq_true] at hq
              simp [*, intsEq]
            · cases h
          · cases h
      · split at h
        · rename_i hm
          have := eqF_refl d h
          simp [*]
        · cases h
      · unfold eqLeaf at h
        split at h
        · split at h
          · rename_i hk
            simp only [Bool.and_eq_true] at hk
            simp [*, eqLeaf]
          · cases h
        · simp [*, eqLeaf]
        · simp [*, eqLeaf]
        · cases h
theorem eqF_refl {tb : Tbl} {eqs : List TypeId} : ∀ (d : Nat) {fs : List (Nat × Nat × TypeId)} {run : Nat} {l m : AV} {b : Bool}, eqF tb eqs d fs run l m = some b → eqF tb eqs d fs run m m = some true
  | d, fs, run, l, m, b, h => by
    cases d with
    | zero => simp [eqF] at h
    | succ d =>
      simp only [eqF] at h ⊢
      split at h
      · rfl
      · split at h
        · rename_i hq h1 h2
          split at h
          · rename_i p q hp hq'
            have e1 := eqT_refl d hp
            have e2 := eqF_refl d hq'
            simp only [Bool.and_eq_true] at hq
            simp [*]
          · cases h
        · cases h
      · cases h
end
end Go.Proofs.Ytaohdlepocajcaa.V
