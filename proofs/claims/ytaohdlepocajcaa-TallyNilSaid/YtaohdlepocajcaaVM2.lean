import Derived.Test.YtaohdlepocajcaaVM1
import GoSem.Builtin.Delete
/-! Maps: looked up, set, deleted from. -/
namespace Go.Proofs.Ytaohdlepocajcaa.V
open Go Go.RowKit

def mfind (tb : Tbl) (eqs : List TypeId) (kt : TypeId) (key : AV) : List (AV × AV × Nat) → Nat → Option (Option (Nat × AV))
  | [], _ => some none
  | (k, v, _) :: r, i => match eqT tb eqs 64 kt key k with
    | some true => some (some (i, v))
    | some false => mfind tb eqs kt key r (i + 1)
    | none => none
def trip (p : AV × AV × Nat) : Value × Value × Nat := (p.1.val, p.2.1.val, p.2.2)
def tripE (e : MapEntry) : Value × Value × Nat := (e.key, e.val, e.born)

/-- the kinds of key types that are served -/
def keyTop : TD → Bool
  | .int _ => true
  | .st _ => true
  | .arr _ _ => true
  | _ => false

section
variable {P : Program} {tb : Tbl} {eqs : List TypeId}
theorem findAsking_run (hb : TblOk P tb) (he : EqOk P eqs) {kt : TypeId} {key : AV} (w : World) : ∀ {l : List (AV × AV × Nat)} {es : List MapEntry} {i : Nat} {r : Option (Nat × AV)}, es.map tripE = l.map trip → mfind tb eqs kt key l i = some r →
    (Instr.findAsking kt key.val es i).run P w = .ok (r.map fun p => (p.1, p.2.val)) w
  | [], es, i, r, hm, h => by
    have : es = [] := by simpa using hm
    subst this
    cases h; rfl
  | (k, v, b) :: l, [], i, r, hm, h => by simp at hm
  | (k, v, b) :: l, e :: es, i, r, hm, h => by
    simp only [List.map_cons, List.cons.injEq] at hm
    obtain ⟨h1, h2⟩ := hm
    have hk : e.key = k.val := congrArg (·.1) h1
    have hv : e.val = v.val := congrArg (·.2.1) h1
    simp only [mfind] at h
    unfold Instr.findAsking
    split at h
    · rename_i hq
      cases h
      have : (Op.equal kt key.val e.key).run P w = .ok true w := by rw [hk]; exact eqT_run hb he 64 hq 10000 (by omega) w
      rw [Sem.run_bind, this, Result.andThen_ok, if_pos rfl, hv]; rfl
    · rename_i hq
      have : (Op.equal kt key.val e.key).run P w = .ok false w := by rw [hk]; exact eqT_run hb he 64 hq 10000 (by omega) w
      rw [Sem.run_bind, this, Result.andThen_ok, if_neg (by simp)]
      exact findAsking_run hb he w h2 h
    · cases h

theorem findNow_int {tb : Tbl} {eqs : List TypeId} {kt : TypeId} {r0 : TRow} {k : IntKind} (hr : tb.get kt = some r0) (hd : r0.d = .int k) {key : AV} : ∀ {l : List (AV × AV × Nat)} {es : List MapEntry} {i : Nat} {r : Option (Nat × AV)}, es.map tripE = l.map trip → mfind tb eqs kt key l i = some r →
    Instr.findNow (.int k) key.val es i = some (r.map fun p => (p.1, p.2.val))
  | [], es, i, r, hm, h => by
    have : es = [] := by simpa using hm
    subst this
    cases h; rfl
  | (k', v, b) :: l, [], i, r, hm, h => by simp at hm
  | (k', v, b) :: l, e :: es, i, r, hm, h => by
    simp only [List.map_cons, List.cons.injEq] at hm
    obtain ⟨h1, h2⟩ := hm
    have hk : e.key = k'.val := congrArg (·.1) h1
    have hv : e.val = v.val := congrArg (·.2.1) h1
    simp only [mfind] at h
    have key' : ∀ b, eqT tb eqs 64 kt key k' = some b → Instr.sameNow (.int k) key.val e.key = some b := by
      intro b hq
      simp only [eqT, hr, hd] at hq
      unfold eqLeaf at hq
      split at hq <;> (try cases hq) <;> (try (rename_i hdd; cases hdd))
      split at hq
      · rename_i hkk
        simp only [Bool.and_eq_true] at hkk
        cases hq
        rw [hk]
        simp [Instr.sameNow, kindEq_eq hkk.1, kindEq_eq hkk.2]
      · cases hq
    unfold Instr.findNow
    split at h
    · rename_i hq
      cases h
      rw [key' _ hq]
      simp [hv]
    · rename_i hq
      rw [key' _ hq]
      exact findNow_int hr hd h2 h
    · cases h

theorem findKey_run (hb : TblOk P tb) (he : EqOk P eqs) {kt : TypeId} {r0 : TRow} (hr : tb.get kt = some r0) (ht : keyTop r0.d = true) {key : AV} (w : World) {l : List (AV × AV × Nat)} {es : List MapEntry} {r : Option (Nat × AV)} (hm : es.map tripE = l.map trip) (h : mfind tb eqs kt key l 0 = some r) :
    (Instr.findKey kt key.val es).run P w = .ok (r.map fun p => (p.1, p.2.val)) w := by
  obtain ⟨d, hu, hv⟩ := (hb.get hr).under
  unfold keyTop at ht
  split at ht
  · rename_i k hd
    rw [hd] at hv
    have hd2 : d = .int k := by cases d <;> simp [viewD] at hv; rw [hv]
    rw [hd2] at hu
    unfold Instr.findKey
    rw [Sem.run_bind, run_underlying hu, Result.andThen_ok, findNow_int hr hd hm h]; rfl
  · rename_i fs hd
    rw [hd] at hv
    obtain ⟨gs, rfl, _⟩ := viewD_st hv
    rw [run_findKey_eq w (by rw [hu])]
    exact findAsking_run hb he w hm h
  · rename_i n e hd
    rw [hd] at hv
    rw [viewD_arr hv] at hu
    rw [run_findKey_eq w (by rw [hu])]
    exact findAsking_run hb he w hm h
  · cases ht

theorem mfind_some {kt : TypeId} {key : AV} : ∀ {l : List (AV × AV × Nat)} {i j : Nat} {v : AV}, mfind tb eqs kt key l i = some (some (j, v)) → i ≤ j ∧ ∃ p, l[j - i]? = some p ∧ p.2.1 = v ∧ p.1.val = key.val ∧ p.1.cells = key.cells
  | [], i, j, v, h => by cases h
  | (k, v0, b) :: l, i, j, v, h => by
    simp only [mfind] at h
    split at h
    · rename_i hq
      cases h
      obtain ⟨h1, h2⟩ := eqT_true 64 hq
      exact ⟨Nat.le_refl _, (k, v0, b), by simp, rfl, h2.symm, h1.symm⟩
    · obtain ⟨h1, p, h2, h3⟩ := mfind_some h
      exact ⟨by omega, p, by rw [show j - i = (j - (i + 1)) + 1 by omega]; simpa using h2, h3⟩
    · cases h
theorem mfind_none (hb : TblOk P tb) (he : EqOk P eqs) (w : World) {kt : TypeId} {key : AV} : ∀ {l : List (AV × AV × Nat)} {i : Nat}, mfind tb eqs kt key l i = some none → ∀ p ∈ l, p.1.val ≠ key.val
  | [], i, h, p, hp => by cases hp
  | (k, v0, b) :: l, i, h, p, hp => by
    simp only [mfind] at h
    split at h
    · cases h
    · rename_i hq
      rcases List.mem_cons.1 hp with rfl | hp
      · intro e
        have h1 := eqT_run hb he 64 hq 10000 (by omega) w
        have h2 := eqT_run hb he 64 (eqT_refl 64 hq) 10000 (by omega) w
        rw [e] at h2
        rw [e] at h1
        rw [h1] at h2
        cases h2
      · exact mfind_none hb he w h p hp
    · cases h
end

/-- simple cells -/
def simpV : Value → Bool
  | .bool _ => true
  | .int _ _ => true
  | .string _ => true
  | _ => false
theorem sameBits_simp {v : Value} (h : simpV v = true) (n : Nat) : Instr.sameBits n v v = true := by
  cases v <;> simp [simpV] at h <;> simp [Instr.sameBits]
  exact (MapKept.bytes_beq _ _).2 rfl
mutual
theorem keyT_simp {tb : Tbl} : ∀ (d : Nat) {t : TypeId} {x : AV}, keyT tb d t x = true → (∀ c ∈ x.cells, simpV c = true) ∧ (x.isAgg = true ∨ simpV x.val = true)
  | 0, _, _, h => by simp [keyT] at h
  | d + 1, t, x, h => by
    simp only [keyT] at h
    split at h
    · cases h
    · split at h
      · refine ⟨fun c hc => ?_, .inl rfl⟩
        obtain ⟨j, _, rfl⟩ := List.mem_map.1 (show c ∈ (List.range _).map _ from hc); rfl
      · exact ⟨fun c hc => keyF_simp d h c (by rwa [AV.cells_agg] at hc), .inl rfl⟩
      · exact ⟨fun c hc => by simp at hc; subst hc; rfl, .inr rfl⟩
      · exact ⟨fun c hc => by simp at hc; subst hc; rfl, .inr rfl⟩
      · exact ⟨fun c hc => by simp at hc; subst hc; rfl, .inr rfl⟩
      · cases h
theorem keyF_simp {tb : Tbl} : ∀ (d : Nat) {fs : List (Nat × Nat × TypeId)} {run : Nat} {l : AV}, keyF tb d fs run l = true → ∀ c ∈ l.cells, simpV c = true
  | d, fs, run, l, h => by
    cases d with
    | zero => simp [keyF] at h
    | succ d =>
      simp only [keyF] at h
      split at h
      · intro c hc; cases hc
      · simp only [Bool.and_eq_true] at h
        intro c hc
        rw [AV.cells_cons] at hc
        rcases List.mem_append.1 hc with hc | hc
        · exact (keyT_simp d h.1.2).1 c hc
        · exact keyF_simp d h.2 c hc
      · cases h
end
theorem zip_same {n : Nat} : ∀ {l : List Value}, (∀ c ∈ l, simpV c = true) → ((l.zip l).all fun (x, y) => Instr.sameBits n x y) = true
  | [], _ => rfl
  | a :: l, h => by
    rw [List.zip_cons_cons, List.all_cons, zip_same fun c hc => h c (.tail _ hc)]
    simp [sameBits_simp (h a (.head _))]
theorem keyT_stays {P : Program} {tb : Tbl} {t : TypeId} {x : AV} (h : keyT tb 64 t x = true) (w : World) : (Instr.keyThatStays x.val x.val).run P w = .ok x.val w := by
  have : Instr.sameBits 10000 x.val x.val = true := by
    obtain ⟨h1, h2⟩ := keyT_simp 64 h
    rcases h2 with h2 | h2
    · rw [AV.val_of_cells h2]
      show (_ && _) = true
      simp only [beq_self_eq_true, Bool.true_and]
      exact zip_same h1
    · exact sameBits_simp h2 _
  unfold Instr.keyThatStays
  rw [this]; rfl
end Go.Proofs.Ytaohdlepocajcaa.V
