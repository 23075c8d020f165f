import Derived.Test.YtaohdlepocajcaaVM3
/-! delete. -/
namespace Go.Proofs.Ytaohdlepocajcaa.V
open Go Go.RowKit

theorem eraseIdx_map {l : List (AV × AV × Nat)} {es : List MapEntry} (h : es.map tripE = l.map trip) (i : Nat) : (es.eraseIdx i).map tripE = (l.eraseIdx i).map trip := by
  have key : ∀ {α β : Type} (f : α → β) (l : List α) (i : Nat), (l.eraseIdx i).map f = (l.map f).eraseIdx i := by
    intro α β f l
    induction l with
    | nil => intro i; rfl
    | cons a l ih => intro i; cases i with
      | zero => rfl
      | succ i => simp [ih]
  rw [key, key, h]
section
variable {P : Program} {E : Env} {O : Nat → Prop} {w0 : World}
theorem evMapDel_ok (hb : TblOk P E.tb) (he : EqOk P E.eqs) : EvOk P O w0 (fun M tm g _ op => match op with
    | .call { callee := .builtin .delete, args, argTypes } => evMapDel E M tm g args argTypes
    | _ => none) := by
  intro N M tm g tag a w o r h0 hok hT hS hg next Q hk
  dsimp only at h0
  split at h0
  · rename_i args tys ho
    unfold evMapDel at h0
    split at h0
    · rename_i m k t ts hargs htys
      split at h0
      · rename_i n b K rr hm hkk hr
        split at h0
        · rename_i kt e hd
          obtain ⟨dd, hu, hv⟩ := (hb.get hr).under
          rw [hd] at hv
          have hu := viewD_map hv ▸ hu
          split at h0
          · rename_i rk b' l clk hrk hM
            split at h0
            · rename_i B hkt hB
              simp only [Bool.and_eq_true] at hkt
              cases h0
              have hok : b' = b := hok
              subst hok
              have ha1 : args = #[m, k] := by apply Array.ext'; rw [hargs]
              have ht1 : tys = (t :: ts).toArray := by apply Array.ext'; rw [htys]
              subst ha1 ht1
              obtain ⟨es, q1, q2, q3⟩ := hS.holds _ _ hM
              have q3 : es.toList.map tripE = l.map trip := q3
              have fin : ∀ w' B', B = B' → (Builtin.delete_ (t :: ts).toArray o.type #[.map (some b'), K.val]).run P w = .ok (.tuple #[]) w' → Turn M w w' (Mem.get [(n, B')]) → o.wp P a w next Q := by
                intro w' B' hBB hrun hturn
                subst hBB
                unfold Oper.wp
                have hex : (execOp a.eval o).run P w = .ok (.value (.tuple #[])) w' := by
                  unfold execOp
                  rw [ho]
                  simp only [Sem.run_bind, resolve, List.map_toArray, List.map_cons, List.map_nil, opd_s hT hm (g := none) trivial trivial, opd_s hT hkk (g := none) trivial trivial, Sem.run_pure, Result.andThen_ok, invoke, builtin]
                  have : (AV.mp n b').val = .map (some b') := rfl
                  rw [this, hrun]; rfl
                rw [hex]
                exact hk () w' trivial hturn
              have base : ∀ (r : Option (Nat × AV)) (w' : World), mfind E.tb E.eqs kt K l 0 = some r → ((match r.map fun p => (p.1, p.2.val) with
                  | some (i, _) => setObj b' (.map (es.eraseIdxIfInBounds i) clk)
                  | none => setObj b' (.map es clk) : Sem Unit).run P w = .ok () w') → (Builtin.delete_ (t :: ts).toArray o.type #[.map (some b'), K.val]).run P w = .ok (.tuple #[]) w' := by
                intro r w' hf hr
                unfold Builtin.delete_
                simp only [List.getElem?_toArray, List.getElem?_cons_zero, List.getElem?_cons_succ]
                refine bind_ok (run_underlying hu w) ?_
                refine bind_ok (MapKept.run_getObj_map q1) ?_
                refine bind_ok (keyT_check hb 64 hkt.2 10000 (by omega) _ w) ?_
                refine bind_ok (findKey_run hb he hrk hkt.1 w q3 hf) ?_
                cases r with
                | none => simp only [Option.map_none] at hr ⊢; rw [Sem.run_bind, hr]; rfl
                | some p => simp only [Option.map_some] at hr ⊢; rw [Sem.run_bind, hr]; rfl
              unfold mdelV at hB
              split at hB
              · rename_i hf
                cases hB
                exact fin _ _ rfl (base none _ hf (MapKept.run_setObj_map _ q1)) (map_turn hM q1 q2 q3)
              · rename_i i v hf
                cases hB
                obtain ⟨_, p, hp, _⟩ := mfind_some hf
                have hil : i < es.size := by
                  have h1 : es.toList.length = l.length := by have := congrArg List.length q3; simpa using this
                  have h2 := (List.getElem?_eq_some_iff.1 hp).1
                  rw [Array.length_toList] at h1
                  omega
                refine fin _ _ rfl (base (some (i, v)) _ hf (MapKept.run_setObj_map _ q1)) (map_turn hM q1 (MapKept.stamped_erase q2 i) ?_)
                unfold Array.eraseIdxIfInBounds
                rw [dif_pos hil, Array.toList_eraseIdx]
                exact eraseIdx_map q3 i
              · cases hB
            · cases h0
          · cases h0
        · cases h0
      · cases h0
    · cases h0
  · cases h0
end
end Go.Proofs.Ytaohdlepocajcaa.V
