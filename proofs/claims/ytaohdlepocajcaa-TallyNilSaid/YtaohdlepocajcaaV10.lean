import Derived.Test.YtaohdlepocajcaaV9
/-! The evaluator is right: the rest, and all of it. -/
namespace Go.Proofs.Ytaohdlepocajcaa.V
open Go Go.RowKit

section
variable {P : Program} {E : Env} {O : Nat → Prop} {w0 : World} {N : Nat} {M : MemF} {tm : TmF} {g : Option Bool} {tag : Nat} {a : Act} {w : World} {o : Oper} {r : R} {next : Act → World → Prop} {Q : Exit → Act → World → Prop}

theorem qs_load (hb : TblOk P E.tb) {t : TypeId} {x : Operand} (h : qeval E M tm g tag (.load t x) = some r) (ho : o.op = .load t x) (hc : r.cond) (hT : SatT N tm a) (hS : Sat O w0 M w) (hg : holdsG g) (hk : ∀ b w', Below w.heap.size w w' → r.laid w w' b → next (a.put o.dst (r.out b).val) w') : o.wp P a w next Q := by
  simp only [qeval] at h
  split at h
  · rename_i c p ro hx hr
    split at h
    · rename_i q s hl
      cases h
      refine wp_val (v := s.val) ?_ (hk 0 w (Below.refl _ _) trivial)
      unfold execOp
      rw [ho]
      simp only [Sem.run_bind, Instr.loadAt, opd_s hT hx hc.1 hg]
      have : (Instr.sureAddr (AV.ptr p).val).run P w = .ok p.addr w := rfl
      rw [this, Result.andThen_ok, loadV_run hS (hb.get hr) hl (imp_elim hc.2 hg)]
      rfl
    · cases h
  · cases h

theorem qs_nilCheck {x : Operand} (h : qeval E M tm g tag (.nilCheck x) = some r) (ho : o.op = .nilCheck x) (hc : r.cond) (hT : SatT N tm a) (hg : holdsG g) (hk : ∀ b w', Below w.heap.size w w' → r.laid w w' b → next (a.put o.dst (r.out b).val) w') : o.wp P a w next Q := by
  simp only [qeval] at h
  split at h
  · rename_i c p hx
    cases h
    refine wp_val (v := (AV.ptr p).val) ?_ (hk 0 w (Below.refl _ _) trivial)
    unfold execOp
    rw [ho]
    simp only [opd_s hT hx hc hg]
    rfl
  · cases h

theorem qs_binOp (hb : TblOk P E.tb) (he : EqOk P E.eqs) {op : BinOp} {t yt : TypeId} {x y : Operand} (h : qeval E M tm g tag (.binOp op t x y yt) = some r) (ho : o.op = .binOp op t x y yt) (hc : r.cond) (hT : SatT N tm a) (hg : holdsG g) (hk : ∀ b w', Below w.heap.size w w' → r.laid w w' b → next (a.put o.dst (r.out b).val) w') : o.wp P a w next Q := by
  simp only [qeval] at h
  split at h
  · rename_i cx u cy v ro hx hy hr
    split at h
    · rename_i hag
      simp only [Bool.and_eq_true] at hag
      split at h
      · rename_i q hq hm
        cases h
        refine wp_val (v := .bool q) ?_ (hk 0 w (Below.refl _ _) trivial)
        unfold execOp
        rw [ho]
        simp only [opd_s hT hx hc.1 hg, opd_s hT hy hc.2 hg]
        have := (eqT_bin hb he hq hag.1 hag.2 (he.mem hm).2.2 x y w).1
        rw [Sem.run_bind, this]; rfl
      · rename_i q hq hm
        cases h
        refine wp_val (v := .bool !q) ?_ (hk 0 w (Below.refl _ _) trivial)
        unfold execOp
        rw [ho]
        simp only [opd_s hT hx hc.1 hg, opd_s hT hy hc.2 hg]
        have := (eqT_bin hb he hq hag.1 hag.2 (he.mem hm).2.2 x y w).2
        rw [Sem.run_bind, this]; rfl
      · cases h
    · split at h
      · rename_i q z hz
        cases h
        obtain ⟨h1, h2, h3⟩ := hc
        refine wp_val (v := z) ?_ (hk 0 w (Below.refl _ _) trivial)
        unfold execOp
        rw [ho]
        simp only [opd_s hT hx h1 hg, opd_s hT hy h2 hg]
        rw [Sem.run_bind, binV_run (hb.get hr) hz (imp_elim h3 hg) x y w]; rfl
      · cases h
  · cases h

theorem qs_unOp {op : UnOp} {t : TypeId} {x : Operand} (h : qeval E M tm g tag (.unOp op t x) = some r) (ho : o.op = .unOp op t x) (hc : r.cond) (hT : SatT N tm a) (hg : holdsG g) (hk : ∀ b w', Below w.heap.size w w' → r.laid w w' b → next (a.put o.dst (r.out b).val) w') : o.wp P a w next Q := by
  simp only [qeval] at h
  split at h
  · rename_i c b hx
    split at h
    · cases h
      refine wp_val (v := .bool !b) ?_ (hk 0 w (Below.refl _ _) trivial)
      unfold execOp; rw [ho]; simp only [opd_s hT hx hc hg]; rfl
    · cases h
  · rename_i c k n hx
    split at h
    · cases h
      refine wp_val ?_ (hk 0 w (Below.refl _ _) trivial)
      unfold execOp; rw [ho]; simp only [opd_s hT hx hc hg]; rfl
    · cases h
      refine wp_val ?_ (hk 0 w (Below.refl _ _) trivial)
      unfold execOp; rw [ho]; simp only [opd_s hT hx hc hg]; rfl
    · cases h
  · cases h

theorem qs_convert (hb : TblOk P E.tb) {s t : TypeId} {x : Operand} (h : qeval E M tm g tag (.convert s t x) = some r) (ho : o.op = .convert s t x) (hc : r.cond) (hT : SatT N tm a) (hg : holdsG g) (hk : ∀ b w', Below w.heap.size w w' → r.laid w w' b → next (a.put o.dst (r.out b).val) w') : o.wp P a w next Q := by
  simp only [qeval] at h
  split at h
  · rename_i c k0 n rs rd hx hs hd
    split at h
    · rename_i k hk'
      cases h
      refine wp_val (v := .int k (k.wrap n)) ?_ (hk 0 w (Below.refl _ _) trivial)
      obtain ⟨d1, e1, _⟩ := (hb.get hs).under
      obtain ⟨d2, e2, v2⟩ := (hb.get hd).under
      rw [hk'] at v2
      have : d2 = .int k := by cases d2 <;> simp [viewD] at v2; rw [v2]
      rw [this] at e2
      unfold execOp; rw [ho]; simp only [opd_s hT hx hc hg, AV.val_v, convert, Sem.run_bind, run_underlying e1, run_underlying e2, Result.andThen_ok, Conv.intToInt]
      rfl
    · cases h
  · cases h

theorem foldr_vals : ∀ l : List AV, (l.foldr AV.cons .nil).vals = l.map AV.val
  | [] => rfl
  | x :: l => by rw [List.foldr_cons, AV.vals_cons, foldr_vals l]; rfl

theorem args_eq (hT : SatT N tm a) (hg : holdsG g) {xs : Array Operand} {p : Prop} {l : List (Nat × AV)} (h : opds tm g (xs.toList.map fun x => (0, x)) = some (p, l)) (hp : p) : xs.map a.eval = ((vals l).map AV.val).toArray := by
  have := opds_sound hT hg h hp
  apply Array.ext'
  rw [Array.toList_map]
  have e := congrArg (fun l => l.map (fun x : Nat × Value => x.2)) this
  simp only [List.map_map] at e
  unfold vals
  rw [List.map_map]
  exact e

theorem qs_makeFunc {fn : Fn} {first caps : Array Operand} (h : qeval E M tm g tag (.makeFunc fn first caps) = some r) (ho : o.op = .makeFunc fn first caps) (hc : r.cond) (hT : SatT N tm a) (hg : holdsG g) (hk : ∀ b w', Below w.heap.size w w' → r.laid w w' b → next (a.put o.dst (r.out b).val) w') : o.wp P a w next Q := by
  cases fn <;> try (simp [qeval] at h; done)
  rename_i f
  simp only [qeval] at h
  split at h
  · rename_i p l hf hl
    cases h
    refine wp_val ?_ (hk 0 w (Below.refl _ _) trivial)
    have hfirst : first = #[] := by apply Array.ext'; rw [hf]
    unfold execOp
    rw [ho, hfirst]
    simp only [args_eq hT hg hl hc, Array.map_empty]
    show Result.ok (Next.value (Value.func (.func f) #[] _)) w = Result.ok (Next.value (Value.func (.func f) #[] ((vals l).foldr AV.cons .nil).vals.toArray)) w
    rw [foldr_vals]
  · cases h

theorem qs_fieldAddr (hb : TblOk P E.tb) {s : TypeId} {x : Operand} {f : Nat} (h : qeval E M tm g tag (.fieldAddr s x f) = some r) (ho : o.op = .fieldAddr s x f) (hc : r.cond) (hT : SatT N tm a) (hg : holdsG g) (hk : ∀ b w', Below w.heap.size w w' → r.laid w w' b → next (a.put o.dst (r.out b).val) w') : o.wp P a w next Q := by
  simp only [qeval] at h
  split at h
  · rename_i c n ix b o0 es idx off j lf ofs sz ft hx hf
    split at h
    · rename_i hp
      cases h
      refine wp_val ?_ (hk 0 w (Below.refl _ _) trivial)
      unfold execOp; rw [ho]
      simp only [opd_s hT hx hc hg, Sem.run_bind]
      show ((Instr.fieldAt s (.pointer (some ⟨b, o0 + idx * es + off + j, none⟩)) f).run P w).andThen _ = _
      rw [run_fieldAt hb hf hp]
      show Result.ok (Next.value (Value.pointer (some ⟨b, o0 + idx * es + off + j + ofs, none⟩))) w = Result.ok (Next.value (Value.pointer (some ⟨b, o0 + idx * es + (off + ofs) + j, none⟩))) w
      congr 5
      omega
    · cases h
  · cases h

theorem qs_field (hb : TblOk P E.tb) {s : TypeId} {x : Operand} {f : Nat} (h : qeval E M tm g tag (.field s x f) = some r) (ho : o.op = .field s x f) (hc : r.cond) (hT : SatT N tm a) (hg : holdsG g) (hk : ∀ b w', Below w.heap.size w w' → r.laid w w' b → next (a.put o.dst (r.out b).val) w') : o.wp P a w next Q := by
  simp only [qeval] at h
  split at h
  · rename_i c av ofs sz ft hx hf
    split at h
    · rename_i ro hr hag
      split at h
      · rename_i st hs hsub
        cases h
        refine wp_val (v := st.val) ?_ (hk 0 w (Below.refl _ _) trivial)
        obtain ⟨gs, hu, fd, hfd, h1, h2, h3⟩ := fieldOf_spec hb hf
        obtain ⟨hp, hkd⟩ := AV.sub_spec av hsub
        unfold execOp; rw [ho]
        simp only [opd_s hT hx hc hg, AV.val_of_cells hag, Sem.run_bind, Instr.field, run_underlying hu, Result.andThen_ok, hfd, h1, h3]
        have hag2 : (asAgg (.agg av.cells.toArray)).run P w = .ok av.cells.toArray w := rfl
        rw [hag2, Result.andThen_ok, run_part (hb.get hr) (s := st) (by rw [kindB hs]; exact hp) hkd w]
        rfl
      · cases h
    · cases h
  · cases h

theorem qs_extract {x : Operand} {i : Nat} (h : qeval E M tm g tag (.extract x i) = some r) (ho : o.op = .extract x i) (hc : r.cond) (hT : SatT N tm a) (hg : holdsG g) (hk : ∀ b w', Below w.heap.size w w' → r.laid w w' b → next (a.put o.dst (r.out b).val) w') : o.wp P a w next Q := by
  simp only [qeval] at h
  split at h
  · rename_i c l hx
    split at h <;> first | (cases h; done) | skip
    all_goals
      cases h
      refine wp_val ?_ (hk 0 w (Below.refl _ _) trivial)
      unfold execOp; rw [ho]
      simp only [opd_s hT hx hc hg]
      rfl
  · cases h

theorem qs_len (hb : TblOk P E.tb) {args : Array Operand} {ts : Array TypeId} (h : qeval E M tm g tag (.call { callee := .builtin .len, args := args, argTypes := ts }) = some r) (ho : o.op = .call { callee := .builtin .len, args := args, argTypes := ts }) (hc : r.cond) (hT : SatT N tm a) (hS : Sat O w0 M w) (hg : holdsG g) (hk : ∀ b w', Below w.heap.size w w' → r.laid w w' b → next (a.put o.dst (r.out b).val) w') : o.wp P a w next Q := by
  simp only [qeval] at h
  split at h
  · rename_i x t hx0 ht0
    split at h
    · rename_i c av ro hx hr
      split at h
      · rename_i q n hn
        cases h
        obtain ⟨hc, hq⟩ := hc
        have hq := imp_elim hq hg
        have hx1 : args = #[x] := by apply Array.ext'; rw [hx0]
        have ht1 : ts = #[t] := by apply Array.ext'; rw [ht0]
        subst hx1 ht1
        refine wp_val (v := .int .i64 n) ?_ (hk 0 w (Below.refl _ _) trivial)
        have hrun : (Builtin.len_ #[t] o.type #[av.val]).run P w = .ok (.int .i64 n) w := by
          obtain ⟨d, hd, hv⟩ := (hb.get hr).under
          unfold Builtin.len_
          simp only [List.getElem?_toArray, List.getElem?_cons_zero, Sem.run_bind, run_underlying hd, Result.andThen_ok]
          unfold lenM at hn
          split at hn
          · split at hn
            · rename_i n' bm dd xx kk ee mine b' l clk he hM
              cases hn
              obtain ⟨es, h1, _, h3⟩ := hS.holds _ _ hM
              have hl := congrArg List.length h3
              simp only [List.length_map] at hl
              rw [he] at hv
              have : ∃ k e, d = .map k e := by cases d <;> simp [viewD] at hv; exact ⟨_, _, rfl⟩
              obtain ⟨k, e, rfl⟩ := this
              have hbb : b' = bm := hq
              subst hbb
              refine (Sem.run_bind (x := getObj b') ..).trans ?_
              rw [MapKept.run_getObj_map h1, Result.andThen_ok]
              rw [← hl]; rfl
            · cases hn
          · split at hn
            · rename_i n hn'
              cases hn
              unfold lenV at hn'
              split at hn'
              · split at hn'
                · rename_i he; cases hn'; rw [he] at hv; rw [viewD_sl hv]; rfl
                · cases hn'
              · split at hn'
                · rename_i he; cases hn'; rw [he] at hv; rw [viewD_sl hv]; rfl
                · cases hn'
              · split at hn'
                · rename_i he; cases hn'; rw [he] at hv; rw [viewD_sl hv]; rfl
                · cases hn'
              · split at hn'
                · rename_i he
                  cases hn'
                  rw [he] at hv
                  have : d = .string := by cases d <;> simp [viewD] at hv; rfl
                  rw [this]; rfl
                · cases hn'
              · split at hn'
                · rename_i he
                  cases hn'
                  rw [he] at hv
                  have : ∃ k e, d = .map k e := by cases d <;> simp [viewD] at hv; exact ⟨_, _, rfl⟩
                  obtain ⟨k, e, rfl⟩ := this
                  rfl
                · cases hn'
              · split at hn'
                · rename_i he; cases hn'; rw [he] at hv; rw [viewD_arr hv]; rfl
                · cases hn'
            · cases hn
        unfold execOp
        rw [ho]
        simp only [Sem.run_bind, resolve, List.map_toArray, List.map_cons, List.map_nil, opd_s hT hx hc hg, Sem.run_pure, Result.andThen_ok, invoke, builtin]
        rw [hrun]; rfl
      · cases h
    · cases h
  · cases h

theorem qs_cap (hb : TblOk P E.tb) {args : Array Operand} {ts : Array TypeId} (h : qeval E M tm g tag (.call { callee := .builtin .cap, args := args, argTypes := ts }) = some r) (ho : o.op = .call { callee := .builtin .cap, args := args, argTypes := ts }) (hc : r.cond) (hT : SatT N tm a) (hg : holdsG g) (hk : ∀ b w', Below w.heap.size w w' → r.laid w w' b → next (a.put o.dst (r.out b).val) w') : o.wp P a w next Q := by
  simp only [qeval] at h
  split at h
  · rename_i x t hx0 ht0
    split at h
    · rename_i c av ro hx hr
      split at h
      · rename_i n hn
        cases h
        have hx1 : args = #[x] := by apply Array.ext'; rw [hx0]
        have ht1 : ts = #[t] := by apply Array.ext'; rw [ht0]
        subst hx1 ht1
        refine wp_val (v := .int .i64 n) ?_ (hk 0 w (Below.refl _ _) trivial)
        have hrun : (Builtin.cap_ #[t] o.type #[av.val]).run P w = .ok (.int .i64 n) w := by
          obtain ⟨d, hd, hv⟩ := (hb.get hr).under
          unfold Builtin.cap_
          simp only [List.getElem?_toArray, List.getElem?_cons_zero, Sem.run_bind, run_underlying hd, Result.andThen_ok]
          unfold capV at hn
          split at hn
          · split at hn
            · rename_i he; cases hn; rw [he] at hv; rw [viewD_sl hv]; rfl
            · cases hn
          · split at hn
            · rename_i he; cases hn; rw [he] at hv; rw [viewD_sl hv]; rfl
            · cases hn
          · split at hn
            · rename_i he; cases hn; rw [he] at hv; rw [viewD_sl hv]; rfl
            · cases hn
          · cases hn
        unfold execOp
        rw [ho]
        simp only [Sem.run_bind, resolve, List.map_toArray, List.map_cons, List.map_nil, opd_s hT hx hc hg, Sem.run_pure, Result.andThen_ok, invoke, builtin]
        rw [hrun]; rfl
      · cases h
    · cases h
  · cases h

theorem fn_val (f : FuncId) (c : AV) : (AV.fn f c).val = .func (.func f) #[] (c.toL.map AV.val).toArray := by
  show Value.func (.func f) #[] c.vals.toArray = _
  rw [AV.toL_vals]

theorem qs_callT (hct : CtOk P O w0 E.ct) {t : Nat} {args : Array Operand} {ts : Array TypeId} (h : qeval E M tm g tag (.call { callee := .value (.tmp t), args := args, argTypes := ts }) = some r) (ho : o.op = .call { callee := .value (.tmp t), args := args, argTypes := ts }) (hc : r.cond) (hT : SatT N tm a) (hS : Sat O w0 M w) (hg : holdsG g) (hk : ∀ b w', Below w.heap.size w w' → r.laid w w' b → next (a.put o.dst (r.out b).val) w') : o.wp P a w next Q := by
  simp only [qeval] at h
  split at h
  · rename_i c f caps p l ht hl
    split at h
    · rename_i q res hq
      cases h
      unfold Oper.wp
      have hfv : a.eval (.tmp t) = (AV.fn f caps).val := opd_s hT (show opd tm (.tmp t) = _ from ht) hc.1 hg
      have : (execOp a.eval o).run P w = (callFunc f ((vals l ++ caps.toL).map AV.val).toArray).run P w := by
        unfold execOp
        rw [ho]
        simp only [Sem.run_bind, resolve, hfv, fn_val, Deferred.ofValue, args_eq hT hg hl hc.2.1, Sem.run_pure, Result.andThen_ok, invoke, List.append_toArray, List.map_append, List.nil_append]
      rw [this]
      exact hct f (vals l ++ caps.toL) M q res hq (imp_elim hc.2.2 hg) w hS o a next Q (fun w' hw' => hk 0 w' hw' trivial)
    · cases h
  · cases h

theorem qs_makeMap (hb : TblOk P E.tb) {t : TypeId} {x : Option Operand} (h : qeval E M tm g tag (.makeMap t x) = some r) (ho : o.op = .makeMap t x) (hc : r.cond) (hT : SatT N tm a) (hg : holdsG g) (hk : ∀ b w', Below w.heap.size w w' → r.laid w w' b → next (a.put o.dst (r.out b).val) w') : o.wp P a w next Q := by
  have key : (execOp a.eval o).run P w = .ok (.value (.map (some w.heap.size))) (w.alloc (.map #[] 0)) ∧ ∃ c, r = .new c (fun b => .mp tag b) (fun b => .mp true b [] 0) := by
    cases x with
    | none =>
      simp only [qeval] at h
      cases h
      refine ⟨?_, _, rfl⟩
      unfold execOp; rw [ho]; rfl
    | some x =>
      simp only [qeval] at h
      split at h
      · rename_i c k n ro hx hr
        split at h
        · rename_i he
          cases h
          refine ⟨?_, _, rfl⟩
          obtain ⟨d, hd, hv⟩ := (hb.get hr).under
          rw [he] at hv
          have : ∃ k e, d = .map k e := by cases d <;> simp [viewD] at hv; exact ⟨_, _, rfl⟩
          obtain ⟨k, e, rfl⟩ := this
          unfold execOp; rw [ho]
          simp only [Option.map_some, opd_s hT hx hc hg, Sem.run_bind, Instr.makeMap, run_underlying hd, Result.andThen_ok]
          rfl
        · cases h
      · cases h
  obtain ⟨h1, c, rfl⟩ := key
  unfold Oper.wp; rw [h1]
  refine hk w.heap.size (w.alloc (.map #[] 0)) ((Below.refl _ _).alloc (Nat.le_refl _) _) ⟨fun k hk => by cases hk; exact Nat.le_refl _, fun k hk => hk, #[], ?_, MapKept.stamped_empty 0, rfl⟩
  show (w.heap.push (.map #[] 0))[w.heap.size]? = _
  simp

theorem qs_call (hct : CtOk P O w0 E.ct) {f : FuncId} {args : Array Operand} {ts : Array TypeId} (h : qeval E M tm g tag (.call { callee := .value (.func f), args := args, argTypes := ts }) = some r) (ho : o.op = .call { callee := .value (.func f), args := args, argTypes := ts }) (hc : r.cond) (hT : SatT N tm a) (hS : Sat O w0 M w) (hg : holdsG g) (hk : ∀ b w', Below w.heap.size w w' → r.laid w w' b → next (a.put o.dst (r.out b).val) w') : o.wp P a w next Q := by
  simp only [qeval] at h
  split at h
  · rename_i p l hl
    split at h
    · rename_i q res hq
      cases h
      unfold Oper.wp
      have : (execOp a.eval o).run P w = (callFunc f ((vals l).map AV.val).toArray).run P w := by
        unfold execOp
        rw [ho]
        simp only [Sem.run_bind, resolve, Act.eval, Deferred.ofValue, args_eq hT hg hl hc.1, Sem.run_pure, Result.andThen_ok, invoke, Array.empty_append, Array.append_empty]
      rw [this]
      exact hct f (vals l) M q res hq (imp_elim hc.2 hg) w hS o a next Q (fun w' hw' => hk 0 w' hw' trivial)
    · cases h
  · cases h

end
end Go.Proofs.Ytaohdlepocajcaa.V
