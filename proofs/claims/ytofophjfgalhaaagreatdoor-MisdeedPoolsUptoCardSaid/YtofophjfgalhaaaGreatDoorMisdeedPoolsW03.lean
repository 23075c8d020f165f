import Derived.Test.YtofophjfgalhaaaGreatDoorMisdeedPoolsW02
set_option linter.unusedVariables false
set_option linter.unusedSimpArgs false
set_option maxRecDepth 100000
set_option maxHeartbeats 8000000
namespace Go.Proofs.YtofophjfgalhaaaGreatDoor.V
open Go Go.RowKit
section
variable {P : Program} {E : Env} {O : Nat → Prop} {w0 : World} {N : Nat} {M : MemF} {tm : TmF} {g : Option Bool} {tag : Nat} {a : Act} {w : World} {o : Oper} {r : R} {next : Act → World → Prop} {Q : Exit → Act → World → Prop}
theorem qs_load (hb : TblOk P E.tb) {t : TypeId} {x : Operand} (h : qeval E M tm g tag (.load t x) = some r) (ho : o.op = .load t x) (hc : r.cond) (hT : SatT N tm a) (hS : Sat O w0 M w) (hg : holdsG g) (hk : ∀ b w', Below w.heap.size w w' → r.laid w w' b → next (a.put o.dst (r.out b).val) w') : o.wp P a w next Q := by
 simp only [qeval] at h
 split at h
 ·
  rename_i c p ro hx hr
  split at h
  ·
   rename_i q s hl
   cases h
   refine wp_val (v := s.val) ?_ (hk 0 w (Below.refl _ _) trivial)
   unfold execOp
   rw [ho]
   simp only [Sem.run_bind, Instr.loadAt, opd_s hT hx hc.1 hg]
   have : (Instr.sureAddr (AV.ptr p).val).run P w = .ok p.addr w := rfl
   rw [this, Result.andThen_ok, loadV_run hS (hb.get hr) hl (imp_elim hc.2 hg)]
   rfl
  ·
   cases h
 ·
  cases h
theorem qs_nilCheck {x : Operand} (h : qeval E M tm g tag (.nilCheck x) = some r) (ho : o.op = .nilCheck x) (hc : r.cond) (hT : SatT N tm a) (hg : holdsG g) (hk : ∀ b w', Below w.heap.size w w' → r.laid w w' b → next (a.put o.dst (r.out b).val) w') : o.wp P a w next Q := by
 simp only [qeval] at h
 split at h
 ·
  rename_i c p hx
  cases h
  refine wp_val (v := (AV.ptr p).val) ?_ (hk 0 w (Below.refl _ _) trivial)
  unfold execOp
  rw [ho]
  simp only [opd_s hT hx hc hg]
  rfl
 ·
  cases h
theorem qs_binOp (hb : TblOk P E.tb) (he : EqOk P E.eqs) {op : BinOp} {t yt : TypeId} {x y : Operand} (h : qeval E M tm g tag (.binOp op t x y yt) = some r) (ho : o.op = .binOp op t x y yt) (hc : r.cond) (hT : SatT N tm a) (hg : holdsG g) (hk : ∀ b w', Below w.heap.size w w' → r.laid w w' b → next (a.put o.dst (r.out b).val) w') : o.wp P a w next Q := by
 simp only [qeval] at h
 split at h
 ·
  rename_i cx u cy v ro hx hy hr
  split at h
  ·
   rename_i hag
   simp only [Bool.and_eq_true] at hag
   split at h
   ·
    rename_i q hq hm
    cases h
    refine wp_val (v := .bool q) ?_ (hk 0 w (Below.refl _ _) trivial)
    unfold execOp
    rw [ho]
    simp only [opd_s hT hx hc.1 hg, opd_s hT hy hc.2 hg]
    have := (eqT_bin hb he hq hag.1 hag.2 (he.mem hm).2.2 x y w).1
    rw [Sem.run_bind, this]; rfl
   ·
    rename_i q hq hm
    cases h
    refine wp_val (v := .bool !q) ?_ (hk 0 w (Below.refl _ _) trivial)
    unfold execOp
    rw [ho]
    simp only [opd_s hT hx hc.1 hg, opd_s hT hy hc.2 hg]
    have := (eqT_bin hb he hq hag.1 hag.2 (he.mem hm).2.2 x y w).2
    rw [Sem.run_bind, this]; rfl
   ·
    cases h
  ·
   split at h
   ·
    rename_i q z hz
    cases h
    obtain ⟨h1, h2, h3⟩ := hc
    refine wp_val (v := z) ?_ (hk 0 w (Below.refl _ _) trivial)
    unfold execOp
    rw [ho]
    simp only [opd_s hT hx h1 hg, opd_s hT hy h2 hg]
    rw [Sem.run_bind, binV_run (hb.get hr) hz (imp_elim h3 hg) x y w]; rfl
   ·
    cases h
 ·
  cases h
theorem qs_unOp {op : UnOp} {t : TypeId} {x : Operand} (h : qeval E M tm g tag (.unOp op t x) = some r) (ho : o.op = .unOp op t x) (hc : r.cond) (hT : SatT N tm a) (hg : holdsG g) (hk : ∀ b w', Below w.heap.size w w' → r.laid w w' b → next (a.put o.dst (r.out b).val) w') : o.wp P a w next Q := by
 simp only [qeval] at h
 split at h
 ·
  rename_i c b hx
  split at h
  ·
   cases h
   refine wp_val (v := .bool !b) ?_ (hk 0 w (Below.refl _ _) trivial)
   unfold execOp; rw [ho]; simp only [opd_s hT hx hc hg]; rfl
  ·
   cases h
 ·
  rename_i c k n hx
  split at h
  ·
   cases h
   refine wp_val ?_ (hk 0 w (Below.refl _ _) trivial)
   unfold execOp; rw [ho]; simp only [opd_s hT hx hc hg]; rfl
  ·
   cases h
   refine wp_val ?_ (hk 0 w (Below.refl _ _) trivial)
   unfold execOp; rw [ho]; simp only [opd_s hT hx hc hg]; rfl
  ·
   cases h
 ·
  cases h
theorem qs_convert (hb : TblOk P E.tb) {s t : TypeId} {x : Operand} (h : qeval E M tm g tag (.convert s t x) = some r) (ho : o.op = .convert s t x) (hc : r.cond) (hT : SatT N tm a) (hg : holdsG g) (hk : ∀ b w', Below w.heap.size w w' → r.laid w w' b → next (a.put o.dst (r.out b).val) w') : o.wp P a w next Q := by
 simp only [qeval] at h
 split at h
 ·
  rename_i c k0 n rs rd hx hs hd
  split at h
  ·
   rename_i k hk'
   cases h
   refine wp_val (v := .int k (k.wrap n)) ?_ (hk 0 w (Below.refl _ _) trivial)
   obtain ⟨d1, e1, _⟩ := (hb.get hs).under
   obtain ⟨d2, e2, v2⟩ := (hb.get hd).under
   rw [hk'] at v2
   have : d2 = .int k := by cases d2 <;> simp [viewD] at v2; rw [v2]
   rw [this] at e2
   unfold execOp; rw [ho]; simp only [opd_s hT hx hc hg, AV.val_v, convert, Sem.run_bind, run_underlying e1, run_underlying e2, Result.andThen_ok, Conv.intToInt]
   rfl
  ·
   cases h
 ·
  cases h
theorem foldr_vals : ∀ l : List AV, (l.foldr AV.cons .nil).vals = l.map AV.val
 | [] => rfl
 | x :: l => by rw [List.foldr_cons, AV.vals_cons, foldr_vals l]; rfl
theorem args_eq (hT : SatT N tm a) (hg : holdsG g) {xs : Array Operand} {p : Prop} {l : List (Nat × AV)} (h : opds tm g (xs.toList.map fun x => (0, x)) = some (p, l)) (hp : p) : xs.map a.eval = ((vals l).map AV.val).toArray := by
 have := opds_sound hT hg h hp
 apply Array.ext'
 rw [Array.toList_map]
 have e := congrArg (fun l => l.map (fun x : Nat × Value => x.2)) this
 simp only [List.map_map] at e
 unfold vals
 rw [List.map_map]
 exact e
theorem qs_makeFunc {fn : Fn} {first caps : Array Operand} (h : qeval E M tm g tag (.makeFunc fn first caps) = some r) (ho : o.op = .makeFunc fn first caps) (hc : r.cond) (hT : SatT N tm a) (hg : holdsG g) (hk : ∀ b w', Below w.heap.size w w' → r.laid w w' b → next (a.put o.dst (r.out b).val) w') : o.wp P a w next Q := by
 cases fn <;> try (simp [qeval] at h; done)
 rename_i f
 simp only [qeval] at h
 split at h
 ·
  rename_i p l hf hl
  cases h
  refine wp_val ?_ (hk 0 w (Below.refl _ _) trivial)
  have hfirst : first = #[] := by apply Array.ext'; rw [hf]
  unfold execOp
  rw [ho, hfirst]
  simp only [args_eq hT hg hl hc, Array.map_empty]
  show Result.ok (Next.value (Value.func (.func f) #[] _)) w = Result.ok (Next.value (Value.func (.func f) #[] ((vals l).foldr AV.cons .nil).vals.toArray)) w
  rw [foldr_vals]
 ·
  cases h
theorem qs_fieldAddr (hb : TblOk P E.tb) {s : TypeId} {x : Operand} {f : Nat} (h : qeval E M tm g tag (.fieldAddr s x f) = some r) (ho : o.op = .fieldAddr s x f) (hc : r.cond) (hT : SatT N tm a) (hg : holdsG g) (hk : ∀ b w', Below w.heap.size w w' → r.laid w w' b → next (a.put o.dst (r.out b).val) w') : o.wp P a w next Q := by
 simp only [qeval] at h
 split at h
 ·
  rename_i c n ix b o0 es idx off j lf ofs sz ft hx hf
  split at h
  ·
   rename_i hp
   cases h
   refine wp_val ?_ (hk 0 w (Below.refl _ _) trivial)
   unfold execOp; rw [ho]
   simp only [opd_s hT hx hc hg, Sem.run_bind]
   show ((Instr.fieldAt s (.pointer (some ⟨b, o0 + idx * es + off + j, none⟩)) f).run P w).andThen _ = _
   rw [run_fieldAt hb hf hp]
   show Result.ok (Next.value (Value.pointer (some ⟨b, o0 + idx * es + off + j + ofs, none⟩))) w = Result.ok (Next.value (Value.pointer (some ⟨b, o0 + idx * es + (off + ofs) + j, none⟩))) w
   congr 5
   omega
  ·
   cases h
 ·
  cases h
theorem qs_field (hb : TblOk P E.tb) {s : TypeId} {x : Operand} {f : Nat} (h : qeval E M tm g tag (.field s x f) = some r) (ho : o.op = .field s x f) (hc : r.cond) (hT : SatT N tm a) (hg : holdsG g) (hk : ∀ b w', Below w.heap.size w w' → r.laid w w' b → next (a.put o.dst (r.out b).val) w') : o.wp P a w next Q := by
 simp only [qeval] at h
 split at h
 ·
  rename_i c av ofs sz ft hx hf
  split at h
  ·
   rename_i ro hr hag
   split at h
   ·
    rename_i st hs hsub
    cases h
    refine wp_val (v := st.val) ?_ (hk 0 w (Below.refl _ _) trivial)
    obtain ⟨gs, hu, fd, hfd, h1, h2, h3⟩ := fieldOf_spec hb hf
    obtain ⟨hp, hkd⟩ := AV.sub_spec av hsub
    unfold execOp; rw [ho]
    simp only [opd_s hT hx hc hg, AV.val_of_cells hag, Sem.run_bind, Instr.field, run_underlying hu, Result.andThen_ok, hfd, h1, h3]
    have hag2 : (asAgg (.agg av.cells.toArray)).run P w = .ok av.cells.toArray w := rfl
    rw [hag2, Result.andThen_ok, run_part (hb.get hr) (s := st) (by rw [kindB hs]; exact hp) hkd w]
    rfl
   ·
    cases h
  ·
   cases h
 ·
  cases h
theorem qs_extract {x : Operand} {i : Nat} (h : qeval E M tm g tag (.extract x i) = some r) (ho : o.op = .extract x i) (hc : r.cond) (hT : SatT N tm a) (hg : holdsG g) (hk : ∀ b w', Below w.heap.size w w' → r.laid w w' b → next (a.put o.dst (r.out b).val) w') : o.wp P a w next Q := by
 simp only [qeval] at h
 split at h
 ·
  rename_i c l hx
  split at h <;> first | (cases h; done) | skip
  all_goals
   cases h
   refine wp_val ?_ (hk 0 w (Below.refl _ _) trivial)
   unfold execOp; rw [ho]
   simp only [opd_s hT hx hc hg]
   rfl
 ·
  cases h
theorem qs_len (hb : TblOk P E.tb) {args : Array Operand} {ts : Array TypeId} (h : qeval E M tm g tag (.call { callee := .builtin .len, args := args, argTypes := ts }) = some r) (ho : o.op = .call { callee := .builtin .len, args := args, argTypes := ts }) (hc : r.cond) (hT : SatT N tm a) (hS : Sat O w0 M w) (hg : holdsG g) (hk : ∀ b w', Below w.heap.size w w' → r.laid w w' b → next (a.put o.dst (r.out b).val) w') : o.wp P a w next Q := by
 simp only [qeval] at h
 split at h
 ·
  rename_i x t hx0 ht0
  split at h
  ·
   rename_i c av ro hx hr
   split at h
   ·
    rename_i q n hn
    cases h
    obtain ⟨hc, hq⟩ := hc
    have hq := imp_elim hq hg
    have hx1 : args = #[x] := by apply Array.ext'; rw [hx0]
    have ht1 : ts = #[t] := by apply Array.ext'; rw [ht0]
    subst hx1 ht1
    refine wp_val (v := .int .i64 n) ?_ (hk 0 w (Below.refl _ _) trivial)
    have hrun : (Builtin.len_ #[t] o.type #[av.val]).run P w = .ok (.int .i64 n) w := by
     obtain ⟨d, hd, hv⟩ := (hb.get hr).under
     unfold Builtin.len_
     simp only [List.getElem?_toArray, List.getElem?_cons_zero, Sem.run_bind, run_underlying hd, Result.andThen_ok]
     unfold lenM at hn
     split at hn
     ·
      split at hn
      ·
       rename_i n' bm dd xx kk ee mine b' l clk he hM
       cases hn
       obtain ⟨es, h1, _, h3⟩ := hS.holds _ _ hM
       have hl := congrArg List.length h3
       simp only [List.length_map] at hl
       rw [he] at hv
       have : ∃ k e, d = .map k e := by cases d <;> simp [viewD] at hv; exact ⟨_, _, rfl⟩
       obtain ⟨k, e, rfl⟩ := this
       have hbb : b' = bm := hq
       subst hbb
       refine (Sem.run_bind (x := getObj b') ..).trans ?_
       rw [MapKept.run_getObj_map h1, Result.andThen_ok]
       rw [← hl]; rfl
      ·
       cases hn
     ·
      split at hn
      ·
       rename_i n hn'
       cases hn
       unfold lenV at hn'
       split at hn'
       ·
        split at hn'
        ·
         rename_i he; cases hn'; rw [he] at hv; rw [viewD_sl hv]; rfl
        ·
         cases hn'
       ·
        split at hn'
        ·
         rename_i he; cases hn'; rw [he] at hv; rw [viewD_sl hv]; rfl
        ·
         cases hn'
       ·
        split at hn'
        ·
         rename_i he; cases hn'; rw [he] at hv; rw [viewD_sl hv]; rfl
        ·
         cases hn'
       ·
        split at hn'
        ·
         rename_i he
         cases hn'
         rw [he] at hv
         have : d = .string := by cases d <;> simp [viewD] at hv; rfl
         rw [this]; rfl
        ·
         cases hn'
       ·
        split at hn'
        ·
         rename_i he
         cases hn'
         rw [he] at hv
         have : ∃ k e, d = .map k e := by cases d <;> simp [viewD] at hv; exact ⟨_, _, rfl⟩
         obtain ⟨k, e, rfl⟩ := this
         rfl
        ·
         cases hn'
       ·
        split at hn'
        ·
         rename_i he; cases hn'; rw [he] at hv; rw [viewD_arr hv]; rfl
        ·
         cases hn'
      ·
       cases hn
    unfold execOp
    rw [ho]
    simp only [Sem.run_bind, resolve, List.map_toArray, List.map_cons, List.map_nil, opd_s hT hx hc hg, Sem.run_pure, Result.andThen_ok, invoke, builtin]
    rw [hrun]; rfl
   ·
    cases h
  ·
   cases h
 ·
  cases h
theorem qs_cap (hb : TblOk P E.tb) {args : Array Operand} {ts : Array TypeId} (h : qeval E M tm g tag (.call { callee := .builtin .cap, args := args, argTypes := ts }) = some r) (ho : o.op = .call { callee := .builtin .cap, args := args, argTypes := ts }) (hc : r.cond) (hT : SatT N tm a) (hg : holdsG g) (hk : ∀ b w', Below w.heap.size w w' → r.laid w w' b → next (a.put o.dst (r.out b).val) w') : o.wp P a w next Q := by
 simp only [qeval] at h
 split at h
 ·
  rename_i x t hx0 ht0
  split at h
  ·
   rename_i c av ro hx hr
   split at h
   ·
    rename_i n hn
    cases h
    have hx1 : args = #[x] := by apply Array.ext'; rw [hx0]
    have ht1 : ts = #[t] := by apply Array.ext'; rw [ht0]
    subst hx1 ht1
    refine wp_val (v := .int .i64 n) ?_ (hk 0 w (Below.refl _ _) trivial)
    have hrun : (Builtin.cap_ #[t] o.type #[av.val]).run P w = .ok (.int .i64 n) w := by
     obtain ⟨d, hd, hv⟩ := (hb.get hr).under
     unfold Builtin.cap_
     simp only [List.getElem?_toArray, List.getElem?_cons_zero, Sem.run_bind, run_underlying hd, Result.andThen_ok]
     unfold capV at hn
     split at hn
     ·
      split at hn
      ·
       rename_i he; cases hn; rw [he] at hv; rw [viewD_sl hv]; rfl
      ·
       cases hn
     ·
      split at hn
      ·
       rename_i he; cases hn; rw [he] at hv; rw [viewD_sl hv]; rfl
      ·
       cases hn
     ·
      split at hn
      ·
       rename_i he; cases hn; rw [he] at hv; rw [viewD_sl hv]; rfl
      ·
       cases hn
     ·
      cases hn
    unfold execOp
    rw [ho]
    simp only [Sem.run_bind, resolve, List.map_toArray, List.map_cons, List.map_nil, opd_s hT hx hc hg, Sem.run_pure, Result.andThen_ok, invoke, builtin]
    rw [hrun]; rfl
   ·
    cases h
  ·
   cases h
 ·
  cases h
theorem fn_val (f : FuncId) (c : AV) : (AV.fn f c).val = .func (.func f) #[] (c.toL.map AV.val).toArray := by
 show Value.func (.func f) #[] c.vals.toArray = _
 rw [AV.toL_vals]
theorem qs_callT (hct : CtOk P O w0 E.ct) {t : Nat} {args : Array Operand} {ts : Array TypeId} (h : qeval E M tm g tag (.call { callee := .value (.tmp t), args := args, argTypes := ts }) = some r) (ho : o.op = .call { callee := .value (.tmp t), args := args, argTypes := ts }) (hc : r.cond) (hT : SatT N tm a) (hS : Sat O w0 M w) (hg : holdsG g) (hk : ∀ b w', Below w.heap.size w w' → r.laid w w' b → next (a.put o.dst (r.out b).val) w') : o.wp P a w next Q := by
 simp only [qeval] at h
 split at h
 ·
  rename_i c f caps p l ht hl
  split at h
  ·
   rename_i q res hq
   cases h
   unfold Oper.wp
   have hfv : a.eval (.tmp t) = (AV.fn f caps).val := opd_s hT (show opd tm (.tmp t) = _ from ht) hc.1 hg
   have : (execOp a.eval o).run P w = (callFunc f ((vals l ++ caps.toL).map AV.val).toArray).run P w := by
    unfold execOp
    rw [ho]
    simp only [Sem.run_bind, resolve, hfv, fn_val, Deferred.ofValue, args_eq hT hg hl hc.2.1, Sem.run_pure, Result.andThen_ok, invoke, List.append_toArray, List.map_append, List.nil_append]
   rw [this]
   exact hct f (vals l ++ caps.toL) M q res hq (imp_elim hc.2.2 hg) w hS o a next Q (fun w' hw' => hk 0 w' hw' trivial)
  ·
   cases h
 ·
  cases h
theorem qs_makeMap (hb : TblOk P E.tb) {t : TypeId} {x : Option Operand} (h : qeval E M tm g tag (.makeMap t x) = some r) (ho : o.op = .makeMap t x) (hc : r.cond) (hT : SatT N tm a) (hg : holdsG g) (hk : ∀ b w', Below w.heap.size w w' → r.laid w w' b → next (a.put o.dst (r.out b).val) w') : o.wp P a w next Q := by
 have key : (execOp a.eval o).run P w = .ok (.value (.map (some w.heap.size))) (w.alloc (.map #[] 0)) ∧ ∃ c, r = .new c (fun b => .mp tag b) (fun b => .mp true b [] 0) := by
  cases x with
  | none =>
   simp only [qeval] at h
   cases h
   refine ⟨?_, _, rfl⟩
   unfold execOp; rw [ho]; rfl
  | some x =>
   simp only [qeval] at h
   split at h
   ·
    rename_i c k n ro hx hr
    split at h
    ·
     rename_i he
     cases h
     refine ⟨?_, _, rfl⟩
     obtain ⟨d, hd, hv⟩ := (hb.get hr).under
     rw [he] at hv
     have : ∃ k e, d = .map k e := by cases d <;> simp [viewD] at hv; exact ⟨_, _, rfl⟩
     obtain ⟨k, e, rfl⟩ := this
     unfold execOp; rw [ho]
     simp only [Option.map_some, opd_s hT hx hc hg, Sem.run_bind, Instr.makeMap, run_underlying hd, Result.andThen_ok]
     rfl
    ·
     cases h
   ·
    cases h
 obtain ⟨h1, c, rfl⟩ := key
 unfold Oper.wp; rw [h1]
 refine hk w.heap.size (w.alloc (.map #[] 0)) ((Below.refl _ _).alloc (Nat.le_refl _) _) ⟨fun k hk => by cases hk; exact Nat.le_refl _, fun k hk => hk, #[], ?_, MapKept.stamped_empty 0, rfl⟩
 show (w.heap.push (.map #[] 0))[w.heap.size]? = _
 simp
theorem qs_call (hct : CtOk P O w0 E.ct) {f : FuncId} {args : Array Operand} {ts : Array TypeId} (h : qeval E M tm g tag (.call { callee := .value (.func f), args := args, argTypes := ts }) = some r) (ho : o.op = .call { callee := .value (.func f), args := args, argTypes := ts }) (hc : r.cond) (hT : SatT N tm a) (hS : Sat O w0 M w) (hg : holdsG g) (hk : ∀ b w', Below w.heap.size w w' → r.laid w w' b → next (a.put o.dst (r.out b).val) w') : o.wp P a w next Q := by
 simp only [qeval] at h
 split at h
 ·
  rename_i p l hl
  split at h
  ·
   rename_i q res hq
   cases h
   unfold Oper.wp
   have : (execOp a.eval o).run P w = (callFunc f ((vals l).map AV.val).toArray).run P w := by
    unfold execOp
    rw [ho]
    simp only [Sem.run_bind, resolve, Act.eval, Deferred.ofValue, args_eq hT hg hl hc.1, Sem.run_pure, Result.andThen_ok, invoke, Array.empty_append, Array.append_empty]
   rw [this]
   exact hct f (vals l) M q res hq (imp_elim hc.2 hg) w hS o a next Q (fun w' hw' => hk 0 w' hw' trivial)
  ·
   cases h
 ·
  cases h
end
section
variable {P : Program} {E : Env} {O : Nat → Prop} {w0 : World} {N : Nat} {M : MemF} {tm : TmF} {g : Option Bool} {tag : Nat} {a : Act} {w : World} {o : Oper} {r : R} {next : Act → World → Prop} {Q : Exit → Act → World → Prop}
theorem run_indexAt_slice {t e : TypeId} {rt re : TRow} (hr : RowOk P t rt) (hd : rt.d = .sl e) (hre : RowOk P e re) {b c len cap : Nat} {k : IntKind} {i : Int} (h0 : 0 ≤ i) (h1 : i < len) (w : World) :
  (Instr.indexAt t (.slice (some ⟨b, c, none⟩) len cap) (.int k i)).run P w = .ok (.pointer (some ⟨b, c + i.toNat * re.size, none⟩)) w := by
 obtain ⟨d, hu, hv⟩ := hr.under
 rw [hd] at hv
 rw [viewD_sl hv] at hu
 have ha : (asIntOf (.int k i)).run P w = .ok (k, i) w := rfl
 unfold Instr.indexAt
 rw [Sem.run_bind, ha, Result.andThen_ok]
 simp only [Sem.run_bind, run_underlying hu, Result.andThen_ok, Sem.run_pure]
 rw [if_pos ⟨h0, h1⟩]
 simp only [Sem.run_bind, hre.run_sizeOf, Result.andThen_ok, Sem.run_pure, Addr.add_none]
theorem run_indexAt_arr {t e : TypeId} {rt re : TRow} (hr : RowOk P t rt) {m : Nat} (hd : rt.d = .arr m e) (hre : RowOk P e re) {b c : Nat} {k : IntKind} {i : Int} (h0 : 0 ≤ i) (h1 : i < m) (w : World) :
  (Instr.indexAt t (.pointer (some ⟨b, c, none⟩)) (.int k i)).run P w = .ok (.pointer (some ⟨b, c + i.toNat * re.size, none⟩)) w := by
 obtain ⟨d, hu, hv⟩ := hr.under
 rw [hd] at hv
 rw [viewD_arr hv] at hu
 have ha : (asIntOf (.int k i)).run P w = .ok (k, i) w := rfl
 unfold Instr.indexAt
 rw [Sem.run_bind, ha, Result.andThen_ok]
 have hs : (Instr.sureAddr (.pointer (some ⟨b, c, none⟩))).run P w = .ok ⟨b, c, none⟩ w := rfl
 simp only [Sem.run_bind, run_underlying hu, Result.andThen_ok, Sem.run_pure, hs]
 rw [if_pos ⟨h0, h1⟩]
 simp only [Sem.run_bind, hre.run_sizeOf, Result.andThen_ok, Sem.run_pure, Addr.add_none]
theorem gsAt_some (hS : Sat O w0 M w) {n ix i : Nat} {b : Option (Nat × Nat)} {q : Prop} (h : gsAt M n ix b i = some q) (hq : q) : ∃ x y, b = some (x, y) := by
 unfold gsAt at h
 split at h
 ·
  rename_i hM
  cases h
  obtain ⟨h1, h2⟩ := hq
  obtain ⟨b', h3, _⟩ := vrow_some (hS.holds _ _ hM) h2
  subst h3
  exact ⟨b', 0, h1⟩
 ·
  rename_i hM
  cases h
  obtain ⟨h1, h2⟩ := hq
  have h3 := hS.holds _ _ hM
  cases hb : b with
  | none => rw [hb] at h1; have := (h3 ix).1 h1.symm; omega
  | some z => exact ⟨z.1, z.2, rfl⟩
 ·
  cases h
theorem qs_indexAddr (hb : TblOk P E.tb) {t : TypeId} {x i : Operand} (h : qeval E M tm g tag (.indexAddr t x i) = some r) (ho : o.op = .indexAddr t x i) (hc : r.cond) (hT : SatT N tm a) (hS : Sat O w0 M w) (hg : holdsG g) (hk : ∀ b w', Below w.heap.size w w' → r.laid w w' b → next (a.put o.dst (r.out b).val) w') : o.wp P a w next Q := by
 simp only [qeval] at h
 split at h
 ·
  rename_i c n ix b o0 es idx off j lf len cap ci ki k rt hx hi hr
  split at h
  ·
   rename_i e he
   split at h
   ·
    rename_i re hre
    split at h
    ·
     rename_i hs
     cases h
     obtain ⟨h1, h2, h3⟩ := hc
     have h3 := imp_elim h3 hg
     refine wp_val ?_ (hk 0 w (Below.refl _ _) trivial)
     unfold execOp; rw [ho]
     simp only [opd_s hT hx h1 hg, opd_s hT hi h2 hg, Sem.run_bind]
     show ((Instr.indexAt t (.slice (some ⟨b, o0 + idx * es + off + j, none⟩) len cap) (.int ki k)).run P w).andThen _ = _
     rw [run_indexAt_slice (hb.get hr) he (hb.get hre) h3.1 h3.2, kindB hs]
     show Result.ok (Next.value (Value.pointer (some ⟨b, o0 + idx * es + off + j + k.toNat * 1, none⟩))) w = Result.ok (Next.value (Value.pointer (some ⟨b, o0 + idx * es + off + (j + k.toNat), none⟩))) w
     congr 5; omega
    ·
     cases h
   ·
    rename_i re hre
    cases h
    obtain ⟨h1, h2, h3, h4⟩ := hc
    have h3 := imp_elim h3 hg
    refine wp_val ?_ (hk 0 w (Below.refl _ _) trivial)
    unfold execOp; rw [ho]
    simp only [opd_s hT hx h1 hg, opd_s hT hi h2 hg, Sem.run_bind]
    show ((Instr.indexAt t (.slice (some ⟨b, o0 + idx * es + off + j, none⟩) len cap) (.int ki k)).run P w).andThen _ = _
    rw [run_indexAt_slice (hb.get hr) he (hb.get hre) h3.1 h3.2]
    show Result.ok (Next.value (Value.pointer (some ⟨b, o0 + idx * es + off + j + k.toNat * re.size, none⟩))) w = Result.ok (Next.value (Value.pointer (some ⟨b, o0 + (idx + k.toNat) * es + off + j, none⟩))) w
    rw [h4, Nat.add_mul]
    congr 5; omega
   ·
    cases h
  ·
   cases h
 ·
  rename_i c n ix b es i0 len cap ci ki k rt hx hi hr
  split at h
  ·
   rename_i e he
   split at h
   ·
    rename_i re q hre hq
    cases h
    obtain ⟨h1, h2, h3, h4⟩ := hc
    obtain ⟨h3, h5⟩ := imp_elim h3 hg
    obtain ⟨bb, bo, rfl⟩ := gsAt_some hS hq h5
    refine wp_val ?_ (hk 0 w (Below.refl _ _) trivial)
    unfold execOp; rw [ho]
    simp only [opd_s hT hx h1 hg, opd_s hT hi h2 hg, Sem.run_bind]
    show ((Instr.indexAt t (.slice (some ⟨bb, bo + i0 * es, none⟩) len cap) (.int ki k)).run P w).andThen _ = _
    rw [run_indexAt_slice (hb.get hr) he (hb.get hre) h3.1 h3.2]
    show Result.ok (Next.value (Value.pointer (some ⟨bb, bo + i0 * es + k.toNat * re.size, none⟩))) w = Result.ok (Next.value (Value.pointer (some ⟨bb, bo + (k.toNat + i0) * es + 0 + 0, none⟩))) w
    rw [h4, Nat.add_mul]
    congr 5; omega
   ·
    cases h
  ·
   cases h
 ·
  rename_i c n ix b o0 es idx off j lf ci ki k rt hx hi hr
  split at h
  ·
   rename_i m e he
   split at h
   ·
    rename_i re hre
    split at h
    ·
     rename_i k' _ hm hk'
     split at h
     ·
      rename_i hs
      cases h
      obtain ⟨h1, h2, h3⟩ := hc
      have h3 := imp_elim h3 hg
      refine wp_val ?_ (hk 0 w (Below.refl _ _) trivial)
      unfold execOp; rw [ho]
      simp only [opd_s hT hx h1 hg, opd_s hT hi h2 hg, Sem.run_bind]
      show ((Instr.indexAt t (.pointer (some ⟨b, o0 + idx * es + off + j, none⟩)) (.int ki k)).run P w).andThen _ = _
      rw [run_indexAt_arr (hb.get hr) he (hb.get hre) h3.1 h3.2, kindB hs]
      show Result.ok (Next.value (Value.pointer (some ⟨b, o0 + idx * es + off + j + k.toNat * 1, none⟩))) w = Result.ok (Next.value (Value.pointer (some ⟨b, o0 + idx * es + off + (j + k.toNat), none⟩))) w
      congr 5; omega
     ·
      cases h
    ·
     rename_i kk k' hm hk'
     cases h
     obtain ⟨h1, h2, h3, h4⟩ := hc
     have h3 := imp_elim h3 hg
     subst h4
     refine wp_val ?_ (hk 0 w (Below.refl _ _) trivial)
     unfold execOp; rw [ho]
     simp only [opd_s hT hx h1 hg, opd_s hT hi h2 hg, Sem.run_bind]
     show ((Instr.indexAt t (.pointer (some ⟨b, o0 + idx * es + off + j, none⟩)) (.int ki k)).run P w).andThen _ = _
     rw [run_indexAt_arr (hb.get hr) he (hb.get hre) h3.1 h3.2]
     show Result.ok (Next.value (Value.pointer (some ⟨b, o0 + idx * es + off + j + k.toNat * re.size, none⟩))) w = Result.ok (Next.value (Value.pointer (some ⟨b, o0 + idx * es + (off + k.toNat * re.size) + j, none⟩))) w
     congr 5; omega
    ·
     cases h
   ·
    cases h
  ·
   cases h
 ·
  cases h
theorem qs_index (hb : TblOk P E.tb) {t : TypeId} {x i : Operand} (h : qeval E M tm g tag (.index t x i) = some r) (ho : o.op = .index t x i) (hc : r.cond) (hT : SatT N tm a) (hg : holdsG g) (hk : ∀ b w', Below w.heap.size w w' → r.laid w w' b → next (a.put o.dst (r.out b).val) w') : o.wp P a w next Q := by
 simp only [qeval] at h
 split at h
 ·
  rename_i c k m l ci ki n rt hx hi hr
  split at h
  ·
   rename_i m' e he
   split at h
   ·
    rename_i re hre
    split at h
    ·
     rename_i k' hk'
     split at h
     ·
      rename_i hq
      cases h
      simp only [Bool.and_eq_true] at hq
      obtain ⟨⟨q1, q2⟩, q3⟩ := hq
      have q1 := kindEq_eq q1; have q2 := kindB q2; have q3 := kindB q3
      subst q1 q2
      obtain ⟨h1, h2, h3⟩ := hc
      have h3 := imp_elim h3 hg
      refine wp_val (v := .int k (l.getD n.toNat 0)) ?_ (hk 0 w (Below.refl _ _) trivial)
      obtain ⟨d, hu, hv⟩ := (hb.get hr).under
      rw [he] at hv
      rw [viewD_arr hv] at hu
      have hp : (part e ((List.range m).map fun j => Value.int k (l.getD j 0)).toArray (n.toNat * 1)).run P w = .ok (.int k (l.getD n.toNat 0)) w := by
       refine run_part (hb.get hre) (s := .v (.int k (l.getD n.toNat 0))) ⟨q3.symm, ?_, ?_⟩ (by rw [hk']; rfl) w
       ·
        simp [q3]; omega
       ·
        simp only [q3, Nat.mul_one]
        rw [← List.map_drop, ← List.map_take, List.drop_eq_getElem_cons (by simp; omega)]
        simp
      unfold execOp; rw [ho]
      simp only [opd_s hT hx h1 hg, opd_s hT hi h2 hg, Sem.run_bind]
      have ha : (asIntOf (.int ki n)).run P w = .ok (ki, n) w := rfl
      show ((Instr.index t (.agg ((List.range m).map fun j => Value.int k (l.getD j 0)).toArray) (.int ki n)).run P w).andThen _ = _
      unfold Instr.index
      rw [Sem.run_bind, ha, Result.andThen_ok]
      simp only [Sem.run_bind, run_underlying hu, Result.andThen_ok]
      rw [if_pos ⟨h3.1, h3.2⟩]
      simp only [Sem.run_bind, (hb.get hre).run_sizeOf, Result.andThen_ok, q3, hp]
      rfl
     ·
      cases h
    ·
     cases h
   ·
    cases h
  ·
   cases h
 ·
  rename_i c l ci ki n rt hx hi hr
  split at h
  ·
   rename_i m e he
   split at h
   ·
    rename_i re hre
    split at h
    ·
     rename_i s hs
     cases h
     obtain ⟨h1, h2, h3⟩ := hc
     refine wp_val (v := s.val) ?_ (hk 0 w (Below.refl _ _) trivial)
     obtain ⟨d, hu, hv⟩ := (hb.get hr).under
     rw [he] at hv
     rw [viewD_arr hv] at hu
     obtain ⟨hp, hkd⟩ := AV.sub_spec _ hs
     unfold execOp; rw [ho]
     simp only [opd_s hT hx h1 hg, opd_s hT hi h2 hg, Sem.run_bind]
     have ha : (asIntOf (.int ki (Int.ofNat n))).run P w = .ok (ki, Int.ofNat n) w := rfl
     show ((Instr.index t (.agg l.cells.toArray) (.int ki (Int.ofNat n))).run P w).andThen _ = _
     unfold Instr.index
     rw [Sem.run_bind, ha, Result.andThen_ok]
     simp only [Sem.run_bind, run_underlying hu, Result.andThen_ok]
     rw [if_pos ⟨Int.natCast_nonneg n, Int.ofNat_lt.2 h3⟩]
     simp only [Sem.run_bind, (hb.get hre).run_sizeOf, Result.andThen_ok]
     have hp2 : (part e l.cells.toArray ((Int.ofNat n).toNat * re.size)).run P w = .ok s.val w := run_part (hb.get hre) (s := s) (off := (Int.ofNat n).toNat * re.size) hp hkd w
     rw [hp2]
     rfl
    ·
     cases h
   ·
    cases h
  ·
   cases h
 ·
  rename_i c s ci ki n rt hx hi hr
  split at h
  ·
   rename_i he
   cases h
   obtain ⟨h1, h2, h3⟩ := hc
   have h3 := imp_elim h3 hg
   refine wp_val ?_ (hk 0 w (Below.refl _ _) trivial)
   obtain ⟨d, hu, hv⟩ := (hb.get hr).under
   rw [he] at hv
   have hd : d = .string := by cases d <;> simp [viewD] at hv; rfl
   rw [hd] at hu
   unfold execOp; rw [ho]
   simp only [opd_s hT hx h1 hg, opd_s hT hi h2 hg, Sem.run_bind]
   have ha : (asIntOf (.int ki n)).run P w = .ok (ki, n) w := rfl
   show ((Instr.index t (.string s) (.int ki n)).run P w).andThen _ = _
   unfold Instr.index
   rw [Sem.run_bind, ha, Result.andThen_ok]
   simp only [Sem.run_bind, run_underlying hu, Result.andThen_ok]
   have hlt : n.toNat < s.size := by omega
   have hsz : s.data.toList.length = s.size := rfl
   rw [if_pos h3.1]
   have hget : s[n.toNat]? = some (s.data.toList.getD n.toNat 0) := by
    rw [List.getD_eq_getElem?_getD, List.getElem?_eq_getElem (by rw [hsz]; exact hlt)]
    rw [getElem?_pos s n.toNat hlt]
    rfl
   rw [hget]
   rfl
  ·
   cases h
 ·
  cases h
def BndIs : Option Int → Option Value → Prop
 | none, u => u = none
 | some n, u => ∃ k, u = some (.int k n)
theorem bnd_sound (hT : SatT N tm a) (hg : holdsG g) {x : Option Operand} {p : Prop} {v : Option Int} (h : bnd tm g x = some (p, v)) (hp : p) : ∃ u : Option Value, x.map a.eval = u ∧ BndIs v u := by
 cases x with
 | none => cases h; exact ⟨none, rfl, rfl⟩
 | some x =>
  simp only [bnd] at h
  split at h
  ·
   rename_i c k n hx
   cases h
   exact ⟨some (.int k n), by rw [Option.map_some, opd_s hT hx hp hg]; rfl, k, rfl⟩
  ·
   cases h
theorem run_sliceBound {k : IntKind} {i : Int} {y : Nat} {code : BoundsCode} (h0 : 0 ≤ i) (h1 : i ≤ y) (w : World) : (Instr.sliceBound (.int k i) y code).run P w = .ok i.toNat w := by
 have ha : (asIntOf (.int k i)).run P w = .ok (k, i) w := rfl
 unfold Instr.sliceBound
 rw [Sem.run_bind, ha, Result.andThen_ok]
 simp only []
 rw [if_pos ⟨h0, h1⟩]; rfl
theorem run_sliceBounds {isSlice : Bool} {lo hi mx : Option Int} {len cap : Nat} {p : Prop} {l h m : Nat} (hb : bounds lo hi mx len cap = some (p, l, h, m)) (hp : p) {ul uh um : Option Value}
  (hl : BndIs lo ul) (hh : BndIs hi uh) (hm : BndIs mx um) (w : World) :
  (Instr.sliceBounds isSlice len cap ul uh um).run P w = .ok (l, h, m) w := by
 unfold bounds at hb
 split at hb
 ·
  cases hb
 ·
  rename_i hno
  simp only [Option.some.injEq, Prod.mk.injEq] at hb
  obtain ⟨rfl, rfl, rfl, rfl⟩ := hb
  obtain ⟨p1, p2, p3⟩ := hp
  cases mx with
  | none =>
   cases hm
   cases hi with
   | none =>
    cases hh
    cases lo with
    | none => cases hl; rfl
    | some n => obtain ⟨k, rfl⟩ := hl; simp [Instr.sliceBounds, run_sliceBound p3.1 p3.2]
   | some n =>
    obtain ⟨k, rfl⟩ := hh
    cases lo with
    | none => cases hl; simp [Instr.sliceBounds, run_sliceBound p2.1 p2.2]
    | some n' => obtain ⟨k', rfl⟩ := hl; simp [Instr.sliceBounds, run_sliceBound p2.1 p2.2, run_sliceBound p3.1 p3.2]
  | some m =>
   obtain ⟨km, rfl⟩ := hm
   cases hi with
   | none => exact absurd rfl (hno m rfl)
   | some n =>
    obtain ⟨k, rfl⟩ := hh
    cases lo with
    | none => cases hl; simp [Instr.sliceBounds, run_sliceBound p1.1 p1.2, run_sliceBound p2.1 p2.2]
    | some n' => obtain ⟨k', rfl⟩ := hl; simp [Instr.sliceBounds, run_sliceBound p1.1 p1.2, run_sliceBound p2.1 p2.2, run_sliceBound p3.1 p3.2]
theorem bounds_lo {hi mx : Option Int} {len cap : Nat} {p : Prop} {l h m : Nat} (hb : bounds none hi mx len cap = some (p, l, h, m)) : l = 0 := by
 unfold bounds at hb
 split at hb
 ·
  cases hb
 ·
  simp only [Option.some.injEq, Prod.mk.injEq] at hb
  exact hb.2.1.symm
theorem cut_addr {lo hi mx : Option Int} {len cap : Nat} {p : Prop} {l h m : Nat} (hb : bounds lo hi mx len cap = some (p, l, h, m)) (b c s : Nat) :
  (if m = l then (⟨b, c, none⟩ : Addr) else (⟨b, c, none⟩ : Addr).add (l * s)) = ⟨b, c + cutOff lo m l * s, none⟩ := by
 cases lo with
 | none =>
  have := bounds_lo hb
  subst this
  simp only [cutOff, Nat.zero_mul, Nat.add_zero]
  split
  ·
   rfl
  ·
   simp [Addr.add]
 | some v =>
  simp only [cutOff]
  split
  ·
   simp
  ·
   rw [Addr.add_none]
theorem qs_slice (hb : TblOk P E.tb) {t : TypeId} {x : Operand} {lo hi mx : Option Operand} (h : qeval E M tm g tag (.slice t x lo hi mx) = some r) (ho : o.op = .slice t x lo hi mx) (hc : r.cond) (hT : SatT N tm a) (hg : holdsG g) (hk : ∀ b w', Below w.heap.size w w' → r.laid w w' b → next (a.put o.dst (r.out b).val) w') : o.wp P a w next Q := by
 simp only [qeval] at h
 split at h
 ·
  rename_i c n ix b o0 es idx off j lf len cap rt cl vl ch vh cm vm hx hr hl hh hm
  split at h
  ·
   rename_i e p l hh' m he hbd
   split at h
   ·
    rename_i re hre
    split at h
    ·
     rename_i hs
     cases h
     obtain ⟨h1, h2, h3, h4, h5⟩ := hc
     have h5 := imp_elim h5 hg
     obtain ⟨ul, el, fl⟩ := bnd_sound hT hg hl h2
     obtain ⟨uh, eh, fh⟩ := bnd_sound hT hg hh h3
     obtain ⟨um, em, fm⟩ := bnd_sound hT hg hm h4
     have hsb := run_sliceBounds (P := P) (isSlice := true) hbd h5 fl fh fm w
     refine wp_val ?_ (hk 0 w (Below.refl _ _) trivial)
     obtain ⟨d, hu, hv⟩ := (hb.get hr).under
     rw [he] at hv
     rw [viewD_sl hv] at hu
     unfold execOp; rw [ho]
     simp only [opd_s hT hx h1 hg, el, eh, em, Sem.run_bind, Instr.sliceAt, run_underlying hu, Result.andThen_ok]
     show ((Instr.slice t (.slice (some ⟨b, o0 + idx * es + off + j, none⟩) len cap) ul uh um).run P w).andThen _ = _
     unfold Instr.slice
     simp only [Sem.run_bind, run_underlying hu, Result.andThen_ok, hsb, (hb.get hre).run_sizeOf, Sem.run_pure, kindB hs]
     have hca := cut_addr hbd b (o0 + idx * es + off + j) 1
     have : (if m = l then (some ⟨b, o0 + idx * es + off + j, none⟩ : Option Addr) else Option.map (fun x : Addr => x.add (l * 1)) (some ⟨b, o0 + idx * es + off + j, none⟩)) = some ⟨b, o0 + idx * es + off + j + cutOff vl m l * 1, none⟩ := by
      rw [← hca]; split <;> rfl
     rw [this]
     show Result.ok (Next.value (Value.slice (some ⟨b, _, none⟩) _ _)) w = Result.ok (Next.value (Value.slice (some ⟨b, o0 + idx * es + off + (j + _), none⟩) _ _)) w
     congr 5; omega
    ·
     cases h
   ·
    rename_i re hre
    cases h
    obtain ⟨h1, h2, h3, h4, h5, h6⟩ := hc
    have h5 := imp_elim h5 hg
    obtain ⟨ul, el, fl⟩ := bnd_sound hT hg hl h2
    obtain ⟨uh, eh, fh⟩ := bnd_sound hT hg hh h3
    obtain ⟨um, em, fm⟩ := bnd_sound hT hg hm h4
    have hsb := run_sliceBounds (P := P) (isSlice := true) hbd h5 fl fh fm w
    refine wp_val ?_ (hk 0 w (Below.refl _ _) trivial)
    obtain ⟨d, hu, hv⟩ := (hb.get hr).under
    rw [he] at hv
    rw [viewD_sl hv] at hu
    unfold execOp; rw [ho]
    simp only [opd_s hT hx h1 hg, el, eh, em, Sem.run_bind, Instr.sliceAt, run_underlying hu, Result.andThen_ok]
    show ((Instr.slice t (.slice (some ⟨b, o0 + idx * es + off + j, none⟩) len cap) ul uh um).run P w).andThen _ = _
    unfold Instr.slice
    simp only [Sem.run_bind, run_underlying hu, Result.andThen_ok, hsb, (hb.get hre).run_sizeOf, Sem.run_pure]
    have hca := cut_addr hbd b (o0 + idx * es + off + j) re.size
    have : (if m = l then (some ⟨b, o0 + idx * es + off + j, none⟩ : Option Addr) else Option.map (fun x : Addr => x.add (l * re.size)) (some ⟨b, o0 + idx * es + off + j, none⟩)) = some ⟨b, o0 + idx * es + off + j + cutOff vl m l * re.size, none⟩ := by
     rw [← hca]; split <;> rfl
    rw [this]
    show Result.ok (Next.value (Value.slice (some ⟨b, _, none⟩) _ _)) w = Result.ok (Next.value (Value.slice (some ⟨b, o0 + (idx + _) * es + off + j, none⟩) _ _)) w
    rw [h6, Nat.add_mul]
    congr 5; omega
   ·
    cases h
  ·
   cases h
 ·
  rename_i c n ix b es i0 len cap rt cl vl ch vh cm vm hx hr hl hh hm
  split at h
  ·
   rename_i e p l hh' m he hbd
   split at h
   ·
    rename_i re hre
    cases h
    obtain ⟨h1, h2, h3, h4, h5, h6⟩ := hc
    have h5 := imp_elim h5 hg
    obtain ⟨ul, el, fl⟩ := bnd_sound hT hg hl h2
    obtain ⟨uh, eh, fh⟩ := bnd_sound hT hg hh h3
    obtain ⟨um, em, fm⟩ := bnd_sound hT hg hm h4
    have hsb := run_sliceBounds (P := P) (isSlice := true) hbd h5 fl fh fm w
    refine wp_val ?_ (hk 0 w (Below.refl _ _) trivial)
    obtain ⟨d, hu, hv⟩ := (hb.get hr).under
    rw [he] at hv
    rw [viewD_sl hv] at hu
    unfold execOp; rw [ho]
    simp only [opd_s hT hx h1 hg, el, eh, em, Sem.run_bind, Instr.sliceAt, run_underlying hu, Result.andThen_ok, gs_val]
    unfold Instr.slice
    simp only [Sem.run_bind, run_underlying hu, Result.andThen_ok, hsb, (hb.get hre).run_sizeOf, Sem.run_pure]
    cases b with
    | none =>
     show Result.ok (Next.value (Value.slice (if m = l then none else none) _ _)) w = _
     rw [ite_self]; rfl
    | some bo =>
     have hca := cut_addr hbd bo.1 (bo.2 + i0 * es) re.size
     have : (if m = l then (some ⟨bo.1, bo.2 + i0 * es, none⟩ : Option Addr) else Option.map (fun x : Addr => x.add (l * re.size)) (some ⟨bo.1, bo.2 + i0 * es, none⟩)) = some ⟨bo.1, bo.2 + i0 * es + cutOff vl m l * re.size, none⟩ := by
      rw [← hca]; split <;> rfl
     show Result.ok (Next.value (Value.slice (if m = l then (some ⟨bo.1, bo.2 + i0 * es, none⟩ : Option Addr) else Option.map (fun x : Addr => x.add (l * re.size)) (some ⟨bo.1, bo.2 + i0 * es, none⟩)) _ _)) w = _
     rw [this]
     show Result.ok (Next.value (Value.slice (some ⟨bo.1, _, none⟩) _ _)) w = Result.ok (Next.value (Value.slice (some ⟨bo.1, bo.2 + (_ + i0) * es, none⟩) _ _)) w
     rw [h6, Nat.add_mul]
     congr 5; omega
   ·
    cases h
  ·
   cases h
 ·
  rename_i c s rt cl vl ch vh cm hx hr hl hh hm
  split at h
  ·
   rename_i p l hh' m he hbd
   cases h
   obtain ⟨h1, h2, h3, h5⟩ := hc
   have h5 := imp_elim h5 hg
   obtain ⟨ul, el, fl⟩ := bnd_sound hT hg hl h2
   obtain ⟨uh, eh, fh⟩ := bnd_sound hT hg hh h3
   have hmn : mx = none := by
    cases mx with
    | none => rfl
    | some mx => simp only [bnd] at hm; split at hm <;> cases hm
   subst hmn
   have hsb := run_sliceBounds (P := P) (isSlice := false) hbd h5 fl fh (um := none) rfl w
   refine wp_val (v := .string (s.extract l hh')) ?_ (hk 0 w (Below.refl _ _) trivial)
   obtain ⟨d, hu, hv⟩ := (hb.get hr).under
   rw [he] at hv
   have hd : d = .string := by cases d <;> simp [viewD] at hv; rfl
   rw [hd] at hu
   unfold execOp; rw [ho]
   simp only [opd_s hT hx h1 hg, el, eh, Option.map_none, Sem.run_bind, Instr.sliceAt, run_underlying hu, Result.andThen_ok, AV.val_v]
   unfold Instr.slice
   simp only [Sem.run_bind, run_underlying hu, Result.andThen_ok, Option.isSome_none, Bool.false_eq_true, if_false, hsb, Sem.run_pure]
  ·
   cases h
 ·
  rename_i c n ix b o0 es idx off j lf rt cl vl ch vh cm vm hx hr hl hh hm
  split at h
  ·
   rename_i k e he
   split at h
   ·
    rename_i re p l hh' m hre hbd
    split at h
    ·
     rename_i hs
     cases h
     obtain ⟨h1, h2, h3, h4, h5⟩ := hc
     have h5 := imp_elim h5 hg
     obtain ⟨ul, el, fl⟩ := bnd_sound hT hg hl h2
     obtain ⟨uh, eh, fh⟩ := bnd_sound hT hg hh h3
     obtain ⟨um, em, fm⟩ := bnd_sound hT hg hm h4
     have hsb := run_sliceBounds (P := P) (isSlice := false) hbd h5 fl fh fm w
     refine wp_val ?_ (hk 0 w (Below.refl _ _) trivial)
     obtain ⟨d, hu, hv⟩ := (hb.get hr).under
     rw [he] at hv
     rw [viewD_arr hv] at hu
     unfold execOp; rw [ho]
     have hsa : (Instr.sureAddr (AV.ptr ⟨n, ix, b, o0, es, idx, off, j, lf⟩).val).run P w = .ok ⟨b, o0 + idx * es + off + j, none⟩ w := rfl
     simp only [opd_s hT hx h1 hg, el, eh, em, Sem.run_bind, Instr.sliceAt, run_underlying hu, Result.andThen_ok, hsa, hsb, (hb.get hre).run_sizeOf, Sem.run_pure, kindB hs, cut_addr hbd b (o0 + idx * es + off + j) 1]
     show Result.ok (Next.value (Value.slice (some ⟨b, _, none⟩) _ _)) w = Result.ok (Next.value (Value.slice (some ⟨b, o0 + idx * es + off + (j + _), none⟩) _ _)) w
     congr 5; omega
    ·
     cases h
   ·
    cases h
  ·
   cases h
 ·
  cases h
theorem qeval_sound (hb : TblOk P E.tb) (he : EqOk P E.eqs) (hct : CtOk P O w0 E.ct) {op : Op} (h : qeval E M tm g tag op = some r) (ho : o.op = op) (hc : r.cond) (hT : SatT N tm a) (hS : Sat O w0 M w) (hg : holdsG g)
  (hk : ∀ b w', Below w.heap.size w w' → r.laid w w' b → next (a.put o.dst (r.out b).val) w') : o.wp P a w next Q := by
 cases op with
 | move x => exact qs_move h (.inl ho) hc hT hg hk
 | assign x => exact qs_move (E := E) (M := M) (tag := tag) (x := x) h (.inr ho) hc hT hg hk
 | pick c x y =>
  simp only [qeval] at h
  split at h
  ·
   rename_i cc bc ca av cb bv h1 h2 h3
   split at h
   ·
    rename_i res hp
    cases h
    obtain ⟨e1, e2, e3⟩ := hc
    exact wp_val (q_pick ho hT hg h1 h2 h3 hp e1 e2 e3) (hk 0 w (Below.refl _ _) trivial)
   ·
    split at h
    ·
     cases h
     have hb := imp_elim hc.2 hg
     refine wp_val (v := .bool true) ?_ (hk 0 w (Below.refl _ _) trivial)
     rw [q_pickB ho hT hg h1 hc.1, hb]; rfl
    ·
     cases h
     have hb := imp_elim hc.2 hg
     refine wp_val (v := .bool false) ?_ (hk 0 w (Below.refl _ _) trivial)
     rw [q_pickB ho hT hg h1 hc.1, hb]; rfl
    ·
     cases h
  ·
   cases h
 | alloc t => exact qs_alloc hb h ho hk
 | box t x => exact qs_box h ho hc hT hg hk
 | build t ps => exact qs_build hb h ho hc hT hg hk
 | buildSlice t n ps => exact qs_buildSlice hb h ho hc hT hg hk
 | makeMap t x => exact qs_makeMap hb h ho hc hT hg hk
 | load t x => exact qs_load hb h ho hc hT hS hg hk
 | nilCheck x => exact qs_nilCheck h ho hc hT hg hk
 | binOp op t x y yt => exact qs_binOp hb he h ho hc hT hg hk
 | unOp op t x => exact qs_unOp h ho hc hT hg hk
 | convert s t x => exact qs_convert hb h ho hc hT hg hk
 | makeFunc fn f c => exact qs_makeFunc h ho hc hT hg hk
 | fieldAddr s x f => exact qs_fieldAddr hb h ho hc hT hg hk
 | field s x f => exact qs_field hb h ho hc hT hg hk
 | indexAddr t x i => exact qs_indexAddr hb h ho hc hT hS hg hk
 | index t x i => exact qs_index hb h ho hc hT hg hk
 | slice t x l hh m => exact qs_slice hb h ho hc hT hg hk
 | extract x i => exact qs_extract h ho hc hT hg hk
 | call c =>
  obtain ⟨callee, args, ts⟩ := c
  cases callee with
  | builtin b =>
   cases b <;> first | (simp [qeval] at h; done) | exact qs_len hb h ho hc hT hS hg hk | exact qs_cap hb h ho hc hT hg hk
  | value f =>
   cases f <;> first | (simp [qeval] at h; done) | exact qs_call hct h ho hc hT hS hg hk | exact qs_callT hct h ho hc hT hS hg hk
  | invoke rr m => simp [qeval] at h
 | _ => simp [qeval] at h
end
def guardOf (dst : Nat → Option Tmp) (tm : TmF) : Option (Nat × Bool) → Option (Option Bool)
 | none => some none
 | some (j, want) => match dst j with
  | none => none
  | some d => match tm d with
   | some (none, .v (.bool b)) => match want with
    | true => some (some b)
    | false => some (some (!b))
   | some (some c, .v (.bool b)) => match want with
    | true => some (some (c && b))
    | false => some (some (c && !b))
   | _ => none
def dstAt (ops : Array Oper) (j : Nat) : Option Tmp := (ops[j]?).bind (·.dst)
theorem guard_sound {ops : Array Oper} {N : Nat} {tm : TmF} {a : Act} (hT : SatT N tm a) {dst : Nat → Option Tmp} (hd : ∀ j d, dst j = some d → dstAt ops j = some d) {o : Oper} {g : Option Bool} (h : guardOf dst tm o.guard = some g) :
  (Region.wanted o (yielded ops a.tmps) = true ↔ holdsG g) := by
 cases hgd : o.guard with
 | none =>
  rw [hgd] at h
  cases h
  unfold Region.wanted
  rw [hgd]
  exact ⟨fun _ => trivial, fun _ => rfl⟩
 | some jw =>
  obtain ⟨j, want⟩ := jw
  rw [hgd] at h
  simp only [guardOf] at h
  split at h
  ·
   cases h
  ·
   rename_i d hdj
   have hd' := hd j d hdj
   have key : ∀ c b, tm d = some (c, .v (.bool b)) → yielded ops a.tmps j = match c with
     | none => some b
     | some c => if c = true then some b else none := by
    intro c b htm
    have hs := hT.slot d _ htm
    unfold yielded
    unfold dstAt at hd'
    rw [hd', Option.bind_some]
    cases c with
    | none =>
     obtain ⟨h1, h2⟩ := hs
     have : a.tmps[d]? = some (.bool b) := by
      rw [Array.getElem?_eq_getElem h1]
      rw [Array.getD_eq_getD_getElem?, Array.getElem?_eq_getElem h1] at h2
      simpa using h2
     rw [this]
    | some c =>
     obtain ⟨h1, h2⟩ := hs
     rw [Array.getD_eq_getD_getElem?, Array.getElem?_eq_getElem h1] at h2
     rw [Array.getElem?_eq_getElem h1]
     simp only [Option.getD_some] at h2
     rw [h2]
     cases c <;> rfl
   unfold Region.wanted
   rw [hgd]
   simp only []
   split at h
   ·
    rename_i b htm
    have hy := key _ _ htm
    simp only at hy
    rw [hy]
    split at h <;> cases h <;> cases b <;> simp [holdsG]
   ·
    rename_i c b htm
    have hy := key _ _ htm
    simp only at hy
    rw [hy]
    split at h <;> cases h <;> cases b <;> cases c <;> simp [holdsG]
   ·
    cases h
theorem put_get {a : Act} {N d : Nat} (hs : a.tmps.size = N) (hd : d < N) (v : Value) : (a.put (some d) v).tmps.getD d undef = v := by
 show (a.tmps.setIfInBounds d v).getD d undef = v
 rw [Array.getD_eq_getD_getElem?, Array.getElem?_setIfInBounds_self_of_lt (by omega)]; rfl
theorem put_ne {a : Act} {d t : Nat} (h : d ≠ t) (v : Value) : (a.put (some d) v).tmps.getD t undef = a.tmps.getD t undef := by
 show (a.tmps.setIfInBounds d v).getD t undef = _
 rw [Array.getD_eq_getD_getElem?, Array.getElem?_setIfInBounds_ne h, ← Array.getD_eq_getD_getElem?]
theorem put_size {a : Act} {d : Option Tmp} (v : Value) : (a.put d v).tmps.size = a.tmps.size := by
 cases d with
 | none => rfl
 | some d => show (a.tmps.setIfInBounds d v).size = _; simp
theorem slot_ne {a : Act} {d t : Nat} (h : d ≠ t) {v : Value} {e : Option Bool × AV} (hs : SlotOk a t e) : SlotOk (a.put (some d) v) t e := by
 obtain ⟨c, av⟩ := e
 cases c with
 | none => exact ⟨by rw [put_size]; exact hs.1, by rw [put_ne h]; exact hs.2⟩
 | some c => exact ⟨by rw [put_size]; exact hs.1, by rw [put_ne h]; exact hs.2⟩
theorem SatT.put {N : Nat} {tm : TmF} {a : Act} (hT : SatT N tm a) {d : Nat} (hd : d < N) {g : Option Bool} {av : AV} {v : Value} (hv : match g with | none => v = av.val | some g => v = if g then av.val else undef) :
  SatT N (fun t => if d = t then some (g, av) else tm t) (a.put (some d) v) := by
 refine ⟨by rw [put_size]; exact hT.size, fun t e h => ?_⟩
 split at h
 ·
  rename_i hdt
  subst hdt
  cases h
  have h1 : d < (a.put (some d) v).tmps.size := by rw [put_size, hT.size]; exact hd
  cases g with
  | none => exact ⟨h1, by rw [put_get hT.size hd]; exact hv⟩
  | some g => exact ⟨h1, by rw [put_get hT.size hd]; exact hv⟩
 ·
  rename_i hdt
  exact slot_ne hdt (hT.slot t e h)
def zipM : List Nat → List Blk → Mem
 | t :: ts, B :: Bs => (t, B) :: zipM ts Bs
 | _, _ => []
def EvOk (P : Program) (O : Nat → Prop) (w0 : World) (ev : MemF → TmF → Option Bool → Nat → Op → Option Res) : Prop :=
 ∀ (N : Nat) (M : MemF) (tm : TmF) (g : Option Bool) (tag : Nat) (a : Act) (w : World) (o : Oper) (r : Res), ev M tm g tag o.op = some r → r.ok → SatT N tm a → Sat O w0 M w → holdsG g →
  ∀ (next : Act → World → Prop) (Q : Exit → Act → World → Prop), (∀ x w', r.can x → Turn M w w' (zipM r.tags (r.mem x)).get → next (a.put o.dst (r.out x).val) w') → o.wp P a w next Q
def R.res (tag : Nat) : R → Res
 | .val c a => ⟨Unit, c, fun _ => True, fun _ => a, [], fun _ => []⟩
 | .new c a B => ⟨Nat, c, fun _ => True, a, [tag], fun b => [B b]⟩
theorem Turn.laid {M : MemF} {w w' : World} (hb : Below w.heap.size w w') {r : R} {b tag : Nat} (hl : r.laid w w' b) : ∃ x, (r.res tag).can x ∧ (r.res tag).out x = r.out b ∧ Turn M w w' (zipM (r.res tag).tags ((r.res tag).mem x)).get := by
 cases r with
 | val c a => exact ⟨(), trivial, rfl, Turn.below hb⟩
 | new c a B => exact ⟨b, trivial, rfl, Turn.new hb hl.2.2 (fun k hk => hl.1 k hk) hl.2.1⟩
def evQ (E : Env) (M : MemF) (tm : TmF) (g : Option Bool) (tag : Nat) (op : Op) : Option Res := match qeval E M tm g tag op with
 | some (.val c a) => some ⟨Unit, c, fun _ => True, fun _ => a, [], fun _ => []⟩
 | some (.new c a B) => some ⟨Nat, c, fun _ => True, a, [tag], fun b => [B b]⟩
 | none => none
theorem evQ_res {E : Env} {M : MemF} {tm : TmF} {g : Option Bool} {tag : Nat} {op : Op} {r : Res} (h : evQ E M tm g tag op = some r) : ∃ q, qeval E M tm g tag op = some q ∧ r = q.res tag := by
 unfold evQ at h
 split at h
 ·
  rename_i c a hq; cases h; exact ⟨_, hq, rfl⟩
 ·
  rename_i c a B hq; cases h; exact ⟨_, hq, rfl⟩
 ·
  cases h
theorem evQ_ok {P : Program} {E : Env} {O : Nat → Prop} {w0 : World} (hb : TblOk P E.tb) (he : EqOk P E.eqs) (hct : CtOk P O w0 E.ct) : EvOk P O w0 (evQ E) := by
 intro N M tm g tag a w o r h hok hT hS hg next Q hk
 obtain ⟨q, hq, rfl⟩ := evQ_res h
 refine qeval_sound hb he hct hq rfl (by cases q <;> exact hok) hT hS hg fun b w' hbel hl => ?_
 obtain ⟨x, h1, h2, h3⟩ := Turn.laid (M := M) (tag := tag) hbel hl
 rw [← h2]
 exact hk x w' h1 h3
def Reads (w : World) (b o es len : Nat) (f : Nat → AV) : Prop := ∀ i, i < len → (f i).size = es ∧ (f i).one = true ∧ ∀ k, k < es → w.cell? ⟨b, o + i * es + k, none⟩ = (f i).cells[k]?
theorem Reads.congr {w : World} {b o es len : Nat} {f g : Nat → AV} (h : Reads w b o es len f) (hg : ∀ i, i < len → f i = g i) : Reads w b o es len g :=
 fun i hi => by rw [← hg i hi]; exact h i hi
theorem Reads.sub {w : World} {b o es len : Nat} {f : Nat → AV} (h : Reads w b o es len f) {i n : Nat} (hi : i + n ≤ len) : Reads w b (o + i * es) es n (fun j => f (j + i)) := by
 intro j hj
 obtain ⟨h1, h2, h3⟩ := h (j + i) (by omega)
 refine ⟨h1, h2, fun k hk => ?_⟩
 rw [← h3 k hk, Nat.add_mul]
 congr 2; omega
theorem RowHolds.reads {w : World} {b T es len cap : Nat} {f : Nat → AV} (h : RowHolds w b T es len f cap) : Reads w b 0 es len f := fun i hi =>
 ⟨(h.at hi).1, (h.at hi).2, fun k hk => by rw [Nat.zero_add]; exact h.cell hi hk⟩
def seqCells (f : Nat → AV) : Nat → List Value
 | 0 => []
 | n + 1 => seqCells f n ++ (f n).cells
theorem seqCells_length {f : Nat → AV} {es : Nat} : ∀ {n : Nat}, (∀ i, i < n → (f i).size = es) → (seqCells f n).length = n * es
 | 0, _ => by simp [seqCells]
 | n + 1, h => by
  rw [seqCells, List.length_append, seqCells_length fun i hi => h i (by omega), AV.size_cells, h n (by omega), Nat.succ_mul]
theorem seqCells_get {f : Nat → AV} {es : Nat} : ∀ {n : Nat}, (∀ i, i < n → (f i).size = es) → ∀ i k, i < n → k < es → (seqCells f n)[i * es + k]? = (f i).cells[k]?
 | 0, _, i, k, hi, _ => by omega
 | n + 1, h, i, k, hi, hk => by
  have hl := seqCells_length (f := f) (es := es) (n := n) fun i hi => h i (by omega)
  rw [seqCells]
  by_cases hin : i = n
  ·
   subst hin
   rw [List.getElem?_append_right (by omega), hl]
   congr 1; omega
  ·
   have : i * es + k < n * es := by
    have : (i + 1) * es ≤ n * es := Nat.mul_le_mul_right _ (by omega)
    rw [Nat.succ_mul] at this; omega
   rw [List.getElem?_append_left (by omega)]
   exact seqCells_get (fun i hi => h i (by omega)) i k (by omega) hk
theorem seqCells_one {f : Nat → AV} : ∀ {n : Nat}, (∀ i, i < n → (f i).one = true) → ∀ v ∈ seqCells f n, v.oneCell' = true
 | 0, _, v, hv => by cases hv
 | n + 1, h, v, hv => by
  rw [seqCells, List.mem_append] at hv
  rcases hv with hv | hv
  ·
   exact seqCells_one (fun i hi => h i (by omega)) v hv
  ·
   exact (f n).one_cells (h n (by omega)) v hv
theorem Reads.cells {w : World} {b o es len : Nat} {f : Nat → AV} (h : Reads w b o es len f) : ∀ j v, (seqCells f len)[j]? = some v → w.cell? ((⟨b, o, none⟩ : Addr).add j) = some v := by
 intro j v hj
 have hl := seqCells_length (f := f) (es := es) (n := len) fun i hi => (h i hi).1
 have hlt := (List.getElem?_eq_some_iff.1 hj).1
 rw [hl] at hlt
 have hes : 0 < es := by
  rcases Nat.eq_zero_or_pos es with h0 | h0
  ·
   subst h0; simp at hlt
  ·
   exact h0
 have hi : j / es < len := Nat.div_lt_of_lt_mul (by rw [Nat.mul_comm]; exact hlt)
 have hk : j % es < es := Nat.mod_lt _ hes
 have he : j / es * es + j % es = j := by rw [Nat.mul_comm]; exact Nat.div_add_mod j es
 have := seqCells_get (f := f) (es := es) (n := len) (fun i hi => (h i hi).1) _ _ hi hk
 rw [he] at this
 rw [Addr.add_none]
 have h2 := (h _ hi).2.2 _ hk
 rw [Nat.add_assoc, he, ← this, hj] at h2
 exact h2
def seqOf (M : MemF) : AV → Option (Prop × Nat × Nat × (Nat → AV))
 | .gs n ix a es i0 len _ => match M n with
  | some (.vrow a' _ es' len' f _) => some (a = ownB a' ∧ es = es' ∧ i0 + len ≤ len', es, len, fun i => f (i + i0))
  | some (.vro es' base len' f) => some (a = base ix ∧ es = es' ∧ i0 + len ≤ len' ix, es, len, fun i => f ix (i + i0))
  | _ => none
 | .sl p len _ => match p.lf, elemAt M p with
  | true, some (c, e) => match e.leaf p.off with
   | some (k, m, xs) => some (c ∧ p.j + len ≤ m, 1, len, fun i => .v (.int k (xs.getD (i + p.j) 0)))
   | none => none
  | false, _ => match M p.n with
   | some (.vrow a' _ es' len' f _) => some ((p.b, p.o0) = gsB (ownB a') ∧ p.es = es' ∧ p.off = 0 ∧ p.j = 0 ∧ p.idx + len ≤ len', p.es, len, fun i => f (i + p.idx))
   | _ => none
  | _, _ => none
 | .v (.slice none n _) => some (n = 0, 1, 0, fun _ => .nil)
 | _ => none
theorem leaf_reads {w : World} {b o off m j len : Nat} {e : AV} {k : IntKind} {xs : List Int} (hl : e.leaf off = some (k, m, xs)) (hc : ∀ k, k < e.size → w.cell? ⟨b, o + k, none⟩ = e.cells[k]?) (hj : j + len ≤ m) :
  Reads w b (o + off + j) 1 len (fun i => .v (.int k (xs.getD (i + j) 0))) := by
 refine fun i hi => ⟨rfl, rfl, fun k' hk' => ?_⟩
 have hk0 : k' = 0 := by omega
 subst hk0
 have hp := AV.leaf_spec e hl
 have hle : off + m ≤ e.cells.length := hp.2.1
 rw [AV.size_cells] at hle
 have := hc (off + (i + j)) (by omega)
 rw [getElem?_part hp (by omega), ints_get k m xs (by omega)] at this
 rw [show o + off + j + i * 1 + 0 = o + (off + (i + j)) by omega, this]; rfl
def slV (base : Option (Nat × Nat)) (len cap : Nat) : Value := .slice (base.map fun p => ⟨p.1, p.2, none⟩) len cap
theorem seqOf_spec {O : Nat → Prop} {w0 w : World} {M : MemF} (hS : Sat O w0 M w) {x : AV} {c : Prop} {es len : Nat} {f : Nat → AV} (h : seqOf M x = some (c, es, len, f)) (hc : c) :
  ∃ base cap, x.val = slV base len cap ∧ (len ≠ 0 → ∃ b o, base = some (b, o) ∧ Reads w b o es len f) := by
 unfold seqOf at h
 split at h
 ·
  rename_i n ix a es0 i0 len0 cap
  have hval : (AV.gs n ix a es0 i0 len0 cap).val = slV (a.map fun p => (p.1, p.2 + i0 * es0)) len0 cap := by
   rw [gs_val]; unfold slV; rw [Option.map_map]; rfl
  split at h
  ·
   rename_i a' T es' len' f' cap' hM
   cases h
   obtain ⟨rfl, rfl, hle⟩ := hc
   refine ⟨_, _, hval, fun h0 => ?_⟩
   obtain ⟨b, rfl, hr⟩ := vrow_some (hS.holds _ _ hM) (i := i0) (by omega)
   exact ⟨b, 0 + i0 * es, rfl, hr.reads.sub hle⟩
  ·
   rename_i es' base len' f' hM
   cases h
   obtain ⟨rfl, rfl, hle⟩ := hc
   refine ⟨_, _, hval, fun h0 => ?_⟩
   obtain ⟨h5, h6⟩ := (hS.holds _ _ hM : (Blk.vro es base len' f').holds w) ix
   cases hb : base ix with
   | none => have := h5 hb; omega
   | some z => exact ⟨z.1, z.2 + i0 * es, rfl, Reads.sub (fun i hi => h6 z.1 z.2 hb i hi) hle⟩
  ·
   cases h
 ·
  rename_i p len0 cap
  have hval : (AV.sl p len0 cap).val = slV (some (p.b, p.cell)) len0 cap := rfl
  split at h
  ·
   rename_i c0 e hlf he
   split at h
   ·
    rename_i k m xs hl
    cases h
    refine ⟨_, _, hval, fun _ => ⟨p.b, p.cell, rfl, ?_⟩⟩
    have := leaf_reads (b := p.b) (o := p.o0 + p.idx * p.es) hl (elemAt_spec hS he hc.1) hc.2
    exact this
   ·
    cases h
  ·
   split at h
   ·
    rename_i a' T es' len' f' cap' hM
    cases h
    obtain ⟨h0, h1, h2, h3, hle⟩ := hc
    refine ⟨_, _, hval, fun hz => ?_⟩
    obtain ⟨b, rfl, hr⟩ := vrow_some (hS.holds _ _ hM) (i := p.idx) (by omega)
    have e1 : p.b = b := congrArg Prod.fst h0
    have e2 : p.o0 = 0 := congrArg Prod.snd h0
    refine ⟨p.b, p.cell, rfl, ?_⟩
    have := hr.reads.sub hle
    rw [h1]
    unfold Pt.cell
    rw [e1, e2, h2, h3, h1]
    exact this
   ·
    cases h
  ·
   cases h
 ·
  cases h
  subst hc
  exact ⟨none, _, rfl, fun h => absurd rfl h⟩
 ·
  cases h
end Go.Proofs.YtofophjfgalhaaaGreatDoor.V
