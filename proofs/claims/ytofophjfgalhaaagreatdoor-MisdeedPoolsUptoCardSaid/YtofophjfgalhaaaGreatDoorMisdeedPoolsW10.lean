import Derived.Test.YtofophjfgalhaaaGreatDoorMisdeedPoolsW09
import Derived.Laws.IdiomStrings
set_option linter.unusedVariables false
set_option linter.unusedSimpArgs false
set_option maxRecDepth 100000
set_option maxHeartbeats 8000000
namespace Go.Proofs.YtofophjfgalhaaaGreatDoor.V
open Go Go.RowKit
theorem Sat.frozen {O : Nat → Prop} {w0 w : World} {M : Mem} (h : Sat O w0 M.get w) {n : Nat} {g : Gh} {S : Nat → Prop} {P : Frag → Prop} (hM : M.get n = some (frB g S P)) {H : Frag} (h1 : ∀ k, S k ↔ H k ≠ none) (h3 : H.on w) {ro : Mem} (hno : noOwn ro) (hro : allHold w ro) (hrd : ∀ m B k, ro.get m = some B → B.reads k → H k ≠ none) :
  Sat O w0 (Mem.app ro (hideM [n] M)).get w := by
 rw [Mem.app_get]
 have old : ∀ {m : Nat} {B : Blk}, (hideM [n] M).get m = some B → m ≠ n ∧ M.get m = some B := fun hh => by
  obtain ⟨a, b⟩ := hideM_get hh
  exact ⟨fun e => a (by rw [e]; exact .head _), b⟩
 refine ⟨h.keeps, ?_, ?_, ?_, ?_⟩
 ·
  intro m B hm
  rcases updM_some hm with hm | ⟨_, hm⟩
  ·
   exact allHold_get hro _ _ hm
  ·
   exact h.holds _ _ (old hm).2
 ·
  intro m B k hm ho
  rcases updM_some hm with hm | ⟨_, hm⟩
  ·
   exact (noOwn_get hno _ _ _ hm ho).elim
  ·
   exact h.own _ _ _ (old hm).2 ho
 ·
  intro m m' B B' k hm hm' ho ho'
  rcases updM_some hm with hm | ⟨_, hm⟩
  ·
   exact (noOwn_get hno _ _ _ hm ho).elim
  ·
   rcases updM_some hm' with hm' | ⟨_, hm'⟩
   ·
    exact (noOwn_get hno _ _ _ hm' ho').elim
   ·
    exact h.apart _ _ _ _ _ (old hm).2 (old hm').2 ho ho'
 ·
  intro m m' B B' k hm hm' ho hr
  rcases updM_some hm with hm | ⟨_, hm⟩
  ·
   exact (noOwn_get hno _ _ _ hm ho).elim
  ·
   rcases updM_some hm' with hm' | ⟨_, hm'⟩
   ·
    have hS : (frB g S P).own k := (h1 k).2 (hrd _ _ _ hm' hr)
    exact (old hm).1 (h.apart _ _ _ _ _ (old hm).2 hM ho hS)
   ·
    exact h.roapart _ _ _ _ _ (old hm).2 (old hm').2 ho hr
def noDfrM : Mem → Bool
 | [] => true
 | (t, _) :: r => !(Nat.beq t 777777) && noDfrM r
theorem noDfrM_get : ∀ {M : Mem}, noDfrM M = true → M.get 777777 = none
 | [], _ => rfl
 | (t, B) :: r, h => by
  simp only [noDfrM, Bool.and_eq_true, Bool.not_eq_true'] at h
  rw [Mem.get_cons, if_neg (fun e => by rw [e] at h; simp at h)]
  exact noDfrM_get h.2
section
variable {X : Cx} {tm : Tm} {M : Mem}
theorem at_freeze {n : Nat} {g : Gh} {S : Nat → Prop} {P : Frag → Prop} (hM : M.get n = some (frB g S P)) (hd : noDfr [n] = true) {a : Act} {w : World} (ha : At X tm M a w) : ∃ H : Frag, (∀ k, S k ↔ H k ≠ none) ∧ P H ∧ ∀ ro : Mem, noDfrM ro = true → noOwn ro → (∀ w : World, H.on w → allHold w ro) → (∀ m B k, ro.get m = some B → B.reads k → H k ≠ none) → At X tm (Mem.app ro (hideM [n] M)) a w := by
 obtain ⟨H, h1, h2, h3⟩ := frB_open (ha.S.holds _ _ hM)
 refine ⟨H, h1, h2, fun ro g0 g1 g2 g3 => ⟨⟨ha.T.size, fun t e ht => ha.T.slot t e ht⟩, ?_, ha.S.frozen hM h1 h3 g1 (g2 w h3) g3⟩⟩
 rw [app_dfs (noDfrM_get g0), hideM_dfs hd]
 exact ha.d
theorem o_freeze {l0 : List Oper} {i : Nat} {rest : List Oper} {K : Tm → Mem → Prop} {n : Nat} {g : Gh} {S : Nat → Prop} {P : Frag → Prop} (hM : M.get n = some (frB g S P)) (hd : noDfr [n] = true)
  (h : ∀ H : Frag, (∀ k, S k ↔ H k ≠ none) → P H → ∃ ro : Mem, (noDfrM ro = true ∧ noOwn ro ∧ (∀ w : World, H.on w → allHold w ro) ∧ ∀ m B k, ro.get m = some B → B.reads k → H k ≠ none) ∧ OpsS X l0 i rest tm (Mem.app ro (hideM [n] M)) K) : OpsS X l0 i rest tm M K := by
 intro hl a w Q ha hQ
 obtain ⟨H, h1, h2, h3⟩ := at_freeze hM hd ha
 obtain ⟨ro, ⟨g0, g1, g2, g3⟩, hc⟩ := h H h1 h2
 exact hc hl a w Q (h3 ro g0 g1 g2 g3) hQ
def FBytes (T b : Nat) (s : ByteArray) (H : Frag) : Prop := ∃ c z, H b = some (.cells c T z) ∧ ∀ i, i < s.size → c[i]? = some (.int .u8 ((s.data.toList.getD i 0).toNat : Int))
def strB (T b : Nat) (s : ByteArray) : Blk := frB .none (fun k => k = b) (FBytes T b s)
theorem FBytes.reads {T b : Nat} {s : ByteArray} {H : Frag} (h : FBytes T b s H) {w : World} (hw : H.on w) : Reads w b 0 1 s.size (strAt s) := by
 obtain ⟨c, z, h1, h2⟩ := h
 refine fun i hi => ⟨rfl, rfl, fun k hk => ?_⟩
 have hk0 : k = 0 := by omega
 subst hk0
 have := hw _ _ h1
 have h3 := h2 i hi
 unfold World.cell?
 rw [this]
 show c[0 + i * 1 + 0]? = some (.int .u8 ((s.data.toList.getD i 0).toNat : Int))
 rw [show 0 + i * 1 + 0 = i by omega]
 exact h3
theorem o_sbytes {l0 : List Oper} {i : Nat} {o : Oper} {rest : List Oper} {K : Tm → Mem → Prop} {d : Nat} {src t e : TypeId} {x : Operand} {s : ByteArray} {rs rt re : TRow} (hd : o.dst = some d) (hlt : Nat.blt d X.N = true) (hnd : Nat.beq d 777777 = false) (ho : o.op = .convert src t x) (hg : o.guard = none) (hx : opd tm.get x = some (none, .v (.string s)))
  (hs : X.E.tb.get src = some rs) (hrs : rs.d = .str) (ht : X.E.tb.get t = some rt) (hrt : rt.d = .sl e) (he : X.E.tb.get e = some re) (hre : re.d = .int .u8)
  (hk : ∀ b cap, s.size ≤ cap → OpsS X l0 (i + 1) rest ((d, none, .gs d 0 (some (b, 0)) 1 0 s.size cap) :: tm) ((d, strB e b s) :: M) K) : OpsS X l0 i (o :: rest) tm M K := by
 intro hl0 a w Q ha hQ
 obtain ⟨h1, h2⟩ := drop_succ hl0
 rw [List.length_cons]
 refine wpOps_step h1 ?_
 have hw : Region.wanted o (yielded l0.toArray a.tmps) = true := by unfold Region.wanted; rw [hg]
 rw [if_pos hw]
 obtain ⟨d1, u1, v1⟩ := (X.hb.get hs).under
 rw [hrs] at v1
 have e1 : d1 = .string := by cases d1 <;> simp [viewD] at v1; rfl
 rw [e1] at u1
 obtain ⟨d2, u2, v2⟩ := (X.hb.get ht).under
 rw [hrt] at v2
 rw [viewD_sl v2] at u2
 obtain ⟨d3, u3, v3⟩ := (X.hb.get he).under
 rw [hre] at v3
 have e3 : d3 = .int .u8 := by cases d3 <;> simp [viewD] at v3; rw [v3]
 rw [e3] at u3
 have hrun := run_bytes_of_string (P := X.P) w src t e s u1 u2 u3
 have hge := grownCap_ge w s.size 0 e
 obtain ⟨cap, hcap⟩ : ∃ cap, cap = grownCap w s.size 0 e := ⟨_, rfl⟩
 rw [← hcap] at hrun hge
 obtain ⟨w', hw'⟩ : ∃ w', w' = w.drew.alloc (.cells (bytesRow s cap) e ((bytesRow s cap).size, (bytesRow s cap).size + 1)) := ⟨_, rfl⟩
 rw [← hw'] at hrun
 have hbel : Below w.heap.size w w' := by rw [hw']; exact (Below.refl _ _).drew.alloc (Nat.le_refl _) _
 have hnew : w'.heap[w.heap.size]? = some (.cells (bytesRow s cap) e ((bytesRow s cap).size, (bytesRow s cap).size + 1)) := by
  rw [hw']
  show (w.heap.push _)[w.heap.size]? = _
  simp
 have hhold : (strB e w.heap.size s).holds w' := by
  refine frB_holds (H := fun k => if k = w.heap.size then w'.heap[k]? else none) (fun k => ?_) ⟨bytesRow s cap, _, by dsimp only; rw [if_pos rfl]; exact hnew, fun i hi => ?_⟩ (fun k o ho => ?_)
  ·
   constructor
   ·
    intro hk; rw [if_pos hk, hk, hnew]; simp
   ·
    intro hk
    apply Classical.byContradiction
    intro hn; exact hk (if_neg hn)
  ·
   unfold bytesRow
   rw [Array.getElem?_append_left (by simpa using hi), Array.getElem?_map]
   have hi2 : i < s.data.size := hi
   rw [Array.getElem?_eq_getElem hi2]
   simp only [Option.map_some, Option.some.injEq, Value.int.injEq, true_and]
   rw [List.getD_eq_getElem?_getD, List.getElem?_eq_getElem (by simpa using hi2)]
   simp
  ·
   dsimp only at ho
   split at ho
   ·
    exact ho
   ·
    cases ho
 have ht := Turn.new (M := M.get) (k := d) hbel hhold (fun b hb => by have : b = w.heap.size := hb; omega) (fun b hb => hb)
 unfold Oper.wp
 have hex : (execOp a.eval o).run X.P w = .ok (.value (.slice (some ⟨w.heap.size, 0, none⟩) s.size cap)) w' := by
  unfold execOp
  rw [ho]
  simp only [opd_s ha.T hx (g := none) trivial trivial, Sem.run_bind, AV.val_v, hrun]
  rfl
 rw [hex]
 have hp := ha.put (d := o.dst) (fun d' hd' => by rw [hd] at hd'; cases hd'; exact hlt) (g := none) (av := .gs d 0 (some (w.heap.size, 0)) 1 0 s.size cap) (v := .slice (some ⟨w.heap.size, 0, none⟩) s.size cap) (by simp [gs_val]) (L := [(d, strB e w.heap.size s)]) ht (tm' := putT o.dst none (.gs d 0 (some (w.heap.size, 0)) 1 0 s.size cap) tm) (M' := (d, strB e w.heap.size s) :: M) rfl (Mem.app_get [_] M) (by
  unfold Mem.dfs
  rw [Mem.get_cons, if_neg (fun q => by rw [q] at hnd; simp at hnd)])
 rw [hd] at hp
 have hgoal := hk w.heap.size cap hge h2 _ w' Q hp hQ
 rw [← hd] at hgoal
 exact hgoal
end
section
variable {X : Cx} {tm : Tm} {M : Mem}
def retL (X : Cx) (fn : Func) (R : AV → Mem → Prop) : Exit → Tm → Mem → Prop := fun e tm M => leK X (retK X fn R) e tm M ∨
 match e with
 | .ret => ∃ (f : FuncId) (args : List AV) (L : Mem) (tm2 : Tm) (M2 : Mem) (p : Prop) (av : AV), M.dfs = [dfrOf f args] ∧ HasBody X.P f ∧
   (∀ w, Sat X.O X.w0 M.get w → CallsD X.P f (args.map AV.val).toArray .returning w fun e u' w' => u' = .returning ∧ (∃ v, e = .returned v) ∧ Turn M.get w w' L.get) ∧
   Le X tm (Mem.app L M) tm2 M2 ∧ resEval X.E M2.get tm2.get fn.results.toList = some (p, av) ∧ p ∧ R av M2
 | _ => False
theorem s_fnL {f : FuncId} {fn : Func} {c : Code} (hf : X.P.funcs[f]? = some fn) (hb : fn.body = some c) (hN : fn.ntmps = X.N) {args : List AV} (hlen : args.length ≤ X.N) {M : Mem} (hd : M.dfs = []) {w : World} (hS : Sat X.O X.w0 M.get w) {R : AV → Mem → Prop}
  (h : CodeS X c (argsTm 0 args) M (retL X fn R)) :
  Calls X.P f (args.map AV.val).toArray w fun e w' => ∃ av M', e = .returned av.val ∧ R av M' ∧ Sat X.O X.w0 M'.get w' := by
 have plain : ∀ (tm' : Tm) (M' : Mem) (a' : Act) (w' : World) (p : Prop) (av : AV), At X tm' M' a' w' → resEval X.E M'.get tm'.get fn.results.toList = some (p, av) → p → M'.dfs = [] → R av M' →
   Leaves X.P fn a'.tmps (fun e w' => ∃ av M', e = .returned av.val ∧ R av M' ∧ Sat X.O X.w0 M'.get w') a'.defers .returning w' := by
  intro tm' M' a' w' p av hA h1 h2 h4 h3
  rw [hA.d, h4]
  exact ⟨av.val, resEval_run hA h1 h2, av, M', rfl, h3, hA.S⟩
 refine calls_of_wp_defers hf hb (h _ w _ ⟨by rw [hN]; exact args_sat hlen, hd.symm, hS⟩ fun e tm' M' a' w' hK hA => ?_)
 rcases hK with hK | hK
 ·
  cases e with
  | normal => obtain ⟨tm2, M2, hl, p, av, h1, h2, h4, h3⟩ := hK; exact plain tm2 M2 a' w' p av (hl _ _ hA) h1 h2 h4 h3
  | ret => obtain ⟨tm2, M2, hl, p, av, h1, h2, h4, h3⟩ := hK; exact plain tm2 M2 a' w' p av (hl _ _ hA) h1 h2 h4 h3
  | _ => obtain ⟨tm2, M2, hl, hK⟩ := hK; exact hK.elim
 ·
  cases e with
  | ret =>
   obtain ⟨f2, as, L, tm2, M2, p, av, h1, h2, h3, hl, h4, h5, h6⟩ := hK
   show Leaves X.P fn a'.tmps _ a'.defers .returning w'
   rw [hA.d, h1]
   refine leaves_cons (f := f2) (args := (as.map AV.val).toArray) (by simp) ?_ ((h3 w' hA.S).mono fun e u' w'' ⟨q1, ⟨v, q2⟩, q3⟩ => ?_)
   ·
    have := h2.run (as.map AV.val).toArray w'
    simpa [invoke] using this
   ·
    subst q1 q2
    show Leaves X.P fn a'.tmps _ [] (settle .returning) w''
    have hS2 : Sat X.O X.w0 (Mem.app L M').get w'' := by
     rw [Mem.app_get]; exact hA.S.turn q3 X.hO
    have hrun : (results fn a'.tmps).run X.P w'' = .ok av.val w'' := by
     have hA2 : At X tm' (Mem.app L M') { a' with defers := (Mem.app L M').dfs } w'' := ⟨⟨hA.T.size, fun t e ht => hA.T.slot t e ht⟩, rfl, hS2⟩
     exact resEval_run (hl _ _ hA2) h4 h5
    exact ⟨av.val, hrun, av, M2, rfl, h6, (hl _ _ (show At X tm' (Mem.app L M') { a' with defers := (Mem.app L M').dfs } w'' from ⟨⟨hA.T.size, fun t e ht => hA.T.slot t e ht⟩, rfl, hS2⟩)).S⟩
  | _ => exact hK.elim
end
section
variable {P : Program} {B : Tabs P} {ct : CtL} {hct : CtLOk P ct} {cr : CrL} {hcr : CrLOk P cr} {f : FuncId} {fn : Func} {c : Code}
theorem turn_fnL (B : Tabs P) {ct : CtL} (hct : CtLOk P ct) {cr : CrL} (hcr : CrLOk P cr) (hf : P.funcs[f]? = some fn) (hbd : fn.body = some c) {args : List AV} (hlen : Nat.ble args.length fn.ntmps = true) {M : MemF} {O0 : Nat → Prop} {w0 w : World} (hS0 : Sat O0 w0 M w) (r : Res)
  (Mc : Mem) (own : List (Nat × Nat)) (ts' : List Nat) (hd : Mc.dfs = []) (hold : allHold w Mc)
  (hown : ∀ n' B' k, Mc.get n' = some B' → B'.own k → ∃ n B, (n', n) ∈ own ∧ M n = some B ∧ B.own k)
  (hread : ∀ n' B' k, Mc.get n' = some B' → B'.reads k → ∀ n B n2, (n2, n) ∈ own → M n = some B → ¬ B.own k)
  (hinj : ∀ a b n, (a, n) ∈ own → (b, n) ∈ own → a = b) (hsub : ∀ a n, (a, n) ∈ own → n ∈ r.tags) (hnd : ts'.Nodup) (htl : r.tags.length = ts'.length)
  (h : CodeS (cx B ct hct cr hcr (fun b => ∃ a n B, (a, n) ∈ own ∧ M n = some B ∧ B.own b) w fn.ntmps) c (argsTm 0 args) Mc (retL (cx B ct hct cr hcr (fun b => ∃ a n B, (a, n) ∈ own ∧ M n = some B ∧ B.own b) w fn.ntmps) fn fun av M' => ∃ x, r.can x ∧ av.val = (r.out x).val ∧ outsOk M' ts' (r.mem x))) :
  Calls P f (args.map AV.val).toArray w fun e w' => ∃ x, r.can x ∧ e = .returned (r.out x).val ∧ Turn M w w' (zipM r.tags (r.mem x)).get := by
 have hS : Sat (fun b => w.heap.size ≤ b ∨ ∃ a n B, (a, n) ∈ own ∧ M n = some B ∧ B.own b) w Mc.get w := by
  refine ⟨Keeps.refl _ _, fun n B h => allHold_get hold n B h, fun n' B' k h ho => ?_, fun n' m' B1 B2 k h1 h2 o1 o2 => ?_, fun n' m' B1 B2 k h1 h2 o1 hr => ?_⟩
  ·
   obtain ⟨n, B, h1, h2, h3⟩ := hown n' B' k h ho
   exact .inr ⟨n', n, B, h1, h2, h3⟩
  ·
   obtain ⟨n, B, a1, a2, a3⟩ := hown n' B1 k h1 o1
   obtain ⟨m, C, b1, b2, b3⟩ := hown m' B2 k h2 o2
   have := hS0.apart _ _ _ _ _ a2 b2 a3 b3
   subst this
   exact hinj _ _ _ a1 b1
  ·
   obtain ⟨n, B, a1, a2, a3⟩ := hown n' B1 k h1 o1
   exact hread m' B2 k h2 hr n B n' a1 a2 a3
 have := s_fnL (X := cx B ct hct cr hcr (fun b => ∃ a n B, (a, n) ∈ own ∧ M n = some B ∧ B.own b) w fn.ntmps) hf hbd rfl (Nat.le_of_ble_eq_true hlen) hd hS h
 refine this.mono fun e w' ⟨av, M', h1, ⟨x, hx, hav, houts⟩, h3⟩ => ⟨x, hx, by rw [h1, hav], ?_⟩
 obtain ⟨ol, oi⟩ := outsOk_at houts
 have hlens : r.tags.length = (r.mem x).length := by rw [htl, ol]
 refine ⟨h3.keeps.os, h3.keeps.tape, h3.keeps.output, h3.keeps.drawn, h3.keeps.size, fun k hk hno => ?_, fun n C hL => ?_, fun n C b hL ho => ?_, fun n m C C' b hL hL' ho ho' => ?_, fun n C b hL => ?_⟩
 ·
  refine h3.keeps.block k hk fun hO => ?_
  rcases hO with hO | ⟨a, n, C, g1, g2, g3⟩
  ·
   omega
  ·
   obtain ⟨C', hC'⟩ := zipM_some hlens (hsub a n g1)
   exact hno n C C' hC' g2 g3
 ·
  obtain ⟨i, _, hi⟩ := zipM_idx hL
  obtain ⟨t, C', _, g2, g3, _⟩ := oi i C hi
  exact g3.2.2 _ (h3.holds _ _ g2)
 ·
  obtain ⟨i, _, hi⟩ := zipM_idx hL
  obtain ⟨t, C', _, g2, g3, _⟩ := oi i C hi
  rcases h3.own _ _ _ g2 (g3.1 _ ho) with hO | ⟨a, n', D, k1, k2, k3⟩
  ·
   exact .inl hO
  ·
   obtain ⟨C'', hC''⟩ := zipM_some hlens (hsub a n' k1)
   exact .inr ⟨n', D, C'', hC'', k2, k3⟩
 ·
  obtain ⟨i, hi1, hi⟩ := zipM_idx hL
  obtain ⟨j, hj1, hj⟩ := zipM_idx hL'
  obtain ⟨t, D, g1, g2, g3, _⟩ := oi i C hi
  obtain ⟨u, D', k1, k2, k3, _⟩ := oi j C' hj
  have := h3.apart _ _ _ _ _ g2 k2 (g3.1 _ ho) (k3.1 _ ho')
  subst this
  obtain ⟨li, lie⟩ := List.getElem?_eq_some_iff.1 g1
  obtain ⟨lj, lje⟩ := List.getElem?_eq_some_iff.1 k1
  have : i = j := (List.getElem?_inj li hnd).1 (g1.trans k1.symm)
  subst this
  rw [hi1] at hj1
  exact Option.some.inj hj1
 ·
  obtain ⟨i, _, hi⟩ := zipM_idx hL
  obtain ⟨_, _, _, _, _, g4⟩ := oi i C hi
  exact g4 b
theorem turn_oneL (B : Tabs P) (hct : CtLOk P ct) (hcr : CrLOk P cr) (hf : P.funcs[f]? = some fn) (hbd : fn.body = some c) {args : List AV} (hlen : Nat.ble args.length fn.ntmps = true) {M : MemF} {O0 : Nat → Prop} {w0 w : World} (hS0 : Sat O0 w0 M w) (r : Res) {n : Nat} {B0 B1 : Blk} (hM : M n = some B0) (ro : Mem) (htag : r.tags = [n]) (hd : Mem.dfs ((900, B1) :: ro) = [])
  (h1 : B1.holds w) (hown : ∀ k, B1.own k → B0.own k) (hrd : ∀ k, ¬ B1.reads k) (hro : allHold w ro) (hno : noOwn ro) (hap : apartL B0 ro)
  (h : CodeS (cx B ct hct cr hcr (fun b => ∃ a m C, (a, m) ∈ [(900, n)] ∧ M m = some C ∧ C.own b) w fn.ntmps) c (argsTm 0 args) ((900, B1) :: ro) (retL (cx B ct hct cr hcr (fun b => ∃ a m C, (a, m) ∈ [(900, n)] ∧ M m = some C ∧ C.own b) w fn.ntmps) fn fun av M' => ∃ x, r.can x ∧ av.val = (r.out x).val ∧ outsOk M' [900] (r.mem x))) :
  Calls P f (args.map AV.val).toArray w fun e w' => ∃ x, r.can x ∧ e = .returned (r.out x).val ∧ Turn M w w' (zipM r.tags (r.mem x)).get := by
 refine turn_fnL B hct hcr hf hbd hlen hS0 r ((900, B1) :: ro) [(900, n)] [900] hd ⟨h1, hro⟩ (fun n' B' k hn ho => ?_) (fun n' B' k hn hr n2 C n3 hin hM2 ho2 => ?_) (fun a b m e1 e2 => ?_) (fun a m e => ?_) (by decide) (by rw [htag]; rfl) h
 ·
  rw [Mem.get_cons] at hn
  split at hn
  ·
   rename_i e
   cases hn
   exact ⟨n, B0, by rw [← e]; exact .head _, hM, hown k ho⟩
  ·
   exact (noOwn_get hno _ _ _ hn ho).elim
 ·
  simp only [List.mem_singleton, Prod.mk.injEq] at hin
  rw [hin.2] at hM2
  rw [hM] at hM2
  cases hM2
  rw [Mem.get_cons] at hn
  split at hn
  ·
   cases hn; exact hrd k hr
  ·
   exact apartL_get hap _ _ _ hn hr ho2
 ·
  simp only [List.mem_singleton, Prod.mk.injEq] at e1 e2
  rw [e1.1, e2.1]
 ·
  simp only [List.mem_singleton, Prod.mk.injEq] at e
  rw [htag, e.2]; exact .head _
end
end Go.Proofs.YtofophjfgalhaaaGreatDoor.V
