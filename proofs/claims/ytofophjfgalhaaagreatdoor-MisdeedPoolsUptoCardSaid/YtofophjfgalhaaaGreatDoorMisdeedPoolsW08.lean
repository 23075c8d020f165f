import Derived.Test.YtofophjfgalhaaaGreatDoorMisdeedPoolsW07
set_option linter.unusedVariables false
set_option linter.unusedSimpArgs false
set_option maxRecDepth 100000
set_option maxHeartbeats 8000000
namespace Go.Proofs.YtofophjfgalhaaaGreatDoor.V
open Go Go.RowKit
theorem dfs_nil {M M' : Mem} (h' : M'.dfs = []) (h : M.dfs = []) : M'.dfs = M.dfs := h'.trans h.symm
def putMp (R : Option (Nat × AV)) (b : Nat) (l : List (AV × AV × Nat)) (clk : Nat) (K X : AV) : Blk := match R with
 | none => .mp true b (l ++ [(K, X, clk)]) (clk + 1)
 | some p => .mp true b (mset l p.1 K X) clk
section
variable {E : Env} {dst : Nat → Option Tmp} {N : Nat} {M : MemF} {tm : TmF} {o : Oper}
theorem opEval_look {d : Nat} {xt : TypeId} {x ix : Operand} {ok : Bool} {n b : Nat} {K : AV} {r rk re : TRow} {kt e : TypeId} {mine : Bool} {l : List (AV × AV × Nat)} {clk : Nat} {R : Option (Nat × AV)} (hd : o.dst = some d) (hlt : Nat.blt d N = true) (ho : o.op = .lookup xt x ix ok) (hg : o.guard = none)
  (hx : opd tm x = some (none, .mp n b)) (hi : opd tm ix = some (none, K)) (hr : E.tb.get xt = some r) (hrd : r.d = .map kt e) (hrk : E.tb.get kt = some rk) (hre : E.tb.get e = some re) (hkk : (keyTop rk.d && keyT E.tb 64 kt K) = true) (hM : M n = some (.mp mine b l clk)) (hf : mfind E.tb E.eqs kt K l 0 = some R) :
  opEval E dst N M tm o = some (none, ⟨Unit, (need none none ∧ need none none) ∧ imp none (b = b), fun _ => True, fun _ => lookV ok (pickZ R re.zero) R.isSome, [], fun _ => []⟩) := by
 have h : xeval E M tm none d o.op = some ⟨Unit, (need none none ∧ need none none) ∧ imp none (b = b), fun _ => True, fun _ => lookV ok (pickZ R re.zero) R.isSome, [], fun _ => []⟩ := by
  rw [ho]
  simp only [xeval, evLookup, hx, hi, hr, hrd, hrk, hre, hkk, hM, hf]
  cases R with
  | none => rfl
  | some p => rfl
 unfold opEval
 simp only [hd, hlt]
 unfold opEvalT
 simp only [hg, guardOf, h]
theorem opEval_mset {t : TypeId} {m k x : Operand} {n b : Nat} {K X : AV} {r rk : TRow} {kt e : TypeId} {l : List (AV × AV × Nat)} {clk : Nat} {R : Option (Nat × AV)} (hd : o.dst = none) (ho : o.op = .mapUpdate t m k x) (hg : o.guard = none)
  (hm : opd tm m = some (none, .mp n b)) (hk : opd tm k = some (none, K)) (hx : opd tm x = some (none, X)) (hr : E.tb.get t = some r) (hrd : r.d = .map kt e) (hrk : E.tb.get kt = some rk) (hkk : (keyTop rk.d && keyT E.tb 64 kt K) = true) (hM : M n = some (.mp true b l clk)) (hf : mfind E.tb E.eqs kt K l 0 = some R) :
  opEval E dst N M tm o = some (none, ⟨Unit, b = b, fun _ => True, fun _ => .v undef, [n], fun _ => [putMp R b l clk K X]⟩) := by
 have h : xeval E M tm none 40000 o.op = some ⟨Unit, b = b, fun _ => True, fun _ => .v undef, [n], fun _ => [putMp R b l clk K X]⟩ := by
  rw [ho]
  simp only [xeval, evMapUpd, hm, hk, hx, hr, hrd, hrk, hkk, hM, mputV, hf]
  cases R with
  | none => rfl
  | some p => rfl
 unfold opEval
 simp only [hd]
 unfold opEvalT
 simp only [hg, guardOf, h]
end
section
variable {X : Cx} {tm : Tm} {M : Mem}
theorem o_le {l0 : List Oper} {i : Nat} {rest : List Oper} {K : Tm → Mem → Prop} {tm' : Tm} {M' : Mem} (hl : Le X tm M tm' M') (h : OpsS X l0 i rest tm' M' K) : OpsS X l0 i rest tm M K := fun h0 a w Q ha hQ => h h0 a w Q (hl a w ha) hQ
theorem o_look {l0 : List Oper} {i : Nat} {o : Oper} {rest : List Oper} {K0 : Tm → Mem → Prop} {d : Nat} {xt : TypeId} {x ix : Operand} {ok : Bool} {n b : Nat} {K : AV} {r rk re : TRow} {kt e : TypeId} {mine : Bool} {l : List (AV × AV × Nat)} {clk : Nat} (R : Option (Nat × AV)) (hd : o.dst = some d) (hlt : Nat.blt d X.N = true) (ho : o.op = .lookup xt x ix ok) (hg : o.guard = none)
  (hx : opd tm.get x = some (none, .mp n b)) (hi : opd tm.get ix = some (none, K)) (hr : X.E.tb.get xt = some r) (hrd : r.d = .map kt e) (hrk : X.E.tb.get kt = some rk) (hre : X.E.tb.get e = some re) (hkk : (keyTop rk.d && keyT X.E.tb 64 kt K) = true) (hM : M.get n = some (.mp mine b l clk)) (hf : mfind X.E.tb X.E.eqs kt K l 0 = some R)
  (hk : OpsS X l0 (i + 1) rest ((d, none, lookV ok (pickZ R re.zero) R.isSome) :: tm) M K0) : OpsS X l0 i (o :: rest) tm M K0 :=
 o_val hd (opEval_look hd hlt ho hg hx hi hr hrd hrk hre hkk hM hf) trivial ⟨⟨trivial, trivial⟩, rfl⟩ hk
theorem o_mset {l0 : List Oper} {i : Nat} {o : Oper} {rest : List Oper} {K0 : Tm → Mem → Prop} {t : TypeId} {m k x : Operand} {n b : Nat} {K Y : AV} {r rk : TRow} {kt e : TypeId} {l : List (AV × AV × Nat)} {clk : Nat} (R : Option (Nat × AV)) (hd : o.dst = none) (ho : o.op = .mapUpdate t m k x) (hg : o.guard = none)
  (hm : opd tm.get m = some (none, .mp n b)) (hk : opd tm.get k = some (none, K)) (hx : opd tm.get x = some (none, Y)) (hr : X.E.tb.get t = some r) (hrd : r.d = .map kt e) (hrk : X.E.tb.get kt = some rk) (hkk : (keyTop rk.d && keyT X.E.tb 64 kt K) = true) (hM : M.get n = some (.mp true b l clk)) (hf : mfind X.E.tb X.E.eqs kt K l 0 = some R) (hnd : noDfr [n] = true)
  (hc : OpsS X l0 (i + 1) rest tm ((n, putMp R b l clk K Y) :: M) K0) : OpsS X l0 i (o :: rest) tm M K0 :=
 o_res (β := Unit) (ok := b = b) (can := fun _ => True) (out := fun _ => .v undef) (tags := [n]) (mem := fun _ => [putMp R b l clk K Y]) (opEval_mset hd ho hg hm hk hx hr hrd hrk hkk hM hf) rfl ⟨(), trivial⟩ hnd fun _ _ => by rw [hd]; exact hc
variable {G : Rg}
theorem d_look {K0 : Acc → Prop} {T0 : TmF} {M0 : MemF} {i : Nat} {o : Oper} {rest : List Oper} {ds : List Nat} {acc : Acc} {d : Nat} {mk : Nat} {xt : TypeId} {x ix : Operand} {ok : Bool} {n b : Nat} {K : AV} {r rk re : TRow} {kt e : TypeId} {mine : Bool} {l : List (AV × AV × Nat)} {clk : Nat} (R : Option (Nat × AV)) (hmk : nth G.masks i = some mk) (hd : o.dst = some d) (hlt : Nat.blt d X.N = true) (ho : o.op = .lookup xt x ix ok) (hg : o.guard = none)
  (hx : opd (viewP G i mk acc.get T0) x = some (none, .mp n b)) (hi : opd (viewP G i mk acc.get T0) ix = some (none, K)) (hr : X.E.tb.get xt = some r) (hrd : r.d = .map kt e) (hrk : X.E.tb.get kt = some rk) (hre : X.E.tb.get e = some re) (hkk : (keyTop rk.d && keyT X.E.tb 64 kt K) = true) (hM : mviewJ G i mk acc.get M0 n = some (.mp mine b l clk)) (hf : mfind X.E.tb X.E.eqs kt K l 0 = some R)
  (hk : okI X G T0 M0 K0 ds rest ((i, some d, (none, lookV ok (pickZ R re.zero) R.isSome), []) :: acc)) : okI X G T0 M0 K0 (i :: ds) (o :: rest) acc :=
 d_val (ok := (need none none ∧ need none none) ∧ imp none (b = b)) (can := fun _ => True) (av := lookV ok (pickZ R re.zero) R.isSome) (mem := fun _ => []) hd (by unfold evalAt; rw [hmk]; exact opEval_look hd hlt ho hg hx hi hr hrd hrk hre hkk hM hf) trivial ⟨⟨trivial, trivial⟩, rfl⟩ hk
theorem d_mset {K0 : Acc → Prop} {T0 : TmF} {M0 : MemF} {i : Nat} {o : Oper} {rest : List Oper} {ds : List Nat} {acc : Acc} {mk : Nat} {t : TypeId} {m k x : Operand} {n b : Nat} {K Y : AV} {r rk : TRow} {kt e : TypeId} {l : List (AV × AV × Nat)} {clk : Nat} (R : Option (Nat × AV)) (hmk : nth G.masks i = some mk) (hd : o.dst = none) (ho : o.op = .mapUpdate t m k x) (hg : o.guard = none)
  (hm : opd (viewP G i mk acc.get T0) m = some (none, .mp n b)) (hk : opd (viewP G i mk acc.get T0) k = some (none, K)) (hx : opd (viewP G i mk acc.get T0) x = some (none, Y)) (hr : X.E.tb.get t = some r) (hrd : r.d = .map kt e) (hrk : X.E.tb.get kt = some rk) (hkk : (keyTop rk.d && keyT X.E.tb 64 kt K) = true) (hM : mviewJ G i mk acc.get M0 n = some (.mp true b l clk)) (hf : mfind X.E.tb X.E.eqs kt K l 0 = some R) (ht : tagsOk G i [n] = true)
  (hc : okI X G T0 M0 K0 ds rest ((i, none, (none, .v undef), [(n, putMp R b l clk K Y)]) :: acc)) : okI X G T0 M0 K0 (i :: ds) (o :: rest) acc :=
 d_put (ok := b = b) (can := fun _ => True) (av := .v undef) hd (by unfold evalAt; rw [hmk]; exact opEval_mset hd ho hg hm hk hx hr hrd hrk hkk hM hf) ht trivial rfl hc
end
def FRow (H : Frag) (b : Nat) (T : TypeId) (es len : Nat) (f : Nat → AV) (cap : Nat) : Prop :=
 ∃ c, H b = some (.cells c T (0, 0)) ∧ c.size = cap * es ∧ len ≤ cap ∧ ∀ i, i < len → (f i).size = es ∧ (f i).one = true ∧ ∀ k, k < es → c[i * es + k]? = (f i).cells[k]?
def FMap (H : Frag) (b : Nat) (l : List (AV × AV × Nat)) (clk : Nat) : Prop :=
 ∃ es, H b = some (.map es clk) ∧ MapKept.Stamped es clk ∧ (es.toList.map fun e => (e.key, e.val, e.born)) = l.map fun p => (p.1.val, p.2.1.val, p.2.2)
section
variable {H H' : Frag} {b : Nat} {T : TypeId} {es len cap : Nat} {f : Nat → AV} {l : List (AV × AV × Nat)} {clk : Nat} {w : World} {S : Nat → Prop}
theorem FRow.on (h : FRow H b T es len f cap) (hw : H.on w) : RowHolds w b T es len f cap := by
 obtain ⟨c, h1, h2⟩ := h
 exact ⟨c, hw _ _ h1, h2⟩
theorem FMap.on (h : FMap H b l clk) (hw : H.on w) : (Blk.mp true b l clk).holds w := by
 obtain ⟨c, h1, h2⟩ := h
 exact ⟨c, hw _ _ h1, h2⟩
theorem FRow.of (h : RowHolds w b T es len f cap) (hb : S b) : FRow (restr w S) b T es len f cap := by
 obtain ⟨c, h1, h2⟩ := h
 exact ⟨c, by rw [restr_at hb]; exact h1, h2⟩
theorem FMap.of {mine : Bool} (h : (Blk.mp mine b l clk).holds w) (hb : S b) : FMap (restr w S) b l clk := by
 obtain ⟨c, h1, h2⟩ := h
 exact ⟨c, by rw [restr_at hb]; exact h1, h2⟩
theorem FRow.same (h : FRow H b T es len f cap) (e : H' b = H b) : FRow H' b T es len f cap := by
 obtain ⟨c, h1, h2⟩ := h
 exact ⟨c, e.trans h1, h2⟩
theorem FMap.same (h : FMap H b l clk) (e : H' b = H b) : FMap H' b l clk := by
 obtain ⟨c, h1, h2⟩ := h
 exact ⟨c, e.trans h1, h2⟩
theorem FRow.ne (h : FRow H b T es len f cap) : H b ≠ none := by
 obtain ⟨c, h1, _⟩ := h
 rw [h1]; simp
theorem FMap.ne (h : FMap H b l clk) : H b ≠ none := by
 obtain ⟨c, h1, _⟩ := h
 rw [h1]; simp
theorem FRow.weaken {len' : Nat} {f' : Nat → AV} (h : FRow H b T es len f cap) (hl : len' ≤ len) (hf : ∀ i, i < len' → f' i = f i) : FRow H b T es len' f' cap := by
 obtain ⟨c, h1, h2, h3, h4⟩ := h
 exact ⟨c, h1, h2, Nat.le_trans hl h3, fun i hi => by rw [hf i hi]; exact h4 i (Nat.lt_of_lt_of_le hi hl)⟩
theorem FMap.vals {l' : List (AV × AV × Nat)} (h : FMap H b l clk) (e : l'.map trip = l.map trip) : FMap H b l' clk := by
 obtain ⟨c, h1, h2, h3⟩ := h
 exact ⟨c, h1, h2, h3.trans (show l.map trip = l'.map trip from e.symm)⟩
end
def restB (H : Frag) (ks : List Nat) : Blk := .sep .none (fun k => H k ≠ none ∧ k ∉ ks) fun w => ∀ k, k ∉ ks → H k ≠ none → w.heap[k]? = H k
theorem restB_holds {H : Frag} {ks : List Nat} {w : World} (h : H.on w) : (restB H ks).holds w := by
 have key : ∀ k, H k ≠ none → w.heap[k]? = H k := fun k hk => by
  cases ho : H k with
  | none => exact absurd ho hk
  | some o => exact h k o ho
 refine ⟨fun k ⟨h1, _⟩ => ?_, fun w' hw k hk h1 => ?_⟩
 ·
  cases ho : H k with
  | none => exact absurd ho h1
  | some o => exact heap_lt (h k o ho)
 ·
  rw [hw k ⟨h1, hk⟩]; exact key k h1
theorem restB_at {H : Frag} {ks : List Nat} {w : World} (h : (restB H ks).holds w) {k : Nat} (hk : k ∉ ks) (h1 : H k ≠ none) : w.heap[k]? = H k := h.2 w (fun _ _ => rfl) k hk h1
structure One (H : Frag) (k : Nat) (B : Blk) : Prop where
 holds : ∀ w, H.on w → B.holds w
 own : ∀ j, B.own j → j = k
 reads : ∀ j, ¬ B.reads j
 ne : H k ≠ none
def Ones (H : Frag) : List Nat → List Blk → Prop
 | [], [] => True
 | k :: ks, B :: Bs => One H k B ∧ Ones H ks Bs
 | _, _ => False
theorem Ones.mem {H : Frag} : ∀ {ks : List Nat} {Bs : List Blk}, Ones H ks Bs → ∀ B ∈ Bs, ∃ k ∈ ks, One H k B
 | [], [], _, B, h => by cases h
 | [], _ :: _, h, _, _ => h.elim
 | _ :: _, [], h, _, _ => h.elim
 | k :: ks, B' :: Bs, h, B, hB => by
  rcases List.mem_cons.1 hB with rfl | hB
  ·
   exact ⟨k, .head _, h.1⟩
  ·
   obtain ⟨j, hj, h1⟩ := h.2.mem B hB
   exact ⟨j, .tail _ hj, h1⟩
theorem Ones.apart {H : Frag} : ∀ {ks : List Nat} {Bs : List Blk}, Ones H ks Bs → ks.Nodup → Bs.Pairwise fun B B' => ∀ k, B.own k → ¬ B'.own k
 | [], [], _, _ => .nil
 | [], _ :: _, h, _ => h.elim
 | _ :: _, [], h, _ => h.elim
 | k :: ks, B' :: Bs, h, hn => by
  rw [List.nodup_cons] at hn
  refine List.pairwise_cons.2 ⟨fun B hB j h1 h2 => ?_, h.2.apart hn.2⟩
  obtain ⟨i, hi, h3⟩ := h.2.mem B hB
  have e1 := h.1.own j h1
  have e2 := h3.own j h2
  exact hn.1 (e1 ▸ e2 ▸ hi)
theorem pieces_of {H : Frag} {ks : List Nat} {Bs : List Blk} (h : Ones H ks Bs) (hn : ks.Nodup) : Pieces H (Bs ++ [restB H ks]) := by
 have hr : ∀ B ∈ Bs ++ [restB H ks], B ∈ Bs ∨ B = restB H ks := fun B hB => by
  rcases List.mem_append.1 hB with h | h
  ·
   exact .inl h
  ·
   exact .inr (by simpa using h)
 refine ⟨fun w hw B hB => ?_, fun B hB k hk => ?_, fun B hB k => ?_, ?_⟩
 ·
  rcases hr B hB with h1 | rfl
  ·
   obtain ⟨_, _, h2⟩ := h.mem B h1
   exact h2.holds w hw
  ·
   exact restB_holds hw
 ·
  rcases hr B hB with h1 | rfl
  ·
   obtain ⟨j, _, h2⟩ := h.mem B h1
   rw [h2.own k hk]; exact h2.ne
  ·
   exact hk.1
 ·
  rcases hr B hB with h1 | rfl
  ·
   obtain ⟨_, _, h2⟩ := h.mem B h1
   exact h2.reads k
  ·
   exact fun h => h
 ·
  refine List.pairwise_append.2 ⟨h.apart hn, List.pairwise_singleton _ _, fun B hB B' hB' k h1 h2 => ?_⟩
  have : B' = restB H ks := by simpa using hB'
  subst this
  obtain ⟨j, hj, h3⟩ := h.mem B hB
  exact h2.2 (h3.own k h1 ▸ hj)
theorem one_row {H : Frag} {b : Nat} {T : TypeId} {es len cap : Nat} {f : Nat → AV} (h : FRow H b T es len f cap) : One H b (.row b T es len f cap) := ⟨fun w hw => h.on hw, fun j hj => hj.symm, fun j hj => hj, h.ne⟩
theorem one_vrow {H : Frag} {b : Nat} {T : TypeId} {es len cap : Nat} {f : Nat → AV} (h : FRow H b T es len f cap) : One H b (.vrow (some b) T es len f cap) := ⟨fun w hw => h.on hw, fun j hj => (Option.some.inj hj).symm, fun j hj => hj, h.ne⟩
theorem one_map {H : Frag} {b : Nat} {l : List (AV × AV × Nat)} {clk : Nat} (h : FMap H b l clk) : One H b (.mp true b l clk) := ⟨fun w hw => h.on hw, fun j hj => hj.symm, fun j hj => hj, h.ne⟩
theorem closed_same {H : Frag} {ks : List Nat} {Bs : List Blk} {w : World} (hr : restB H ks ∈ Bs) (hh : ∀ B ∈ Bs, B.holds w) {k : Nat} (hk : k ∉ ks) (h1 : H k ≠ none) : restr w (ownU Bs) k = H k := by
 rw [restr_at ⟨_, hr, h1, hk⟩]
 exact restB_at (hh _ hr) hk h1
theorem closed_row {Bs : List Blk} {w : World} {b : Nat} {T : TypeId} {es len cap : Nat} {f : Nat → AV} (hr : .row b T es len f cap ∈ Bs) (hh : ∀ B ∈ Bs, B.holds w) : FRow (restr w (ownU Bs)) b T es len f cap := FRow.of (hh _ hr) ⟨_, hr, rfl⟩
theorem closed_vrow {Bs : List Blk} {w : World} {b : Nat} {T : TypeId} {es len cap : Nat} {f : Nat → AV} (hr : .vrow (some b) T es len f cap ∈ Bs) (hh : ∀ B ∈ Bs, B.holds w) : FRow (restr w (ownU Bs)) b T es len f cap := FRow.of (hh _ hr) ⟨_, hr, rfl⟩
theorem closed_map {Bs : List Blk} {w : World} {b : Nat} {l : List (AV × AV × Nat)} {clk : Nat} (hr : .mp true b l clk ∈ Bs) (hh : ∀ B ∈ Bs, B.holds w) : FMap (restr w (ownU Bs)) b l clk := FMap.of (hh _ hr) ⟨_, hr, rfl⟩
section
variable {X : Cx} {tm : Tm} {M : Mem}
theorem le_val {t : Nat} {av av' : AV} (h : tm.get t = some (none, av)) (hv : av'.val = av.val) : Le X tm M ((t, none, av') :: tm) M := by
 intro a w ha
 refine ⟨⟨ha.T.size, fun u e hu => ?_⟩, ha.d, ha.S⟩
 rw [Tm.get_cons] at hu
 split at hu
 ·
  rename_i q
  cases hu
  have h2 : t < a.tmps.size ∧ a.tmps.getD t undef = av.val := ha.T.slot t _ h
  subst q
  exact ⟨h2.1, h2.2.trans hv.symm⟩
 ·
  exact ha.T.slot u e hu
theorem le_lay {n : Nat} {B : Blk} (hn : Nat.beq n 777777 = false) (ho : ∀ k, ¬ B.own k) (hr : ∀ k, ¬ B.reads k) (hh : ∀ w : World, B.holds w) : Le X tm M tm ((n, B) :: M) := by
 intro a w ha
 have get : ∀ {m : Nat} {C : Blk}, Mem.get ((n, B) :: M) m = some C → (m = n ∧ C = B) ∨ M.get m = some C := by
  intro m C h
  rw [Mem.get_cons] at h
  split at h
  ·
   rename_i q; exact .inl ⟨q.symm, (Option.some.inj h).symm⟩
  ·
   exact .inr h
 refine ⟨⟨ha.T.size, fun t e ht => ha.T.slot t e ht⟩, ?_, ⟨ha.S.keeps, ?_, ?_, ?_, ?_⟩⟩
 ·
  rw [ha.d]
  unfold Mem.dfs
  rw [Mem.get_cons, if_neg (fun e => by rw [e] at hn; simp at hn)]
 ·
  intro m C h
  rcases get h with ⟨_, rfl⟩ | h
  ·
   exact hh w
  ·
   exact ha.S.holds _ _ h
 ·
  intro m C k h h2
  rcases get h with ⟨_, rfl⟩ | h
  ·
   exact (ho k h2).elim
  ·
   exact ha.S.own _ _ _ h h2
 ·
  intro m m' C C' k h h' o o'
  rcases get h with ⟨_, rfl⟩ | h
  ·
   exact (ho k o).elim
  ·
   rcases get h' with ⟨_, rfl⟩ | h'
   ·
    exact (ho k o').elim
   ·
    exact ha.S.apart _ _ _ _ _ h h' o o'
 ·
  intro m m' C C' k h h' o o'
  rcases get h' with ⟨_, rfl⟩ | h'
  ·
   exact (hr k o').elim
  ·
   rcases get h with ⟨_, rfl⟩ | h
   ·
    exact (ho k o).elim
   ·
    exact ha.S.roapart _ _ _ _ _ h h' o o'
theorem le_trans {tm' : Tm} {M' : Mem} {tm2 : Tm} {M2 : Mem} (h : Le X tm M tm' M') (h' : Le X tm' M' tm2 M2) : Le X tm M tm2 M2 := fun a w ha => h' a w (h a w ha)
theorem le_nil {t n : Nat} (T es : Nat) (f : Nat → AV) (hn : Nat.beq n 777777 = false) (h : tm.get t = some (none, .v (.slice none 0 0))) : Le X tm M ((t, none, .gs n 0 (ownB none) es 0 0 0) :: tm) ((n, .vrow none T es 0 f 0) :: M) :=
 le_trans (le_val h (by rw [gs_val]; rfl)) (le_lay hn (fun k h => by cases h) (fun k h => h) (fun w => ⟨rfl, rfl⟩))
end
def leK (X : Cx) (K : Exit → Tm → Mem → Prop) : Exit → Tm → Mem → Prop := fun e tm M => ∃ tm2 M2, Le X tm M tm2 M2 ∧ K e tm2 M2
theorem s_post {X : Cx} {c : Code} {tm : Tm} {M : Mem} {K : Exit → Tm → Mem → Prop} (h : CodeS X c tm M (leK X K)) : CodeS X c tm M K :=
 fun a w Q ha hQ => h a w Q ha fun e _ _ a' w' ⟨tm2, M2, hl, hK⟩ hA => hQ e tm2 M2 a' w' hK (hl a' w' hA)
theorem RowHolds.recell {w : World} {b T es len len' cap : Nat} {f f' : Nat → AV} (h : RowHolds w b T es len f cap) (hl : len' ≤ len) (hf : ∀ i, i < len' → (f' i).cells = (f i).cells ∧ (f' i).one = true) : RowHolds w b T es len' f' cap := by
 obtain ⟨c, h1, h2, h3, h4⟩ := h
 refine ⟨c, h1, h2, Nat.le_trans hl h3, fun i hi => ?_⟩
 obtain ⟨g1, g2, g3⟩ := h4 i (Nat.lt_of_lt_of_le hi hl)
 obtain ⟨e1, e2⟩ := hf i hi
 refine ⟨?_, e2, fun k hk => ?_⟩
 ·
  rw [← AV.size_cells, e1, AV.size_cells]; exact g1
 ·
  rw [e1]; exact g3 k hk
theorem Blk.le_rowc {b T es len len' cap : Nat} {f f' : Nat → AV} (hl : len' ≤ len) (hf : ∀ i, i < len' → (f' i).cells = (f i).cells ∧ (f' i).one = true) : (Blk.row b T es len f cap).le (.row b T es len' f' cap) :=
 ⟨fun _ h => h, fun _ h => h, fun _ h => h.recell hl hf⟩
theorem Blk.le_vrowc {a : Option Nat} {T es len len' cap : Nat} {f f' : Nat → AV} (hl : len' ≤ len) (hf : ∀ i, i < len' → (f' i).cells = (f i).cells ∧ (f' i).one = true) : (Blk.vrow a T es len f cap).le (.vrow a T es len' f' cap) :=
 ⟨fun _ h => h, fun _ h => h, fun w h => by
  cases a with
  | none => obtain ⟨h1, h2⟩ := h; exact ⟨by omega, h2⟩
  | some b => exact RowHolds.recell h hl hf⟩
theorem Blk.le_mapc {mine : Bool} {b clk : Nat} {l l' : List (AV × AV × Nat)} (h : l'.map trip = l.map trip) : (Blk.mp mine b l clk).le (.mp mine b l' clk) :=
 ⟨fun k hk => by cases mine <;> exact hk, fun k hk => by cases mine <;> exact hk, fun w ⟨es, h1, h2, h3⟩ => ⟨es, h1, h2, h3.trans (show l.map trip = l'.map trip from h.symm)⟩⟩
def apartL (B0 : Blk) : Mem → Prop
 | [] => True
 | (_, B) :: r => (∀ k, B.reads k → ¬ B0.own k) ∧ apartL B0 r
theorem apartL_get {B0 : Blk} : ∀ {M : Mem}, apartL B0 M → ∀ n B k, M.get n = some B → B.reads k → ¬ B0.own k
 | [], _, _, _, _, h, _ => by cases h
 | (j, C) :: r, hr, n, B, k, h, hb => by
  rw [Mem.get_cons] at h
  split at h
  ·
   cases h; exact hr.1 k hb
  ·
   exact apartL_get hr.2 n B k h hb
section
variable {P : Program} {ct : CtL} {cr : CrL} {f : FuncId} {fn : Func} {c : Code}
theorem turn_one (B : Tabs P) (hct : CtLOk P ct) (hcr : CrLOk P cr) (hf : P.funcs[f]? = some fn) (hbd : fn.body = some c) {args : List AV} (hlen : Nat.ble args.length fn.ntmps = true) {M : MemF} {O0 : Nat → Prop} {w0 w : World} (hS0 : Sat O0 w0 M w) (r : Res) {n : Nat} {B0 B1 : Blk} (hM : M n = some B0) (ro : Mem) (htag : r.tags = [n]) (hd : Mem.dfs ((900, B1) :: ro) = [])
  (h1 : B1.holds w) (hown : ∀ k, B1.own k → B0.own k) (hrd : ∀ k, ¬ B1.reads k) (hro : allHold w ro) (hno : noOwn ro) (hap : apartL B0 ro)
  (h : CodeS (cx B ct hct cr hcr (fun b => ∃ a m C, (a, m) ∈ [(900, n)] ∧ M m = some C ∧ C.own b) w fn.ntmps) c (argsTm 0 args) ((900, B1) :: ro) (retK (cx B ct hct cr hcr (fun b => ∃ a m C, (a, m) ∈ [(900, n)] ∧ M m = some C ∧ C.own b) w fn.ntmps) fn fun av M' => ∃ x, r.can x ∧ av.val = (r.out x).val ∧ outsOk M' [900] (r.mem x))) :
  Calls P f (args.map AV.val).toArray w fun e w' => ∃ x, r.can x ∧ e = .returned (r.out x).val ∧ Turn M w w' (zipM r.tags (r.mem x)).get := by
 refine turn_fn B hct hcr hf hbd hlen hS0 r ((900, B1) :: ro) [(900, n)] [900] hd ⟨h1, hro⟩ (fun n' B' k hn ho => ?_) (fun n' B' k hn hr n2 C n3 hin hM2 ho2 => ?_) (fun a b m e1 e2 => ?_) (fun a m e => ?_) (by decide) (by rw [htag]; rfl) h
 ·
  rw [Mem.get_cons] at hn
  split at hn
  ·
   rename_i e
   cases hn
   exact ⟨n, B0, by rw [← e]; exact .head _, hM, hown k ho⟩
  ·
   exact (noOwn_get hno _ _ _ hn ho).elim
 ·
  simp only [List.mem_singleton, Prod.mk.injEq] at hin
  rw [hin.2] at hM2
  rw [hM] at hM2
  cases hM2
  rw [Mem.get_cons] at hn
  split at hn
  ·
   cases hn; exact hrd k hr
  ·
   exact apartL_get hap _ _ _ hn hr ho2
 ·
  simp only [List.mem_singleton, Prod.mk.injEq] at e1 e2
  rw [e1.1, e2.1]
 ·
  simp only [List.mem_singleton, Prod.mk.injEq] at e
  rw [htag, e.2]; exact .head _
theorem turn_new (B : Tabs P) (hct : CtLOk P ct) (hcr : CrLOk P cr) (hf : P.funcs[f]? = some fn) (hbd : fn.body = some c) {args : List AV} (hlen : Nat.ble args.length fn.ntmps = true) {M : MemF} {O0 : Nat → Prop} {w0 w : World} (hS0 : Sat O0 w0 M w) (r : Res) (ro : Mem) (ts' : List Nat) (hd : ro.dfs = []) (hro : allHold w ro) (hno : noOwn ro) (hnd : ts'.Nodup) (htl : r.tags.length = ts'.length)
  (h : CodeS (cx B ct hct cr hcr (fun b => ∃ a m C, (a, m) ∈ ([] : List (Nat × Nat)) ∧ M m = some C ∧ C.own b) w fn.ntmps) c (argsTm 0 args) ro (retK (cx B ct hct cr hcr (fun b => ∃ a m C, (a, m) ∈ ([] : List (Nat × Nat)) ∧ M m = some C ∧ C.own b) w fn.ntmps) fn fun av M' => ∃ x, r.can x ∧ av.val = (r.out x).val ∧ outsOk M' ts' (r.mem x))) :
  Calls P f (args.map AV.val).toArray w fun e w' => ∃ x, r.can x ∧ e = .returned (r.out x).val ∧ Turn M w w' (zipM r.tags (r.mem x)).get :=
 turn_fn B hct hcr hf hbd hlen hS0 r ro [] ts' hd hro (fun n' B' k hn ho => (noOwn_get hno _ _ _ hn ho).elim) (fun _ _ _ _ _ _ _ _ h => (by cases h)) (fun _ _ _ h => (by cases h)) (fun _ _ h => (by cases h)) hnd htl h
theorem ro_apart {O : Nat → Prop} {w0 w : World} {M : MemF} (hS : Sat O w0 M w) {x : AV} {c : Prop} {es n : Nat} {f : Nat → AV} (h : seqOf M x = some (c, es, n, f)) (hc : c) (hes : n ≠ 0 → es = 1) {k : Nat} {B : Blk} (hk : M k = some B) (hx : tagNe k x = true) {base : Option (Nat × Nat)} {cap : Nat} (hv : x.val = slV base n cap) {g : Nat → AV} : ∀ j, (roB base 1 n g).reads j → ¬ B.own j := by
 intro j hr ho
 obtain ⟨_, ix, o, hl, hb⟩ := hr
 have hl : 0 < n := hl
 exact seq_apart hS h hc (fun h => by rw [hes h]; decide) hk hx hv (by omega) hb ho
end
end Go.Proofs.YtofophjfgalhaaaGreatDoor.V
