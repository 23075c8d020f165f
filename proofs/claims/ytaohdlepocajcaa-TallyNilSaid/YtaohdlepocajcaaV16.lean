import Derived.Test.YtaohdlepocajcaaV15
/-! Code, walked by states. -/
namespace Go.Proofs.Ytaohdlepocajcaa.V
open Go Go.RowKit

/-- what is deferred, as a state has it -/
def Mem.dfs (M : Mem) : List Deferred := match M.get 777777 with
  | some (.dfr l) => l
  | _ => []

structure Cx : Type 1 where
  P : Program
  E : Env
  O : Nat → Prop
  w0 : World
  N : Nat
  hb : TblOk P E.tb
  he : EqOk P E.eqs
  hct : CtOk P O w0 E.ct
  hcr : CrOk P O w0 E.cr
  hO : ∀ b, w0.heap.size ≤ b → O b
  hmix : P.follows .mixedOrders = true

/-- what a frame and a world must be, for a state to be said of them -/
structure At (X : Cx) (tm : Tm) (M : Mem) (a : Act) (w : World) : Prop where
  T : SatT X.N tm.get a
  d : a.defers = M.dfs
  S : Sat X.O X.w0 M.get w

def CodeS (X : Cx) (c : Code) (tm : Tm) (M : Mem) (K : Exit → Tm → Mem → Prop) : Prop :=
  ∀ a w Q, At X tm M a w → (∀ e tm' M' a' w', K e tm' M' → At X tm' M' a' w' → Q e a' w') → c.wp X.P Q a w

def thenK (X : Cx) (y : Code) (K : Exit → Tm → Mem → Prop) : Exit → Tm → Mem → Prop
  | .normal, tm, M => CodeS X y tm M K
  | e, tm, M => K e tm M
def blockK (id : Nat) (K : Exit → Tm → Mem → Prop) : Exit → Tm → Mem → Prop
  | .exit id', tm, M => match Nat.beq id' id with
    | true => K .normal tm M
    | false => K (.exit id') tm M
  | e, tm, M => K e tm M

section
variable {X : Cx} {tm : Tm} {M : Mem} {K : Exit → Tm → Mem → Prop}

theorem s_mono {c : Code} {K' : Exit → Tm → Mem → Prop} (h : CodeS X c tm M K) (hk : ∀ e tm M, K e tm M → K' e tm M) : CodeS X c tm M K' :=
  fun a w Q ha hQ => h a w Q ha fun e tm' M' a' w' hK hA => hQ e tm' M' a' w' (hk _ _ _ hK) hA
theorem s_skip (h : K .normal tm M) : CodeS X .skip tm M K := fun a w _ ha hQ => wp_skip (hQ .normal tm M a w h ha)
theorem s_label {l : Nat} (h : K .normal tm M) : CodeS X (.label l) tm M K := fun a w _ ha hQ => wp_label (hQ .normal tm M a w h ha)
theorem s_ret (h : K .ret tm M) : CodeS X .ret tm M K := fun a w _ ha hQ => wp_ret (hQ .ret tm M a w h ha)
theorem s_exit {id : Nat} (h : K (.exit id) tm M) : CodeS X (.exit id) tm M K := fun a w _ ha hQ => wp_exit (hQ (.exit id) tm M a w h ha)
theorem s_seq {x y : Code} (h : CodeS X x tm M (thenK X y K)) : CodeS X (.seq x y) tm M K := by
  intro a w Q ha hQ
  refine wp_seq (h a w _ ha fun e tm' M' a' w' hK hA => ?_)
  cases e with
  | normal => exact hK a' w' Q hA hQ
  | _ => exact hQ _ tm' M' a' w' hK hA
theorem s_block {id : Nat} {c : Code} (h : CodeS X c tm M (blockK id K)) : CodeS X (.block id c) tm M K := by
  intro a w Q ha hQ
  refine wp_block (h a w _ ha fun e tm' M' a' w' hK hA => ?_)
  cases e with
  | exit id' =>
    simp only [blockK] at hK
    simp only [Exit.inBlock]
    split at hK
    · rename_i hid
      rw [if_pos (Nat.eq_of_beq_eq_true hid)]
      exact hQ _ tm' M' a' w' hK hA
    · rename_i hid
      rw [if_neg (fun h => by subst h; simp at hid)]
      exact hQ _ tm' M' a' w' hK hA
  | _ => exact hQ _ tm' M' a' w' hK hA
theorem s_cond {x : Operand} {c d : Code} {b : Bool} (h : opd tm.get x = some (none, .v (.bool b))) (ht : b = true → CodeS X c tm M K) (hf : b = false → CodeS X d tm M K) : CodeS X (.cond x c d) tm M K := by
  intro a w Q ha hQ
  have hx : a.eval x = .bool b := opd_sound ha.T h (g := none) trivial trivial
  exact wp_cond_split hx (fun hb => ht hb a w Q ha hQ) (fun hb => hf hb a w Q ha hQ)

/-- a weaker state -/
def Le (X : Cx) (tm : Tm) (M : Mem) (tm' : Tm) (M' : Mem) : Prop := ∀ a w, At X tm M a w → At X tm' M' a w
theorem Le.refl : Le X tm M tm M := fun _ _ h => h
theorem s_le {c : Code} {tm' : Tm} {M' : Mem} (hl : Le X tm M tm' M') (h : CodeS X c tm' M' K) : CodeS X c tm M K := fun a w Q ha hQ => h a w Q (hl a w ha) hQ

/-- the entries of tm' stand in tm -/
def subT (tm : Tm) : Tm → Prop
  | [] => True
  | (t, e) :: r => tm.get t = some e ∧ subT tm r
theorem subT_get {tm : Tm} : ∀ {tm' : Tm}, subT tm tm' → ∀ t e, tm'.get t = some e → tm.get t = some e
  | [], _, t, e, h => by cases h
  | (k, e0) :: r, hs, t, e, h => by
    rw [Tm.get_cons] at h
    split at h
    · rename_i hk; cases h; subst hk; exact hs.1
    · exact subT_get hs.2 t e h

/-- a block that says no more than another -/
def Blk.le (B B' : Blk) : Prop := (∀ k, B'.own k → B.own k) ∧ (∀ k, B'.reads k → B.reads k) ∧ ∀ w : World, B.holds w → B'.holds w
theorem Blk.le_refl (B : Blk) : B.le B := ⟨fun _ h => h, fun _ h => h, fun _ h => h⟩
theorem Blk.le_trans {A B C : Blk} (h : A.le B) (h' : B.le C) : A.le C := ⟨fun k hk => h.1 k (h'.1 k hk), fun k hk => h.2.1 k (h'.2.1 k hk), fun w hw => h'.2.2 w (h.2.2 w hw)⟩
theorem RowHolds.weaken {w : World} {b T es len len' cap : Nat} {f f' : Nat → AV} (h : RowHolds w b T es len f cap) (hl : len' ≤ len) (hf : ∀ i, i < len' → f' i = f i) : RowHolds w b T es len' f' cap := by
  obtain ⟨c, h1, h2, h3, h4⟩ := h
  refine ⟨c, h1, h2, Nat.le_trans hl h3, fun i hi => ?_⟩
  rw [hf i hi]
  exact h4 i (Nat.lt_of_lt_of_le hi hl)
theorem Blk.le_row {b T es len len' cap : Nat} {f f' : Nat → AV} (hl : len' ≤ len) (hf : ∀ i, i < len' → f' i = f i) : (Blk.row b T es len f cap).le (.row b T es len' f' cap) :=
  ⟨fun _ h => h, fun _ h => h, fun _ h => RowHolds.weaken h hl hf⟩
theorem Blk.le_vrow {a : Option Nat} {T es len len' cap : Nat} {f f' : Nat → AV} (hl : len' ≤ len) (hf : ∀ i, i < len' → f' i = f i) : (Blk.vrow a T es len f cap).le (.vrow a T es len' f' cap) :=
  ⟨fun _ h => h, fun _ h => h, fun w h => by
    cases a with
    | none => obtain ⟨h1, h2⟩ := h; exact ⟨by omega, h2⟩
    | some b => exact RowHolds.weaken h hl hf⟩
theorem Blk.le_vro {es : Nat} {base : Nat → Option (Nat × Nat)} {len len' : Nat → Nat} {f f' : Nat → Nat → AV} (hl : ∀ ix, len' ix ≤ len ix) (hf : ∀ ix i, i < len' ix → f' ix i = f ix i) : (Blk.vro es base len f).le (.vro es base len' f') :=
  ⟨fun _ h => h, fun _ ⟨h0, ix, o, h1, h2⟩ => ⟨h0, ix, o, Nat.lt_of_lt_of_le h1 (hl ix), h2⟩, fun w h ix => ⟨fun hb => by have := (h ix).1 hb; have := hl ix; omega, fun b o hb i hi => by
    rw [hf ix i hi]
    exact (h ix).2 b o hb i (Nat.lt_of_lt_of_le hi (hl ix))⟩⟩

def subM (M : Mem) : Mem → Prop
  | [] => True
  | (n, B) :: r => (∃ B0, M.get n = some B0 ∧ B0.le B) ∧ subM M r
theorem subM_get {M : Mem} : ∀ {M' : Mem}, subM M M' → ∀ n B, M'.get n = some B → ∃ B0, M.get n = some B0 ∧ B0.le B
  | [], _, n, B, h => by cases h
  | (k, B0) :: r, hs, n, B, h => by
    rw [Mem.get_cons] at h
    split at h
    · rename_i hk; cases h; subst hk; exact hs.1
    · exact subM_get hs.2 n B h

theorem Sat.weaken {O : Nat → Prop} {w0 w : World} {M M' : MemF} (h : Sat O w0 M w) (hs : ∀ n B, M' n = some B → ∃ B0, M n = some B0 ∧ B0.le B) : Sat O w0 M' w := by
  refine ⟨h.keeps, ?_, ?_, ?_, ?_⟩
  · intro n B hn
    obtain ⟨B0, h1, h2⟩ := hs _ _ hn
    exact h2.2.2 _ (h.holds _ _ h1)
  · intro n B b hn ho
    obtain ⟨B0, h1, h2⟩ := hs _ _ hn
    exact h.own _ _ _ h1 (h2.1 _ ho)
  · intro n m B B' b hn hm ho ho'
    obtain ⟨B0, h1, h2⟩ := hs _ _ hn
    obtain ⟨B1, h3, h4⟩ := hs _ _ hm
    exact h.apart _ _ _ _ _ h1 h3 (h2.1 _ ho) (h4.1 _ ho')
  · intro n m B B' b hn hm ho hr
    obtain ⟨B0, h1, h2⟩ := hs _ _ hn
    obtain ⟨B1, h3, h4⟩ := hs _ _ hm
    exact h.roapart _ _ _ _ _ h1 h3 (h2.1 _ ho) (h4.2.1 _ hr)

theorem Le.of {tm' : Tm} {M' : Mem} (h1 : subT tm tm') (h2 : subM M M') (h3 : M'.dfs = M.dfs := by rfl) : Le X tm M tm' M' := fun _ _ h =>
  ⟨⟨h.T.size, fun t e ht => h.T.slot t e (subT_get h1 t e ht)⟩, by rw [h3]; exact h.d, h.S.weaken fun n B hn => subM_get h2 n B hn⟩

theorem exists_least (p : Nat → Prop) (h : ∃ n, p n) : ∃ n, p n ∧ ∀ m, p m → n ≤ m := by
  obtain ⟨n, hn⟩ := h
  induction n using Nat.strongRecOn with
  | _ n ih =>
    by_cases hs : ∃ m, m < n ∧ p m
    · obtain ⟨m, h1, h2⟩ := hs; exact ih m h1 h2
    · exact ⟨n, hn, fun m hm => Nat.le_of_not_lt fun hlt => hs ⟨m, hlt, hm⟩⟩
open Classical in
noncomputable def least (p : Nat → Prop) : Nat := if h : ∃ n, p n then Classical.choose (exists_least p h) else 0
theorem least_spec {p : Nat → Prop} (h : ∃ n, p n) : p (least p) ∧ ∀ m, p m → least p ≤ m := by
  unfold least
  rw [dif_pos h]
  exact Classical.choose_spec (exists_least p h)

/-- A LOOP, by an invariant over x : α. -/
theorem s_loop {α : Type} (inv : α → Prop) (tI : α → Tm) (mI : α → Mem) (μ : α → Nat) {c : Code} (x0 : α) (h0 : inv x0) (hle : Le X tm M (tI x0) (mI x0))
    (round : ∀ x, inv x → CodeS X c (tI x) (mI x) fun e tm' M' => match e with
      | .normal => ∃ x', inv x' ∧ μ x' < μ x ∧ Le X tm' M' (tI x') (mI x')
      | e => K e tm' M') : CodeS X (.loop c) tm M K := by
  intro a w Q ha hQ
  refine wp_loop (fun a w => ∃ x, inv x ∧ At X (tI x) (mI x) a w) (fun a w => least fun m => ∃ x, inv x ∧ At X (tI x) (mI x) a w ∧ m = μ x) ⟨x0, h0, hle a w ha⟩ ?_
  intro a w hI
  obtain ⟨x, hx, hA⟩ := hI
  obtain ⟨⟨y, hy, hyA, hym⟩, _⟩ := least_spec (p := fun m => ∃ x, inv x ∧ At X (tI x) (mI x) a w ∧ m = μ x) ⟨μ x, x, hx, hA, rfl⟩
  refine round y hy a w _ hyA fun e tm' M' a' w' hK hA' => ?_
  cases e with
  | normal =>
    obtain ⟨x', hx', hlt, hle'⟩ := hK
    have h1 := hle' a' w' hA'
    refine ⟨⟨x', hx', h1⟩, ?_⟩
    have h2 := (least_spec (p := fun m => ∃ x, inv x ∧ At X (tI x) (mI x) a' w' ∧ m = μ x) ⟨μ x', x', hx', h1, rfl⟩).2 (μ x') ⟨x', hx', h1, rfl⟩
    exact Nat.lt_of_le_of_lt h2 (by rw [hym]; exact hlt)
  | _ => exact hQ _ tm' M' a' w' hK hA'
end

/-! ### A region in the order of the text -/
def dstL (l : List Oper) (j : Nat) : Option Tmp := match nth l j with
  | some o => o.dst
  | none => none
theorem dstL_at {l : List Oper} : ∀ j d, dstL l j = some d → dstAt l.toArray j = some d := by
  intro j d h
  unfold dstL at h
  rw [nth_eq] at h
  unfold dstAt
  simp only [List.getElem?_toArray]
  cases hq : l[j]? with
  | none => rw [hq] at h; cases h
  | some o => rw [hq] at h; exact h

/-- the operations rest of the region l0, the first of them being number i -/
def OpsS (X : Cx) (l0 : List Oper) (i : Nat) (rest : List Oper) (tm : Tm) (M : Mem) (K : Tm → Mem → Prop) : Prop :=
  l0.drop i = rest → ∀ a w Q, At X tm M a w → (∀ tm' M' a' w', K tm' M' → At X tm' M' a' w' → Q .normal a' w') → wpOps X.P l0.toArray Q (List.range' i rest.length) a w

section
variable {X : Cx} {tm : Tm} {M : Mem}

theorem drop_succ {α : Type} {l : List α} {i : Nat} {x : α} {r : List α} (h : l.drop i = x :: r) : l[i]? = some x ∧ l.drop (i + 1) = r := by
  constructor
  · have := congrArg (fun l => l[0]?) h
    simpa using this
  · rw [← List.drop_drop, h]; rfl

theorem wpOps_step {P : Program} {l0 : List Oper} {i n : Nat} {o : Oper} {Q : Exit → Act → World → Prop} {a : Act} {w : World} (hi : l0[i]? = some o)
    (h : if Region.wanted o (yielded l0.toArray a.tmps) = true then o.wp P a w (wpOps P l0.toArray Q (List.range' (i + 1) n)) Q else wpOps P l0.toArray Q (List.range' (i + 1) n) (a.put o.dst undef) w) :
    wpOps P l0.toArray Q (List.range' i (n + 1)) a w := by
  rw [List.range'_succ, wpOps_cons]
  unfold wpOp
  simp only [List.getElem?_toArray, hi]
  split
  · rename_i hw; rw [if_pos hw] at h; exact .inl h
  · rename_i hw; rw [if_neg hw] at h; exact h

theorem o_nil {l0 : List Oper} {i : Nat} {K : Tm → Mem → Prop} (h : K tm M) : OpsS X l0 i [] tm M K := fun _ a w _ ha hQ => hQ tm M a w h ha

def putT (d : Option Tmp) (g : Option Bool) (av : AV) (tm : Tm) : Tm := match d with
  | some d => (d, g, av) :: tm
  | none => tm
theorem At.put {a : Act} {w w' : World} (ha : At X tm M a w) {d : Option Nat} (hd : ∀ d', d = some d' → Nat.blt d' X.N = true) {g : Option Bool} {av : AV} {v : Value} (hv : match g with | none => v = av.val | some g => v = if g then av.val else undef) {L : Mem} (ht : Turn M.get w w' L.get) {tm' : Tm} {M' : Mem}
    (h1 : tm' = putT d g av tm) (h2 : M'.get = updM L.get M.get) (h3 : M'.dfs = M.dfs) : At X tm' M' (a.put d v) w' := by
  refine ⟨?_, ?_, ?_⟩
  · subst h1
    cases d with
    | none => exact ha.T
    | some d =>
      have := ha.T.put (blt_lt (hd d rfl)) (g := g) (av := av) hv
      refine ⟨this.size, fun t e h => this.slot t e ?_⟩
      unfold putT at h
      rw [Tm.get_cons] at h
      exact h
  · rw [h3]
    cases d <;> exact ha.d
  · rw [h2]; exact ha.S.turn ht X.hO

theorem opEval_dst {E : Env} {dst : Nat → Option Tmp} {N : Nat} {M : MemF} {tm : TmF} {o : Oper} {x : Option Bool × Res} (h : opEval E dst N M tm o = some x) : ∀ d', o.dst = some d' → Nat.blt d' N = true := (opEval_T h).1

def Mem.app : Mem → Mem → Mem
  | [], M => M
  | x :: r, M => x :: Mem.app r M
theorem Mem.app_get : ∀ (L M : Mem), (Mem.app L M).get = updM L.get M.get
  | [], M => rfl
  | (k, B) :: r, M => by
    funext n
    show Mem.get ((k, B) :: Mem.app r M) n = _
    rw [Mem.get_cons, Mem.app_get r M]
    unfold updM
    rw [Mem.get_cons]
    split <;> rfl
def noDfr : List Nat → Bool
  | [] => true
  | t :: r => !(Nat.beq t 777777) && noDfr r
theorem zipM_dfr : ∀ {ts : List Nat} {L : List Blk}, noDfr ts = true → (zipM ts L).get 777777 = none
  | [], L, _ => by cases L <;> rfl
  | t :: ts, [], _ => rfl
  | t :: ts, B :: L, h => by
    simp only [noDfr, Bool.and_eq_true, Bool.not_eq_true'] at h
    show Mem.get ((t, B) :: zipM ts L) 777777 = none
    rw [Mem.get_cons, if_neg (fun e => by rw [e] at h; simp at h)]
    exact zipM_dfr h.2
theorem app_dfs {L M : Mem} (h : L.get 777777 = none) : (Mem.app L M).dfs = M.dfs := by
  unfold Mem.dfs
  rw [Mem.app_get]
  unfold updM
  rw [h]

/-- an operation: any -/
theorem o_res {l0 : List Oper} {i : Nat} {o : Oper} {rest : List Oper} {K : Tm → Mem → Prop} {g : Option Bool} {β : Type} {ok : Prop} {can : β → Prop} {out : β → AV} {tags : List Nat} {mem : β → List Blk}
    (h : opEval X.E (dstL l0) X.N M.get tm.get o = some (g, ⟨β, ok, can, out, tags, mem⟩)) (hok : ok) (hne : ∃ x, can x) (hnd : noDfr tags = true)
    (hk : ∀ x, can x → OpsS X l0 (i + 1) rest (putT o.dst g (out x) tm) (Mem.app (zipM tags (mem x)) M) K) : OpsS X l0 i (o :: rest) tm M K := by
  intro hl a w Q ha hQ
  obtain ⟨h1, h2⟩ := drop_succ hl
  rw [List.length_cons]
  refine wpOps_step h1 (opEval_sound X.hb X.he X.hct X.hcr dstL_at h hok hne ha.T ha.S fun x v w' hc ht hv => ?_)
  exact hk x hc h2 _ w' Q (ha.put (opEval_dst h) hv ht rfl (Mem.app_get _ _) (app_dfs (zipM_dfr hnd))) hQ
/-- one that lays nothing -/
theorem o_val {l0 : List Oper} {i : Nat} {o : Oper} {rest : List Oper} {K : Tm → Mem → Prop} {g : Option Bool} {ok : Prop} {can : Unit → Prop} {av : AV} {mem : Unit → List Blk} {d : Nat} (hd : o.dst = some d)
    (h : opEval X.E (dstL l0) X.N M.get tm.get o = some (g, ⟨Unit, ok, can, fun _ => av, [], mem⟩)) (hcan : can ()) (hok : ok) (hk : OpsS X l0 (i + 1) rest ((d, g, av) :: tm) M K) : OpsS X l0 i (o :: rest) tm M K :=
  o_res h hok ⟨(), hcan⟩ rfl fun x _ => by rw [hd]; exact hk
/-- one that lays or turns one block -/
theorem o_new {l0 : List Oper} {i : Nat} {o : Oper} {rest : List Oper} {K : Tm → Mem → Prop} {g : Option Bool} {β : Type} {ok : Prop} {can : β → Prop} {out : β → AV} {t : Nat} {mem : β → Blk} {d : Nat} (hd : o.dst = some d)
    (h : opEval X.E (dstL l0) X.N M.get tm.get o = some (g, ⟨β, ok, can, out, [t], fun x => [mem x]⟩)) (hnd : noDfr [t] = true) (hne : ∃ x, can x) (hok : ok) (hk : ∀ x, can x → OpsS X l0 (i + 1) rest ((d, g, out x) :: tm) ((t, mem x) :: M) K) : OpsS X l0 i (o :: rest) tm M K :=
  o_res h hok hne hnd fun x hx => by rw [hd]; exact hk x hx
/-- a store -/
theorem o_put {l0 : List Oper} {i : Nat} {o : Oper} {rest : List Oper} {K : Tm → Mem → Prop} {g : Option Bool} {ok : Prop} {can : Unit → Prop} {out : Unit → AV} {t : Nat} {B : Blk} (hd : o.dst = none)
    (h : opEval X.E (dstL l0) X.N M.get tm.get o = some (g, ⟨Unit, ok, can, out, [t], fun _ => [B]⟩)) (hnd : noDfr [t] = true) (hcan : can ()) (hok : ok) (hk : OpsS X l0 (i + 1) rest tm ((t, B) :: M) K) : OpsS X l0 i (o :: rest) tm M K :=
  o_res h hok ⟨(), hcan⟩ hnd fun x _ => by rw [hd]; exact hk

theorem s_region {id : Nat} {l0 : List Oper} {K : Exit → Tm → Mem → Prop} (h : OpsS X l0 0 l0 tm M fun tm M => K .normal tm M) : CodeS X (.region id l0.toArray false) tm M K := by
  intro a w Q ha hQ
  refine wp_region ?_
  have := h rfl a w Q ha fun tm' M' a' w' hK hA => hQ .normal tm' M' a' w' hK hA
  rw [List.size_toArray, List.range_eq_range']
  exact this
end

end Go.Proofs.Ytaohdlepocajcaa.V
