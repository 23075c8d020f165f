import Derived.Test.YtofophjfgalhaaaGreatDoorD12
/-! Code, walked by states. -/
namespace Go.Proofs.YtofophjfgalhaaaGreatDoor.D
open Go Go.RowKit

structure Cx where
  P : Program
  E : Env
  O : Nat → Prop
  w0 : World
  N : Nat
  hb : TblOk P E.tb
  he : EqOk P E.eqs
  hct : CtOk P O w0 E.ct
  hO : ∀ b, w0.heap.size ≤ b → O b
  hmix : P.follows .mixedOrders = true

/-- what a frame and a world must be, for a state to be said of them -/
structure At (X : Cx) (tm : Tm) (M : Mem) (a : Act) (w : World) : Prop where
  T : SatT X.N tm.get a
  d : a.defers = []
  S : Sat X.O X.w0 M.get w

def CodeS (X : Cx) (c : Code) (tm : Tm) (M : Mem) (K : Exit → Tm → Mem → Prop) : Prop :=
  ∀ a w Q, At X tm M a w → (∀ e tm' M' a' w', K e tm' M' → At X tm' M' a' w' → Q e a' w') → c.wp X.P Q a w

def thenK (X : Cx) (y : Code) (K : Exit → Tm → Mem → Prop) : Exit → Tm → Mem → Prop
  | .normal, tm, M => CodeS X y tm M K
  | e, tm, M => K e tm M
def blockK (id : Nat) (K : Exit → Tm → Mem → Prop) : Exit → Tm → Mem → Prop
  | .exit id', tm, M => match Nat.beq id' id with
    | true => K .normal tm M
    | false => K (.exit id') tm M
  | e, tm, M => K e tm M

section
variable {X : Cx} {tm : Tm} {M : Mem} {K : Exit → Tm → Mem → Prop}

theorem s_mono {c : Code} {K' : Exit → Tm → Mem → Prop} (h : CodeS X c tm M K) (hk : ∀ e tm M, K e tm M → K' e tm M) : CodeS X c tm M K' :=
  fun a w Q ha hQ => h a w Q ha fun e tm' M' a' w' hK hA => hQ e tm' M' a' w' (hk _ _ _ hK) hA
theorem s_skip (h : K .normal tm M) : CodeS X .skip tm M K := fun a w _ ha hQ => wp_skip (hQ .normal tm M a w h ha)
theorem s_label {l : Nat} (h : K .normal tm M) : CodeS X (.label l) tm M K := fun a w _ ha hQ => wp_label (hQ .normal tm M a w h ha)
theorem s_ret (h : K .ret tm M) : CodeS X .ret tm M K := fun a w _ ha hQ => wp_ret (hQ .ret tm M a w h ha)
theorem s_exit {id : Nat} (h : K (.exit id) tm M) : CodeS X (.exit id) tm M K := fun a w _ ha hQ => wp_exit (hQ (.exit id) tm M a w h ha)
theorem s_seq {x y : Code} (h : CodeS X x tm M (thenK X y K)) : CodeS X (.seq x y) tm M K := by
  intro a w Q ha hQ
  refine wp_seq (h a w _ ha fun e tm' M' a' w' hK hA => ?_)
  cases e with
  | normal => exact hK a' w' Q hA hQ
  | _ => exact hQ _ tm' M' a' w' hK hA
theorem s_block {id : Nat} {c : Code} (h : CodeS X c tm M (blockK id K)) : CodeS X (.block id c) tm M K := by
  intro a w Q ha hQ
  refine wp_block (h a w _ ha fun e tm' M' a' w' hK hA => ?_)
  cases e with
  | exit id' =>
    simp only [blockK] at hK
    simp only [Exit.inBlock]
    split at hK
    · rename_i hid
      rw [if_pos (Nat.eq_of_beq_eq_true hid)]
      exact hQ _ tm' M' a' w' hK hA
    · rename_i hid
      rw [if_neg (fun h => by subst h; simp at hid)]
      exact hQ _ tm' M' a' w' hK hA
  | _ => exact hQ _ tm' M' a' w' hK hA
theorem s_cond {x : Operand} {c d : Code} {b : Bool} (h : opd tm.get x = some (none, .v (.bool b))) (ht : b = true → CodeS X c tm M K) (hf : b = false → CodeS X d tm M K) : CodeS X (.cond x c d) tm M K := by
  intro a w Q ha hQ
  have hx : a.eval x = .bool b := opd_sound ha.T h (g := none) trivial trivial
  exact wp_cond_split hx (fun hb => ht hb a w Q ha hQ) (fun hb => hf hb a w Q ha hQ)

/-- a weaker state -/
def Le (X : Cx) (tm : Tm) (M : Mem) (tm' : Tm) (M' : Mem) : Prop := ∀ a w, At X tm M a w → At X tm' M' a w
theorem Le.refl : Le X tm M tm M := fun _ _ h => h
theorem s_le {c : Code} {tm' : Tm} {M' : Mem} (hl : Le X tm M tm' M') (h : CodeS X c tm' M' K) : CodeS X c tm M K := fun a w Q ha hQ => h a w Q (hl a w ha) hQ

/-- the entries of tm' stand in tm -/
def subT (tm : Tm) : Tm → Prop
  | [] => True
  | (t, e) :: r => tm.get t = some e ∧ subT tm r
theorem subT_get {tm : Tm} : ∀ {tm' : Tm}, subT tm tm' → ∀ t e, tm'.get t = some e → tm.get t = some e
  | [], _, t, e, h => by cases h
  | (k, e0) :: r, hs, t, e, h => by
    rw [Tm.get_cons] at h
    split at h
    · rename_i hk; cases h; subst hk; exact hs.1
    · exact subT_get hs.2 t e h

/-- a block that says no more than another -/
def Blk.le : Blk → Blk → Prop
  | .row b T es len f cap, .row b' T' es' len' f' cap' => b = b' ∧ T = T' ∧ es = es' ∧ cap = cap' ∧ len' ≤ len ∧ ∀ i, i < len' → f' i = f i
  | .ro es base len f, .ro es' base' len' f' => es = es' ∧ base = base' ∧ ∀ ix, len' ix ≤ len ix ∧ ∀ i, i < len' ix → f' ix i = f ix i
  | .mp m b l, .mp m' b' l' => m = m' ∧ b = b' ∧ l = l'
  | _, _ => False
theorem Blk.le_refl (B : Blk) : B.le B := by
  cases B with
  | row => exact ⟨rfl, rfl, rfl, rfl, Nat.le_refl _, fun _ _ => rfl⟩
  | ro => exact ⟨rfl, rfl, fun _ => ⟨Nat.le_refl _, fun _ _ => rfl⟩⟩
  | mp => exact ⟨rfl, rfl, rfl⟩
theorem Blk.le_own {B B' : Blk} (h : B.le B') : B.own = B'.own := by
  cases B with
  | row => cases B' with
    | row => obtain ⟨rfl, _⟩ := h; rfl
    | ro => cases h
    | mp => cases h
  | ro => cases B' with
    | row => cases h
    | ro => rfl
    | mp => cases h
  | mp => cases B' with
    | row => cases h
    | ro => cases h
    | mp => obtain ⟨rfl, rfl, rfl⟩ := h; rfl
theorem Blk.le_reads {B B' : Blk} (h : B.le B') {b : Nat} (hr : B'.reads b) : B.reads b := by
  cases B with
  | row => cases B' with
    | row => exact hr
    | ro => cases h
    | mp => cases h
  | ro => cases B' with
    | row => cases h
    | ro =>
      obtain ⟨rfl, rfl, hl⟩ := h
      obtain ⟨ix, h1, h2⟩ := hr
      exact ⟨ix, Nat.lt_of_lt_of_le h1 (hl ix).1, h2⟩
    | mp => cases h
  | mp => cases B' with
    | row => cases h
    | ro => cases h
    | mp => obtain ⟨rfl, rfl, rfl⟩ := h; exact hr
theorem Blk.le_holds {B B' : Blk} {w : World} (h : B.le B') (hh : B.holds w) : B'.holds w := by
  cases B with
  | row b T es len f cap =>
    cases B' with
    | ro => cases h
    | mp => cases h
    | row b' T' es' len' f' cap' =>
      obtain ⟨rfl, rfl, rfl, rfl, hl, hf⟩ := h
      obtain ⟨c, h1, h2, h3, h4⟩ := hh
      refine ⟨c, h1, h2, Nat.le_trans hl h3, fun i hi => ?_⟩
      rw [hf i hi]
      exact h4 i (Nat.lt_of_lt_of_le hi hl)
  | ro es base len f =>
    cases B' with
    | row => cases h
    | mp => cases h
    | ro es' base' len' f' =>
      obtain ⟨rfl, rfl, hl⟩ := h
      refine ⟨hh.1, fun ix i hi => ?_⟩
      rw [(hl ix).2 i hi]
      exact hh.2 ix i (Nat.lt_of_lt_of_le hi (hl ix).1)
  | mp =>
    cases B' with
    | row => cases h
    | ro => cases h
    | mp => obtain ⟨rfl, rfl, rfl⟩ := h; exact hh

def subM (M : Mem) : Mem → Prop
  | [] => True
  | (n, B) :: r => (∃ B0, M.get n = some B0 ∧ B0.le B) ∧ subM M r
theorem subM_get {M : Mem} : ∀ {M' : Mem}, subM M M' → ∀ n B, M'.get n = some B → ∃ B0, M.get n = some B0 ∧ B0.le B
  | [], _, n, B, h => by cases h
  | (k, B0) :: r, hs, n, B, h => by
    rw [Mem.get_cons] at h
    split at h
    · rename_i hk; cases h; subst hk; exact hs.1
    · exact subM_get hs.2 n B h

theorem Sat.weaken {O : Nat → Prop} {w0 w : World} {M M' : MemF} (h : Sat O w0 M w) (hs : ∀ n B, M' n = some B → ∃ B0, M n = some B0 ∧ B0.le B) : Sat O w0 M' w := by
  refine ⟨h.keeps, ?_, ?_, ?_, ?_⟩
  · intro n B hn
    obtain ⟨B0, h1, h2⟩ := hs _ _ hn
    exact Blk.le_holds h2 (h.holds _ _ h1)
  · intro n B b hn ho
    obtain ⟨B0, h1, h2⟩ := hs _ _ hn
    exact h.own _ _ _ h1 ((Blk.le_own h2).trans ho)
  · intro n m B B' b hn hm ho ho'
    obtain ⟨B0, h1, h2⟩ := hs _ _ hn
    obtain ⟨B1, h3, h4⟩ := hs _ _ hm
    exact h.apart _ _ _ _ _ h1 h3 ((Blk.le_own h2).trans ho) ((Blk.le_own h4).trans ho')
  · intro n m B B' b hn hm ho hr
    obtain ⟨B0, h1, h2⟩ := hs _ _ hn
    obtain ⟨B1, h3, h4⟩ := hs _ _ hm
    exact h.roapart _ _ _ _ _ h1 h3 ((Blk.le_own h2).trans ho) (Blk.le_reads h4 hr)

theorem Le.of {tm' : Tm} {M' : Mem} (h1 : subT tm tm') (h2 : subM M M') : Le X tm M tm' M' := fun _ _ h =>
  ⟨⟨h.T.size, fun t e ht => h.T.slot t e (subT_get h1 t e ht)⟩, h.d, h.S.weaken fun n B hn => subM_get h2 n B hn⟩

theorem exists_least (p : Nat → Prop) (h : ∃ n, p n) : ∃ n, p n ∧ ∀ m, p m → n ≤ m := by
  obtain ⟨n, hn⟩ := h
  induction n using Nat.strongRecOn with
  | _ n ih =>
    by_cases hs : ∃ m, m < n ∧ p m
    · obtain ⟨m, h1, h2⟩ := hs; exact ih m h1 h2
    · exact ⟨n, hn, fun m hm => Nat.le_of_not_lt fun hlt => hs ⟨m, hlt, hm⟩⟩
open Classical in
noncomputable def least (p : Nat → Prop) : Nat := if h : ∃ n, p n then Classical.choose (exists_least p h) else 0
theorem least_spec {p : Nat → Prop} (h : ∃ n, p n) : p (least p) ∧ ∀ m, p m → least p ≤ m := by
  unfold least
  rw [dif_pos h]
  exact Classical.choose_spec (exists_least p h)

/-- A LOOP, by an invariant over x : α. -/
theorem s_loop {α : Type} (inv : α → Prop) (tI : α → Tm) (mI : α → Mem) (μ : α → Nat) {c : Code} (x0 : α) (h0 : inv x0) (hle : Le X tm M (tI x0) (mI x0))
    (round : ∀ x, inv x → CodeS X c (tI x) (mI x) fun e tm' M' => match e with
      | .normal => ∃ x', inv x' ∧ μ x' < μ x ∧ Le X tm' M' (tI x') (mI x')
      | e => K e tm' M') : CodeS X (.loop c) tm M K := by
  intro a w Q ha hQ
  refine wp_loop (fun a w => ∃ x, inv x ∧ At X (tI x) (mI x) a w) (fun a w => least fun m => ∃ x, inv x ∧ At X (tI x) (mI x) a w ∧ m = μ x) ⟨x0, h0, hle a w ha⟩ ?_
  intro a w hI
  obtain ⟨x, hx, hA⟩ := hI
  obtain ⟨⟨y, hy, hyA, hym⟩, _⟩ := least_spec (p := fun m => ∃ x, inv x ∧ At X (tI x) (mI x) a w ∧ m = μ x) ⟨μ x, x, hx, hA, rfl⟩
  refine round y hy a w _ hyA fun e tm' M' a' w' hK hA' => ?_
  cases e with
  | normal =>
    obtain ⟨x', hx', hlt, hle'⟩ := hK
    have h1 := hle' a' w' hA'
    refine ⟨⟨x', hx', h1⟩, ?_⟩
    have h2 := (least_spec (p := fun m => ∃ x, inv x ∧ At X (tI x) (mI x) a' w' ∧ m = μ x) ⟨μ x', x', hx', h1, rfl⟩).2 (μ x') ⟨x', hx', h1, rfl⟩
    exact Nat.lt_of_le_of_lt h2 (by rw [hym]; exact hlt)
  | _ => exact hQ _ tm' M' a' w' hK hA'
end

/-! ### A region in the order of the text -/
def dstL (l : List Oper) (j : Nat) : Option Tmp := match nth l j with
  | some o => o.dst
  | none => none
theorem dstL_at {l : List Oper} : ∀ j d, dstL l j = some d → dstAt l.toArray j = some d := by
  intro j d h
  unfold dstL at h
  rw [nth_eq] at h
  unfold dstAt
  simp only [List.getElem?_toArray]
  cases hq : l[j]? with
  | none => rw [hq] at h; cases h
  | some o => rw [hq] at h; exact h

/-- the operations rest of the region l0, the first of them being number i -/
def OpsS (X : Cx) (l0 : List Oper) (i : Nat) (rest : List Oper) (tm : Tm) (M : Mem) (K : Tm → Mem → Prop) : Prop :=
  l0.drop i = rest → ∀ a w Q, At X tm M a w → (∀ tm' M' a' w', K tm' M' → At X tm' M' a' w' → Q .normal a' w') → wpOps X.P l0.toArray Q (List.range' i rest.length) a w

/-- what is done to a state by an operation that is not quiet -/
def EffS (X : Cx) (o : Oper) (tm : Tm) (M : Mem) (K : Tm → Mem → Prop) : Prop :=
  o.guard = none ∧ ∀ a w (next : Act → World → Prop) Q, At X tm M a w → (∀ tm' M' a' w', K tm' M' → At X tm' M' a' w' → next a' w') → o.wp X.P a w next Q

section
variable {X : Cx} {tm : Tm} {M : Mem}

theorem drop_succ {α : Type} {l : List α} {i : Nat} {x : α} {r : List α} (h : l.drop i = x :: r) : l[i]? = some x ∧ l.drop (i + 1) = r := by
  constructor
  · have := congrArg (fun l => l[0]?) h
    simpa using this
  · rw [← List.drop_drop, h]; rfl

theorem wpOps_step {P : Program} {l0 : List Oper} {i n : Nat} {o : Oper} {Q : Exit → Act → World → Prop} {a : Act} {w : World} (hi : l0[i]? = some o)
    (h : if Region.wanted o (yielded l0.toArray a.tmps) = true then o.wp P a w (wpOps P l0.toArray Q (List.range' (i + 1) n)) Q else wpOps P l0.toArray Q (List.range' (i + 1) n) (a.put o.dst undef) w) :
    wpOps P l0.toArray Q (List.range' i (n + 1)) a w := by
  rw [List.range'_succ, wpOps_cons]
  unfold wpOp
  simp only [List.getElem?_toArray, hi]
  split
  · rename_i hw; rw [if_pos hw] at h; exact .inl h
  · rename_i hw; rw [if_neg hw] at h; exact h

theorem o_nil {l0 : List Oper} {i : Nat} {K : Tm → Mem → Prop} (h : K tm M) : OpsS X l0 i [] tm M K := fun _ a w _ ha hQ => hQ tm M a w h ha

theorem At.put {a : Act} {w w' : World} (ha : At X tm M a w) (hb : Below w.heap.size w w') {d : Nat} (hd : d < X.N) {g : Option Bool} {av : AV} {v : Value} (hv : match g with | none => v = av.val | some g => v = if g then av.val else undef) : At X ((d, g, av) :: tm) M (a.put (some d) v) w' :=
  ⟨by
    have := ha.T.put hd (g := g) (av := av) hv
    refine ⟨this.size, fun t e h => this.slot t e ?_⟩
    rw [Tm.get_cons] at h
    exact h, ha.d, ha.S.below hb⟩

theorem opEval_dst {E : Env} {dst : Nat → Option Tmp} {N : Nat} {M : MemF} {tm : TmF} {o : Oper} {x : Option Bool × R} (h : opEval E dst N M tm o = some x) : ∃ d, o.dst = some d ∧ d < N := by
  unfold opEval at h
  split at h
  · cases h
  · split at h
    · cases h
    · rename_i d hd
      split at h
      · cases h
      · rename_i hlt; exact ⟨d, hd, blt_lt hlt⟩

theorem o_val {l0 : List Oper} {i : Nat} {o : Oper} {rest : List Oper} {K : Tm → Mem → Prop} {g : Option Bool} {c : Prop} {av : AV} {d : Nat} (hd : o.dst = some d) (h : opEval X.E (dstL l0) X.N M.get tm.get o = some (g, .val c av)) (hc : c)
    (hk : OpsS X l0 (i + 1) rest ((d, g, av) :: tm) M K) : OpsS X l0 i (o :: rest) tm M K := by
  intro hl a w Q ha hQ
  obtain ⟨h1, h2⟩ := drop_succ hl
  obtain ⟨d', hd', hlt⟩ := opEval_dst h
  rw [hd] at hd'
  cases hd'
  rw [List.length_cons]
  refine wpOps_step h1 (opEval_sound X.hb X.he X.hct dstL_at h hc ha.T ha.S fun b v w' hb' _ hv => ?_)
  rw [hd]
  exact hk h2 _ w' Q (ha.put hb' hlt hv) hQ

theorem o_new {l0 : List Oper} {i : Nat} {o : Oper} {rest : List Oper} {K : Tm → Mem → Prop} {c : Prop} {av : Nat → AV} {B : Nat → Blk} {d : Nat} (hd : o.dst = some d) (h : opEval X.E (dstL l0) X.N M.get tm.get o = some (none, .new c av B)) (hc : c)
    (hk : ∀ b, OpsS X l0 (i + 1) rest ((d, none, av b) :: tm) ((d, B b) :: M) K) : OpsS X l0 i (o :: rest) tm M K := by
  intro hl a w Q ha hQ
  obtain ⟨h1, h2⟩ := drop_succ hl
  obtain ⟨d', hd', hlt⟩ := opEval_dst h
  rw [hd] at hd'
  cases hd'
  rw [List.length_cons]
  refine wpOps_step h1 (opEval_sound X.hb X.he X.hct dstL_at h hc ha.T ha.S fun b v w' hb' hlaid hv => ?_)
  rw [hd]
  have hl := hlaid trivial
  obtain ⟨hl1, hl2, hl3⟩ := hl
  have hA := ha.put hb' hlt (g := none) (av := av b) hv
  refine hk b h2 _ w' Q ⟨hA.T, hA.d, ?_⟩ hQ
  have hn := ha.S.new (k := d) hb' hl1 X.hO hl2 hl3
  have e : Mem.get ((d, B b) :: M) = fun n => if d = n then some (B b) else M.get n := by
    funext n
    rw [Mem.get_cons]
  rw [e]
  exact hn

theorem o_eff {l0 : List Oper} {i : Nat} {o : Oper} {rest : List Oper} {K : Tm → Mem → Prop} (h : EffS X o tm M fun tm' M' => OpsS X l0 (i + 1) rest tm' M' K) : OpsS X l0 i (o :: rest) tm M K := by
  intro hl a w Q ha hQ
  obtain ⟨h1, h2⟩ := drop_succ hl
  rw [List.length_cons]
  refine wpOps_step h1 ?_
  have hw : Region.wanted o (yielded l0.toArray a.tmps) = true := by unfold Region.wanted; rw [h.1]
  rw [if_pos hw]
  exact h.2 a w _ Q ha fun tm' M' a' w' hK hA => hK h2 a' w' Q hA hQ

theorem s_region {id : Nat} {l0 : List Oper} {K : Exit → Tm → Mem → Prop} (h : OpsS X l0 0 l0 tm M fun tm M => K .normal tm M) : CodeS X (.region id l0.toArray false) tm M K := by
  intro a w Q ha hQ
  refine wp_region ?_
  have := h rfl a w Q ha fun tm' M' a' w' hK hA => hQ .normal tm' M' a' w' hK hA
  rw [List.size_toArray, List.range_eq_range']
  exact this
end

end Go.Proofs.YtofophjfgalhaaaGreatDoor.D
