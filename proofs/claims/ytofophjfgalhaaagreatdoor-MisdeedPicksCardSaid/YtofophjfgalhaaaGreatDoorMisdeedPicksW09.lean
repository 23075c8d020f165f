import Derived.Test.YtofophjfgalhaaaGreatDoorMisdeedPicksW08
import Derived.Defers
import Derived.Conc.MuLone
set_option linter.unusedVariables false
set_option linter.unusedSimpArgs false
/-! Calls that are deferred; the library's lock. -/
namespace Go.Proofs.YtofophjfgalhaaaGreatDoor.V
open Go Go.RowKit

def dfrOf (f : FuncId) (args : List AV) : Deferred := ⟨.fn (.func f) #[], (args.map AV.val).toArray⟩
section
variable {X : Cx} {tm : Tm} {M : Mem}
/-- a call that is deferred -/
theorem o_defer {l0 : List Oper} {i : Nat} {o : Oper} {rest : List Oper} {K : Tm → Mem → Prop} {f : FuncId} {xs : Array Operand} {tys : Array TypeId} {p : Prop} {l : List (Nat × AV)}
    (hd : o.dst = none) (ho : o.op = .defer { callee := .value (.func f), args := xs, argTypes := tys }) (hgd : o.guard = none) (hl : opds tm.get none (xs.toList.map fun x => (0, x)) = some (p, l)) (hp : p)
    (hk : OpsS X l0 (i + 1) rest tm ((777777, .dfr (dfrOf f (vals l) :: M.dfs)) :: M) K) : OpsS X l0 i (o :: rest) tm M K := by
  intro hl0 a w Q ha hQ
  obtain ⟨h1, h2⟩ := drop_succ hl0
  rw [List.length_cons]
  refine wpOps_step h1 ?_
  have hw : Region.wanted o (yielded l0.toArray a.tmps) = true := by unfold Region.wanted; rw [hgd]
  rw [if_pos hw]
  unfold Oper.wp
  have : (execOp a.eval o).run X.P w = .ok (.defer (dfrOf f (vals l))) w := by
    unfold execOp
    rw [ho]
    simp only [Sem.run_bind, resolve, Act.eval, Deferred.ofValue, args_eq ha.T (g := none) trivial hl hp, Sem.run_pure, Result.andThen_ok]
    simp [dfrOf]
  rw [this, Oper.upon_defer, hd]
  refine hk h2 _ w Q ⟨⟨ha.T.size, fun t e ht => ha.T.slot t e ht⟩, ?_, ?_⟩ hQ
  · show dfrOf f (vals l) :: a.defers = _
    rw [ha.d]; rfl
  · have hL : (Mem.get ((777777, Blk.dfr (dfrOf f (vals l) :: M.dfs)) :: M)) = updM (Mem.get [(777777, .dfr (dfrOf f (vals l) :: M.dfs))]) M.get := Mem.app_get [_] M
    rw [hL]
    exact ha.S.turn (Turn.new (Below.refl _ _) (B := .dfr (dfrOf f (vals l) :: M.dfs)) trivial (fun k hk => hk.elim) (fun k hk => hk)) X.hO

end
end Go.Proofs.YtofophjfgalhaaaGreatDoor.V
/-! The library's lock: Lock as a contract; Unlock, deferred. -/
namespace Go.Proofs.YtofophjfgalhaaaGreatDoor.V
open Go Go.RowKit

section
variable {P : Program} {O : Nat → Prop} {w0 w : World} {M : MemF}
/-- a store, and what it turns -/
theorem store_turn {t : TypeId} {r : TRow} (hr : RowOk P t r) (hS : Sat O w0 M w) {p : Pt} {av : AV} {q : Prop} {B : Blk} (hst : storeV M r p av = some (q, B)) (hok : q) :
    ∃ w', (storeVar t p.addr av.val).run P w = .ok () w' ∧ Turn M w w' (Mem.get [(p.n, B)]) := by
  unfold storeV at hst
  split at hst
  · rename_i hfit
    simp only [Bool.and_eq_true] at hfit
    obtain ⟨hsz, hfv⟩ := hfit
    have hsz := AV.isSize_eq hsz
    split at hst
    · rename_i b T es len f cap hM
      split at hst
      · rename_i q' e hE
        cases hst
        obtain ⟨⟨h1, h2, h3, h4⟩, h5⟩ := hok
        obtain ⟨w', r1, r2, r3, r4, r5, r6, r7⟩ := store_run hr (hS.holds _ _ hM) h1 h2 h3 h4 hE h5 hsz hfv
        exact ⟨w', r1, Turn.upd hM r2 r3 r4 r5.1 (by omega) (fun j _ hj => r6 j fun e => hj e.symm) r7 (fun k hk => .inr hk) fun k hk => hk⟩
      · cases hst
    · rename_i a' T es len f cap hM
      split at hst
      · rename_i q' e hE
        cases hst
        obtain ⟨⟨h1, h3, h4⟩, h5⟩ := hok
        obtain ⟨b, rfl, hrow⟩ := vrow_some (hS.holds _ _ hM) h4
        have e1 : p.b = b := congrArg Prod.fst h1
        have e2 : p.o0 = 0 := congrArg Prod.snd h1
        obtain ⟨w', r1, r2, r3, r4, r5, r6, r7⟩ := store_run hr hrow e1 e2 h3 h4 hE h5 hsz hfv
        exact ⟨w', r1, Turn.upd hM r2 r3 r4 r5.1 (by omega) (fun j _ hj => r6 j fun e => hj (by rw [e]; rfl)) r7 (fun k hk => .inr hk) fun k hk => hk⟩
      · cases hst
    · cases hst
  · cases hst

def rI32 : TRow := ⟨.int .i32, 1, 4, .v (.int .i32 0)⟩
theorem storeV_frozen (hS : Sat O w0 M w) {r : TRow} {p : Pt} {av : AV} {q : Prop} {B : Blk} (hst : storeV M r p av = some (q, B)) (hok : q) : w.frozen? p.addr = false := by
  unfold storeV at hst
  split at hst
  · split at hst
    · rename_i b T es len f cap hM
      split at hst
      · cases hst
        obtain ⟨⟨h1, h2, h3, h4⟩, h5⟩ := hok
        obtain ⟨c, hh, _⟩ := (hS.holds _ _ hM : RowHolds w b T es len f cap)
        simp [World.frozen?, Pt.addr, h1, hh]
      · cases hst
    · rename_i a' T es len f cap hM
      split at hst
      · cases hst
        obtain ⟨⟨h1, h3, h4⟩, h5⟩ := hok
        obtain ⟨b, rfl, hrow⟩ := vrow_some (hS.holds _ _ hM) h4
        obtain ⟨c, hh, _⟩ := hrow
        have e1 : p.b = b := congrArg Prod.fst h1
        simp [World.frozen?, Pt.addr, e1, hh]
      · cases hst
    · cases hst
  · cases hst
theorem storeVar_setCell {t : TypeId} {r : TRow} (hr : RowOk P t r) (h1 : r.size = 1) {a : Addr} {k : IntKind} {x : Int} {v0 : Value} (hc : w.cell? a = some v0) (hz : w.frozen? a = false) : (storeVar t a (.int k x)).run P w = .ok () (w.setCell a (.int k x)) := by
  unfold storeVar
  rw [Sem.run_bind, hr.run_sizeOf, Result.andThen_ok, h1]
  have h2 : ¬ (Value.int k x).cells.size ≠ 1 := by simp [Value.cells]
  rw [if_neg h2]
  show (storeCells a [.int k x]).run P w = _
  have hadd : a.add 0 = a := rfl
  have hst : (store (a.add 0) (.int k x)).run P w = .ok () (w.setCell a (.int k x)) := by
    rw [hadd, run_store P w a _ _ rfl, hc]
    simp [hz]
  simp only [storeCells, Sem.run_bind, hst, Result.andThen_ok]
  rfl

/-- the lock's word, turned -/
def wordV (M : MemF) (p : Pt) (x y : Int) : Option (Prop × Blk) := match ptrOf M p false 1, storeV M rI32 p (.v (.int .i32 y)) with
  | some (c, .v (.int .i32 z)), some (q, B) => some ((c ∧ z = x) ∧ q, B)
  | _, _ => none
theorem wordV_spec (hr : RowOk P 21 rI32) (hS : Sat O w0 M w) {p : Pt} {x y : Int} {q : Prop} {B : Blk} (h : wordV M p x y = some (q, B)) (hq : q) :
    w.cell? p.addr = some (.int .i32 x) ∧ w.frozen? p.addr = false ∧ Turn M w (w.setCell p.addr (.int .i32 y)) (Mem.get [(p.n, B)]) := by
  unfold wordV at h
  split at h
  · rename_i c z q' B' hp hst
    cases h
    obtain ⟨⟨hc, rfl⟩, hq⟩ := hq
    have h1 := (ptrOf_spec hS hp hc 0 Nat.zero_lt_one).2.2 0 Nat.zero_lt_one
    have hcell : w.cell? p.addr = some (.int .i32 z) := by
      unfold Pt.addr
      simpa using h1
    have hz := storeV_frozen hS hst hq
    obtain ⟨w', g1, g2⟩ := store_turn hr hS hst hq
    have g3 := storeVar_setCell (k := .i32) (x := y) hr rfl hcell hz
    have g1 : (storeVar 21 p.addr (.int .i32 y)).run P w = .ok () w' := g1
    rw [g3] at g1
    cases g1
    exact ⟨hcell, hz, g2⟩
  · cases h
end
def lockC (_tag : Nat) (args : List AV) (M : MemF) : Option Res := match args with
  | [.ptr p] => match wordV M p 0 1 with
    | some (q, B) => some ⟨Unit, q, fun _ => True, fun _ => .tup .nil, [p.n], fun _ => [B]⟩
    | none => none
  | _ => none
theorem lock_turn {P : Program} {L : Go.Conc.Locks.MuLink} (H : Go.Conc.Locks.MuLib P L) (hr : RowOk P 21 rI32) : TurnFn P L.lock lockC := by
  intro tag args M r h0 hok O w0 w hS
  unfold lockC at h0
  split at h0
  · rename_i p
    split at h0
    · rename_i q B hw
      cases h0
      obtain ⟨h1, h2, h3⟩ := wordV_spec hr hS hw hok
      exact (Go.MuLone.lock_free H p.addr w h1 h2).mono fun e w' ⟨he, hw'⟩ => ⟨(), trivial, he, by rw [hw']; exact h3⟩
    · cases h0
  · cases h0
/-- an Unlock that was deferred -/
theorem unlock_dfr {P : Program} {L : Go.Conc.Locks.MuLink} (H : Go.Conc.Locks.MuLib P L) (hr : RowOk P 21 rI32) {O : Nat → Prop} {w0 : World} {M : MemF} {p : Pt} {q : Prop} {B : Blk} (hw : wordV M p 1 0 = some (q, B)) (hq : q) :
    ∀ w, Sat O w0 M w → CallsD P L.unlock ([AV.ptr p].map AV.val).toArray .returning w fun e u' w' => u' = .returning ∧ (∃ v, e = .returned v) ∧ Turn M w w' (Mem.get [(p.n, B)]) := by
  intro w hS
  obtain ⟨h1, h2, h3⟩ := wordV_spec hr hS hw hq
  exact (Go.MuLone.unlock_deferred H p.addr .returning w h1 h2).mono fun e u' w' ⟨hu, he, hw'⟩ => ⟨hu, ⟨_, he⟩, by rw [hw']; exact h3⟩
end Go.Proofs.YtofophjfgalhaaaGreatDoor.V
/-! Functions that defer a call: their contracts. -/
namespace Go.Proofs.YtofophjfgalhaaaGreatDoor.V
open Go Go.RowKit

section
variable {P : Program} {B : Tabs P} {ct : CtL} {hct : CtLOk P ct} {cr : CrL} {hcr : CrLOk P cr} {f : FuncId} {fn : Func} {c : Code}
end
end Go.Proofs.YtofophjfgalhaaaGreatDoor.V
/-! Entries that stand for a whole thing: opened into its parts, closed again. -/
namespace Go.Proofs.YtofophjfgalhaaaGreatDoor.V
open Go Go.RowKit

/-- a piece of a heap -/
abbrev Frag := Nat → Option Obj
def Frag.on (H : Frag) (w : World) : Prop := ∀ k o, H k = some o → w.heap[k]? = some o
def frB (g : Gh) (S : Nat → Prop) (P : Frag → Prop) : Blk := .sep g S fun w => ∃ H : Frag, (∀ k, S k ↔ H k ≠ none) ∧ P H ∧ H.on w
section
variable {g : Gh} {S : Nat → Prop} {P : Frag → Prop} {w : World}
theorem frB_holds {H : Frag} (h1 : ∀ k, S k ↔ H k ≠ none) (h2 : P H) (h3 : H.on w) : (frB g S P).holds w := by
  refine ⟨fun k hk => ?_, fun w' hw => ⟨H, h1, h2, fun k o ho => ?_⟩⟩
  · cases ho : H k with
    | none => exact absurd ho ((h1 k).1 hk)
    | some o => exact heap_lt (h3 k o ho)
  · rw [hw k ((h1 k).2 (by rw [ho]; simp))]; exact h3 k o ho
theorem frB_open (h : (frB g S P).holds w) : ∃ H : Frag, (∀ k, S k ↔ H k ≠ none) ∧ P H ∧ H.on w := h.2 w fun _ _ => rfl
end

theorem memNat_iff : ∀ {l : List Nat} {n : Nat}, memNat l n = true ↔ n ∈ l
  | [], n => by simp [memNat]
  | k :: r, n => by
    constructor
    · exact memNat_mem
    · intro h
      unfold memNat
      rcases List.mem_cons.1 h with rfl | h
      · simp
      · split
        · rfl
        · exact memNat_iff.2 h
theorem hideM_get {ks : List Nat} : ∀ {M : Mem} {m : Nat} {B : Blk}, (hideM ks M).get m = some B → m ∉ ks ∧ M.get m = some B
  | [], m, B, h => by cases h
  | (k, e) :: r, m, B, h => by
    simp only [hideM] at h
    split at h
    · rename_i hk
      obtain ⟨h1, h2⟩ := hideM_get h
      have hne : k ≠ m := fun q => h1 (q ▸ memNat_iff.1 hk)
      refine ⟨h1, ?_⟩
      rw [Mem.get_cons, if_neg hne]
      exact h2
    · rename_i hk
      rw [Mem.get_cons] at h ⊢
      split at h
      · rename_i q
        subst q
        rw [if_pos rfl]
        exact ⟨fun hm => (by rw [memNat_iff.2 hm] at hk; cases hk), h⟩
      · rename_i q
        obtain ⟨h1, h2⟩ := hideM_get h
        rw [if_neg q]
        exact ⟨h1, h2⟩
theorem hideM_at {ks : List Nat} : ∀ {M : Mem} {m : Nat}, m ∉ ks → (hideM ks M).get m = M.get m
  | [], m, h => rfl
  | (k, e) :: r, m, h => by
    simp only [hideM]
    split
    · rename_i hk
      have hne : k ≠ m := fun q => h (q ▸ memNat_iff.1 hk)
      rw [Mem.get_cons, if_neg hne]
      exact hideM_at h
    · rw [Mem.get_cons, Mem.get_cons, hideM_at h]
theorem noDfr_mem : ∀ {ts : List Nat}, noDfr ts = true → 777777 ∉ ts
  | [], _, h => by cases h
  | t :: r, hd, h => by
    simp only [noDfr, Bool.and_eq_true, Bool.not_eq_true'] at hd
    rcases List.mem_cons.1 h with e | h
    · rw [← e] at hd; simp at hd
    · exact noDfr_mem hd.2 h
theorem hideM_dfs {ks : List Nat} {M : Mem} (h : noDfr ks = true) : (hideM ks M).dfs = M.dfs := by
  unfold Mem.dfs
  rw [hideM_at (noDfr_mem h)]

/-- the parts of a piece of a heap -/
structure Pieces (H : Frag) (Bs : List Blk) : Prop where
  holds : ∀ w, H.on w → ∀ B ∈ Bs, B.holds w
  own : ∀ B ∈ Bs, ∀ k, B.own k → H k ≠ none
  reads : ∀ B ∈ Bs, ∀ k, ¬ B.reads k
  apart : Bs.Pairwise fun B B' => ∀ k, B.own k → ¬ B'.own k
theorem pw_idx {α : Type _} {R : α → α → Prop} : ∀ {l : List α}, l.Pairwise R → ∀ {i j : Nat} {x y : α}, l[i]? = some x → l[j]? = some y → i < j → R x y
  | [], _, i, j, x, y, h, _, _ => by cases h
  | a :: l, hp, i, j, x, y, h, h', hij => by
    obtain ⟨j, rfl⟩ : ∃ m, j = m + 1 := ⟨j - 1, by omega⟩
    rw [List.getElem?_cons_succ] at h'
    rw [List.pairwise_cons] at hp
    cases i with
    | zero =>
      rw [List.getElem?_cons_zero] at h
      cases h
      exact hp.1 _ (List.mem_of_getElem? h')
    | succ i =>
      rw [List.getElem?_cons_succ] at h
      exact pw_idx hp.2 h h' (by omega)

theorem Sat.opened {O : Nat → Prop} {w0 w : World} {M : Mem} (h : Sat O w0 M.get w) {n : Nat} {g : Gh} {S : Nat → Prop} {P : Frag → Prop} (hM : M.get n = some (frB g S P)) {H : Frag} (h1 : ∀ k, S k ↔ H k ≠ none) (h3 : H.on w) {Bs : List Blk} (hp : Pieces H Bs) (ts : List Nat) :
    Sat O w0 (Mem.app (zipM ts Bs) (hideM [n] M)).get w := by
  rw [Mem.app_get]
  have new : ∀ {m : Nat} {B : Blk}, (zipM ts Bs).get m = some B → ∃ i : Nat, ts[i]? = some m ∧ Bs[i]? = some B := zipM_idx
  have old : ∀ {m : Nat} {B : Blk}, (hideM [n] M).get m = some B → m ≠ n ∧ M.get m = some B := fun hh => by
    obtain ⟨a, b⟩ := hideM_get hh
    exact ⟨fun e => a (by rw [e]; exact .head _), b⟩
  have inS : ∀ {B : Blk}, B ∈ Bs → ∀ k, B.own k → (frB g S P).own k := fun hB k hk => (h1 k).2 (hp.own _ hB k hk)
  have half : ∀ {m m' : Nat} {B B' : Blk} {k : Nat}, (zipM ts Bs).get m = some B → (hideM [n] M).get m' = some B' → B.own k → B'.own k → False := fun hm hm' ho ho' => by
    obtain ⟨i, _, hi⟩ := new hm
    obtain ⟨a, b⟩ := old hm'
    exact a (h.apart _ _ _ _ _ b hM ho' (inS (List.mem_of_getElem? hi) _ ho))
  refine ⟨h.keeps, ?_, ?_, ?_, ?_⟩
  · intro m B hm
    rcases updM_some hm with hm | ⟨_, hm⟩
    · obtain ⟨i, _, hi⟩ := new hm
      exact hp.holds w h3 B (List.mem_of_getElem? hi)
    · exact h.holds _ _ (old hm).2
  · intro m B k hm ho
    rcases updM_some hm with hm | ⟨_, hm⟩
    · obtain ⟨i, _, hi⟩ := new hm
      exact h.own _ _ _ hM (inS (List.mem_of_getElem? hi) _ ho)
    · exact h.own _ _ _ (old hm).2 ho
  · intro m m' B B' k hm hm' ho ho'
    rcases updM_some hm with hm | ⟨_, hm⟩ <;> rcases updM_some hm' with hm' | ⟨_, hm'⟩
    · obtain ⟨i, ti, hi⟩ := new hm
      obtain ⟨j, tj, hj⟩ := new hm'
      rcases Nat.lt_trichotomy i j with hlt | rfl | hlt
      · exact (pw_idx hp.apart hi hj hlt k ho ho').elim
      · rw [ti] at tj; exact Option.some.inj tj
      · exact (pw_idx hp.apart hj hi hlt k ho' ho).elim
    · exact (half hm hm' ho ho').elim
    · exact (half hm' hm ho' ho).elim
    · exact h.apart _ _ _ _ _ (old hm).2 (old hm').2 ho ho'
  · intro m m' B B' k hm hm' ho hr
    rcases updM_some hm' with hm' | ⟨_, hm'⟩
    · obtain ⟨j, _, hj⟩ := new hm'
      exact hp.reads _ (List.mem_of_getElem? hj) k hr
    · rcases updM_some hm with hm | ⟨_, hm⟩
      · obtain ⟨i, _, hi⟩ := new hm
        exact h.roapart _ _ _ _ _ hM (old hm').2 (inS (List.mem_of_getElem? hi) _ ho) hr
      · exact h.roapart _ _ _ _ _ (old hm).2 (old hm').2 ho hr

section
variable {X : Cx} {tm : Tm} {M : Mem} {K : Exit → Tm → Mem → Prop}
/-- an entry is opened into its parts -/
theorem s_open {c : Code} {n : Nat} {g : Gh} {S : Nat → Prop} {P : Frag → Prop} (ts : List Nat) (hM : M.get n = some (frB g S P)) (hd : noDfr (n :: ts) = true)
    (h : ∀ H : Frag, (∀ k, S k ↔ H k ≠ none) → P H → ∃ Bs, Pieces H Bs ∧ CodeS X c tm (Mem.app (zipM ts Bs) (hideM [n] M)) K) : CodeS X c tm M K := by
  intro a w Q ha hQ
  obtain ⟨H, h1, h2, h3⟩ := frB_open (ha.S.holds _ _ hM)
  obtain ⟨Bs, hp, hc⟩ := h H h1 h2
  have hd : (!(Nat.beq n 777777) && noDfr ts) = true := hd
  simp only [Bool.and_eq_true] at hd
  refine hc a w Q ⟨⟨ha.T.size, fun t e ht => ha.T.slot t e ht⟩, ?_, ha.S.opened hM h1 h3 hp ts⟩ hQ
  rw [app_dfs (zipM_dfr hd.2), hideM_dfs (by unfold noDfr; rw [hd.1]; rfl)]
  exact ha.d

def ownU (Bs : List Blk) (k : Nat) : Prop := ∃ B ∈ Bs, B.own k
open Classical in
noncomputable def restr (w : World) (S : Nat → Prop) : Frag := fun k => if S k then w.heap[k]? else none
theorem restr_at {w : World} {S : Nat → Prop} {k : Nat} (h : S k) : restr w S k = w.heap[k]? := by unfold restr; rw [if_pos h]
theorem restr_no {w : World} {S : Nat → Prop} {k : Nat} (h : ¬ S k) : restr w S k = none := by unfold restr; rw [if_neg h]
theorem restr_on (w : World) (S : Nat → Prop) : (restr w S).on w := by
  intro k o h
  unfold restr at h
  split at h
  · exact h
  · cases h
theorem restr_dom {w : World} {S : Nat → Prop} (h : ∀ k, S k → k < w.heap.size) (k : Nat) : S k ↔ restr w S k ≠ none := by
  constructor
  · intro hk
    rw [restr_at hk, Array.getElem?_eq_getElem (h k hk)]; simp
  · intro hk
    apply Classical.byContradiction
    intro hn
    exact hk (restr_no hn)

/-- parts are closed into one entry -/
theorem le_close {n : Nat} (g : Gh) (P : Frag → Prop) (ts : List Nat) (Bs : List Blk) (hd : noDfr (n :: ts) = true) (hnd : ts.Nodup) (ho : outsOk M ts Bs)
    (hP : ∀ w, (∀ B ∈ Bs, B.holds w) → (Bs.Pairwise fun B B' => ∀ k, B.own k → ¬ B'.own k) → P (restr w (ownU Bs))) :
    Le X tm M tm ((n, frB g (ownU Bs) P) :: hideM (n :: ts) M) := by
  intro a w ha
  obtain ⟨hl, hi⟩ := outsOk_at ho
  have hB : ∀ B ∈ Bs, B.holds w ∧ (∀ k, ¬ B.reads k) ∧ ∃ t B', t ∈ ts ∧ M.get t = some B' ∧ ∀ k, B.own k → B'.own k := by
    intro B hB
    obtain ⟨i, hi2⟩ := List.getElem?_of_mem hB
    obtain ⟨t, B', e1, e2, e3, e4⟩ := hi i B hi2
    exact ⟨e3.2.2 w (ha.S.holds _ _ e2), e4, t, B', List.mem_of_getElem? e1, e2, e3.1⟩
  have hap : Bs.Pairwise fun B B' => ∀ k, B.own k → ¬ B'.own k := by
    rw [List.pairwise_iff_getElem]
    intro i j hi1 hj1 hij k ho1 ho2
    obtain ⟨t, B', e1, e2, e3, _⟩ := hi i _ (List.getElem?_eq_getElem hi1)
    obtain ⟨u, C', f1, f2, f3, _⟩ := hi j _ (List.getElem?_eq_getElem hj1)
    have := ha.S.apart _ _ _ _ _ e2 f2 (e3.1 _ ho1) (f3.1 _ ho2)
    subst this
    have : i = j := (List.getElem?_inj (List.getElem?_eq_some_iff.1 e1).1 hnd).1 (e1.trans f1.symm)
    omega
  have hlt : ∀ k, ownU Bs k → k < w.heap.size := fun k ⟨B, h1, h2⟩ => Blk.own_lt (hB B h1).1 h2
  have hd1 : noDfr (n :: ts) = true := hd
  have hdn : (!(Nat.beq n 777777) && noDfr ts) = true := hd
  simp only [Bool.and_eq_true, Bool.not_eq_true'] at hdn
  have hn7 : n ≠ 777777 := fun e => by rw [e] at hdn; simp at hdn
  refine ⟨⟨ha.T.size, fun t e ht => ha.T.slot t e ht⟩, ?_, ?_⟩
  · rw [ha.d]
    have : Mem.dfs ((n, frB g (ownU Bs) P) :: hideM (n :: ts) M) = Mem.dfs (hideM (n :: ts) M) := by
      unfold Mem.dfs
      rw [Mem.get_cons, if_neg hn7]
    rw [this, hideM_dfs hd1]
  · have get : ∀ {m : Nat} {B : Blk}, Mem.get ((n, frB g (ownU Bs) P) :: hideM (n :: ts) M) m = some B → (m = n ∧ B = frB g (ownU Bs) P) ∨ (m ≠ n ∧ m ∉ ts ∧ M.get m = some B) := by
      intro m B h
      rw [Mem.get_cons] at h
      split at h
      · rename_i e; exact .inl ⟨e.symm, (Option.some.inj h).symm⟩
      · obtain ⟨h1, h2⟩ := hideM_get h
        exact .inr ⟨fun e => h1 (e ▸ .head _), fun e => h1 (.tail _ e), h2⟩
    have half : ∀ {m : Nat} {B : Blk} {k : Nat}, m ∉ ts → M.get m = some B → B.own k → ownU Bs k → False := by
      intro m B k h1 h2 h3 ⟨C, h4, h5⟩
      obtain ⟨_, _, t, C', e1, e2, e3⟩ := hB C h4
      exact h1 (ha.S.apart _ _ _ _ _ h2 e2 h3 (e3 _ h5) ▸ e1)
    refine ⟨ha.S.keeps, ?_, ?_, ?_, ?_⟩
    · intro m B h
      rcases get h with ⟨rfl, rfl⟩ | ⟨_, _, h⟩
      · exact frB_holds (restr_dom hlt) (hP w (fun B h => (hB B h).1) hap) (restr_on _ _)
      · exact ha.S.holds _ _ h
    · intro m B k h h2
      rcases get h with ⟨rfl, rfl⟩ | ⟨_, _, h⟩
      · obtain ⟨C, h4, h5⟩ := (show ownU Bs k from h2)
        obtain ⟨_, _, t, C', e1, e2, e3⟩ := hB C h4
        exact ha.S.own _ _ _ e2 (e3 _ h5)
      · exact ha.S.own _ _ _ h h2
    · intro m m' B B' k h h' o o'
      rcases get h with ⟨e1, e2⟩ | ⟨n1, n2, g1⟩ <;> rcases get h' with ⟨e3, e4⟩ | ⟨n1', n2', g2⟩
      · rw [e1, e3]
      · rw [e2] at o; exact (half n2' g2 o' o).elim
      · rw [e4] at o'; exact (half n2 g1 o o').elim
      · exact ha.S.apart _ _ _ _ _ g1 g2 o o'
    · intro m m' B B' k h h' o hr
      rcases get h' with ⟨e3, e4⟩ | ⟨n1', n2', g2⟩
      · rw [e4] at hr; cases hr
      · rcases get h with ⟨e1, e2⟩ | ⟨n1, n2, g1⟩
        · rw [e2] at o
          obtain ⟨C, h4, h5⟩ := (show ownU Bs k from o)
          obtain ⟨_, _, t, C', e1, e2, e3⟩ := hB C h4
          exact ha.S.roapart _ _ _ _ _ e2 g2 (e3 _ h5) hr
        · exact ha.S.roapart _ _ _ _ _ g1 g2 o hr
end
end Go.Proofs.YtofophjfgalhaaaGreatDoor.V
/-! Maps whose entries are not written out: looked up, set, by what is known of the search. -/
namespace Go.Proofs.YtofophjfgalhaaaGreatDoor.V
open Go Go.RowKit

/-- nothing is deferred, before and behind -/
theorem dfs_nil {M M' : Mem} (h' : M'.dfs = []) (h : M.dfs = []) : M'.dfs = M.dfs := h'.trans h.symm

/-- a map behind an entry's setting -/
def putMp (R : Option (Nat × AV)) (b : Nat) (l : List (AV × AV × Nat)) (clk : Nat) (K X : AV) : Blk := match R with
  | none => .mp true b (l ++ [(K, X, clk)]) (clk + 1)
  | some p => .mp true b (mset l p.1 K X) clk
section
variable {E : Env} {dst : Nat → Option Tmp} {N : Nat} {M : MemF} {tm : TmF} {o : Oper}
theorem opEval_look {d : Nat} {xt : TypeId} {x ix : Operand} {ok : Bool} {n b : Nat} {K : AV} {r rk re : TRow} {kt e : TypeId} {mine : Bool} {l : List (AV × AV × Nat)} {clk : Nat} {R : Option (Nat × AV)} (hd : o.dst = some d) (hlt : Nat.blt d N = true) (ho : o.op = .lookup xt x ix ok) (hg : o.guard = none)
    (hx : opd tm x = some (none, .mp n b)) (hi : opd tm ix = some (none, K)) (hr : E.tb.get xt = some r) (hrd : r.d = .map kt e) (hrk : E.tb.get kt = some rk) (hre : E.tb.get e = some re) (hkk : (keyTop rk.d && keyT E.tb 64 kt K) = true) (hM : M n = some (.mp mine b l clk)) (hf : mfind E.tb E.eqs kt K l 0 = some R) :
    opEval E dst N M tm o = some (none, ⟨Unit, (need none none ∧ need none none) ∧ imp none (b = b), fun _ => True, fun _ => lookV ok (pickZ R re.zero) R.isSome, [], fun _ => []⟩) := by
  have h : xeval E M tm none d o.op = some ⟨Unit, (need none none ∧ need none none) ∧ imp none (b = b), fun _ => True, fun _ => lookV ok (pickZ R re.zero) R.isSome, [], fun _ => []⟩ := by
    rw [ho]
    simp only [xeval, evLookup, hx, hi, hr, hrd, hrk, hre, hkk, hM, hf]
    cases R with
    | none => rfl
    | some p => rfl
  unfold opEval
  simp only [hd, hlt]
  unfold opEvalT
  simp only [hg, guardOf, h]
theorem opEval_mset {t : TypeId} {m k x : Operand} {n b : Nat} {K X : AV} {r rk : TRow} {kt e : TypeId} {l : List (AV × AV × Nat)} {clk : Nat} {R : Option (Nat × AV)} (hd : o.dst = none) (ho : o.op = .mapUpdate t m k x) (hg : o.guard = none)
    (hm : opd tm m = some (none, .mp n b)) (hk : opd tm k = some (none, K)) (hx : opd tm x = some (none, X)) (hr : E.tb.get t = some r) (hrd : r.d = .map kt e) (hrk : E.tb.get kt = some rk) (hkk : (keyTop rk.d && keyT E.tb 64 kt K) = true) (hM : M n = some (.mp true b l clk)) (hf : mfind E.tb E.eqs kt K l 0 = some R) :
    opEval E dst N M tm o = some (none, ⟨Unit, b = b, fun _ => True, fun _ => .v undef, [n], fun _ => [putMp R b l clk K X]⟩) := by
  have h : xeval E M tm none 40000 o.op = some ⟨Unit, b = b, fun _ => True, fun _ => .v undef, [n], fun _ => [putMp R b l clk K X]⟩ := by
    rw [ho]
    simp only [xeval, evMapUpd, hm, hk, hx, hr, hrd, hrk, hkk, hM, mputV, hf]
    cases R with
    | none => rfl
    | some p => rfl
  unfold opEval
  simp only [hd]
  unfold opEvalT
  simp only [hg, guardOf, h]
end

section
variable {X : Cx} {tm : Tm} {M : Mem}
/-- a weaker state, within a region -/
theorem o_le {l0 : List Oper} {i : Nat} {rest : List Oper} {K : Tm → Mem → Prop} {tm' : Tm} {M' : Mem} (hl : Le X tm M tm' M') (h : OpsS X l0 i rest tm' M' K) : OpsS X l0 i rest tm M K := fun h0 a w Q ha hQ => h h0 a w Q (hl a w ha) hQ
/-- a search in a map, by what is known of it -/
theorem o_look {l0 : List Oper} {i : Nat} {o : Oper} {rest : List Oper} {K0 : Tm → Mem → Prop} {d : Nat} {xt : TypeId} {x ix : Operand} {ok : Bool} {n b : Nat} {K : AV} {r rk re : TRow} {kt e : TypeId} {mine : Bool} {l : List (AV × AV × Nat)} {clk : Nat} (R : Option (Nat × AV)) (hd : o.dst = some d) (hlt : Nat.blt d X.N = true) (ho : o.op = .lookup xt x ix ok) (hg : o.guard = none)
    (hx : opd tm.get x = some (none, .mp n b)) (hi : opd tm.get ix = some (none, K)) (hr : X.E.tb.get xt = some r) (hrd : r.d = .map kt e) (hrk : X.E.tb.get kt = some rk) (hre : X.E.tb.get e = some re) (hkk : (keyTop rk.d && keyT X.E.tb 64 kt K) = true) (hM : M.get n = some (.mp mine b l clk)) (hf : mfind X.E.tb X.E.eqs kt K l 0 = some R)
    (hk : OpsS X l0 (i + 1) rest ((d, none, lookV ok (pickZ R re.zero) R.isSome) :: tm) M K0) : OpsS X l0 i (o :: rest) tm M K0 :=
  o_val hd (opEval_look hd hlt ho hg hx hi hr hrd hrk hre hkk hM hf) trivial ⟨⟨trivial, trivial⟩, rfl⟩ hk
theorem o_mset {l0 : List Oper} {i : Nat} {o : Oper} {rest : List Oper} {K0 : Tm → Mem → Prop} {t : TypeId} {m k x : Operand} {n b : Nat} {K Y : AV} {r rk : TRow} {kt e : TypeId} {l : List (AV × AV × Nat)} {clk : Nat} (R : Option (Nat × AV)) (hd : o.dst = none) (ho : o.op = .mapUpdate t m k x) (hg : o.guard = none)
    (hm : opd tm.get m = some (none, .mp n b)) (hk : opd tm.get k = some (none, K)) (hx : opd tm.get x = some (none, Y)) (hr : X.E.tb.get t = some r) (hrd : r.d = .map kt e) (hrk : X.E.tb.get kt = some rk) (hkk : (keyTop rk.d && keyT X.E.tb 64 kt K) = true) (hM : M.get n = some (.mp true b l clk)) (hf : mfind X.E.tb X.E.eqs kt K l 0 = some R) (hnd : noDfr [n] = true)
    (hc : OpsS X l0 (i + 1) rest tm ((n, putMp R b l clk K Y) :: M) K0) : OpsS X l0 i (o :: rest) tm M K0 :=
  o_res (β := Unit) (ok := b = b) (can := fun _ => True) (out := fun _ => .v undef) (tags := [n]) (mem := fun _ => [putMp R b l clk K Y]) (opEval_mset hd ho hg hm hk hx hr hrd hrk hkk hM hf) rfl ⟨(), trivial⟩ hnd fun _ _ => by rw [hd]; exact hc

variable {G : Rg}
theorem d_look {K0 : Acc → Prop} {T0 : TmF} {M0 : MemF} {i : Nat} {o : Oper} {rest : List Oper} {ds : List Nat} {acc : Acc} {d : Nat} {mk : Nat} {xt : TypeId} {x ix : Operand} {ok : Bool} {n b : Nat} {K : AV} {r rk re : TRow} {kt e : TypeId} {mine : Bool} {l : List (AV × AV × Nat)} {clk : Nat} (R : Option (Nat × AV)) (hmk : nth G.masks i = some mk) (hd : o.dst = some d) (hlt : Nat.blt d X.N = true) (ho : o.op = .lookup xt x ix ok) (hg : o.guard = none)
    (hx : opd (viewP G i mk acc.get T0) x = some (none, .mp n b)) (hi : opd (viewP G i mk acc.get T0) ix = some (none, K)) (hr : X.E.tb.get xt = some r) (hrd : r.d = .map kt e) (hrk : X.E.tb.get kt = some rk) (hre : X.E.tb.get e = some re) (hkk : (keyTop rk.d && keyT X.E.tb 64 kt K) = true) (hM : mviewJ G i mk acc.get M0 n = some (.mp mine b l clk)) (hf : mfind X.E.tb X.E.eqs kt K l 0 = some R)
    (hk : okI X G T0 M0 K0 ds rest ((i, some d, (none, lookV ok (pickZ R re.zero) R.isSome), []) :: acc)) : okI X G T0 M0 K0 (i :: ds) (o :: rest) acc :=
  d_val (ok := (need none none ∧ need none none) ∧ imp none (b = b)) (can := fun _ => True) (av := lookV ok (pickZ R re.zero) R.isSome) (mem := fun _ => []) hd (by unfold evalAt; rw [hmk]; exact opEval_look hd hlt ho hg hx hi hr hrd hrk hre hkk hM hf) trivial ⟨⟨trivial, trivial⟩, rfl⟩ hk
theorem d_mset {K0 : Acc → Prop} {T0 : TmF} {M0 : MemF} {i : Nat} {o : Oper} {rest : List Oper} {ds : List Nat} {acc : Acc} {mk : Nat} {t : TypeId} {m k x : Operand} {n b : Nat} {K Y : AV} {r rk : TRow} {kt e : TypeId} {l : List (AV × AV × Nat)} {clk : Nat} (R : Option (Nat × AV)) (hmk : nth G.masks i = some mk) (hd : o.dst = none) (ho : o.op = .mapUpdate t m k x) (hg : o.guard = none)
    (hm : opd (viewP G i mk acc.get T0) m = some (none, .mp n b)) (hk : opd (viewP G i mk acc.get T0) k = some (none, K)) (hx : opd (viewP G i mk acc.get T0) x = some (none, Y)) (hr : X.E.tb.get t = some r) (hrd : r.d = .map kt e) (hrk : X.E.tb.get kt = some rk) (hkk : (keyTop rk.d && keyT X.E.tb 64 kt K) = true) (hM : mviewJ G i mk acc.get M0 n = some (.mp true b l clk)) (hf : mfind X.E.tb X.E.eqs kt K l 0 = some R) (ht : tagsOk G i [n] = true)
    (hc : okI X G T0 M0 K0 ds rest ((i, none, (none, .v undef), [(n, putMp R b l clk K Y)]) :: acc)) : okI X G T0 M0 K0 (i :: ds) (o :: rest) acc :=
  d_put (ok := b = b) (can := fun _ => True) (av := .v undef) hd (by unfold evalAt; rw [hmk]; exact opEval_mset hd ho hg hm hk hx hr hrd hrk hkk hM hf) ht trivial rfl hc
end
end Go.Proofs.YtofophjfgalhaaaGreatDoor.V
/-! Rows and maps of a piece of a heap; its parts and the rest. -/
namespace Go.Proofs.YtofophjfgalhaaaGreatDoor.V
open Go Go.RowKit

def FRow (H : Frag) (b : Nat) (T : TypeId) (es len : Nat) (f : Nat → AV) (cap : Nat) : Prop :=
  ∃ c, H b = some (.cells c T (0, 0)) ∧ c.size = cap * es ∧ len ≤ cap ∧ ∀ i, i < len → (f i).size = es ∧ (f i).one = true ∧ ∀ k, k < es → c[i * es + k]? = (f i).cells[k]?
def FMap (H : Frag) (b : Nat) (l : List (AV × AV × Nat)) (clk : Nat) : Prop :=
  ∃ es, H b = some (.map es clk) ∧ MapKept.Stamped es clk ∧ (es.toList.map fun e => (e.key, e.val, e.born)) = l.map fun p => (p.1.val, p.2.1.val, p.2.2)
section
variable {H H' : Frag} {b : Nat} {T : TypeId} {es len cap : Nat} {f : Nat → AV} {l : List (AV × AV × Nat)} {clk : Nat} {w : World} {S : Nat → Prop}
theorem FRow.on (h : FRow H b T es len f cap) (hw : H.on w) : RowHolds w b T es len f cap := by
  obtain ⟨c, h1, h2⟩ := h
  exact ⟨c, hw _ _ h1, h2⟩
theorem FMap.on (h : FMap H b l clk) (hw : H.on w) : (Blk.mp true b l clk).holds w := by
  obtain ⟨c, h1, h2⟩ := h
  exact ⟨c, hw _ _ h1, h2⟩
theorem FRow.of (h : RowHolds w b T es len f cap) (hb : S b) : FRow (restr w S) b T es len f cap := by
  obtain ⟨c, h1, h2⟩ := h
  exact ⟨c, by rw [restr_at hb]; exact h1, h2⟩
theorem FMap.of {mine : Bool} (h : (Blk.mp mine b l clk).holds w) (hb : S b) : FMap (restr w S) b l clk := by
  obtain ⟨c, h1, h2⟩ := h
  exact ⟨c, by rw [restr_at hb]; exact h1, h2⟩
theorem FRow.same (h : FRow H b T es len f cap) (e : H' b = H b) : FRow H' b T es len f cap := by
  obtain ⟨c, h1, h2⟩ := h
  exact ⟨c, e.trans h1, h2⟩
theorem FMap.same (h : FMap H b l clk) (e : H' b = H b) : FMap H' b l clk := by
  obtain ⟨c, h1, h2⟩ := h
  exact ⟨c, e.trans h1, h2⟩
theorem FRow.ne (h : FRow H b T es len f cap) : H b ≠ none := by
  obtain ⟨c, h1, _⟩ := h
  rw [h1]; simp
theorem FMap.ne (h : FMap H b l clk) : H b ≠ none := by
  obtain ⟨c, h1, _⟩ := h
  rw [h1]; simp
theorem FRow.weaken {len' : Nat} {f' : Nat → AV} (h : FRow H b T es len f cap) (hl : len' ≤ len) (hf : ∀ i, i < len' → f' i = f i) : FRow H b T es len' f' cap := by
  obtain ⟨c, h1, h2, h3, h4⟩ := h
  exact ⟨c, h1, h2, Nat.le_trans hl h3, fun i hi => by rw [hf i hi]; exact h4 i (Nat.lt_of_lt_of_le hi hl)⟩
theorem FMap.vals {l' : List (AV × AV × Nat)} (h : FMap H b l clk) (e : l'.map trip = l.map trip) : FMap H b l' clk := by
  obtain ⟨c, h1, h2, h3⟩ := h
  exact ⟨c, h1, h2, h3.trans (show l.map trip = l'.map trip from e.symm)⟩
end

/-- what is left -/
def restB (H : Frag) (ks : List Nat) : Blk := .sep .none (fun k => H k ≠ none ∧ k ∉ ks) fun w => ∀ k, k ∉ ks → H k ≠ none → w.heap[k]? = H k
theorem restB_holds {H : Frag} {ks : List Nat} {w : World} (h : H.on w) : (restB H ks).holds w := by
  have key : ∀ k, H k ≠ none → w.heap[k]? = H k := fun k hk => by
    cases ho : H k with
    | none => exact absurd ho hk
    | some o => exact h k o ho
  refine ⟨fun k ⟨h1, _⟩ => ?_, fun w' hw k hk h1 => ?_⟩
  · cases ho : H k with
    | none => exact absurd ho h1
    | some o => exact heap_lt (h k o ho)
  · rw [hw k ⟨h1, hk⟩]; exact key k h1
theorem restB_at {H : Frag} {ks : List Nat} {w : World} (h : (restB H ks).holds w) {k : Nat} (hk : k ∉ ks) (h1 : H k ≠ none) : w.heap[k]? = H k := h.2 w (fun _ _ => rfl) k hk h1

structure One (H : Frag) (k : Nat) (B : Blk) : Prop where
  holds : ∀ w, H.on w → B.holds w
  own : ∀ j, B.own j → j = k
  reads : ∀ j, ¬ B.reads j
  ne : H k ≠ none
def Ones (H : Frag) : List Nat → List Blk → Prop
  | [], [] => True
  | k :: ks, B :: Bs => One H k B ∧ Ones H ks Bs
  | _, _ => False
theorem Ones.mem {H : Frag} : ∀ {ks : List Nat} {Bs : List Blk}, Ones H ks Bs → ∀ B ∈ Bs, ∃ k ∈ ks, One H k B
  | [], [], _, B, h => by cases h
  | [], _ :: _, h, _, _ => h.elim
  | _ :: _, [], h, _, _ => h.elim
  | k :: ks, B' :: Bs, h, B, hB => by
    rcases List.mem_cons.1 hB with rfl | hB
    · exact ⟨k, .head _, h.1⟩
    · obtain ⟨j, hj, h1⟩ := h.2.mem B hB
      exact ⟨j, .tail _ hj, h1⟩
theorem Ones.apart {H : Frag} : ∀ {ks : List Nat} {Bs : List Blk}, Ones H ks Bs → ks.Nodup → Bs.Pairwise fun B B' => ∀ k, B.own k → ¬ B'.own k
  | [], [], _, _ => .nil
  | [], _ :: _, h, _ => h.elim
  | _ :: _, [], h, _ => h.elim
  | k :: ks, B' :: Bs, h, hn => by
    rw [List.nodup_cons] at hn
    refine List.pairwise_cons.2 ⟨fun B hB j h1 h2 => ?_, h.2.apart hn.2⟩
    obtain ⟨i, hi, h3⟩ := h.2.mem B hB
    have e1 := h.1.own j h1
    have e2 := h3.own j h2
    exact hn.1 (e1 ▸ e2 ▸ hi)
theorem pieces_of {H : Frag} {ks : List Nat} {Bs : List Blk} (h : Ones H ks Bs) (hn : ks.Nodup) : Pieces H (Bs ++ [restB H ks]) := by
  have hr : ∀ B ∈ Bs ++ [restB H ks], B ∈ Bs ∨ B = restB H ks := fun B hB => by
    rcases List.mem_append.1 hB with h | h
    · exact .inl h
    · exact .inr (by simpa using h)
  refine ⟨fun w hw B hB => ?_, fun B hB k hk => ?_, fun B hB k => ?_, ?_⟩
  · rcases hr B hB with h1 | rfl
    · obtain ⟨_, _, h2⟩ := h.mem B h1
      exact h2.holds w hw
    · exact restB_holds hw
  · rcases hr B hB with h1 | rfl
    · obtain ⟨j, _, h2⟩ := h.mem B h1
      rw [h2.own k hk]; exact h2.ne
    · exact hk.1
  · rcases hr B hB with h1 | rfl
    · obtain ⟨_, _, h2⟩ := h.mem B h1
      exact h2.reads k
    · exact fun h => h
  · refine List.pairwise_append.2 ⟨h.apart hn, List.pairwise_singleton _ _, fun B hB B' hB' k h1 h2 => ?_⟩
    have : B' = restB H ks := by simpa using hB'
    subst this
    obtain ⟨j, hj, h3⟩ := h.mem B hB
    exact h2.2 (h3.own k h1 ▸ hj)
theorem one_row {H : Frag} {b : Nat} {T : TypeId} {es len cap : Nat} {f : Nat → AV} (h : FRow H b T es len f cap) : One H b (.row b T es len f cap) := ⟨fun w hw => h.on hw, fun j hj => hj.symm, fun j hj => hj, h.ne⟩
theorem one_vrow {H : Frag} {b : Nat} {T : TypeId} {es len cap : Nat} {f : Nat → AV} (h : FRow H b T es len f cap) : One H b (.vrow (some b) T es len f cap) := ⟨fun w hw => h.on hw, fun j hj => (Option.some.inj hj).symm, fun j hj => hj, h.ne⟩
theorem one_map {H : Frag} {b : Nat} {l : List (AV × AV × Nat)} {clk : Nat} (h : FMap H b l clk) : One H b (.mp true b l clk) := ⟨fun w hw => h.on hw, fun j hj => hj.symm, fun j hj => hj, h.ne⟩

/-! ### closed again -/
theorem closed_same {H : Frag} {ks : List Nat} {Bs : List Blk} {w : World} (hr : restB H ks ∈ Bs) (hh : ∀ B ∈ Bs, B.holds w) {k : Nat} (hk : k ∉ ks) (h1 : H k ≠ none) : restr w (ownU Bs) k = H k := by
  rw [restr_at ⟨_, hr, h1, hk⟩]
  exact restB_at (hh _ hr) hk h1
theorem closed_row {Bs : List Blk} {w : World} {b : Nat} {T : TypeId} {es len cap : Nat} {f : Nat → AV} (hr : .row b T es len f cap ∈ Bs) (hh : ∀ B ∈ Bs, B.holds w) : FRow (restr w (ownU Bs)) b T es len f cap := FRow.of (hh _ hr) ⟨_, hr, rfl⟩
theorem closed_vrow {Bs : List Blk} {w : World} {b : Nat} {T : TypeId} {es len cap : Nat} {f : Nat → AV} (hr : .vrow (some b) T es len f cap ∈ Bs) (hh : ∀ B ∈ Bs, B.holds w) : FRow (restr w (ownU Bs)) b T es len f cap := FRow.of (hh _ hr) ⟨_, hr, rfl⟩
theorem closed_map {Bs : List Blk} {w : World} {b : Nat} {l : List (AV × AV × Nat)} {clk : Nat} (hr : .mp true b l clk ∈ Bs) (hh : ∀ B ∈ Bs, B.holds w) : FMap (restr w (ownU Bs)) b l clk := FMap.of (hh _ hr) ⟨_, hr, rfl⟩
end Go.Proofs.YtofophjfgalhaaaGreatDoor.V
/-! A slot's value under another name; an entry of nothing. -/
namespace Go.Proofs.YtofophjfgalhaaaGreatDoor.V
open Go Go.RowKit

section
variable {X : Cx} {tm : Tm} {M : Mem}
/-- a slot's value, otherwise said -/
theorem le_val {t : Nat} {av av' : AV} (h : tm.get t = some (none, av)) (hv : av'.val = av.val) : Le X tm M ((t, none, av') :: tm) M := by
  intro a w ha
  refine ⟨⟨ha.T.size, fun u e hu => ?_⟩, ha.d, ha.S⟩
  rw [Tm.get_cons] at hu
  split at hu
  · rename_i q
    cases hu
    have h2 : t < a.tmps.size ∧ a.tmps.getD t undef = av.val := ha.T.slot t _ h
    subst q
    exact ⟨h2.1, h2.2.trans hv.symm⟩
  · exact ha.T.slot u e hu
/-- an entry of nothing -/
theorem le_lay {n : Nat} {B : Blk} (hn : Nat.beq n 777777 = false) (ho : ∀ k, ¬ B.own k) (hr : ∀ k, ¬ B.reads k) (hh : ∀ w : World, B.holds w) : Le X tm M tm ((n, B) :: M) := by
  intro a w ha
  have get : ∀ {m : Nat} {C : Blk}, Mem.get ((n, B) :: M) m = some C → (m = n ∧ C = B) ∨ M.get m = some C := by
    intro m C h
    rw [Mem.get_cons] at h
    split at h
    · rename_i q; exact .inl ⟨q.symm, (Option.some.inj h).symm⟩
    · exact .inr h
  refine ⟨⟨ha.T.size, fun t e ht => ha.T.slot t e ht⟩, ?_, ⟨ha.S.keeps, ?_, ?_, ?_, ?_⟩⟩
  · rw [ha.d]
    unfold Mem.dfs
    rw [Mem.get_cons, if_neg (fun e => by rw [e] at hn; simp at hn)]
  · intro m C h
    rcases get h with ⟨_, rfl⟩ | h
    · exact hh w
    · exact ha.S.holds _ _ h
  · intro m C k h h2
    rcases get h with ⟨_, rfl⟩ | h
    · exact (ho k h2).elim
    · exact ha.S.own _ _ _ h h2
  · intro m m' C C' k h h' o o'
    rcases get h with ⟨_, rfl⟩ | h
    · exact (ho k o).elim
    · rcases get h' with ⟨_, rfl⟩ | h'
      · exact (ho k o').elim
      · exact ha.S.apart _ _ _ _ _ h h' o o'
  · intro m m' C C' k h h' o o'
    rcases get h' with ⟨_, rfl⟩ | h'
    · exact (hr k o').elim
    · rcases get h with ⟨_, rfl⟩ | h
      · exact (ho k o).elim
      · exact ha.S.roapart _ _ _ _ _ h h' o o'
theorem le_trans {tm' : Tm} {M' : Mem} {tm2 : Tm} {M2 : Mem} (h : Le X tm M tm' M') (h' : Le X tm' M' tm2 M2) : Le X tm M tm2 M2 := fun a w ha => h' a w (h a w ha)
/-- a slice that is nil, as an empty row of one's own -/
theorem le_nil {t n : Nat} (T es : Nat) (f : Nat → AV) (hn : Nat.beq n 777777 = false) (h : tm.get t = some (none, .v (.slice none 0 0))) : Le X tm M ((t, none, .gs n 0 (ownB none) es 0 0 0) :: tm) ((n, .vrow none T es 0 f 0) :: M) :=
  le_trans (le_val h (by rw [gs_val]; rfl)) (le_lay hn (fun k h => by cases h) (fun k h => h) (fun w => ⟨rfl, rfl⟩))
end
end Go.Proofs.YtofophjfgalhaaaGreatDoor.V
/-! Calls that are handed one entry as their own, or none. -/
namespace Go.Proofs.YtofophjfgalhaaaGreatDoor.V
open Go Go.RowKit

/-- what must stand at the end, in a weaker state -/
def leK (X : Cx) (K : Exit → Tm → Mem → Prop) : Exit → Tm → Mem → Prop := fun e tm M => ∃ tm2 M2, Le X tm M tm2 M2 ∧ K e tm2 M2
theorem s_post {X : Cx} {c : Code} {tm : Tm} {M : Mem} {K : Exit → Tm → Mem → Prop} (h : CodeS X c tm M (leK X K)) : CodeS X c tm M K :=
  fun a w Q ha hQ => h a w Q ha fun e _ _ a' w' ⟨tm2, M2, hl, hK⟩ hA => hQ e tm2 M2 a' w' hK (hl a' w' hA)
/-- a row otherwise said, cell by cell -/
theorem RowHolds.recell {w : World} {b T es len len' cap : Nat} {f f' : Nat → AV} (h : RowHolds w b T es len f cap) (hl : len' ≤ len) (hf : ∀ i, i < len' → (f' i).cells = (f i).cells ∧ (f' i).one = true) : RowHolds w b T es len' f' cap := by
  obtain ⟨c, h1, h2, h3, h4⟩ := h
  refine ⟨c, h1, h2, Nat.le_trans hl h3, fun i hi => ?_⟩
  obtain ⟨g1, g2, g3⟩ := h4 i (Nat.lt_of_lt_of_le hi hl)
  obtain ⟨e1, e2⟩ := hf i hi
  refine ⟨?_, e2, fun k hk => ?_⟩
  · rw [← AV.size_cells, e1, AV.size_cells]; exact g1
  · rw [e1]; exact g3 k hk
theorem Blk.le_rowc {b T es len len' cap : Nat} {f f' : Nat → AV} (hl : len' ≤ len) (hf : ∀ i, i < len' → (f' i).cells = (f i).cells ∧ (f' i).one = true) : (Blk.row b T es len f cap).le (.row b T es len' f' cap) :=
  ⟨fun _ h => h, fun _ h => h, fun _ h => h.recell hl hf⟩
theorem Blk.le_vrowc {a : Option Nat} {T es len len' cap : Nat} {f f' : Nat → AV} (hl : len' ≤ len) (hf : ∀ i, i < len' → (f' i).cells = (f i).cells ∧ (f' i).one = true) : (Blk.vrow a T es len f cap).le (.vrow a T es len' f' cap) :=
  ⟨fun _ h => h, fun _ h => h, fun w h => by
    cases a with
    | none => obtain ⟨h1, h2⟩ := h; exact ⟨by omega, h2⟩
    | some b => exact RowHolds.recell h hl hf⟩
/-- a map's entries, otherwise said -/
theorem Blk.le_mapc {mine : Bool} {b clk : Nat} {l l' : List (AV × AV × Nat)} (h : l'.map trip = l.map trip) : (Blk.mp mine b l clk).le (.mp mine b l' clk) :=
  ⟨fun k hk => by cases mine <;> exact hk, fun k hk => by cases mine <;> exact hk, fun w ⟨es, h1, h2, h3⟩ => ⟨es, h1, h2, h3.trans (show l.map trip = l'.map trip from h.symm)⟩⟩
def apartL (B0 : Blk) : Mem → Prop
  | [] => True
  | (_, B) :: r => (∀ k, B.reads k → ¬ B0.own k) ∧ apartL B0 r
theorem apartL_get {B0 : Blk} : ∀ {M : Mem}, apartL B0 M → ∀ n B k, M.get n = some B → B.reads k → ¬ B0.own k
  | [], _, _, _, _, h, _ => by cases h
  | (j, C) :: r, hr, n, B, k, h, hb => by
    rw [Mem.get_cons] at h
    split at h
    · cases h; exact hr.1 k hb
    · exact apartL_get hr.2 n B k h hb
section
variable {P : Program} {ct : CtL} {cr : CrL} {f : FuncId} {fn : Func} {c : Code}
/-- a function that turns one entry -/
theorem turn_one (B : Tabs P) (hct : CtLOk P ct) (hcr : CrLOk P cr) (hf : P.funcs[f]? = some fn) (hbd : fn.body = some c) {args : List AV} (hlen : Nat.ble args.length fn.ntmps = true) {M : MemF} {O0 : Nat → Prop} {w0 w : World} (hS0 : Sat O0 w0 M w) (r : Res) {n : Nat} {B0 B1 : Blk} (hM : M n = some B0) (ro : Mem) (htag : r.tags = [n]) (hd : Mem.dfs ((900, B1) :: ro) = [])
    (h1 : B1.holds w) (hown : ∀ k, B1.own k → B0.own k) (hrd : ∀ k, ¬ B1.reads k) (hro : allHold w ro) (hno : noOwn ro) (hap : apartL B0 ro)
    (h : CodeS (cx B ct hct cr hcr (fun b => ∃ a m C, (a, m) ∈ [(900, n)] ∧ M m = some C ∧ C.own b) w fn.ntmps) c (argsTm 0 args) ((900, B1) :: ro) (retK (cx B ct hct cr hcr (fun b => ∃ a m C, (a, m) ∈ [(900, n)] ∧ M m = some C ∧ C.own b) w fn.ntmps) fn fun av M' => ∃ x, r.can x ∧ av.val = (r.out x).val ∧ outsOk M' [900] (r.mem x))) :
    Calls P f (args.map AV.val).toArray w fun e w' => ∃ x, r.can x ∧ e = .returned (r.out x).val ∧ Turn M w w' (zipM r.tags (r.mem x)).get := by
  refine turn_fn B hct hcr hf hbd hlen hS0 r ((900, B1) :: ro) [(900, n)] [900] hd ⟨h1, hro⟩ (fun n' B' k hn ho => ?_) (fun n' B' k hn hr n2 C n3 hin hM2 ho2 => ?_) (fun a b m e1 e2 => ?_) (fun a m e => ?_) (by decide) (by rw [htag]; rfl) h
  · rw [Mem.get_cons] at hn
    split at hn
    · rename_i e
      cases hn
      exact ⟨n, B0, by rw [← e]; exact .head _, hM, hown k ho⟩
    · exact (noOwn_get hno _ _ _ hn ho).elim
  · simp only [List.mem_singleton, Prod.mk.injEq] at hin
    rw [hin.2] at hM2
    rw [hM] at hM2
    cases hM2
    rw [Mem.get_cons] at hn
    split at hn
    · cases hn; exact hrd k hr
    · exact apartL_get hap _ _ _ hn hr ho2
  · simp only [List.mem_singleton, Prod.mk.injEq] at e1 e2
    rw [e1.1, e2.1]
  · simp only [List.mem_singleton, Prod.mk.injEq] at e
    rw [htag, e.2]; exact .head _
/-- a function that lays new entries -/
theorem turn_new (B : Tabs P) (hct : CtLOk P ct) (hcr : CrLOk P cr) (hf : P.funcs[f]? = some fn) (hbd : fn.body = some c) {args : List AV} (hlen : Nat.ble args.length fn.ntmps = true) {M : MemF} {O0 : Nat → Prop} {w0 w : World} (hS0 : Sat O0 w0 M w) (r : Res) (ro : Mem) (ts' : List Nat) (hd : ro.dfs = []) (hro : allHold w ro) (hno : noOwn ro) (hnd : ts'.Nodup) (htl : r.tags.length = ts'.length)
    (h : CodeS (cx B ct hct cr hcr (fun b => ∃ a m C, (a, m) ∈ ([] : List (Nat × Nat)) ∧ M m = some C ∧ C.own b) w fn.ntmps) c (argsTm 0 args) ro (retK (cx B ct hct cr hcr (fun b => ∃ a m C, (a, m) ∈ ([] : List (Nat × Nat)) ∧ M m = some C ∧ C.own b) w fn.ntmps) fn fun av M' => ∃ x, r.can x ∧ av.val = (r.out x).val ∧ outsOk M' ts' (r.mem x))) :
    Calls P f (args.map AV.val).toArray w fun e w' => ∃ x, r.can x ∧ e = .returned (r.out x).val ∧ Turn M w w' (zipM r.tags (r.mem x)).get :=
  turn_fn B hct hcr hf hbd hlen hS0 r ro [] ts' hd hro (fun n' B' k hn ho => (noOwn_get hno _ _ _ hn ho).elim) (fun _ _ _ _ _ _ _ _ h => (by cases h)) (fun _ _ _ h => (by cases h)) (fun _ _ h => (by cases h)) hnd htl h
/-- what a slice reads, apart from an entry under another tag -/
theorem ro_apart {O : Nat → Prop} {w0 w : World} {M : MemF} (hS : Sat O w0 M w) {x : AV} {c : Prop} {es n : Nat} {f : Nat → AV} (h : seqOf M x = some (c, es, n, f)) (hc : c) (hes : n ≠ 0 → es = 1) {k : Nat} {B : Blk} (hk : M k = some B) (hx : tagNe k x = true) {base : Option (Nat × Nat)} {cap : Nat} (hv : x.val = slV base n cap) {g : Nat → AV} : ∀ j, (roB base 1 n g).reads j → ¬ B.own j := by
  intro j hr ho
  obtain ⟨_, ix, o, hl, hb⟩ := hr
  have hl : 0 < n := hl
  exact seq_apart hS h hc (fun h => by rw [hes h]; decide) hk hx hv (by omega) hb ho
end
end Go.Proofs.YtofophjfgalhaaaGreatDoor.V
