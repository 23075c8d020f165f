import Derived.Test.YtaohdlepocajcaaV2
/-! The evaluator of one operation, and that it is right. -/
namespace Go.Proofs.Ytaohdlepocajcaa.V
open Go Go.RowKit

/-- what a slot holds: (none) the value; (some g) the value where g, else nothing -/
abbrev Tm := List (Nat × Option Bool × AV)
def Tm.get : Tm → Nat → Option (Option Bool × AV)
  | [], _ => none
  | (k, e) :: r, t => match Nat.beq k t with
    | true => some e
    | false => Tm.get r t

theorem Tm.get_cons (k n : Nat) (e : Option Bool × AV) (M : Tm) : Tm.get ((k, e) :: M) n = if k = n then some e else M.get n := by
  show (match Nat.beq k n with | true => some e | false => M.get n) = _
  by_cases h : k = n
  · subst h; simp
  · have : Nat.beq k n = false := by
      cases hh : Nat.beq k n with
      | true => exact absurd (Nat.eq_of_beq_eq_true hh) h
      | false => rfl
    rw [this, if_neg h]

def SlotOk (a : Act) (t : Nat) : Option Bool × AV → Prop
  | (none, av) => t < a.tmps.size ∧ a.tmps.getD t undef = av.val
  | (some g, av) => t < a.tmps.size ∧ a.tmps.getD t undef = if g then av.val else undef

abbrev TmF := Nat → Option (Option Bool × AV)
/-- the frame has N slots -/
structure SatT (N : Nat) (tm : TmF) (a : Act) : Prop where
  size : a.tmps.size = N
  slot : ∀ t e, tm t = some e → SlotOk a t e

def opd (tm : TmF) : Operand → Option (Option Bool × AV)
  | .tmp t => tm t
  | .const v => some (none, .v v)
  | .func f => some (none, .fn f .nil)
  | .global g => some (none, .ptr ⟨100000 + g, 0, g, 0, 0, 0, 0, 0, false⟩)

/-- under the guard g the operand's own condition holds -/
def need : Option Bool → Option Bool → Prop
  | _, none => True
  | none, some c => c = true
  | some g, some c => g = true → c = true
def holdsG : Option Bool → Prop
  | none => True
  | some g => g = true
def imp (g : Option Bool) (p : Prop) : Prop := match g with
  | none => p
  | some b => b = true → p

theorem imp_elim {g : Option Bool} {p : Prop} (h : imp g p) (hg : holdsG g) : p := by
  cases g with
  | none => exact h
  | some b => exact h hg

theorem opd_sound {N : Nat} {tm : TmF} {a : Act} (hT : SatT N tm a) {x : Operand} {c : Option Bool} {av : AV} (h : opd tm x = some (c, av)) {g : Option Bool} (hn : need g c) (hg : holdsG g) :
    a.eval x = av.val := by
  cases x with
  | tmp t =>
    have h2 := hT.slot t _ h
    cases c with
    | none => exact h2.2
    | some b =>
      have hb : b = true := by
        cases g with
        | none => exact hn
        | some g => exact hn hg
      subst hb
      exact h2.2
  | const v => cases h; rfl
  | func f => cases h; rfl
  | global g => cases h; simp [Act.eval, AV.val, AV.den, Pt.addr, Pt.cell]

inductive R where
  | val (c : Prop) (a : AV)
  | new (c : Prop) (a : Nat → AV) (B : Nat → Blk)

def R.cond : R → Prop
  | .val c _ => c
  | .new c _ _ => c
def R.out : R → Nat → AV
  | .val _ a, _ => a
  | .new _ a _, b => a b
def R.laid (w w' : World) : R → Nat → Prop
  | .val _ _, _ => True
  | .new _ _ B, b => (∀ k, (B b).own k → w.heap.size ≤ k) ∧ (∀ k, ¬ (B b).reads k) ∧ (B b).holds w'

/-! #### integers, bools, strings -/
def binI (op : BinOp) (k : IntKind) (a b : Int) : Option (Prop × Value) :=
  match op with
  | .add => some (True, .int k (k.wrap (a + b)))
  | .sub => some (True, .int k (k.wrap (a - b)))
  | .mul => some (True, .int k (k.wrap (a * b)))
  | .quo => some (b ≠ 0, .int k (k.wrap (a.tdiv b)))
  | .rem => some (b ≠ 0, .int k (a.tmod b))
  | .and => some (True, .int k (k.wrap (BitVec.ofInt k.bits a &&& BitVec.ofInt k.bits b).toNat))
  | .or => some (True, .int k (k.wrap (BitVec.ofInt k.bits a ||| BitVec.ofInt k.bits b).toNat))
  | .xor => some (True, .int k (k.wrap (BitVec.ofInt k.bits a ^^^ BitVec.ofInt k.bits b).toNat))
  | .andNot => some (True, .int k (k.wrap (BitVec.ofInt k.bits a &&& ~~~ BitVec.ofInt k.bits b).toNat))
  | .eql => some (True, .bool (a == b))
  | .neq => some (True, .bool (a != b))
  | .lss => some (True, .bool (a < b))
  | .leq => some (True, .bool (a ≤ b))
  | .gtr => some (True, .bool (a > b))
  | .geq => some (True, .bool (a ≥ b))
  | _ => none

def kindEq : IntKind → IntKind → Bool
  | .i8, .i8 | .i16, .i16 | .i32, .i32 | .i64, .i64 | .u8, .u8 | .u16, .u16 | .u32, .u32 | .u64, .u64 => true
  | _, _ => false
theorem kindEq_eq {a b : IntKind} (h : kindEq a b = true) : a = b := by cases a <;> cases b <;> first | rfl | cases h

/-- equality of two values of one shape, by their parts (structs and arrays of integers, bools, strings) -/
def AV.eqB : AV → AV → Option Bool
  | .v (.int k a), .v (.int k' b) => match kindEq k k' with
    | true => some (a == b)
    | false => none
  | .v (.bool a), .v (.bool b) => some (a == b)
  | .v (.string a), .v (.string b) => some (a == b)
  | .ints k n a, .ints k' n' b => match kindEq k k' && Nat.beq n n' with
    | true => some ((List.range n).all fun j => a.getD j 0 == b.getD j 0)
    | false => none
  | .nil, .nil => some true
  | .cons a b, .cons a' b' => match a.eqB a', b.eqB b' with
    | some x, some y => some (x && y)
    | _, _ => none
  | .agg a, .agg b => a.eqB b
  | _, _ => none

def shiftV (op : BinOp) (k : IntKind) (a b : Int) : Option (Prop × Value) :=
  match op with
  | .shl => some (0 ≤ b, .int k (k.wrap (a * 2 ^ min b.toNat k.bits)))
  | .shr => some (0 ≤ b, .int k (a.fdiv (2 ^ min b.toNat k.bits)))
  | _ => none
def isShift : BinOp → Bool
  | .shl => true
  | .shr => true
  | _ => false

def strV (op : BinOp) (a b : ByteArray) : Option (Prop × Value) :=
  match op with
  | .eql => some (True, .bool (a.toList == b.toList))
  | .neq => some (True, .bool !(a.toList == b.toList))
  | .lss => some (True, .bool (Op.bytesLess a.toList b.toList))
  | .leq => some (True, .bool (Op.bytesLess a.toList b.toList || a.toList == b.toList))
  | .gtr => some (True, .bool !(Op.bytesLess a.toList b.toList || a.toList == b.toList))
  | .geq => some (True, .bool !(Op.bytesLess a.toList b.toList))
  | .add => some (a.size + b.size ≤ 9223372036854775807, .string (a ++ b))
  | _ => none

/-- '==', '!=', '<', '+', .. on two values that hold one cell each -/
def binV (op : BinOp) (d : TD) : AV → AV → Option (Prop × Value)
  | .v (.int k a), .v (.int k' b) => match isShift op with
    | true => shiftV op k a b
    | false => match kindEq k k' with
      | true => binI op k a b
      | false => none
  | .v (.string a), .v (.string b) => strV op a b
  | .v (.bool a), .v (.bool b) => match d, op with
    | .bool, .eql => some (True, .bool (a == b))
    | .bool, .neq => some (True, .bool !(a == b))
    | _, _ => none
  | .v (.pointer none), .ptr _ | .ptr _, .v (.pointer none) => match d, op with
    | .ptr _, .eql => some (True, .bool false)
    | .ptr _, .neq => some (True, .bool true)
    | _, _ => none
  | .v (.pointer none), .v (.pointer none) => match d, op with
    | .ptr _, .eql => some (True, .bool true)
    | .ptr _, .neq => some (True, .bool false)
    | _, _ => none
  | .v (.slice none _ _), .sl .. | .sl .., .v (.slice none _ _) => match d, op with
    | .sl _, .eql => some (True, .bool false)
    | .sl _, .neq => some (True, .bool true)
    | _, _ => none
  | .v (.slice none _ _), .v (.slice none _ _) => match d, op with
    | .sl _, .eql => some (True, .bool true)
    | .sl _, .neq => some (True, .bool false)
    | _, _ => none
  | .v (.slice none _ _), .gs _ _ a _ _ _ _ | .gs _ _ a _ _ _ _, .v (.slice none _ _) => match d, op with
    | .sl _, .eql => some (True, .bool a.isNone)
    | .sl _, .neq => some (True, .bool !a.isNone)
    | _, _ => none
  | .v .nilFunc, .fn .. | .fn .., .v .nilFunc => match d, op with
    | .fn, .eql => some (True, .bool false)
    | .fn, .neq => some (True, .bool true)
    | _, _ => none
  | .v .nilFunc, .v .nilFunc => match d, op with
    | .fn, .eql => some (True, .bool true)
    | .fn, .neq => some (True, .bool false)
    | _, _ => none
  | .v (.map none), .mp .. | .mp .., .v (.map none) => match d, op with
    | .map .., .eql => some (True, .bool false)
    | .map .., .neq => some (True, .bool true)
    | _, _ => none
  | .v (.map none), .v (.map none) => match d, op with
    | .map .., .eql => some (True, .bool true)
    | .map .., .neq => some (True, .bool false)
    | _, _ => none
  | _, _ => none

theorem binI_run {P : Program} {op : BinOp} {k : IntKind} {a b : Int} {c : Prop} {v : Value} (hs : isShift op = false) (h : binI op k a b = some (c, v)) (hc : c) (t : TypeId) (w : World) :
    (binOp op t (.int k a) (.int k b)).run P w = .ok v w := by
  cases op <;> simp only [isShift, binI, Option.some.injEq, Prod.mk.injEq, reduceCtorEq] at h hs <;> (obtain ⟨rfl, rfl⟩ := h) <;>
    simp_all [binOp, Op.intArith, Op.intDiv, Op.intBits, Op.intCmp]

theorem shiftV_run {P : Program} {op : BinOp} {k k' : IntKind} {a b : Int} {c : Prop} {v : Value} (hs : isShift op = true) (h : shiftV op k a b = some (c, v)) (hc : c) (t : TypeId) (w : World) :
    (binOp op t (.int k a) (.int k' b)).run P w = .ok v w := by
  cases op <;> simp only [isShift, shiftV, Option.some.injEq, Prod.mk.injEq, reduceCtorEq] at h hs <;> (obtain ⟨rfl, rfl⟩ := h) <;>
    (simp only [binOp, Op.shift]; rw [if_neg (by omega)]; rfl)

theorem eqGuard_one {P : Program} {op : BinOp} {t : TypeId} {x y : Operand} {a b : Value} (ha : a.oneCell' = true) (hi : a ≠ .nilIface) (w : World) : (eqGuard op t x y a b).run P w = .ok () w := by
  unfold eqGuard
  cases a <;> first | (simp [Value.oneCell'] at ha; done) | (simp at hi; done) | (split <;> rfl)

theorem viewD_bool {P : Program} {d : TypeDesc} (h : viewD P d = .bool) : d = .bool := by cases d <;> simp [viewD] at h; rfl
theorem viewD_ptr {P : Program} {d : TypeDesc} {e : TypeId} (h : viewD P d = .ptr e) : d = .pointer e := by cases d <;> simp [viewD] at h; rw [h]
theorem viewD_fn {P : Program} {d : TypeDesc} (h : viewD P d = .fn) : ∃ a b c, d = .func a b c := by cases d <;> simp [viewD] at h; exact ⟨_, _, _, rfl⟩
theorem viewD_sl {P : Program} {d : TypeDesc} {e : TypeId} (h : viewD P d = .sl e) : d = .slice e := by cases d <;> simp [viewD] at h; rw [h]
theorem viewD_map {P : Program} {d : TypeDesc} {k e : TypeId} (h : viewD P d = .map k e) : d = .map k e := by cases d <;> simp [viewD] at h; rw [h.1, h.2]
theorem viewD_arr {P : Program} {d : TypeDesc} {n : Nat} {e : TypeId} (h : viewD P d = .arr n e) : d = .array n e := by cases d <;> simp [viewD] at h; rw [h.1, h.2]
theorem viewD_st {P : Program} {d : TypeDesc} {fs} (h : viewD P d = .st fs) : ∃ gs : Array Field, d = .struct gs ∧ gs.toList.map (fun f => (f.offset, P.cellsOf f.type, f.type)) = fs := by
  cases d <;> simp [viewD] at h
  exact ⟨_, rfl, h⟩

theorem run_equal_of {P : Program} {t : TypeId} {x y : Value} {b : Bool} {w : World} (h : ∀ d, (Op.equalIn (d + 1) t x y).run P w = .ok b w) : (Op.equal t x y).run P w = .ok b w := h 9999

theorem run_eql_of {P : Program} {t : TypeId} {x y : Value} {b : Bool} {w : World} (hx : binOp .eql t x y = (do pure (.bool (← Op.equal t x y)))) (h : ∀ d, (Op.equalIn (d + 1) t x y).run P w = .ok b w) :
    (binOp .eql t x y).run P w = .ok (.bool b) w := by
  rw [hx, Sem.run_bind, run_equal_of h]; rfl
theorem run_neq_of {P : Program} {t : TypeId} {x y : Value} {b : Bool} {w : World} (hx : binOp .neq t x y = (do pure (.bool (!(← Op.equal t x y))))) (h : ∀ d, (Op.equalIn (d + 1) t x y).run P w = .ok b w) :
    (binOp .neq t x y).run P w = .ok (.bool !b) w := by
  rw [hx, Sem.run_bind, run_equal_of h]; rfl

theorem eq_nil1 {P : Program} {t e : TypeId} {w : World} (hd : (underlying t).run P w = .ok (.slice e) w) (b : Option Addr) (n c n' c' d : Nat) : (Op.equalIn (d + 1) t (.slice none n c) (.slice b n' c')).run P w = .ok b.isNone w := by
  unfold Op.equalIn; rw [Sem.run_bind, hd]; rfl
theorem eq_nil2 {P : Program} {t e : TypeId} {w : World} (hd : (underlying t).run P w = .ok (.slice e) w) (b : Option Addr) (n c n' c' d : Nat) : (Op.equalIn (d + 1) t (.slice b n' c') (.slice none n c)).run P w = .ok b.isNone w := by
  cases b <;> (unfold Op.equalIn; rw [Sem.run_bind, hd]; rfl)
theorem map_isNone {α β : Type} (f : α → β) (a : Option α) : (a.map f).isNone = a.isNone := by cases a <;> rfl
theorem gs_val (n ix : Nat) (a : Option (Nat × Nat)) (es i0 len cap : Nat) : (AV.gs n ix a es i0 len cap).val = .slice (a.map fun p => ⟨p.1, p.2 + i0 * es, none⟩) len cap := rfl
theorem binV_run {P : Program} {op : BinOp} {t : TypeId} {r : TRow} (hr : RowOk P t r) {x y : AV} {c : Prop} {v : Value} (h : binV op r.d x y = some (c, v)) (hc : c) (xo yo : Operand) (w : World) :
    (do eqGuard op t xo yo x.val y.val; binOp op t x.val y.val).run P w = .ok v w := by
  have key : ∀ {a b : Value}, a.oneCell' = true → a ≠ .nilIface → (binOp op t a b).run P w = .ok v w → (do eqGuard op t xo yo a b; binOp op t a b).run P w = .ok v w := by
    intro a b ha hi hb
    rw [Sem.run_bind, eqGuard_one ha hi w, Result.andThen_ok]; exact hb
  obtain ⟨d, hd, hv⟩ := hr.run_under w
  unfold binV at h
  split at h
  · rename_i k a k' b
    refine key rfl (by simp) ?_
    split at h
    · rename_i hs; exact shiftV_run hs h hc t w
    · rename_i hs
      split at h
      · rename_i hk; rw [kindEq_eq hk] at h ⊢; exact binI_run hs h hc t w
      · cases h
  · rename_i a b
    refine key rfl (by simp) ?_
    show (binOp op t (.string a) (.string b)).run P w = _
    cases op <;> simp only [strV, Option.some.injEq, Prod.mk.injEq, reduceCtorEq] at h <;> (obtain ⟨rfl, rfl⟩ := h) <;> first | rfl | skip
    show (Op.stringOp .add a b).run P w = _
    unfold Op.stringOp
    simp only []
    rw [if_neg (by simp only [IntKind.max, IntKind.signed, IntKind.bits]; omega)]
    rfl
  all_goals
    first
    | (cases h; done)
    | (refine key rfl (by simp [AV.val, AV.den]) ?_
       split at h <;> first | (cases h; done) | skip
       all_goals
         rename_i hd'
         cases h
         rw [hd'] at hv
         first
           | rw [viewD_bool hv] at hd
           | rw [viewD_ptr hv] at hd
           | rw [viewD_sl hv] at hd
           | rw [viewD_map hv] at hd
           | (obtain ⟨_, _, _, hv⟩ := viewD_fn hv; rw [hv] at hd)
         first
           | exact run_eql_of rfl (fun d => by unfold Op.equalIn; rw [Sem.run_bind, hd]; rfl)
           | exact run_neq_of (b := true) rfl (fun d => by unfold Op.equalIn; rw [Sem.run_bind, hd]; rfl)
           | exact run_neq_of (b := false) rfl (fun d => by unfold Op.equalIn; rw [Sem.run_bind, hd]; rfl)
           | exact run_neq_of rfl (fun d => by unfold Op.equalIn; rw [Sem.run_bind, hd]; rfl)
           | (rw [gs_val, AV.val_v]
              first
              | exact run_eql_of rfl (fun d => (eq_nil1 hd _ _ _ _ _ d).trans (by rw [map_isNone]))
              | exact run_eql_of rfl (fun d => (eq_nil2 hd _ _ _ _ _ d).trans (by rw [map_isNone]))
              | exact run_neq_of rfl (fun d => (eq_nil1 hd _ _ _ _ _ d).trans (by rw [map_isNone]))
              | exact run_neq_of rfl (fun d => (eq_nil2 hd _ _ _ _ _ d).trans (by rw [map_isNone]))))

end Go.Proofs.Ytaohdlepocajcaa.V
