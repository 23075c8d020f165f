import Derived.Test.YtofophjfgalhaaaGreatDoorD15
/-! A region whose order is open: quiet operations in any order, and then (where there is one) an effect that waits for all of them. -/
namespace Go.Proofs.YtofophjfgalhaaaGreatDoor.D
open Go Go.RowKit

abbrev DL := List (Tmp × Nat)
def DL.get : DL → Nat → Option Nat
  | [], _ => none
  | (d, j) :: r, t => match Nat.beq d t with
    | true => some j
    | false => DL.get r t

/-- a result of operation j: its slot, what it holds, its new block -/
abbrev Acc := List (Nat × Tmp × (Option Bool × AV) × Option Blk)
def Acc.get : Acc → Nat → Option (Tmp × (Option Bool × AV) × Option Blk)
  | [], _ => none
  | (k, e) :: r, j => match Nat.beq k j with
    | true => some e
    | false => Acc.get r j
abbrev AccF := Nat → Option (Tmp × (Option Bool × AV) × Option Blk)

theorem Acc.get_cons (k n : Nat) (e : Tmp × (Option Bool × AV) × Option Blk) (M : Acc) : Acc.get ((k, e) :: M) n = if k = n then some e else M.get n := by
  show (match Nat.beq k n with | true => some e | false => M.get n) = _
  by_cases h : k = n
  · subst h; simp
  · have : Nat.beq k n = false := by
      cases hh : Nat.beq k n with
      | true => exact absurd (Nat.eq_of_beq_eq_true hh) h
      | false => rfl
    rw [this, if_neg h]

/-- the slots, by what of the region is seen (p) -/
def viewP (D : DL) (p : Nat → Bool) (F : AccF) (T0 : TmF) : TmF := fun t => match D.get t with
  | none => T0 t
  | some j => match p j, F j with
    | true, some e => some e.2.1
    | _, _ => none
def mviewP (D : DL) (p : Nat → Bool) (F : AccF) (M0 : MemF) : MemF := fun n => match D.get n with
  | none => M0 n
  | some j => match p j, F j with
    | true, some (_, _, some B) => some B
    | _, _ => M0 n

def R.blk : R → Nat → Option Blk
  | .val _ _, _ => none
  | .new _ _ B, b => some (B b)
def R.isNew : R → Bool
  | .val .. => false
  | .new .. => true

structure Rg where
  l : List Oper
  D : DL
  masks : List Nat

/-- bit j of m, by the numerals' own operations -/
def bitN (m j : Nat) : Bool := match Nat.beq (Nat.land (Nat.shiftRight m j) 1) 0 with
  | true => false
  | false => true
theorem bitN_eq (m j : Nat) : bitN m j = Nat.testBit m j := by
  have h1 : Nat.land (Nat.shiftRight m j) 1 = (m >>> j) % 2 := Nat.and_one_is_mod (m >>> j)
  unfold bitN
  rw [h1, Nat.testBit_eq_decide_div_mod_eq, Nat.shiftRight_eq_div_pow]
  rcases Nat.mod_two_eq_zero_or_one (m / 2 ^ j) with h | h <;> rw [h] <;> rfl
theorem bitN_fun (m : Nat) : bitN m = fun j => Nat.testBit m j := funext (bitN_eq m)

/-- operation i, seen from what it waits for -/
def evalAt (X : Cx) (G : Rg) (T0 : TmF) (M0 : MemF) (F : AccF) (i : Nat) (o : Oper) : Option (Option Bool × R) := match nth G.masks i with
  | none => none
  | some m => opEval X.E (dstL G.l) X.N (mviewP G.D (bitN m) F M0) (viewP G.D (bitN m) F T0) o

/-- the quiet operations rest, from number i on; K: what is asked of all results -/
def okD (X : Cx) (G : Rg) (T0 : TmF) (M0 : MemF) (K : Acc → Prop) : Nat → List Oper → Acc → Prop
  | _, [], acc => K acc
  | i, o :: rest, acc => ∃ d g r, o.dst = some d ∧ evalAt X G T0 M0 acc.get i o = some (g, r) ∧ r.cond ∧ (r.isNew = true → M0 (d) = none) ∧
      ∀ b, okD X G T0 M0 K (i + 1) rest ((i, d, (g, r.out b), r.blk b) :: acc)

/-- the second members count on from i -/
def idxOk : Nat → DL → List Oper → Bool
  | _, [], [] => true
  | i, (_, j) :: r, _ :: l => Nat.beq i j && idxOk (i + 1) r l
  | _, _, _ => false
/-- the same, each operation with its slot and number out of the list ds -/
def okI (X : Cx) (G : Rg) (T0 : TmF) (M0 : MemF) (K : Acc → Prop) (ds : DL) (rest : List Oper) (acc : Acc) : Prop := ∀ i, idxOk i ds rest = true → okD X G T0 M0 K i rest acc

theorem d_nil {X : Cx} {G : Rg} {T0 : TmF} {M0 : MemF} {K : Acc → Prop} {acc : Acc} (h : K acc) : okI X G T0 M0 K [] [] acc := fun _ _ => h
theorem d_val {X : Cx} {G : Rg} {T0 : TmF} {M0 : MemF} {K : Acc → Prop} {i : Nat} {o : Oper} {rest : List Oper} {ds : DL} {acc : Acc} {d : Nat} {g : Option Bool} {c : Prop} {av : AV} (hd : o.dst = some d) (h : evalAt X G T0 M0 acc.get i o = some (g, .val c av)) (hc : c)
    (hk : okI X G T0 M0 K ds rest ((i, d, (g, av), none) :: acc)) : okI X G T0 M0 K ((d, i) :: ds) (o :: rest) acc := by
  intro j hj
  simp only [idxOk, Bool.and_eq_true] at hj
  have := Nat.eq_of_beq_eq_true hj.1
  subst this
  exact ⟨d, g, _, hd, h, hc, fun h => (by cases h), fun _ => hk _ hj.2⟩
theorem d_new {X : Cx} {G : Rg} {T0 : TmF} {M0 : MemF} {K : Acc → Prop} {i : Nat} {o : Oper} {rest : List Oper} {ds : DL} {acc : Acc} {d : Nat} {g : Option Bool} {c : Prop} {av : Nat → AV} {B : Nat → Blk} (hd : o.dst = some d) (h : evalAt X G T0 M0 acc.get i o = some (g, .new c av B)) (hc : c) (hn : M0 (d) = none)
    (hk : ∀ b, okI X G T0 M0 K ds rest ((i, d, (g, av b), some (B b)) :: acc)) : okI X G T0 M0 K ((d, i) :: ds) (o :: rest) acc := by
  intro j hj
  simp only [idxOk, Bool.and_eq_true] at hj
  have := Nat.eq_of_beq_eq_true hj.1
  subst this
  exact ⟨d, g, _, hd, h, hc, fun _ => hn, fun b => hk b _ hj.2⟩

/-- the slots and the memory behind the quiet part -/
def finalT : Acc → Tm → Tm
  | [], T => T
  | (_, d, (g, a), _) :: r, T => (d, g, a) :: finalT r T
def finalM : Acc → Mem → Mem
  | [], M => M
  | (_, d, _, some B) :: r, M => (d, B) :: finalM r M
  | (_, _, _, none) :: r, M => finalM r M

/-! #### what the region's lists must be -/
def orEdges (masks : List Nat) : List Edge → Nat
  | [] => 0
  | e :: r => match Region.binds .any e with
    | true => match nth masks e.on with
      | some m => Nat.lor (Nat.lor (2 ^ e.on) m) (orEdges masks r)
      | none => orEdges masks r
    | false => orEdges masks r
def edgesLt (i : Nat) : List Edge → Bool
  | [] => true
  | e :: r => (!Region.binds .any e || Nat.blt e.on i) && edgesLt i r
/-- a mask holds just what its operation waits for, and what that waits for -/
def masksOk (masks : List Nat) : Nat → List Oper → Bool
  | _, [] => true
  | i, o :: r => (match nth masks i with
      | none => false
      | some m => Nat.blt m (2 ^ i) && Nat.beq m (orEdges masks o.after.toList) && edgesLt i o.after.toList) && masksOk masks (i + 1) r
def dOk (D : DL) : Nat → List Oper → Bool
  | _, [] => true
  | i, o :: r => (match o.dst with
      | none => false
      | some d => match D.get d with
        | some j => Nat.beq i j
        | none => false) && dOk D (i + 1) r

def dOk2 (q : List Oper) : DL → Bool
  | [] => true
  | (d, j) :: r => (match nth q j with
      | some o => (match o.dst with
        | some d' => Nat.beq d d'
        | none => false)
      | none => false) && dOk2 q r
/-- the effect at the end waits for all quiet operations -/
def tailOk (G : Rg) (n : Nat) (e : Oper) : Bool := match e.guard with
  | none => ((List.range n).all fun j => Nat.testBit (orEdges G.masks e.after.toList) j) && edgesLt n e.after.toList
  | some _ => false
def rgOk (G : Rg) (q : List Oper) : Bool := masksOk G.masks 0 q && dOk G.D 0 q && dOk2 q G.D

end Go.Proofs.YtofophjfgalhaaaGreatDoor.D
