import Derived.Test.YtaohdlepocajcaaV6
/-! The evaluator of a quiet operation. -/
namespace Go.Proofs.Ytaohdlepocajcaa.V
open Go Go.RowKit

def needIf (g : Option Bool) (bc want : Bool) : Option Bool → Prop
  | none => True
  | some c => imp g (bc = want → c = true)

def pickV (bc : Bool) (ao bo : Operand) (a b : AV) : Option AV :=
  match ao, bo with
  | .const (.bool true), _ => match b with
    | .v (.bool y) => some (.v (.bool (bc || y)))
    | _ => none
  | _, .const (.bool false) => match a with
    | .v (.bool x) => some (.v (.bool (bc && x)))
    | _ => none
  | _, _ => match a, b with
    | .v (.bool x), .v (.bool y) => some (.v (.bool (bif bc then x else y)))
    | .v (.int k x), .v (.int k' y) => match kindEq k k' with
      | true => some (.v (.int k (bif bc then x else y)))
      | false => none
    | _, _ => none

def AV.chainOk (s : Nat) : Nat → AV → Bool
  | 0, .nil => true
  | n + 1, .cons a r => Nat.beq a.size s && a.one && r.chainOk s n
  | _, _ => false
def AV.nthA : Nat → AV → AV
  | 0, .cons a _ => a
  | n + 1, .cons _ r => r.nthA n
  | _, _ => .nil
def AV.rep (z : AV) : Nat → AV
  | 0 => .nil
  | n + 1 => .cons z (z.rep n)

/-- a bound of a slice expression -/
def bnd (tm : TmF) (g : Option Bool) : Option Operand → Option (Prop × Option Int)
  | none => some (True, none)
  | some x => match opd tm x with
    | some (c, .v (.int _ n)) => some (need g c, some n)
    | _ => none

/-- low, high, max of a slice of length len (its hi, where none is given) and capacity cap -/
def bounds (lo hi mx : Option Int) (len cap : Nat) : Option (Prop × Nat × Nat × Nat) :=
  match hi, mx with
  | none, some _ => none
  | hi, mx =>
    let m := match mx with | some v => v.toNat | none => cap
    let pm := match mx with | some v => 0 ≤ v ∧ v ≤ cap | none => True
    let h := match hi with | some v => v.toNat | none => len
    let ph := match hi with | some v => 0 ≤ v ∧ v ≤ m | none => True
    let l := match lo with | some v => v.toNat | none => 0
    let pl := match lo with | some v => 0 ≤ v ∧ v ≤ h | none => True
    some (pm ∧ ph ∧ pl, l, h, m)

/-- by how much a cut moves its begin -/
def cutOff (lo : Option Int) (m l : Nat) : Nat := match lo with
  | none => 0
  | some _ => if m = l then 0 else l

/-- what an operation comes to: what must hold; what may be (x : β); its value; the entries of the memory that it lays or turns -/
structure Res : Type 1 where
  β : Type
  ok : Prop
  can : β → Prop
  out : β → AV
  tags : List Nat
  mem : β → List Blk

structure Env : Type 1 where
  tb : Tbl
  eqs : List TypeId
  ct : FuncId → List AV → MemF → Option (Prop × AV)
  cr : FuncId → Nat → List AV → MemF → Option Res

def vals (l : List (Nat × AV)) : List AV := l.map (·.2)

def lenV (d : TD) : AV → Option Int
  | .sl _ len _ | .gs _ _ _ _ _ len _ => match d with
    | .sl _ => some len
    | _ => none
  | .v (.slice none n _) => match d with
    | .sl _ => some n
    | _ => none
  | .v (.string s) => match d with
    | .str => some s.size
    | _ => none
  | .v (.map none) => match d with
    | .map .. => some 0
    | _ => none
  | _ => match d with
    | .arr n _ => some n
    | _ => none
def lenM (M : MemF) (d : TD) : AV → Option (Prop × Int)
  | .mp n b => match d, M n with
    | .map .., some (.mp _ b' l _) => some (b' = b, l.length)
    | _, _ => none
  | av => match lenV d av with
    | some n => some (True, n)
    | none => none

def capV (d : TD) : AV → Option Int
  | .sl _ _ cap | .gs _ _ _ _ _ _ cap => match d with
    | .sl _ => some cap
    | _ => none
  | .v (.slice none _ c) => match d with
    | .sl _ => some c
    | _ => none
  | _ => none

/-- the element k of a slice's row -/
def gsAt (M : MemF) (n ix : Nat) (a : Option (Nat × Nat)) (i : Nat) : Option Prop := match M n with
  | some (.vrow a' _ _ len' _ _) => some (a = ownB a' ∧ i < len')
  | some (.vro _ base len' _) => some (a = base ix ∧ i < len' ix)
  | _ => none

def qeval (E : Env) (M : MemF) (tm : TmF) (g : Option Bool) (tag : Nat) : Op → Option R
  | .move x | .assign x => match opd tm x with
    | some (c, av) => some (.val (need g c) av)
    | none => none
  | .pick c a b => match opd tm c, opd tm a, opd tm b with
    | some (cc, .v (.bool bc)), some (ca, av), some (cb, bv) => match pickV bc a b av bv with
      | some r => some (.val (need g cc ∧ needIf g bc true ca ∧ needIf g bc false cb) r)
      | none => match a, b with
        | .const (.bool true), _ => some (.val (need g cc ∧ imp g (bc = true)) (.v (.bool true)))
        | _, .const (.bool false) => some (.val (need g cc ∧ imp g (bc = false)) (.v (.bool false)))
        | _, _ => none
    | _, _, _ => none
  | .alloc t => match E.tb.get t with
    | some r => match r.zero.fitV with
      | true => some (.new True (fun b => .ptr ⟨tag, 0, b, 0, r.zero.size, 0, 0, 0, false⟩) (fun b => .row b t r.zero.size 1 (fun _ => r.zero) 1))
      | false => none
    | none => none
  | .box t x => match opd tm x with
    | some (c, av) => match av.fitV with
      | true => some (.new (need g c) (fun b => .ptr ⟨tag, 0, b, 0, av.size, 0, 0, 0, false⟩) (fun b => .row b t av.size 1 (fun _ => av) 1))
      | false => none
    | none => none
  | .build t parts => match opds tm g parts.toList with
    | some (p, l) => match buildV E.tb t l with
      | some z => match z.isAgg with
        | true => some (.val p z)
        | false => none
      | none => none
    | none => none
  | .buildSlice t n parts => match opds tm g parts.toList, E.tb.get t with
    | some (p, l), some r => match r.d with
      | .sl e => match E.tb.get e with
        | some re => match re.zero.fitV && Nat.blt 0 re.size && Nat.ble (n * re.size) 65536 && Nat.beq re.zero.size re.size, updParts (fun i => some (i * re.size, re.size)) (re.zero.rep n) l with
          | true, some z => match z.chainOk re.size n with
            | true => some (.new p (fun b => .gs tag 0 (ownB (some b)) re.size 0 n n) (fun b => .vrow (some b) e re.size n (fun i => z.nthA i) n))
            | false => none
          | _, _ => none
        | none => none
      | _ => none
    | _, _ => none
  | .makeMap _ none => some (.new True (fun b => .mp tag b) (fun b => .mp true b [] 0))
  | .makeMap t (some x) => match opd tm x, E.tb.get t with
    | some (c, .v (.int _ _)), some r => match r.d with
      | .map .. => some (.new (need g c) (fun b => .mp tag b) (fun b => .mp true b [] 0))
      | _ => none
    | _, _ => none
  | .load t x => match opd tm x, E.tb.get t with
    | some (c, .ptr p), some r => match loadV M r p with
      | some (q, s) => some (.val (need g c ∧ imp g q) s)
      | none => none
    | _, _ => none
  | .nilCheck x => match opd tm x with
    | some (c, .ptr p) => some (.val (need g c) (.ptr p))
    | _ => none
  | .binOp op t x y _ => match opd tm x, opd tm y, E.tb.get t with
    | some (cx, a), some (cy, b), some r => match a.isAgg && b.isAgg with
      | true => match eqT E.tb E.eqs 64 t a b, memN E.eqs t, op with
        | some q, true, .eql => some (.val (need g cx ∧ need g cy) (.v (.bool q)))
        | some q, true, .neq => some (.val (need g cx ∧ need g cy) (.v (.bool !q)))
        | _, _, _ => none
      | false => match binV op r.d a b with
        | some (q, v) => some (.val (need g cx ∧ need g cy ∧ imp g q) (.v v))
        | none => none
    | _, _, _ => none
  | .unOp op _ x => match opd tm x with
    | some (c, .v (.bool b)) => match op with
      | .not => some (.val (need g c) (.v (.bool !b)))
      | _ => none
    | some (c, .v (.int k n)) => match op with
      | .neg => some (.val (need g c) (.v (.int k (k.wrap (0 - n)))))
      | .xor => some (.val (need g c) (.v (.int k (k.wrap (BitVec.ofInt k.bits (if k.signed then -1 else k.max) ^^^ BitVec.ofInt k.bits n).toNat))))
      | _ => none
    | _ => none
  | .convert src dst x => match opd tm x, E.tb.get src, E.tb.get dst with
    | some (c, .v (.int _ n)), some _, some r => match r.d with
      | .int k => some (.val (need g c) (.v (.int k (k.wrap n))))
      | _ => none
    | _, _, _ => none
  | .makeFunc (.func f) first caps => match first.toList, opds tm g (caps.toList.map fun x => (0, x)) with
    | [], some (p, l) => some (.val p (.fn f ((vals l).foldr .cons .nil)))
    | _, _ => none
  | .fieldAddr s x f => match opd tm x, fieldOf E.tb s f with
    | some (c, .ptr ⟨n, ix, b, o0, es, idx, off, j, lf⟩), some (o, sz, _) => match Nat.blt 0 sz with
      | true => some (.val (need g c) (.ptr ⟨n, ix, b, o0, es, idx, off + o, j, lf⟩))
      | false => none
    | _, _ => none
  | .field s x f => match opd tm x, fieldOf E.tb s f with
    | some (c, av), some (o, sz, ft) => match E.tb.get ft, av.isAgg with
      | some r, true => match Nat.beq r.size sz, av.sub r.d.isAgg o sz with
        | true, some s => some (.val (need g c) s)
        | _, _ => none
      | _, _ => none
    | _, _ => none
  | .indexAddr t x i => match opd tm x, opd tm i, E.tb.get t with
    | some (c, .sl ⟨n, ix, b, o0, es, idx, off, j, lf⟩ len _), some (ci, .v (.int _ k)), some r => match r.d with
      | .sl e => match E.tb.get e, lf with
        | some re, true => match Nat.beq re.size 1 with
          | true => some (.val (need g c ∧ need g ci ∧ imp g (0 ≤ k ∧ k < len)) (.ptr ⟨n, ix, b, o0, es, idx, off, j + k.toNat, true⟩))
          | false => none
        | some re, false => some (.val (need g c ∧ need g ci ∧ imp g (0 ≤ k ∧ k < len) ∧ es = re.size) (.ptr ⟨n, ix, b, o0, es, idx + k.toNat, off, j, false⟩))
        | none, _ => none
      | _ => none
    | some (c, .gs n ix a es i0 len _), some (ci, .v (.int _ k)), some r => match r.d with
      | .sl e => match E.tb.get e, gsAt M n ix a (k.toNat + i0) with
        | some re, some q => some (.val (need g c ∧ need g ci ∧ imp g ((0 ≤ k ∧ k < len) ∧ q) ∧ es = re.size) (.ptr ⟨n, ix, (gsB a).1, (gsB a).2, es, k.toNat + i0, 0, 0, false⟩))
        | _, _ => none
      | _ => none
    | some (c, .ptr ⟨n, ix, b, o0, es, idx, off, j, lf⟩), some (ci, .v (.int _ k)), some r => match r.d with
      | .arr m e => match E.tb.get e with
        | some re => match Nat.blt 1 m, re.d, i with
          | true, .int _, _ => match Nat.beq re.size 1 with
            | true => some (.val (need g c ∧ need g ci ∧ imp g (0 ≤ k ∧ k < m)) (.ptr ⟨n, ix, b, o0, es, idx, off, j + k.toNat, true⟩))
            | false => none
          | true, _, .const (.int _ k') => some (.val (need g c ∧ need g ci ∧ imp g (0 ≤ k ∧ k < m) ∧ k = k') (.ptr ⟨n, ix, b, o0, es, idx, off + k'.toNat * re.size, j, lf⟩))
          | _, _, _ => none
        | none => none
      | _ => none
    | _, _, _ => none
  | .index t x i => match opd tm x, opd tm i, E.tb.get t with
    | some (c, .ints k m l), some (ci, .v (.int _ n)), some r => match r.d with
      | .arr m' e => match E.tb.get e with
        | some re => match re.d with
          | .int k' => match kindEq k k' && Nat.beq m m' && Nat.beq re.size 1 with
            | true => some (.val (need g c ∧ need g ci ∧ imp g (0 ≤ n ∧ n < m)) (.v (.int k (l.getD n.toNat 0))))
            | false => none
          | _ => none
        | none => none
      | _ => none
    | some (c, .agg l), some (ci, .v (.int _ (Int.ofNat n))), some r => match r.d with
      | .arr m e => match E.tb.get e with
        | some re => match (AV.agg l).sub re.d.isAgg (n * re.size) re.size with
          | some s => some (.val (need g c ∧ need g ci ∧ n < m) s)
          | none => none
        | none => none
      | _ => none
    | some (c, .v (.string s)), some (ci, .v (.int _ n)), some r => match r.d with
      | .str => some (.val (need g c ∧ need g ci ∧ imp g (0 ≤ n ∧ n < s.size)) (.v (.int .u8 (s.data.toList.getD n.toNat 0).toNat)))
      | _ => none
    | _, _, _ => none
  | .slice t x lo hi mx => match opd tm x, E.tb.get t, bnd tm g lo, bnd tm g hi, bnd tm g mx with
    | some (c, .sl ⟨n, ix, b, o0, es, idx, off, j, lf⟩ len cap), some r, some (cl, lo), some (ch, hi), some (cm, mx) => match r.d, bounds lo hi mx len cap with
      | .sl e, some (p, l, h, m) => match E.tb.get e, lf with
        | some re, true => match Nat.beq re.size 1 with
          | true => some (.val (need g c ∧ cl ∧ ch ∧ cm ∧ imp g p) (.sl ⟨n, ix, b, o0, es, idx, off, j + cutOff lo m l, true⟩ (h - l) (m - l)))
          | false => none
        | some re, false => some (.val (need g c ∧ cl ∧ ch ∧ cm ∧ imp g p ∧ es = re.size) (.sl ⟨n, ix, b, o0, es, idx + cutOff lo m l, off, j, false⟩ (h - l) (m - l)))
        | none, _ => none
      | _, _ => none
    | some (c, .gs n ix a es i0 len cap), some r, some (cl, lo), some (ch, hi), some (cm, mx) => match r.d, bounds lo hi mx len cap with
      | .sl e, some (p, l, h, m) => match E.tb.get e with
        | some re => some (.val (need g c ∧ cl ∧ ch ∧ cm ∧ imp g p ∧ es = re.size) (.gs n ix a es (cutOff lo m l + i0) (h - l) (m - l)))
        | none => none
      | _, _ => none
    | some (c, .v (.string s)), some r, some (cl, lo), some (ch, hi), some (_, none) => match r.d, bounds lo hi none s.size s.size with
      | .str, some (p, l, h, _) => some (.val (need g c ∧ cl ∧ ch ∧ imp g p) (.v (.string (s.extract l h))))
      | _, _ => none
    | some (c, .ptr ⟨n, ix, b, o0, es, idx, off, j, _⟩), some r, some (cl, lo), some (ch, hi), some (cm, mx) => match r.d with
      | .arr k e => match E.tb.get e, bounds lo hi mx k k with
        | some re, some (p, l, h, m) => match Nat.beq re.size 1 with
          | true => some (.val (need g c ∧ cl ∧ ch ∧ cm ∧ imp g p) (.sl ⟨n, ix, b, o0, es, idx, off, j + cutOff lo m l, true⟩ (h - l) (m - l)))
          | false => none
        | _, _ => none
      | _ => none
    | _, _, _, _, _ => none
  | .extract x i => match opd tm x with
    | some (c, .tup l) => match i, l with
      | 0, .cons a _ => some (.val (need g c) a)
      | 1, .cons _ (.cons b _) => some (.val (need g c) b)
      | 2, .cons _ (.cons _ (.cons d _)) => some (.val (need g c) d)
      | _, _ => none
    | _ => none
  | .call { callee := .builtin .len, args, argTypes } => match args.toList, argTypes.toList with
    | [x], [t] => match opd tm x, E.tb.get t with
      | some (c, av), some r => match lenM M r.d av with
        | some (q, n) => some (.val (need g c ∧ imp g q) (.v (.int .i64 n)))
        | none => none
      | _, _ => none
    | _, _ => none
  | .call { callee := .builtin .cap, args, argTypes } => match args.toList, argTypes.toList with
    | [x], [t] => match opd tm x, E.tb.get t with
      | some (c, av), some r => match capV r.d av with
        | some n => some (.val (need g c) (.v (.int .i64 n)))
        | none => none
      | _, _ => none
    | _, _ => none
  | .call { callee := .value (.tmp t), args, .. } => match tm t, opds tm g (args.toList.map fun x => (0, x)) with
    | some (c, .fn f caps), some (p, l) => match E.ct f (vals l ++ caps.toL) M with
      | some (q, a) => some (.val (need g c ∧ p ∧ imp g q) a)
      | none => none
    | _, _ => none
  | .call { callee := .value (.func f), args, .. } => match opds tm g (args.toList.map fun x => (0, x)) with
    | some (p, l) => match E.ct f (vals l) M with
      | some (q, a) => some (.val (p ∧ imp g q) a)
      | none => none
    | none => none
  | _ => none

end Go.Proofs.Ytaohdlepocajcaa.V
