import Derived.Test.YtaohdlepocajcaaV16
/-! A region whose order is open: its operations in any order come to the same. -/
namespace Go.Proofs.Ytaohdlepocajcaa.V
open Go Go.RowKit

abbrev DL := List (Tmp × Nat)
def DL.get : DL → Nat → Option Nat
  | [], _ => none
  | (d, j) :: r, t => match Nat.beq d t with
    | true => some j
    | false => DL.get r t

/-- a result of operation j: its slot, what it holds, the entries of the memory that it lays or turns -/
abbrev AE := Option Tmp × (Option Bool × AV) × Mem
abbrev Acc := List (Nat × AE)
def Acc.get : Acc → Nat → Option AE
  | [], _ => none
  | (k, e) :: r, j => match Nat.beq k j with
    | true => some e
    | false => Acc.get r j
abbrev AccF := Nat → Option AE

theorem Acc.get_cons (k n : Nat) (e : AE) (M : Acc) : Acc.get ((k, e) :: M) n = if k = n then some e else M.get n := by
  show (match Nat.beq k n with | true => some e | false => M.get n) = _
  by_cases h : k = n
  · subst h; simp
  · have : Nat.beq k n = false := by
      cases hh : Nat.beq k n with
      | true => exact absurd (Nat.eq_of_beq_eq_true hh) h
      | false => rfl
    rw [this, if_neg h]

/-- the operations; which writes which slot; what each waits for; which turn an entry of the memory besides the one that lays it -/
structure Rg where
  l : List Oper
  D : DL
  masks : List Nat
  X : List (Nat × List Nat)

def getX : List (Nat × List Nat) → Nat → List Nat
  | [], _ => []
  | (k, us) :: r, n => match Nat.beq k n with
    | true => us
    | false => getX r n
/-- all that lay or turn the entry n, in the order of the text -/
def ups (G : Rg) (n : Nat) : List Nat := match G.D.get n with
  | some j => j :: getX G.X n
  | none => getX G.X n

def verM (p : Nat → Bool) (F : AccF) (n : Nat) : List Nat → Option Blk → Option Blk
  | [], cur => cur
  | i :: r, cur => verM p F n r (match p i, F i with
    | true, some e => (match e.2.2.get n with
      | some B => some B
      | none => cur)
    | _, _ => cur)
/-- the memory, likewise -/
def mviewP (G : Rg) (p : Nat → Bool) (F : AccF) (M0 : MemF) : MemF := fun n => verM p F n (ups G n) (M0 n)

/-- bit j of m, by the numerals' own operations -/
def bitN (m j : Nat) : Bool := match Nat.beq (Nat.land (Nat.shiftRight m j) 1) 0 with
  | true => false
  | false => true
theorem bitN_eq (m j : Nat) : bitN m j = Nat.testBit m j := by
  have h1 : Nat.land (Nat.shiftRight m j) 1 = (m >>> j) % 2 := Nat.and_one_is_mod (m >>> j)
  unfold bitN
  rw [h1, Nat.testBit_eq_decide_div_mod_eq, Nat.shiftRight_eq_div_pow]
  rcases Nat.mod_two_eq_zero_or_one (m / 2 ^ j) with h | h <;> rw [h] <;> rfl

def anyL (f : Nat → Bool) : List Nat → Bool
  | [] => false
  | i :: r => match f i with
    | true => true
    | false => anyL f r
/-- operation j waits for i -/
def waits (G : Rg) (j i : Nat) : Bool := match nth G.masks j with
  | some mj => bitN mj i
  | none => false
/-- the slots, as operation i sees them (m: what it waits for) -/
def viewP (G : Rg) (i m : Nat) (F : AccF) (T0 : TmF) : TmF := fun t => match G.D.get t with
  | none => T0 t
  | some j => match bitN m j, F j with
    | true, some e => some e.2.1
    | true, none => none
    | false, _ => match waits G j i with
      | true => T0 t
      | false => none
/-- i and j may come in either order -/
def loose (G : Rg) (j m i : Nat) : Bool := match Nat.beq i j, bitN m i, nth G.masks i with
  | true, _, _ => false
  | false, true, _ => false
  | false, false, some mi => !bitN mi j
  | false, false, none => true
/-- the memory as operation j sees it: without what one turns that may come in either order -/
def mviewJ (G : Rg) (j m : Nat) (F : AccF) (M0 : MemF) : MemF := fun n => match anyL (loose G j m) (ups G n) with
  | true => none
  | false => mviewP G (bitN m) F M0 n

/-- operation i, seen from what it waits for -/
def evalAt (X : Cx) (G : Rg) (T0 : TmF) (M0 : MemF) (F : AccF) (i : Nat) (o : Oper) : Option (Option Bool × Res) := match nth G.masks i with
  | none => none
  | some m => opEval X.E (dstL G.l) X.N (mviewJ G i m F M0) (viewP G i m F T0) o

def memNat : List Nat → Nat → Bool
  | [], _ => false
  | k :: r, n => match Nat.beq k n with
    | true => true
    | false => memNat r n
theorem memNat_mem : ∀ {l : List Nat} {n : Nat}, memNat l n = true → n ∈ l
  | [], _, h => by cases h
  | k :: r, n, h => by
    simp only [memNat] at h
    split at h
    · rename_i hk; rw [Nat.eq_of_beq_eq_true hk]; exact .head _
    · exact .tail _ (memNat_mem h)
/-- the tags are among those that operation i may turn -/
def tagsOk (G : Rg) (i : Nat) : List Nat → Bool
  | [] => true
  | t :: r => memNat (ups G t) i && !(Nat.beq t 777777) && tagsOk G i r

/-- the operations rest, from number i on; K: what is asked of all results -/
def okD (X : Cx) (G : Rg) (T0 : TmF) (M0 : MemF) (K : Acc → Prop) : Nat → List Oper → Acc → Prop
  | _, [], acc => K acc
  | i, o :: rest, acc => ∃ g r, evalAt X G T0 M0 acc.get i o = some (g, r) ∧ r.ok ∧ (∃ x, r.can x) ∧ tagsOk G i r.tags = true ∧
      ∀ x, r.can x → okD X G T0 M0 K (i + 1) rest ((i, o.dst, (g, r.out x), zipM r.tags (r.mem x)) :: acc)

/-! #### what the region's lists must be -/
def orEdges (masks : List Nat) : List Edge → Nat
  | [] => 0
  | e :: r => match Region.binds .any e with
    | true => match nth masks e.on with
      | some m => Nat.lor (Nat.lor (2 ^ e.on) m) (orEdges masks r)
      | none => orEdges masks r
    | false => orEdges masks r
def edgesLt (i : Nat) : List Edge → Bool
  | [] => true
  | e :: r => (!Region.binds .any e || Nat.blt e.on i) && edgesLt i r
/-- a mask holds just what its operation waits for, and what that waits for -/
def masksOk (masks : List Nat) : Nat → List Oper → Bool
  | _, [] => true
  | i, o :: r => (match nth masks i with
      | none => false
      | some m => Nat.blt m (2 ^ i) && Nat.beq m (orEdges masks o.after.toList) && edgesLt i o.after.toList) && masksOk masks (i + 1) r
def dOk (D : DL) : Nat → List Oper → Bool
  | _, [] => true
  | i, o :: r => (match o.dst with
      | none => true
      | some d => match D.get d with
        | some j => Nat.beq i j
        | none => false) && dOk D (i + 1) r
def dOk2 (q : List Oper) : DL → Bool
  | [] => true
  | (d, j) :: r => (match nth q j with
      | some o => (match o.dst with
        | some d' => Nat.beq d d'
        | none => false)
      | none => false) && dOk2 q r
/-- those that turn one entry come one behind the other -/
def pairsOk (masks : List Nat) (n : Nat) : List Nat → Bool
  | [] => true
  | a :: r => Nat.blt a n && (r.all fun b => Nat.blt a b && (match nth masks b with
      | some m => bitN m a
      | none => false)) && pairsOk masks n r
def xOk (G : Rg) (n : Nat) : List (Nat × List Nat) → Bool
  | [] => true
  | (k, _) :: r => pairsOk G.masks n (ups G k) && xOk G n r
def lenN : List Oper → Nat
  | [] => 0
  | _ :: r => lenN r + 1
theorem lenN_eq : ∀ l : List Oper, lenN l = l.length
  | [] => rfl
  | _ :: r => by rw [lenN, lenN_eq r]; rfl
def rgOk (G : Rg) : Bool := masksOk G.masks 0 G.l && dOk G.D 0 G.l && dOk2 G.l G.D && xOk G (lenN G.l) G.X

/-! #### and what that means -/
theorem testBit_lor (a b j : Nat) : Nat.testBit (Nat.lor a b) j = (Nat.testBit a j || Nat.testBit b j) := Nat.testBit_or a b j

theorem orEdges_bit {masks : List Nat} : ∀ {es : List Edge} {j : Nat}, bitN (orEdges masks es) j = true → ∃ e ∈ es, Region.binds .any e = true ∧ (e.on = j ∨ ∃ m, nth masks e.on = some m ∧ bitN m j = true)
  | [], j, h => by rw [bitN_eq] at h; simp [orEdges] at h
  | e :: r, j, h => by
    simp only [orEdges] at h
    have up : (∃ e ∈ r, Region.binds .any e = true ∧ (e.on = j ∨ ∃ m, nth masks e.on = some m ∧ bitN m j = true)) → ∃ e' ∈ e :: r, Region.binds .any e' = true ∧ (e'.on = j ∨ ∃ m, nth masks e'.on = some m ∧ bitN m j = true) :=
      fun ⟨e', h1, h2⟩ => ⟨e', List.mem_cons_of_mem _ h1, h2⟩
    split at h
    · rename_i hb
      split at h
      · rename_i m hm
        rw [bitN_eq, testBit_lor, testBit_lor, Bool.or_eq_true, Bool.or_eq_true] at h
        rcases h with (h | h) | h
        · rw [Nat.testBit_two_pow] at h
          exact ⟨e, List.mem_cons_self, hb, .inl (by simpa using h)⟩
        · exact ⟨e, List.mem_cons_self, hb, .inr ⟨m, hm, by rw [bitN_eq]; exact h⟩⟩
        · exact up (orEdges_bit (by rw [bitN_eq]; exact h))
      · exact up (orEdges_bit h)
    · exact up (orEdges_bit h)

theorem masksOk_at {masks : List Nat} : ∀ {q : List Oper} {k : Nat}, masksOk masks k q = true → ∀ i o, q[i]? = some o → ∃ m, nth masks (k + i) = some m ∧ (∀ j, bitN m j = true → j < k + i) ∧ m = orEdges masks o.after.toList ∧ edgesLt (k + i) o.after.toList = true
  | [], k, _, i, o, h => by simp at h
  | o' :: r, k, hm, i, o, h => by
    simp only [masksOk, Bool.and_eq_true] at hm
    obtain ⟨h1, h2⟩ := hm
    cases i with
    | zero =>
      simp at h
      subst h
      split at h1
      · cases h1
      · rename_i m hmk
        simp only [Bool.and_eq_true] at h1
        have hlt := blt_lt h1.1.1
        refine ⟨m, hmk, fun j hj => ?_, Nat.eq_of_beq_eq_true h1.1.2, h1.2⟩
        rw [bitN_eq] at hj
        rcases Nat.lt_or_ge j k with h | h
        · exact h
        · have := Nat.testBit_lt_two_pow (Nat.lt_of_lt_of_le hlt (Nat.pow_le_pow_right (by omega) h))
          rw [this] at hj; cases hj
    | succ i =>
      obtain ⟨m, e1, e2, e3, e4⟩ := masksOk_at h2 i o (by simpa using h)
      exact ⟨m, by rw [← e1]; congr 1; omega, fun j hj => by have := e2 j hj; omega, e3, by rw [← e4]; congr 1; omega⟩

theorem dOk_at {D : DL} : ∀ {q : List Oper} {k : Nat}, dOk D k q = true → ∀ i o d, q[i]? = some o → o.dst = some d → D.get d = some (k + i)
  | [], k, _, i, o, d, h, _ => by simp at h
  | o' :: r, k, hm, i, o, d, h, hd => by
    simp only [dOk, Bool.and_eq_true] at hm
    obtain ⟨h1, h2⟩ := hm
    cases i with
    | zero =>
      simp at h
      subst h
      rw [hd] at h1
      simp only at h1
      split at h1
      · rename_i j hj
        rw [hj, ← Nat.eq_of_beq_eq_true h1]; rfl
      · cases h1
    | succ i =>
      rw [dOk_at h2 i o d (by simpa using h) hd]; congr 1; omega

theorem dOk2_at {q : List Oper} : ∀ {D : DL}, dOk2 q D = true → ∀ d j, D.get d = some j → ∃ o, q[j]? = some o ∧ o.dst = some d
  | [], _, d, j, h => by cases h
  | (d', j') :: r, hm, d, j, h => by
    simp only [dOk2, Bool.and_eq_true] at hm
    simp only [DL.get] at h
    split at h
    · rename_i hd
      cases h
      have hd := Nat.eq_of_beq_eq_true hd
      subst hd
      have h1 := hm.1
      rw [nth_eq] at h1
      split at h1
      · rename_i o ho
        split at h1
        · rename_i d2 hd2
          exact ⟨o, ho, by rw [hd2, Nat.eq_of_beq_eq_true h1]⟩
        · cases h1
      · cases h1
    · exact dOk2_at hm.2 d j h

theorem edgesLt_at {i : Nat} : ∀ {es : List Edge}, edgesLt i es = true → ∀ e ∈ es, Region.binds .any e = true → e.on < i
  | [], _, e, he, _ => by cases he
  | e' :: r, h, e, he, hb => by
    simp only [edgesLt, Bool.and_eq_true, Bool.or_eq_true] at h
    rcases List.mem_cons.1 he with rfl | he
    · rcases h.1 with h1 | h1
      · rw [hb] at h1; cases h1
      · exact blt_lt h1
    · exact edgesLt_at h.2 e he hb

/-- what stands in a list of those that turn one entry -/
def Ord (masks : List Nat) (n : Nat) (us : List Nat) : Prop := (∀ a ∈ us, a < n) ∧ us.Pairwise fun a b => a < b ∧ ∃ m, nth masks b = some m ∧ bitN m a = true
theorem pairsOk_ord {masks : List Nat} {n : Nat} : ∀ {us : List Nat}, pairsOk masks n us = true → Ord masks n us
  | [], _ => ⟨fun _ h => (by cases h), List.Pairwise.nil⟩
  | a :: r, h => by
    simp only [pairsOk, Bool.and_eq_true] at h
    obtain ⟨⟨h1, h2⟩, h3⟩ := h
    obtain ⟨i1, i2⟩ := pairsOk_ord h3
    refine ⟨fun b hb => ?_, List.pairwise_cons.2 ⟨fun b hb => ?_, i2⟩⟩
    · rcases List.mem_cons.1 hb with rfl | hb
      · exact blt_lt h1
      · exact i1 b hb
    · have := List.all_eq_true.1 h2 b hb
      simp only [Bool.and_eq_true] at this
      refine ⟨blt_lt this.1, ?_⟩
      have h4 := this.2
      split at h4
      · rename_i m hm; exact ⟨m, hm, h4⟩
      · cases h4
theorem ups_ord {G : Rg} (hG : rgOk G = true) (n : Nat) : Ord G.masks G.l.length (ups G n) := by
  simp only [rgOk, Bool.and_eq_true] at hG
  obtain ⟨⟨⟨_, _⟩, hd2⟩, hx⟩ := hG
  rw [lenN_eq] at hx
  have key : ∀ (L : List (Nat × List Nat)), xOk G G.l.length L = true → (getX L n ≠ [] → pairsOk G.masks G.l.length (ups G n) = true) := by
    intro L
    induction L with
    | nil => intro _ h; exact absurd rfl h
    | cons x r ih =>
      obtain ⟨k, us⟩ := x
      intro h
      simp only [xOk, Bool.and_eq_true] at h
      simp only [getX]
      split
      · rename_i hk
        intro _
        rw [← Nat.eq_of_beq_eq_true hk]; exact h.1
      · exact ih h.2
  by_cases hz : getX G.X n = []
  · unfold ups
    rw [hz]
    split
    · rename_i j hj
      obtain ⟨o, h1, _⟩ := dOk2_at hd2 n j hj
      exact ⟨fun a ha => by rw [List.mem_singleton.1 ha]; exact (List.getElem?_eq_some_iff.1 h1).1, List.pairwise_singleton _ _⟩
    · exact ⟨fun _ h => (by cases h), List.Pairwise.nil⟩
  · exact pairsOk_ord (key _ hx hz)

theorem tagsOk_at {G : Rg} {i : Nat} : ∀ {ts : List Nat}, tagsOk G i ts = true → ∀ t ∈ ts, i ∈ ups G t ∧ t ≠ 777777
  | [], _, t, h => by cases h
  | t' :: r, h, t, ht => by
    simp only [tagsOk, Bool.and_eq_true, Bool.not_eq_true'] at h
    rcases List.mem_cons.1 ht with rfl | ht
    · exact ⟨memNat_mem h.1.1, fun e => by rw [e] at h; simp at h⟩
    · exact tagsOk_at h.2 t ht
theorem zipM_mem : ∀ {ts : List Nat} {L : List Blk} {n : Nat} {B : Blk}, (zipM ts L).get n = some B → n ∈ ts
  | [], L, n, B, h => by cases L <;> cases h
  | t :: ts, [], n, B, h => by cases h
  | t :: ts, B' :: L, n, B, h => by
    have h' : (if t = n then some B' else (zipM ts L).get n) = some B := by rw [← Mem.get_cons]; exact h
    split at h'
    · rename_i e; rw [e]; exact .head _
    · exact .tail _ (zipM_mem h')
theorem anyL_false {f : Nat → Bool} : ∀ {l : List Nat}, anyL f l = false → ∀ i ∈ l, f i = false
  | [], _, i, h => by cases h
  | k :: r, h, i, hi => by
    simp only [anyL] at h
    split at h
    · cases h
    · rename_i hf
      rcases List.mem_cons.1 hi with rfl | hi
      · exact hf
      · exact anyL_false h i hi

/-! #### the memory by versions -/
section
variable {p p' : Nat → Bool} {F F' : AccF} {n : Nat}
theorem verM_append : ∀ (a b : List Nat) (cur : Option Blk), verM p F n (a ++ b) cur = verM p F n b (verM p F n a cur)
  | [], _, _ => rfl
  | i :: r, b, cur => by rw [List.cons_append, verM, verM, verM_append r b]
theorem verM_congr : ∀ {us : List Nat} {cur : Option Blk}, (∀ u ∈ us, p u = p' u ∧ (p u = true → F u = F' u)) → verM p F n us cur = verM p' F' n us cur
  | [], _, _ => rfl
  | i :: r, cur, h => by
    obtain ⟨h1, h2⟩ := h i (.head _)
    rw [verM, verM, verM_congr fun u hu => h u (.tail _ hu)]
    congr 1
    cases hp : p i with
    | false => rw [← h1, hp]
    | true => rw [← h1, hp, h2 hp]
theorem verM_off : ∀ {us : List Nat} {cur : Option Blk}, (∀ u ∈ us, p u = false) → verM p F n us cur = cur
  | [], _, _ => rfl
  | i :: r, cur, h => by
    rw [verM, verM_off fun u hu => h u (.tail _ hu), h i (.head _)]

/-- the entry that operation i has laid -/
def entry (F : AccF) (n i : Nat) : Option Blk := match F i with
  | some e => e.2.2.get n
  | none => none
/-- the last one's -/
def IsLast (F : AccF) (n : Nat) (us : List Nat) (cur res : Option Blk) : Prop :=
  (∃ i ∈ us, (∃ B, entry F n i = some B ∧ res = some B) ∧ ∀ j ∈ us, i < j → entry F n j = none) ∨ ((∀ i ∈ us, entry F n i = none) ∧ res = cur)
theorem verM_last : ∀ {us : List Nat} {cur : Option Blk}, us.Pairwise (· < ·) → IsLast F n us cur (verM (fun _ => true) F n us cur)
  | [], cur, _ => .inr ⟨fun _ h => (by cases h), rfl⟩
  | i :: r, cur, h => by
    obtain ⟨h1, h2⟩ := List.pairwise_cons.1 h
    rw [verM]
    have step : (match true, F i with | true, some e => (match e.2.2.get n with | some B => some B | none => cur) | _, _ => cur) = match entry F n i with | some B => some B | none => cur := by
      unfold entry
      cases F i <;> rfl
    rw [step]
    rcases verM_last (cur := match entry F n i with | some B => some B | none => cur) h2 with ⟨j, hj, h3, h4⟩ | ⟨h3, h4⟩
    · refine .inl ⟨j, .tail _ hj, h3, fun k hk hjk => ?_⟩
      rcases List.mem_cons.1 hk with rfl | hk
      · have := h1 j hj; omega
      · exact h4 k hk hjk
    · rw [h4]
      cases he : entry F n i with
      | some B =>
        refine .inl ⟨i, .head _, ⟨B, he, rfl⟩, fun k hk hik => ?_⟩
        rcases List.mem_cons.1 hk with rfl | hk
        · omega
        · exact h3 k hk
      | none =>
        refine .inr ⟨fun k hk => ?_, rfl⟩
        rcases List.mem_cons.1 hk with rfl | hk
        · exact he
        · exact h3 k hk
theorem IsLast.uniq {us vs : List Nat} {cur r r' : Option Blk} (h : IsLast F n us cur r) (h' : IsLast F n vs cur r') (h1 : ∀ i ∈ us, (entry F n i).isSome = true → i ∈ vs) (h2 : ∀ i ∈ vs, (entry F n i).isSome = true → i ∈ us) : r = r' := by
  rcases h with ⟨i, hi, ⟨B, hB, rfl⟩, hl⟩ | ⟨hn, rfl⟩ <;> rcases h' with ⟨j, hj, ⟨B', hB', rfl⟩, hl'⟩ | ⟨hn', rfl⟩
  · have a1 := h1 i hi (by rw [hB]; rfl)
    have a2 := h2 j hj (by rw [hB']; rfl)
    rcases Nat.lt_trichotomy i j with hlt | rfl | hlt
    · rw [hl j a2 hlt] at hB'; cases hB'
    · rw [hB] at hB'; exact hB'
    · rw [hl' i a1 hlt] at hB; cases hB
  · have := hn' i (h1 i hi (by rw [hB]; rfl)); rw [hB] at this; cases this
  · have := hn j (h2 j hj (by rw [hB']; rfl)); rw [hB'] at this; cases this
  · rfl
end
end Go.Proofs.Ytaohdlepocajcaa.V
