import Derived.Test.YtofophjfgalhaaaGreatDoorMisdeedPoolsW05
set_option linter.unusedVariables false
set_option linter.unusedSimpArgs false
set_option maxRecDepth 100000
set_option maxHeartbeats 8000000
namespace Go.Proofs.YtofophjfgalhaaaGreatDoor.V
open Go Go.RowKit
abbrev DL := List (Tmp × Nat)
def DL.get : DL → Nat → Option Nat
 | [], _ => none
 | (d, j) :: r, t => match Nat.beq d t with
  | true => some j
  | false => DL.get r t
abbrev AE := Option Tmp × (Option Bool × AV) × Mem
abbrev Acc := List (Nat × AE)
def Acc.get : Acc → Nat → Option AE
 | [], _ => none
 | (k, e) :: r, j => match Nat.beq k j with
  | true => some e
  | false => Acc.get r j
abbrev AccF := Nat → Option AE
theorem Acc.get_cons (k n : Nat) (e : AE) (M : Acc) : Acc.get ((k, e) :: M) n = if k = n then some e else M.get n := by
 show (match Nat.beq k n with | true => some e | false => M.get n) = _
 by_cases h : k = n
 ·
  subst h; simp
 ·
  have : Nat.beq k n = false := by
   cases hh : Nat.beq k n with
   | true => exact absurd (Nat.eq_of_beq_eq_true hh) h
   | false => rfl
  rw [this, if_neg h]
structure Rg where
 l : List Oper
 D : DL
 masks : List Nat
 X : List (Nat × List Nat)
def getX : List (Nat × List Nat) → Nat → List Nat
 | [], _ => []
 | (k, us) :: r, n => match Nat.beq k n with
  | true => us
  | false => getX r n
def ups (G : Rg) (n : Nat) : List Nat := match G.D.get n with
 | some j => j :: getX G.X n
 | none => getX G.X n
def verM (p : Nat → Bool) (F : AccF) (n : Nat) : List Nat → Option Blk → Option Blk
 | [], cur => cur
 | i :: r, cur => verM p F n r (match p i, F i with
  | true, some e => (match e.2.2.get n with
   | some B => some B
   | none => cur)
  | _, _ => cur)
def mviewP (G : Rg) (p : Nat → Bool) (F : AccF) (M0 : MemF) : MemF := fun n => verM p F n (ups G n) (M0 n)
def bitN (m j : Nat) : Bool := match Nat.beq (Nat.land (Nat.shiftRight m j) 1) 0 with
 | true => false
 | false => true
theorem bitN_eq (m j : Nat) : bitN m j = Nat.testBit m j := by
 have h1 : Nat.land (Nat.shiftRight m j) 1 = (m >>> j) % 2 := Nat.and_one_is_mod (m >>> j)
 unfold bitN
 rw [h1, Nat.testBit_eq_decide_div_mod_eq, Nat.shiftRight_eq_div_pow]
 rcases Nat.mod_two_eq_zero_or_one (m / 2 ^ j) with h | h <;> rw [h] <;> rfl
def anyL (f : Nat → Bool) : List Nat → Bool
 | [] => false
 | i :: r => match f i with
  | true => true
  | false => anyL f r
def waits (G : Rg) (j i : Nat) : Bool := match nth G.masks j with
 | some mj => bitN mj i
 | none => false
def viewP (G : Rg) (i m : Nat) (F : AccF) (T0 : TmF) : TmF := fun t => match G.D.get t with
 | none => T0 t
 | some j => match bitN m j, F j with
  | true, some e => some e.2.1
  | true, none => none
  | false, _ => match waits G j i with
   | true => T0 t
   | false => none
def loose (G : Rg) (j m i : Nat) : Bool := match Nat.beq i j, bitN m i, nth G.masks i with
 | true, _, _ => false
 | false, true, _ => false
 | false, false, some mi => !bitN mi j
 | false, false, none => true
def mviewJ (G : Rg) (j m : Nat) (F : AccF) (M0 : MemF) : MemF := fun n => match anyL (loose G j m) (ups G n) with
 | true => none
 | false => mviewP G (bitN m) F M0 n
def evalAt (X : Cx) (G : Rg) (T0 : TmF) (M0 : MemF) (F : AccF) (i : Nat) (o : Oper) : Option (Option Bool × Res) := match nth G.masks i with
 | none => none
 | some m => opEval X.E (dstL G.l) X.N (mviewJ G i m F M0) (viewP G i m F T0) o
def memNat : List Nat → Nat → Bool
 | [], _ => false
 | k :: r, n => match Nat.beq k n with
  | true => true
  | false => memNat r n
theorem memNat_mem : ∀ {l : List Nat} {n : Nat}, memNat l n = true → n ∈ l
 | [], _, h => by cases h
 | k :: r, n, h => by
  simp only [memNat] at h
  split at h
  ·
   rename_i hk; rw [Nat.eq_of_beq_eq_true hk]; exact .head _
  ·
   exact .tail _ (memNat_mem h)
def tagsOk (G : Rg) (i : Nat) : List Nat → Bool
 | [] => true
 | t :: r => memNat (ups G t) i && !(Nat.beq t 777777) && tagsOk G i r
def okD (X : Cx) (G : Rg) (T0 : TmF) (M0 : MemF) (K : Acc → Prop) : Nat → List Oper → Acc → Prop
 | _, [], acc => K acc
 | i, o :: rest, acc => ∃ g r, evalAt X G T0 M0 acc.get i o = some (g, r) ∧ r.ok ∧ (∃ x, r.can x) ∧ tagsOk G i r.tags = true ∧
   ∀ x, r.can x → okD X G T0 M0 K (i + 1) rest ((i, o.dst, (g, r.out x), zipM r.tags (r.mem x)) :: acc)
def orEdges (masks : List Nat) : List Edge → Nat
 | [] => 0
 | e :: r => match Region.binds .any e with
  | true => match nth masks e.on with
   | some m => Nat.lor (Nat.lor (2 ^ e.on) m) (orEdges masks r)
   | none => orEdges masks r
  | false => orEdges masks r
def edgesLt (i : Nat) : List Edge → Bool
 | [] => true
 | e :: r => (!Region.binds .any e || Nat.blt e.on i) && edgesLt i r
def masksOk (masks : List Nat) : Nat → List Oper → Bool
 | _, [] => true
 | i, o :: r => (match nth masks i with
   | none => false
   | some m => Nat.blt m (2 ^ i) && Nat.beq m (orEdges masks o.after.toList) && edgesLt i o.after.toList) && masksOk masks (i + 1) r
def dOk (D : DL) : Nat → List Oper → Bool
 | _, [] => true
 | i, o :: r => (match o.dst with
   | none => true
   | some d => match D.get d with
    | some j => Nat.beq i j
    | none => false) && dOk D (i + 1) r
def dOk2 (q : List Oper) : DL → Bool
 | [] => true
 | (d, j) :: r => (match nth q j with
   | some o => (match o.dst with
    | some d' => Nat.beq d d'
    | none => false)
   | none => false) && dOk2 q r
def pairsOk (masks : List Nat) (n : Nat) : List Nat → Bool
 | [] => true
 | a :: r => Nat.blt a n && (r.all fun b => Nat.blt a b && (match nth masks b with
   | some m => bitN m a
   | none => false)) && pairsOk masks n r
def xOk (G : Rg) (n : Nat) : List (Nat × List Nat) → Bool
 | [] => true
 | (k, _) :: r => pairsOk G.masks n (ups G k) && xOk G n r
def lenN : List Oper → Nat
 | [] => 0
 | _ :: r => lenN r + 1
theorem lenN_eq : ∀ l : List Oper, lenN l = l.length
 | [] => rfl
 | _ :: r => by rw [lenN, lenN_eq r]; rfl
def rgOk (G : Rg) : Bool := masksOk G.masks 0 G.l && dOk G.D 0 G.l && dOk2 G.l G.D && xOk G (lenN G.l) G.X
theorem testBit_lor (a b j : Nat) : Nat.testBit (Nat.lor a b) j = (Nat.testBit a j || Nat.testBit b j) := Nat.testBit_or a b j
theorem orEdges_bit {masks : List Nat} : ∀ {es : List Edge} {j : Nat}, bitN (orEdges masks es) j = true → ∃ e ∈ es, Region.binds .any e = true ∧ (e.on = j ∨ ∃ m, nth masks e.on = some m ∧ bitN m j = true)
 | [], j, h => by rw [bitN_eq] at h; simp [orEdges] at h
 | e :: r, j, h => by
  simp only [orEdges] at h
  have up : (∃ e ∈ r, Region.binds .any e = true ∧ (e.on = j ∨ ∃ m, nth masks e.on = some m ∧ bitN m j = true)) → ∃ e' ∈ e :: r, Region.binds .any e' = true ∧ (e'.on = j ∨ ∃ m, nth masks e'.on = some m ∧ bitN m j = true) :=
   fun ⟨e', h1, h2⟩ => ⟨e', List.mem_cons_of_mem _ h1, h2⟩
  split at h
  ·
   rename_i hb
   split at h
   ·
    rename_i m hm
    rw [bitN_eq, testBit_lor, testBit_lor, Bool.or_eq_true, Bool.or_eq_true] at h
    rcases h with (h | h) | h
    ·
     rw [Nat.testBit_two_pow] at h
     exact ⟨e, List.mem_cons_self, hb, .inl (by simpa using h)⟩
    ·
     exact ⟨e, List.mem_cons_self, hb, .inr ⟨m, hm, by rw [bitN_eq]; exact h⟩⟩
    ·
     exact up (orEdges_bit (by rw [bitN_eq]; exact h))
   ·
    exact up (orEdges_bit h)
  ·
   exact up (orEdges_bit h)
theorem masksOk_at {masks : List Nat} : ∀ {q : List Oper} {k : Nat}, masksOk masks k q = true → ∀ i o, q[i]? = some o → ∃ m, nth masks (k + i) = some m ∧ (∀ j, bitN m j = true → j < k + i) ∧ m = orEdges masks o.after.toList ∧ edgesLt (k + i) o.after.toList = true
 | [], k, _, i, o, h => by simp at h
 | o' :: r, k, hm, i, o, h => by
  simp only [masksOk, Bool.and_eq_true] at hm
  obtain ⟨h1, h2⟩ := hm
  cases i with
  | zero =>
   simp at h
   subst h
   split at h1
   ·
    cases h1
   ·
    rename_i m hmk
    simp only [Bool.and_eq_true] at h1
    have hlt := blt_lt h1.1.1
    refine ⟨m, hmk, fun j hj => ?_, Nat.eq_of_beq_eq_true h1.1.2, h1.2⟩
    rw [bitN_eq] at hj
    rcases Nat.lt_or_ge j k with h | h
    ·
     exact h
    ·
     have := Nat.testBit_lt_two_pow (Nat.lt_of_lt_of_le hlt (Nat.pow_le_pow_right (by omega) h))
     rw [this] at hj; cases hj
  | succ i =>
   obtain ⟨m, e1, e2, e3, e4⟩ := masksOk_at h2 i o (by simpa using h)
   exact ⟨m, by rw [← e1]; congr 1; omega, fun j hj => by have := e2 j hj; omega, e3, by rw [← e4]; congr 1; omega⟩
theorem dOk_at {D : DL} : ∀ {q : List Oper} {k : Nat}, dOk D k q = true → ∀ i o d, q[i]? = some o → o.dst = some d → D.get d = some (k + i)
 | [], k, _, i, o, d, h, _ => by simp at h
 | o' :: r, k, hm, i, o, d, h, hd => by
  simp only [dOk, Bool.and_eq_true] at hm
  obtain ⟨h1, h2⟩ := hm
  cases i with
  | zero =>
   simp at h
   subst h
   rw [hd] at h1
   simp only at h1
   split at h1
   ·
    rename_i j hj
    rw [hj, ← Nat.eq_of_beq_eq_true h1]; rfl
   ·
    cases h1
  | succ i =>
   rw [dOk_at h2 i o d (by simpa using h) hd]; congr 1; omega
theorem dOk2_at {q : List Oper} : ∀ {D : DL}, dOk2 q D = true → ∀ d j, D.get d = some j → ∃ o, q[j]? = some o ∧ o.dst = some d
 | [], _, d, j, h => by cases h
 | (d', j') :: r, hm, d, j, h => by
  simp only [dOk2, Bool.and_eq_true] at hm
  simp only [DL.get] at h
  split at h
  ·
   rename_i hd
   cases h
   have hd := Nat.eq_of_beq_eq_true hd
   subst hd
   have h1 := hm.1
   rw [nth_eq] at h1
   split at h1
   ·
    rename_i o ho
    split at h1
    ·
     rename_i d2 hd2
     exact ⟨o, ho, by rw [hd2, Nat.eq_of_beq_eq_true h1]⟩
    ·
     cases h1
   ·
    cases h1
  ·
   exact dOk2_at hm.2 d j h
theorem edgesLt_at {i : Nat} : ∀ {es : List Edge}, edgesLt i es = true → ∀ e ∈ es, Region.binds .any e = true → e.on < i
 | [], _, e, he, _ => by cases he
 | e' :: r, h, e, he, hb => by
  simp only [edgesLt, Bool.and_eq_true, Bool.or_eq_true] at h
  rcases List.mem_cons.1 he with rfl | he
  ·
   rcases h.1 with h1 | h1
   ·
    rw [hb] at h1; cases h1
   ·
    exact blt_lt h1
  ·
   exact edgesLt_at h.2 e he hb
def Ord (masks : List Nat) (n : Nat) (us : List Nat) : Prop := (∀ a ∈ us, a < n) ∧ us.Pairwise fun a b => a < b ∧ ∃ m, nth masks b = some m ∧ bitN m a = true
theorem pairsOk_ord {masks : List Nat} {n : Nat} : ∀ {us : List Nat}, pairsOk masks n us = true → Ord masks n us
 | [], _ => ⟨fun _ h => (by cases h), List.Pairwise.nil⟩
 | a :: r, h => by
  simp only [pairsOk, Bool.and_eq_true] at h
  obtain ⟨⟨h1, h2⟩, h3⟩ := h
  obtain ⟨i1, i2⟩ := pairsOk_ord h3
  refine ⟨fun b hb => ?_, List.pairwise_cons.2 ⟨fun b hb => ?_, i2⟩⟩
  ·
   rcases List.mem_cons.1 hb with rfl | hb
   ·
    exact blt_lt h1
   ·
    exact i1 b hb
  ·
   have := List.all_eq_true.1 h2 b hb
   simp only [Bool.and_eq_true] at this
   refine ⟨blt_lt this.1, ?_⟩
   have h4 := this.2
   split at h4
   ·
    rename_i m hm; exact ⟨m, hm, h4⟩
   ·
    cases h4
theorem ups_ord {G : Rg} (hG : rgOk G = true) (n : Nat) : Ord G.masks G.l.length (ups G n) := by
 simp only [rgOk, Bool.and_eq_true] at hG
 obtain ⟨⟨⟨_, _⟩, hd2⟩, hx⟩ := hG
 rw [lenN_eq] at hx
 have key : ∀ (L : List (Nat × List Nat)), xOk G G.l.length L = true → (getX L n ≠ [] → pairsOk G.masks G.l.length (ups G n) = true) := by
  intro L
  induction L with
  | nil => intro _ h; exact absurd rfl h
  | cons x r ih =>
   obtain ⟨k, us⟩ := x
   intro h
   simp only [xOk, Bool.and_eq_true] at h
   simp only [getX]
   split
   ·
    rename_i hk
    intro _
    rw [← Nat.eq_of_beq_eq_true hk]; exact h.1
   ·
    exact ih h.2
 by_cases hz : getX G.X n = []
 ·
  unfold ups
  rw [hz]
  split
  ·
   rename_i j hj
   obtain ⟨o, h1, _⟩ := dOk2_at hd2 n j hj
   exact ⟨fun a ha => by rw [List.mem_singleton.1 ha]; exact (List.getElem?_eq_some_iff.1 h1).1, List.pairwise_singleton _ _⟩
  ·
   exact ⟨fun _ h => (by cases h), List.Pairwise.nil⟩
 ·
  exact pairsOk_ord (key _ hx hz)
theorem tagsOk_at {G : Rg} {i : Nat} : ∀ {ts : List Nat}, tagsOk G i ts = true → ∀ t ∈ ts, i ∈ ups G t ∧ t ≠ 777777
 | [], _, t, h => by cases h
 | t' :: r, h, t, ht => by
  simp only [tagsOk, Bool.and_eq_true, Bool.not_eq_true'] at h
  rcases List.mem_cons.1 ht with rfl | ht
  ·
   exact ⟨memNat_mem h.1.1, fun e => by rw [e] at h; simp at h⟩
  ·
   exact tagsOk_at h.2 t ht
theorem zipM_mem : ∀ {ts : List Nat} {L : List Blk} {n : Nat} {B : Blk}, (zipM ts L).get n = some B → n ∈ ts
 | [], L, n, B, h => by cases L <;> cases h
 | t :: ts, [], n, B, h => by cases h
 | t :: ts, B' :: L, n, B, h => by
  have h' : (if t = n then some B' else (zipM ts L).get n) = some B := by rw [← Mem.get_cons]; exact h
  split at h'
  ·
   rename_i e; rw [e]; exact .head _
  ·
   exact .tail _ (zipM_mem h')
theorem anyL_false {f : Nat → Bool} : ∀ {l : List Nat}, anyL f l = false → ∀ i ∈ l, f i = false
 | [], _, i, h => by cases h
 | k :: r, h, i, hi => by
  simp only [anyL] at h
  split at h
  ·
   cases h
  ·
   rename_i hf
   rcases List.mem_cons.1 hi with rfl | hi
   ·
    exact hf
   ·
    exact anyL_false h i hi
section
variable {p p' : Nat → Bool} {F F' : AccF} {n : Nat}
theorem verM_append : ∀ (a b : List Nat) (cur : Option Blk), verM p F n (a ++ b) cur = verM p F n b (verM p F n a cur)
 | [], _, _ => rfl
 | i :: r, b, cur => by rw [List.cons_append, verM, verM, verM_append r b]
theorem verM_congr : ∀ {us : List Nat} {cur : Option Blk}, (∀ u ∈ us, p u = p' u ∧ (p u = true → F u = F' u)) → verM p F n us cur = verM p' F' n us cur
 | [], _, _ => rfl
 | i :: r, cur, h => by
  obtain ⟨h1, h2⟩ := h i (.head _)
  rw [verM, verM, verM_congr fun u hu => h u (.tail _ hu)]
  congr 1
  cases hp : p i with
  | false => rw [← h1, hp]
  | true => rw [← h1, hp, h2 hp]
theorem verM_off : ∀ {us : List Nat} {cur : Option Blk}, (∀ u ∈ us, p u = false) → verM p F n us cur = cur
 | [], _, _ => rfl
 | i :: r, cur, h => by
  rw [verM, verM_off fun u hu => h u (.tail _ hu), h i (.head _)]
def entry (F : AccF) (n i : Nat) : Option Blk := match F i with
 | some e => e.2.2.get n
 | none => none
def IsLast (F : AccF) (n : Nat) (us : List Nat) (cur res : Option Blk) : Prop :=
 (∃ i ∈ us, (∃ B, entry F n i = some B ∧ res = some B) ∧ ∀ j ∈ us, i < j → entry F n j = none) ∨ ((∀ i ∈ us, entry F n i = none) ∧ res = cur)
theorem verM_last : ∀ {us : List Nat} {cur : Option Blk}, us.Pairwise (· < ·) → IsLast F n us cur (verM (fun _ => true) F n us cur)
 | [], cur, _ => .inr ⟨fun _ h => (by cases h), rfl⟩
 | i :: r, cur, h => by
  obtain ⟨h1, h2⟩ := List.pairwise_cons.1 h
  rw [verM]
  have step : (match true, F i with | true, some e => (match e.2.2.get n with | some B => some B | none => cur) | _, _ => cur) = match entry F n i with | some B => some B | none => cur := by
   unfold entry
   cases F i <;> rfl
  rw [step]
  rcases verM_last (cur := match entry F n i with | some B => some B | none => cur) h2 with ⟨j, hj, h3, h4⟩ | ⟨h3, h4⟩
  ·
   refine .inl ⟨j, .tail _ hj, h3, fun k hk hjk => ?_⟩
   rcases List.mem_cons.1 hk with rfl | hk
   ·
    have := h1 j hj; omega
   ·
    exact h4 k hk hjk
  ·
   rw [h4]
   cases he : entry F n i with
   | some B =>
    refine .inl ⟨i, .head _, ⟨B, he, rfl⟩, fun k hk hik => ?_⟩
    rcases List.mem_cons.1 hk with rfl | hk
    ·
     omega
    ·
     exact h3 k hk
   | none =>
    refine .inr ⟨fun k hk => ?_, rfl⟩
    rcases List.mem_cons.1 hk with rfl | hk
    ·
     exact he
    ·
     exact h3 k hk
theorem IsLast.uniq {us vs : List Nat} {cur r r' : Option Blk} (h : IsLast F n us cur r) (h' : IsLast F n vs cur r') (h1 : ∀ i ∈ us, (entry F n i).isSome = true → i ∈ vs) (h2 : ∀ i ∈ vs, (entry F n i).isSome = true → i ∈ us) : r = r' := by
 rcases h with ⟨i, hi, ⟨B, hB, rfl⟩, hl⟩ | ⟨hn, rfl⟩ <;> rcases h' with ⟨j, hj, ⟨B', hB', rfl⟩, hl'⟩ | ⟨hn', rfl⟩
 ·
  have a1 := h1 i hi (by rw [hB]; rfl)
  have a2 := h2 j hj (by rw [hB']; rfl)
  rcases Nat.lt_trichotomy i j with hlt | rfl | hlt
  ·
   rw [hl j a2 hlt] at hB'; cases hB'
  ·
   rw [hB] at hB'; exact hB'
  ·
   rw [hl' i a1 hlt] at hB; cases hB
 ·
  have := hn' i (h1 i hi (by rw [hB]; rfl)); rw [hB] at this; cases this
 ·
  have := hn j (h2 j hj (by rw [hB']; rfl)); rw [hB'] at this; cases this
 ·
  rfl
end
def cnt (p : Nat → Bool) : Nat → Nat
 | 0 => 0
 | n + 1 => cnt p n + if p n = true then 1 else 0
theorem cnt_same {p p' : Nat → Bool} : ∀ {n : Nat}, (∀ j, j < n → p' j = p j) → cnt p' n = cnt p n
 | 0, _ => rfl
 | n + 1, h => by rw [cnt, cnt, cnt_same fun j hj => h j (by omega), h n (by omega)]
theorem cnt_less {p p' : Nat → Bool} {i : Nat} (h1 : p i = true) (h2 : p' i = false) (h3 : ∀ j, j ≠ i → p' j = p j) : ∀ {n : Nat}, i < n → cnt p n = cnt p' n + 1
 | 0, h => by omega
 | n + 1, h => by
  by_cases hi : i = n
  ·
   subst hi
   rw [cnt, cnt, h1, h2, cnt_same (p := p) (p' := p') fun j hj => h3 j (by omega)]
   simp
  ·
   rw [cnt, cnt, cnt_less h1 h2 h3 (by omega), h3 n (by omega)]
   omega
theorem cnt_zero {p : Nat → Bool} : ∀ {n : Nat}, cnt p n = 0 → ∀ i, i < n → p i = false
 | 0, _, i, hi => by omega
 | n + 1, h, i, hi => by
  rw [cnt] at h
  cases hp : p n with
  | true => rw [hp] at h; simp at h
  | false =>
   rw [hp] at h
   by_cases hin : i = n
   ·
    subst hin; exact hp
   ·
    exact cnt_zero (by simpa using h) i (by omega)
theorem cnt_all (p : Nat → Bool) : ∀ n, cnt p n ≤ n
 | 0 => Nat.le_refl _
 | n + 1 => by rw [cnt]; have := cnt_all p n; split <;> omega
def accOk : Nat → Acc → Prop
 | 0, [] => True
 | k + 1, (j, _) :: r => j = k ∧ accOk k r
 | _, _ => False
theorem accOk_lt : ∀ {k : Nat} {acc : Acc}, accOk k acc → ∀ j, k ≤ j → acc.get j = none
 | 0, [], _, j, _ => rfl
 | 0, _ :: _, h, _, _ => h.elim
 | k + 1, [], h, _, _ => h.elim
 | k + 1, (i, e) :: r, h, j, hj => by
  rw [Acc.get_cons, if_neg (by have := h.1; omega)]
  exact accOk_lt h.2 j (by omega)
def finalT : Acc → Tm → Tm
 | [], T => T
 | (_, some d, (g, a), _) :: r, T => (d, g, a) :: finalT r T
 | (_, none, _, _) :: r, T => finalT r T
def finalM : Acc → Mem → Mem
 | [], M => M
 | (_, _, _, m) :: r, M => Mem.app m (finalM r M)
section
variable {X : Cx} {G : Rg} {T0 : Tm} {M0 : Mem}
theorem view_congr {i m : Nat} {F F' : AccF} {T : TmF} (h : ∀ j, bitN m j = true → F j = F' j) : viewP G i m F T = viewP G i m F' T := by
 funext t
 unfold viewP
 split
 ·
  rfl
 ·
  rename_i j _
  cases hp : bitN m j with
  | false => rfl
  | true => rw [h j hp]
theorem mviewJ_congr {j m : Nat} {F F' : AccF} {M : MemF} (h : ∀ i, bitN m i = true → F i = F' i) : mviewJ G j m F M = mviewJ G j m F' M := by
 funext n
 unfold mviewJ mviewP
 split
 ·
  rfl
 ·
  exact verM_congr fun u _ => ⟨rfl, fun hu => h u hu⟩
theorem evalAt_congr {F F' : AccF} {i : Nat} {o : Oper} (h : ∀ m, nth G.masks i = some m → ∀ j, bitN m j = true → F j = F' j) : evalAt X G T0.get M0.get F i o = evalAt X G T0.get M0.get F' i o := by
 unfold evalAt
 split
 ·
  rfl
 ·
  rename_i m hm
  rw [view_congr (h m hm), mviewJ_congr (h m hm)]
def ConsAt (X : Cx) (G : Rg) (T0 : Tm) (M0 : Mem) (F : AccF) (i : Nat) (o : Oper) : Prop :=
 ∃ g r x, evalAt X G T0.get M0.get F i o = some (g, r) ∧ r.ok ∧ tagsOk G i r.tags = true ∧ r.can x ∧ F i = some (o.dst, (g, r.out x), zipM r.tags (r.mem x))
def Closed (G : Rg) (S : Nat → Bool) : Prop := ∀ i m, i < G.l.length → S i = true → nth G.masks i = some m → ∀ j, bitN m j = true → S j = true
def PCons (X : Cx) (G : Rg) (T0 : Tm) (M0 : Mem) (S : Nat → Bool) (F : AccF) : Prop := ∀ i o, G.l[i]? = some o → S i = true → ConsAt X G T0 M0 F i o
theorem walk (hm : masksOk G.masks 0 G.l = true) {S : Nat → Bool} (hS : Closed G S) {F : AccF} (hF : PCons X G T0 M0 S F) {K : Acc → Prop} : ∀ {rest : List Oper} {i : Nat} {acc : Acc}, okD X G T0.get M0.get K i rest acc → G.l.drop i = rest → i ≤ G.l.length →
  (∀ j o, G.l[j]? = some o → j < i → ConsAt X G T0 M0 acc.get j o) → (∀ j, j < i → S j = true → acc.get j = F j) → accOk i acc →
  ∃ acc', K acc' ∧ (∀ j o, G.l[j]? = some o → ConsAt X G T0 M0 acc'.get j o) ∧ (∀ j, j < G.l.length → S j = true → acc'.get j = F j) ∧ accOk G.l.length acc'
 | [], i, acc, h, hd, hi, hc, hs, hn => by
  have hl : G.l.length ≤ i := by simpa using hd
  have he : i = G.l.length := by omega
  subst he
  exact ⟨acc, h, fun j o hj => hc j o hj (List.getElem?_eq_some_iff.1 hj).1, hs, hn⟩
 | o :: rest, i, acc, h, hd, hi, hc, hs, hn => by
  obtain ⟨g, r, h1, h2, ⟨x0, h3⟩, h4, h5⟩ := h
  obtain ⟨e1, e2⟩ := drop_succ hd
  have hil : i < G.l.length := (List.getElem?_eq_some_iff.1 e1).1
  have hmk := masksOk_at hm
  -- the choice
  obtain ⟨x, hx, hxF⟩ : ∃ x, r.can x ∧ (S i = true → F i = some (o.dst, (g, r.out x), zipM r.tags (r.mem x))) := by
   cases hSi : S i with
   | false => exact ⟨x0, h3, fun h => by cases h⟩
   | true =>
    obtain ⟨g', r', x', c1, c2, c3, c4, c5⟩ := hF i o e1 hSi
    have : evalAt X G T0.get M0.get acc.get i o = evalAt X G T0.get M0.get F i o := by
     refine evalAt_congr fun m hm' j hj => ?_
     obtain ⟨m', f1, f2, _⟩ := hmk i o e1
     rw [Nat.zero_add] at f1 f2
     rw [f1] at hm'; cases hm'
     exact hs j (f2 j hj) (hS i m hil hSi f1 j hj)
    rw [this, c1] at h1
    cases h1
    exact ⟨x', c4, fun _ => c5⟩
  have same : ∀ j, j < i → acc.get j = Acc.get ((i, o.dst, (g, r.out x), zipM r.tags (r.mem x)) :: acc) j := fun j hj => by rw [Acc.get_cons, if_neg (by omega)]
  have cong : ∀ j o', G.l[j]? = some o' → j ≤ i → evalAt X G T0.get M0.get acc.get j o' = evalAt X G T0.get M0.get (Acc.get ((i, o.dst, (g, r.out x), zipM r.tags (r.mem x)) :: acc)) j o' := by
   intro j o' hj hle
   refine evalAt_congr fun m hmm k hk => same k ?_
   obtain ⟨m', f1, f2, _⟩ := hmk j o' hj
   rw [Nat.zero_add] at f1 f2
   rw [f1] at hmm
   cases hmm
   have := f2 k hk
   omega
  refine walk hm hS hF (h5 x hx) e2 hil (fun j o' hj hlt => ?_) (fun j hj hSj => ?_) ⟨rfl, hn⟩
  ·
   by_cases hji : j = i
   ·
    subst hji
    rw [e1] at hj
    cases hj
    exact ⟨g, r, x, by rw [← cong j o e1 (Nat.le_refl _)]; exact h1, h2, h4, hx, by rw [Acc.get_cons, if_pos rfl]⟩
   ·
    obtain ⟨g', r', x', c1, c2, c3, c4, c5⟩ := hc j o' hj (by omega)
    exact ⟨g', r', x', by rw [← cong j o' hj (by omega)]; exact c1, c2, c3, c4, by rw [← same j (by omega)]; exact c5⟩
  ·
   by_cases hji : j = i
   ·
    subst hji
    rw [Acc.get_cons, if_pos rfl, hxF hSj]
   ·
    rw [← same j (by omega)]
    exact hs j (by omega) hSj
structure Mid (X : Cx) (G : Rg) (T0 : Tm) (M0 : Mem) (S : Nat → Bool) (F : AccF) (a : Act) (w : World) : Prop where
 size : a.tmps.size = X.N
 d : a.defers = M0.dfs
 out : ∀ t e, T0.get t = some e → (∀ j, G.D.get t = some j → S j = false) → SlotOk a t e
 inn : ∀ j x t, j < G.l.length → S j = true → F j = some x → x.1 = some t → SlotOk a t x.2.1
 mem : Sat X.O X.w0 (mviewP G S F M0.get) w
theorem mviewJ_sub (hG : rgOk G = true) {S : Nat → Bool} (hS : Closed G S) {F : AccF} {i m : Nat} (hmi : nth G.masks i = some m) (hlt : ∀ j, bitN m j = true → j < i) (hpre : ∀ j, bitN m j = true → S j = true) (hSi : S i = false) (n : Nat) (B : Blk) (h : mviewJ G i m F M0.get n = some B) : mviewP G S F M0.get n = some B := by
 unfold mviewJ at h
 split at h
 ·
  cases h
 ·
  rename_i hany
  rw [← h]
  unfold mviewP
  refine verM_congr fun u hu => ?_
  have hl := anyL_false hany u hu
  have hul := (ups_ord hG n).1 u hu
  by_cases hui : u = i
  ·
   subst hui
   have hb : bitN m u = false := by
    cases hb : bitN m u with
    | false => rfl
    | true => have := hlt u hb; omega
   exact ⟨hSi.trans hb.symm, fun _ => rfl⟩
  ·
   refine ⟨?_, fun _ => rfl⟩
   cases hb : bitN m u with
   | true => exact hpre u hb
   | false =>
    cases hSu : S u with
    | false => rfl
    | true =>
     unfold loose at hl
     have hbe : Nat.beq u i = false := by
      cases hbb : Nat.beq u i with
      | false => rfl
      | true => exact absurd (Nat.eq_of_beq_eq_true hbb) hui
     rw [hbe, hb] at hl
     cases hmu : nth G.masks u with
     | none => rw [hmu] at hl; cases hl
     | some mu =>
      rw [hmu] at hl
      simp only [Bool.not_eq_false'] at hl
      have := hS u mu hul hSu hmu i hl
      rw [hSi] at this; cases this
theorem Mid.view (hG : rgOk G = true) {F F' : AccF} {S : Nat → Bool} (hS : Closed G S) {a : Act} {w : World} (hM : Mid X G T0 M0 S F a w) (hF : PCons X G T0 M0 S F) {i m : Nat} (hmi : nth G.masks i = some m) (hlt : ∀ j, bitN m j = true → j < i) (hpre : ∀ j, bitN m j = true → S j = true) (hSi : S i = false)
  (hF' : ∀ j, bitN m j = true → F' j = F j) : SatT X.N (viewP G i m F' T0.get) a ∧ Sat X.O X.w0 (mviewJ G i m F' M0.get) w := by
 have hGo := hG
 simp only [rgOk, Bool.and_eq_true] at hGo
 obtain ⟨⟨⟨_, hd⟩, hd2⟩, _⟩ := hGo
 rw [view_congr hF', mviewJ_congr hF']
 constructor
 ·
  refine ⟨hM.size, fun t e h => ?_⟩
  unfold viewP at h
  split at h
  ·
   rename_i hn; exact hM.out t e h (fun j hj => by rw [hn] at hj; cases hj)
  ·
   rename_i j hj
   split at h
   rotate_left
   ·
    cases h
   ·
    split at h
    ·
     rename_i hwj
     refine hM.out t e h fun j' hj' => ?_
     rw [hj] at hj'
     cases hj'
     obtain ⟨oj, q1, _⟩ := dOk2_at hd2 t j hj
     cases hSj : S j with
     | false => rfl
     | true =>
      unfold waits at hwj
      split at hwj
      ·
       rename_i mj hmj
       have := hS j mj (List.getElem?_eq_some_iff.1 q1).1 hSj hmj i hwj
       rw [hSi] at this; cases this
      ·
       cases hwj
    ·
     cases h
   ·
    rename_i x hpj hFj
    cases h
    obtain ⟨o, h1, h2⟩ := dOk2_at hd2 t j hj
    have hjl := (List.getElem?_eq_some_iff.1 h1).1
    obtain ⟨g, r, y, _, _, _, _, c5⟩ := hF j o h1 (hpre j hpj)
    refine hM.inn j x t hjl (hpre j hpj) hFj ?_
    rw [hFj] at c5
    cases c5
    exact h2
 ·
  exact hM.mem.weaken fun n B hB => ⟨B, mviewJ_sub hG hS hmi hlt hpre hSi n B hB, Blk.le_refl B⟩
theorem verM_with {S : Nat → Bool} {F F' : AccF} {i n : Nat} {L : MemF} (hSi : S i = false) (hsame : ∀ j, j ≠ i → F' j = F j) {e : AE} (hFi : F' i = some e) (hL : e.2.2.get n = L n) {us : List Nat} (cur : Option Blk) (hin : i ∈ us) (ho : us.Pairwise fun a b => a < b) (hlate : ∀ u ∈ us, i < u → S u = false) :
  verM (fun j => if j = i then true else S j) F' n us cur = match L n with | some B => some B | none => verM S F n us cur := by
 obtain ⟨l1, l2, rfl⟩ := List.append_of_mem hin
 have hp := List.pairwise_append.1 ho
 have h1 : ∀ u ∈ l1, u ≠ i := fun u hu e => by have := hp.2.2 u hu i (.head _); omega
 have h2 : ∀ u ∈ l2, i < u := fun u hu => (List.pairwise_cons.1 hp.2.1).1 u hu
 rw [verM_append, verM_append, verM, verM]
 have c1 : verM (fun j => if j = i then true else S j) F' n l1 cur = verM S F n l1 cur := verM_congr fun u hu => ⟨by simp [h1 u hu], fun _ => hsame u (h1 u hu)⟩
 rw [c1, verM_off (us := l2) (p := fun j => if j = i then true else S j) fun u hu => by
  have := h2 u hu
  simp only [if_neg (show ¬ u = i by omega)]
  exact hlate u (by simp [hu]) this]
 rw [verM_off (us := l2) (p := S) fun u hu => hlate u (by simp [hu]) (h2 u hu), hSi]
 (simp only [if_true, hFi, hL]) <;> rfl
theorem mid_step (hG : rgOk G = true) {K : Acc → Prop} (hK : okD X G T0.get M0.get K 0 G.l []) {S : Nat → Bool} {F : AccF} (hF : PCons X G T0 M0 S F) {a : Act} {w : World} (hM : Mid X G T0 M0 S F a w)
  (hS : Closed G S) {i : Nat} {o : Oper} (ho : G.l[i]? = some o) (hSi : S i = false)
  (hpre : ∀ m, nth G.masks i = some m → ∀ j, bitN m j = true → S j = true) {next : Act → World → Prop} {Q : Exit → Act → World → Prop}
  (hk : ∀ F' a' w', PCons X G T0 M0 (fun j => if j = i then true else S j) F' → Mid X G T0 M0 (fun j => if j = i then true else S j) F' a' w' → next a' w') :
  if Region.wanted o (yielded G.l.toArray a.tmps) = true then o.wp X.P a w next Q else next (a.put o.dst undef) w := by
 have hGo := hG
 simp only [rgOk, Bool.and_eq_true] at hGo
 obtain ⟨⟨⟨hm, hd⟩, hd2⟩, _⟩ := hGo
 have hl : i < G.l.length := (List.getElem?_eq_some_iff.1 ho).1
 obtain ⟨acc, _, hC, hA, _⟩ := walk hm hS hF hK rfl (Nat.zero_le _) (fun j _ _ hj => by omega) (fun j hj => by omega) trivial
 obtain ⟨g, r, x0, c1, c2, c3, c4, _⟩ := hC i o ho
 obtain ⟨m, f1, f2, _⟩ := masksOk_at hm i o ho
 rw [Nat.zero_add] at f1 f2
 have hprem := hpre m f1
 have hev := c1
 unfold evalAt at hev
 rw [f1] at hev
 simp only at hev
 have haF : ∀ j, bitN m j = true → acc.get j = F j := fun j hj => hA j (by have := f2 j hj; omega) (hprem j hj)
 obtain ⟨vT, vM⟩ := hM.view hG hS hF f1 f2 hprem hSi haF
 refine opEval_sound X.hb X.he X.hct X.hcr (ops := G.l.toArray) dstL_at hev c2 ⟨x0, c4⟩ vT vM fun x v w' hx hturn hv => ?_
 -- the results with this one
 have hF'i : (fun j => if j = i then some (o.dst, (g, r.out x), zipM r.tags (r.mem x)) else F j) i = some (o.dst, (g, r.out x), zipM r.tags (r.mem x)) := by simp
 have hF'n : ∀ j, j ≠ i → (fun j => if j = i then some (o.dst, (g, r.out x), zipM r.tags (r.mem x)) else F j) j = F j := fun j hj => by simp [hj]
 generalize hFdef : (fun j => if j = i then some (o.dst, (g, r.out x), zipM r.tags (r.mem x)) else F j) = F' at hF'i hF'n
 have hcons : PCons X G T0 M0 (fun j => if j = i then true else S j) F' := by
  intro j o' hj hSj
  by_cases hji : j = i
  ·
   subst hji
   rw [ho] at hj; cases hj
   refine ⟨g, r, x, ?_, c2, c3, hx, hF'i⟩
   rw [← c1]
   refine evalAt_congr fun m' hm' k hk => ?_
   rw [f1] at hm'; cases hm'
   have := f2 k hk
   rw [hF'n k (by omega), haF k hk]
  ·
   simp only [if_neg hji] at hSj
   obtain ⟨g', r', x', b1, b2, b3, b4, b5⟩ := hF j o' hj hSj
   refine ⟨g', r', x', ?_, b2, b3, b4, by rw [hF'n j hji]; exact b5⟩
   rw [← b1]
   refine evalAt_congr fun m' hm' u hu => hF'n u fun e => ?_
   have := hS j m' (List.getElem?_eq_some_iff.1 hj).1 hSj hm' u hu
   rw [e, hSi] at this; cases this
 refine hk F' _ w' hcons ⟨by rw [put_size]; exact hM.size, ?_, fun t e ht hn => ?_, fun j y t hj hSj hy hyt => ?_, ?_⟩
 ·
  rw [← hM.d]; cases o.dst <;> rfl
 ·
  have := hM.out t e ht (fun j hj => by
   have := hn j hj
   by_cases hji : j = i
   ·
    rw [if_pos hji] at this; cases this
   ·
    rw [if_neg hji] at this; exact this)
  cases hod : o.dst with
  | none => exact this
  | some d =>
   refine slot_ne (fun e' => ?_) this
   subst e'
   have := hn _ (dOk_at hd i o d ho hod)
   simp at this
 ·
  by_cases hji : j = i
  ·
   subst hji
   rw [hF'i] at hy
   cases hy
   have hdN : Nat.blt t X.N = true := opEval_dst hev t hyt
   have hdN := blt_lt hdN
   simp only at hyt
   rw [hyt]
   have h1 : t < (a.put (some t) v).tmps.size := by rw [put_size, hM.size]; exact hdN
   cases g with
   | none => exact ⟨h1, by rw [put_get hM.size hdN]; exact hv⟩
   | some g => exact ⟨h1, by rw [put_get hM.size hdN]; exact hv⟩
  ·
   simp only [if_neg hji] at hSj
   rw [hF'n j hji] at hy
   have h1 := hM.inn j y t hj hSj hy hyt
   cases hod : o.dst with
   | none => exact h1
   | some d =>
    refine slot_ne (fun e => ?_) h1
    subst e
    obtain ⟨o', ho'⟩ : ∃ o, G.l[j]? = some o := ⟨_, List.getElem?_eq_getElem hj⟩
    obtain ⟨g4, r4, x4, _, _, _, _, k5⟩ := hF j o' ho' hSj
    rw [hy] at k5
    cases k5
    have q1 := dOk_at hd j o' d ho' hyt
    have q2 := dOk_at hd i o d ho hod
    rw [q1] at q2
    simp only [Nat.zero_add, Option.some.injEq] at q2
    exact hji q2
 ·
  -- the memory
  have hturn' : Turn (mviewP G S F M0.get) w w' (zipM r.tags (r.mem x)).get := by
   have hsub : ∀ n B, mviewJ G i m acc.get M0.get n = some B → mviewP G S F M0.get n = some B := fun n B h => by
    rw [mviewJ_congr haF] at h
    exact mviewJ_sub hG hS f1 f2 hprem hSi n B h
   refine ⟨hturn.os, hturn.tape, hturn.output, hturn.drawn, hturn.size, fun k hk hno => hturn.block k hk fun n B B' hL hM' => hno n B B' hL (hsub n B hM'), hturn.holds, fun n B b hL ho' => ?_, hturn.apart, hturn.noreads⟩
   rcases hturn.own n B b hL ho' with h1 | ⟨n', B0, B1, h1, h2, h3⟩
   ·
    exact .inl h1
   ·
    exact .inr ⟨n', B0, B1, h1, hsub _ _ h2, h3⟩
  have hnew := hM.mem.turn hturn' X.hO
  have heq : mviewP G (fun j => if j = i then true else S j) F' M0.get = updM (zipM r.tags (r.mem x)).get (mviewP G S F M0.get) := by
   funext n
   obtain ⟨hol, hop⟩ := ups_ord hG n
   unfold mviewP
   by_cases hin : i ∈ ups G n
   ·
    have := verM_with (S := S) (F := F) (F' := F') (n := n) (L := (zipM r.tags (r.mem x)).get) hSi hF'n hF'i rfl (M0.get n) hin (hop.imp fun h => h.1) (fun u hu hiu => by
     cases hSu : S u with
     | false => rfl
     | true =>
      obtain ⟨q1, q2, q3⟩ := List.append_of_mem hin
      -- of two, the later waits for the earlier
      have hbit : ∃ mu, nth G.masks u = some mu ∧ bitN mu i = true := by
       have hpw := hop
       rw [q3] at hpw hu
       have hp := List.pairwise_append.1 hpw
       rcases List.mem_append.1 hu with hu | hu
       ·
        have := (hp.2.2 u hu i (.head _)).1; omega
       ·
        rcases List.mem_cons.1 hu with rfl | hu
        ·
         omega
        ·
         exact ((List.pairwise_cons.1 hp.2.1).1 u hu).2
      obtain ⟨mu, hmu, hbu⟩ := hbit
      have := hS u mu (hol u hu) hSu hmu i hbu
      rw [hSi] at this; cases this)
    rw [this]; rfl
   ·
    have hLn : (zipM r.tags (r.mem x)).get n = none := by
     cases hz : (zipM r.tags (r.mem x)).get n with
     | none => rfl
     | some B => exact absurd (tagsOk_at c3 n (zipM_mem hz)).1 hin
    unfold updM
    rw [hLn]
    refine verM_congr fun u hu => ?_
    have hui : u ≠ i := fun e => hin (e ▸ hu)
    exact ⟨by simp [hui], fun _ => hF'n u hui⟩
  rw [heq]
  exact hnew
theorem finalT_get {T0 : Tm} : ∀ {k : Nat} {acc : Acc} {t e}, accOk k acc → (finalT acc T0).get t = some e → (∃ j x, j < k ∧ acc.get j = some x ∧ x.1 = some t ∧ x.2.1 = e) ∨ ((∀ j x, acc.get j = some x → x.1 ≠ some t) ∧ T0.get t = some e)
 | 0, [], t, e, _, h => .inr ⟨fun _ _ hx => (by cases hx), h⟩
 | 0, _ :: _, _, _, ha, _ => ha.elim
 | k + 1, [], _, _, ha, _ => ha.elim
 | k + 1, (i, od, (g, a), m) :: r, t, e, ha, h => by
  obtain ⟨rfl, ha⟩ := ha
  have go : (finalT r T0).get t = some e → (od ≠ some t) → (∃ j x, j < i + 1 ∧ Acc.get ((i, od, (g, a), m) :: r) j = some x ∧ x.1 = some t ∧ x.2.1 = e) ∨ ((∀ j x, Acc.get ((i, od, (g, a), m) :: r) j = some x → x.1 ≠ some t) ∧ T0.get t = some e) := by
   intro h hne
   rcases finalT_get ha h with ⟨j, x, h0, h1, h2, h3⟩ | ⟨h1, h2⟩
   ·
    exact .inl ⟨j, x, by omega, by rw [Acc.get_cons, if_neg (by omega)]; exact h1, h2, h3⟩
   ·
    refine .inr ⟨fun j x hj => ?_, h2⟩
    rw [Acc.get_cons] at hj
    split at hj
    ·
     cases hj; exact hne
    ·
     exact h1 j x hj
  cases od with
  | none => exact go h (by simp)
  | some d =>
   have h' : (if d = t then some (g, a) else (finalT r T0).get t) = some e := by rw [← Tm.get_cons]; exact h
   split at h'
   ·
    rename_i hd
    cases h'
    exact .inl ⟨i, _, Nat.lt_succ_self _, by rw [Acc.get_cons, if_pos rfl], by rw [hd], rfl⟩
   ·
    rename_i hd
    exact go h' (fun e => hd (Option.some.inj e))
theorem finalM_last {M0 : Mem} {n : Nat} : ∀ {k : Nat} {acc : Acc}, accOk k acc → IsLast acc.get n (List.range k) (M0.get n) ((finalM acc M0).get n)
 | 0, [], _ => .inr ⟨fun i hi => by simp at hi, rfl⟩
 | 0, _ :: _, ha => ha.elim
 | k + 1, [], ha => ha.elim
 | k + 1, (i, od, ga, m) :: r, ha => by
  obtain ⟨rfl, ha⟩ := ha
  have hget : (finalM ((i, od, ga, m) :: r) M0).get n = match m.get n with | some B => some B | none => (finalM r M0).get n := by
   show (Mem.app m (finalM r M0)).get n = _
   rw [Mem.app_get]; rfl
  have hself : entry (Acc.get ((i, od, ga, m) :: r)) n i = m.get n := by unfold entry; rw [Acc.get_cons, if_pos rfl]
  have hold : ∀ j, j < i → entry (Acc.get ((i, od, ga, m) :: r)) n j = entry (Acc.get r) n j := fun j hj => by unfold entry; rw [Acc.get_cons, if_neg (by omega)]
  rw [hget]
  cases hm : m.get n with
  | some B => exact .inl ⟨i, by simp, ⟨B, by rw [hself, hm], rfl⟩, fun j hj hij => by simp at hj; omega⟩
  | none =>
   rcases finalM_last (M0 := M0) (n := n) ha with ⟨j, hj, ⟨B, h1, h2⟩, h3⟩ | ⟨h1, h2⟩
   ·
    simp only [List.mem_range] at hj
    refine .inl ⟨j, by simp; omega, ⟨B, by rw [hold j hj]; exact h1, h2⟩, fun u hu hju => ?_⟩
    simp only [List.mem_range] at hu
    by_cases hui : u = i
    ·
     rw [hui, hself, hm]
    ·
     rw [hold u (by omega)]; exact h3 u (by simp; omega) hju
   ·
    refine .inr ⟨fun u hu => ?_, h2⟩
    simp only [List.mem_range] at hu
    by_cases hui : u = i
    ·
     rw [hui, hself, hm]
    ·
     rw [hold u (by omega)]; exact h1 u (by simp; omega)
theorem finalM_dfs : ∀ {k : Nat} {acc : Acc}, accOk k acc → (∀ j x, acc.get j = some x → x.2.2.get 777777 = none) → (finalM acc M0).dfs = M0.dfs
 | 0, [], _, _ => rfl
 | 0, _ :: _, ha, _ => ha.elim
 | k + 1, [], ha, _ => ha.elim
 | k + 1, (i, od, ga, m) :: r, ha, h => by
  obtain ⟨rfl, ha⟩ := ha
  show (Mem.app m (finalM r M0)).dfs = _
  rw [app_dfs (L := m) (M := finalM r M0) (h i (od, ga, m) (by rw [Acc.get_cons, if_pos rfl]))]
  refine finalM_dfs ha fun j x hj => h j x ?_
  have hne : ¬ i = j := fun e => by rw [accOk_lt ha j (by omega)] at hj; cases hj
  rw [Acc.get_cons, if_neg hne]; exact hj
theorem mid_end (hG : rgOk G = true) {K : Acc → Prop} (hK : okD X G T0.get M0.get K 0 G.l []) {S : Nat → Bool} {F : AccF} (hF : PCons X G T0 M0 S F) (hcl : Closed G S) {a : Act} {w : World} (hM : Mid X G T0 M0 S F a w) (hS : ∀ j, j < G.l.length → S j = true) :
  ∃ acc, K acc ∧ At X (finalT acc T0) (finalM acc M0) a w := by
 have hGo := hG
 simp only [rgOk, Bool.and_eq_true] at hGo
 obtain ⟨⟨⟨hm, hd⟩, hd2⟩, _⟩ := hGo
 obtain ⟨acc, hKa, hC, hA, hok⟩ := walk hm hcl hF hK rfl (Nat.zero_le _) (fun j _ _ hj => by omega) (fun j hj => by omega) trivial
 have cons : ∀ j x, acc.get j = some x → ∃ (o : Oper) (g : Option Bool) (r : Res) (y : r.β), G.l[j]? = some o ∧ tagsOk G j r.tags = true ∧ x = (o.dst, (g, r.out y), zipM r.tags (r.mem y)) := by
  intro j x hj
  have hjl : j < G.l.length := by
   rcases Nat.lt_or_ge j G.l.length with h | h
   ·
    exact h
   ·
    rw [accOk_lt hok j h] at hj; cases hj
  obtain ⟨o, ho⟩ : ∃ o, G.l[j]? = some o := ⟨_, List.getElem?_eq_getElem hjl⟩
  obtain ⟨g, r, y, _, _, c3, _, c5⟩ := hC j o ho
  rw [hj] at c5
  cases c5
  exact ⟨o, g, r, y, ho, c3, rfl⟩
 refine ⟨acc, hKa, ⟨hM.size, fun t e h => ?_⟩, ?_, ?_⟩
 ·
  rcases finalT_get hok h with ⟨j, x, h0, h1, h2, h3⟩ | ⟨h1, h2⟩
  ·
   have := hM.inn j x t h0 (hS j h0) (by rw [← hA j h0 (hS j h0)]; exact h1) h2
   rw [h3] at this
   exact this
  ·
   refine hM.out t e h2 fun j hD => ?_
   ·
    obtain ⟨o, k1, k2⟩ := dOk2_at hd2 t j hD
    obtain ⟨g, r, y, _, _, _, _, c5⟩ := hC j o k1
    exact absurd k2 (h1 j _ c5)
 ·
  rw [finalM_dfs hok fun j x hj => ?_]
  ·
   exact hM.d
  ·
   obtain ⟨o, g, r, y, _, c3, rfl⟩ := cons j x hj
   cases hz : (zipM r.tags (r.mem y)).get 777777 with
   | none => rfl
   | some B => exact absurd rfl (tagsOk_at c3 _ (zipM_mem hz)).2
 ·
  refine hM.mem.weaken fun n B hB => ⟨B, ?_, Blk.le_refl B⟩
  obtain ⟨hol, hop⟩ := ups_ord hG n
  have e1 : mviewP G S F M0.get n = verM (fun _ => true) acc.get n (ups G n) (M0.get n) := by
   unfold mviewP
   exact verM_congr fun u hu => ⟨hS u (hol u hu), fun _ => (hA u (hol u hu) (hS u (hol u hu))).symm⟩
  rw [e1, ← hB]
  refine (verM_last (hop.imp fun h => h.1)).uniq (finalM_last hok) (fun i hi _ => by simpa using hol i hi) fun i hi he => ?_
  unfold entry at he
  cases hx : acc.get i with
  | none => rw [hx] at he; cases he
  | some x =>
   rw [hx] at he
   obtain ⟨o, g, r, y, _, c3, rfl⟩ := cons i x hx
   obtain ⟨B', hB'⟩ := Option.isSome_iff_exists.1 he
   exact (tagsOk_at c3 n (zipM_mem hB')).1
end
section
variable {X : Cx} {G : Rg} {T0 : Tm} {M0 : Mem}
theorem closed_masks (hm : masksOk G.masks 0 G.l = true) {S : Nat → Bool} (hS : ∀ i o, G.l[i]? = some o → S i = true → ∀ e ∈ o.after.toList, Region.binds .any e = true → S e.on = true) :
  ∀ n i m, i < n → i < G.l.length → S i = true → nth G.masks i = some m → ∀ j, bitN m j = true → S j = true
 | 0, i, m, hi, _, _, _, _, _ => by omega
 | n + 1, i, m, hi, hl, hSi, hmi, j, hj => by
  obtain ⟨o, ho⟩ : ∃ o, G.l[i]? = some o := ⟨_, List.getElem?_eq_getElem hl⟩
  obtain ⟨m', f1, f2, f3, f4⟩ := masksOk_at hm i o ho
  rw [Nat.zero_add] at f1 f2 f4
  rw [f1] at hmi
  cases hmi
  rw [f3] at hj
  obtain ⟨e, he, hb, h⟩ := orEdges_bit hj
  have hSe := hS i o ho hSi e he hb
  have hlt := edgesLt_at f4 e he hb
  rcases h with rfl | ⟨m2, h1, h2⟩
  ·
   exact hSe
  ·
   exact closed_masks hm hS n e.on m2 (by omega) (by omega) hSe h1 j h2
theorem ready_mem {ops : Array Oper} {listed : Array Bool} {i : Nat} (h : i ∈ Region.ready .any ops listed) : i < ops.size ∧ listed.getD i true = false ∧ ∃ o, ops[i]? = some o ∧ ∀ e ∈ o.after.toList, Region.binds .any e = true → listed.getD e.on false = true := by
 unfold Region.ready at h
 rw [List.mem_filter] at h
 obtain ⟨h1, h2⟩ := h
 simp only [Bool.and_eq_true, Bool.not_eq_true'] at h2
 refine ⟨List.mem_range.1 h1, h2.1, ?_⟩
 cases ho : ops[i]? with
 | none => rw [ho] at h2; simp at h2
 | some o =>
  rw [ho] at h2
  refine ⟨o, rfl, fun e he hb => ?_⟩
  have h3 := h2.2
  simp only [Option.map_some, Option.getD_some] at h3
  have := (Array.all_eq_true_iff_forall_mem.1 h3) e (by simpa using he)
  simpa [hb] using this
theorem ready_of {ops : Array Oper} {listed : Array Bool} {i : Nat} {o : Oper} (h1 : i < ops.size) (h2 : listed.getD i true = false) (h3 : ops[i]? = some o) (h4 : ∀ e ∈ o.after.toList, Region.binds .any e = true → listed.getD e.on false = true) : i ∈ Region.ready .any ops listed := by
 unfold Region.ready
 rw [List.mem_filter]
 refine ⟨List.mem_range.2 h1, ?_⟩
 simp only [h2, Bool.not_false, Bool.true_and, h3, Option.map_some, Option.getD_some]
 rw [Array.all_eq_true_iff_forall_mem]
 intro e he
 cases hb : Region.binds .any e with
 | false => rfl
 | true => simpa using h4 e (by simpa using he) hb
theorem gd_eq (listed : Array Bool) (j : Nat) (hj : j < listed.size) : listed.getD j true = listed.getD j false := by
 rw [Array.getD_eq_getD_getElem?, Array.getD_eq_getD_getElem?, Array.getElem?_eq_getElem hj]; rfl
theorem any_run (hG : rgOk G = true) {K : Acc → Prop} (hK : okD X G T0.get M0.get K 0 G.l []) {Q : Exit → Act → World → Prop}
  (hQ : ∀ acc a w, K acc → At X (finalT acc T0) (finalM acc M0) a w → Q .normal a w) :
  ∀ (fuel : Nat) (listed : Array Bool) (a : Act) (w : World), listed.size = G.l.length → cnt (fun j => !listed.getD j true) G.l.length ≤ fuel →
   (∀ i o, G.l[i]? = some o → listed.getD i false = true → ∀ e ∈ o.after.toList, Region.binds .any e = true → listed.getD e.on false = true) →
   (∃ F, PCons X G T0 M0 (fun j => listed.getD j false) F ∧ Mid X G T0 M0 (fun j => listed.getD j false) F a w) →
   wpAny X.P .any G.l.toArray Q fuel listed a w := by
 have hGo := hG
 simp only [rgOk, Bool.and_eq_true] at hGo
 obtain ⟨⟨⟨hm, _⟩, _⟩, _⟩ := hGo
 have cl : ∀ (listed : Array Bool), (∀ i o, G.l[i]? = some o → listed.getD i false = true → ∀ e ∈ o.after.toList, Region.binds .any e = true → listed.getD e.on false = true) → Closed G (fun j => listed.getD j false) :=
  fun listed h i m hi hSi hmi j hj => closed_masks hm (S := fun j => listed.getD j false) h (i + 1) i m (by omega) hi hSi hmi j hj
 have fin : ∀ (listed : Array Bool) (a : Act) (w : World), (∀ j, j < G.l.length → listed.getD j false = true) →
   (∀ i o, G.l[i]? = some o → listed.getD i false = true → ∀ e ∈ o.after.toList, Region.binds .any e = true → listed.getD e.on false = true) →
   (∃ F, PCons X G T0 M0 (fun j => listed.getD j false) F ∧ Mid X G T0 M0 (fun j => listed.getD j false) F a w) → Q .normal a w := by
  rintro listed a w hall hcl ⟨F, hF, hM⟩
  obtain ⟨acc, hKa, hA⟩ := mid_end hG hK hF (cl listed hcl) hM hall
  exact hQ acc a w hKa hA
 intro fuel
 induction fuel with
 | zero =>
  intro listed a w hsz hc hcl h2
  have hall : ∀ j, j < G.l.length → listed.getD j false = true := fun j hj => by
   have := cnt_zero (Nat.le_zero.1 hc) j hj
   rw [← gd_eq listed j (by omega)]
   simpa using this
  refine ⟨?_, fin listed a w hall hcl h2⟩
  cases hr : Region.ready .any G.l.toArray listed with
  | nil => rfl
  | cons i r =>
   have := ready_mem (hr ▸ List.mem_cons_self : i ∈ Region.ready .any G.l.toArray listed)
   rw [List.size_toArray] at this
   rw [gd_eq listed i (by omega), hall i this.1] at this
   cases this.2.1
 | succ fuel ih =>
  intro listed a w hsz hc hcl h2
  refine ⟨fun hr => ?_, fun i hi => ?_⟩
  ·
   by_cases hall : ∀ j, j < G.l.length → listed.getD j false = true
   ·
    exact fin listed a w hall hcl h2
   ·
    exfalso
    have hex : ∃ j, j < G.l.length ∧ listed.getD j false = false := by
     apply Classical.byContradiction
     intro hno
     refine hall fun j hj => ?_
     cases hb : listed.getD j false with
     | true => rfl
     | false => exact absurd ⟨j, hj, hb⟩ hno
    obtain ⟨j, ⟨hj, hjf⟩, hmin⟩ := exists_least (fun j => j < G.l.length ∧ listed.getD j false = false) hex
    have hbelow : ∀ k, k < j → listed.getD k false = true := fun k hk => by
     cases hb : listed.getD k false with
     | true => rfl
     | false => have := hmin k ⟨by omega, hb⟩; omega
    obtain ⟨o, ho⟩ : ∃ o, G.l[j]? = some o := ⟨_, List.getElem?_eq_getElem hj⟩
    have hready : j ∈ Region.ready .any G.l.toArray listed := by
     refine ready_of (o := o) (by simpa using hj) (by rw [gd_eq listed j (by omega)]; exact hjf) (by simpa using ho) fun e he hb => ?_
     obtain ⟨m, f1, f2, f3, f4⟩ := masksOk_at hm j o ho
     rw [Nat.zero_add] at f4
     exact hbelow _ (edgesLt_at f4 e he hb)
    rw [hr] at hready
    cases hready
  ·
   obtain ⟨hin, hif, o, ho, hedges⟩ := ready_mem hi
   rw [List.size_toArray] at hin
   have hif' : listed.getD i false = false := by rw [← gd_eq listed i (by omega)]; exact hif
   rw [List.getElem?_toArray] at ho
   obtain ⟨F, hF, hM⟩ := h2
   have hsz' : (listed.setIfInBounds i true).size = G.l.length := by simpa using hsz
   have hget : ∀ j d, (listed.setIfInBounds i true).getD j d = if j = i then true else listed.getD j d := fun j d => by
    rw [Array.getD_eq_getD_getElem?, Array.getD_eq_getD_getElem?]
    by_cases hji : j = i
    ·
     subst hji; rw [Array.getElem?_setIfInBounds_self_of_lt (by omega), if_pos rfl]; rfl
    ·
     rw [Array.getElem?_setIfInBounds_ne (fun e => hji e.symm), if_neg hji]
   have hcnt : cnt (fun j => !(listed.setIfInBounds i true).getD j true) G.l.length ≤ fuel := by
    have := cnt_less (p := fun j => !listed.getD j true) (p' := fun j => !(listed.setIfInBounds i true).getD j true) (i := i) (by simp only [hif]; rfl) (by simp only [hget, if_true]; rfl) (fun j hj => by simp only [hget, if_neg hj]) (n := G.l.length) hin
    omega
   unfold wpOp
   simp only [List.getElem?_toArray, ho]
   have wrap : ∀ {next : Act → World → Prop}, (if Region.wanted o (yielded G.l.toArray a.tmps) = true then o.wp X.P a w next Q else next (a.put o.dst undef) w) →
     (if Region.wanted o (yielded G.l.toArray a.tmps) = true then o.wp X.P a w next Q ∨ (o.asks X.P a w ∧ LetsOut Q) else next (a.put o.dst undef) w) := by
    intro next h
    split
    ·
     rename_i hw; rw [if_pos hw] at h; exact .inl h
    ·
     rename_i hw; rw [if_neg hw] at h; exact h
   refine wrap (mid_step hG hK hF hM (cl listed hcl) ho hif' ?_ ?_)
   ·
    intro m hm' j hj
    obtain ⟨m', f1, f2, f3, f4⟩ := masksOk_at hm i o ho
    rw [Nat.zero_add] at f1 f2 f4
    rw [f1] at hm'; cases hm'
    rw [f3] at hj
    obtain ⟨e, he, hb, h⟩ := orEdges_bit hj
    have hSe := hedges e he hb
    have hlt := edgesLt_at f4 e he hb
    rcases h with rfl | ⟨m2, g1, g2⟩
    ·
     exact hSe
    ·
     exact cl listed hcl e.on m2 (by omega) hSe g1 j g2
   ·
    intro F' a' w' hF' hM'
    have hfe : (fun j => (listed.setIfInBounds i true).getD j false) = fun j => if j = i then true else listed.getD j false := by funext j; exact hget j false
    refine ih _ a' w' hsz' hcnt ?_ ⟨F', by rw [hfe]; exact hF', by rw [hfe]; exact hM'⟩
    intro i' o' ho' hl' e he hb
    rw [hget] at hl' ⊢
    by_cases hei : e.on = i
    ·
     rw [if_pos hei]
    ·
     rw [if_neg hei]
     by_cases hii : i' = i
     ·
      subst hii
      rw [ho] at ho'; cases ho'
      exact hedges e he hb
     ·
      rw [if_neg hii] at hl'
      exact hcl i' o' ho' hl' e he hb
def idxOk : Nat → List Nat → List Oper → Bool
 | _, [], [] => true
 | i, j :: r, _ :: l => Nat.beq i j && idxOk (i + 1) r l
 | _, _, _ => false
def okI (X : Cx) (G : Rg) (T0 : TmF) (M0 : MemF) (K : Acc → Prop) (ds : List Nat) (rest : List Oper) (acc : Acc) : Prop := ∀ i, idxOk i ds rest = true → okD X G T0 M0 K i rest acc
theorem qd_ {K : Acc → Prop} {T0 : TmF} {M0 : MemF} {acc : Acc} (h : K acc) : okI X G T0 M0 K [] [] acc := fun _ _ => h
theorem d_res {K : Acc → Prop} {T0 : TmF} {M0 : MemF} {i : Nat} {o : Oper} {rest : List Oper} {ds : List Nat} {acc : Acc} {g : Option Bool} {β : Type} {ok : Prop} {can : β → Prop} {out : β → AV} {tags : List Nat} {mem : β → List Blk}
  (h : evalAt X G T0 M0 acc.get i o = some (g, ⟨β, ok, can, out, tags, mem⟩)) (hok : ok) (hne : ∃ x, can x) (ht : tagsOk G i tags = true)
  (hk : ∀ x, can x → okI X G T0 M0 K ds rest ((i, o.dst, (g, out x), zipM tags (mem x)) :: acc)) : okI X G T0 M0 K (i :: ds) (o :: rest) acc := by
 intro j hj
 simp only [idxOk, Bool.and_eq_true] at hj
 have := Nat.eq_of_beq_eq_true hj.1
 subst this
 exact ⟨g, _, h, hok, hne, ht, fun x hx => hk x hx _ hj.2⟩
theorem d_val {K : Acc → Prop} {T0 : TmF} {M0 : MemF} {i : Nat} {o : Oper} {rest : List Oper} {ds : List Nat} {acc : Acc} {d : Nat} {g : Option Bool} {ok : Prop} {can : Unit → Prop} {av : AV} {mem : Unit → List Blk} (hd : o.dst = some d)
  (h : evalAt X G T0 M0 acc.get i o = some (g, ⟨Unit, ok, can, fun _ => av, [], mem⟩)) (hcan : can ()) (hok : ok)
  (hk : okI X G T0 M0 K ds rest ((i, some d, (g, av), []) :: acc)) : okI X G T0 M0 K (i :: ds) (o :: rest) acc :=
 d_res h hok ⟨(), hcan⟩ rfl fun x _ => by
  rw [hd]
  have : zipM [] (mem x) = [] := by cases mem x <;> rfl
  rw [this]; exact hk
theorem d_new {K : Acc → Prop} {T0 : TmF} {M0 : MemF} {i : Nat} {o : Oper} {rest : List Oper} {ds : List Nat} {acc : Acc} {d : Nat} {g : Option Bool} {β : Type} {ok : Prop} {can : β → Prop} {out : β → AV} {t : Nat} {mem : β → Blk} (hd : o.dst = some d)
  (h : evalAt X G T0 M0 acc.get i o = some (g, ⟨β, ok, can, out, [t], fun x => [mem x]⟩)) (ht : tagsOk G i [t] = true) (hne : ∃ x, can x) (hok : ok)
  (hk : ∀ x, can x → okI X G T0 M0 K ds rest ((i, some d, (g, out x), [(t, mem x)]) :: acc)) : okI X G T0 M0 K (i :: ds) (o :: rest) acc :=
 d_res h hok hne ht fun x hx => by rw [hd]; exact hk x hx
theorem d_put {K : Acc → Prop} {T0 : TmF} {M0 : MemF} {i : Nat} {o : Oper} {rest : List Oper} {ds : List Nat} {acc : Acc} {g : Option Bool} {ok : Prop} {can : Unit → Prop} {av : AV} {t : Nat} {B : Blk} (hd : o.dst = none)
  (h : evalAt X G T0 M0 acc.get i o = some (g, ⟨Unit, ok, can, fun _ => av, [t], fun _ => [B]⟩)) (ht : tagsOk G i [t] = true) (hcan : can ()) (hok : ok)
  (hk : okI X G T0 M0 K ds rest ((i, none, (g, av), [(t, B)]) :: acc)) : okI X G T0 M0 K (i :: ds) (o :: rest) acc :=
 d_res h hok ⟨(), hcan⟩ ht fun x _ => by rw [hd]; exact hk
end
section
variable {X : Cx} {tm : Tm} {M : Mem} {K : Exit → Tm → Mem → Prop}
theorem s_draw {id : Nat} {l : List Oper} (D : DL) (masks : List Nat) (us : List (Nat × List Nat)) (ds : List Nat) (hG : rgOk ⟨l, D, masks, us⟩ = true) (hi : idxOk 0 ds l = true)
  (h : okI X ⟨l, D, masks, us⟩ tm.get M.get (fun acc => K .normal (finalT acc tm) (finalM acc M)) ds l []) : CodeS X (.region id l.toArray true) tm M K := by
 intro a w Q ha hQ
 refine wp_region_any X.hmix ?_
 have hrepf : ∀ j, (Array.replicate l.toArray.size false).getD j false = false := fun j => by
  rw [Array.getD_eq_getD_getElem?, Array.getElem?_replicate]; split <;> rfl
 refine any_run (G := ⟨l, D, masks, us⟩) hG (h 0 hi) (fun acc a w hK hA => hQ _ _ _ _ _ hK hA) _ _ a _ (by simp) (by rw [List.size_toArray]; exact cnt_all _ _) ?_ ?_
 ·
  intro i o _ h; rw [hrepf] at h; cases h
 ·
  refine ⟨fun _ => none, fun i o _ h => (by simp only [hrepf] at h; cases h), ha.T.size, ha.d, fun t e ht _ => ha.T.slot t e ht, fun j x t _ h => (by simp only [hrepf] at h; cases h), ?_⟩
  have hS := ha.S.below (w' := { w with drawn := w.drawn + 1 }) ⟨rfl, rfl, rfl, Nat.le_succ _, Nat.le_refl _, fun _ _ => rfl⟩
  refine hS.weaken fun n B hB => ⟨B, ?_, Blk.le_refl B⟩
  unfold mviewP at hB
  rw [verM_off fun u _ => hrepf u] at hB
  exact hB
end
end Go.Proofs.YtofophjfgalhaaaGreatDoor.V
