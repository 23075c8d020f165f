import Derived.Test.YtofophjfgalhaaaGreatDoorD16
/-! A region whose order is open: that any order comes to the same. -/
namespace Go.Proofs.YtofophjfgalhaaaGreatDoor.D
open Go Go.RowKit

theorem testBit_lor (a b j : Nat) : Nat.testBit (Nat.lor a b) j = (Nat.testBit a j || Nat.testBit b j) := Nat.testBit_or a b j

theorem orEdges_bit {masks : List Nat} : ∀ {es : List Edge} {j : Nat}, Nat.testBit (orEdges masks es) j = true → ∃ e ∈ es, Region.binds .any e = true ∧ (e.on = j ∨ ∃ m, nth masks e.on = some m ∧ Nat.testBit m j = true)
  | [], j, h => by simp [orEdges] at h
  | e :: r, j, h => by
    simp only [orEdges] at h
    have up : (∃ e ∈ r, Region.binds .any e = true ∧ (e.on = j ∨ ∃ m, nth masks e.on = some m ∧ Nat.testBit m j = true)) → ∃ e' ∈ e :: r, Region.binds .any e' = true ∧ (e'.on = j ∨ ∃ m, nth masks e'.on = some m ∧ Nat.testBit m j = true) :=
      fun ⟨e', h1, h2⟩ => ⟨e', List.mem_cons_of_mem _ h1, h2⟩
    split at h
    · rename_i hb
      split at h
      · rename_i m hm
        rw [testBit_lor, testBit_lor, Bool.or_eq_true, Bool.or_eq_true] at h
        rcases h with (h | h) | h
        · rw [Nat.testBit_two_pow] at h
          exact ⟨e, List.mem_cons_self, hb, .inl (by simpa using h)⟩
        · exact ⟨e, List.mem_cons_self, hb, .inr ⟨m, hm, h⟩⟩
        · exact up (orEdges_bit h)
      · exact up (orEdges_bit h)
    · exact up (orEdges_bit h)

theorem masksOk_at {masks : List Nat} : ∀ {q : List Oper} {k : Nat}, masksOk masks k q = true → ∀ i o, q[i]? = some o → ∃ m, nth masks (k + i) = some m ∧ (∀ j, Nat.testBit m j = true → j < k + i) ∧ m = orEdges masks o.after.toList ∧ edgesLt (k + i) o.after.toList = true
  | [], k, _, i, o, h => by simp at h
  | o' :: r, k, hm, i, o, h => by
    simp only [masksOk, Bool.and_eq_true] at hm
    obtain ⟨h1, h2⟩ := hm
    cases i with
    | zero =>
      simp at h
      subst h
      split at h1
      · cases h1
      · rename_i m hmk
        simp only [Bool.and_eq_true] at h1
        have hlt := blt_lt h1.1.1
        refine ⟨m, hmk, fun j hj => ?_, Nat.eq_of_beq_eq_true h1.1.2, h1.2⟩
        rcases Nat.lt_or_ge j k with h | h
        · exact h
        · have := Nat.testBit_lt_two_pow (Nat.lt_of_lt_of_le hlt (Nat.pow_le_pow_right (by omega) h))
          rw [this] at hj; cases hj
    | succ i =>
      obtain ⟨m, e1, e2, e3, e4⟩ := masksOk_at h2 i o (by simpa using h)
      exact ⟨m, by rw [← e1]; congr 1; omega, fun j hj => by have := e2 j hj; omega, e3, by rw [← e4]; congr 1; omega⟩

theorem dOk_at {D : DL} : ∀ {q : List Oper} {k : Nat}, dOk D k q = true → ∀ i o, q[i]? = some o → ∃ d, o.dst = some d ∧ D.get d = some (k + i)
  | [], k, _, i, o, h => by simp at h
  | o' :: r, k, hm, i, o, h => by
    simp only [dOk, Bool.and_eq_true] at hm
    obtain ⟨h1, h2⟩ := hm
    cases i with
    | zero =>
      simp at h
      subst h
      split at h1
      · cases h1
      · rename_i d hd
        split at h1
        · rename_i j hj
          exact ⟨d, hd, by rw [hj, ← Nat.eq_of_beq_eq_true h1]; rfl⟩
        · cases h1
    | succ i =>
      obtain ⟨d, e1, e2⟩ := dOk_at h2 i o (by simpa using h)
      exact ⟨d, e1, by rw [e2]; congr 1; omega⟩

theorem dOk2_at {q : List Oper} : ∀ {D : DL}, dOk2 q D = true → ∀ d j, D.get d = some j → ∃ o, q[j]? = some o ∧ o.dst = some d
  | [], _, d, j, h => by cases h
  | (d', j') :: r, hm, d, j, h => by
    simp only [dOk2, Bool.and_eq_true] at hm
    simp only [DL.get] at h
    split at h
    · rename_i hd
      cases h
      have hd := Nat.eq_of_beq_eq_true hd
      subst hd
      have h1 := hm.1
      rw [nth_eq] at h1
      split at h1
      · rename_i o ho
        split at h1
        · rename_i d2 hd2
          exact ⟨o, ho, by rw [hd2, Nat.eq_of_beq_eq_true h1]⟩
        · cases h1
      · cases h1
    · exact dOk2_at hm.2 d j h

section
variable {X : Cx} {G : Rg} {T0 : Tm} {M0 : Mem} {q : List Oper}

theorem view_congr {D : DL} {p : Nat → Bool} {F F' : AccF} {T : TmF} (h : ∀ j, p j = true → F j = F' j) : viewP D p F T = viewP D p F' T := by
  funext t
  unfold viewP
  split
  · rfl
  · rename_i j _
    cases hp : p j with
    | false => rfl
    | true => rw [h j hp]
theorem mview_congr {D : DL} {p : Nat → Bool} {F F' : AccF} {M : MemF} (h : ∀ j, p j = true → F j = F' j) : mviewP D p F M = mviewP D p F' M := by
  funext n
  unfold mviewP
  split
  · rfl
  · rename_i j _
    cases hp : p j with
    | false => rfl
    | true => rw [h j hp]

theorem evalAt_congr {F F' : AccF} {i : Nat} {o : Oper} (h : ∀ m, nth G.masks i = some m → ∀ j, Nat.testBit m j = true → F j = F' j) : evalAt X G T0.get M0.get F i o = evalAt X G T0.get M0.get F' i o := by
  unfold evalAt
  split
  · rfl
  · rename_i m hm
    rw [bitN_fun, view_congr (h m hm), mview_congr (h m hm)]

/-- result i fits what the others are -/
def ConsAt (X : Cx) (G : Rg) (T0 : Tm) (M0 : Mem) (bs : Nat → Nat) (F : AccF) (i : Nat) (o : Oper) : Prop :=
  ∃ d g r, o.dst = some d ∧ evalAt X G T0.get M0.get F i o = some (g, r) ∧ r.cond ∧ (r.isNew = true → M0.get (d) = none) ∧ F i = some (d, (g, r.out (bs i)), r.blk (bs i))
def Cons (X : Cx) (G : Rg) (T0 : Tm) (M0 : Mem) (q : List Oper) (bs : Nat → Nat) (F : AccF) : Prop := ∀ i o, q[i]? = some o → ConsAt X G T0 M0 bs F i o

theorem walk (hm : masksOk G.masks 0 q = true) {K : Acc → Prop} (bs : Nat → Nat) : ∀ {rest : List Oper} {i : Nat} {acc : Acc}, okD X G T0.get M0.get K i rest acc → q.drop i = rest → i ≤ q.length →
    (∀ j o, q[j]? = some o → j < i → ConsAt X G T0 M0 bs acc.get j o) → (∀ x ∈ acc, acc.get x.1 = some x.2 ∧ x.1 < i) → ∃ acc', K acc' ∧ Cons X G T0 M0 q bs acc'.get ∧ ∀ x ∈ acc', acc'.get x.1 = some x.2 ∧ x.1 < q.length
  | [], i, acc, h, hd, hi, hc, hn => by
    have hl : q.length ≤ i := by simpa using hd
    refine ⟨acc, h, fun j o hj => hc j o hj ?_, fun x hx => ⟨(hn x hx).1, by have := (hn x hx).2; omega⟩⟩
    have := (List.getElem?_eq_some_iff.1 hj).1
    omega
  | o :: rest, i, acc, h, hd, hi, hc, hn => by
    obtain ⟨d, g, r, h1, h2, h3, h4, h5⟩ := h
    obtain ⟨e1, e2⟩ := drop_succ hd
    have hmk := masksOk_at hm
    have same : ∀ j, j < i → acc.get j = Acc.get ((i, d, (g, r.out (bs i)), r.blk (bs i)) :: acc) j := fun j hj => by rw [Acc.get_cons, if_neg (by omega)]
    have cong : ∀ j o', q[j]? = some o' → j ≤ i → evalAt X G T0.get M0.get acc.get j o' = evalAt X G T0.get M0.get (Acc.get ((i, d, (g, r.out (bs i)), r.blk (bs i)) :: acc)) j o' := by
      intro j o' hj hle
      refine evalAt_congr fun m hmm k hk => same k ?_
      obtain ⟨m', f1, f2, _⟩ := hmk j o' hj
      rw [Nat.zero_add] at f1 f2
      rw [f1] at hmm
      cases hmm
      have := f2 k hk
      omega
    refine walk hm bs (h5 (bs i)) e2 (List.getElem?_eq_some_iff.1 e1).1 (fun j o' hj hlt => ?_) (fun x hx => ?_)
    rotate_left
    · rcases List.mem_cons.1 hx with rfl | hx
      · exact ⟨by rw [Acc.get_cons, if_pos rfl], Nat.lt_succ_self i⟩
      · have := hn x hx
        exact ⟨by rw [Acc.get_cons, if_neg (by omega)]; exact this.1, by omega⟩
    by_cases hji : j = i
    · subst hji
      rw [e1] at hj
      cases hj
      exact ⟨d, g, r, h1, by rw [← cong j o e1 (Nat.le_refl _)]; exact h2, h3, h4, by rw [Acc.get_cons, if_pos rfl]⟩
    · obtain ⟨d', g', r', c1, c2, c3, c4, c5⟩ := hc j o' hj (by omega)
      exact ⟨d', g', r', c1, by rw [← cong j o' hj (by omega)]; exact c2, c3, c4, by rw [← same j (by omega)]; exact c5⟩

/-- what two consistent lists of results agree in -/
theorem uniq (hm : masksOk G.masks 0 q = true) {bs bs' : Nat → Nat} {F F' : AccF} (h : Cons X G T0 M0 q bs F) (h' : Cons X G T0 M0 q bs' F') {S : Nat → Bool} (hb : ∀ j, S j = true → bs j = bs' j)
    (hS : ∀ i m, S i = true → nth G.masks i = some m → ∀ j, Nat.testBit m j = true → S j = true) : ∀ n i, i < n → i < q.length → S i = true → F i = F' i
  | 0, i, hi, _, _ => by omega
  | n + 1, i, hi, hl, hSi => by
    obtain ⟨o, ho⟩ : ∃ o, q[i]? = some o := ⟨_, List.getElem?_eq_getElem hl⟩
    obtain ⟨d, g, r, c1, c2, c3, c4, c5⟩ := h i o ho
    obtain ⟨d', g', r', c1', c2', c3', c4', c5'⟩ := h' i o ho
    obtain ⟨m, f1, f2, _⟩ := masksOk_at hm i o ho
    rw [Nat.zero_add] at f1 f2
    have : evalAt X G T0.get M0.get F i o = evalAt X G T0.get M0.get F' i o := by
      refine evalAt_congr fun m' hm' j hj => ?_
      rw [f1] at hm'
      cases hm'
      have := f2 j hj
      exact uniq hm h h' hb hS n j (by omega) (by omega) (hS i m hSi f1 j hj)
    rw [this, c2'] at c2
    cases c2
    rw [c1] at c1'
    cases c1'
    rw [c5, c5', hb i hSi]

/-- the frame and the world, where of the quiet operations those of S are done -/
structure Mid (X : Cx) (G : Rg) (T0 : Tm) (M0 : Mem) (q : List Oper) (S : Nat → Bool) (F : AccF) (a : Act) (w : World) : Prop where
  size : a.tmps.size = X.N
  d : a.defers = []
  out : ∀ t e, T0.get t = some e → G.D.get t = none → SlotOk a t e
  inn : ∀ j x, j < q.length → S j = true → F j = some x → SlotOk a x.1 x.2.1
  mem : Sat X.O X.w0 (mviewP G.D S F M0.get) w

theorem Mid.view (hG : rgOk G q = true) {bs : Nat → Nat} {F : AccF} {S : Nat → Bool} {a : Act} {w : World} (hM : Mid X G T0 M0 q S F a w) (hF : Cons X G T0 M0 q bs F) {p : Nat → Bool} (hp : ∀ j, p j = true → S j = true) :
    SatT X.N (viewP G.D p F T0.get) a ∧ Sat X.O X.w0 (mviewP G.D p F M0.get) w := by
  simp only [rgOk, Bool.and_eq_true] at hG
  obtain ⟨⟨_, hd⟩, hd2⟩ := hG
  constructor
  · refine ⟨hM.size, fun t e h => ?_⟩
    unfold viewP at h
    split at h
    · rename_i hn; exact hM.out t e h hn
    · rename_i j hj
      split at h
      · rename_i x hpj hFj
        cases h
        obtain ⟨o, h1, h2⟩ := dOk2_at hd2 t j hj
        obtain ⟨d, g, r, c1, _, _, _, c5⟩ := hF j o h1
        rw [h2] at c1
        cases c1
        have := hM.inn j x (List.getElem?_eq_some_iff.1 h1).1 (hp j hpj) hFj
        rw [hFj] at c5
        cases c5
        exact this
      · cases h
  · refine hM.mem.weaken fun n B hB => ?_
    refine ⟨B, ?_, Blk.le_refl B⟩
    unfold mviewP at hB ⊢
    split at hB
    · exact hB
    · rename_i j hj
      split at hB
      · rename_i d0 e0 B0 hpj hFj
        rw [hp j hpj, hFj]; exact hB
      · rename_i hno
        cases hSj : S j with
        | false => simp only; exact hB
        | true =>
          cases hFj : F j with
          | none => simp only; exact hB
          | some x =>
            obtain ⟨d0, e0, B0⟩ := x
            cases B0 with
            | none => simp only; exact hB
            | some B0 =>
              -- the tag of a new block stands for nothing before
              obtain ⟨o, h1, h2⟩ := dOk2_at hd2 _ j hj
              obtain ⟨d, g, r, c1, _, _, c4, c5⟩ := hF j o h1
              rw [hFj] at c5
              cases hr : r with
              | val c av => subst hr; simp only [R.blk] at c5; cases c5
              | new c av BB =>
                have := c4 (by rw [hr]; rfl)
                have hdn : n = d := Option.some.inj (h2.symm.trans c1)
                rw [← hdn] at this
                rw [this] at hB
                cases hB

end
end Go.Proofs.YtofophjfgalhaaaGreatDoor.D
