import Derived.Test.YtofophjfgalhaaaGreatDoorD18
/-! A region whose order is open: the rule, for code. -/
namespace Go.Proofs.YtofophjfgalhaaaGreatDoor.D
open Go Go.RowKit

theorem Acc.mem_of_get : ∀ {acc : Acc} {j : Nat} {x}, acc.get j = some x → (j, x) ∈ acc
  | [], _, _, h => by cases h
  | (k, e) :: r, j, x, h => by
    rw [Acc.get_cons] at h
    split at h
    · rename_i hk; cases h; subst hk; exact List.mem_cons_self
    · exact List.mem_cons_of_mem _ (Acc.mem_of_get h)

theorem finalT_get {T0 : Tm} : ∀ {acc : Acc} {t e}, (finalT acc T0).get t = some e → (∃ x ∈ acc, x.2.1 = t ∧ x.2.2.1 = e) ∨ ((∀ x ∈ acc, x.2.1 ≠ t) ∧ T0.get t = some e)
  | [], t, e, h => .inr ⟨fun _ hx => (by cases hx), h⟩
  | (k, d, (g, a), B) :: r, t, e, h => by
    have h' : (if d = t then some (g, a) else (finalT r T0).get t) = some e := by rw [← Tm.get_cons]; exact h
    split at h'
    · rename_i hd; cases h'; exact .inl ⟨_, List.mem_cons_self, hd, rfl⟩
    · rename_i hd
      rcases finalT_get h' with ⟨x, hx, h1, h2⟩ | ⟨h1, h2⟩
      · exact .inl ⟨x, List.mem_cons_of_mem _ hx, h1, h2⟩
      · refine .inr ⟨fun x hx => ?_, h2⟩
        rcases List.mem_cons.1 hx with rfl | hx
        · exact hd
        · exact h1 x hx

theorem finalM_get {M0 : Mem} : ∀ {acc : Acc} {n B}, (finalM acc M0).get n = some B → (∃ x ∈ acc, x.2.1 = n ∧ x.2.2.2 = some B) ∨ ((∀ x ∈ acc, ∀ B, x.2.2.2 = some B → x.2.1 ≠ n) ∧ M0.get n = some B)
  | [], n, B, h => .inr ⟨fun _ hx => (by cases hx), h⟩
  | (k, d, e, none) :: r, n, B, h => by
    rcases finalM_get (acc := r) h with ⟨x, hx, h1, h2⟩ | ⟨h1, h2⟩
    · exact .inl ⟨x, List.mem_cons_of_mem _ hx, h1, h2⟩
    · refine .inr ⟨fun x hx B hB => ?_, h2⟩
      rcases List.mem_cons.1 hx with rfl | hx
      · cases hB
      · exact h1 x hx B hB
  | (k, d, e, some B0) :: r, n, B, h => by
    have h' : (if d = n then some B0 else (finalM r M0).get n) = some B := by rw [← Mem.get_cons]; exact h
    split at h'
    · rename_i hd; cases h'; exact .inl ⟨_, List.mem_cons_self, hd, rfl⟩
    · rename_i hd
      rcases finalM_get (acc := r) h' with ⟨x, hx, h1, h2⟩ | ⟨h1, h2⟩
      · exact .inl ⟨x, List.mem_cons_of_mem _ hx, h1, h2⟩
      · refine .inr ⟨fun x hx B hB => ?_, h2⟩
        rcases List.mem_cons.1 hx with rfl | hx
        · exact hd
        · exact h1 x hx B hB

section
variable {X : Cx} {G : Rg} {T0 : Tm} {M0 : Mem} {q : List Oper}

/-- all quiet operations done -/
theorem mid_end (hG : rgOk G q = true) {K : Acc → Prop} (hK : okD X G T0.get M0.get K 0 q []) {S : Nat → Bool} {bs : Nat → Nat} {F : AccF} (hF : Cons X G T0 M0 q bs F) {a : Act} {w : World} (hM : Mid X G T0 M0 q S F a w) (hS : ∀ j, j < q.length → S j = true) :
    ∃ acc, K acc ∧ At X (finalT acc T0) (finalM acc M0) a w := by
  simp only [rgOk, Bool.and_eq_true] at hG
  obtain ⟨⟨hm, hd⟩, hd2⟩ := hG
  obtain ⟨acc, hKa, hF', hmem⟩ := walk hm bs hK rfl (Nat.zero_le _) (fun j _ _ hj => by omega) (fun _ hx => by cases hx)
  have hsame : ∀ j, j < q.length → F j = acc.get j := fun j hj => uniq hm hF hF' (S := fun _ => true) (fun _ _ => rfl) (fun _ _ _ _ _ _ => rfl) (j + 1) j (by omega) hj rfl
  have dstOf : ∀ x ∈ acc, ∃ o, q[x.1]? = some o ∧ o.dst = some x.2.1 ∧ G.D.get x.2.1 = some x.1 := by
    intro x hx
    obtain ⟨h1, h2⟩ := hmem x hx
    obtain ⟨o, ho⟩ : ∃ o, q[x.1]? = some o := ⟨_, List.getElem?_eq_getElem h2⟩
    obtain ⟨d, g, r, c1, _, _, _, c5⟩ := hF' x.1 o ho
    rw [h1] at c5
    have hxd : x.2.1 = d := by
      have := congrArg (fun y => y.map fun z => z.1) c5
      simpa using this
    obtain ⟨d', e1, e2⟩ := dOk_at hd x.1 o ho
    rw [c1] at e1; cases e1
    rw [Nat.zero_add] at e2
    exact ⟨o, ho, by rw [hxd]; exact c1, by rw [hxd]; exact e2⟩
  have inAcc : ∀ t j, G.D.get t = some j → ∃ x ∈ acc, x.1 = j ∧ x.2.1 = t ∧ F j = some x.2 := by
    intro t j hj
    obtain ⟨o, h1, h2⟩ := dOk2_at hd2 t j hj
    obtain ⟨d, g, r, c1, _, _, _, c5⟩ := hF' j o h1
    rw [h2] at c1; cases c1
    have hlt := (List.getElem?_eq_some_iff.1 h1).1
    exact ⟨_, Acc.mem_of_get c5, rfl, rfl, by rw [hsame j hlt]; exact c5⟩
  refine ⟨acc, hKa, ⟨⟨hM.size, fun t e h => ?_⟩, hM.d, ?_⟩⟩
  · rcases finalT_get h with ⟨x, hx, h1, h2⟩ | ⟨h1, h2⟩
    · obtain ⟨h3, h4⟩ := hmem x hx
      have := hM.inn x.1 x.2 h4 (hS _ h4) (by rw [hsame _ h4]; exact h3)
      rw [h1, h2] at this
      exact this
    · refine hM.out t e h2 ?_
      cases hD : G.D.get t with
      | none => rfl
      | some j =>
        obtain ⟨x, hx, _, h4, _⟩ := inAcc t j hD
        exact absurd h4 (h1 x hx)
  · refine hM.mem.weaken fun n B hB => ⟨B, ?_, Blk.le_refl B⟩
    rcases finalM_get hB with ⟨x, hx, h1, h2⟩ | ⟨h1, h2⟩
    · obtain ⟨h3, h4⟩ := hmem x hx
      obtain ⟨o, _, _, h6⟩ := dstOf x hx
      unfold mviewP
      rw [← h1]
      simp only [h6, hS _ h4]
      rw [hsame _ h4, h3]
      obtain ⟨j, d, e, B'⟩ := x
      simp only at h2
      rw [h2]
    · unfold mviewP
      split
      · exact h2
      · rename_i j hj
        split
        · rename_i d0 e0 B0 hSj hFj
          obtain ⟨x, hx, h3, h4, h5⟩ := inAcc _ j hj
          rw [hFj] at h5
          have hB0 : x.2.2.2 = some B0 := by
            have := congrArg (fun y => y.bind fun z => z.2.2) h5
            simpa using this.symm
          exact absurd h4 (h1 x hx B0 hB0)
        · exact h2

theorem ready_mem {ops : Array Oper} {listed : Array Bool} {i : Nat} (h : i ∈ Region.ready .any ops listed) : i < ops.size ∧ listed.getD i true = false ∧ ∃ o, ops[i]? = some o ∧ ∀ e ∈ o.after.toList, Region.binds .any e = true → listed.getD e.on false = true := by
  unfold Region.ready at h
  rw [List.mem_filter] at h
  obtain ⟨h1, h2⟩ := h
  simp only [Bool.and_eq_true, Bool.not_eq_true'] at h2
  refine ⟨List.mem_range.1 h1, h2.1, ?_⟩
  cases ho : ops[i]? with
  | none => rw [ho] at h2; simp at h2
  | some o =>
    rw [ho] at h2
    refine ⟨o, rfl, fun e he hb => ?_⟩
    have h3 := h2.2
    simp only [Option.map_some, Option.getD_some] at h3
    have := (Array.all_eq_true_iff_forall_mem.1 h3) e (by simpa using he)
    simpa [hb] using this

theorem ready_of {ops : Array Oper} {listed : Array Bool} {i : Nat} {o : Oper} (h1 : i < ops.size) (h2 : listed.getD i true = false) (h3 : ops[i]? = some o) (h4 : ∀ e ∈ o.after.toList, Region.binds .any e = true → listed.getD e.on false = true) : i ∈ Region.ready .any ops listed := by
  unfold Region.ready
  rw [List.mem_filter]
  refine ⟨List.mem_range.2 h1, ?_⟩
  simp only [h2, Bool.not_false, Bool.true_and, h3, Option.map_some, Option.getD_some]
  rw [Array.all_eq_true_iff_forall_mem]
  intro e he
  cases hb : Region.binds .any e with
  | false => rfl
  | true => simpa using h4 e (by simpa using he) hb

/-- what is done by any order: q quiet, tail none or one -/
theorem any_run (hG : rgOk G q = true) {K : Acc → Prop} (hK : okD X G T0.get M0.get K 0 q []) {tail : List Oper} (hl : G.l = q ++ tail) {Q : Exit → Act → World → Prop}
    (htail : (tail = [] ∧ ∀ acc a w, K acc → At X (finalT acc T0) (finalM acc M0) a w → Q .normal a w) ∨
      ∃ e K', tail = [e] ∧ tailOk G q.length e = true ∧ (∀ acc, K acc → EffS X e (finalT acc T0) (finalM acc M0) K') ∧ ∀ tm' M' a' w', K' tm' M' → At X tm' M' a' w' → Q .normal a' w') :
    ∀ (fuel : Nat) (listed : Array Bool) (a : Act) (w : World), listed.size = G.l.length → cnt (fun j => !listed.getD j true) G.l.length ≤ fuel →
      (∀ i o, q[i]? = some o → listed.getD i false = true → ∀ e ∈ o.after.toList, Region.binds .any e = true → listed.getD e.on false = true) →
      ((∃ j, q.length ≤ j ∧ j < G.l.length ∧ listed.getD j false = true) → Q .normal a w ∧ ∀ j, j < G.l.length → listed.getD j false = true) →
      ((∀ j, q.length ≤ j → j < G.l.length → listed.getD j false = false) → ∃ bs F, Cons X G T0 M0 q bs F ∧ Mid X G T0 M0 q (fun j => listed.getD j false) F a w) →
      wpAny X.P .any G.l.toArray Q fuel listed a w := by
  have hGo := hG
  simp only [rgOk, Bool.and_eq_true] at hGo
  obtain ⟨⟨hm, _⟩, _⟩ := hGo
  have gd : ∀ (listed : Array Bool) j, j < listed.size → listed.getD j true = listed.getD j false := fun listed j hj => by
    rw [Array.getD_eq_getD_getElem?, Array.getD_eq_getD_getElem?, Array.getElem?_eq_getElem hj]; rfl
  -- all listed
  have fin : ∀ (listed : Array Bool) (a : Act) (w : World), listed.size = G.l.length → (∀ j, j < G.l.length → listed.getD j false = true) →
      ((∃ j, q.length ≤ j ∧ j < G.l.length ∧ listed.getD j false = true) → Q .normal a w ∧ ∀ j, j < G.l.length → listed.getD j false = true) →
      ((∀ j, q.length ≤ j → j < G.l.length → listed.getD j false = false) → ∃ bs F, Cons X G T0 M0 q bs F ∧ Mid X G T0 M0 q (fun j => listed.getD j false) F a w) → Q .normal a w := by
    intro listed a w hsz hall h1 h2
    rcases htail with ⟨ht, hQ⟩ | ⟨e, K', ht, hok, hE, hQ⟩
    · subst ht
      rw [List.append_nil] at hl
      obtain ⟨bs, F, hF, hM⟩ := h2 (fun j hj hj' => by rw [hl] at hj'; omega)
      obtain ⟨acc, hKa, hA⟩ := mid_end hG hK hF hM (fun j hj => hall j (by rw [hl]; exact hj))
      exact hQ acc a w hKa hA
    · subst ht
      exact (h1 ⟨q.length, Nat.le_refl _, by rw [hl]; simp, hall _ (by rw [hl]; simp)⟩).1
  intro fuel
  induction fuel with
  | zero =>
    intro listed a w hsz hc hcl h1 h2
    have hall : ∀ j, j < G.l.length → listed.getD j false = true := fun j hj => by
      have := cnt_zero (Nat.le_zero.1 hc) j hj
      rw [← gd listed j (by omega)]
      simpa using this
    refine ⟨?_, fin listed a w hsz hall h1 h2⟩
    cases hr : Region.ready .any G.l.toArray listed with
    | nil => rfl
    | cons i r =>
      have := ready_mem (hr ▸ List.mem_cons_self : i ∈ Region.ready .any G.l.toArray listed)
      rw [List.size_toArray] at this
      rw [gd listed i (by omega), hall i this.1] at this
      cases this.2.1
  | succ fuel ih =>
    intro listed a w hsz hc hcl h1 h2
    have hmk := closed_masks hm (S := fun j => listed.getD j false) hcl
    refine ⟨fun hr => ?_, fun i hi => ?_⟩
    · -- nothing is ready: then all is listed
      by_cases hall : ∀ j, j < G.l.length → listed.getD j false = true
      · exact fin listed a w hsz hall h1 h2
      · exfalso
        have hex : ∃ j, j < G.l.length ∧ listed.getD j false = false := by
          apply Classical.byContradiction
          intro hno
          refine hall fun j hj => ?_
          cases hb : listed.getD j false with
          | true => rfl
          | false => exact absurd ⟨j, hj, hb⟩ hno
        obtain ⟨j, ⟨hj, hjf⟩, hmin⟩ := exists_least (fun j => j < G.l.length ∧ listed.getD j false = false) hex
        have hbelow : ∀ k, k < j → listed.getD k false = true := fun k hk => by
          cases hb : listed.getD k false with
          | true => rfl
          | false => have := hmin k ⟨by omega, hb⟩; omega
        obtain ⟨o, ho⟩ : ∃ o, G.l[j]? = some o := ⟨_, List.getElem?_eq_getElem hj⟩
        have hready : j ∈ Region.ready .any G.l.toArray listed := by
          refine ready_of (o := o) (by simpa using hj) (by rw [gd listed j (by omega)]; exact hjf) (by simpa using ho) fun e he hb => ?_
          by_cases hjq : j < q.length
          · rw [hl, List.getElem?_append_left hjq] at ho
            obtain ⟨m, f1, f2, f3, f4⟩ := masksOk_at hm j o ho
            rw [Nat.zero_add] at f4
            exact hbelow _ (edgesLt_at f4 e he hb)
          · -- the tail: what it waits for is quiet, all of which is listed
            rcases htail with ⟨ht, _⟩ | ⟨e', K', ht, hok, _⟩
            · subst ht; rw [hl] at hj; simp at hj; omega
            · subst ht
              have hjl : j = q.length := by rw [hl] at hj; simp at hj; omega
              subst hjl
              have hoe : o = e' := by rw [hl] at ho; simpa using ho.symm
              subst hoe
              unfold tailOk at hok
              split at hok
              · simp only [Bool.and_eq_true] at hok
                exact hbelow _ (edgesLt_at hok.2 e he hb)
              · cases hok
        rw [hr] at hready
        cases hready
    · obtain ⟨hin, hif, o, ho, hedges⟩ := ready_mem hi
      rw [List.size_toArray] at hin
      have hif' : listed.getD i false = false := by rw [← gd listed i (by omega)]; exact hif
      rw [List.getElem?_toArray] at ho
      have hno : ∀ j, q.length ≤ j → j < G.l.length → listed.getD j false = false := fun j hj hj' => by
        cases hb : listed.getD j false with
        | false => rfl
        | true =>
          have := (h1 ⟨j, hj, hj', hb⟩).2 i hin
          rw [hif'] at this; cases this
      obtain ⟨bs, F, hF, hM⟩ := h2 hno
      have hsz' : (listed.setIfInBounds i true).size = G.l.length := by simpa using hsz
      have hget : ∀ j d, (listed.setIfInBounds i true).getD j d = if j = i then true else listed.getD j d := fun j d => by
        rw [Array.getD_eq_getD_getElem?, Array.getD_eq_getD_getElem?]
        by_cases hji : j = i
        · subst hji; rw [Array.getElem?_setIfInBounds_self_of_lt (by omega), if_pos rfl]; rfl
        · rw [Array.getElem?_setIfInBounds_ne (fun e => hji e.symm), if_neg hji]
      have hcnt : cnt (fun j => !(listed.setIfInBounds i true).getD j true) G.l.length ≤ fuel := by
        have := cnt_less (p := fun j => !listed.getD j true) (p' := fun j => !(listed.setIfInBounds i true).getD j true) (i := i) (by simp only [hif]; rfl) (by simp only [hget, if_true]; rfl) (fun j hj => by simp only [hget, if_neg hj]) (n := G.l.length) hin
        omega
      unfold wpOp
      simp only [List.getElem?_toArray, ho]
      have wrap : ∀ {next : Act → World → Prop}, (if Region.wanted o (yielded G.l.toArray a.tmps) = true then o.wp X.P a w next Q else next (a.put o.dst undef) w) →
          (if Region.wanted o (yielded G.l.toArray a.tmps) = true then o.wp X.P a w next Q ∨ (o.asks X.P a w ∧ LetsOut Q) else next (a.put o.dst undef) w) := by
        intro next h
        split
        · rename_i hw; rw [if_pos hw] at h; exact .inl h
        · rename_i hw; rw [if_neg hw] at h; exact h
      by_cases hiq : i < q.length
      · rw [hl, List.getElem?_append_left hiq] at ho
        refine wrap (mid_step hG hK hF hM (fun i' m' h3 h4 h5 => hmk (i' + 1) i' m' (by omega) h3 h4 h5) ho hif' ?_ ?_)
        · intro m hm' j hj
          obtain ⟨m', f1, f2, f3, f4⟩ := masksOk_at hm i o ho
          rw [Nat.zero_add] at f1 f2 f4
          rw [f1] at hm'; cases hm'
          rw [f3] at hj
          obtain ⟨e, he, hb, h⟩ := orEdges_bit hj
          have hSe := hedges e he hb
          have hlt := edgesLt_at f4 e he hb
          rcases h with rfl | ⟨m2, g1, g2⟩
          · exact hSe
          · exact hmk (e.on + 1) e.on m2 (by omega) (by omega) hSe g1 j g2
        · intro bs' F' a' w' hF' hM'
          refine ih _ a' w' hsz' hcnt ?_ ?_ ?_
          · intro i' o' ho' hl' e he hb
            rw [hget] at hl' ⊢
            by_cases hei : e.on = i
            · rw [if_pos hei]
            · rw [if_neg hei]
              by_cases hii : i' = i
              · subst hii
                rw [ho] at ho'; cases ho'
                exact hedges e he hb
              · rw [if_neg hii] at hl'
                exact hcl i' o' ho' hl' e he hb
          · rintro ⟨j, hj, hj', hjl⟩
            rw [hget, if_neg (by omega), hno j hj hj'] at hjl
            cases hjl
          · intro _
            have : (fun j => (listed.setIfInBounds i true).getD j false) = fun j => if j = i then true else listed.getD j false := by funext j; exact hget j false
            rw [this]
            exact ⟨bs', F', hF', hM'⟩
      · -- the effect at the end
        rcases htail with ⟨ht, _⟩ | ⟨e, K', ht, hok, hE, hQ⟩
        · subst ht; rw [hl] at hin; simp at hin; omega
        · subst ht
          have hil : i = q.length := by rw [hl] at hin; simp at hin; omega
          subst hil
          have hoe : o = e := by rw [hl] at ho; simpa using ho.symm
          subst hoe
          unfold tailOk at hok
          split at hok
          · rename_i hgd
            have hallq : ∀ j, j < q.length → listed.getD j false = true := fun j hj => by
              simp only [Bool.and_eq_true] at hok
              have hb := List.all_eq_true.1 hok.1 j (List.mem_range.2 hj)
              obtain ⟨e, he, hbb, h⟩ := orEdges_bit hb
              have hSe := hedges e he hbb
              rcases h with rfl | ⟨m2, g1, g2⟩
              · exact hSe
              · by_cases hlt : e.on < q.length
                · exact hmk (e.on + 1) e.on m2 (by omega) hlt hSe g1 j g2
                · have hlt2 : e.on < G.l.length := by
                    rcases Nat.lt_or_ge e.on G.l.length with h | h
                    · exact h
                    · rw [Array.getD_eq_getD_getElem?, Array.getElem?_eq_none (by omega)] at hSe; cases hSe
                  rw [hno e.on (by omega) hlt2] at hSe; cases hSe
            obtain ⟨acc, hKa, hA⟩ := mid_end hG hK hF hM hallq
            have hE' := hE acc hKa
            refine wrap ?_
            have hw : Region.wanted o (yielded G.l.toArray a.tmps) = true := by unfold Region.wanted; rw [hgd]
            rw [if_pos hw]
            refine hE'.2 a w _ Q hA fun tm' M' a' w' hK' hA' => ?_
            have hall : ∀ j, j < G.l.length → (listed.setIfInBounds q.length true).getD j false = true := fun j hj => by
              rw [hget]
              split
              · rfl
              · exact hallq j (by rw [hl] at hj; simp at hj; omega)
            refine ih _ a' w' hsz' hcnt ?_ (fun _ => ⟨hQ tm' M' a' w' hK' hA', hall⟩) ?_
            · intro i' o' ho' hl' e' he' hb'
              rw [hget] at hl' ⊢
              split
              · rfl
              · have : i' < q.length := (List.getElem?_eq_some_iff.1 ho').1
                rw [if_neg (by omega)] at hl'
                exact hcl i' o' ho' hl' e' he' hb'
            · intro hnone
              have := hnone q.length (Nat.le_refl _) hin
              rw [hall q.length hin] at this
              cases this
          · cases hok

theorem cnt_all (p : Nat → Bool) : ∀ n, cnt p n ≤ n
  | 0 => Nat.le_refl _
  | n + 1 => by rw [cnt]; have := cnt_all p n; split <;> omega

theorem draw_run (hG : rgOk G q = true) {K : Acc → Prop} (hK : okD X G T0.get M0.get K 0 q []) {tail : List Oper} (hl : G.l = q ++ tail) {id : Nat} {a : Act} {w : World} (hA : At X T0 M0 a w) {Q : Exit → Act → World → Prop}
    (htail : (tail = [] ∧ ∀ acc a w, K acc → At X (finalT acc T0) (finalM acc M0) a w → Q .normal a w) ∨
      ∃ e K', tail = [e] ∧ tailOk G q.length e = true ∧ (∀ acc, K acc → EffS X e (finalT acc T0) (finalM acc M0) K') ∧ ∀ tm' M' a' w', K' tm' M' → At X tm' M' a' w' → Q .normal a' w') :
    (Code.region id G.l.toArray true).wp X.P Q a w := by
  refine wp_region_any X.hmix ?_
  have hrepf : ∀ j, (Array.replicate G.l.toArray.size false).getD j false = false := fun j => by
    rw [Array.getD_eq_getD_getElem?, Array.getElem?_replicate]; split <;> rfl
  refine any_run hG hK hl htail _ _ a _ (by simp) (by rw [List.size_toArray]; exact cnt_all _ _) ?_ ?_ ?_
  · intro i o _ h; rw [hrepf] at h; cases h
  · rintro ⟨j, _, _, h⟩; rw [hrepf] at h; cases h
  · intro _
    have hGo := hG
    simp only [rgOk, Bool.and_eq_true] at hGo
    obtain ⟨⟨hm, _⟩, _⟩ := hGo
    obtain ⟨acc, _, hF, _⟩ := walk hm (fun _ => 0) hK rfl (Nat.zero_le _) (fun j _ _ hj => by omega) (fun _ hx => by cases hx)
    refine ⟨_, _, hF, ⟨hA.T.size, hA.d, fun t e ht _ => hA.T.slot t e ht, fun j x _ h => (by simp only [hrepf] at h; cases h), ?_⟩⟩
    have hS := hA.S.below (w' := { w with drawn := w.drawn + 1 }) ⟨rfl, rfl, rfl, Nat.le_refl _, fun _ _ => rfl⟩
    refine hS.weaken fun n B hB => ⟨B, ?_, Blk.le_refl B⟩
    unfold mviewP at hB
    split at hB
    · exact hB
    · simp only [hrepf] at hB; exact hB

end

section
variable {X : Cx} {tm : Tm} {M : Mem} {K : Exit → Tm → Mem → Prop}

/-- A region whose order is open, all of it quiet. -/
theorem s_draw {id : Nat} {l : List Oper} (D : DL) (masks : List Nat) (hG : rgOk ⟨l, D, masks⟩ l = true)
    (hi : idxOk 0 D l = true) (h : okI X ⟨l, D, masks⟩ tm.get M.get (fun acc => K .normal (finalT acc tm) (finalM acc M)) D l []) : CodeS X (.region id l.toArray true) tm M K := by
  intro a w Q ha hQ
  exact draw_run (G := ⟨l, D, masks⟩) hG (h 0 hi) (tail := []) (by simp) ha (.inl ⟨rfl, fun acc a w hK hA => hQ _ _ _ _ _ hK hA⟩)

def splitLast {α : Type} : List α → Option (List α × α)
  | [] => none
  | x :: r => match splitLast r with
    | none => some ([], x)
    | some (q, e) => some (x :: q, e)
theorem splitLast_eq {α : Type} : ∀ {l q : List α} {e : α}, splitLast l = some (q, e) → l = q ++ [e]
  | [], _, _, h => by cases h
  | x :: r, q, e, h => by
    simp only [splitLast] at h
    split at h
    · rename_i hr
      cases h
      cases r with
      | nil => rfl
      | cons y r => simp only [splitLast] at hr; split at hr <;> cases hr
    · rename_i q' e' hr
      cases h
      rw [splitLast_eq hr]; rfl

/-- A region whose order is open, but for an effect at its end. -/
theorem s_drawE {id : Nat} {l q : List Oper} {e : Oper} (D : DL) (masks : List Nat) (hs : splitLast l = some (q, e)) (hG : rgOk ⟨l, D, masks⟩ q = true) (ht : tailOk ⟨l, D, masks⟩ q.length e = true)
    (hi : idxOk 0 D q = true) (h : okI X ⟨l, D, masks⟩ tm.get M.get (fun acc => EffS X e (finalT acc tm) (finalM acc M) fun tm' M' => K .normal tm' M') D q []) : CodeS X (.region id l.toArray true) tm M K := by
  intro a w Q ha hQ
  exact draw_run (G := ⟨l, D, masks⟩) hG (h 0 hi) (tail := [e]) (splitLast_eq hs) ha (.inr ⟨e, fun tm' M' => K .normal tm' M', rfl, ht, fun _ hK => hK, fun tm' M' a' w' hK hA => hQ _ _ _ _ _ hK hA⟩)
end
end Go.Proofs.YtofophjfgalhaaaGreatDoor.D
