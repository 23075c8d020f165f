import Derived.Test.YtaohdlepocajcaaV18
/-! A region whose order is open: the rule, for code. -/
namespace Go.Proofs.Ytaohdlepocajcaa.V
open Go Go.RowKit

section
variable {X : Cx} {G : Rg} {T0 : Tm} {M0 : Mem}

/-- what is listed is closed under what is waited for: then under the masks -/
theorem closed_masks (hm : masksOk G.masks 0 G.l = true) {S : Nat → Bool} (hS : ∀ i o, G.l[i]? = some o → S i = true → ∀ e ∈ o.after.toList, Region.binds .any e = true → S e.on = true) :
    ∀ n i m, i < n → i < G.l.length → S i = true → nth G.masks i = some m → ∀ j, bitN m j = true → S j = true
  | 0, i, m, hi, _, _, _, _, _ => by omega
  | n + 1, i, m, hi, hl, hSi, hmi, j, hj => by
    obtain ⟨o, ho⟩ : ∃ o, G.l[i]? = some o := ⟨_, List.getElem?_eq_getElem hl⟩
    obtain ⟨m', f1, f2, f3, f4⟩ := masksOk_at hm i o ho
    rw [Nat.zero_add] at f1 f2 f4
    rw [f1] at hmi
    cases hmi
    rw [f3] at hj
    obtain ⟨e, he, hb, h⟩ := orEdges_bit hj
    have hSe := hS i o ho hSi e he hb
    have hlt := edgesLt_at f4 e he hb
    rcases h with rfl | ⟨m2, h1, h2⟩
    · exact hSe
    · exact closed_masks hm hS n e.on m2 (by omega) (by omega) hSe h1 j h2

theorem ready_mem {ops : Array Oper} {listed : Array Bool} {i : Nat} (h : i ∈ Region.ready .any ops listed) : i < ops.size ∧ listed.getD i true = false ∧ ∃ o, ops[i]? = some o ∧ ∀ e ∈ o.after.toList, Region.binds .any e = true → listed.getD e.on false = true := by
  unfold Region.ready at h
  rw [List.mem_filter] at h
  obtain ⟨h1, h2⟩ := h
  simp only [Bool.and_eq_true, Bool.not_eq_true'] at h2
  refine ⟨List.mem_range.1 h1, h2.1, ?_⟩
  cases ho : ops[i]? with
  | none => rw [ho] at h2; simp at h2
  | some o =>
    rw [ho] at h2
    refine ⟨o, rfl, fun e he hb => ?_⟩
    have h3 := h2.2
    simp only [Option.map_some, Option.getD_some] at h3
    have := (Array.all_eq_true_iff_forall_mem.1 h3) e (by simpa using he)
    simpa [hb] using this

theorem ready_of {ops : Array Oper} {listed : Array Bool} {i : Nat} {o : Oper} (h1 : i < ops.size) (h2 : listed.getD i true = false) (h3 : ops[i]? = some o) (h4 : ∀ e ∈ o.after.toList, Region.binds .any e = true → listed.getD e.on false = true) : i ∈ Region.ready .any ops listed := by
  unfold Region.ready
  rw [List.mem_filter]
  refine ⟨List.mem_range.2 h1, ?_⟩
  simp only [h2, Bool.not_false, Bool.true_and, h3, Option.map_some, Option.getD_some]
  rw [Array.all_eq_true_iff_forall_mem]
  intro e he
  cases hb : Region.binds .any e with
  | false => rfl
  | true => simpa using h4 e (by simpa using he) hb

theorem gd_eq (listed : Array Bool) (j : Nat) (hj : j < listed.size) : listed.getD j true = listed.getD j false := by
  rw [Array.getD_eq_getD_getElem?, Array.getD_eq_getD_getElem?, Array.getElem?_eq_getElem hj]; rfl

/-- any order -/
theorem any_run (hG : rgOk G = true) {K : Acc → Prop} (hK : okD X G T0.get M0.get K 0 G.l []) {Q : Exit → Act → World → Prop}
    (hQ : ∀ acc a w, K acc → At X (finalT acc T0) (finalM acc M0) a w → Q .normal a w) :
    ∀ (fuel : Nat) (listed : Array Bool) (a : Act) (w : World), listed.size = G.l.length → cnt (fun j => !listed.getD j true) G.l.length ≤ fuel →
      (∀ i o, G.l[i]? = some o → listed.getD i false = true → ∀ e ∈ o.after.toList, Region.binds .any e = true → listed.getD e.on false = true) →
      (∃ F, PCons X G T0 M0 (fun j => listed.getD j false) F ∧ Mid X G T0 M0 (fun j => listed.getD j false) F a w) →
      wpAny X.P .any G.l.toArray Q fuel listed a w := by
  have hGo := hG
  simp only [rgOk, Bool.and_eq_true] at hGo
  obtain ⟨⟨⟨hm, _⟩, _⟩, _⟩ := hGo
  have cl : ∀ (listed : Array Bool), (∀ i o, G.l[i]? = some o → listed.getD i false = true → ∀ e ∈ o.after.toList, Region.binds .any e = true → listed.getD e.on false = true) → Closed G (fun j => listed.getD j false) :=
    fun listed h i m hi hSi hmi j hj => closed_masks hm (S := fun j => listed.getD j false) h (i + 1) i m (by omega) hi hSi hmi j hj
  have fin : ∀ (listed : Array Bool) (a : Act) (w : World), (∀ j, j < G.l.length → listed.getD j false = true) →
      (∀ i o, G.l[i]? = some o → listed.getD i false = true → ∀ e ∈ o.after.toList, Region.binds .any e = true → listed.getD e.on false = true) →
      (∃ F, PCons X G T0 M0 (fun j => listed.getD j false) F ∧ Mid X G T0 M0 (fun j => listed.getD j false) F a w) → Q .normal a w := by
    rintro listed a w hall hcl ⟨F, hF, hM⟩
    obtain ⟨acc, hKa, hA⟩ := mid_end hG hK hF (cl listed hcl) hM hall
    exact hQ acc a w hKa hA
  intro fuel
  induction fuel with
  | zero =>
    intro listed a w hsz hc hcl h2
    have hall : ∀ j, j < G.l.length → listed.getD j false = true := fun j hj => by
      have := cnt_zero (Nat.le_zero.1 hc) j hj
      rw [← gd_eq listed j (by omega)]
      simpa using this
    refine ⟨?_, fin listed a w hall hcl h2⟩
    cases hr : Region.ready .any G.l.toArray listed with
    | nil => rfl
    | cons i r =>
      have := ready_mem (hr ▸ List.mem_cons_self : i ∈ Region.ready .any G.l.toArray listed)
      rw [List.size_toArray] at this
      rw [gd_eq listed i (by omega), hall i this.1] at this
      cases this.2.1
  | succ fuel ih =>
    intro listed a w hsz hc hcl h2
    refine ⟨fun hr => ?_, fun i hi => ?_⟩
    · by_cases hall : ∀ j, j < G.l.length → listed.getD j false = true
      · exact fin listed a w hall hcl h2
      · exfalso
        have hex : ∃ j, j < G.l.length ∧ listed.getD j false = false := by
          apply Classical.byContradiction
          intro hno
          refine hall fun j hj => ?_
          cases hb : listed.getD j false with
          | true => rfl
          | false => exact absurd ⟨j, hj, hb⟩ hno
        obtain ⟨j, ⟨hj, hjf⟩, hmin⟩ := exists_least (fun j => j < G.l.length ∧ listed.getD j false = false) hex
        have hbelow : ∀ k, k < j → listed.getD k false = true := fun k hk => by
          cases hb : listed.getD k false with
          | true => rfl
          | false => have := hmin k ⟨by omega, hb⟩; omega
        obtain ⟨o, ho⟩ : ∃ o, G.l[j]? = some o := ⟨_, List.getElem?_eq_getElem hj⟩
        have hready : j ∈ Region.ready .any G.l.toArray listed := by
          refine ready_of (o := o) (by simpa using hj) (by rw [gd_eq listed j (by omega)]; exact hjf) (by simpa using ho) fun e he hb => ?_
          obtain ⟨m, f1, f2, f3, f4⟩ := masksOk_at hm j o ho
          rw [Nat.zero_add] at f4
          exact hbelow _ (edgesLt_at f4 e he hb)
        rw [hr] at hready
        cases hready
    · obtain ⟨hin, hif, o, ho, hedges⟩ := ready_mem hi
      rw [List.size_toArray] at hin
      have hif' : listed.getD i false = false := by rw [← gd_eq listed i (by omega)]; exact hif
      rw [List.getElem?_toArray] at ho
      obtain ⟨F, hF, hM⟩ := h2
      have hsz' : (listed.setIfInBounds i true).size = G.l.length := by simpa using hsz
      have hget : ∀ j d, (listed.setIfInBounds i true).getD j d = if j = i then true else listed.getD j d := fun j d => by
        rw [Array.getD_eq_getD_getElem?, Array.getD_eq_getD_getElem?]
        by_cases hji : j = i
        · subst hji; rw [Array.getElem?_setIfInBounds_self_of_lt (by omega), if_pos rfl]; rfl
        · rw [Array.getElem?_setIfInBounds_ne (fun e => hji e.symm), if_neg hji]
      have hcnt : cnt (fun j => !(listed.setIfInBounds i true).getD j true) G.l.length ≤ fuel := by
        have := cnt_less (p := fun j => !listed.getD j true) (p' := fun j => !(listed.setIfInBounds i true).getD j true) (i := i) (by simp only [hif]; rfl) (by simp only [hget, if_true]; rfl) (fun j hj => by simp only [hget, if_neg hj]) (n := G.l.length) hin
        omega
      unfold wpOp
      simp only [List.getElem?_toArray, ho]
      have wrap : ∀ {next : Act → World → Prop}, (if Region.wanted o (yielded G.l.toArray a.tmps) = true then o.wp X.P a w next Q else next (a.put o.dst undef) w) →
          (if Region.wanted o (yielded G.l.toArray a.tmps) = true then o.wp X.P a w next Q ∨ (o.asks X.P a w ∧ LetsOut Q) else next (a.put o.dst undef) w) := by
        intro next h
        split
        · rename_i hw; rw [if_pos hw] at h; exact .inl h
        · rename_i hw; rw [if_neg hw] at h; exact h
      refine wrap (mid_step hG hK hF hM (cl listed hcl) ho hif' ?_ ?_)
      · intro m hm' j hj
        obtain ⟨m', f1, f2, f3, f4⟩ := masksOk_at hm i o ho
        rw [Nat.zero_add] at f1 f2 f4
        rw [f1] at hm'; cases hm'
        rw [f3] at hj
        obtain ⟨e, he, hb, h⟩ := orEdges_bit hj
        have hSe := hedges e he hb
        have hlt := edgesLt_at f4 e he hb
        rcases h with rfl | ⟨m2, g1, g2⟩
        · exact hSe
        · exact cl listed hcl e.on m2 (by omega) hSe g1 j g2
      · intro F' a' w' hF' hM'
        have hfe : (fun j => (listed.setIfInBounds i true).getD j false) = fun j => if j = i then true else listed.getD j false := by funext j; exact hget j false
        refine ih _ a' w' hsz' hcnt ?_ ⟨F', by rw [hfe]; exact hF', by rw [hfe]; exact hM'⟩
        intro i' o' ho' hl' e he hb
        rw [hget] at hl' ⊢
        by_cases hei : e.on = i
        · rw [if_pos hei]
        · rw [if_neg hei]
          by_cases hii : i' = i
          · subst hii
            rw [ho] at ho'; cases ho'
            exact hedges e he hb
          · rw [if_neg hii] at hl'
            exact hcl i' o' ho' hl' e he hb

/-- the same, each operation with its number out of the list ds -/
def idxOk : Nat → List Nat → List Oper → Bool
  | _, [], [] => true
  | i, j :: r, _ :: l => Nat.beq i j && idxOk (i + 1) r l
  | _, _, _ => false
def okI (X : Cx) (G : Rg) (T0 : TmF) (M0 : MemF) (K : Acc → Prop) (ds : List Nat) (rest : List Oper) (acc : Acc) : Prop := ∀ i, idxOk i ds rest = true → okD X G T0 M0 K i rest acc

theorem d_nil {K : Acc → Prop} {T0 : TmF} {M0 : MemF} {acc : Acc} (h : K acc) : okI X G T0 M0 K [] [] acc := fun _ _ => h
/-- an operation: any -/
theorem d_res {K : Acc → Prop} {T0 : TmF} {M0 : MemF} {i : Nat} {o : Oper} {rest : List Oper} {ds : List Nat} {acc : Acc} {g : Option Bool} {β : Type} {ok : Prop} {can : β → Prop} {out : β → AV} {tags : List Nat} {mem : β → List Blk}
    (h : evalAt X G T0 M0 acc.get i o = some (g, ⟨β, ok, can, out, tags, mem⟩)) (hok : ok) (hne : ∃ x, can x) (ht : tagsOk G i tags = true)
    (hk : ∀ x, can x → okI X G T0 M0 K ds rest ((i, o.dst, (g, out x), zipM tags (mem x)) :: acc)) : okI X G T0 M0 K (i :: ds) (o :: rest) acc := by
  intro j hj
  simp only [idxOk, Bool.and_eq_true] at hj
  have := Nat.eq_of_beq_eq_true hj.1
  subst this
  exact ⟨g, _, h, hok, hne, ht, fun x hx => hk x hx _ hj.2⟩
theorem d_val {K : Acc → Prop} {T0 : TmF} {M0 : MemF} {i : Nat} {o : Oper} {rest : List Oper} {ds : List Nat} {acc : Acc} {d : Nat} {g : Option Bool} {ok : Prop} {can : Unit → Prop} {av : AV} {mem : Unit → List Blk} (hd : o.dst = some d)
    (h : evalAt X G T0 M0 acc.get i o = some (g, ⟨Unit, ok, can, fun _ => av, [], mem⟩)) (hcan : can ()) (hok : ok)
    (hk : okI X G T0 M0 K ds rest ((i, some d, (g, av), []) :: acc)) : okI X G T0 M0 K (i :: ds) (o :: rest) acc :=
  d_res h hok ⟨(), hcan⟩ rfl fun x _ => by
    rw [hd]
    have : zipM [] (mem x) = [] := by cases mem x <;> rfl
    rw [this]; exact hk
theorem d_new {K : Acc → Prop} {T0 : TmF} {M0 : MemF} {i : Nat} {o : Oper} {rest : List Oper} {ds : List Nat} {acc : Acc} {d : Nat} {g : Option Bool} {β : Type} {ok : Prop} {can : β → Prop} {out : β → AV} {t : Nat} {mem : β → Blk} (hd : o.dst = some d)
    (h : evalAt X G T0 M0 acc.get i o = some (g, ⟨β, ok, can, out, [t], fun x => [mem x]⟩)) (ht : tagsOk G i [t] = true) (hne : ∃ x, can x) (hok : ok)
    (hk : ∀ x, can x → okI X G T0 M0 K ds rest ((i, some d, (g, out x), [(t, mem x)]) :: acc)) : okI X G T0 M0 K (i :: ds) (o :: rest) acc :=
  d_res h hok hne ht fun x hx => by rw [hd]; exact hk x hx
theorem d_put {K : Acc → Prop} {T0 : TmF} {M0 : MemF} {i : Nat} {o : Oper} {rest : List Oper} {ds : List Nat} {acc : Acc} {g : Option Bool} {ok : Prop} {can : Unit → Prop} {av : AV} {t : Nat} {B : Blk} (hd : o.dst = none)
    (h : evalAt X G T0 M0 acc.get i o = some (g, ⟨Unit, ok, can, fun _ => av, [t], fun _ => [B]⟩)) (ht : tagsOk G i [t] = true) (hcan : can ()) (hok : ok)
    (hk : okI X G T0 M0 K ds rest ((i, none, (g, av), [(t, B)]) :: acc)) : okI X G T0 M0 K (i :: ds) (o :: rest) acc :=
  d_res h hok ⟨(), hcan⟩ ht fun x _ => by rw [hd]; exact hk
end

def upTo : Nat → Nat → List Nat
  | 0, _ => []
  | n + 1, i => i :: upTo n (i + 1)
theorem upTo_ok : ∀ (l : List Oper) (i : Nat), idxOk i (upTo (lenN l) i) l = true
  | [], _ => rfl
  | _ :: r, i => by
    show (Nat.beq i i && idxOk (i + 1) (upTo (lenN r) (i + 1)) r) = true
    rw [upTo_ok r (i + 1)]; simp

section
variable {X : Cx} {tm : Tm} {M : Mem} {K : Exit → Tm → Mem → Prop}
/-- A region whose order is open. -/
theorem s_draw {id : Nat} {l : List Oper} (D : DL) (masks : List Nat) (us : List (Nat × List Nat)) (ds : List Nat) (hG : rgOk ⟨l, D, masks, us⟩ = true) (hi : idxOk 0 ds l = true)
    (h : okI X ⟨l, D, masks, us⟩ tm.get M.get (fun acc => K .normal (finalT acc tm) (finalM acc M)) ds l []) : CodeS X (.region id l.toArray true) tm M K := by
  intro a w Q ha hQ
  refine wp_region_any X.hmix ?_
  have hrepf : ∀ j, (Array.replicate l.toArray.size false).getD j false = false := fun j => by
    rw [Array.getD_eq_getD_getElem?, Array.getElem?_replicate]; split <;> rfl
  refine any_run (G := ⟨l, D, masks, us⟩) hG (h 0 hi) (fun acc a w hK hA => hQ _ _ _ _ _ hK hA) _ _ a _ (by simp) (by rw [List.size_toArray]; exact cnt_all _ _) ?_ ?_
  · intro i o _ h; rw [hrepf] at h; cases h
  · refine ⟨fun _ => none, fun i o _ h => (by simp only [hrepf] at h; cases h), ha.T.size, ha.d, fun t e ht _ => ha.T.slot t e ht, fun j x t _ h => (by simp only [hrepf] at h; cases h), ?_⟩
    have hS := ha.S.below (w' := { w with drawn := w.drawn + 1 }) ⟨rfl, rfl, rfl, Nat.le_refl _, fun _ _ => rfl⟩
    refine hS.weaken fun n B hB => ⟨B, ?_, Blk.le_refl B⟩
    unfold mviewP at hB
    rw [verM_off fun u _ => hrepf u] at hB
    exact hB
end
end Go.Proofs.Ytaohdlepocajcaa.V
