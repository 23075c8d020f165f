import Derived.Test.YtofophjfgalhaaaGreatDoorD17
/-! A region whose order is open: the rule. -/
namespace Go.Proofs.YtofophjfgalhaaaGreatDoor.D
open Go Go.RowKit

def cnt (p : Nat → Bool) : Nat → Nat
  | 0 => 0
  | n + 1 => cnt p n + if p n = true then 1 else 0
theorem cnt_same {p p' : Nat → Bool} : ∀ {n : Nat}, (∀ j, j < n → p' j = p j) → cnt p' n = cnt p n
  | 0, _ => rfl
  | n + 1, h => by rw [cnt, cnt, cnt_same fun j hj => h j (by omega), h n (by omega)]
theorem cnt_less {p p' : Nat → Bool} {i : Nat} (h1 : p i = true) (h2 : p' i = false) (h3 : ∀ j, j ≠ i → p' j = p j) : ∀ {n : Nat}, i < n → cnt p n = cnt p' n + 1
  | 0, h => by omega
  | n + 1, h => by
    by_cases hi : i = n
    · subst hi
      rw [cnt, cnt, h1, h2, cnt_same (p := p) (p' := p') fun j hj => h3 j (by omega)]
      simp
    · rw [cnt, cnt, cnt_less h1 h2 h3 (by omega), h3 n (by omega)]
      omega
theorem cnt_zero {p : Nat → Bool} : ∀ {n : Nat}, cnt p n = 0 → ∀ i, i < n → p i = false
  | 0, _, i, hi => by omega
  | n + 1, h, i, hi => by
    rw [cnt] at h
    cases hp : p n with
    | true => rw [hp] at h; simp at h
    | false =>
      rw [hp] at h
      by_cases hin : i = n
      · subst hin; exact hp
      · exact cnt_zero (by simpa using h) i (by omega)

theorem edgesLt_at {i : Nat} : ∀ {es : List Edge}, edgesLt i es = true → ∀ e ∈ es, Region.binds .any e = true → e.on < i
  | [], _, e, he, _ => by cases he
  | e' :: r, h, e, he, hb => by
    simp only [edgesLt, Bool.and_eq_true, Bool.or_eq_true] at h
    rcases List.mem_cons.1 he with rfl | he
    · rcases h.1 with h1 | h1
      · rw [hb] at h1; cases h1
      · exact blt_lt h1
    · exact edgesLt_at h.2 e he hb

section
variable {X : Cx} {G : Rg} {T0 : Tm} {M0 : Mem} {q : List Oper}

/-- what is listed is closed under what is waited for: then under the masks -/
theorem closed_masks (hm : masksOk G.masks 0 q = true) {S : Nat → Bool} (hS : ∀ i o, q[i]? = some o → S i = true → ∀ e ∈ o.after.toList, Region.binds .any e = true → S e.on = true) :
    ∀ n i m, i < n → i < q.length → S i = true → nth G.masks i = some m → ∀ j, Nat.testBit m j = true → S j = true
  | 0, i, m, hi, _, _, _, _, _ => by omega
  | n + 1, i, m, hi, hl, hSi, hmi, j, hj => by
    obtain ⟨o, ho⟩ : ∃ o, q[i]? = some o := ⟨_, List.getElem?_eq_getElem hl⟩
    obtain ⟨m', f1, f2, f3, f4⟩ := masksOk_at hm i o ho
    rw [Nat.zero_add] at f1 f2 f4
    rw [f1] at hmi
    cases hmi
    rw [f3] at hj
    obtain ⟨e, he, hb, h⟩ := orEdges_bit hj
    have hSe := hS i o ho hSi e he hb
    have hlt := edgesLt_at f4 e he hb
    rcases h with rfl | ⟨m2, h1, h2⟩
    · exact hSe
    · exact closed_masks hm hS n e.on m2 (by omega) (by omega) hSe h1 j h2

theorem evalAt_some {F : AccF} {i : Nat} {o : Oper} {x : Option Bool × R} (h : evalAt X G T0.get M0.get F i o = some x) : ∃ m, nth G.masks i = some m ∧ opEval X.E (dstL G.l) X.N (mviewP G.D (fun j => Nat.testBit m j) F M0.get) (viewP G.D (fun j => Nat.testBit m j) F T0.get) o = some x := by
  unfold evalAt at h
  split at h
  · cases h
  · rename_i m hm; rw [bitN_fun] at h; exact ⟨m, hm, h⟩

/-- one quiet operation, at any moment at which it may come -/
theorem mid_step (hG : rgOk G q = true) {K : Acc → Prop} (hK : okD X G T0.get M0.get K 0 q []) {S : Nat → Bool} {bs : Nat → Nat} {F : AccF} (hF : Cons X G T0 M0 q bs F) {a : Act} {w : World} (hM : Mid X G T0 M0 q S F a w)
    (hS : ∀ i m, i < q.length → S i = true → nth G.masks i = some m → ∀ j, Nat.testBit m j = true → S j = true) {i : Nat} {o : Oper} (ho : q[i]? = some o) (hSi : S i = false)
    (hpre : ∀ m, nth G.masks i = some m → ∀ j, Nat.testBit m j = true → S j = true) {next : Act → World → Prop} {Q : Exit → Act → World → Prop}
    (hk : ∀ bs' F' a' w', Cons X G T0 M0 q bs' F' → Mid X G T0 M0 q (fun j => if j = i then true else S j) F' a' w' → next a' w') :
    if Region.wanted o (yielded G.l.toArray a.tmps) = true then o.wp X.P a w next Q else next (a.put o.dst undef) w := by
  have hGo := hG
  simp only [rgOk, Bool.and_eq_true] at hGo
  obtain ⟨⟨hm, hd⟩, hd2⟩ := hGo
  obtain ⟨d, g, r, c1, c2, c3, c4, c5⟩ := hF i o ho
  obtain ⟨m, hmi, hop⟩ := evalAt_some c2
  obtain ⟨vT, vM⟩ := hM.view hG hF (p := fun j => Nat.testBit m j) (fun j hj => hpre m hmi j hj)
  have hl : i < q.length := (List.getElem?_eq_some_iff.1 ho).1
  refine opEval_sound X.hb X.he X.hct (ops := G.l.toArray) dstL_at hop c3 vT vM fun b v w' hbel hlaid hv => ?_
  -- the results with this block
  obtain ⟨acc', _, hF', _⟩ := walk hm (fun j => if j = i then b else bs j) hK rfl (Nat.zero_le _) (fun j _ _ hj => by omega) (fun _ hx => by cases hx)
  have hsame : ∀ j, j < q.length → S j = true → F j = acc'.get j := by
    intro j hj hSj
    refine uniq hm hF hF' (S := fun j => S j && Nat.blt j q.length) (fun k hkk => ?_) (fun i' m' h1 h2 k hkk => ?_) (j + 1) j (by omega) hj (by simp [hSj, hj])
    · simp only [Bool.and_eq_true] at hkk
      have hne : ¬ k = i := fun e => by rw [e, hSi] at hkk; cases hkk.1
      simp only [if_neg hne]
    · simp only [Bool.and_eq_true] at h1 ⊢
      have hlt := blt_lt h1.2
      refine ⟨hS i' m' hlt h1.1 h2 k hkk, ?_⟩
      obtain ⟨o', ho'⟩ : ∃ o, q[i']? = some o := ⟨_, List.getElem?_eq_getElem hlt⟩
      obtain ⟨m2, f1, f2, _⟩ := masksOk_at hm i' o' ho'
      rw [Nat.zero_add] at f1 f2
      rw [f1] at h2; cases h2
      have := f2 k hkk
      simp; omega
  obtain ⟨m2, f1, f2, _⟩ := masksOk_at hm i o ho
  rw [Nat.zero_add] at f1 f2
  have hev : evalAt X G T0.get M0.get F i o = evalAt X G T0.get M0.get acc'.get i o := evalAt_congr fun m' hm' j hj => by
    rw [f1] at hm'; cases hm'
    have := f2 j hj
    exact hsame j (by omega) (hpre m2 f1 j hj)
  obtain ⟨d', g', r', c1', c2', c3', c4', c5'⟩ := hF' i o ho
  rw [c1] at c1'; cases c1'
  rw [← hev, c2] at c2'; cases c2'
  simp only [if_true] at c5'
  obtain ⟨d2, e1, e2⟩ := dOk_at hd i o ho
  rw [c1] at e1; cases e1
  rw [Nat.zero_add] at e2
  obtain ⟨d3, e3, hdN⟩ := opEval_dst hop
  rw [c1] at e3; cases e3
  rw [c1]
  refine hk _ acc'.get _ w' hF' ⟨by rw [put_size]; exact hM.size, hM.d, fun t e ht hn => ?_, fun j x hj hSj hx => ?_, ?_⟩
  · refine slot_ne (fun e => ?_) (hM.out t e ht hn)
    subst e; rw [e2] at hn; cases hn
  · by_cases hji : j = i
    · subst hji
      rw [c5'] at hx
      cases hx
      have h1 : d < (a.put (some d) v).tmps.size := by rw [put_size, hM.size]; exact hdN
      cases g with
      | none => exact ⟨h1, by rw [put_get hM.size hdN]; exact hv⟩
      | some g => exact ⟨h1, by rw [put_get hM.size hdN]; exact hv⟩
    · rw [if_neg hji] at hSj
      rw [← hsame j hj hSj] at hx
      refine slot_ne (fun e => ?_) (hM.inn j x hj hSj hx)
      obtain ⟨o', ho'⟩ : ∃ o, q[j]? = some o := ⟨_, List.getElem?_eq_getElem hj⟩
      obtain ⟨d4, g4, r4, k1, _, _, _, k5⟩ := hF j o' ho'
      rw [hx] at k5
      cases k5
      obtain ⟨d5, k6, k7⟩ := dOk_at hd j o' ho'
      rw [k1] at k6; cases k6
      rw [Nat.zero_add] at k7
      simp only at e
      rw [← e, e2] at k7
      cases k7; exact hji rfl
  · -- the memory
    have hbase : Sat X.O X.w0 (fun n => if (r.isNew = true ∧ d = n) then r.blk b else mviewP G.D S F M0.get n) w' := by
      cases r with
      | val c av =>
        have : (fun n => if ((R.val c av).isNew = true ∧ d = n) then (R.val c av).blk b else mviewP G.D S F M0.get n) = mviewP G.D S F M0.get := by
          funext n; rw [if_neg (by simp [R.isNew])]
        rw [this]
        exact hM.mem.below hbel
      | new c av B =>
        have hg : g = none := by
          unfold opEval at hop
          split at hop
          · cases hop
          · split at hop
            · cases hop
            · split at hop
              · cases hop
              · split at hop
                · cases hop
                · split at hop
                  · cases hop; rfl
                  · cases hop
                · split at hop <;> cases hop
        subst hg
        obtain ⟨hl1, hl2, hl3⟩ := hlaid trivial
        have hn := hM.mem.new (k := d) hbel hl1 X.hO hl2 hl3
        have : (fun n => if ((R.new c av B).isNew = true ∧ d = n) then (R.new c av B).blk b else mviewP G.D S F M0.get n) = fun n => if d = n then some (B b) else mviewP G.D S F M0.get n := by
          funext n
          by_cases hnn : d = n
          · rw [if_pos ⟨rfl, hnn⟩, if_pos hnn]; simp only [R.blk]
          · rw [if_neg (fun h => hnn h.2), if_neg hnn]
        rw [this]
        exact hn
    refine hbase.weaken fun n B hB => ⟨B, ?_, Blk.le_refl B⟩
    have hM0 : r.isNew = true → d = n → M0.get n = none := fun h1 h2 => h2 ▸ c4 h1
    unfold mviewP at hB
    split at hB
    · rename_i hDn
      have hne : ¬ (r.isNew = true ∧ d = n) := fun h => by rw [hM0 h.1 h.2] at hB; cases hB
      rw [if_neg hne]
      unfold mviewP
      simp only [hDn]
      exact hB
    · rename_i j hDn
      obtain ⟨oj, hj1, hj2⟩ := dOk2_at hd2 _ j hDn
      have hjl : j < q.length := (List.getElem?_eq_some_iff.1 hj1).1
      split at hB
      · rename_i d0 e0 B0 hpj hFj
        cases hB
        by_cases hji : j = i
        · subst hji
          rw [ho] at hj1; cases hj1
          have hdn : d = n := Option.some.inj (c1.symm.trans hj2)
          rw [hFj] at c5'
          have hblk : r.blk b = some B := by
            have := congrArg (fun x => x.bind fun y => y.2.2) c5'
            simpa using this.symm
          have hnew : r.isNew = true := by cases r <;> first | rfl | (simp [R.blk] at hblk)
          rw [if_pos ⟨hnew, hdn⟩]
          exact hblk
        · simp only [if_neg hji] at hpj
          have hne : ¬ (r.isNew = true ∧ d = n) := fun h => by
            rw [← h.2, e2] at hDn
            cases hDn; exact hji rfl
          rw [if_neg hne]
          unfold mviewP
          simp only [hDn, hpj]
          rw [hsame j hjl hpj, hFj]
      · rename_i hno
        have hne : ¬ (r.isNew = true ∧ d = n) := fun h => by rw [hM0 h.1 h.2] at hB; cases hB
        rw [if_neg hne]
        unfold mviewP
        simp only [hDn]
        split
        · rename_i d0 e0 B0 hpj hFj
          have hji : j ≠ i := fun e => by subst e; rw [hSi] at hpj; cases hpj
          exact absurd (hsame j hjl hpj ▸ hFj) (fun hh => hno d0 e0 B0 (by simp [hji, hpj]) hh)
        · exact hB

end
end Go.Proofs.YtofophjfgalhaaaGreatDoor.D
