import Derived.Test.YtaohdlepocajcaaV17
/-! A region whose order is open: the proof. -/
namespace Go.Proofs.Ytaohdlepocajcaa.V
open Go Go.RowKit

def cnt (p : Nat → Bool) : Nat → Nat
  | 0 => 0
  | n + 1 => cnt p n + if p n = true then 1 else 0
theorem cnt_same {p p' : Nat → Bool} : ∀ {n : Nat}, (∀ j, j < n → p' j = p j) → cnt p' n = cnt p n
  | 0, _ => rfl
  | n + 1, h => by rw [cnt, cnt, cnt_same fun j hj => h j (by omega), h n (by omega)]
theorem cnt_less {p p' : Nat → Bool} {i : Nat} (h1 : p i = true) (h2 : p' i = false) (h3 : ∀ j, j ≠ i → p' j = p j) : ∀ {n : Nat}, i < n → cnt p n = cnt p' n + 1
  | 0, h => by omega
  | n + 1, h => by
    by_cases hi : i = n
    · subst hi
      rw [cnt, cnt, h1, h2, cnt_same (p := p) (p' := p') fun j hj => h3 j (by omega)]
      simp
    · rw [cnt, cnt, cnt_less h1 h2 h3 (by omega), h3 n (by omega)]
      omega
theorem cnt_zero {p : Nat → Bool} : ∀ {n : Nat}, cnt p n = 0 → ∀ i, i < n → p i = false
  | 0, _, i, hi => by omega
  | n + 1, h, i, hi => by
    rw [cnt] at h
    cases hp : p n with
    | true => rw [hp] at h; simp at h
    | false =>
      rw [hp] at h
      by_cases hin : i = n
      · subst hin; exact hp
      · exact cnt_zero (by simpa using h) i (by omega)
theorem cnt_all (p : Nat → Bool) : ∀ n, cnt p n ≤ n
  | 0 => Nat.le_refl _
  | n + 1 => by rw [cnt]; have := cnt_all p n; split <;> omega

def accOk : Nat → Acc → Prop
  | 0, [] => True
  | k + 1, (j, _) :: r => j = k ∧ accOk k r
  | _, _ => False
theorem accOk_lt : ∀ {k : Nat} {acc : Acc}, accOk k acc → ∀ j, k ≤ j → acc.get j = none
  | 0, [], _, j, _ => rfl
  | 0, _ :: _, h, _, _ => h.elim
  | k + 1, [], h, _, _ => h.elim
  | k + 1, (i, e) :: r, h, j, hj => by
    rw [Acc.get_cons, if_neg (by have := h.1; omega)]
    exact accOk_lt h.2 j (by omega)

/-- the slots and the memory behind the region -/
def finalT : Acc → Tm → Tm
  | [], T => T
  | (_, some d, (g, a), _) :: r, T => (d, g, a) :: finalT r T
  | (_, none, _, _) :: r, T => finalT r T
def finalM : Acc → Mem → Mem
  | [], M => M
  | (_, _, _, m) :: r, M => Mem.app m (finalM r M)

section
variable {X : Cx} {G : Rg} {T0 : Tm} {M0 : Mem}

theorem view_congr {i m : Nat} {F F' : AccF} {T : TmF} (h : ∀ j, bitN m j = true → F j = F' j) : viewP G i m F T = viewP G i m F' T := by
  funext t
  unfold viewP
  split
  · rfl
  · rename_i j _
    cases hp : bitN m j with
    | false => rfl
    | true => rw [h j hp]
theorem mviewJ_congr {j m : Nat} {F F' : AccF} {M : MemF} (h : ∀ i, bitN m i = true → F i = F' i) : mviewJ G j m F M = mviewJ G j m F' M := by
  funext n
  unfold mviewJ mviewP
  split
  · rfl
  · exact verM_congr fun u _ => ⟨rfl, fun hu => h u hu⟩
theorem evalAt_congr {F F' : AccF} {i : Nat} {o : Oper} (h : ∀ m, nth G.masks i = some m → ∀ j, bitN m j = true → F j = F' j) : evalAt X G T0.get M0.get F i o = evalAt X G T0.get M0.get F' i o := by
  unfold evalAt
  split
  · rfl
  · rename_i m hm
    rw [view_congr (h m hm), mviewJ_congr (h m hm)]

/-- result i fits what the others are -/
def ConsAt (X : Cx) (G : Rg) (T0 : Tm) (M0 : Mem) (F : AccF) (i : Nat) (o : Oper) : Prop :=
  ∃ g r x, evalAt X G T0.get M0.get F i o = some (g, r) ∧ r.ok ∧ tagsOk G i r.tags = true ∧ r.can x ∧ F i = some (o.dst, (g, r.out x), zipM r.tags (r.mem x))
def Closed (G : Rg) (S : Nat → Bool) : Prop := ∀ i m, i < G.l.length → S i = true → nth G.masks i = some m → ∀ j, bitN m j = true → S j = true
def PCons (X : Cx) (G : Rg) (T0 : Tm) (M0 : Mem) (S : Nat → Bool) (F : AccF) : Prop := ∀ i o, G.l[i]? = some o → S i = true → ConsAt X G T0 M0 F i o

/-- a part of the results, made whole -/
theorem walk (hm : masksOk G.masks 0 G.l = true) {S : Nat → Bool} (hS : Closed G S) {F : AccF} (hF : PCons X G T0 M0 S F) {K : Acc → Prop} : ∀ {rest : List Oper} {i : Nat} {acc : Acc}, okD X G T0.get M0.get K i rest acc → G.l.drop i = rest → i ≤ G.l.length →
    (∀ j o, G.l[j]? = some o → j < i → ConsAt X G T0 M0 acc.get j o) → (∀ j, j < i → S j = true → acc.get j = F j) → accOk i acc →
    ∃ acc', K acc' ∧ (∀ j o, G.l[j]? = some o → ConsAt X G T0 M0 acc'.get j o) ∧ (∀ j, j < G.l.length → S j = true → acc'.get j = F j) ∧ accOk G.l.length acc'
  | [], i, acc, h, hd, hi, hc, hs, hn => by
    have hl : G.l.length ≤ i := by simpa using hd
    have he : i = G.l.length := by omega
    subst he
    exact ⟨acc, h, fun j o hj => hc j o hj (List.getElem?_eq_some_iff.1 hj).1, hs, hn⟩
  | o :: rest, i, acc, h, hd, hi, hc, hs, hn => by
    obtain ⟨g, r, h1, h2, ⟨x0, h3⟩, h4, h5⟩ := h
    obtain ⟨e1, e2⟩ := drop_succ hd
    have hil : i < G.l.length := (List.getElem?_eq_some_iff.1 e1).1
    have hmk := masksOk_at hm
    -- the choice
    obtain ⟨x, hx, hxF⟩ : ∃ x, r.can x ∧ (S i = true → F i = some (o.dst, (g, r.out x), zipM r.tags (r.mem x))) := by
      cases hSi : S i with
      | false => exact ⟨x0, h3, fun h => by cases h⟩
      | true =>
        obtain ⟨g', r', x', c1, c2, c3, c4, c5⟩ := hF i o e1 hSi
        have : evalAt X G T0.get M0.get acc.get i o = evalAt X G T0.get M0.get F i o := by
          refine evalAt_congr fun m hm' j hj => ?_
          obtain ⟨m', f1, f2, _⟩ := hmk i o e1
          rw [Nat.zero_add] at f1 f2
          rw [f1] at hm'; cases hm'
          exact hs j (f2 j hj) (hS i m hil hSi f1 j hj)
        rw [this, c1] at h1
        cases h1
        exact ⟨x', c4, fun _ => c5⟩
    have same : ∀ j, j < i → acc.get j = Acc.get ((i, o.dst, (g, r.out x), zipM r.tags (r.mem x)) :: acc) j := fun j hj => by rw [Acc.get_cons, if_neg (by omega)]
    have cong : ∀ j o', G.l[j]? = some o' → j ≤ i → evalAt X G T0.get M0.get acc.get j o' = evalAt X G T0.get M0.get (Acc.get ((i, o.dst, (g, r.out x), zipM r.tags (r.mem x)) :: acc)) j o' := by
      intro j o' hj hle
      refine evalAt_congr fun m hmm k hk => same k ?_
      obtain ⟨m', f1, f2, _⟩ := hmk j o' hj
      rw [Nat.zero_add] at f1 f2
      rw [f1] at hmm
      cases hmm
      have := f2 k hk
      omega
    refine walk hm hS hF (h5 x hx) e2 hil (fun j o' hj hlt => ?_) (fun j hj hSj => ?_) ⟨rfl, hn⟩
    · by_cases hji : j = i
      · subst hji
        rw [e1] at hj
        cases hj
        exact ⟨g, r, x, by rw [← cong j o e1 (Nat.le_refl _)]; exact h1, h2, h4, hx, by rw [Acc.get_cons, if_pos rfl]⟩
      · obtain ⟨g', r', x', c1, c2, c3, c4, c5⟩ := hc j o' hj (by omega)
        exact ⟨g', r', x', by rw [← cong j o' hj (by omega)]; exact c1, c2, c3, c4, by rw [← same j (by omega)]; exact c5⟩
    · by_cases hji : j = i
      · subst hji
        rw [Acc.get_cons, if_pos rfl, hxF hSj]
      · rw [← same j (by omega)]
        exact hs j (by omega) hSj

/-- the frame and the world, where of the operations those of S are done -/
structure Mid (X : Cx) (G : Rg) (T0 : Tm) (M0 : Mem) (S : Nat → Bool) (F : AccF) (a : Act) (w : World) : Prop where
  size : a.tmps.size = X.N
  d : a.defers = M0.dfs
  out : ∀ t e, T0.get t = some e → (∀ j, G.D.get t = some j → S j = false) → SlotOk a t e
  inn : ∀ j x t, j < G.l.length → S j = true → F j = some x → x.1 = some t → SlotOk a t x.2.1
  mem : Sat X.O X.w0 (mviewP G S F M0.get) w

theorem mviewJ_sub (hG : rgOk G = true) {S : Nat → Bool} (hS : Closed G S) {F : AccF} {i m : Nat} (hmi : nth G.masks i = some m) (hlt : ∀ j, bitN m j = true → j < i) (hpre : ∀ j, bitN m j = true → S j = true) (hSi : S i = false) (n : Nat) (B : Blk) (h : mviewJ G i m F M0.get n = some B) : mviewP G S F M0.get n = some B := by
  unfold mviewJ at h
  split at h
  · cases h
  · rename_i hany
    rw [← h]
    unfold mviewP
    refine verM_congr fun u hu => ?_
    have hl := anyL_false hany u hu
    have hul := (ups_ord hG n).1 u hu
    by_cases hui : u = i
    · subst hui
      have hb : bitN m u = false := by
        cases hb : bitN m u with
        | false => rfl
        | true => have := hlt u hb; omega
      exact ⟨hSi.trans hb.symm, fun _ => rfl⟩
    · refine ⟨?_, fun _ => rfl⟩
      cases hb : bitN m u with
      | true => exact hpre u hb
      | false =>
        cases hSu : S u with
        | false => rfl
        | true =>
          unfold loose at hl
          have hbe : Nat.beq u i = false := by
            cases hbb : Nat.beq u i with
            | false => rfl
            | true => exact absurd (Nat.eq_of_beq_eq_true hbb) hui
          rw [hbe, hb] at hl
          cases hmu : nth G.masks u with
          | none => rw [hmu] at hl; cases hl
          | some mu =>
            rw [hmu] at hl
            simp only [Bool.not_eq_false'] at hl
            have := hS u mu hul hSu hmu i hl
            rw [hSi] at this; cases this

theorem Mid.view (hG : rgOk G = true) {F F' : AccF} {S : Nat → Bool} (hS : Closed G S) {a : Act} {w : World} (hM : Mid X G T0 M0 S F a w) (hF : PCons X G T0 M0 S F) {i m : Nat} (hmi : nth G.masks i = some m) (hlt : ∀ j, bitN m j = true → j < i) (hpre : ∀ j, bitN m j = true → S j = true) (hSi : S i = false)
    (hF' : ∀ j, bitN m j = true → F' j = F j) : SatT X.N (viewP G i m F' T0.get) a ∧ Sat X.O X.w0 (mviewJ G i m F' M0.get) w := by
  have hGo := hG
  simp only [rgOk, Bool.and_eq_true] at hGo
  obtain ⟨⟨⟨_, hd⟩, hd2⟩, _⟩ := hGo
  rw [view_congr hF', mviewJ_congr hF']
  constructor
  · refine ⟨hM.size, fun t e h => ?_⟩
    unfold viewP at h
    split at h
    · rename_i hn; exact hM.out t e h (fun j hj => by rw [hn] at hj; cases hj)
    · rename_i j hj
      split at h
      rotate_left
      · cases h
      · split at h
        · rename_i hwj
          refine hM.out t e h fun j' hj' => ?_
          rw [hj] at hj'
          cases hj'
          obtain ⟨oj, q1, _⟩ := dOk2_at hd2 t j hj
          cases hSj : S j with
          | false => rfl
          | true =>
            unfold waits at hwj
            split at hwj
            · rename_i mj hmj
              have := hS j mj (List.getElem?_eq_some_iff.1 q1).1 hSj hmj i hwj
              rw [hSi] at this; cases this
            · cases hwj
        · cases h
      · rename_i x hpj hFj
        cases h
        obtain ⟨o, h1, h2⟩ := dOk2_at hd2 t j hj
        have hjl := (List.getElem?_eq_some_iff.1 h1).1
        obtain ⟨g, r, y, _, _, _, _, c5⟩ := hF j o h1 (hpre j hpj)
        refine hM.inn j x t hjl (hpre j hpj) hFj ?_
        rw [hFj] at c5
        cases c5
        exact h2
  · exact hM.mem.weaken fun n B hB => ⟨B, mviewJ_sub hG hS hmi hlt hpre hSi n B hB, Blk.le_refl B⟩

theorem verM_with {S : Nat → Bool} {F F' : AccF} {i n : Nat} {L : MemF} (hSi : S i = false) (hsame : ∀ j, j ≠ i → F' j = F j) {e : AE} (hFi : F' i = some e) (hL : e.2.2.get n = L n) {us : List Nat} (cur : Option Blk) (hin : i ∈ us) (ho : us.Pairwise fun a b => a < b) (hlate : ∀ u ∈ us, i < u → S u = false) :
    verM (fun j => if j = i then true else S j) F' n us cur = match L n with | some B => some B | none => verM S F n us cur := by
  obtain ⟨l1, l2, rfl⟩ := List.append_of_mem hin
  have hp := List.pairwise_append.1 ho
  have h1 : ∀ u ∈ l1, u ≠ i := fun u hu e => by have := hp.2.2 u hu i (.head _); omega
  have h2 : ∀ u ∈ l2, i < u := fun u hu => (List.pairwise_cons.1 hp.2.1).1 u hu
  rw [verM_append, verM_append, verM, verM]
  have c1 : verM (fun j => if j = i then true else S j) F' n l1 cur = verM S F n l1 cur := verM_congr fun u hu => ⟨by simp [h1 u hu], fun _ => hsame u (h1 u hu)⟩
  rw [c1, verM_off (us := l2) (p := fun j => if j = i then true else S j) fun u hu => by
    have := h2 u hu
    simp only [if_neg (show ¬ u = i by omega)]
    exact hlate u (by simp [hu]) this]
  rw [verM_off (us := l2) (p := S) fun u hu => hlate u (by simp [hu]) (h2 u hu), hSi]
  simp only [if_true, hFi, hL]
  rfl

/-- one operation, at any moment at which it may come -/
theorem mid_step (hG : rgOk G = true) {K : Acc → Prop} (hK : okD X G T0.get M0.get K 0 G.l []) {S : Nat → Bool} {F : AccF} (hF : PCons X G T0 M0 S F) {a : Act} {w : World} (hM : Mid X G T0 M0 S F a w)
    (hS : Closed G S) {i : Nat} {o : Oper} (ho : G.l[i]? = some o) (hSi : S i = false)
    (hpre : ∀ m, nth G.masks i = some m → ∀ j, bitN m j = true → S j = true) {next : Act → World → Prop} {Q : Exit → Act → World → Prop}
    (hk : ∀ F' a' w', PCons X G T0 M0 (fun j => if j = i then true else S j) F' → Mid X G T0 M0 (fun j => if j = i then true else S j) F' a' w' → next a' w') :
    if Region.wanted o (yielded G.l.toArray a.tmps) = true then o.wp X.P a w next Q else next (a.put o.dst undef) w := by
  have hGo := hG
  simp only [rgOk, Bool.and_eq_true] at hGo
  obtain ⟨⟨⟨hm, hd⟩, hd2⟩, _⟩ := hGo
  have hl : i < G.l.length := (List.getElem?_eq_some_iff.1 ho).1
  obtain ⟨acc, _, hC, hA, _⟩ := walk hm hS hF hK rfl (Nat.zero_le _) (fun j _ _ hj => by omega) (fun j hj => by omega) trivial
  obtain ⟨g, r, x0, c1, c2, c3, c4, _⟩ := hC i o ho
  obtain ⟨m, f1, f2, _⟩ := masksOk_at hm i o ho
  rw [Nat.zero_add] at f1 f2
  have hprem := hpre m f1
  have hev := c1
  unfold evalAt at hev
  rw [f1] at hev
  simp only at hev
  have haF : ∀ j, bitN m j = true → acc.get j = F j := fun j hj => hA j (by have := f2 j hj; omega) (hprem j hj)
  obtain ⟨vT, vM⟩ := hM.view hG hS hF f1 f2 hprem hSi haF
  refine opEval_sound X.hb X.he X.hct X.hcr (ops := G.l.toArray) dstL_at hev c2 ⟨x0, c4⟩ vT vM fun x v w' hx hturn hv => ?_
  -- the results with this one
  have hF'i : (fun j => if j = i then some (o.dst, (g, r.out x), zipM r.tags (r.mem x)) else F j) i = some (o.dst, (g, r.out x), zipM r.tags (r.mem x)) := by simp
  have hF'n : ∀ j, j ≠ i → (fun j => if j = i then some (o.dst, (g, r.out x), zipM r.tags (r.mem x)) else F j) j = F j := fun j hj => by simp [hj]
  generalize hFdef : (fun j => if j = i then some (o.dst, (g, r.out x), zipM r.tags (r.mem x)) else F j) = F' at hF'i hF'n
  have hcons : PCons X G T0 M0 (fun j => if j = i then true else S j) F' := by
    intro j o' hj hSj
    by_cases hji : j = i
    · subst hji
      rw [ho] at hj; cases hj
      refine ⟨g, r, x, ?_, c2, c3, hx, hF'i⟩
      rw [← c1]
      refine evalAt_congr fun m' hm' k hk => ?_
      rw [f1] at hm'; cases hm'
      have := f2 k hk
      rw [hF'n k (by omega), haF k hk]
    · simp only [if_neg hji] at hSj
      obtain ⟨g', r', x', b1, b2, b3, b4, b5⟩ := hF j o' hj hSj
      refine ⟨g', r', x', ?_, b2, b3, b4, by rw [hF'n j hji]; exact b5⟩
      rw [← b1]
      refine evalAt_congr fun m' hm' u hu => hF'n u fun e => ?_
      have := hS j m' (List.getElem?_eq_some_iff.1 hj).1 hSj hm' u hu
      rw [e, hSi] at this; cases this
  refine hk F' _ w' hcons ⟨by rw [put_size]; exact hM.size, ?_, fun t e ht hn => ?_, fun j y t hj hSj hy hyt => ?_, ?_⟩
  · rw [← hM.d]; cases o.dst <;> rfl
  · have := hM.out t e ht (fun j hj => by
      have := hn j hj
      by_cases hji : j = i
      · rw [if_pos hji] at this; cases this
      · rw [if_neg hji] at this; exact this)
    cases hod : o.dst with
    | none => exact this
    | some d =>
      refine slot_ne (fun e' => ?_) this
      subst e'
      have := hn _ (dOk_at hd i o d ho hod)
      simp at this
  · by_cases hji : j = i
    · subst hji
      rw [hF'i] at hy
      cases hy
      have hdN : Nat.blt t X.N = true := opEval_dst hev t hyt
      have hdN := blt_lt hdN
      simp only at hyt
      rw [hyt]
      have h1 : t < (a.put (some t) v).tmps.size := by rw [put_size, hM.size]; exact hdN
      cases g with
      | none => exact ⟨h1, by rw [put_get hM.size hdN]; exact hv⟩
      | some g => exact ⟨h1, by rw [put_get hM.size hdN]; exact hv⟩
    · simp only [if_neg hji] at hSj
      rw [hF'n j hji] at hy
      have h1 := hM.inn j y t hj hSj hy hyt
      cases hod : o.dst with
      | none => exact h1
      | some d =>
        refine slot_ne (fun e => ?_) h1
        subst e
        obtain ⟨o', ho'⟩ : ∃ o, G.l[j]? = some o := ⟨_, List.getElem?_eq_getElem hj⟩
        obtain ⟨g4, r4, x4, _, _, _, _, k5⟩ := hF j o' ho' hSj
        rw [hy] at k5
        cases k5
        have q1 := dOk_at hd j o' d ho' hyt
        have q2 := dOk_at hd i o d ho hod
        rw [q1] at q2
        simp only [Nat.zero_add, Option.some.injEq] at q2
        exact hji q2
  · -- the memory
    have hturn' : Turn (mviewP G S F M0.get) w w' (zipM r.tags (r.mem x)).get := by
      have hsub : ∀ n B, mviewJ G i m acc.get M0.get n = some B → mviewP G S F M0.get n = some B := fun n B h => by
        rw [mviewJ_congr haF] at h
        exact mviewJ_sub hG hS f1 f2 hprem hSi n B h
      refine ⟨hturn.os, hturn.tape, hturn.output, hturn.size, fun k hk hno => hturn.block k hk fun n B B' hL hM' => hno n B B' hL (hsub n B hM'), hturn.holds, fun n B b hL ho' => ?_, hturn.apart, hturn.noreads⟩
      rcases hturn.own n B b hL ho' with h1 | ⟨n', B0, B1, h1, h2, h3⟩
      · exact .inl h1
      · exact .inr ⟨n', B0, B1, h1, hsub _ _ h2, h3⟩
    have hnew := hM.mem.turn hturn' X.hO
    have heq : mviewP G (fun j => if j = i then true else S j) F' M0.get = updM (zipM r.tags (r.mem x)).get (mviewP G S F M0.get) := by
      funext n
      obtain ⟨hol, hop⟩ := ups_ord hG n
      unfold mviewP
      by_cases hin : i ∈ ups G n
      · have := verM_with (S := S) (F := F) (F' := F') (n := n) (L := (zipM r.tags (r.mem x)).get) hSi hF'n hF'i rfl (M0.get n) hin (hop.imp fun h => h.1) (fun u hu hiu => by
          cases hSu : S u with
          | false => rfl
          | true =>
            obtain ⟨q1, q2, q3⟩ := List.append_of_mem hin
            -- of two, the later waits for the earlier
            have hbit : ∃ mu, nth G.masks u = some mu ∧ bitN mu i = true := by
              have hpw := hop
              rw [q3] at hpw hu
              have hp := List.pairwise_append.1 hpw
              rcases List.mem_append.1 hu with hu | hu
              · have := (hp.2.2 u hu i (.head _)).1; omega
              · rcases List.mem_cons.1 hu with rfl | hu
                · omega
                · exact ((List.pairwise_cons.1 hp.2.1).1 u hu).2
            obtain ⟨mu, hmu, hbu⟩ := hbit
            have := hS u mu (hol u hu) hSu hmu i hbu
            rw [hSi] at this; cases this)
        rw [this]; rfl
      · have hLn : (zipM r.tags (r.mem x)).get n = none := by
          cases hz : (zipM r.tags (r.mem x)).get n with
          | none => rfl
          | some B => exact absurd (tagsOk_at c3 n (zipM_mem hz)).1 hin
        unfold updM
        rw [hLn]
        refine verM_congr fun u hu => ?_
        have hui : u ≠ i := fun e => hin (e ▸ hu)
        exact ⟨by simp [hui], fun _ => hF'n u hui⟩
    rw [heq]
    exact hnew

theorem finalT_get {T0 : Tm} : ∀ {k : Nat} {acc : Acc} {t e}, accOk k acc → (finalT acc T0).get t = some e → (∃ j x, j < k ∧ acc.get j = some x ∧ x.1 = some t ∧ x.2.1 = e) ∨ ((∀ j x, acc.get j = some x → x.1 ≠ some t) ∧ T0.get t = some e)
  | 0, [], t, e, _, h => .inr ⟨fun _ _ hx => (by cases hx), h⟩
  | 0, _ :: _, _, _, ha, _ => ha.elim
  | k + 1, [], _, _, ha, _ => ha.elim
  | k + 1, (i, od, (g, a), m) :: r, t, e, ha, h => by
    obtain ⟨rfl, ha⟩ := ha
    have go : (finalT r T0).get t = some e → (od ≠ some t) → (∃ j x, j < i + 1 ∧ Acc.get ((i, od, (g, a), m) :: r) j = some x ∧ x.1 = some t ∧ x.2.1 = e) ∨ ((∀ j x, Acc.get ((i, od, (g, a), m) :: r) j = some x → x.1 ≠ some t) ∧ T0.get t = some e) := by
      intro h hne
      rcases finalT_get ha h with ⟨j, x, h0, h1, h2, h3⟩ | ⟨h1, h2⟩
      · exact .inl ⟨j, x, by omega, by rw [Acc.get_cons, if_neg (by omega)]; exact h1, h2, h3⟩
      · refine .inr ⟨fun j x hj => ?_, h2⟩
        rw [Acc.get_cons] at hj
        split at hj
        · cases hj; exact hne
        · exact h1 j x hj
    cases od with
    | none => exact go h (by simp)
    | some d =>
      have h' : (if d = t then some (g, a) else (finalT r T0).get t) = some e := by rw [← Tm.get_cons]; exact h
      split at h'
      · rename_i hd
        cases h'
        exact .inl ⟨i, _, Nat.lt_succ_self _, by rw [Acc.get_cons, if_pos rfl], by rw [hd], rfl⟩
      · rename_i hd
        exact go h' (fun e => hd (Option.some.inj e))

theorem finalM_last {M0 : Mem} {n : Nat} : ∀ {k : Nat} {acc : Acc}, accOk k acc → IsLast acc.get n (List.range k) (M0.get n) ((finalM acc M0).get n)
  | 0, [], _ => .inr ⟨fun i hi => by simp at hi, rfl⟩
  | 0, _ :: _, ha => ha.elim
  | k + 1, [], ha => ha.elim
  | k + 1, (i, od, ga, m) :: r, ha => by
    obtain ⟨rfl, ha⟩ := ha
    have hget : (finalM ((i, od, ga, m) :: r) M0).get n = match m.get n with | some B => some B | none => (finalM r M0).get n := by
      show (Mem.app m (finalM r M0)).get n = _
      rw [Mem.app_get]; rfl
    have hself : entry (Acc.get ((i, od, ga, m) :: r)) n i = m.get n := by unfold entry; rw [Acc.get_cons, if_pos rfl]
    have hold : ∀ j, j < i → entry (Acc.get ((i, od, ga, m) :: r)) n j = entry (Acc.get r) n j := fun j hj => by unfold entry; rw [Acc.get_cons, if_neg (by omega)]
    rw [hget]
    cases hm : m.get n with
    | some B => exact .inl ⟨i, by simp, ⟨B, by rw [hself, hm], rfl⟩, fun j hj hij => by simp at hj; omega⟩
    | none =>
      rcases finalM_last (M0 := M0) (n := n) ha with ⟨j, hj, ⟨B, h1, h2⟩, h3⟩ | ⟨h1, h2⟩
      · simp only [List.mem_range] at hj
        refine .inl ⟨j, by simp; omega, ⟨B, by rw [hold j hj]; exact h1, h2⟩, fun u hu hju => ?_⟩
        simp only [List.mem_range] at hu
        by_cases hui : u = i
        · rw [hui, hself, hm]
        · rw [hold u (by omega)]; exact h3 u (by simp; omega) hju
      · refine .inr ⟨fun u hu => ?_, h2⟩
        simp only [List.mem_range] at hu
        by_cases hui : u = i
        · rw [hui, hself, hm]
        · rw [hold u (by omega)]; exact h1 u (by simp; omega)

theorem finalM_dfs : ∀ {k : Nat} {acc : Acc}, accOk k acc → (∀ j x, acc.get j = some x → x.2.2.get 777777 = none) → (finalM acc M0).dfs = M0.dfs
  | 0, [], _, _ => rfl
  | 0, _ :: _, ha, _ => ha.elim
  | k + 1, [], ha, _ => ha.elim
  | k + 1, (i, od, ga, m) :: r, ha, h => by
    obtain ⟨rfl, ha⟩ := ha
    show (Mem.app m (finalM r M0)).dfs = _
    rw [app_dfs (L := m) (M := finalM r M0) (h i (od, ga, m) (by rw [Acc.get_cons, if_pos rfl]))]
    refine finalM_dfs ha fun j x hj => h j x ?_
    have hne : ¬ i = j := fun e => by rw [accOk_lt ha j (by omega)] at hj; cases hj
    rw [Acc.get_cons, if_neg hne]; exact hj

/-- all done -/
theorem mid_end (hG : rgOk G = true) {K : Acc → Prop} (hK : okD X G T0.get M0.get K 0 G.l []) {S : Nat → Bool} {F : AccF} (hF : PCons X G T0 M0 S F) (hcl : Closed G S) {a : Act} {w : World} (hM : Mid X G T0 M0 S F a w) (hS : ∀ j, j < G.l.length → S j = true) :
    ∃ acc, K acc ∧ At X (finalT acc T0) (finalM acc M0) a w := by
  have hGo := hG
  simp only [rgOk, Bool.and_eq_true] at hGo
  obtain ⟨⟨⟨hm, hd⟩, hd2⟩, _⟩ := hGo
  obtain ⟨acc, hKa, hC, hA, hok⟩ := walk hm hcl hF hK rfl (Nat.zero_le _) (fun j _ _ hj => by omega) (fun j hj => by omega) trivial
  have cons : ∀ j x, acc.get j = some x → ∃ (o : Oper) (g : Option Bool) (r : Res) (y : r.β), G.l[j]? = some o ∧ tagsOk G j r.tags = true ∧ x = (o.dst, (g, r.out y), zipM r.tags (r.mem y)) := by
    intro j x hj
    have hjl : j < G.l.length := by
      rcases Nat.lt_or_ge j G.l.length with h | h
      · exact h
      · rw [accOk_lt hok j h] at hj; cases hj
    obtain ⟨o, ho⟩ : ∃ o, G.l[j]? = some o := ⟨_, List.getElem?_eq_getElem hjl⟩
    obtain ⟨g, r, y, _, _, c3, _, c5⟩ := hC j o ho
    rw [hj] at c5
    cases c5
    exact ⟨o, g, r, y, ho, c3, rfl⟩
  refine ⟨acc, hKa, ⟨hM.size, fun t e h => ?_⟩, ?_, ?_⟩
  · rcases finalT_get hok h with ⟨j, x, h0, h1, h2, h3⟩ | ⟨h1, h2⟩
    · have := hM.inn j x t h0 (hS j h0) (by rw [← hA j h0 (hS j h0)]; exact h1) h2
      rw [h3] at this
      exact this
    · refine hM.out t e h2 fun j hD => ?_
      · obtain ⟨o, k1, k2⟩ := dOk2_at hd2 t j hD
        obtain ⟨g, r, y, _, _, _, _, c5⟩ := hC j o k1
        exact absurd k2 (h1 j _ c5)
  · rw [finalM_dfs hok fun j x hj => ?_]
    · exact hM.d
    · obtain ⟨o, g, r, y, _, c3, rfl⟩ := cons j x hj
      cases hz : (zipM r.tags (r.mem y)).get 777777 with
      | none => rfl
      | some B => exact absurd rfl (tagsOk_at c3 _ (zipM_mem hz)).2
  · refine hM.mem.weaken fun n B hB => ⟨B, ?_, Blk.le_refl B⟩
    obtain ⟨hol, hop⟩ := ups_ord hG n
    have e1 : mviewP G S F M0.get n = verM (fun _ => true) acc.get n (ups G n) (M0.get n) := by
      unfold mviewP
      exact verM_congr fun u hu => ⟨hS u (hol u hu), fun _ => (hA u (hol u hu) (hS u (hol u hu))).symm⟩
    rw [e1, ← hB]
    refine (verM_last (hop.imp fun h => h.1)).uniq (finalM_last hok) (fun i hi _ => by simpa using hol i hi) fun i hi he => ?_
    unfold entry at he
    cases hx : acc.get i with
    | none => rw [hx] at he; cases he
    | some x =>
      rw [hx] at he
      obtain ⟨o, g, r, y, _, c3, rfl⟩ := cons i x hx
      obtain ⟨B', hB'⟩ := Option.isSome_iff_exists.1 he
      exact (tagsOk_at c3 n (zipM_mem hB')).1
end
end Go.Proofs.Ytaohdlepocajcaa.V
