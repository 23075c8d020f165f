import Derived.Test.YtofophjfgalhaaaGreatDoorMisdeedVerifiesW25
set_option linter.unusedVariables false
set_option linter.unusedSimpArgs false
/-! Sign: the plain part. -/
namespace Go.Proofs.YtofophjfgalhaaaGreatDoor.V
open Go Go.RowKit

theorem sgOf_same (recs : List (Int × ByteArray)) (a : Int) (m : ByteArray) : sgOf (recs ++ [(a, m)]) a = sgOf recs a ++ [m] := by
  unfold sgOf; simp [List.filter_append]
theorem sgOf_ne (recs : List (Int × ByteArray)) {a a' : Int} (h : a' ≠ a) (m : ByteArray) : sgOf (recs ++ [(a, m)]) a' = sgOf recs a' := by
  unfold sgOf
  rw [List.filter_append]
  have : ([(a, m)] : List (Int × ByteArray)).filter (fun r => r.1 == a') = [] := by
    rw [List.filter_cons_of_neg (by simpa using fun e => h e.symm)]; rfl
  rw [this, List.append_nil]
theorem sgOf_len (recs : List (Int × ByteArray)) (a : Int) : (sgOf recs a).length ≤ recs.length := by
  unfold sgOf; rw [List.length_map]; exact List.length_filter_le _ _
theorem sgOf_nil {recs : List (Int × ByteArray)} {a : Int} (h : ∀ r ∈ recs, r.1 ≠ a) : sgOf recs a = [] := by
  unfold sgOf
  rw [List.filter_eq_nil_iff.2 fun r hr => by simpa using h r hr]; rfl
theorem mset_mid : ∀ {l1 l2 : List (AV × AV × Nat)} {p : AV × AV × Nat} {K X : AV}, mset (l1 ++ p :: l2) l1.length K X = l1 ++ (K, X, p.2.2) :: l2
  | [], l2, (k, v, b), K, X => rfl
  | q :: l1, l2, p, K, X => by
    show q :: mset (l1 ++ p :: l2) l1.length K X = _
    rw [mset_mid]; rfl
def gpF (recs : List (Int × ByteArray)) (g : Grp) : AV × AV := (.v (.int .u64 g.a), .gs 905 0 (some (g.blk, 0)) 1 0 (sgOf recs g.a).length g.cap)
section
variable {H : Frag} {b bS bR bG : Nat} {ents : List (Int × Nat)} {recs : List (Int × ByteArray)} {gr : List Grp} {lS lR lG : List (AV × AV × Nat)} {cS cR cG : Nat}
theorem RegF.miss_gp (h : RegF H b ents recs bS bR bG gr lS lR lG cS cR cG) {a : Int} (ha : ∀ g ∈ gr, g.a ≠ a) : mfind tabs2.tb tabs2.eqs 39 (.v (.int .u64 a)) lG 0 = some none := by
  refine mfind_miss fun p hp => ?_
  have := kv_mem h.gpv hp
  obtain ⟨e, he, h1⟩ := List.mem_map.1 this
  have h2 : p.1 = .v (.int .u64 e.a) := (congrArg Prod.fst h1).symm
  rw [h2, eq_u64]
  simp only [Option.some.injEq, beq_eq_false_iff_ne, ne_eq]
  exact fun e' => ha e he e'.symm
/-- the group of an address, split off -/
theorem RegF.hit_gp (h : RegF H b ents recs bS bR bG gr lS lR lG cS cR cG) {gr1 gr2 : List Grp} {g : Grp} (hg : gr = gr1 ++ g :: gr2) (h1 : ∀ g' ∈ gr1, g'.a ≠ g.a) : ∃ l1 l2 born, lG = l1 ++ ((gpF recs g).1, (gpF recs g).2, born) :: l2 ∧ kv l1 = gr1.map (gpF recs) ∧ kv l2 = gr2.map (gpF recs) ∧ mfind tabs2.tb tabs2.eqs 39 (.v (.int .u64 g.a)) lG 0 = some (some (l1.length, (gpF recs g).2)) := by
  have hv : kv lG = gr.map (gpF recs) := h.gpv
  rw [hg, List.map_append, List.map_cons] at hv
  unfold kv at hv
  obtain ⟨l1, l', rfl, hl1, hl'⟩ := List.map_eq_append_iff.1 hv
  obtain ⟨p, l2, rfl, hp, hl2⟩ := List.map_eq_cons_iff.1 hl'
  have hp1 : p = ((gpF recs g).1, (gpF recs g).2, p.2.2) := by
    have e1 := congrArg Prod.fst hp
    have e2 := congrArg Prod.snd hp
    exact Prod.ext e1 (Prod.ext e2 rfl)
  refine ⟨l1, l2, p.2.2, by rw [← hp1], hl1, hl2, ?_⟩
  have := mfind_hit (tb := tabs2.tb) (eqs := tabs2.eqs) (kt := 39) (K := .v (.int .u64 g.a)) (i := 0) (l := l1 ++ p :: l2) (j := l1.length) (p := p) (by simp) (by rw [hp1]; show eqT tabs2.tb tabs2.eqs 64 39 _ (.v (.int .u64 g.a)) = _; rw [eq_u64]; simp) (fun j' hj q hq => by
    rw [List.getElem?_append_left hj] at hq
    have hm := kv_mem hl1 (List.mem_of_getElem? hq)
    obtain ⟨g', hg', e⟩ := List.mem_map.1 hm
    have h2 : q.1 = .v (.int .u64 g'.a) := (congrArg Prod.fst e).symm
    rw [h2, eq_u64]
    simp only [Option.some.injEq, beq_eq_false_iff_ne, ne_eq]
    exact fun e' => h1 g' hg' e'.symm)
  rw [Nat.zero_add] at this
  rw [this, hp1]
theorem grp_split {gr : List Grp} {a : Int} (h : ∃ g ∈ gr, g.a = a) : ∃ gr1 g gr2, gr = gr1 ++ g :: gr2 ∧ g.a = a := by
  obtain ⟨g, hg, e⟩ := h
  obtain ⟨l1, l2, h⟩ := List.append_of_mem hg
  exact ⟨l1, g, l2, h, e⟩
theorem RegF.others (h : RegF H b ents recs bS bR bG gr lS lR lG cS cR cG) {gr1 gr2 : List Grp} {g : Grp} (hg : gr = gr1 ++ g :: gr2) : ∀ g' ∈ gr1 ++ gr2, g'.a ≠ g.a := by
  have := h.nda
  rw [hg, List.map_append, List.map_cons] at this
  have := (List.perm_middle.nodup_iff.1 this)
  rw [List.nodup_cons] at this
  intro g' hg' e
  refine this.1 ?_
  rw [← List.map_append, ← e]
  exact List.mem_map_of_mem (f := (·.a)) hg'
/-- what is opened -/
theorem RegF.piecesS (h : RegF H b ents recs bS bR bG gr lS lR lG cS cR cG) {e : Int × Nat} (he : e ∈ ents) : Pieces H ([.row b 74 5 1 (fun _ => regAV 0 bS bR bG) 1, .mp true bS lS cS, .mp true bR lR cR, .mp true bG lG cG, .row e.2 222 2 1 (fun _ => sigAV b e.1) 1] ++ [restB H ([b, bS, bR, bG, e.2] ++ [])]) := by
  obtain ⟨h1, h2, h3, h4, h5, h6, h7, h8, h9, h10, h11⟩ := nodup4 h.ndb
  have hm : e.2 ∈ ents.map (·.2) ++ gr.map (·.blk) := List.mem_append_left _ (List.mem_map_of_mem (f := (·.2)) he)
  have k1 : ∀ {x}, x ∉ ents.map (·.2) ++ gr.map (·.blk) → ¬ x = e.2 := fun hx e' => hx (e' ▸ hm)
  refine pieces_of (ks := [b, bS, bR, bG, e.2]) ⟨one_row h.row, one_map h.sg, one_map h.rc, one_map h.gp, one_row (h.sig e he), trivial⟩ ?_
  simp [h1, h2, h3, h4, h5, h6, k1 h7, k1 h8, k1 h9, k1 h10]
theorem RegF.piecesG (h : RegF H b ents recs bS bR bG gr lS lR lG cS cR cG) {e : Int × Nat} (he : e ∈ ents) {g : Grp} (hg : g ∈ gr) : Pieces H ([.row b 74 5 1 (fun _ => regAV 0 bS bR bG) 1, .mp true bS lS cS, .mp true bR lR cR, .mp true bG lG cG, .row e.2 222 2 1 (fun _ => sigAV b e.1) 1, .vrow (some g.blk) 9 1 (sgOf recs g.a).length (fun i => .v (.string ((sgOf recs g.a).getD i ⟨#[]⟩))) g.cap] ++ [restB H ([b, bS, bR, bG, e.2] ++ [g.blk])]) := by
  obtain ⟨h1, h2, h3, h4, h5, h6, h7, h8, h9, h10, h11⟩ := nodup4 h.ndb
  have hm : e.2 ∈ ents.map (·.2) ++ gr.map (·.blk) := List.mem_append_left _ (List.mem_map_of_mem (f := (·.2)) he)
  have hn : g.blk ∈ ents.map (·.2) ++ gr.map (·.blk) := List.mem_append_right _ (List.mem_map_of_mem (f := (·.blk)) hg)
  have k1 : ∀ {x}, x ∉ ents.map (·.2) ++ gr.map (·.blk) → ¬ x = e.2 := fun hx e' => hx (e' ▸ hm)
  have k2 : ∀ {x}, x ∉ ents.map (·.2) ++ gr.map (·.blk) → ¬ x = g.blk := fun hx e' => hx (e' ▸ hn)
  have k3 : ¬ e.2 = g.blk := fun e' => (List.nodup_append.1 h11).2.2 _ (List.mem_map_of_mem (f := (·.2)) he) _ (List.mem_map_of_mem (f := (·.blk)) hg) e'
  refine pieces_of (ks := [b, bS, bR, bG, e.2, g.blk]) ⟨one_row h.row, one_map h.sg, one_map h.rc, one_map h.gp, one_row (h.sig e he), one_vrow (h.grp g hg), trivial⟩ ?_
  simp [h1, h2, h3, h4, h5, h6, k1 h7, k1 h8, k1 h9, k1 h10, k2 h7, k2 h8, k2 h9, k2 h10, k3]
abbrev addBs (H : Frag) (b bS bR bG : Nat) (lS lR lG : List (AV × AV × Nat)) (cS cR cG k : Nat) (a : Int) (v : Option Nat) (l : List ByteArray) (cap : Nat) (ks : List Nat) : List Blk := [.row b 74 5 1 (fun _ => regAV 0 bS bR bG) 1, .mp true bS lS cS, .mp true bR lR cR, .mp true bG lG cG, .row k 222 2 1 (fun _ => sigAV b a) 1, .vrow v 9 1 l.length (fun i => .v (.string (l.getD i ⟨#[]⟩))) cap, restB H ([b, bS, bR, bG, k] ++ ks)]
theorem reg_add (h : RegF H b ents recs bS bR bG gr lS lR lG cS cR cG) {e : Int × Nat} (he : e ∈ ents) {recs' : List (Int × ByteArray)} {gr1 old gr2 : List Grp} (hgr : gr = gr1 ++ old ++ gr2) (hoth : ∀ g ∈ gr1 ++ gr2, g.a ≠ e.1) {lR' lG1 lG2 : List (AV × AV × Nat)} {cR' cG' born : Nat} (hl1 : kv lG1 = gr1.map (gpF recs)) (hl2 : kv lG2 = gr2.map (gpF recs)) (hR' : kv lR' = recs'.map fun r => (recK r, .agg .nil)) {v : Option Nat} {cap : Nat} {w : World} (hne : sgOf recs' e.1 ≠ []) (hsg : ∀ a, a ≠ e.1 → sgOf recs' a = sgOf recs a) (hnd : recs'.Nodup) (hal : ∀ r ∈ recs', r ∈ recs ∨ r.1 = e.1)
    (hold : ∀ g ∈ old, g.a = e.1)
    (hh : ∀ B ∈ addBs H b bS bR bG lS lR' (lG1 ++ (.v (.int .u64 e.1), .gs 905 0 (ownB v) 1 0 (sgOf recs' e.1).length cap, born) :: lG2) cS cR' cG' e.2 e.1 v (sgOf recs' e.1) cap (old.map (·.blk)), B.holds w) (hp : (addBs H b bS bR bG lS lR' (lG1 ++ (.v (.int .u64 e.1), .gs 905 0 (ownB v) 1 0 (sgOf recs' e.1).length cap, born) :: lG2) cS cR' cG' e.2 e.1 v (sgOf recs' e.1) cap (old.map (·.blk))).Pairwise fun B B' => ∀ k, B.own k → ¬ B'.own k) :
    IsReg b ents recs' (restr w (ownU (addBs H b bS bR bG lS lR' (lG1 ++ (.v (.int .u64 e.1), .gs 905 0 (ownB v) 1 0 (sgOf recs' e.1).length cap, born) :: lG2) cS cR' cG' e.2 e.1 v (sgOf recs' e.1) cap (old.map (·.blk))))) := by
  have hlen : 0 < (sgOf recs' e.1).length := List.length_pos_iff.2 hne
  obtain ⟨blk, rfl, _⟩ := vrow_some (hh (.vrow v 9 1 (sgOf recs' e.1).length (fun i => .v (.string ((sgOf recs' e.1).getD i ⟨#[]⟩))) cap) (.tail _ (.tail _ (.tail _ (.tail _ (.tail _ (.head _))))))) hlen
  obtain ⟨n1, n2, n3, n4, n5, n6, n7, n8, n9, n10, n11⟩ := nodup4 h.ndb
  have hsub : ((b :: bS :: bR :: bG :: ents.map (·.2)) ++ (gr1.map (·.blk) ++ gr2.map (·.blk))).Nodup := by
    refine List.Nodup.sublist ?_ h.ndb
    rw [hgr]
    simp only [List.map_append, List.cons_append]
    refine List.Sublist.cons_cons _ (List.Sublist.cons_cons _ (List.Sublist.cons_cons _ (List.Sublist.cons_cons _ (List.Sublist.append_left ?_ _))))
    exact List.Sublist.append_right (List.sublist_append_left _ _) _
  have hr : restB H ([b, bS, bR, bG, e.2] ++ old.map (·.blk)) ∈ addBs H b bS bR bG lS lR' (lG1 ++ (.v (.int .u64 e.1), .gs 905 0 (ownB (some blk)) 1 0 (sgOf recs' e.1).length cap, born) :: lG2) cS cR' cG' e.2 e.1 (some blk) (sgOf recs' e.1) cap (old.map (·.blk)) := .tail _ (.tail _ (.tail _ (.tail _ (.tail _ (.tail _ (.head _))))))
  have ndA := List.nodup_append.1 n11
  have ndG := ndA.2.1
  rw [hgr, List.map_append, List.map_append] at ndG
  have ndG1 := List.nodup_append.1 ndG
  have ndG2 := List.nodup_append.1 ndG1.1
  -- what is left of the old things
  have kE : ∀ e' ∈ ents, e'.2 ≠ e.2 → e'.2 ∉ [b, bS, bR, bG, e.2] ++ old.map (·.blk) := by
    intro e' he' hne' hm
    have hd := (h.dom (k := e'.2) (List.mem_append_left _ (List.mem_map_of_mem (f := (·.2)) he'))).2
    rcases List.mem_append.1 hm with hm | hm
    · simp only [List.mem_cons, List.not_mem_nil, or_false] at hm hd
      rcases hm with hm | hm | hm | hm | hm
      · exact hd (.inl hm)
      · exact hd (.inr (.inl hm))
      · exact hd (.inr (.inr (.inl hm)))
      · exact hd (.inr (.inr (.inr hm)))
      · exact hne' hm
    · refine ndA.2.2 _ (List.mem_map_of_mem (f := (·.2)) he') e'.2 ?_ rfl
      rw [hgr, List.map_append, List.map_append]
      exact List.mem_append_left _ (List.mem_append_right _ hm)
  have kG : ∀ g ∈ gr1 ++ gr2, g ∈ gr ∧ g.blk ∉ [b, bS, bR, bG, e.2] ++ old.map (·.blk) := by
    intro g hg
    have hgm : g ∈ gr := by
      rw [hgr]
      rcases List.mem_append.1 hg with hg | hg
      · exact List.mem_append_left _ (List.mem_append_left _ hg)
      · exact List.mem_append_right _ hg
    refine ⟨hgm, fun hm => ?_⟩
    have hd := (h.dom (k := g.blk) (List.mem_append_right _ (List.mem_map_of_mem (f := (·.blk)) hgm))).2
    rcases List.mem_append.1 hm with hm | hm
    · simp only [List.mem_cons, List.not_mem_nil, or_false] at hm hd
      rcases hm with hm | hm | hm | hm | hm
      · exact hd (.inl hm)
      · exact hd (.inr (.inl hm))
      · exact hd (.inr (.inr (.inl hm)))
      · exact hd (.inr (.inr (.inr hm)))
      · exact ndA.2.2 _ (List.mem_map_of_mem (f := (·.2)) he) g.blk (List.mem_map_of_mem (f := (·.blk)) hgm) hm.symm
    · rcases List.mem_append.1 hg with hg | hg
      · exact ndG2.2.2 _ (List.mem_map_of_mem (f := (·.blk)) hg) _ hm rfl
      · exact ndG1.2.2 _ (List.mem_append_right _ hm) _ (List.mem_map_of_mem (f := (·.blk)) hg) rfl
  have nb : blk ∉ (b :: bS :: bR :: bG :: ents.map (·.2)) ++ (gr1.map (·.blk) ++ gr2.map (·.blk)) := by
    simp only [addBs, List.pairwise_cons, List.mem_cons, List.not_mem_nil, or_false] at hp
    obtain ⟨p1, p2, p3, p4, p5, p6, _⟩ := hp
    have far : ∀ k, H k ≠ none → k ∉ [b, bS, bR, bG, e.2] ++ old.map (·.blk) → k ≠ blk := fun k a1 a2 a3 => p6 _ rfl blk rfl ⟨a3 ▸ a1, a3 ▸ a2⟩
    intro hm
    rcases List.mem_append.1 hm with hm | hm
    · rcases List.mem_cons.1 hm with rfl | hm
      · exact p1 _ (.inr (.inr (.inr (.inr (.inl rfl))))) blk rfl rfl
      rcases List.mem_cons.1 hm with rfl | hm
      · exact p2 _ (.inr (.inr (.inr (.inl rfl)))) blk rfl rfl
      rcases List.mem_cons.1 hm with rfl | hm
      · exact p3 _ (.inr (.inr (.inl rfl))) blk rfl rfl
      rcases List.mem_cons.1 hm with rfl | hm
      · exact p4 _ (.inr (.inl rfl)) blk rfl rfl
      obtain ⟨e', he', h1⟩ := List.mem_map.1 hm
      by_cases h2 : e'.2 = e.2
      · exact p5 _ (.inl rfl) blk (by rw [← h1]; exact h2.symm) rfl
      · exact far e'.2 (h.sig e' he').ne (kE e' he' h2) h1
    · rw [← List.map_append] at hm
      obtain ⟨g, hg, h1⟩ := List.mem_map.1 hm
      exact far g.blk (h.grp g (kG g hg).1).ne (kG g hg).2 h1
  refine ⟨bS, bR, bG, gr1 ++ ⟨e.1, blk, cap⟩ :: gr2, lS, lR', _, cS, cR', cG', closed_row (.head _) hh, closed_map (.tail _ (.head _)) hh, h.sgv, closed_map (.tail _ (.tail _ (.head _))) hh, hR', closed_map (.tail _ (.tail _ (.tail _ (.head _)))) hh, ?_, fun e' he' => ?_, fun g hg => ?_, fun r hr' => ?_, ?_, h.nde, hnd, ?_⟩
  · have f1 : ∀ g ∈ gr1 ++ gr2, gpF recs g = gpF recs' g := fun g hg => by unfold gpF; rw [hsg _ (hoth g hg)]
    show kv _ = (gr1 ++ ⟨e.1, blk, cap⟩ :: gr2).map (gpF recs')
    unfold kv at hl1 hl2 ⊢
    rw [List.map_append, List.map_cons, hl1, hl2, List.map_append, List.map_cons, List.map_congr_left fun g hg => f1 g (List.mem_append_left _ hg), List.map_congr_left fun g hg => f1 g (List.mem_append_right _ hg)]
    rfl
  · by_cases h2 : e'.2 = e.2
    · have he2 : e' = e := by
        obtain ⟨i, hi, h3⟩ := List.getElem_of_mem he
        obtain ⟨j, hj, h4⟩ := List.getElem_of_mem he'
        have h5 : (ents.map (·.2))[i]? = some e.2 := by rw [List.getElem?_map, List.getElem?_eq_getElem hi, h3]; rfl
        have h6 : (ents.map (·.2))[j]? = some e.2 := by rw [List.getElem?_map, List.getElem?_eq_getElem hj, h4, ← h2]; rfl
        have := (List.getElem?_inj (by rw [List.length_map]; exact hi) ndA.1).1 (h5.trans h6.symm)
        subst this
        exact h4.symm.trans h3
      rw [he2]
      exact closed_row (.tail _ (.tail _ (.tail _ (.tail _ (.head _))))) hh
    · exact (h.kept hr hh (kE e' he' h2)).1 e' he' rfl
  · have hg' : g = ⟨e.1, blk, cap⟩ ∨ g ∈ gr1 ++ gr2 := by
      rcases List.mem_append.1 hg with h1 | h1
      · exact .inr (List.mem_append_left _ h1)
      · rcases List.mem_cons.1 h1 with h1 | h1
        · exact .inl h1
        · exact .inr (List.mem_append_right _ h1)
    rcases hg' with rfl | hg'
    · exact closed_vrow (.tail _ (.tail _ (.tail _ (.tail _ (.tail _ (.head _)))))) hh
    · rw [hsg _ (hoth g hg')]
      exact (h.kept hr hh (kG g hg').2).2 g (kG g hg').1 rfl
  · by_cases hr1 : r.1 = e.1
    · exact ⟨_, List.mem_append_right _ (.head _), hr1.symm⟩
    · rcases hal r hr' with h1 | h1
      · obtain ⟨g, hg, h2⟩ := h.all r h1
        rw [hgr] at hg
        rcases List.mem_append.1 hg with hg | hg
        · rcases List.mem_append.1 hg with hg | hg
          · exact ⟨g, List.mem_append_left _ hg, h2⟩
          · exact absurd (h2.symm.trans (hold g hg)) hr1
        · exact ⟨g, List.mem_append_right _ (.tail _ hg), h2⟩
      · exact absurd h1 hr1
  · rw [List.map_append, List.map_cons]
    refine List.perm_middle.nodup_iff.2 (List.nodup_cons.2 ⟨fun hm => ?_, ?_⟩)
    · rw [← List.map_append] at hm
      obtain ⟨g, hg, h1⟩ := List.mem_map.1 hm
      exact hoth g hg h1
    · refine List.Nodup.sublist ?_ h.nda
      rw [hgr, List.map_append, List.map_append]
      exact List.Sublist.append_right (List.sublist_append_left _ _) _
  · have : b :: bS :: bR :: bG :: (ents.map (·.2) ++ (gr1 ++ (⟨e.1, blk, cap⟩ : Grp) :: gr2).map (·.blk)) = ((b :: bS :: bR :: bG :: ents.map (·.2)) ++ gr1.map (·.blk)) ++ blk :: gr2.map (·.blk) := by simp
    rw [this]
    refine List.perm_middle.nodup_iff.2 (List.nodup_cons.2 ⟨?_, ?_⟩)
    · rw [List.append_assoc]; exact nb
    · rw [List.append_assoc]; exact hsub
end
end Go.Proofs.YtofophjfgalhaaaGreatDoor.V
/-! Sign, walked. -/
namespace Go.Proofs.YtofophjfgalhaaaGreatDoor.V
open Go Go.RowKit

def addR (recs : List (Int × ByteArray)) (r : Int × ByteArray) : List (Int × ByteArray) := if hasR recs r then recs else recs ++ [r]
/-- a signer of a book -/
def sgnOf (M : MemF) (p : Pt) : Option (Prop × Nat × List (Int × Nat) × List (Int × ByteArray) × (Nat → Prop) × (Int × Nat)) := match M p.n with
  | some (.sep (.reg b ents recs) S φ) => some (Blk.sep (.reg b ents recs) S φ = regB b ents recs S ∧ p.ix < ents.length ∧ (p.b = (ents.getD p.ix (0, 0)).2 ∧ p.o0 = 0 ∧ p.es = 2 ∧ p.idx = 0 ∧ p.off = 0 ∧ p.j = 0), b, ents, recs, S, ents.getD p.ix (0, 0))
  | _ => none
theorem getD_mem {α : Type} {l : List α} {i : Nat} {d : α} (h : i < l.length) : l.getD i d ∈ l := by
  rw [List.getD_eq_getElem?_getD, List.getElem?_eq_getElem h]; exact List.getElem_mem h
theorem sgnOf_spec {M : MemF} {p : Pt} {c : Prop} {b : Nat} {ents : List (Int × Nat)} {recs : List (Int × ByteArray)} {S : Nat → Prop} {e : Int × Nat} (h : sgnOf M p = some (c, b, ents, recs, S, e)) (hc : c) : M p.n = some (regB b ents recs S) ∧ e ∈ ents ∧ (AV.ptr p).val = (AV.ptr ⟨904, 0, e.2, 0, 2, 0, 0, 0, false⟩).val := by
  unfold sgnOf at h
  split at h
  · rename_i b' e' r' S' φ hM
    cases h
    obtain ⟨h1, h0, h2, h3, h4, h5, h6, h7⟩ := hc
    refine ⟨by rw [hM, h1], getD_mem h0, ?_⟩
    rw [ptr_val, ptr_val]
    unfold Pt.cell
    simp only [h2, h3, h5, h6, h7]
    simp
  · cases h
def signC (_tag : Nat) (args : List AV) (M : MemF) : Option Res := match args, M 100003, M 100004 with
  | [.ptr p, X], some (.var 3 (.ints .u32 8 B0)), some (.var 4 (.ints .u32 64 K)) => match sgnOf M p, seqOf M X with
    | some (c, b, ents, recs, _, e), some (c2, es, n, fx) => some ⟨Nat → Prop, c ∧ (c2 ∧ (n ≠ 0 → es = 1) ∧ n ≤ 1048576 ∧ ∀ i, i < n → fx i = .v (.int .u8 (fx i).int1)) ∧ tagNe p.n X = true ∧ recs.length ≤ 1000000, fun _ => True, fun _ => .tup (.cons (.ints .u8 16 (seaF K B0 e.1 (fun i => (fx i).int1) n)) (.cons (.v (.int .i64 0)) .nil)), [p.n], fun x => [regB b ents (addR recs (e.1, strOf n fx)) x]⟩
    | _, _ => none
  | _, _, _ => none
theorem le_regR {b : Nat} {ents : List (Int × Nat)} {recs' recs2 : List (Int × ByteArray)} (h : recs2 = recs') {x : Nat → Prop} : (regB b ents recs' x).le (regB b ents recs2 x) := by
  rw [h]; exact Blk.le_refl _
theorem nodup_add {recs : List (Int × ByteArray)} {r : Int × ByteArray} (h : recs.Nodup) (hn : r ∉ recs) : (recs ++ [r]).Nodup := by
  refine List.nodup_append.2 ⟨h, by simp, fun x hx y hy e0 => hn ?_⟩
  have : y = r := by simpa using hy
  rw [← this, ← e0]; exact hx
theorem mem_add {recs : List (Int × ByteArray)} {r : Int × ByteArray} : ∀ q ∈ recs ++ [r], q ∈ recs ∨ q.1 = r.1 := by
  intro q hq
  rcases List.mem_append.1 hq with h1 | h1
  · exact .inl h1
  · have : q = r := by simpa using h1
    rw [this]; exact .inr rfl
theorem kv_add {lR : List (AV × AV × Nat)} {recs : List (Int × ByteArray)} {r : Int × ByteArray} {c : Nat} (h : kv lR = recs.map fun r => (recK r, .agg .nil)) : kv (lR ++ [(recK r, .agg .nil, c)]) = (recs ++ [r]).map fun r => (recK r, .agg .nil) := by
  simp only [kv, List.map_append, List.map_cons, List.map_nil] at h ⊢
  rw [h]
theorem fapp_str {l : List ByteArray} {m : ByteArray} {src : Nat → AV} (hs : src 0 = .v (.string m)) : ∀ i, i < (l ++ [m]).length → (AV.v (.string ((l ++ [m]).getD i ⟨#[]⟩))).cells = (fapp l.length (fun i => .v (.string (l.getD i ⟨#[]⟩))) src i).cells ∧ (AV.v (.string ((l ++ [m]).getD i ⟨#[]⟩))).one = true := by
  intro i hi
  rw [List.length_append] at hi
  have hi : i < l.length + 1 := hi
  refine ⟨?_, rfl⟩
  unfold fapp
  split
  · rename_i h
    have h : i < l.length := by first | exact h | exact blt_lt h | exact of_decide_eq_true h
    rw [List.getD_eq_getElem?_getD, List.getElem?_append_left h, ← List.getD_eq_getElem?_getD]
  · rename_i h
    have h : ¬ i < l.length := by first | exact h | exact fun h' => by simp [h'] at h | (intro h'; revert h; simp [Nat.blt_eq, h'])
    have : i = l.length := by omega
    subst this
    rw [Nat.sub_self, hs]
    simp
def ctSg : CtL := [(113, seaC)]
set_option maxRecDepth 100000 in
theorem ctSg_ok : CtLOk Tryz.prog ctSg := ⟨CallsOk.fn sea_body sea_read, trivial⟩

set_option maxRecDepth 100000 in
set_option maxHeartbeats 8000000 in
theorem sign_turn : TurnFn Tryz.prog 73 signC := by
  intro tag args M r h0 hok O w0 w hS
  unfold signC at h0
  split at h0
  · rename_i p X B0 K hM3 hM4
    split at h0
    · rename_i c b ents recs S e c2 es n fx hp hsx
      cases h0
      obtain ⟨hc, ⟨q1, q2, q3, q4⟩, htag, hlen⟩ := hok
      obtain ⟨hM, he, hv⟩ := sgnOf_spec hp hc
      obtain ⟨base, cap, hvx, hro⟩ := bytes_ro hS hsx q1 q2 q4
      obtain ⟨f, hf0⟩ : ∃ f, f = fun i => (fx i).int1 := ⟨_, rfl⟩
      have hstr : strOf n fx = strOf n fun i => .v (.int .u8 (f i)) := by rw [hf0]; rfl
      rw [← hf0, hstr]
      have hro : (roB base 1 n fun i => .v (.int .u8 (f i))).holds w := by rw [hf0]; exact hro
      have hap : ∀ j, (roB base 1 n fun i => .v (.int .u8 (f i))).reads j → ¬ (regB b ents recs S).own j := ro_apart hS hsx q1 q2 hM htag hvx
      have hB := hS.holds _ _ hM3
      have hK := hS.holds _ _ hM4
      have hn : ((n : Int) > 1048576) = False := by simp; omega
      rw [show [AV.ptr p, X].map AV.val = [.ptr ⟨904, 0, e.2, 0, 2, 0, 0, 0, false⟩, roS 910 base 1 n cap].map AV.val by simp only [List.map_cons, List.map_nil, hv, hvx, roS_val]]
      refine turn_oneL tabs2 ctSg_ok crLk_ok Tryz.func73 rfl rfl hS _ hM [(910, roB base 1 n fun i => .v (.int .u8 (f i))), (100003, .var 3 (.ints .u32 8 B0)), (100004, .var 4 (.ints .u32 64 K))] rfl rfl (hS.holds _ _ hM) (fun _ h => h) (fun _ h => h) ⟨hro, hB, hK, trivial⟩ ⟨roB_noOwn, fun _ h => h, fun _ h => h, trivial⟩ ⟨hap, fun k hr ho => hS.roapart _ _ _ _ _ hM hM3 ho hr, fun k hr ho => hS.roapart _ _ _ _ _ hM hM4 ho hr, trivial⟩ ?_
      refine s_open (n := 900) (g := .reg b ents recs) (S := S) (P := IsReg b ents recs) [900, 901, 902, 903, 904, 905, 999] rfl rfl fun H hH hP => ?_
      obtain ⟨bS, bR, bG, gr, lS, lR, lG, cS, cR, cG, hF⟩ := hP
      by_cases hg : ∃ g ∈ gr, g.a = e.1
      · obtain ⟨gr1, g, gr2, hgr, hga⟩ := grp_split hg
        have hgm : g ∈ gr := hgr ▸ List.mem_append_right _ (.head _)
        have hP := hF.piecesG he hgm
        have hoth := hF.others hgr
        have h1 : ∀ g' ∈ gr1, g'.a ≠ g.a := fun g' h => hoth g' (List.mem_append_left _ h)
        obtain ⟨l1, l2, born, hlG, hl1, hl2, hf⟩ := hF.hit_gp hgr h1
        unfold gpF at hlG hf
        rw [hga] at hP hoth hlG hf
        have hll : (sgOf recs e.1).length ≤ 1000000 := Nat.le_trans (sgOf_len recs e.1) hlen
        subst hlG
        have hgr' : gr = gr1 ++ [g] ++ gr2 := by rw [hgr]; simp
        have hold : ∀ g' ∈ [g], g'.a = e.1 := fun g' h => by rw [(by simpa using h : g' = g)]; exact hga
        refine ⟨_, hP, ?_⟩
        by_cases hin : (e.1, strOf n fun i => .v (.int .u8 (f i))) ∈ recs
        · obtain ⟨j, hj⟩ := hF.hit_rc hin
          have hA : addR recs (e.1, strOf n fun i => .v (.int .u8 (f i))) = recs := by unfold addR; rw [if_pos (hasR_iff.2 hin)]
          have hne : sgOf recs e.1 ≠ [] := fun h0 => absurd (show (strOf n fun i => .v (.int .u8 (f i))) ∈ sgOf recs e.1 from List.mem_map.2 ⟨_, List.mem_filter.2 ⟨hin, by simp⟩, rfl⟩) (by rw [h0]; exact List.not_mem_nil)
          repeat (first | refine s_seq ?_ | refine s_region ?_ | refine o_nil ?_ | refine d_nil ?_ | refine oA rfl rfl trivial ?_ | refine oB rfl rfl rfl (fun _ _ => ?_) | refine oC rfl rfl rfl trivial ?_ | refine dA rfl rfl trivial ?_ | refine dB rfl rfl rfl (fun _ _ => ?_) | refine dC rfl rfl rfl trivial ?_ | refine s_skip ?_ | refine s_block ?_ | refine s_exit ?_ | refine s_label ?_)
          refine s_cond (b := false) rfl (fun hb => by cases hb) (fun _ => ?_)
          repeat (first | refine s_seq ?_ | refine s_region ?_ | refine o_nil ?_ | refine d_nil ?_ | refine oA rfl rfl trivial ?_ | refine oB rfl rfl rfl (fun _ _ => ?_) | refine oC rfl rfl rfl trivial ?_ | refine dA rfl rfl trivial ?_ | refine dB rfl rfl rfl (fun _ _ => ?_) | refine dC rfl rfl rfl trivial ?_ | refine s_skip ?_ | refine s_block ?_ | refine s_exit ?_ | refine s_label ?_)
          refine s_cond (b := decide ((n : Int) > 1048576)) rfl (fun hb => absurd hb (by simp; omega)) (fun _ => ?_)
          repeat (first | refine s_seq ?_ | refine s_region ?_ | refine o_nil ?_ | refine d_nil ?_ | refine oA rfl rfl trivial ?_ | refine oB rfl rfl rfl (fun _ _ => ?_) | refine oC rfl rfl rfl trivial ?_ | refine dA rfl rfl trivial ?_ | refine dB rfl rfl rfl (fun _ _ => ?_) | refine dC rfl rfl rfl trivial ?_ | refine s_skip ?_ | refine s_block ?_ | refine s_exit ?_ | refine s_label ?_)
          refine o_defer (f := 69) (l := [(0, .ptr ⟨900, 0, b, 0, 5, 0, 0, 0, false⟩)]) rfl rfl rfl rfl trivial ?_
          repeat (first | refine s_seq ?_ | refine s_region ?_ | refine o_nil ?_ | refine d_nil ?_ | refine oA rfl rfl trivial ?_ | refine oB rfl rfl rfl (fun _ _ => ?_) | refine oC rfl rfl rfl trivial ?_ | refine dA rfl rfl trivial ?_ | refine dB rfl rfl rfl (fun _ _ => ?_) | refine dC rfl rfl rfl trivial ?_ | refine s_skip ?_ | refine s_block ?_ | refine s_exit ?_ | refine s_label ?_)
          refine s_draw rD73_8 rM73_8 rX73_8 rN73_8 rfl rfl ?_
          repeat (first | refine s_seq ?_ | refine s_region ?_ | refine o_nil ?_ | refine d_nil ?_ | refine oA rfl rfl trivial ?_ | refine oB rfl rfl rfl (fun _ _ => ?_) | refine oC rfl rfl rfl trivial ?_ | refine dA rfl rfl trivial ?_ | refine dB rfl rfl rfl (fun _ _ => ?_) | refine dC rfl rfl rfl trivial ?_ | refine s_skip ?_ | refine s_block ?_ | refine s_exit ?_ | refine s_label ?_)
          refine s_draw rD73_9 rM73_9 rX73_9 rN73_9 rfl rfl ?_
          repeat (first | refine s_seq ?_ | refine s_region ?_ | refine o_nil ?_ | refine d_nil ?_ | refine oA rfl rfl trivial ?_ | refine oB rfl rfl rfl (fun _ _ => ?_) | refine oC rfl rfl rfl trivial ?_ | refine dA rfl rfl trivial ?_ | refine dB rfl rfl rfl (fun _ _ => ?_) | refine dC rfl rfl rfl trivial ?_ | refine s_skip ?_ | refine s_block ?_ | refine s_exit ?_ | refine s_label ?_)
          refine d_look (some (j, .agg .nil)) rfl rfl rfl rfl rfl rfl rfl rfl rfl rfl rfl rfl rfl hj ?_
          repeat (first | refine s_seq ?_ | refine s_region ?_ | refine o_nil ?_ | refine d_nil ?_ | refine oA rfl rfl trivial ?_ | refine oB rfl rfl rfl (fun _ _ => ?_) | refine oC rfl rfl rfl trivial ?_ | refine dA rfl rfl trivial ?_ | refine dB rfl rfl rfl (fun _ _ => ?_) | refine dC rfl rfl rfl trivial ?_ | refine s_skip ?_ | refine s_block ?_ | refine s_exit ?_ | refine s_label ?_)
          refine s_cond (b := false) rfl (fun hb => by cases hb) (fun _ => ?_)
          repeat (first | refine s_seq ?_ | refine s_region ?_ | refine o_nil ?_ | refine d_nil ?_ | refine oA rfl rfl trivial ?_ | refine oB rfl rfl rfl (fun _ _ => ?_) | refine oC rfl rfl rfl trivial ?_ | refine dA rfl rfl trivial ?_ | refine dB rfl rfl rfl (fun _ _ => ?_) | refine dC rfl rfl rfl trivial ?_ | refine s_skip ?_ | refine s_block ?_ | refine s_exit ?_ | refine s_label ?_)
          refine s_ret ?_
          refine .inr ⟨69, [.ptr ⟨900, 0, b, 0, 5, 0, 0, 0, false⟩], [(900, _)], _, _, _, _, rfl, unlock_body, unlock_dfr (L := muLink) muLib row21_ok rfl ⟨⟨⟨⟨rfl, rfl, rfl, Nat.zero_lt_one⟩, rfl⟩, rfl⟩, ⟨rfl, rfl, rfl, Nat.zero_lt_one⟩, rfl⟩, le_close (n := 900) (.reg b ents recs) (IsReg b ents recs) [900, 901, 902, 903, 904, 905, 999] (addBs H b bS bR bG lS lR (l1 ++ (.v (.int .u64 e.1), .gs 905 0 (ownB (some g.blk)) 1 0 (sgOf recs e.1).length g.cap, born) :: l2) cS cR cG e.2 e.1 (some g.blk) (sgOf recs e.1) g.cap ([g].map (·.blk))) rfl (by decide) ⟨⟨⟨_, rfl, Blk.le_rowc (Nat.le_refl _) fun _ _ => ⟨rfl, rfl⟩⟩, fun _ h => h⟩, ⟨⟨_, rfl, Blk.le_refl _⟩, fun _ h => h⟩, ⟨⟨_, rfl, Blk.le_refl _⟩, fun _ h => h⟩, ⟨⟨_, rfl, Blk.le_refl _⟩, fun _ h => h⟩, ⟨⟨_, rfl, Blk.le_refl _⟩, fun _ h => h⟩, ⟨⟨_, rfl, Blk.le_refl _⟩, fun _ h => h⟩, ⟨⟨_, rfl, Blk.le_refl _⟩, fun _ h => h⟩, trivial⟩ (fun w hh hp => reg_add hF he hgr' hoth hl1 hl2 hF.rcv hne (fun _ _ => rfl) hF.ndr (fun _ h => .inl h) hold hh hp), rfl, (by repeat (first | exact trivial | constructor)), _, trivial, ?_, ⟨⟨_, rfl, le_regR hA⟩, fun _ h => h⟩, trivial⟩
          rfl
        · have hA : addR recs (e.1, strOf n fun i => .v (.int .u8 (f i))) = recs ++ [(e.1, strOf n fun i => .v (.int .u8 (f i)))] := by unfold addR; rw [if_neg fun h1 => hin (hasR_iff.1 h1)]
          repeat (first | refine s_seq ?_ | refine s_region ?_ | refine o_nil ?_ | refine d_nil ?_ | refine oA rfl rfl trivial ?_ | refine oB rfl rfl rfl (fun _ _ => ?_) | refine oC rfl rfl rfl trivial ?_ | refine dA rfl rfl trivial ?_ | refine dB rfl rfl rfl (fun _ _ => ?_) | refine dC rfl rfl rfl trivial ?_ | refine s_skip ?_ | refine s_block ?_ | refine s_exit ?_ | refine s_label ?_)
          refine s_cond (b := false) rfl (fun hb => by cases hb) (fun _ => ?_)
          repeat (first | refine s_seq ?_ | refine s_region ?_ | refine o_nil ?_ | refine d_nil ?_ | refine oA rfl rfl trivial ?_ | refine oB rfl rfl rfl (fun _ _ => ?_) | refine oC rfl rfl rfl trivial ?_ | refine dA rfl rfl trivial ?_ | refine dB rfl rfl rfl (fun _ _ => ?_) | refine dC rfl rfl rfl trivial ?_ | refine s_skip ?_ | refine s_block ?_ | refine s_exit ?_ | refine s_label ?_)
          refine s_cond (b := decide ((n : Int) > 1048576)) rfl (fun hb => absurd hb (by simp; omega)) (fun _ => ?_)
          repeat (first | refine s_seq ?_ | refine s_region ?_ | refine o_nil ?_ | refine d_nil ?_ | refine oA rfl rfl trivial ?_ | refine oB rfl rfl rfl (fun _ _ => ?_) | refine oC rfl rfl rfl trivial ?_ | refine dA rfl rfl trivial ?_ | refine dB rfl rfl rfl (fun _ _ => ?_) | refine dC rfl rfl rfl trivial ?_ | refine s_skip ?_ | refine s_block ?_ | refine s_exit ?_ | refine s_label ?_)
          refine o_defer (f := 69) (l := [(0, .ptr ⟨900, 0, b, 0, 5, 0, 0, 0, false⟩)]) rfl rfl rfl rfl trivial ?_
          repeat (first | refine s_seq ?_ | refine s_region ?_ | refine o_nil ?_ | refine d_nil ?_ | refine oA rfl rfl trivial ?_ | refine oB rfl rfl rfl (fun _ _ => ?_) | refine oC rfl rfl rfl trivial ?_ | refine dA rfl rfl trivial ?_ | refine dB rfl rfl rfl (fun _ _ => ?_) | refine dC rfl rfl rfl trivial ?_ | refine s_skip ?_ | refine s_block ?_ | refine s_exit ?_ | refine s_label ?_)
          refine s_draw rD73_8 rM73_8 rX73_8 rN73_8 rfl rfl ?_
          repeat (first | refine s_seq ?_ | refine s_region ?_ | refine o_nil ?_ | refine d_nil ?_ | refine oA rfl rfl trivial ?_ | refine oB rfl rfl rfl (fun _ _ => ?_) | refine oC rfl rfl rfl trivial ?_ | refine dA rfl rfl trivial ?_ | refine dB rfl rfl rfl (fun _ _ => ?_) | refine dC rfl rfl rfl trivial ?_ | refine s_skip ?_ | refine s_block ?_ | refine s_exit ?_ | refine s_label ?_)
          refine s_draw rD73_9 rM73_9 rX73_9 rN73_9 rfl rfl ?_
          repeat (first | refine s_seq ?_ | refine s_region ?_ | refine o_nil ?_ | refine d_nil ?_ | refine oA rfl rfl trivial ?_ | refine oB rfl rfl rfl (fun _ _ => ?_) | refine oC rfl rfl rfl trivial ?_ | refine dA rfl rfl trivial ?_ | refine dB rfl rfl rfl (fun _ _ => ?_) | refine dC rfl rfl rfl trivial ?_ | refine s_skip ?_ | refine s_block ?_ | refine s_exit ?_ | refine s_label ?_)
          refine d_look none rfl rfl rfl rfl rfl rfl rfl rfl rfl rfl rfl rfl rfl (hF.miss_rc hin) ?_
          repeat (first | refine s_seq ?_ | refine s_region ?_ | refine o_nil ?_ | refine d_nil ?_ | refine oA rfl rfl trivial ?_ | refine oB rfl rfl rfl (fun _ _ => ?_) | refine oC rfl rfl rfl trivial ?_ | refine dA rfl rfl trivial ?_ | refine dB rfl rfl rfl (fun _ _ => ?_) | refine dC rfl rfl rfl trivial ?_ | refine s_skip ?_ | refine s_block ?_ | refine s_exit ?_ | refine s_label ?_)
          refine s_cond (b := true) rfl (fun _ => ?_) (fun hb => by cases hb)
          repeat (first | refine s_seq ?_ | refine s_region ?_ | refine o_nil ?_ | refine d_nil ?_ | refine oA rfl rfl trivial ?_ | refine oB rfl rfl rfl (fun _ _ => ?_) | refine oC rfl rfl rfl trivial ?_ | refine dA rfl rfl trivial ?_ | refine dB rfl rfl rfl (fun _ _ => ?_) | refine dC rfl rfl rfl trivial ?_ | refine s_skip ?_ | refine s_block ?_ | refine s_exit ?_ | refine s_label ?_)
          refine s_draw rD73_11 rM73_11 [(902, [6])] rN73_11 rfl rfl ?_
          repeat (first | refine s_seq ?_ | refine s_region ?_ | refine o_nil ?_ | refine d_nil ?_ | refine oA rfl rfl trivial ?_ | refine oB rfl rfl rfl (fun _ _ => ?_) | refine oC rfl rfl rfl trivial ?_ | refine dA rfl rfl trivial ?_ | refine dB rfl rfl rfl (fun _ _ => ?_) | refine dC rfl rfl rfl trivial ?_ | refine s_skip ?_ | refine s_block ?_ | refine s_exit ?_ | refine s_label ?_)
          refine d_mset none rfl rfl rfl rfl rfl rfl rfl rfl rfl rfl rfl rfl (hF.miss_rc hin) rfl ?_
          repeat (first | refine s_seq ?_ | refine s_region ?_ | refine o_nil ?_ | refine d_nil ?_ | refine oA rfl rfl trivial ?_ | refine oB rfl rfl rfl (fun _ _ => ?_) | refine oC rfl rfl rfl trivial ?_ | refine dA rfl rfl trivial ?_ | refine dB rfl rfl rfl (fun _ _ => ?_) | refine dC rfl rfl rfl trivial ?_ | refine s_skip ?_ | refine s_block ?_ | refine s_exit ?_ | refine s_label ?_)
          refine s_draw rD73_12 rM73_12 [(903, [21]), (905, [20])] rN73_12 rfl rfl ?_
          repeat (first | refine s_seq ?_ | refine s_region ?_ | refine o_nil ?_ | refine d_nil ?_ | refine oA rfl rfl trivial ?_ | refine oB rfl rfl rfl (fun _ _ => ?_) | refine oC rfl rfl rfl trivial ?_ | refine dA rfl rfl trivial ?_ | refine dB rfl rfl rfl (fun _ _ => ?_) | refine dC rfl rfl rfl trivial ?_ | refine s_skip ?_ | refine s_block ?_ | refine s_exit ?_ | refine s_label ?_)
          refine d_look (some (l1.length, .gs 905 0 (some (g.blk, 0)) 1 0 (sgOf recs e.1).length g.cap)) rfl rfl rfl rfl rfl rfl rfl rfl rfl rfl rfl rfl rfl hf ?_
          repeat (first | refine s_seq ?_ | refine s_region ?_ | refine o_nil ?_ | refine d_nil ?_ | refine oA rfl rfl trivial ?_ | refine oB rfl rfl rfl (fun _ _ => ?_) | refine oC rfl rfl rfl trivial ?_ | refine dA rfl rfl trivial ?_ | refine dB rfl rfl rfl (fun _ _ => ?_) | refine dC rfl rfl rfl trivial ?_ | refine s_skip ?_ | refine s_block ?_ | refine s_exit ?_ | refine s_label ?_)
          refine d_mset (some (l1.length, .gs 905 0 (some (g.blk, 0)) 1 0 (sgOf recs e.1).length g.cap)) rfl rfl rfl rfl rfl rfl rfl rfl rfl rfl rfl rfl hf rfl ?_
          repeat (first | refine s_seq ?_ | refine s_region ?_ | refine o_nil ?_ | refine d_nil ?_ | refine oA rfl rfl trivial ?_ | refine oB rfl rfl rfl (fun _ _ => ?_) | refine oC rfl rfl rfl trivial ?_ | refine dA rfl rfl trivial ?_ | refine dB rfl rfl rfl (fun _ _ => ?_) | refine dC rfl rfl rfl trivial ?_ | refine s_skip ?_ | refine s_block ?_ | refine s_exit ?_ | refine s_label ?_)
          refine s_ret ?_
          rename_i v hv2
          have hl : sgOf (recs ++ [(e.1, strOf n fun i => .v (.int .u8 (f i)))]) e.1 = sgOf recs e.1 ++ [strOf n fun i => .v (.int .u8 (f i))] := sgOf_same _ _ _
          refine .inr ⟨69, [.ptr ⟨900, 0, b, 0, 5, 0, 0, 0, false⟩], [(900, _)], _, _, _, _, rfl, unlock_body, unlock_dfr (L := muLink) muLib row21_ok rfl ⟨⟨⟨⟨rfl, rfl, rfl, Nat.zero_lt_one⟩, rfl⟩, rfl⟩, ⟨rfl, rfl, rfl, Nat.zero_lt_one⟩, rfl⟩, le_close (n := 900) (.reg b ents (recs ++ [(e.1, strOf n fun i => .v (.int .u8 (f i)))])) (IsReg b ents (recs ++ [(e.1, strOf n fun i => .v (.int .u8 (f i)))])) [900, 901, 902, 903, 904, 905, 999] (addBs H b bS bR bG lS (lR ++ [(recK (e.1, strOf n fun i => .v (.int .u8 (f i))), .agg .nil, cR)]) (l1 ++ (.v (.int .u64 e.1), .gs 905 0 (ownB v.1) 1 0 (sgOf recs e.1 ++ [strOf n fun i => .v (.int .u8 (f i))]).length v.2, born) :: l2) cS (cR + 1) cG e.2 e.1 v.1 (sgOf recs e.1 ++ [strOf n fun i => .v (.int .u8 (f i))]) v.2 ([g].map (·.blk))) rfl (by decide) ⟨⟨⟨_, rfl, Blk.le_rowc (Nat.le_refl _) fun _ _ => ⟨rfl, rfl⟩⟩, fun _ h => h⟩, ⟨⟨_, rfl, Blk.le_refl _⟩, fun _ h => h⟩, ⟨⟨_, rfl, Blk.le_mapc (by simp only [List.map_append]; rfl)⟩, fun _ h => h⟩, ⟨⟨_, rfl, Blk.le_mapc (by rw [mset_mid, List.length_append]; simp only [List.map_append, List.map_cons]; rfl)⟩, fun _ h => h⟩, ⟨⟨_, rfl, Blk.le_refl _⟩, fun _ h => h⟩, ⟨⟨_, rfl, Blk.le_vrowc (by rw [List.length_append]; exact Nat.le_refl _) (fapp_str rfl)⟩, fun _ h => h⟩, ⟨⟨_, rfl, Blk.le_refl _⟩, fun _ h => h⟩, trivial⟩ (fun w hh hp => ?_), rfl, (by repeat (first | exact trivial | constructor)), _, trivial, ?_, ⟨⟨_, rfl, le_regR hA⟩, fun _ h => h⟩, trivial⟩
          · have := reg_add (lR' := lR ++ [(recK (e.1, strOf n fun i => .v (.int .u8 (f i))), .agg .nil, cR)]) (cR' := cR + 1) (cG' := cG) (born := born) (v := v.1) (cap := v.2) (w := w) hF he hgr' hoth hl1 hl2 (kv_add hF.rcv) (by rw [hl]; simp) (fun a ha => sgOf_ne recs ha _) (nodup_add hF.ndr hin) mem_add hold
            rw [hl] at this
            exact this hh hp
          · rfl
      · have hgn : ∀ g ∈ gr, g.a ≠ e.1 := fun g h1 h2 => hg ⟨g, h1, h2⟩
        have hin : (e.1, strOf n fun i => .v (.int .u8 (f i))) ∉ recs := fun h1 => hg (hF.all _ h1)
        refine ⟨_, hF.piecesS he, ?_⟩
        repeat (first | refine s_seq ?_ | refine s_region ?_ | refine o_nil ?_ | refine d_nil ?_ | refine oA rfl rfl trivial ?_ | refine oB rfl rfl rfl (fun _ _ => ?_) | refine oC rfl rfl rfl trivial ?_ | refine dA rfl rfl trivial ?_ | refine dB rfl rfl rfl (fun _ _ => ?_) | refine dC rfl rfl rfl trivial ?_ | refine s_skip ?_ | refine s_block ?_ | refine s_exit ?_ | refine s_label ?_)
        refine s_cond (b := false) rfl (fun hb => by cases hb) (fun _ => ?_)
        repeat (first | refine s_seq ?_ | refine s_region ?_ | refine o_nil ?_ | refine d_nil ?_ | refine oA rfl rfl trivial ?_ | refine oB rfl rfl rfl (fun _ _ => ?_) | refine oC rfl rfl rfl trivial ?_ | refine dA rfl rfl trivial ?_ | refine dB rfl rfl rfl (fun _ _ => ?_) | refine dC rfl rfl rfl trivial ?_ | refine s_skip ?_ | refine s_block ?_ | refine s_exit ?_ | refine s_label ?_)
        refine s_cond (b := decide ((n : Int) > 1048576)) rfl (fun hb => absurd hb (by simp; omega)) (fun _ => ?_)
        repeat (first | refine s_seq ?_ | refine s_region ?_ | refine o_nil ?_ | refine d_nil ?_ | refine oA rfl rfl trivial ?_ | refine oB rfl rfl rfl (fun _ _ => ?_) | refine oC rfl rfl rfl trivial ?_ | refine dA rfl rfl trivial ?_ | refine dB rfl rfl rfl (fun _ _ => ?_) | refine dC rfl rfl rfl trivial ?_ | refine s_skip ?_ | refine s_block ?_ | refine s_exit ?_ | refine s_label ?_)
        refine o_defer (f := 69) (l := [(0, .ptr ⟨900, 0, b, 0, 5, 0, 0, 0, false⟩)]) rfl rfl rfl rfl trivial ?_
        repeat (first | refine s_seq ?_ | refine s_region ?_ | refine o_nil ?_ | refine d_nil ?_ | refine oA rfl rfl trivial ?_ | refine oB rfl rfl rfl (fun _ _ => ?_) | refine oC rfl rfl rfl trivial ?_ | refine dA rfl rfl trivial ?_ | refine dB rfl rfl rfl (fun _ _ => ?_) | refine dC rfl rfl rfl trivial ?_ | refine s_skip ?_ | refine s_block ?_ | refine s_exit ?_ | refine s_label ?_)
        refine s_draw rD73_8 rM73_8 rX73_8 rN73_8 rfl rfl ?_
        repeat (first | refine s_seq ?_ | refine s_region ?_ | refine o_nil ?_ | refine d_nil ?_ | refine oA rfl rfl trivial ?_ | refine oB rfl rfl rfl (fun _ _ => ?_) | refine oC rfl rfl rfl trivial ?_ | refine dA rfl rfl trivial ?_ | refine dB rfl rfl rfl (fun _ _ => ?_) | refine dC rfl rfl rfl trivial ?_ | refine s_skip ?_ | refine s_block ?_ | refine s_exit ?_ | refine s_label ?_)
        refine s_draw rD73_9 rM73_9 rX73_9 rN73_9 rfl rfl ?_
        repeat (first | refine s_seq ?_ | refine s_region ?_ | refine o_nil ?_ | refine d_nil ?_ | refine oA rfl rfl trivial ?_ | refine oB rfl rfl rfl (fun _ _ => ?_) | refine oC rfl rfl rfl trivial ?_ | refine dA rfl rfl trivial ?_ | refine dB rfl rfl rfl (fun _ _ => ?_) | refine dC rfl rfl rfl trivial ?_ | refine s_skip ?_ | refine s_block ?_ | refine s_exit ?_ | refine s_label ?_)
        refine d_look none rfl rfl rfl rfl rfl rfl rfl rfl rfl rfl rfl rfl rfl (hF.miss_rc hin) ?_
        repeat (first | refine s_seq ?_ | refine s_region ?_ | refine o_nil ?_ | refine d_nil ?_ | refine oA rfl rfl trivial ?_ | refine oB rfl rfl rfl (fun _ _ => ?_) | refine oC rfl rfl rfl trivial ?_ | refine dA rfl rfl trivial ?_ | refine dB rfl rfl rfl (fun _ _ => ?_) | refine dC rfl rfl rfl trivial ?_ | refine s_skip ?_ | refine s_block ?_ | refine s_exit ?_ | refine s_label ?_)
        refine s_cond (b := true) rfl (fun _ => ?_) (fun hb => by cases hb)
        repeat (first | refine s_seq ?_ | refine s_region ?_ | refine o_nil ?_ | refine d_nil ?_ | refine oA rfl rfl trivial ?_ | refine oB rfl rfl rfl (fun _ _ => ?_) | refine oC rfl rfl rfl trivial ?_ | refine dA rfl rfl trivial ?_ | refine dB rfl rfl rfl (fun _ _ => ?_) | refine dC rfl rfl rfl trivial ?_ | refine s_skip ?_ | refine s_block ?_ | refine s_exit ?_ | refine s_label ?_)
        refine s_draw rD73_11 rM73_11 [(902, [6])] rN73_11 rfl rfl ?_
        repeat (first | refine s_seq ?_ | refine s_region ?_ | refine o_nil ?_ | refine d_nil ?_ | refine oA rfl rfl trivial ?_ | refine oB rfl rfl rfl (fun _ _ => ?_) | refine oC rfl rfl rfl trivial ?_ | refine dA rfl rfl trivial ?_ | refine dB rfl rfl rfl (fun _ _ => ?_) | refine dC rfl rfl rfl trivial ?_ | refine s_skip ?_ | refine s_block ?_ | refine s_exit ?_ | refine s_label ?_)
        refine d_mset none rfl rfl rfl rfl rfl rfl rfl rfl rfl rfl rfl rfl (hF.miss_rc hin) rfl ?_
        repeat (first | refine s_seq ?_ | refine s_region ?_ | refine o_nil ?_ | refine d_nil ?_ | refine oA rfl rfl trivial ?_ | refine oB rfl rfl rfl (fun _ _ => ?_) | refine oC rfl rfl rfl trivial ?_ | refine dA rfl rfl trivial ?_ | refine dB rfl rfl rfl (fun _ _ => ?_) | refine dC rfl rfl rfl trivial ?_ | refine s_skip ?_ | refine s_block ?_ | refine s_exit ?_ | refine s_label ?_)
        refine s_draw rD73_12 rM73_12 [(903, [21])] rN73_12 rfl rfl ?_
        repeat (first | refine s_seq ?_ | refine s_region ?_ | refine o_nil ?_ | refine d_nil ?_ | refine oA rfl rfl trivial ?_ | refine oB rfl rfl rfl (fun _ _ => ?_) | refine oC rfl rfl rfl trivial ?_ | refine dA rfl rfl trivial ?_ | refine dB rfl rfl rfl (fun _ _ => ?_) | refine dC rfl rfl rfl trivial ?_ | refine s_skip ?_ | refine s_block ?_ | refine s_exit ?_ | refine s_label ?_)
        refine d_look none rfl rfl rfl rfl rfl rfl rfl rfl rfl rfl rfl rfl rfl (hF.miss_gp hgn) ?_
        repeat (first | refine s_seq ?_ | refine s_region ?_ | refine o_nil ?_ | refine d_nil ?_ | refine oA rfl rfl trivial ?_ | refine oB rfl rfl rfl (fun _ _ => ?_) | refine oC rfl rfl rfl trivial ?_ | refine dA rfl rfl trivial ?_ | refine dB rfl rfl rfl (fun _ _ => ?_) | refine dC rfl rfl rfl trivial ?_ | refine s_skip ?_ | refine s_block ?_ | refine s_exit ?_ | refine s_label ?_)
        refine d_mset none rfl rfl rfl rfl rfl rfl rfl rfl rfl rfl rfl rfl (hF.miss_gp hgn) rfl ?_
        repeat (first | refine s_seq ?_ | refine s_region ?_ | refine o_nil ?_ | refine d_nil ?_ | refine oA rfl rfl trivial ?_ | refine oB rfl rfl rfl (fun _ _ => ?_) | refine oC rfl rfl rfl trivial ?_ | refine dA rfl rfl trivial ?_ | refine dB rfl rfl rfl (fun _ _ => ?_) | refine dC rfl rfl rfl trivial ?_ | refine s_skip ?_ | refine s_block ?_ | refine s_exit ?_ | refine s_label ?_)
        refine s_ret ?_
        rename_i v hv2
        have hl : sgOf (recs ++ [(e.1, strOf n fun i => .v (.int .u8 (f i)))]) e.1 = [strOf n fun i => .v (.int .u8 (f i))] := by rw [sgOf_same, sgOf_nil fun r hr h1 => hg (by obtain ⟨g, h2, h3⟩ := hF.all r hr; exact ⟨g, h2, h3.trans h1⟩)]; rfl
        have hA : addR recs (e.1, strOf n fun i => .v (.int .u8 (f i))) = recs ++ [(e.1, strOf n fun i => .v (.int .u8 (f i)))] := by unfold addR; rw [if_neg fun h1 => hin (hasR_iff.1 h1)]
        refine .inr ⟨69, [.ptr ⟨900, 0, b, 0, 5, 0, 0, 0, false⟩], [(900, _)], _, _, _, _, rfl, unlock_body, unlock_dfr (L := muLink) muLib row21_ok rfl ⟨⟨⟨⟨rfl, rfl, rfl, Nat.zero_lt_one⟩, rfl⟩, rfl⟩, ⟨rfl, rfl, rfl, Nat.zero_lt_one⟩, rfl⟩, le_close (n := 900) (.reg b ents (recs ++ [(e.1, strOf n fun i => .v (.int .u8 (f i)))])) (IsReg b ents (recs ++ [(e.1, strOf n fun i => .v (.int .u8 (f i)))])) [900, 901, 902, 903, 904, 79, 905] (addBs H b bS bR bG lS (lR ++ [(recK (e.1, strOf n fun i => .v (.int .u8 (f i))), .agg .nil, cR)]) (lG ++ [(.v (.int .u64 e.1), .gs 905 0 (ownB v.1) 1 0 [strOf n fun i => .v (.int .u8 (f i))].length v.2, cG)]) cS (cR + 1) (cG + 1) e.2 e.1 v.1 [strOf n fun i => .v (.int .u8 (f i))] v.2 []) rfl (by decide) ⟨⟨⟨_, rfl, Blk.le_rowc (Nat.le_refl _) fun _ _ => ⟨rfl, rfl⟩⟩, fun _ h => h⟩, ⟨⟨_, rfl, Blk.le_refl _⟩, fun _ h => h⟩, ⟨⟨_, rfl, Blk.le_mapc (by simp only [List.map_append]; rfl)⟩, fun _ h => h⟩, ⟨⟨_, rfl, Blk.le_mapc (by simp only [List.map_append]; rfl)⟩, fun _ h => h⟩, ⟨⟨_, rfl, Blk.le_refl _⟩, fun _ h => h⟩, ⟨⟨_, rfl, Blk.le_vrowc (Nat.le_refl _) fun i hi => (by have h0 : i = 0 := Nat.lt_one_iff.1 hi; subst h0; exact ⟨rfl, rfl⟩)⟩, fun _ h => h⟩, ⟨⟨_, rfl, Blk.le_refl _⟩, fun _ h => h⟩, trivial⟩ (fun w hh hp => ?_), rfl, (by repeat (first | exact trivial | constructor)), _, trivial, ?_, ⟨⟨_, rfl, le_regR hA⟩, fun _ h => h⟩, trivial⟩
        · have := reg_add (lG1 := lG) (lG2 := []) (gr1 := gr) (old := []) (gr2 := []) (recs' := recs ++ [(e.1, strOf n fun i => .v (.int .u8 (f i)))]) (lR' := lR ++ [(recK (e.1, strOf n fun i => .v (.int .u8 (f i))), .agg .nil, cR)]) (cR' := cR + 1) (cG' := cG + 1) (born := cG) (v := v.1) (cap := v.2) (w := w) hF he (by simp) (by simpa using hgn) hF.gpv rfl (kv_add hF.rcv) (by rw [hl]; simp) (fun a ha => sgOf_ne recs ha _) (nodup_add hF.ndr hin) mem_add (fun g hg0 => by cases hg0)
          rw [hl] at this
          exact this hh hp
        · rfl
    · cases h0
  · cases h0
set_option maxRecDepth 100000 in
theorem sign_body : HasBody Tryz.prog 73 := ⟨_, Tryz.func73, rfl, by decide⟩
end Go.Proofs.YtofophjfgalhaaaGreatDoor.V
/-! Signed: the plain part. -/
namespace Go.Proofs.YtofophjfgalhaaaGreatDoor.V
open Go Go.RowKit

/-- slices of bytes, in a list -/
def slE (s : ByteArray) (q : Nat × Nat) : AV := .v (.slice (some ⟨q.1, 0, none⟩) s.size q.2)
structure SlsF (H : Frag) (l : List ByteArray) (v : Option Nat) (cap : Nat) (bs : List (Nat × Nat)) : Prop where
  none_ : v = none → l = []
  row : ∀ b, v = some b → FRow H b 76 1 l.length (fun i => slE (l.getD i ⟨#[]⟩) (bs.getD i (0, 0))) cap
  len : bs.length = l.length
  byt : ∀ i, i < l.length → FBytes 5 (bs.getD i (0, 0)).1 (l.getD i ⟨#[]⟩) H
  nd : ∀ b, v = some b → ∀ q ∈ bs, q.1 ≠ b
  cap0 : v = none → cap = 0
def IsSls (l : List ByteArray) (v : Option Nat) (cap : Nat) (H : Frag) : Prop := ∃ bs, SlsF H l v cap bs
def slsB (l : List ByteArray) (v : Option Nat) (cap : Nat) (S : Nat → Prop) : Blk := frB (.reg 0 [] (l.map fun s => (0, s))) S (IsSls l v cap)
theorem sls_nil (H : Frag) : IsSls [] none 0 H := ⟨[], fun _ => rfl, fun _ h => (by cases h), rfl, fun i hi => absurd hi (Nat.not_lt_zero i), fun _ h => (by cases h), fun _ => rfl⟩
theorem FBytes.ne {T b : Nat} {s : ByteArray} {H : Frag} (h : FBytes T b s H) : H b ≠ none := by
  obtain ⟨c, z, h1, _⟩ := h
  rw [h1]; simp
theorem FBytes.same {T b : Nat} {s : ByteArray} {H H' : Frag} (h : FBytes T b s H) (e : H' b = H b) : FBytes T b s H' := by
  obtain ⟨c, z, h1, h2⟩ := h
  exact ⟨c, z, e.trans h1, h2⟩
theorem SlsF.pieces {H : Frag} {l : List ByteArray} {v : Option Nat} {cap : Nat} {bs : List (Nat × Nat)} (h : SlsF H l v cap bs) : Pieces H [.vrow v 76 1 l.length (fun i => slE (l.getD i ⟨#[]⟩) (bs.getD i (0, 0))) cap, restB H v.toList] := by
  cases v with
  | none =>
    have hl := h.none_ rfl
    subst hl
    have hc := h.cap0 rfl
    subst hc
    refine ⟨fun w hw B hB => ?_, fun B hB k hk => ?_, fun B hB k hk => ?_, ?_⟩
    · rcases List.mem_cons.1 hB with rfl | hB
      · exact ⟨rfl, rfl⟩
      · rw [(by simpa using hB : B = _)]; exact restB_holds hw
    · rcases List.mem_cons.1 hB with rfl | hB
      · cases hk
      · rw [(by simpa using hB : B = _)] at hk; exact hk.1
    · rcases List.mem_cons.1 hB with rfl | hB
      · exact hk
      · rw [(by simpa using hB : B = _)] at hk; exact hk
    · refine List.pairwise_cons.2 ⟨fun B hB k h1 => (by cases h1), List.pairwise_singleton _ _⟩
  | some b => exact pieces_of (ks := [b]) (Bs := [.vrow (some b) 76 1 l.length (fun i => slE (l.getD i ⟨#[]⟩) (bs.getD i (0, 0))) cap]) ⟨one_vrow (h.row b rfl), trivial⟩ (by simp)
abbrev slsBs (H : Frag) (v v' : Option Nat) (l : List ByteArray) (bs : List (Nat × Nat)) (cap' b : Nat) (s : ByteArray) : List Blk := [.vrow v' 76 1 l.length (fun i => slE (l.getD i ⟨#[]⟩) (bs.getD i (0, 0))) cap', restB H v.toList, strB 5 b s]
theorem sls_add {H : Frag} {l : List ByteArray} {v : Option Nat} {cap : Nat} {bs : List (Nat × Nat)} (h : SlsF H l v cap bs) {v' : Option Nat} {cap' b c2 : Nat} {s : ByteArray} {w : World} (hh : ∀ B ∈ slsBs H v v' (l ++ [s]) (bs ++ [(b, c2)]) cap' b s, B.holds w) (hp : (slsBs H v v' (l ++ [s]) (bs ++ [(b, c2)]) cap' b s).Pairwise fun B B' => ∀ k, B.own k → ¬ B'.own k) :
    IsSls (l ++ [s]) v' cap' (restr w (ownU (slsBs H v v' (l ++ [s]) (bs ++ [(b, c2)]) cap' b s))) := by
  have hr : restB H v.toList ∈ slsBs H v v' (l ++ [s]) (bs ++ [(b, c2)]) cap' b s := .tail _ (.head _)
  simp only [slsBs, List.pairwise_cons, List.mem_cons, List.not_mem_nil, or_false] at hp
  obtain ⟨p1, p2, _⟩ := hp
  have old : ∀ q ∈ bs, q.1 ∉ v.toList := fun q hq hm => by
    cases v with
    | none => cases hm
    | some b0 => exact h.nd b0 rfl q hq (by simpa using hm)
  have hne : ∀ q ∈ bs, H q.1 ≠ none := fun q hq => by
    obtain ⟨i, hi, e⟩ := List.getElem_of_mem hq
    have hi' : i < l.length := h.len ▸ hi
    have := (h.byt i hi').ne
    rw [List.getD_eq_getElem?_getD, List.getElem?_eq_getElem hi] at this
    rw [← e]; exact this
  refine ⟨bs ++ [(b, c2)], fun hv => ?_, fun b0 hv => ?_, by simp [h.len], fun i hi => ?_, fun b0 hv q hq => ?_, fun hv => ?_⟩
  · subst hv
    have := (hh _ (.head _)).1
    rw [List.length_append] at this
    simp at this
  · subst hv
    exact closed_vrow (.head _) hh
  · rw [List.length_append] at hi
    have hi : i < l.length + 1 := hi
    by_cases h1 : i < l.length
    · have h2 : i < bs.length := h.len ▸ h1
      rw [List.getD_eq_getElem?_getD, List.getD_eq_getElem?_getD, List.getElem?_append_left h1, List.getElem?_append_left h2, ← List.getD_eq_getElem?_getD, ← List.getD_eq_getElem?_getD]
      have hm : bs.getD i (0, 0) ∈ bs := by rw [List.getD_eq_getElem?_getD, List.getElem?_eq_getElem h2]; exact List.getElem_mem h2
      exact (h.byt i h1).same (closed_same hr hh (old _ hm) (hne _ hm))
    · have h2 : i = l.length := by omega
      subst h2
      have e1 : (l ++ [s]).getD l.length ⟨#[]⟩ = s := by simp
      have e2 : (bs ++ [(b, c2)]).getD l.length (0, 0) = (b, c2) := by rw [← h.len]; simp
      rw [e1, e2]
      obtain ⟨H2, _, h4, h5⟩ := frB_open (hh (strB 5 b s) (.tail _ (.tail _ (.head _))))
      obtain ⟨c, z, h6, h7⟩ := h4
      refine ⟨c, z, ?_, h7⟩
      rw [restr_at ⟨strB 5 b s, .tail _ (.tail _ (.head _)), rfl⟩]
      exact h5 _ _ h6
  · subst hv
    rcases List.mem_append.1 hq with hq | hq
    · exact fun e => p1 _ (.inl rfl) b0 rfl ⟨e ▸ hne q hq, e ▸ old q hq⟩
    · have : q = (b, c2) := by simpa using hq
      subst this
      exact fun e => p1 _ (.inr rfl) b0 rfl (show b0 = b from e.symm)
  · subst hv
    have := (hh _ (.head _)).1
    rw [List.length_append] at this
    simp at this

section
variable {H : Frag} {b bS bR bG : Nat} {ents : List (Int × Nat)} {recs : List (Int × ByteArray)} {gr : List Grp} {lS lR lG : List (AV × AV × Nat)} {cS cR cG : Nat}
abbrev grpBs (H : Frag) (b bS bR bG : Nat) (lS lR lG : List (AV × AV × Nat)) (cS cR cG k : Nat) (l : List ByteArray) (cap : Nat) : List Blk := [.row b 74 5 1 (fun _ => regAV 0 bS bR bG) 1, .mp true bS lS cS, .mp true bR lR cR, .mp true bG lG cG, .vrow (some k) 9 1 l.length (fun i => .v (.string (l.getD i ⟨#[]⟩))) cap, restB H [b, bS, bR, bG, k]]
theorem RegF.piecesV (h : RegF H b ents recs bS bR bG gr lS lR lG cS cR cG) {g : Grp} (hg : g ∈ gr) : Pieces H (grpBs H b bS bR bG lS lR lG cS cR cG g.blk (sgOf recs g.a) g.cap) := by
  obtain ⟨h1, h2, h3, h4, h5, h6, h7, h8, h9, h10, h11⟩ := nodup4 h.ndb
  have hn : g.blk ∈ ents.map (·.2) ++ gr.map (·.blk) := List.mem_append_right _ (List.mem_map_of_mem (f := (·.blk)) hg)
  have k2 : ∀ {x}, x ∉ ents.map (·.2) ++ gr.map (·.blk) → ¬ x = g.blk := fun hx e' => hx (e' ▸ hn)
  refine pieces_of (ks := [b, bS, bR, bG, g.blk]) (Bs := [.row b 74 5 1 (fun _ => regAV 0 bS bR bG) 1, .mp true bS lS cS, .mp true bR lR cR, .mp true bG lG cG, .vrow (some g.blk) 9 1 (sgOf recs g.a).length (fun i => .v (.string ((sgOf recs g.a).getD i ⟨#[]⟩))) g.cap]) ⟨one_row h.row, one_map h.sg, one_map h.rc, one_map h.gp, one_vrow (h.grp g hg), trivial⟩ ?_
  simp [h1, h2, h3, h4, h5, h6, k2 h7, k2 h8, k2 h9, k2 h10]
theorem reg_sameV (h : RegF H b ents recs bS bR bG gr lS lR lG cS cR cG) {g : Grp} (hg : g ∈ gr) {w : World} (hh : ∀ B ∈ grpBs H b bS bR bG lS lR lG cS cR cG g.blk (sgOf recs g.a) g.cap, B.holds w) :
    IsReg b ents recs (restr w (ownU (grpBs H b bS bR bG lS lR lG cS cR cG g.blk (sgOf recs g.a) g.cap))) := by
  have hr : restB H [b, bS, bR, bG, g.blk] ∈ grpBs H b bS bR bG lS lR lG cS cR cG g.blk (sgOf recs g.a) g.cap := .tail _ (.tail _ (.tail _ (.tail _ (.tail _ (.head _)))))
  obtain ⟨_, _, _, _, _, _, _, _, _, _, h11⟩ := nodup4 h.ndb
  have ndA := List.nodup_append.1 h11
  have key : ∀ {k}, k ∈ ents.map (·.2) ++ gr.map (·.blk) → k ≠ g.blk → k ∉ [b, bS, bR, bG, g.blk] := fun hk hne hm => by
    have hd := (h.dom hk).2
    simp only [List.mem_cons, List.not_mem_nil, or_false] at hm hd
    rcases hm with hm | hm | hm | hm | hm
    · exact hd (.inl hm)
    · exact hd (.inr (.inl hm))
    · exact hd (.inr (.inr (.inl hm)))
    · exact hd (.inr (.inr (.inr hm)))
    · exact hne hm
  refine ⟨bS, bR, bG, gr, lS, lR, lG, cS, cR, cG, closed_row (.head _) hh, closed_map (.tail _ (.head _)) hh, h.sgv, closed_map (.tail _ (.tail _ (.head _))) hh, h.rcv, closed_map (.tail _ (.tail _ (.tail _ (.head _)))) hh, h.gpv, fun e he => ?_, fun g' hg' => ?_, h.all, h.nda, h.nde, h.ndr, h.ndb⟩
  · have hm := List.mem_map_of_mem (f := (·.2)) he
    exact (h.kept hr hh (key (List.mem_append_left _ hm) fun e' => ndA.2.2 _ hm _ (List.mem_map_of_mem (f := (·.blk)) hg) e')).1 e he rfl
  · by_cases e : g'.blk = g.blk
    · have : g' = g := by
        obtain ⟨i, hi, h3⟩ := List.getElem_of_mem hg
        obtain ⟨j, hj, h4⟩ := List.getElem_of_mem hg'
        have h5 : (gr.map (·.blk))[i]? = some g.blk := by rw [List.getElem?_map, List.getElem?_eq_getElem hi, h3]; rfl
        have h6 : (gr.map (·.blk))[j]? = some g.blk := by rw [List.getElem?_map, List.getElem?_eq_getElem hj, h4, ← e]; rfl
        have := (List.getElem?_inj (by rw [List.length_map]; exact hi) ndA.2.1).1 (h5.trans h6.symm)
        subst this
        exact h4.symm.trans h3
      rw [this]
      exact closed_vrow (.tail _ (.tail _ (.tail _ (.tail _ (.head _))))) hh
    · exact (h.kept hr hh (key (List.mem_append_right _ (List.mem_map_of_mem (f := (·.blk)) hg')) e)).2 g' hg' rfl
end
end Go.Proofs.YtofophjfgalhaaaGreatDoor.V
