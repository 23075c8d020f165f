import Derived.Test.YtofophjfgalhaaaGreatDoorMisdeedVerifiesW26
set_option linter.unusedVariables false
set_option linter.unusedSimpArgs false
/-! Signed, walked. -/
namespace Go.Proofs.YtofophjfgalhaaaGreatDoor.V
open Go Go.RowKit

def signedC (tag : Nat) (args : List AV) (M : MemF) : Option Res := match args with
  | [.ptr p, .v (.int .u64 a)] => match regOf M p with
    | some (c, b, ents, recs, _) => some ⟨(Nat → Prop) × (Option Nat × Nat) × (Nat → Prop), c ∧ recs.length ≤ 1000000, fun x => (sgOf recs a).length ≤ x.2.1.2, fun x => .gs tag 0 (ownB x.2.1.1) 1 0 (sgOf recs a).length x.2.1.2, [p.n, tag], fun x => [regB b ents recs x.1, slsB (sgOf recs a) x.2.1.1 x.2.1.2 x.2.2]⟩
    | none => none
  | _ => none

theorem fapp_sls {l : List ByteArray} {bs : List (Nat × Nat)} (hl : bs.length = l.length) {k : Nat} (hk : l.length = k) {s : ByteArray} {b2 c2 : Nat} {src : Nat → AV} (hs : (src 0).cells = (slE s (b2, c2)).cells) : ∀ i, i < (l ++ [s]).length → (slE ((l ++ [s]).getD i ⟨#[]⟩) ((bs ++ [(b2, c2)]).getD i (0, 0))).cells = (fapp k (fun i => slE (l.getD i ⟨#[]⟩) (bs.getD i (0, 0))) src i).cells ∧ (slE ((l ++ [s]).getD i ⟨#[]⟩) ((bs ++ [(b2, c2)]).getD i (0, 0))).one = true := by
  subst hk
  intro i hi
  rw [List.length_append] at hi
  have hi : i < l.length + 1 := hi
  refine ⟨?_, rfl⟩
  by_cases h : i < l.length
  · rw [fapp_lt h, List.getD_eq_getElem?_getD, List.getD_eq_getElem?_getD, List.getElem?_append_left h, List.getElem?_append_left (hl ▸ h), ← List.getD_eq_getElem?_getD, ← List.getD_eq_getElem?_getD]
  · have : i = l.length := by omega
    subst this
    have e1 : (l ++ [s]).getD l.length ⟨#[]⟩ = s := by simp
    have e2 : (bs ++ [(b2, c2)]).getD l.length (0, 0) = (b2, c2) := by rw [← hl]; simp
    rw [e1, e2]
    unfold fapp
    rw [show Nat.blt l.length l.length = false from Bool.eq_false_iff.2 fun h0 => absurd (blt_lt h0) (Nat.lt_irrefl _), Nat.sub_self]
    exact hs.symm
theorem take_add {L : List ByteArray} {k : Nat} (h : k < L.length) : L.take (k + 1) = L.take k ++ [L.getD k ⟨#[]⟩] := by
  rw [List.take_add_one, List.getElem?_eq_getElem h, List.getD_eq_getElem?_getD, List.getElem?_eq_getElem h]; rfl
theorem le_slsR {l l' : List ByteArray} {v : Option Nat} {cap : Nat} {S : Nat → Prop} (h : l' = l) : (slsB l v cap S).le (slsB l' v cap S) := by
  rw [h]; exact Blk.le_refl _
set_option maxRecDepth 100000 in
set_option maxHeartbeats 8000000 in
theorem signed_turn : TurnFn Tryz.prog 15 signedC := by
  intro tag args M r h0 hok O w0 w hS
  unfold signedC at h0
  split at h0
  · rename_i p a
    split at h0
    · rename_i c b ents recs S hp
      cases h0
      obtain ⟨hc, hlen⟩ := hok
      obtain ⟨hM, hv⟩ := regOf_spec hp hc
      rw [show [AV.ptr p, AV.v (.int .u64 a)].map AV.val = [.ptr ⟨900, 0, b, 0, 5, 0, 0, 0, false⟩, AV.v (.int .u64 a)].map AV.val by simp only [List.map_cons, List.map_nil, hv 900]]
      have hBe : ∀ {n'} {B' : Blk}, Mem.get [(900, regB b ents recs S)] n' = some B' → n' = 900 ∧ B' = regB b ents recs S := fun h => by
        rw [Mem.get_cons] at h
        split at h
        · rename_i e; cases h; exact ⟨e.symm, rfl⟩
        · cases h
      refine turn_fnL tabs2 ctMs_ok crLk_ok Tryz.func15 rfl rfl hS _ [(900, regB b ents recs S)] [(900, p.n)] [900, 950] rfl ⟨hS.holds _ _ hM, trivial⟩ (fun n' B' k hn ho => ?_) (fun n' B' k hn hr n2 C n3 hin hM2 ho2 => ?_) (fun a b m e1 e2 => ?_) (fun a m e => ?_) (by decide) rfl ?_
      · obtain ⟨rfl, rfl⟩ := hBe hn
        exact ⟨p.n, _, .head _, hM, ho⟩
      · obtain ⟨rfl, rfl⟩ := hBe hn
        exact hr.elim
      · simp only [List.mem_singleton, Prod.mk.injEq] at e1 e2
        rw [e1.1, e2.1]
      · simp only [List.mem_singleton, Prod.mk.injEq] at e
        rw [e.2]; exact .head _
      refine s_open (n := 900) (g := .reg b ents recs) (S := S) (P := IsReg b ents recs) [900, 901, 902, 903, 905, 999] rfl rfl fun H hH hP => ?_
      obtain ⟨bS, bR, bG, gr, lS, lR, lG, cS, cR, cG, hF⟩ := hP
      by_cases hg : ∃ g ∈ gr, g.a = a
      · obtain ⟨gr1, g, gr2, hgr, hga⟩ := grp_split hg
        have hgm : g ∈ gr := hgr ▸ List.mem_append_right _ (.head _)
        have hP := hF.piecesV hgm
        have hsame := fun {w : World} hh => reg_sameV (w := w) hF hgm hh
        have hoth := hF.others hgr
        obtain ⟨l1, l2, born, hlG, hl1, hl2, hf⟩ := hF.hit_gp hgr fun g' h => hoth g' (List.mem_append_left _ h)
        unfold gpF at hlG hf
        rw [hga] at hP hsame hf
        have hll : (sgOf recs a).length ≤ 1000000 := Nat.le_trans (sgOf_len recs a) hlen
        obtain ⟨L, hL⟩ : ∃ L, L = sgOf recs a := ⟨_, rfl⟩
        rw [← hL] at hP hsame hf hll ⊢
        refine ⟨_, hP, ?_⟩
        repeat (first | refine s_seq ?_ | refine s_region ?_ | refine o_nil ?_ | refine d_nil ?_ | refine oA rfl rfl trivial ?_ | refine oB rfl rfl rfl (fun _ _ => ?_) | refine oC rfl rfl rfl trivial ?_ | refine dA rfl rfl trivial ?_ | refine dB rfl rfl rfl (fun _ _ => ?_) | refine dC rfl rfl rfl trivial ?_ | refine s_skip ?_ | refine s_block ?_ | refine s_exit ?_ | refine s_label ?_)
        refine s_cond (b := false) rfl (fun hb => by cases hb) (fun _ => ?_)
        repeat (first | refine s_seq ?_ | refine s_region ?_ | refine o_nil ?_ | refine d_nil ?_ | refine oA rfl rfl trivial ?_ | refine oB rfl rfl rfl (fun _ _ => ?_) | refine oC rfl rfl rfl trivial ?_ | refine dA rfl rfl trivial ?_ | refine dB rfl rfl rfl (fun _ _ => ?_) | refine dC rfl rfl rfl trivial ?_ | refine s_skip ?_ | refine s_block ?_ | refine s_exit ?_ | refine s_label ?_)
        refine o_defer (f := 69) (l := [(0, .ptr ⟨900, 0, b, 0, 5, 0, 0, 0, false⟩)]) rfl rfl rfl rfl trivial ?_
        repeat (first | refine s_seq ?_ | refine s_region ?_ | refine o_nil ?_ | refine d_nil ?_ | refine oA rfl rfl trivial ?_ | refine oB rfl rfl rfl (fun _ _ => ?_) | refine oC rfl rfl rfl trivial ?_ | refine dA rfl rfl trivial ?_ | refine dB rfl rfl rfl (fun _ _ => ?_) | refine dC rfl rfl rfl trivial ?_ | refine s_skip ?_ | refine s_block ?_ | refine s_exit ?_ | refine s_label ?_)
        refine o_look (some (l1.length, .gs 905 0 (some (g.blk, 0)) 1 0 L.length g.cap)) rfl rfl rfl rfl rfl rfl rfl rfl rfl rfl rfl rfl hf ?_
        repeat (first | refine s_seq ?_ | refine s_region ?_ | refine o_nil ?_ | refine d_nil ?_ | refine oA rfl rfl trivial ?_ | refine oB rfl rfl rfl (fun _ _ => ?_) | refine oC rfl rfl rfl trivial ?_ | refine dA rfl rfl trivial ?_ | refine dB rfl rfl rfl (fun _ _ => ?_) | refine dC rfl rfl rfl trivial ?_ | refine s_skip ?_ | refine s_block ?_ | refine s_exit ?_ | refine s_label ?_)
        refine s_le (le_close (n := 950) (.reg 0 [] []) (IsSls [] none 0) [] [] rfl (by decide) trivial (fun w _ _ => sls_nil _)) ?_
        refine s_le (le_val (t := 5) (av := .v (.slice none 0 0)) (av' := .gs 950 0 (ownB none) 1 0 0 0) rfl rfl) ?_
        refine s_le (tm' := [(5, none, .gs 950 0 (ownB none) 1 0 0 0), (24, none, .v (.int .i64 0)), (23, none, .v (.int .i64 L.length)), (22, none, .gs 905 0 (some (g.blk, 0)) 1 0 L.length g.cap)]) (M' := [(777777, .dfr [dfrOf 69 [.ptr ⟨900, 0, b, 0, 5, 0, 0, 0, false⟩]]), (950, slsB (L.take 0) none 0 (ownU [])), (900, .row b 74 5 1 (fun _ => regAV 1 bS bR bG) 1), (901, .mp true bS lS cS), (902, .mp true bR lR cR), (903, .mp true bG lG cG), (905, .vrow (some g.blk) 9 1 L.length (fun i => .v (.string (L.getD i ⟨#[]⟩))) g.cap), (999, restB H [b, bS, bR, bG, g.blk])]) (Le.of ⟨rfl, rfl, rfl, rfl, trivial⟩ ⟨⟨_, rfl, Blk.le_refl _⟩, ⟨_, rfl, Blk.le_refl _⟩, ⟨_, rfl, Blk.le_rowc (Nat.le_refl _) fun i hi => (by have h0 : i = 0 := Nat.lt_one_iff.1 hi; subst h0; exact ⟨rfl, rfl⟩)⟩, ⟨_, rfl, Blk.le_refl _⟩, ⟨_, rfl, Blk.le_refl _⟩, ⟨_, rfl, Blk.le_refl _⟩, ⟨_, rfl, Blk.le_refl _⟩, ⟨_, rfl, Blk.le_refl _⟩, trivial⟩ rfl) ?_
        refine s_loopW (α := Nat × (Option Nat × Nat) × (Nat → Prop)) [5, 7, 24, 25, 26, 27, 28, 29, 30, 31, 32, 33] [950] (fun x => x.1 ≤ L.length ∧ x.1 ≤ x.2.1.2) (fun x => [(5, none, .gs 950 0 (ownB x.2.1.1) 1 0 x.1 x.2.1.2), (24, none, .v (.int .i64 x.1))]) (fun x => [(950, slsB (L.take x.1) x.2.1.1 x.2.1.2 x.2.2)]) (fun x => L.length - x.1) (0, (none, 0), ownU []) ⟨Nat.zero_le _, Nat.le_refl _⟩ ?_ ?_
        · (refine Le.of ?leT ?leM (by first | exact dfs_nil rfl rfl | exact rfl); (case leT => repeat (first | exact trivial | refine And.intro (by first | exact rfl | (show some (none, AV.v (.int .i64 (IntKind.i64.wrap _))) = _; rw [wi64 (by omega) (by omega)]; rfl)) ?_)); (case leM => repeat (first | exact trivial | refine And.intro ⟨_, rfl, Blk.le_refl _⟩ ?_)))
        · intro ⟨k, ⟨v, cp⟩, S2⟩ ⟨hk, hkc⟩
          dsimp only at hk hkc
          repeat (first | refine s_seq ?_ | refine s_region ?_ | refine o_nil ?_ | refine d_nil ?_ | refine oA rfl rfl trivial ?_ | refine oB rfl rfl rfl (fun _ _ => ?_) | refine oC rfl rfl rfl trivial ?_ | refine dA rfl rfl trivial ?_ | refine dB rfl rfl rfl (fun _ _ => ?_) | refine dC rfl rfl rfl trivial ?_ | refine s_skip ?_ | refine s_block ?_ | refine s_exit ?_ | refine s_label ?_)
          refine s_cond (b := decide ((k : Int) < (L.length : Int))) rfl (fun hb2 => ?_) (fun hb2 => ?_)
          · have hk8 : k < L.length := by have := of_decide_eq_true hb2; omega
            refine s_open (n := 950) (g := .reg 0 [] ((L.take k).map fun s => (0, s))) (S := S2) (P := IsSls (L.take k) v cp) [950, 998] rfl rfl fun H2 hH2 hP2 => ?_
            obtain ⟨bs, hF2⟩ := hP2
            have hP2 := hF2.pieces
            have hkl : (L.take k).length = k := by rw [List.length_take]; omega
            rw [hkl] at hP2
            refine ⟨_, hP2, ?_⟩
            repeat (first | refine s_seq ?_ | refine s_region ?_ | refine o_nil ?_ | refine d_nil ?_ | refine oA rfl rfl trivial ?_ | refine oB rfl rfl rfl (fun _ _ => ?_) | refine oC rfl rfl rfl trivial ?_ | refine dA rfl rfl trivial ?_ | refine dB rfl rfl rfl (fun _ _ => ?_) | refine dC rfl rfl rfl trivial ?_ | refine s_skip ?_ | refine s_block ?_ | refine s_exit ?_ | refine s_label ?_)
            refine o_sbytes (s := L.getD k ⟨#[]⟩) (e := 5) rfl rfl rfl rfl rfl rfl rfl rfl rfl rfl rfl rfl (fun b2 c2 hc2 => ?_)
            repeat (first | refine s_seq ?_ | refine s_region ?_ | refine o_nil ?_ | refine d_nil ?_ | refine oA rfl rfl trivial ?_ | refine oB rfl rfl rfl (fun _ _ => ?_) | refine oC rfl rfl rfl trivial ?_ | refine dA rfl rfl trivial ?_ | refine dB rfl rfl rfl (fun _ _ => ?_) | refine dC rfl rfl rfl trivial ?_ | refine s_skip ?_ | refine s_block ?_ | refine s_exit ?_ | refine s_label ?_)
            rename_i v2 hv2
            have hv2 : k + 1 ≤ v2.2 := hv2
            refine ⟨(k + 1, v2, ownU (slsBs H2 v v2.1 (L.take k ++ [L.getD k ⟨#[]⟩]) (bs ++ [(b2, c2)]) v2.2 b2 (L.getD k ⟨#[]⟩))), ⟨by dsimp only; omega, hv2⟩, by dsimp only; omega, le_trans (le_close (n := 950) (.reg 0 [] ((L.take (k + 1)).map fun s => (0, s))) (IsSls (L.take (k + 1)) v2.1 v2.2) [950, 998, 30] (slsBs H2 v v2.1 (L.take k ++ [L.getD k ⟨#[]⟩]) (bs ++ [(b2, c2)]) v2.2 b2 (L.getD k ⟨#[]⟩)) rfl (by decide) ⟨⟨⟨_, rfl, Blk.le_vrowc (by rw [List.length_append, hkl]; exact Nat.le_refl _) (fapp_sls hF2.len hkl rfl)⟩, fun _ h => h⟩, ⟨⟨_, rfl, Blk.le_refl _⟩, fun _ h => h⟩, ⟨⟨_, rfl, Blk.le_refl _⟩, fun _ h => h⟩, trivial⟩ (fun w hh hp => by rw [take_add hk8]; exact sls_add hF2 hh hp)) ?_⟩
            refine Le.of ⟨rfl, (by show some (none, AV.v (.int .i64 (IntKind.i64.wrap _))) = _; rw [wi64 (by omega) (by omega)]; rfl), rfl, rfl, trivial⟩ ⟨⟨_, rfl, Blk.le_refl _⟩, ⟨_, rfl, Blk.le_refl _⟩, ⟨_, rfl, Blk.le_refl _⟩, ⟨_, rfl, Blk.le_refl _⟩, ⟨_, rfl, Blk.le_refl _⟩, ⟨_, rfl, Blk.le_refl _⟩, ⟨_, rfl, Blk.le_refl _⟩, ⟨_, rfl, Blk.le_refl _⟩, trivial⟩ rfl
          · have hk8 : k = L.length := by have := of_decide_eq_false hb2; omega
            repeat (first | refine s_seq ?_ | refine s_region ?_ | refine o_nil ?_ | refine d_nil ?_ | refine oA rfl rfl trivial ?_ | refine oB rfl rfl rfl (fun _ _ => ?_) | refine oC rfl rfl rfl trivial ?_ | refine dA rfl rfl trivial ?_ | refine dB rfl rfl rfl (fun _ _ => ?_) | refine dC rfl rfl rfl trivial ?_ | refine s_skip ?_ | refine s_block ?_ | refine s_exit ?_ | refine s_label ?_)
            subst hk8
            refine s_ret ?_
            refine .inr ⟨69, [.ptr ⟨900, 0, b, 0, 5, 0, 0, 0, false⟩], [(900, _)], _, _, _, _, rfl, unlock_body, unlock_dfr (L := muLink) muLib row21_ok rfl ⟨⟨⟨⟨rfl, rfl, rfl, Nat.zero_lt_one⟩, rfl⟩, rfl⟩, ⟨rfl, rfl, rfl, Nat.zero_lt_one⟩, rfl⟩, le_close (n := 900) (.reg b ents recs) (IsReg b ents recs) [900, 901, 902, 903, 905, 999] (grpBs H b bS bR bG lS lR lG cS cR cG g.blk L g.cap) rfl (by decide) ⟨⟨⟨_, rfl, Blk.le_rowc (Nat.le_refl _) fun i hi => (by have h0 : i = 0 := Nat.lt_one_iff.1 hi; subst h0; exact ⟨rfl, rfl⟩)⟩, fun _ h => h⟩, ⟨⟨_, rfl, Blk.le_refl _⟩, fun _ h => h⟩, ⟨⟨_, rfl, Blk.le_refl _⟩, fun _ h => h⟩, ⟨⟨_, rfl, Blk.le_refl _⟩, fun _ h => h⟩, ⟨⟨_, rfl, Blk.le_refl _⟩, fun _ h => h⟩, ⟨⟨_, rfl, Blk.le_refl _⟩, fun _ h => h⟩, trivial⟩ (fun w hh _ => hsame hh), rfl, (by repeat (first | exact trivial | constructor)), (_, (v, cp), _), hkc, rfl, ⟨⟨_, rfl, Blk.le_refl _⟩, fun _ h => h⟩, ⟨⟨_, rfl, le_slsR (List.take_length ..).symm⟩, fun _ h => h⟩, trivial⟩
      · have hgn : ∀ g ∈ gr, g.a ≠ a := fun g h1 h2 => hg ⟨g, h1, h2⟩
        have hL0 : sgOf recs a = [] := sgOf_nil fun r hr h1 => hg (by obtain ⟨g, h2, h3⟩ := hF.all r hr; exact ⟨g, h2, h3.trans h1⟩)
        refine ⟨_, hF.pieces, ?_⟩
        repeat (first | refine s_seq ?_ | refine s_region ?_ | refine o_nil ?_ | refine d_nil ?_ | refine oA rfl rfl trivial ?_ | refine oB rfl rfl rfl (fun _ _ => ?_) | refine oC rfl rfl rfl trivial ?_ | refine dA rfl rfl trivial ?_ | refine dB rfl rfl rfl (fun _ _ => ?_) | refine dC rfl rfl rfl trivial ?_ | refine s_skip ?_ | refine s_block ?_ | refine s_exit ?_ | refine s_label ?_)
        refine s_cond (b := false) rfl (fun hb => by cases hb) (fun _ => ?_)
        repeat (first | refine s_seq ?_ | refine s_region ?_ | refine o_nil ?_ | refine d_nil ?_ | refine oA rfl rfl trivial ?_ | refine oB rfl rfl rfl (fun _ _ => ?_) | refine oC rfl rfl rfl trivial ?_ | refine dA rfl rfl trivial ?_ | refine dB rfl rfl rfl (fun _ _ => ?_) | refine dC rfl rfl rfl trivial ?_ | refine s_skip ?_ | refine s_block ?_ | refine s_exit ?_ | refine s_label ?_)
        refine o_defer (f := 69) (l := [(0, .ptr ⟨900, 0, b, 0, 5, 0, 0, 0, false⟩)]) rfl rfl rfl rfl trivial ?_
        repeat (first | refine s_seq ?_ | refine s_region ?_ | refine o_nil ?_ | refine d_nil ?_ | refine oA rfl rfl trivial ?_ | refine oB rfl rfl rfl (fun _ _ => ?_) | refine oC rfl rfl rfl trivial ?_ | refine dA rfl rfl trivial ?_ | refine dB rfl rfl rfl (fun _ _ => ?_) | refine dC rfl rfl rfl trivial ?_ | refine s_skip ?_ | refine s_block ?_ | refine s_exit ?_ | refine s_label ?_)
        refine o_look none rfl rfl rfl rfl rfl rfl rfl rfl rfl rfl rfl rfl (hF.miss_gp hgn) ?_
        repeat (first | refine s_seq ?_ | refine s_region ?_ | refine o_nil ?_ | refine d_nil ?_ | refine oA rfl rfl trivial ?_ | refine oB rfl rfl rfl (fun _ _ => ?_) | refine oC rfl rfl rfl trivial ?_ | refine dA rfl rfl trivial ?_ | refine dB rfl rfl rfl (fun _ _ => ?_) | refine dC rfl rfl rfl trivial ?_ | refine s_skip ?_ | refine s_block ?_ | refine s_exit ?_ | refine s_label ?_)
        refine s_le (tm' := [(5, none, .v (.slice none 0 0)), (24, none, .v (.int .i64 0)), (23, none, .v (.int .i64 0))]) (M' := [(777777, .dfr [dfrOf 69 [.ptr ⟨900, 0, b, 0, 5, 0, 0, 0, false⟩]]), (900, .row b 74 5 1 (fun _ => regAV 1 bS bR bG) 1), (901, .mp true bS lS cS), (902, .mp true bR lR cR), (903, .mp true bG lG cG), (905, restB H [b, bS, bR, bG])]) (Le.of ⟨rfl, rfl, rfl, trivial⟩ ⟨⟨_, rfl, Blk.le_refl _⟩, ⟨_, rfl, Blk.le_rowc (Nat.le_refl _) fun i hi => (by have h0 : i = 0 := Nat.lt_one_iff.1 hi; subst h0; exact ⟨rfl, rfl⟩)⟩, ⟨_, rfl, Blk.le_refl _⟩, ⟨_, rfl, Blk.le_refl _⟩, ⟨_, rfl, Blk.le_refl _⟩, ⟨_, rfl, Blk.le_refl _⟩, trivial⟩ rfl) ?_
        refine s_loopW (α := Unit) [25] [] (fun _ => True) (fun _ => []) (fun _ => []) (fun _ => 0) () trivial ?_ ?_
        · (refine Le.of ?leT ?leM (by first | exact dfs_nil rfl rfl | exact rfl); (case leT => repeat (first | exact trivial | refine And.intro (by first | exact rfl | (show some (none, AV.v (.int .i64 (IntKind.i64.wrap _))) = _; rw [wi64 (by omega) (by omega)]; rfl)) ?_)); (case leM => repeat (first | exact trivial | refine And.intro ⟨_, rfl, Blk.le_refl _⟩ ?_)))
        · intro _ _
          repeat (first | refine s_seq ?_ | refine s_region ?_ | refine o_nil ?_ | refine d_nil ?_ | refine oA rfl rfl trivial ?_ | refine oB rfl rfl rfl (fun _ _ => ?_) | refine oC rfl rfl rfl trivial ?_ | refine dA rfl rfl trivial ?_ | refine dB rfl rfl rfl (fun _ _ => ?_) | refine dC rfl rfl rfl trivial ?_ | refine s_skip ?_ | refine s_block ?_ | refine s_exit ?_ | refine s_label ?_)
          refine s_cond (b := false) rfl (fun hb => by cases hb) (fun _ => ?_)
          repeat (first | refine s_seq ?_ | refine s_region ?_ | refine o_nil ?_ | refine d_nil ?_ | refine oA rfl rfl trivial ?_ | refine oB rfl rfl rfl (fun _ _ => ?_) | refine oC rfl rfl rfl trivial ?_ | refine dA rfl rfl trivial ?_ | refine dB rfl rfl rfl (fun _ _ => ?_) | refine dC rfl rfl rfl trivial ?_ | refine s_skip ?_ | refine s_block ?_ | refine s_exit ?_ | refine s_label ?_)
          refine s_ret ?_
          refine .inr ⟨69, [.ptr ⟨900, 0, b, 0, 5, 0, 0, 0, false⟩], [(900, _)], _, _, _, _, rfl, unlock_body, unlock_dfr (L := muLink) muLib row21_ok rfl ⟨⟨⟨⟨rfl, rfl, rfl, Nat.zero_lt_one⟩, rfl⟩, rfl⟩, ⟨rfl, rfl, rfl, Nat.zero_lt_one⟩, rfl⟩, le_trans (le_close (n := 900) (.reg b ents recs) (IsReg b ents recs) [900, 901, 902, 903, 905] (samBs H b bS bR bG lS lR lG cS cR cG) rfl (by decide) ⟨⟨⟨_, rfl, Blk.le_rowc (Nat.le_refl _) fun _ _ => ⟨rfl, rfl⟩⟩, fun _ h => h⟩, ⟨⟨_, rfl, Blk.le_refl _⟩, fun _ h => h⟩, ⟨⟨_, rfl, Blk.le_refl _⟩, fun _ h => h⟩, ⟨⟨_, rfl, Blk.le_refl _⟩, fun _ h => h⟩, ⟨⟨_, rfl, Blk.le_refl _⟩, fun _ h => h⟩, trivial⟩ (fun w hh _ => reg_same hF hh)) (le_close (n := 950) (.reg 0 [] []) (IsSls [] none 0) [] [] rfl (by decide) trivial (fun w _ _ => sls_nil _)), rfl, (by repeat (first | exact trivial | constructor)), (_, (none, 0), _), ?_, ?_, ⟨⟨_, rfl, Blk.le_refl _⟩, fun _ h => h⟩, ⟨⟨_, rfl, le_slsR hL0⟩, fun _ h => h⟩, trivial⟩
          · show (sgOf recs a).length ≤ 0
            rw [hL0]; exact Nat.le_refl _
          · show _ = (AV.gs tag 0 (ownB none) 1 0 (sgOf recs a).length 0).val
            rw [hL0]; rfl
    · cases h0
  · cases h0
set_option maxRecDepth 100000 in
theorem signed_body : HasBody Tryz.prog 15 := ⟨_, Tryz.func15, rfl, by decide⟩
end Go.Proofs.YtofophjfgalhaaaGreatDoor.V
/-! The document's book of seals: what its entry says; its parts. -/
namespace Go.Proofs.YtofophjfgalhaaaGreatDoor.V
open Go Go.RowKit

/-! ### parts that own some blocks each -/
structure OneL (H : Frag) (ks : List Nat) (B : Blk) : Prop where
  holds : ∀ w, H.on w → B.holds w
  own : ∀ j, B.own j → j ∈ ks
  reads : ∀ j, ¬ B.reads j
  ne : ∀ k ∈ ks, H k ≠ none
def OnesL (H : Frag) : List (List Nat) → List Blk → Prop
  | [], [] => True
  | k :: ks, B :: Bs => OneL H k B ∧ OnesL H ks Bs
  | _, _ => False
theorem OnesL.mem {H : Frag} : ∀ {ks : List (List Nat)} {Bs : List Blk}, OnesL H ks Bs → ∀ B ∈ Bs, ∃ k ∈ ks, OneL H k B
  | [], [], _, B, h => by cases h
  | [], _ :: _, h, _, _ => h.elim
  | _ :: _, [], h, _, _ => h.elim
  | k :: ks, B' :: Bs, h, B, hB => by
    rcases List.mem_cons.1 hB with rfl | hB
    · exact ⟨k, .head _, h.1⟩
    · obtain ⟨j, hj, h1⟩ := h.2.mem B hB
      exact ⟨j, .tail _ hj, h1⟩
theorem OnesL.apart {H : Frag} : ∀ {ks : List (List Nat)} {Bs : List Blk}, OnesL H ks Bs → ks.flatten.Nodup → Bs.Pairwise fun B B' => ∀ k, B.own k → ¬ B'.own k
  | [], [], _, _ => .nil
  | [], _ :: _, h, _ => h.elim
  | _ :: _, [], h, _ => h.elim
  | k :: ks, B' :: Bs, h, hn => by
    rw [List.flatten_cons] at hn
    have hn := List.nodup_append.1 hn
    refine List.pairwise_cons.2 ⟨fun B hB j h1 h2 => ?_, h.2.apart hn.2.1⟩
    obtain ⟨i, hi, h3⟩ := h.2.mem B hB
    exact hn.2.2 j (h.1.own j h1) j (List.mem_flatten.2 ⟨i, hi, h3.own j h2⟩) rfl
theorem pieces_ofL {H : Frag} {ks : List (List Nat)} {Bs : List Blk} (h : OnesL H ks Bs) (hn : ks.flatten.Nodup) : Pieces H (Bs ++ [restB H ks.flatten]) := by
  have hr : ∀ B ∈ Bs ++ [restB H ks.flatten], B ∈ Bs ∨ B = restB H ks.flatten := fun B hB => by
    rcases List.mem_append.1 hB with h | h
    · exact .inl h
    · exact .inr (by simpa using h)
  refine ⟨fun w hw B hB => ?_, fun B hB k hk => ?_, fun B hB k => ?_, ?_⟩
  · rcases hr B hB with h1 | rfl
    · obtain ⟨_, _, h2⟩ := h.mem B h1
      exact h2.holds w hw
    · exact restB_holds hw
  · rcases hr B hB with h1 | rfl
    · obtain ⟨j, _, h2⟩ := h.mem B h1
      exact h2.ne k (h2.own k hk)
    · exact hk.1
  · rcases hr B hB with h1 | rfl
    · obtain ⟨_, _, h2⟩ := h.mem B h1
      exact h2.reads k
    · exact fun h => h
  · refine List.pairwise_append.2 ⟨h.apart hn, List.pairwise_singleton _ _, fun B hB B' hB' k h1 h2 => ?_⟩
    have : B' = restB H ks.flatten := by simpa using hB'
    subst this
    obtain ⟨j, hj, h3⟩ := h.mem B hB
    exact h2.2 (List.mem_flatten.2 ⟨j, hj, h3.own k h1⟩)
/-- a row, or none -/
def FV (H : Frag) (v : Option Nat) (T : TypeId) (es len : Nat) (f : Nat → AV) (cap : Nat) : Prop := match v with
  | none => len = 0 ∧ cap = 0
  | some b => FRow H b T es len f cap
section
variable {H : Frag} {v : Option Nat} {T : TypeId} {es len cap : Nat} {f : Nat → AV}
theorem FV.on (h : FV H v T es len f cap) {w : World} (hw : H.on w) : (Blk.vrow v T es len f cap).holds w := by
  cases v with
  | none => exact h
  | some b => exact FRow.on h hw
theorem FV.one (h : FV H v T es len f cap) : OneL H v.toList (.vrow v T es len f cap) := by
  cases v with
  | none => exact ⟨fun w hw => h, fun j hj => (by cases hj), fun j hj => hj, fun k hk => (by cases hk)⟩
  | some b =>
    have h : FRow H b T es len f cap := h
    refine ⟨fun w hw => h.on hw, fun j hj => ?_, fun j hj => hj, fun k hk => ?_⟩
    · rw [(Option.some.inj hj).symm]; exact .head _
    · rw [(by simpa using hk : k = b)]; exact h.ne
theorem FV.same {H' : Frag} (h : FV H v T es len f cap) (e : ∀ b, v = some b → H' b = H b) : FV H' v T es len f cap := by
  cases v with
  | none => exact h
  | some b => exact FRow.same h (e b rfl)
theorem closed_fv {Bs : List Blk} {w : World} (hr : .vrow v T es len f cap ∈ Bs) (hh : ∀ B ∈ Bs, B.holds w) : FV (restr w (ownU Bs)) v T es len f cap := by
  cases v with
  | none => exact hh _ hr
  | some b => exact closed_vrow hr hh
theorem FRow.oneL {b : Nat} (h : FRow H b T es len f cap) : OneL H [b] (.row b T es len f cap) := ⟨fun w hw => h.on hw, fun j hj => (by rw [show j = b from hj.symm]; exact .head _), fun j hj => hj, fun k hk => (by rw [(by simpa using hk : k = b)]; exact h.ne)⟩
end

/-! ### the document's book -/
def docAV (x1 : Option (Nat × Nat)) (n1 c1 : Nat) (x2 : Option (Nat × Nat)) (n2 c2 : Nat) : AV := .agg (.cons (.v (.bool true)) (.cons (.gs 901 0 x1 1 0 n1 c1) (.cons (.gs 902 0 x2 2 0 n2 c2) .nil)))
def dsigAV (b : Nat) (a : Int) : AV := .agg (.cons (.ptr ⟨900, 0, b, 0, 3, 0, 0, 0, false⟩) (.cons (.v (.int .u64 a)) .nil))
def entE (l : List (Int × Nat)) (i : Nat) : AV := .v (.int .u64 (l.getD i (0, 0)).1)
def recE (l : List (Int × ByteArray)) (i : Nat) : AV := recK (l.getD i (0, ⟨#[]⟩))
structure DocF (H : Frag) (b : Nat) (ents : List (Int × Nat)) (recs : List (Int × ByteArray)) (v1 : Option Nat) (c1 : Nat) (v2 : Option Nat) (c2 : Nat) : Prop where
  row : FRow H b 220 3 1 (fun _ => docAV (ownB v1) ents.length c1 (ownB v2) recs.length c2) 1
  en : FV H v1 39 1 ents.length (entE ents) c1
  rc : FV H v2 248 2 recs.length (recE recs) c2
  sig : ∀ e ∈ ents, FRow H e.2 224 2 1 (fun _ => dsigAV b e.1) 1
  nde : (ents.map (·.1)).Nodup
  ndr : recs.Nodup
  ndb : (b :: (v1.toList ++ (v2.toList ++ ents.map (·.2)))).Nodup
def IsDoc (b : Nat) (ents : List (Int × Nat)) (recs : List (Int × ByteArray)) (H : Frag) : Prop := ∃ v1 c1 v2 c2, DocF H b ents recs v1 c1 v2 c2
def docB (b : Nat) (ents : List (Int × Nat)) (recs : List (Int × ByteArray)) (S : Nat → Prop) : Blk := frB (.reg b ents recs) S (IsDoc b ents recs)
def docOf (M : MemF) (p : Pt) : Option (Prop × Nat × List (Int × Nat) × List (Int × ByteArray) × (Nat → Prop)) := match M p.n with
  | some (.sep (.reg b ents recs) S φ) => some (Blk.sep (.reg b ents recs) S φ = docB b ents recs S ∧ (p.b = b ∧ p.o0 = 0 ∧ p.es = 3 ∧ p.idx = 0 ∧ p.off = 0 ∧ p.j = 0), b, ents, recs, S)
  | _ => none
theorem docOf_spec {M : MemF} {p : Pt} {c : Prop} {b : Nat} {ents : List (Int × Nat)} {recs : List (Int × ByteArray)} {S : Nat → Prop} (h : docOf M p = some (c, b, ents, recs, S)) (hc : c) : M p.n = some (docB b ents recs S) ∧ ∀ n, (AV.ptr p).val = (AV.ptr ⟨n, 0, b, 0, 3, 0, 0, 0, false⟩).val := by
  unfold docOf at h
  split at h
  · rename_i b' e' r' S' φ hM
    cases h
    obtain ⟨h1, h2, h3, h4, h5, h6, h7⟩ := hc
    refine ⟨by rw [hM, h1], fun n => ?_⟩
    rw [ptr_val, ptr_val]
    unfold Pt.cell
    simp only [h2, h3, h5, h6, h7]
    simp
  · cases h
/-- its parts -/
abbrev docBs (H : Frag) (b : Nat) (ents : List (Int × Nat)) (recs : List (Int × ByteArray)) (v1 : Option Nat) (c1 : Nat) (v2 : Option Nat) (c2 : Nat) : List Blk := [.row b 220 3 1 (fun _ => docAV (ownB v1) ents.length c1 (ownB v2) recs.length c2) 1, .vrow v1 39 1 ents.length (entE ents) c1, .vrow v2 248 2 recs.length (recE recs) c2]
theorem DocF.pieces {H : Frag} {b : Nat} {ents : List (Int × Nat)} {recs : List (Int × ByteArray)} {v1 v2 : Option Nat} {c1 c2 : Nat} (h : DocF H b ents recs v1 c1 v2 c2) : Pieces H (docBs H b ents recs v1 c1 v2 c2 ++ [restB H ([[b], v1.toList, v2.toList].flatten)]) := by
  refine pieces_ofL (ks := [[b], v1.toList, v2.toList]) ⟨h.row.oneL, h.en.one, h.rc.one, trivial⟩ ?_
  refine List.Nodup.sublist ?_ h.ndb
  simp only [List.flatten_cons, List.flatten_nil, List.append_nil, List.cons_append, List.nil_append]
  exact List.Sublist.cons_cons _ (List.Sublist.append_left (List.sublist_append_left _ _) _)
/-- what a function that only reads is told of it -/
def rec1 : AV → Int × ByteArray
  | .agg (.cons (.v (.int _ a)) (.cons (.v (.string s)) .nil)) => (a, s)
  | _ => (0, ⟨#[]⟩)
def docV (M : MemF) (p : Pt) : Option (Prop × List Int × List (Int × ByteArray)) := match docOf M p with
  | some (c, _, ents, recs, _) => some (c, ents.map (·.1), recs)
  | none => match ptrOf M p true 3 with
    | some (c, .agg (.cons (.v (.bool true)) (.cons X (.cons Y .nil)))) => match seqOf M X, seqOf M Y with
      | some (c1, es1, n1, f1), some (c2, es2, n2, f2) => some (c ∧ (c1 ∧ (n1 ≠ 0 → es1 = 1) ∧ ∀ i, i < n1 → f1 i = .v (.int .u64 (f1 i).int1)) ∧ (c2 ∧ (n2 ≠ 0 → es2 = 2) ∧ ∀ i, i < n2 → f2 i = recK (rec1 (f2 i))), (List.range n1).map (fun i => (f1 i).int1), (List.range n2).map fun i => rec1 (f2 i))
      | _, _ => none
    | _ => none
end Go.Proofs.YtofophjfgalhaaaGreatDoor.V
/-! The document's book, read: Good, Known, has. -/
namespace Go.Proofs.YtofophjfgalhaaaGreatDoor.V
open Go Go.RowKit

theorem seq_cells {M : MemF} {X : AV} {r : Prop × Nat × Nat × (Nat → AV)} (h : seqOf M X = some r) : X.cells = [X.val] := by
  cases X <;> first | rfl | (simp [seqOf] at h)
theorem Reads.recell {w : World} {b o es len : Nat} {f g : Nat → AV} (h : Reads w b o es len f) (hf : ∀ i, i < len → (g i).cells = (f i).cells ∧ (g i).one = true) : Reads w b o es len g := by
  intro i hi
  obtain ⟨h1, h2, h3⟩ := h i hi
  obtain ⟨e1, e2⟩ := hf i hi
  refine ⟨?_, e2, fun k hk => ?_⟩
  · rw [← AV.size_cells, e1, AV.size_cells]; exact h1
  · rw [e1]; exact h3 k hk
def asE (l : List Int) (i : Nat) : AV := .v (.int .u64 (l.getD i 0))
theorem doc_open {O : Nat → Prop} {w0 w : World} {M : MemF} {p : Pt} {c : Prop} {aa : List Int} {recs : List (Int × ByteArray)} (hS : Sat O w0 M w) (h : docV M p = some (c, aa, recs)) (hc : c) :
    ∃ b i x1 c1 x2 c2, (AV.ptr p).val = (roP 900 b i 3).val ∧ (roB (some (b, i)) 3 1 fun _ => docAV x1 aa.length c1 x2 recs.length c2).holds w ∧ (roB x1 1 aa.length (asE aa)).holds w ∧ (roB x2 2 recs.length (recE recs)).holds w := by
  unfold docV at h
  split at h
  · rename_i c b ents recs S hp
    cases h
    obtain ⟨hM, hv⟩ := docOf_spec hp hc
    obtain ⟨H, _, ⟨v1, c1, v2, c2, hF⟩, h3⟩ := frB_open (hS.holds _ _ hM)
    refine ⟨b, 0, ownB v1, c1, ownB v2, c2, (hv 900).trans rfl, roB_holds fun _ => ⟨b, 0, rfl, ?_⟩, roB_holds fun h0 => ?_, roB_holds fun h0 => ?_⟩
    · rw [List.length_map]; exact (hF.row.on h3).reads
    · rw [List.length_map] at h0 ⊢
      have he := hF.en
      cases v1 with
      | none => exact absurd he.1 h0
      | some b1 =>
        refine ⟨b1, 0, rfl, ((FRow.on (show FRow H b1 39 1 ents.length (entE ents) c1 from he) h3).reads).congr fun i hi => ?_⟩
        unfold entE asE
        rw [List.getD_eq_getElem?_getD, List.getD_eq_getElem?_getD, List.getElem?_map]
        cases ents[i]? <;> rfl
    · have he := hF.rc
      cases v2 with
      | none => exact absurd he.1 h0
      | some b1 => exact ⟨b1, 0, rfl, (FRow.on (show FRow H b1 248 2 recs.length (recE recs) c2 from he) h3).reads⟩
  · split at h
    · rename_i c X Y hp
      split at h
      · rename_i c1 es1 n1 f1 c2 es2 n2 f2 hX hY
        cases h
        obtain ⟨q0, ⟨q1, q2, q3⟩, ⟨r1, r2, r3⟩⟩ := hc
        have hR := ptrOf_spec (g := true) hS hp q0
        obtain ⟨base1, cap1, hv1, hr1⟩ := seqOf_spec hS hX q1
        obtain ⟨base2, cap2, hv2, hr2⟩ := seqOf_spec hS hY r1
        have l1 : ((List.range n1).map fun i => (f1 i).int1).length = n1 := by simp
        have l2 : ((List.range n2).map fun i => rec1 (f2 i)).length = n2 := by simp
        rw [l1, l2]
        refine ⟨p.b, p.cell, base1, cap1, base2, cap2, pt_ro p 900 3, roB_holds fun _ => ⟨_, _, rfl, hR.recell fun i _ => ⟨?_, rfl⟩⟩, roB_holds fun h0 => ?_, roB_holds fun h0 => ?_⟩
        · simp only [docAV, AV.cells_agg, AV.cells_cons, seq_cells hX, seq_cells hY, hv1, hv2]
          have e1 : (AV.gs 901 0 base1 1 0 n1 cap1).cells = [slV base1 n1 cap1] := by rw [← roS_val 901 base1 1 n1 cap1]; rfl
          have e2 : (AV.gs 902 0 base2 2 0 n2 cap2).cells = [slV base2 n2 cap2] := by rw [← roS_val 902 base2 2 n2 cap2]; rfl
          rw [e1, e2]
        · obtain ⟨b, o, hb, hR1⟩ := hr1 h0
          rw [q2 h0] at hR1
          refine ⟨b, o, hb, hR1.congr fun i hi => ?_⟩
          unfold asE
          rw [q3 i hi, List.getD_eq_getElem?_getD, List.getElem?_map, List.getElem?_range hi]; rfl
        · obtain ⟨b, o, hb, hR1⟩ := hr2 h0
          rw [r2 h0] at hR1
          refine ⟨b, o, hb, hR1.congr fun i hi => ?_⟩
          unfold recE
          rw [r3 i hi, List.getD_eq_getElem?_getD, List.getElem?_map, List.getElem?_range hi]; rfl
      · cases h
    · cases h
def dMc (b i : Nat) (x1 : Option (Nat × Nat)) (c1 : Nat) (x2 : Option (Nat × Nat)) (c2 : Nat) (aa : List Int) (recs : List (Int × ByteArray)) : Mem := [(900, roB (some (b, i)) 3 1 fun _ => docAV x1 aa.length c1 x2 recs.length c2), (901, roB x1 1 aa.length (asE aa)), (902, roB x2 2 recs.length (recE recs))]

def dgoodC (args : List AV) (M : MemF) : Option (Prop × AV) := match args with
  | [.ptr p] => match docV M p with
    | some (c, _, _) => some (c, .v (.bool true))
    | none => none
  | _ => none
set_option maxRecDepth 100000 in
theorem dgood_read : ReadFn Tryz.prog 56 dgoodC := by
  intro args M q res h hq O w0 w hS
  unfold dgoodC at h
  split at h
  · rename_i p
    split at h
    · rename_i c aa recs hp
      cases h
      obtain ⟨b, i, x1, c1, x2, c2, hv, h1, h2, h3⟩ := doc_open hS hp hq
      rw [show [AV.ptr p].map AV.val = [roP 900 b i 3].map AV.val by simp only [List.map_cons, List.map_nil, hv]]
      refine ro_fn tabs2 (ct := []) trivial (cr := []) trivial Tryz.func56 rfl rfl (M := dMc b i x1 c1 x2 c2 aa recs) rfl ⟨roB_noOwn, roB_noOwn, roB_noOwn, trivial⟩ ⟨h1, h2, h3, trivial⟩ ?_
      repeat (first | refine s_seq ?_ | refine s_region ?_ | refine o_nil ?_ | refine d_nil ?_ | refine oA rfl rfl trivial ?_ | refine oB rfl rfl rfl (fun _ _ => ?_) | refine oC rfl rfl rfl trivial ?_ | refine dA rfl rfl trivial ?_ | refine dB rfl rfl rfl (fun _ _ => ?_) | refine dC rfl rfl rfl trivial ?_ | refine s_skip ?_ | refine s_block ?_ | refine s_exit ?_ | refine s_label ?_)
      refine s_ret ?_
      exact ⟨_, _, rfl, ⟨trivial, trivial⟩, rfl, rfl⟩
    · cases h
  · cases h
set_option maxRecDepth 100000 in
theorem dgood_body : HasBody Tryz.prog 56 := ⟨_, Tryz.func56, rfl, by decide⟩
def ctGd : CtL := [(56, dgoodC)]
set_option maxRecDepth 100000 in
theorem ctGd_ok : CtLOk Tryz.prog ctGd := ⟨CallsOk.fn dgood_body dgood_read, trivial⟩

def knownF (aa : List Int) (a : Int) : Bool := aa.any (· == a)
def knownC (args : List AV) (M : MemF) : Option (Prop × AV) := match args with
  | [.ptr p, .v (.int .u64 a)] => match docV M p with
    | some (c, aa, _) => some (c ∧ aa.length ≤ 9223372036854775807, .v (.bool (knownF aa a)))
    | none => none
  | _ => none
theorem known_true {aa : List Int} {a : Int} {k : Nat} (hk : k < aa.length) (h : aa.getD k 0 = a) : knownF aa a = true := by
  unfold knownF
  rw [List.any_eq_true]
  refine ⟨a, ?_, by simp⟩
  rw [← h, List.getD_eq_getElem?_getD, List.getElem?_eq_getElem hk]
  exact List.getElem_mem hk
theorem known_false {aa : List Int} {a : Int} (h : ∀ j, j < aa.length → aa.getD j 0 ≠ a) : knownF aa a = false := by
  unfold knownF
  rw [Bool.eq_false_iff]
  intro h0
  obtain ⟨x, hx, e⟩ := List.any_eq_true.1 h0
  obtain ⟨j, hj, hjx⟩ := List.getElem_of_mem hx
  refine h j hj ?_
  rw [List.getD_eq_getElem?_getD, List.getElem?_eq_getElem hj]
  simpa [hjx] using e
set_option maxRecDepth 100000 in
theorem known_read : ReadFn Tryz.prog 42 knownC := by
  intro args M q res h hq O w0 w hS
  unfold knownC at h
  split at h
  · rename_i p a
    split at h
    · rename_i c aa recs hp
      cases h
      obtain ⟨hq, hn⟩ := hq
      obtain ⟨b, i, x1, c1, x2, c2, hv, h1, h2, h3⟩ := doc_open hS hp hq
      rw [show [AV.ptr p, AV.v (.int .u64 a)].map AV.val = [roP 900 b i 3, AV.v (.int .u64 a)].map AV.val by simp only [List.map_cons, List.map_nil, hv]]
      refine ro_fn tabs2 ctGd_ok (cr := []) trivial Tryz.func42 rfl rfl (M := [(900, roB (some (b, i)) 3 1 fun _ => docAV x1 aa.length c1 x2 recs.length c2), (901, roB x1 1 aa.length (asE aa)), (902, roB x2 2 recs.length (recE recs))]) rfl ⟨roB_noOwn, roB_noOwn, roB_noOwn, trivial⟩ ⟨h1, h2, h3, trivial⟩ ?_
      repeat (first | refine s_seq ?_ | refine s_region ?_ | refine o_nil ?_ | refine d_nil ?_ | refine oA rfl rfl trivial ?_ | refine oB rfl rfl rfl (fun _ _ => ?_) | refine oC rfl rfl rfl trivial ?_ | refine dA rfl rfl trivial ?_ | refine dB rfl rfl rfl (fun _ _ => ?_) | refine dC rfl rfl rfl trivial ?_ | refine s_skip ?_ | refine s_block ?_ | refine s_exit ?_ | refine s_label ?_)
      refine s_cond (b := false) rfl (fun hb => by cases hb) (fun _ => ?_)
      repeat (first | refine s_seq ?_ | refine s_region ?_ | refine o_nil ?_ | refine d_nil ?_ | refine oA rfl rfl trivial ?_ | refine oB rfl rfl rfl (fun _ _ => ?_) | refine oC rfl rfl rfl trivial ?_ | refine dA rfl rfl trivial ?_ | refine dB rfl rfl rfl (fun _ _ => ?_) | refine dC rfl rfl rfl trivial ?_ | refine s_skip ?_ | refine s_block ?_ | refine s_exit ?_ | refine s_label ?_)
      refine s_loopW (α := Nat) [5, 9, 10, 11, 12, 13, 14, 15, 16, 17, 18, 19, 20, 21, 22, 23, 24, 25, 26] [] (fun k => k ≤ aa.length ∧ ∀ j, j < k → aa.getD j 0 ≠ a) (fun k => [(5, none, .v (.int .i64 k))]) (fun _ => []) (fun k => aa.length - k) 0 ⟨Nat.zero_le _, fun j hj => absurd hj (Nat.not_lt_zero j)⟩ ?_ ?_
      · (refine Le.of ?leT ?leM (by first | exact dfs_nil rfl rfl | exact rfl); (case leT => repeat (first | exact trivial | refine And.intro (by first | exact rfl | (show some (none, AV.v (.int .i64 (IntKind.i64.wrap _))) = _; rw [wi64 (by omega) (by omega)]; rfl)) ?_)); (case leM => repeat (first | exact trivial | refine And.intro ⟨_, rfl, Blk.le_refl _⟩ ?_)))
      · intro k ⟨hk, hno⟩
        repeat (first | refine s_seq ?_ | refine s_region ?_ | refine o_nil ?_ | refine d_nil ?_ | refine oA rfl rfl trivial ?_ | refine oB rfl rfl rfl (fun _ _ => ?_) | refine oC rfl rfl rfl trivial ?_ | refine dA rfl rfl trivial ?_ | refine dB rfl rfl rfl (fun _ _ => ?_) | refine dC rfl rfl rfl trivial ?_ | refine s_skip ?_ | refine s_block ?_ | refine s_exit ?_ | refine s_label ?_)
        refine s_cond (b := decide ((k : Int) < (aa.length : Int))) rfl (fun hb2 => ?_) (fun hb2 => ?_)
        · have hk8 : k < aa.length := by have := of_decide_eq_true hb2; omega
          repeat (first | refine s_seq ?_ | refine s_region ?_ | refine o_nil ?_ | refine d_nil ?_ | refine oA rfl rfl trivial ?_ | refine oB rfl rfl rfl (fun _ _ => ?_) | refine oC rfl rfl rfl trivial ?_ | refine dA rfl rfl trivial ?_ | refine dB rfl rfl rfl (fun _ _ => ?_) | refine dC rfl rfl rfl trivial ?_ | refine s_skip ?_ | refine s_block ?_ | refine s_exit ?_ | refine s_label ?_)
          refine s_cond (b := (aa.getD k 0 == a)) rfl (fun h9 => ?_) (fun h9 => ?_)
          · repeat (first | refine s_seq ?_ | refine s_region ?_ | refine o_nil ?_ | refine d_nil ?_ | refine oA rfl rfl trivial ?_ | refine oB rfl rfl rfl (fun _ _ => ?_) | refine oC rfl rfl rfl trivial ?_ | refine dA rfl rfl trivial ?_ | refine dB rfl rfl rfl (fun _ _ => ?_) | refine dC rfl rfl rfl trivial ?_ | refine s_skip ?_ | refine s_block ?_ | refine s_exit ?_ | refine s_label ?_)
            refine s_ret ?_
            refine ⟨_, _, rfl, ⟨trivial, trivial⟩, rfl, ?_⟩
            rw [known_true hk8 (by simpa using h9)]
            rfl
          · repeat (first | refine s_seq ?_ | refine s_region ?_ | refine o_nil ?_ | refine d_nil ?_ | refine oA rfl rfl trivial ?_ | refine oB rfl rfl rfl (fun _ _ => ?_) | refine oC rfl rfl rfl trivial ?_ | refine dA rfl rfl trivial ?_ | refine dB rfl rfl rfl (fun _ _ => ?_) | refine dC rfl rfl rfl trivial ?_ | refine s_skip ?_ | refine s_block ?_ | refine s_exit ?_ | refine s_label ?_)
            refine ⟨k + 1, ⟨by omega, fun j hj => ?_⟩, by omega, ?_⟩
            · rcases Nat.lt_or_ge j k with h1 | h1
              · exact hno j h1
              · rw [show j = k by omega]; simpa using h9
            · (refine Le.of ?leT ?leM (by first | exact dfs_nil rfl rfl | exact rfl); (case leT => repeat (first | exact trivial | refine And.intro (by first | exact rfl | (show some (none, AV.v (.int .i64 (IntKind.i64.wrap _))) = _; rw [wi64 (by omega) (by omega)]; rfl)) ?_)); (case leM => repeat (first | exact trivial | refine And.intro ⟨_, rfl, Blk.le_refl _⟩ ?_)))
        · have hk8 : k = aa.length := by have := of_decide_eq_false hb2; omega
          repeat (first | refine s_seq ?_ | refine s_region ?_ | refine o_nil ?_ | refine d_nil ?_ | refine oA rfl rfl trivial ?_ | refine oB rfl rfl rfl (fun _ _ => ?_) | refine oC rfl rfl rfl trivial ?_ | refine dA rfl rfl trivial ?_ | refine dB rfl rfl rfl (fun _ _ => ?_) | refine dC rfl rfl rfl trivial ?_ | refine s_skip ?_ | refine s_block ?_ | refine s_exit ?_ | refine s_label ?_)
          refine s_ret ?_
          refine ⟨_, _, rfl, ⟨trivial, trivial⟩, rfl, ?_⟩
          rw [known_false (hk8 ▸ hno)]
          rfl
    · cases h
  · cases h
set_option maxRecDepth 100000 in
theorem known_body : HasBody Tryz.prog 42 := ⟨_, Tryz.func42, rfl, by decide⟩

/-! ### has -/
def dhasC (args : List AV) (M : MemF) : Option (Prop × AV) := match args with
  | [.ptr p, .v (.int .u64 a), X] => match docV M p, seqOf M X with
    | some (c, _, recs), some (c2, es, n, fx) => some (c ∧ recs.length ≤ 1000000 ∧ (c2 ∧ (n ≠ 0 → es = 1) ∧ ∀ i, i < n → fx i = .v (.int .u8 (fx i).int1)), .v (.bool (hasR recs (a, strOf n fx))))
    | _, _ => none
  | _ => none
theorem has_true {recs : List (Int × ByteArray)} {r : Int × ByteArray} {k : Nat} (hk : k < recs.length) (h : ((recs.getD k (0, ⟨#[]⟩)).1 == r.1 && (recs.getD k (0, ⟨#[]⟩)).2.toList == r.2.toList) = true) : hasR recs r = true := by
  unfold hasR
  rw [List.any_eq_true]
  refine ⟨_, ?_, h⟩
  rw [List.getD_eq_getElem?_getD, List.getElem?_eq_getElem hk]
  exact List.getElem_mem hk
theorem has_false {recs : List (Int × ByteArray)} {r : Int × ByteArray} (h : ∀ j, j < recs.length → ((recs.getD j (0, ⟨#[]⟩)).1 == r.1 && (recs.getD j (0, ⟨#[]⟩)).2.toList == r.2.toList) = false) : hasR recs r = false := by
  unfold hasR
  rw [Bool.eq_false_iff]
  intro h0
  obtain ⟨x, hx, e⟩ := List.any_eq_true.1 h0
  obtain ⟨j, hj, hjx⟩ := List.getElem_of_mem hx
  have := h j hj
  rw [List.getD_eq_getElem?_getD, List.getElem?_eq_getElem hj] at this
  simp only [Option.getD_some, hjx] at this
  rw [this] at e
  cases e
set_option maxRecDepth 100000 in
set_option maxHeartbeats 4000000 in
theorem dhas_read : ReadFn Tryz.prog 126 dhasC := by
  intro args M q res h hq O w0 w hS
  unfold dhasC at h
  split at h
  · rename_i p a X
    split at h
    · rename_i c aa recs c2 es n fx hp hsx
      cases h
      obtain ⟨hq, hn, q1, q2, q4⟩ := hq
      obtain ⟨b, i, x1, c1, x2, c2, hv, h1, h2, h3⟩ := doc_open hS hp hq
      obtain ⟨base, cap, hvx, hro⟩ := bytes_ro hS hsx q1 q2 q4
      obtain ⟨f, hf0⟩ : ∃ f, f = fun i => (fx i).int1 := ⟨_, rfl⟩
      have hstr : strOf n fx = strOf n fun i => .v (.int .u8 (f i)) := by rw [hf0]; rfl
      rw [hstr]
      have hro : (roB base 1 n fun i => .v (.int .u8 (f i))).holds w := by rw [hf0]; exact hro
      rw [show [AV.ptr p, AV.v (.int .u64 a), X].map AV.val = [roP 900 b i 3, AV.v (.int .u64 a), roS 903 base 1 n cap].map AV.val by simp only [List.map_cons, List.map_nil, hv, hvx, roS_val]]
      refine ro_fn tabs2 (ct := []) trivial (cr := []) trivial Tryz.func126 rfl rfl (M := [(900, roB (some (b, i)) 3 1 fun _ => docAV x1 aa.length c1 x2 recs.length c2), (901, roB x1 1 aa.length (asE aa)), (902, roB x2 2 recs.length (recE recs)), (903, roB base 1 n fun i => .v (.int .u8 (f i)))]) rfl ⟨roB_noOwn, roB_noOwn, roB_noOwn, roB_noOwn, trivial⟩ ⟨h1, h2, h3, hro, trivial⟩ ?_
      repeat (first | refine s_seq ?_ | refine s_region ?_ | refine o_nil ?_ | refine d_nil ?_ | refine oA rfl rfl trivial ?_ | refine oB rfl rfl rfl (fun _ _ => ?_) | refine oC rfl rfl rfl trivial ?_ | refine dA rfl rfl trivial ?_ | refine dB rfl rfl rfl (fun _ _ => ?_) | refine dC rfl rfl rfl trivial ?_ | refine s_skip ?_ | refine s_block ?_ | refine s_exit ?_ | refine s_label ?_)
      refine s_loopW (α := Nat) [7, 8, 9, 10, 11, 12, 13, 14, 15, 16, 17, 18, 19, 20, 21, 22, 23, 24, 25, 26, 27, 28, 29, 30, 31, 32, 33, 34, 35, 36, 37, 38, 39] [] (fun k => k ≤ recs.length ∧ ∀ j, j < k → ((recs.getD j (0, ⟨#[]⟩)).1 == a && (recs.getD j (0, ⟨#[]⟩)).2.toList == (strOf n fun i => .v (.int .u8 (f i))).toList) = false) (fun k => [(7, none, .v (.int .i64 k))]) (fun _ => []) (fun k => recs.length - k) 0 ⟨Nat.zero_le _, fun j hj => absurd hj (Nat.not_lt_zero j)⟩ ?_ ?_
      · (refine Le.of ?leT ?leM (by first | exact dfs_nil rfl rfl | exact rfl); (case leT => repeat (first | exact trivial | refine And.intro (by first | exact rfl | (show some (none, AV.v (.int .i64 (IntKind.i64.wrap _))) = _; rw [wi64 (by omega) (by omega)]; rfl)) ?_)); (case leM => repeat (first | exact trivial | refine And.intro ⟨_, rfl, Blk.le_refl _⟩ ?_)))
      · intro k ⟨hk, hno⟩
        repeat (first | refine s_seq ?_ | refine s_region ?_ | refine o_nil ?_ | refine d_nil ?_ | refine oA rfl rfl trivial ?_ | refine oB rfl rfl rfl (fun _ _ => ?_) | refine oC rfl rfl rfl trivial ?_ | refine dA rfl rfl trivial ?_ | refine dB rfl rfl rfl (fun _ _ => ?_) | refine dC rfl rfl rfl trivial ?_ | refine s_skip ?_ | refine s_block ?_ | refine s_exit ?_ | refine s_label ?_)
        refine s_cond (b := decide ((k : Int) < (recs.length : Int))) rfl (fun hb2 => ?_) (fun hb2 => ?_)
        · have hk8 : k < recs.length := by have := of_decide_eq_true hb2; omega
          repeat (first | refine s_seq ?_ | refine s_region ?_ | refine o_nil ?_ | refine d_nil ?_ | refine oA rfl rfl trivial ?_ | refine oB rfl rfl rfl (fun _ _ => ?_) | refine oC rfl rfl rfl trivial ?_ | refine dA rfl rfl trivial ?_ | refine dB rfl rfl rfl (fun _ _ => ?_) | refine dC rfl rfl rfl trivial ?_ | refine s_skip ?_ | refine s_block ?_ | refine s_exit ?_ | refine s_label ?_)
          refine s_draw rD126_4 rM126_4 rX126_4 rN126_4 rfl rfl ?_
          repeat (first | refine s_seq ?_ | refine s_region ?_ | refine o_nil ?_ | refine d_nil ?_ | refine oA rfl rfl trivial ?_ | refine oB rfl rfl rfl (fun _ _ => ?_) | refine oC rfl rfl rfl trivial ?_ | refine dA rfl rfl trivial ?_ | refine dB rfl rfl rfl (fun _ _ => ?_) | refine dC rfl rfl rfl trivial ?_ | refine s_skip ?_ | refine s_block ?_ | refine s_exit ?_ | refine s_label ?_)
          refine s_cond (b := ((recs.getD k (0, ⟨#[]⟩)).1 == a && (recs.getD k (0, ⟨#[]⟩)).2.toList == (strOf n fun i => .v (.int .u8 (f i))).toList)) rfl (fun h9 => ?_) (fun h9 => ?_)
          · repeat (first | refine s_seq ?_ | refine s_region ?_ | refine o_nil ?_ | refine d_nil ?_ | refine oA rfl rfl trivial ?_ | refine oB rfl rfl rfl (fun _ _ => ?_) | refine oC rfl rfl rfl trivial ?_ | refine dA rfl rfl trivial ?_ | refine dB rfl rfl rfl (fun _ _ => ?_) | refine dC rfl rfl rfl trivial ?_ | refine s_skip ?_ | refine s_block ?_ | refine s_exit ?_ | refine s_label ?_)
            refine s_ret ?_
            refine ⟨_, _, rfl, ⟨trivial, trivial⟩, rfl, ?_⟩
            rw [has_true hk8 h9]
            rfl
          · repeat (first | refine s_seq ?_ | refine s_region ?_ | refine o_nil ?_ | refine d_nil ?_ | refine oA rfl rfl trivial ?_ | refine oB rfl rfl rfl (fun _ _ => ?_) | refine oC rfl rfl rfl trivial ?_ | refine dA rfl rfl trivial ?_ | refine dB rfl rfl rfl (fun _ _ => ?_) | refine dC rfl rfl rfl trivial ?_ | refine s_skip ?_ | refine s_block ?_ | refine s_exit ?_ | refine s_label ?_)
            refine ⟨k + 1, ⟨by omega, fun j hj => ?_⟩, by omega, ?_⟩
            · rcases Nat.lt_or_ge j k with h1 | h1
              · exact hno j h1
              · rw [show j = k by omega]; exact h9
            · (refine Le.of ?leT ?leM (by first | exact dfs_nil rfl rfl | exact rfl); (case leT => repeat (first | exact trivial | refine And.intro (by first | exact rfl | (show some (none, AV.v (.int .i64 (IntKind.i64.wrap _))) = _; rw [wi64 (by omega) (by omega)]; rfl)) ?_)); (case leM => repeat (first | exact trivial | refine And.intro ⟨_, rfl, Blk.le_refl _⟩ ?_)))
        · have hk8 : k = recs.length := by have := of_decide_eq_false hb2; omega
          repeat (first | refine s_seq ?_ | refine s_region ?_ | refine o_nil ?_ | refine d_nil ?_ | refine oA rfl rfl trivial ?_ | refine oB rfl rfl rfl (fun _ _ => ?_) | refine oC rfl rfl rfl trivial ?_ | refine dA rfl rfl trivial ?_ | refine dB rfl rfl rfl (fun _ _ => ?_) | refine dC rfl rfl rfl trivial ?_ | refine s_skip ?_ | refine s_block ?_ | refine s_exit ?_ | refine s_label ?_)
          refine s_ret ?_
          refine ⟨_, _, rfl, ⟨trivial, trivial⟩, rfl, ?_⟩
          rw [has_false (hk8 ▸ hno)]
          rfl
    · cases h
  · cases h
set_option maxRecDepth 100000 in
theorem dhas_body : HasBody Tryz.prog 126 := ⟨_, Tryz.func126, rfl, by decide⟩
end Go.Proofs.YtofophjfgalhaaaGreatDoor.V
/-! The document's book: Check, New, Addr. -/
namespace Go.Proofs.YtofophjfgalhaaaGreatDoor.V
open Go Go.RowKit

def dcheckF (K : List Int) (recs : List (Int × ByteArray)) (a : Int) (f : Nat → Int) (m : ByteArray) (n : Nat) (s : List Int) : Bool := hasR recs (a, m) && intsEq 16 s (ofF K b0L a f n)
def dcheckC (args : List AV) (M : MemF) : Option (Prop × AV) := match args, M 100002 with
  | [.ptr p, .v (.int .u64 a), X, .ints .u8 16 s], some (.var 2 (.ints .u32 64 K)) => match docV M p, seqOf M X with
    | some (c, _, recs), some (c2, es, n, fx) => some (c ∧ recs.length ≤ 1000000 ∧ (c2 ∧ (n ≠ 0 → es = 1) ∧ n ≤ 2000000 ∧ ∀ i, i < n → fx i = .v (.int .u8 (fx i).int1)), .v (.bool (dcheckF K recs a (fun i => (fx i).int1) (strOf n fx) n s)))
    | _, _ => none
  | _, _ => none
theorem recs_again (recs : List (Int × ByteArray)) : ((List.range recs.length).map fun i => rec1 (recE recs i)) = recs := by
  apply List.ext_getElem?
  intro i
  rw [List.getElem?_map]
  by_cases h : i < recs.length
  · rw [List.getElem?_range h, List.getElem?_eq_getElem h]
    show some (rec1 (recK (recs.getD i (0, ⟨#[]⟩)))) = _
    rw [List.getD_eq_getElem?_getD, List.getElem?_eq_getElem h]; rfl
  · rw [List.getElem?_eq_none (by simpa using h), List.getElem?_eq_none (by omega)]; rfl
def ctDc : CtL := [(56, dgoodC), (126, dhasC), (127, ofC)]
set_option maxRecDepth 100000 in
theorem ctDc_ok : CtLOk Tryz.prog ctDc := ⟨CallsOk.fn dgood_body dgood_read, CallsOk.fn dhas_body dhas_read, CallsOk.fn of_body of_read, trivial⟩
set_option maxRecDepth 100000 in
set_option maxHeartbeats 4000000 in
theorem dcheck_read : ReadFn Tryz.prog 114 dcheckC := by
  intro args M q res h hq O w0 w hS
  unfold dcheckC at h
  split at h
  · rename_i p a X s K hM2
    split at h
    · rename_i c aa recs c2 es n fx hp hsx
      cases h
      obtain ⟨hq, hn, q1, q2, q3, q4⟩ := hq
      obtain ⟨b, i, x1, c1, x2, c2, hv, h1, h2, h3⟩ := doc_open hS hp hq
      obtain ⟨base, cap, hvx, hro⟩ := bytes_ro hS hsx q1 q2 q4
      obtain ⟨f, hf0⟩ : ∃ f, f = fun i => (fx i).int1 := ⟨_, rfl⟩
      have hstr : strOf n fx = strOf n fun i => .v (.int .u8 (f i)) := by rw [hf0]; rfl
      rw [← hf0, hstr]
      have hro : (roB base 1 n fun i => .v (.int .u8 (f i))).holds w := by rw [hf0]; exact hro
      have hK := hS.holds _ _ hM2
      rw [show [AV.ptr p, AV.v (.int .u64 a), X, .ints .u8 16 s].map AV.val = [roP 900 b i 3, AV.v (.int .u64 a), roS 903 base 1 n cap, .ints .u8 16 s].map AV.val by simp only [List.map_cons, List.map_nil, hv, hvx, roS_val]]
      refine ro_fn tabs2 ctDc_ok (cr := []) trivial Tryz.func114 rfl rfl (M := [(900, roB (some (b, i)) 3 1 fun _ => docAV x1 aa.length c1 x2 recs.length c2), (901, roB x1 1 aa.length (asE aa)), (902, roB x2 2 recs.length (recE recs)), (903, roB base 1 n fun i => .v (.int .u8 (f i))), (100002, .var 2 (.ints .u32 64 K))]) rfl ⟨roB_noOwn, roB_noOwn, roB_noOwn, roB_noOwn, fun _ h => h, trivial⟩ ⟨h1, h2, h3, hro, hK, trivial⟩ ?_
      repeat (first | refine s_seq ?_ | refine s_region ?_ | refine o_nil ?_ | refine d_nil ?_ | refine oA rfl rfl trivial ?_ | refine oB rfl rfl rfl (fun _ _ => ?_) | refine oC rfl rfl rfl trivial ?_ | refine dA rfl rfl trivial ?_ | refine dB rfl rfl rfl (fun _ _ => ?_) | refine dC rfl rfl rfl trivial ?_ | refine s_skip ?_ | refine s_block ?_ | refine s_exit ?_ | refine s_label ?_)
      refine o_val rfl rfl trivial ?hc ?_
      case hc =>
        refine ⟨⟨(by first | trivial | exact fun h => h | (unfold need; exact fun h => h) | (simp only [need])), (by first | trivial | exact fun h => h | (unfold need; exact fun h => h) | (simp only [need])), (by first | trivial | exact fun h => h | (unfold need; exact fun h => h) | (simp only [need])), trivial⟩, fun _ => ⟨⟨⟨⟨rfl, rfl, Nat.zero_lt_one⟩, rfl⟩, ⟨⟨rfl, rfl, Nat.le_of_eq (Nat.zero_add _)⟩, fun _ => rfl, fun _ _ => rfl⟩, ⟨rfl, rfl, Nat.le_of_eq (Nat.zero_add _)⟩, fun _ => rfl, fun _ _ => rfl⟩, ?_, ⟨rfl, rfl, Nat.le_of_eq (Nat.zero_add _)⟩, fun _ => rfl, fun _ _ => rfl⟩⟩
        rw [List.length_map, List.length_range]; exact hn
      repeat (first | refine s_seq ?_ | refine s_region ?_ | refine o_nil ?_ | refine d_nil ?_ | refine oA rfl rfl trivial ?_ | refine oB rfl rfl rfl (fun _ _ => ?_) | refine oC rfl rfl rfl trivial ?_ | refine dA rfl rfl trivial ?_ | refine dB rfl rfl rfl (fun _ _ => ?_) | refine dC rfl rfl rfl trivial ?_ | refine s_skip ?_ | refine s_block ?_ | refine s_exit ?_ | refine s_label ?_)
      refine s_cond (b := !(hasR ((List.range recs.length).map fun i => rec1 (recE recs i)) (a, strOf n fun i => .v (.int .u8 (f i))))) rfl (fun hb => ?_) (fun hb => ?_)
      · rw [recs_again] at hb
        repeat (first | refine s_seq ?_ | refine s_region ?_ | refine o_nil ?_ | refine d_nil ?_ | refine oA rfl rfl trivial ?_ | refine oB rfl rfl rfl (fun _ _ => ?_) | refine oC rfl rfl rfl trivial ?_ | refine dA rfl rfl trivial ?_ | refine dB rfl rfl rfl (fun _ _ => ?_) | refine dC rfl rfl rfl trivial ?_ | refine s_skip ?_ | refine s_block ?_ | refine s_exit ?_ | refine s_label ?_)
        refine s_ret ?_
        refine ⟨_, _, rfl, ⟨trivial, trivial⟩, rfl, ?_⟩
        unfold dcheckF
        rw [show hasR recs (a, strOf n fun i => .v (.int .u8 (f i))) = false by simpa using hb]
        rfl
      · rw [recs_again] at hb
        repeat (first | refine s_seq ?_ | refine s_region ?_ | refine o_nil ?_ | refine d_nil ?_ | refine oA rfl rfl trivial ?_ | refine oB rfl rfl rfl (fun _ _ => ?_) | refine oC rfl rfl rfl trivial ?_ | refine dA rfl rfl trivial ?_ | refine dB rfl rfl rfl (fun _ _ => ?_) | refine dC rfl rfl rfl trivial ?_ | refine s_skip ?_ | refine s_block ?_ | refine s_exit ?_ | refine s_label ?_)
        refine s_draw rD114_3 rM114_3 rX114_3 rN114_3 rfl rfl ?_
        repeat (first | refine s_seq ?_ | refine s_region ?_ | refine o_nil ?_ | refine d_nil ?_ | refine oA rfl rfl trivial ?_ | refine oB rfl rfl rfl (fun _ _ => ?_) | refine oC rfl rfl rfl trivial ?_ | refine dA rfl rfl trivial ?_ | refine dB rfl rfl rfl (fun _ _ => ?_) | refine dC rfl rfl rfl trivial ?_ | refine s_skip ?_ | refine s_block ?_ | refine s_exit ?_ | refine s_label ?_)
        refine s_ret ?_
        refine ⟨_, _, rfl, ⟨trivial, trivial⟩, rfl, ?_⟩
        unfold dcheckF
        rw [show hasR recs (a, strOf n fun i => .v (.int .u8 (f i))) = true by simpa using hb]
        rfl
    · cases h
  · cases h
set_option maxRecDepth 100000 in
theorem dcheck_body : HasBody Tryz.prog 114 := ⟨_, Tryz.func114, rfl, by decide⟩

/-! ### New -/
def newDC (tag : Nat) (args : List AV) (_M : MemF) : Option Res := match args with
  | [] => some ⟨Nat × (Nat → Prop), True, fun _ => True, fun x => .ptr ⟨tag, 0, x.1, 0, 3, 0, 0, 0, false⟩, [tag], fun x => [docB x.1 [] [] x.2]⟩
  | _ => none
theorem doc_new {w : World} {b : Nat} (hh : ∀ B ∈ ([.row b 220 3 1 (fun _ => docAV none 0 0 none 0 0) 1] : List Blk), B.holds w) : IsDoc b [] [] (restr w (ownU [.row b 220 3 1 (fun _ => docAV none 0 0 none 0 0) 1])) :=
  ⟨none, 0, none, 0, closed_row (.head _) hh, ⟨rfl, rfl⟩, ⟨rfl, rfl⟩, fun _ h => (by cases h), .nil, .nil, by simp⟩
set_option maxRecDepth 100000 in
set_option maxHeartbeats 4000000 in
theorem newD_turn : TurnFn Tryz.prog 41 newDC := by
  intro tag args M r h0 hok O w0 w hS
  unfold newDC at h0
  split at h0
  · cases h0
    refine turn_new tabs2 (ct := []) trivial (cr := []) trivial Tryz.func41 rfl rfl hS _ [] [2] rfl trivial trivial (by decide) rfl (s_post ?_)
    repeat (first | refine s_seq ?_ | refine s_region ?_ | refine o_nil ?_ | refine d_nil ?_ | refine oA rfl rfl trivial ?_ | refine oB rfl rfl rfl (fun _ _ => ?_) | refine oC rfl rfl rfl trivial ?_ | refine dA rfl rfl trivial ?_ | refine dB rfl rfl rfl (fun _ _ => ?_) | refine dC rfl rfl rfl trivial ?_ | refine s_skip ?_ | refine s_block ?_ | refine s_exit ?_ | refine s_label ?_)
    rename_i b _
    refine s_ret ?_
    refine ⟨_, _, le_close (n := 2) (.reg b [] []) (IsDoc b [] []) [2] [.row b 220 3 1 (fun _ => docAV none 0 0 none 0 0) 1] rfl (by decide) ⟨⟨⟨_, rfl, Blk.le_rowc (Nat.le_refl _) fun _ _ => ⟨rfl, rfl⟩⟩, fun _ h => h⟩, trivial⟩ (fun w hh hp => doc_new hh), ?_⟩
    exact ⟨_, _, rfl, ⟨trivial, trivial⟩, rfl, (b, _), trivial, rfl, ⟨⟨_, rfl, Blk.le_refl _⟩, fun _ h => h⟩, trivial⟩
  · cases h0
set_option maxRecDepth 100000 in
theorem newD_body : HasBody Tryz.prog 41 := ⟨_, Tryz.func41, rfl, by decide⟩

/-! ### a signer's address -/
def dsgnOf (M : MemF) (p : Pt) : Option (Prop × Nat × List (Int × Nat) × List (Int × ByteArray) × (Nat → Prop) × (Int × Nat)) := match M p.n with
  | some (.sep (.reg b ents recs) S φ) => some (Blk.sep (.reg b ents recs) S φ = docB b ents recs S ∧ p.ix < ents.length ∧ (p.b = (ents.getD p.ix (0, 0)).2 ∧ p.o0 = 0 ∧ p.es = 2 ∧ p.idx = 0 ∧ p.off = 0 ∧ p.j = 0), b, ents, recs, S, ents.getD p.ix (0, 0))
  | _ => none
theorem dsgnOf_spec {M : MemF} {p : Pt} {c : Prop} {b : Nat} {ents : List (Int × Nat)} {recs : List (Int × ByteArray)} {S : Nat → Prop} {e : Int × Nat} (h : dsgnOf M p = some (c, b, ents, recs, S, e)) (hc : c) : M p.n = some (docB b ents recs S) ∧ e ∈ ents ∧ ∀ n, (AV.ptr p).val = (AV.ptr ⟨n, 0, e.2, 0, 2, 0, 0, 0, false⟩).val := by
  unfold dsgnOf at h
  split at h
  · rename_i b' e' r' S' φ hM
    cases h
    obtain ⟨h1, h0, h2, h3, h4, h5, h6, h7⟩ := hc
    refine ⟨by rw [hM, h1], getD_mem h0, fun n => ?_⟩
    rw [ptr_val, ptr_val]
    unfold Pt.cell
    simp only [h2, h3, h5, h6, h7]
    simp
  · cases h
def addrC (args : List AV) (M : MemF) : Option (Prop × AV) := match args with
  | [.ptr p] => match dsgnOf M p with
    | some (c, _, _, _, _, e) => some (c, .v (.int .u64 e.1))
    | none => none
  | _ => none
set_option maxRecDepth 100000 in
theorem addr_read : ReadFn Tryz.prog 72 addrC := by
  intro args M q res h hq O w0 w hS
  unfold addrC at h
  split at h
  · rename_i p
    split at h
    · rename_i c b ents recs S e hp
      cases h
      obtain ⟨hM, he, hv⟩ := dsgnOf_spec hp hq
      obtain ⟨H, _, ⟨v1, c1, v2, c2, hF⟩, h3⟩ := frB_open (hS.holds _ _ hM)
      have hR := ((hF.sig e he).on h3).reads
      rw [show [AV.ptr p].map AV.val = [roP 904 e.2 0 2].map AV.val by simp only [List.map_cons, List.map_nil, hv 904]; rfl]
      refine ro_fn tabs2 (ct := []) trivial (cr := []) trivial Tryz.func72 rfl rfl (M := [(904, roB (some (e.2, 0)) 2 1 fun _ => dsigAV b e.1)]) rfl ⟨roB_noOwn, trivial⟩ ⟨roB_holds fun _ => ⟨_, _, rfl, hR⟩, trivial⟩ ?_
      repeat (first | refine s_seq ?_ | refine s_region ?_ | refine o_nil ?_ | refine d_nil ?_ | refine oA rfl rfl trivial ?_ | refine oB rfl rfl rfl (fun _ _ => ?_) | refine oC rfl rfl rfl trivial ?_ | refine dA rfl rfl trivial ?_ | refine dB rfl rfl rfl (fun _ _ => ?_) | refine dC rfl rfl rfl trivial ?_ | refine s_skip ?_ | refine s_block ?_ | refine s_exit ?_ | refine s_label ?_)
      refine s_cond (b := false) rfl (fun hb => by cases hb) (fun _ => ?_)
      repeat (first | refine s_seq ?_ | refine s_region ?_ | refine o_nil ?_ | refine d_nil ?_ | refine oA rfl rfl trivial ?_ | refine oB rfl rfl rfl (fun _ _ => ?_) | refine oC rfl rfl rfl trivial ?_ | refine dA rfl rfl trivial ?_ | refine dB rfl rfl rfl (fun _ _ => ?_) | refine dC rfl rfl rfl trivial ?_ | refine s_skip ?_ | refine s_block ?_ | refine s_exit ?_ | refine s_label ?_)
      refine s_ret ?_
      exact ⟨_, _, rfl, ⟨trivial, trivial⟩, rfl, rfl⟩
    · cases h
  · cases h
set_option maxRecDepth 100000 in
theorem addr_body : HasBody Tryz.prog 72 := ⟨_, Tryz.func72, rfl, by decide⟩
end Go.Proofs.YtofophjfgalhaaaGreatDoor.V
