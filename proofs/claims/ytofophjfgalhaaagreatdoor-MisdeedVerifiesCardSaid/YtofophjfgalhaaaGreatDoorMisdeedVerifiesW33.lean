import Derived.Test.YtofophjfgalhaaaGreatDoorMisdeedVerifiesW32
set_option linter.unusedVariables false
set_option linter.unusedSimpArgs false
/-! The law MisdeedVerifies, walked. -/
namespace Go.Proofs.YtofophjfgalhaaaGreatDoor.V
open Go Go.RowKit

/-- of a slice that came in: it stands in the entry of its element type -/
def CmOk {α : Type} (es : Nat) (base : Nat → Option (Nat × Nat)) (len : Nat → Nat) (f : Nat → Nat → AV) (dec : AV → α) (enc : α → AV) (a : Option Addr) (n : Nat) : Prop := n ≤ 9223372036854775807 ∧ (n ≠ 0 → es = es ∧ ∃ b o, a = some ⟨b, o, none⟩ ∧ base (hx b o n) = some (b, o) ∧ n ≤ len (hx b o n) ∧ ∀ i, i < n → f (hx b o n) i = enc (dec (f (hx b o n) i)))
def cntS (L : List ByteArray) (P Q : ByteArray) (k : Nat) : Nat := ((L.take k).filter (eitherS P Q)).length
theorem cntS_succ {L : List ByteArray} {P Q : ByteArray} {k : Nat} (h : k < L.length) : cntS L P Q (k + 1) = cntS L P Q k + (if eitherS P Q (L.getD k ⟨#[]⟩) = true then 1 else 0) := by
  unfold cntS
  rw [take_add h, List.filter_append, List.length_append]
  congr 1
  by_cases e : eitherS P Q (L.getD k ⟨#[]⟩) = true
  · rw [if_pos e, List.filter_cons_of_pos e]; rfl
  · rw [if_neg e, List.filter_cons_of_neg e]; rfl
theorem cntS_le (L : List ByteArray) (P Q : ByteArray) (k : Nat) : cntS L P Q k ≤ L.length := by
  unfold cntS
  exact Nat.le_trans (List.length_filter_le _ _) (by rw [List.length_take]; omega)
def ctLw : CtL := [(9, aliveC), (12, verNC), (13, dverC)]
set_option maxRecDepth 100000 in
theorem ctLw_ok : CtLOk Tryz.prog ctLw := ⟨.fn alive_body alive_read, .fn ver_body verN_read, .fn dver_body dver_read, trivial⟩
def crLw : CrL := [(10, newWC), (11, shC), (12, verC), (14, dvbC), (15, signedC)]
set_option maxRecDepth 100000 in
theorem crLw_ok : CrLOk Tryz.prog crLw := ⟨⟨newW_body, newW_turn⟩, ⟨sh_body, sh_turn⟩, ⟨ver_body, ver_turn⟩, ⟨dvb_body, dvb_turn⟩, ⟨signed_body, signed_turn⟩, trivial⟩
attribute [local irreducible] verR sealedP sealedD pairP pairD shE shR dsaidR
set_option maxRecDepth 100000 in
set_option maxHeartbeats 2000000 in
theorem law_calls {w : World} (s : StV) (t : Two) {base : Option (Nat × Nat)} {n cap : Nat} {g : Nat → Int} {K : List Int} {base1 base2 base3 : Nat → Option (Nat × Nat)} {len1 len2 len3 : Nat → Nat} {f1 f2 f3 : Nat → Nat → AV} (hn : n ≤ 17592186044415) (hro : (roB base 1 n fun i => .v (.int .u64 (g i))).holds w)
    (h1 : (Blk.vro 3 base1 len1 f1).holds w) (h2 : (Blk.vro 2 base2 len2 f2).holds w) (h3 : (Blk.vro 3 base3 len3 f3).holds w) (hK2 : (Blk.var 2 (.ints .u32 64 K)).holds w) (hK3 : (Blk.var 3 (.ints .u32 8 b0L)).holds w) (hK4 : (Blk.var 4 (.ints .u32 64 K)).holds w)
    (hc1 : CmOk 3 base1 len1 f1 pst1 pstX s.a3 s.n3) (hc2 : CmOk 2 base2 len2 f2 off1 offX s.a4 s.n4) (hmb : ∀ k, k < s.n3 → CmOk 3 base3 len3 f3 mb1 mbX (((List.range s.n3).map fun i => pst1 (f1 (hxA s.a3 s.n3) i)).getD k default).a (((List.range s.n3).map fun i => pst1 (f1 (hxA s.a3 s.n3) i)).getD k default).n)
    (hva : VR t.a) (hvb : VR t.b) (hoa : okV t.a) (hob : okV t.b) :
    Calls Tryz.prog 3 ([encS s, roS 920 base 1 n cap, encT t].map AV.val).toArray w fun e w' => e = .returned (AV.v (.bool true)).val ∧ Below w.heap.size w w' := by
  have hmb' : ∀ k, k < ((List.range s.n3).map fun i => pst1 (f1 (hxA s.a3 s.n3) i)).length → CmOk 3 base3 len3 f3 mb1 mbX (((List.range s.n3).map fun i => pst1 (f1 (hxA s.a3 s.n3) i)).getD k default).a (((List.range s.n3).map fun i => pst1 (f1 (hxA s.a3 s.n3) i)).getD k default).n := fun k hk => hmb k (by simpa using hk)
  refine ro_fn tabs2 ctLw_ok crLw_ok Tryz.func3 rfl rfl (M := [(920, roB base 1 n fun i => .v (.int .u64 (g i))), (90001, .vro 3 base1 len1 f1), (90002, .vro 2 base2 len2 f2), (90003, .vro 3 base3 len3 f3), (100002, .var 2 (.ints .u32 64 K)), (100003, .var 3 (.ints .u32 8 b0L)), (100004, .var 4 (.ints .u32 64 K))]) rfl ⟨roB_noOwn, fun _ h => h, fun _ h => h, fun _ h => h, fun _ h => h, fun _ h => h, fun _ h => h, trivial⟩ ⟨hro, h1, h2, h3, hK2, hK3, hK4, trivial⟩ ?_
  repeat (first | refine s_seq ?_ | refine s_region ?_ | refine o_nil ?_ | refine d_nil ?_ | refine oA rfl rfl trivial ?_ | refine oB rfl rfl rfl (fun _ _ => ?_) | refine oC rfl rfl rfl trivial ?_ | refine dA rfl rfl trivial ?_ | refine dB rfl rfl rfl (fun _ _ => ?_) | refine dC rfl rfl rfl trivial ?_ | refine s_skip ?_ | refine s_block ?_ | refine s_exit ?_ | refine s_label ?_)
  refine s_cond (b := false) rfl (fun hb => by cases hb) (fun _ => ?_)
  repeat ((fail_if_success (first | refine o_at 10 ?_ | refine d_at 10 ?_)); (first | refine s_seq ?_ | refine s_region ?_ | refine o_nil ?_ | refine d_nil ?_ | refine oA rfl rfl trivial ?_ | refine oB rfl rfl rfl (fun _ _ => ?_) | refine oC rfl rfl rfl trivial ?_ | refine dA rfl rfl trivial ?_ | refine dB rfl rfl rfl (fun _ _ => ?_) | refine dC rfl rfl rfl trivial ?_ | refine s_skip ?_ | refine s_block ?_ | refine s_exit ?_ | refine s_label ?_))
  refine oB5 rfl rfl rfl ⟨⟨0, 0, 0, [], [], fun _ => False, fun _ => False, (none, 0), (none, 0)⟩, rfl, Nat.zero_le _⟩ ⟨by (repeat' apply And.intro) <;> trivial, ⟨rfl, rfl, Nat.le_of_eq (Nat.zero_add _)⟩, fun _ => rfl, hn, fun _ _ => rfl⟩ (fun W hW => ?_)
  obtain ⟨bW, bR, bQ, ents, dents, S1, S2, v1, v2⟩ := W
  obtain ⟨hde, hel0⟩ := hW
  dsimp only at hde hel0 ⊢
  have hel : ents.length ≤ 17592186044416 := by omega
  repeat (first | refine s_seq ?_ | refine s_region ?_ | refine o_nil ?_ | refine d_nil ?_ | refine oA rfl rfl trivial ?_ | refine oB rfl rfl rfl (fun _ _ => ?_) | refine oC rfl rfl rfl trivial ?_ | refine dA rfl rfl trivial ?_ | refine dB rfl rfl rfl (fun _ _ => ?_) | refine dC rfl rfl rfl trivial ?_ | refine s_skip ?_ | refine s_block ?_ | refine s_exit ?_ | refine s_label ?_)
  refine s_cond (b := false) rfl (fun hb => by cases hb) (fun _ => ?_)
  obtain ⟨R2, hR2⟩ : ∃ R, R = shR s.nm (ents.map (·.1)) [] t := ⟨_, rfl⟩
  obtain ⟨E1, hE1⟩ : ∃ v, v = (shE K s.nm (ents.map (·.1)) t).1 := ⟨_, rfl⟩
  obtain ⟨E2, hE2⟩ : ∃ v, v = (shE K s.nm (ents.map (·.1)) t).2 := ⟨_, rfl⟩
  repeat ((fail_if_success (first | refine o_at 11 ?_ | refine d_at 11 ?_)); (first | refine s_seq ?_ | refine s_region ?_ | refine o_nil ?_ | refine d_nil ?_ | refine oA rfl rfl trivial ?_ | refine oB rfl rfl rfl (fun _ _ => ?_) | refine oC rfl rfl rfl trivial ?_ | refine dA rfl rfl trivial ?_ | refine dB rfl rfl rfl (fun _ _ => ?_) | refine dC rfl rfl rfl trivial ?_ | refine s_skip ?_ | refine s_block ?_ | refine s_exit ?_ | refine s_label ?_))
  refine oB2 rfl rfl rfl ⟨(fun _ => False, fun _ => False), trivial⟩ ?hc1 (fun z1 _ => ?_)
  case hc1 => exact ⟨by (repeat' apply And.intro) <;> trivial, ⟨⟨⟨⟨rfl, rfl, rfl, Nat.zero_lt_one⟩, rfl⟩, ⟨rfl, rfl, rfl, rfl, rfl, rfl, rfl⟩, ⟨rfl, rfl, rfl, rfl, rfl, rfl, rfl⟩, ⟨rfl, rfl, Nat.le_of_eq (Nat.zero_add _)⟩, ⟨rfl, rfl, Nat.le_of_eq (Nat.zero_add _)⟩⟩, ⟨fun _ => rfl, fun _ => rfl, rfl, rfl⟩, ⟨hde, rfl, hel⟩, ⟨fun _ _ => rfl, fun _ _ => rfl⟩, (show (25 : Nat) ≠ 200025 by decide), (show (25 : Nat) ≠ 300025 by decide), (show (200025 : Nat) ≠ 300025 by decide), rfl, rfl, rfl, rfl⟩, ⟨hva, hvb⟩, Nat.zero_le _, rfl, rfl⟩
  refine o_le (le_val (t := 35) (av' := .tup (.cons (.agg (.cons (encV E1) (.cons (encV E2) .nil))) (.cons (.v (.bool true)) .nil))) rfl (by rw [hE1, hE2]; rfl)) ?_
  refine o_le (le_blk (k := 200025) rfl rfl (le_regR (recs2 := R2) hR2)) ?_
  refine o_le (le_blk (k := 300025) rfl rfl (le_docR (recs2 := R2) hR2)) ?_
  have hv := sh_VR (K := K) (nm := s.nm) (aa := ents.map (·.1)) hva hvb
  have ho := sh_okV (K := K) (nm := s.nm) (aa := ents.map (·.1)) hoa hob
  rw [← hE1, ← hE2] at hv ho
  have hRl : R2.length ≤ 2 := by rw [hR2]; unfold shR shR1; exact Nat.le_trans (sldR_len _ _ _ _ _) (by have := sldR_len s.nm (ents.map (·.1)) [] t.a t.sa; simpa using this)
  have hRn : R2.Nodup := by rw [hR2]; unfold shR shR1; exact sldR_nodup (sldR_nodup .nil)
  clear hE1 hE2 hR2
  repeat (first | refine s_seq ?_ | refine s_region ?_ | refine o_nil ?_ | refine d_nil ?_ | refine oA rfl rfl trivial ?_ | refine oB rfl rfl rfl (fun _ _ => ?_) | refine oC rfl rfl rfl trivial ?_ | refine dA rfl rfl trivial ?_ | refine dB rfl rfl rfl (fun _ _ => ?_) | refine dC rfl rfl rfl trivial ?_ | refine s_skip ?_ | refine s_block ?_ | refine s_exit ?_ | refine s_label ?_)
  refine s_cond (b := false) rfl (fun hb => by cases hb) (fun _ => ?_)
  obtain ⟨V, hV⟩ : ∃ V, V = verR s ((List.range s.n3).map fun i => pst1 (f1 (hxA s.a3 s.n3) i)) (fun k => ((List.range (((List.range s.n3).map fun i => pst1 (f1 (hxA s.a3 s.n3) i)).getD k default).n).map fun i => mb1 (f3 (hxA (((List.range s.n3).map fun i => pst1 (f1 (hxA s.a3 s.n3) i)).getD k default).a (((List.range s.n3).map fun i => pst1 (f1 (hxA s.a3 s.n3) i)).getD k default).n) i)).map (·.1)) ((List.range s.n4).map fun i => off1 (f2 (hxA s.a4 s.n4) i)) (pairP E1 E2) E1 E2 (sealedP K b0L s.nm R2 E1) (sealedP K b0L s.nm R2 E2) := ⟨_, rfl⟩
  have hVD : V = verR s ((List.range s.n3).map fun i => pst1 (f1 (hxA s.a3 s.n3) i)) (fun k => ((List.range (((List.range s.n3).map fun i => pst1 (f1 (hxA s.a3 s.n3) i)).getD k default).n).map fun i => mb1 (f3 (hxA (((List.range s.n3).map fun i => pst1 (f1 (hxA s.a3 s.n3) i)).getD k default).a (((List.range s.n3).map fun i => pst1 (f1 (hxA s.a3 s.n3) i)).getD k default).n) i)).map (·.1)) ((List.range s.n4).map fun i => off1 (f2 (hxA s.a4 s.n4) i)) (pairD E1 E2) E1 E2 (sealedD K s.nm R2 E1) (sealedD K s.nm R2 E2) := by rw [hV]; exact verR_eq s _ _ _ K R2 E1 E2 ho.1 ho.2
  repeat (first | refine s_seq ?_ | refine s_region ?_ | refine o_nil ?_ | refine d_nil ?_ | refine oA rfl rfl trivial ?_ | refine oB rfl rfl rfl (fun _ _ => ?_) | refine oC rfl rfl rfl trivial ?_ | refine dA rfl rfl trivial ?_ | refine dB rfl rfl rfl (fun _ _ => ?_) | refine dC rfl rfl rfl trivial ?_ | refine s_skip ?_ | refine s_block ?_ | refine s_exit ?_ | refine s_label ?_)
  refine s_draw rD3_10 rM3_10 [(200025, [6])] rN3_10 rfl rfl ?_
  repeat ((fail_if_success (first | refine o_at 12 ?_ | refine d_at 12 ?_)); (first | refine s_seq ?_ | refine s_region ?_ | refine o_nil ?_ | refine d_nil ?_ | refine oA rfl rfl trivial ?_ | refine oB rfl rfl rfl (fun _ _ => ?_) | refine oC rfl rfl rfl trivial ?_ | refine dA rfl rfl trivial ?_ | refine dB rfl rfl rfl (fun _ _ => ?_) | refine dC rfl rfl rfl trivial ?_ | refine s_skip ?_ | refine s_block ?_ | refine s_exit ?_ | refine s_label ?_))
  refine dB rfl rfl rfl (fun z2 _ => ?_) ⟨fun _ => False, trivial⟩ ⟨by (repeat' apply And.intro) <;> trivial, ⟨rfl, rfl, rfl, rfl, rfl, rfl, rfl⟩, ⟨hc1, hc2, hmb'⟩, hv.1, hv.2⟩
  repeat ((fail_if_success (first | refine o_at 12 ?_ | refine d_at 12 ?_)); (first | refine s_seq ?_ | refine s_region ?_ | refine o_nil ?_ | refine d_nil ?_ | refine oA rfl rfl trivial ?_ | refine oB rfl rfl rfl (fun _ _ => ?_) | refine oC rfl rfl rfl trivial ?_ | refine dA rfl rfl trivial ?_ | refine dB rfl rfl rfl (fun _ _ => ?_) | refine dC rfl rfl rfl trivial ?_ | refine s_skip ?_ | refine s_block ?_ | refine s_exit ?_ | refine s_label ?_))
  refine o_le (le_val (t := 10) (av' := .v (.int .i64 V)) rfl ?hv) ?_
  case hv => rw [hV]; rfl
  repeat (first | refine s_seq ?_ | refine s_region ?_ | refine o_nil ?_ | refine d_nil ?_ | refine oA rfl rfl trivial ?_ | refine oB rfl rfl rfl (fun _ _ => ?_) | refine oC rfl rfl rfl trivial ?_ | refine dA rfl rfl trivial ?_ | refine dB rfl rfl rfl (fun _ _ => ?_) | refine dC rfl rfl rfl trivial ?_ | refine s_skip ?_ | refine s_block ?_ | refine s_exit ?_ | refine s_label ?_)
  refine s_draw rD3_13 rM3_13 rX3_13 rN3_13 rfl rfl ?_
  repeat ((fail_if_success (first | refine o_at 13 ?_ | refine d_at 13 ?_)); (first | refine s_seq ?_ | refine s_region ?_ | refine o_nil ?_ | refine d_nil ?_ | refine oA rfl rfl trivial ?_ | refine oB rfl rfl rfl (fun _ _ => ?_) | refine oC rfl rfl rfl trivial ?_ | refine dA rfl rfl trivial ?_ | refine dB rfl rfl rfl (fun _ _ => ?_) | refine dC rfl rfl rfl trivial ?_ | refine s_skip ?_ | refine s_block ?_ | refine s_exit ?_ | refine s_label ?_))
  refine d_val rfl rfl trivial ⟨by (repeat' apply And.intro) <;> trivial, ⟨rfl, rfl, rfl, rfl, rfl, rfl, rfl⟩, ⟨hc1, hc2, hmb'⟩, hv.1, hv.2, Nat.le_trans hRl (by decide)⟩ ?_
  repeat (first | refine s_seq ?_ | refine s_region ?_ | refine o_nil ?_ | refine d_nil ?_ | refine oA rfl rfl trivial ?_ | refine oB rfl rfl rfl (fun _ _ => ?_) | refine oC rfl rfl rfl trivial ?_ | refine dA rfl rfl trivial ?_ | refine dB rfl rfl rfl (fun _ _ => ?_) | refine dC rfl rfl rfl trivial ?_ | refine s_skip ?_ | refine s_block ?_ | refine s_exit ?_ | refine s_label ?_)
  refine s_cond rfl (fun hb => ?_) (fun _ => ?_)
  · exfalso
    have hb2 : (((V != verR s ((List.range s.n3).map fun i => pst1 (f1 (hxA s.a3 s.n3) i)) (fun k => ((List.range (((List.range s.n3).map fun i => pst1 (f1 (hxA s.a3 s.n3) i)).getD k default).n).map fun i => mb1 (f3 (hxA (((List.range s.n3).map fun i => pst1 (f1 (hxA s.a3 s.n3) i)).getD k default).a (((List.range s.n3).map fun i => pst1 (f1 (hxA s.a3 s.n3) i)).getD k default).n) i)).map (·.1)) ((List.range s.n4).map fun i => off1 (f2 (hxA s.a4 s.n4) i)) (pairD E1 E2) E1 E2 (sealedD K s.nm R2 E1) (sealedD K s.nm R2 E2)) || ((1 : Int) != 1)) || ((1 : Int) != 1)) = true := hb
    rw [← hVD] at hb2
    simp at hb2
  repeat (first | refine s_seq ?_ | refine s_region ?_ | refine o_nil ?_ | refine d_nil ?_ | refine oA rfl rfl trivial ?_ | refine oB rfl rfl rfl (fun _ _ => ?_) | refine oC rfl rfl rfl trivial ?_ | refine dA rfl rfl trivial ?_ | refine dB rfl rfl rfl (fun _ _ => ?_) | refine dC rfl rfl rfl trivial ?_ | refine s_skip ?_ | refine s_block ?_ | refine s_exit ?_ | refine s_label ?_)
  refine s_cond (b := (V != 0)) rfl (fun hb => ?_) (fun hb => ?_)
  · repeat (first | refine s_seq ?_ | refine s_region ?_ | refine o_nil ?_ | refine d_nil ?_ | refine oA rfl rfl trivial ?_ | refine oB rfl rfl rfl (fun _ _ => ?_) | refine oC rfl rfl rfl trivial ?_ | refine dA rfl rfl trivial ?_ | refine dB rfl rfl rfl (fun _ _ => ?_) | refine dC rfl rfl rfl trivial ?_ | refine s_skip ?_ | refine s_block ?_ | refine s_exit ?_ | refine s_label ?_)
    refine s_ret ?_
    exact ⟨_, _, rfl, ⟨trivial, trivial⟩, rfl, rfl⟩
  have hV0 : V = 0 := by simpa using hb
  have h2f := two_found ho.1 ho.2 hRn (hV.symm.trans hV0)
  clear hVD hV hb
  have hl1 := dsaid_len s.nm E1
  have hl2 := dsaid_len s.nm E2
  repeat ((fail_if_success (first | refine o_at 14 ?_ | refine d_at 14 ?_)); (first | refine s_seq ?_ | refine s_region ?_ | refine o_nil ?_ | refine d_nil ?_ | refine oA rfl rfl trivial ?_ | refine oB rfl rfl rfl (fun _ _ => ?_) | refine oC rfl rfl rfl trivial ?_ | refine dA rfl rfl trivial ?_ | refine dB rfl rfl rfl (fun _ _ => ?_) | refine dC rfl rfl rfl trivial ?_ | refine s_skip ?_ | refine s_block ?_ | refine s_exit ?_ | refine s_label ?_))
  refine oB rfl rfl rfl (fun ya hya => ?_) ⟨(none, _), Nat.le_refl _⟩ ?hca
  case hca => (repeat' (first | exact hv.1 | apply And.intro)) <;> (first | trivial | rfl | exact Nat.zero_lt_one | decide)
  repeat ((fail_if_success (first | refine o_at 14 ?_ | refine d_at 14 ?_)); (first | refine s_seq ?_ | refine s_region ?_ | refine o_nil ?_ | refine d_nil ?_ | refine oA rfl rfl trivial ?_ | refine oB rfl rfl rfl (fun _ _ => ?_) | refine oC rfl rfl rfl trivial ?_ | refine dA rfl rfl trivial ?_ | refine dB rfl rfl rfl (fun _ _ => ?_) | refine dC rfl rfl rfl trivial ?_ | refine s_skip ?_ | refine s_block ?_ | refine s_exit ?_ | refine s_label ?_))
  refine oB rfl rfl rfl (fun yb hyb => ?_) ⟨(none, _), Nat.le_refl _⟩ ?hcb
  case hcb => (repeat' (first | exact hv.2 | apply And.intro)) <;> (first | trivial | rfl | exact Nat.zero_lt_one | decide)
  repeat (first | refine s_seq ?_ | refine s_region ?_ | refine o_nil ?_ | refine d_nil ?_ | refine oA rfl rfl trivial ?_ | refine oB rfl rfl rfl (fun _ _ => ?_) | refine oC rfl rfl rfl trivial ?_ | refine dA rfl rfl trivial ?_ | refine dB rfl rfl rfl (fun _ _ => ?_) | refine dC rfl rfl rfl trivial ?_ | refine s_skip ?_ | refine s_block ?_ | refine s_exit ?_ | refine s_label ?_)
  refine s_draw rD3_20 rM3_20 [(200025, [7])] rN3_20 rfl rfl ?_
  repeat ((fail_if_success (first | refine o_at 15 ?_ | refine d_at 15 ?_)); (first | refine s_seq ?_ | refine s_region ?_ | refine o_nil ?_ | refine d_nil ?_ | refine oA rfl rfl trivial ?_ | refine oB rfl rfl rfl (fun _ _ => ?_) | refine oC rfl rfl rfl trivial ?_ | refine dA rfl rfl trivial ?_ | refine dB rfl rfl rfl (fun _ _ => ?_) | refine dC rfl rfl rfl trivial ?_ | refine s_skip ?_ | refine s_block ?_ | refine s_exit ?_ | refine s_label ?_))
  refine dB2 rfl rfl rfl ⟨(fun _ => False, (none, _), fun _ => False), Nat.le_refl _⟩ ⟨by (repeat' apply And.intro) <;> trivial, ⟨rfl, rfl, rfl, rfl, rfl, rfl, rfl⟩, Nat.le_trans hRl (by decide)⟩ (fun z3 hz3 => ?_)
  repeat (first | refine s_seq ?_ | refine s_region ?_ | refine o_nil ?_ | refine d_nil ?_ | refine oA rfl rfl trivial ?_ | refine oB rfl rfl rfl (fun _ _ => ?_) | refine oC rfl rfl rfl trivial ?_ | refine dA rfl rfl trivial ?_ | refine dB rfl rfl rfl (fun _ _ => ?_) | refine dC rfl rfl rfl trivial ?_ | refine s_skip ?_ | refine s_block ?_ | refine s_exit ?_ | refine s_label ?_)
  have hSl : (sgOf R2 E1.from_).length ≤ 2 := Nat.le_trans (sgOf_len _ _) hRl
  refine s_freeze (n := 97) (g := .reg 0 [] ((sgOf R2 E1.from_).map fun s => (0, s))) (S := z3.2.2) (P := IsSls (sgOf R2 E1.from_) z3.2.1.1 z3.2.1.2) rfl rfl fun H hH hP => ?_
  obtain ⟨bs, hF⟩ := hP
  refine ⟨_, sls_ro hF 97 rfl (by decide), ?_⟩
  clear hF hH
  obtain ⟨SL, hSL⟩ : ∃ l, l = sgOf R2 E1.from_ := ⟨_, rfl⟩
  rw [← hSL] at h2f hSl
  refine s_le (tm' := [(19, none, .v (.int .i64 0)), (17, none, .v (.int .i64 0)), (18, none, .gs 97 0 (ownB z3.2.1.1) 1 0 SL.length z3.2.1.2), (13, none, .gs 79 0 (ownB ya.1) 1 0 (dsaidR s.nm E1).1.length ya.2), (15, none, .gs 87 0 (ownB yb.1) 1 0 (dsaidR s.nm E2).1.length yb.2)]) (M' := [(97, roB (ownB z3.2.1.1) 1 SL.length (slG SL bs)), (960, .vro 1 (fun i => some ((bs.getD i (0, 0)).1, 0)) (fun i => (SL.getD i ⟨#[]⟩).size) (fun i => strAt (SL.getD i ⟨#[]⟩))), (79, .vrow ya.1 5 1 (dsaidR s.nm E1).1.length (vl (dsaidR s.nm E1).1) ya.2), (87, .vrow yb.1 5 1 (dsaidR s.nm E2).1.length (vl (dsaidR s.nm E2).1) yb.2)]) ?_ ?_
  · rw [hSL]
    (refine Le.of ?leT ?leM (by first | exact dfs_nil rfl rfl | exact rfl); (case leT => repeat (first | exact trivial | refine And.intro (by first | exact rfl | (show some (none, AV.v (.int .i64 (IntKind.i64.wrap _))) = _; rw [wi64 (by omega) (by omega)]; rfl)) ?_)); (case leM => repeat (first | exact trivial | refine And.intro ⟨_, rfl, Blk.le_refl _⟩ ?_)))
  clear hSL
  refine s_loopW (α := Nat) [19, 17] [] (fun k => k ≤ SL.length) (fun k => [(19, none, .v (.int .i64 k)), (17, none, .v (.int .i64 (cntS SL (bytS s.nm E1) (bytS s.nm E2) k)))]) (fun _ => []) (fun k => SL.length - k) 0 (Nat.zero_le _) ?_ ?_
  · (refine Le.of ?leT ?leM (by first | exact dfs_nil rfl rfl | exact rfl); (case leT => repeat (first | exact trivial | refine And.intro (by first | exact rfl | (show some (none, AV.v (.int .i64 (IntKind.i64.wrap _))) = _; rw [wi64 (by omega) (by omega)]; rfl)) ?_)); (case leM => repeat (first | exact trivial | refine And.intro ⟨_, rfl, Blk.le_refl _⟩ ?_)))
  · intro k hk
    have hcl := cntS_le SL (bytS s.nm E1) (bytS s.nm E2) k
    repeat (first | refine s_seq ?_ | refine s_region ?_ | refine o_nil ?_ | refine d_nil ?_ | refine oA rfl rfl trivial ?_ | refine oB rfl rfl rfl (fun _ _ => ?_) | refine oC rfl rfl rfl trivial ?_ | refine dA rfl rfl trivial ?_ | refine dB rfl rfl rfl (fun _ _ => ?_) | refine dC rfl rfl rfl trivial ?_ | refine s_skip ?_ | refine s_block ?_ | refine s_exit ?_ | refine s_label ?_)
    refine s_cond (b := decide ((k : Int) < (SL.length : Int))) rfl (fun hb2 => ?_) (fun hb2 => ?_)
    · have hk8 : k < SL.length := by have := of_decide_eq_true hb2; omega
      have hsc := cntS_succ (P := bytS s.nm E1) (Q := bytS s.nm E2) hk8
      repeat (first | refine s_seq ?_ | refine s_region ?_ | refine o_nil ?_ | refine d_nil ?_ | refine oA rfl rfl trivial ?_ | refine oB rfl rfl rfl (fun _ _ => ?_) | refine oC rfl rfl rfl trivial ?_ | refine dA rfl rfl trivial ?_ | refine dB rfl rfl rfl (fun _ _ => ?_) | refine dC rfl rfl rfl trivial ?_ | refine s_skip ?_ | refine s_block ?_ | refine s_exit ?_ | refine s_label ?_)
      refine s_draw rD3_24 rM3_24 rX3_24 rN3_24 rfl rfl ?_
      repeat (first | refine s_seq ?_ | refine s_region ?_ | refine o_nil ?_ | refine d_nil ?_ | refine oA rfl rfl trivial ?_ | refine oB rfl rfl rfl (fun _ _ => ?_) | refine oC rfl rfl rfl trivial ?_ | refine dA rfl rfl trivial ?_ | refine dB rfl rfl rfl (fun _ _ => ?_) | refine dC rfl rfl rfl trivial ?_ | refine s_skip ?_ | refine s_block ?_ | refine s_exit ?_ | refine s_label ?_)
      refine s_cond (b := eitherS (bytS s.nm E1) (bytS s.nm E2) (strOf (SL.getD k ⟨#[]⟩).size (strAt (SL.getD k ⟨#[]⟩)))) rfl (fun h9 => ?_) (fun h9 => ?_)
      · rw [strOf_at] at h9
        rw [if_pos h9] at hsc
        repeat (first | refine s_seq ?_ | refine s_region ?_ | refine o_nil ?_ | refine d_nil ?_ | refine oA rfl rfl trivial ?_ | refine oB rfl rfl rfl (fun _ _ => ?_) | refine oC rfl rfl rfl trivial ?_ | refine dA rfl rfl trivial ?_ | refine dB rfl rfl rfl (fun _ _ => ?_) | refine dC rfl rfl rfl trivial ?_ | refine s_skip ?_ | refine s_block ?_ | refine s_exit ?_ | refine s_label ?_)
        refine ⟨k + 1, hk8, by omega, ?_⟩
        refine Le.of ⟨?t1, ?t2, rfl, rfl, rfl, trivial⟩ ?leM (by first | exact dfs_nil rfl rfl | exact rfl)
        case t1 => show some (none, AV.v (.int .i64 (IntKind.i64.wrap _))) = _; rw [wi64 (by omega) (by omega)]; rfl
        case t2 => show some (none, AV.v (.int .i64 (IntKind.i64.wrap ((cntS SL (bytS s.nm E1) (bytS s.nm E2) k : Nat) + 1)))) = some (none, AV.v (.int .i64 ((cntS SL (bytS s.nm E1) (bytS s.nm E2) (k + 1) : Nat)))); rw [wi64 (by omega) (by omega), hsc]; rfl
        case leM => repeat (first | exact trivial | refine And.intro ⟨_, rfl, Blk.le_refl _⟩ ?_)
      · rw [strOf_at] at h9
        rw [if_neg (by rw [h9]; decide)] at hsc
        repeat (first | refine s_seq ?_ | refine s_region ?_ | refine o_nil ?_ | refine d_nil ?_ | refine oA rfl rfl trivial ?_ | refine oB rfl rfl rfl (fun _ _ => ?_) | refine oC rfl rfl rfl trivial ?_ | refine dA rfl rfl trivial ?_ | refine dB rfl rfl rfl (fun _ _ => ?_) | refine dC rfl rfl rfl trivial ?_ | refine s_skip ?_ | refine s_block ?_ | refine s_exit ?_ | refine s_label ?_)
        refine ⟨k + 1, hk8, by omega, ?_⟩
        refine Le.of ⟨?t1, ?t2, rfl, rfl, rfl, trivial⟩ ?leM (by first | exact dfs_nil rfl rfl | exact rfl)
        case t1 => show some (none, AV.v (.int .i64 (IntKind.i64.wrap _))) = _; rw [wi64 (by omega) (by omega)]; rfl
        case t2 => show some (none, AV.v (.int .i64 ((cntS SL (bytS s.nm E1) (bytS s.nm E2) k : Nat)))) = some (none, AV.v (.int .i64 ((cntS SL (bytS s.nm E1) (bytS s.nm E2) (k + 1) : Nat)))); rw [hsc]; rfl
        case leM => repeat (first | exact trivial | refine And.intro ⟨_, rfl, Blk.le_refl _⟩ ?_)
    · have hk8 : k = SL.length := by have := of_decide_eq_false hb2; omega
      subst hk8
      repeat (first | refine s_seq ?_ | refine s_region ?_ | refine o_nil ?_ | refine d_nil ?_ | refine oA rfl rfl trivial ?_ | refine oB rfl rfl rfl (fun _ _ => ?_) | refine oC rfl rfl rfl trivial ?_ | refine dA rfl rfl trivial ?_ | refine dB rfl rfl rfl (fun _ _ => ?_) | refine dC rfl rfl rfl trivial ?_ | refine s_skip ?_ | refine s_block ?_ | refine s_exit ?_ | refine s_label ?_)
      have hfin : cntS SL (bytS s.nm E1) (bytS s.nm E2) SL.length = 2 := by unfold cntS; rw [List.take_length]; exact h2f
      refine s_ret ?_
      refine ⟨_, _, rfl, ⟨trivial, trivial⟩, rfl, ?_⟩
      show Value.bool (((cntS SL (bytS s.nm E1) (bytS s.nm E2) SL.length : Nat) : Int) == 2) = Value.bool true
      rw [hfin]
      rfl
end Go.Proofs.YtofophjfgalhaaaGreatDoor.V
