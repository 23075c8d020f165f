import Derived.Test.YtofophjfgalhaaaGreatDoorMisdeedPicksW16
import Derived.Test.YtofophjfgalhaaaGreatDoorMisdeedPicksW36
set_option linter.unusedVariables false
set_option linter.unusedSimpArgs false
/-! The law MisdeedPicks, walked. -/
namespace Go.Proofs.YtofophjfgalhaaaGreatDoor.V
open Go Go.RowKit

def ctLp : CtL := [(9, aliveC), (32, plenC)]
set_option maxRecDepth 100000 in
theorem ctLp_ok : CtLOk Tryz.prog ctLp := ⟨.fn alive_body alive_read, .fn plen_body plen_read, trivial⟩
def crLp : CrL := [(10, newWC), (11, shC), (12, verC), (28, addPC), (29, pickC), (30, settleC), (31, npoolC)]
set_option maxRecDepth 100000 in
theorem crLp_ok : CrLOk Tryz.prog crLp := ⟨⟨newW_body, newW_turn⟩, ⟨sh_body, sh_turn⟩, ⟨ver_body, ver_turn⟩, ⟨addP_body, addP_turn⟩, ⟨pick_body, pick_turn⟩, ⟨settle_body, settle_turn⟩, ⟨npool_body, npool_turn⟩, trivial⟩
theorem decP_all (pl : List PEv) : (pl.map encP).map decP = pl := by
  rw [List.map_map]
  exact List.map_id'' (fun _ => rfl) pl
theorem range_take {L : List (Vote × Vote)} {m : Nat} (h : m ≤ L.length) : ((List.range m).map fun i => decE (encE (L.getD i default))) = L.take m := by
  apply List.ext_getElem?
  intro i
  rw [List.getElem?_map, List.getElem?_take]
  by_cases hi : i < m
  · rw [List.getElem?_range hi, if_pos hi, List.getElem?_eq_getElem (by omega : i < L.length), Option.map_some, List.getD_eq_getElem?_getD, List.getElem?_eq_getElem (by omega : i < L.length)]; rfl
  · rw [List.getElem?_eq_none (by simp; omega), if_neg hi]; rfl
theorem no_same {V : Vote × Vote → Int} {P2 : List PEv} {L L2 : List (Vote × Vote)} {m i j : Nat} (h1 : PoolOk V P2) (h2 : PickOk V P2 L2) (h3 : ∀ q, q ∈ P2 → ∀ k, k < m → keyN q ≠ keyE (L.getD k default)) (hi : i < L2.length) (hj : j < m) :
    ((L2.getD i default).1.height == (L.getD j default).1.height && (L2.getD i default).1.from_ == (L.getD j default).1.from_) = false := by
  obtain ⟨q, hq, he⟩ := h2.get hi
  obtain ⟨⟨e1, e2⟩, _⟩ := h1.2 q hq
  have h4 := h3 q hq j hj
  rw [← he]
  rw [Bool.eq_false_iff]
  intro h5
  simp only [Bool.and_eq_true, beq_iff_eq] at h5
  exact h4 (by unfold keyN keyE; rw [e1, e2, h5.1, h5.2])
theorem ord_no {x y : Vote × Vote} (h : x.1.height < y.1.height ∨ (x.1.height = y.1.height ∧ x.1.from_ < y.1.from_)) : (decide (x.1.height > y.1.height) || (x.1.height == y.1.height && decide (x.1.from_ ≥ y.1.from_))) = false := by
  rw [Bool.or_eq_false_iff, Bool.and_eq_false_iff]
  refine ⟨decide_eq_false (by omega), ?_⟩
  rcases h with h | h
  · exact .inl (beq_eq_false_iff_ne.2 (by omega))
  · exact .inr (decide_eq_false (by omega))
theorem le_of_eq' {B C : Blk} (h : B = C) : B.le C := by rw [h]; exact Blk.le_refl _
theorem sldR_sub {nm : ByteArray} {aa : List Int} {recs : List (Int × ByteArray)} {x : Vote} {r : Bool} : ∀ q, q ∈ recs → q ∈ sldR nm aa recs x r := by
  intro q hq
  unfold sldR
  split
  · exact hq
  · split
    · unfold addR
      split
      · exact hq
      · exact List.mem_append_left _ hq
    · exact hq
theorem shR_sub {nm : ByteArray} {aa : List Int} {recs : List (Int × ByteArray)} {t : Two} : ∀ q, q ∈ recs → q ∈ shR nm aa recs t := fun q hq => sldR_sub q (sldR_sub q hq)
theorem shR_len (nm : ByteArray) (aa : List Int) (recs : List (Int × ByteArray)) (t : Two) : (shR nm aa recs t).length ≤ recs.length + 2 := by
  unfold shR shR1
  exact Nat.le_trans (sldR_len _ _ _ _ _) (Nat.succ_le_succ (sldR_len _ _ _ _ _))
attribute [local irreducible] verR sealedP pairP shE shR addP stlP goesP
set_option maxRecDepth 100000 in
set_option maxHeartbeats 4000000 in
theorem picks_calls {w : World} (s : StV) (T : Nat → Two) {base basep : Option (Nat × Nat)} {n cap np capp : Nat} {g : Nat → Int} {K : List Int} {base1 base2 base3 : Nat → Option (Nat × Nat)} {len1 len2 len3 : Nat → Nat} {f1 f2 f3 : Nat → Nat → AV} (hn : n ≤ 17592186044415) (hro : (roB base 1 n fun i => .v (.int .u64 (g i))).holds w)
    (hnp : np ≤ 1999999999990) (hrp : (roB basep 109 np fun i => encT (T i)).holds w) (hT : ∀ i, i < np → VR (T i).a ∧ VR (T i).b)
    (h1 : (Blk.vro 3 base1 len1 f1).holds w) (h2 : (Blk.vro 2 base2 len2 f2).holds w) (h3 : (Blk.vro 3 base3 len3 f3).holds w) (hK2 : (Blk.var 2 (.ints .u32 64 K)).holds w) (hK3 : (Blk.var 3 (.ints .u32 8 b0L)).holds w) (hK4 : (Blk.var 4 (.ints .u32 64 K)).holds w)
    (hc1 : CmOk 3 base1 len1 f1 pst1 pstX s.a3 s.n3) (hc2 : CmOk 2 base2 len2 f2 off1 offX s.a4 s.n4) (hmb : ∀ k, k < s.n3 → CmOk 3 base3 len3 f3 mb1 mbX (((List.range s.n3).map fun i => pst1 (f1 (hxA s.a3 s.n3) i)).getD k default).a (((List.range s.n3).map fun i => pst1 (f1 (hxA s.a3 s.n3) i)).getD k default).n) :
    Calls Tryz.prog 8 ([encS s, roS 920 base 1 n cap, roS 930 basep 109 np capp].map AV.val).toArray w fun e w' => e = .returned (AV.v (.bool true)).val ∧ Below w.heap.size w w' := by
  have hmb' : ∀ k, k < ((List.range s.n3).map fun i => pst1 (f1 (hxA s.a3 s.n3) i)).length → CmOk 3 base3 len3 f3 mb1 mbX (((List.range s.n3).map fun i => pst1 (f1 (hxA s.a3 s.n3) i)).getD k default).a (((List.range s.n3).map fun i => pst1 (f1 (hxA s.a3 s.n3) i)).getD k default).n := fun k hk => hmb k (by simpa using hk)
  refine ro_fn tabs2 ctLp_ok crLp_ok Tryz.func8 rfl rfl (M := [(920, roB base 1 n fun i => .v (.int .u64 (g i))), (930, roB basep 109 np fun i => encT (T i)), (90001, .vro 3 base1 len1 f1), (90002, .vro 2 base2 len2 f2), (90003, .vro 3 base3 len3 f3), (100002, .var 2 (.ints .u32 64 K)), (100003, .var 3 (.ints .u32 8 b0L)), (100004, .var 4 (.ints .u32 64 K))]) rfl ⟨roB_noOwn, roB_noOwn, fun _ h => h, fun _ h => h, fun _ h => h, fun _ h => h, fun _ h => h, fun _ h => h, trivial⟩ ⟨hro, hrp, h1, h2, h3, hK2, hK3, hK4, trivial⟩ ?_
  repeat (first | refine s_seq ?_ | refine s_region ?_ | refine o_nil ?_ | refine d_nil ?_ | refine oA rfl rfl trivial ?_ | refine oB rfl rfl rfl (fun _ _ => ?_) | refine oC rfl rfl rfl trivial ?_ | refine dA rfl rfl trivial ?_ | refine dB rfl rfl rfl (fun _ _ => ?_) | refine dC rfl rfl rfl trivial ?_ | refine s_skip ?_ | refine s_block ?_ | refine s_exit ?_ | refine s_label ?_)
  rename_i b3 _
  refine s_cond (b := false) rfl (fun hb => by cases hb) (fun _ => ?_)
  repeat ((fail_if_success (first | refine o_at 10 ?_ | refine d_at 10 ?_)); (first | refine s_seq ?_ | refine s_region ?_ | refine o_nil ?_ | refine d_nil ?_ | refine oA rfl rfl trivial ?_ | refine oB rfl rfl rfl (fun _ _ => ?_) | refine oC rfl rfl rfl trivial ?_ | refine dA rfl rfl trivial ?_ | refine dB rfl rfl rfl (fun _ _ => ?_) | refine dC rfl rfl rfl trivial ?_ | refine s_skip ?_ | refine s_block ?_ | refine s_exit ?_ | refine s_label ?_))
  refine oB5 rfl rfl rfl ⟨⟨0, 0, 0, [], [], fun _ => False, fun _ => False, (none, 0), (none, 0)⟩, rfl, Nat.zero_le _⟩ ⟨by (repeat' apply And.intro) <;> trivial, ⟨rfl, rfl, Nat.le_of_eq (Nat.zero_add _)⟩, fun _ => rfl, hn, fun _ _ => rfl⟩ (fun W hW => ?_)
  obtain ⟨bW, bR, bQ, ents, dents, S1, S2, v1, v2⟩ := W
  obtain ⟨hde, hel0⟩ := hW
  dsimp only at hde hel0 ⊢
  have hel : ents.length ≤ 17592186044416 := by omega
  repeat ((fail_if_success (first | refine o_at 31 ?_ | refine d_at 31 ?_)); (first | refine s_seq ?_ | refine s_region ?_ | refine o_nil ?_ | refine d_nil ?_ | refine oA rfl rfl trivial ?_ | refine oB rfl rfl rfl (fun _ _ => ?_) | refine oC rfl rfl rfl trivial ?_ | refine dA rfl rfl trivial ?_ | refine dB rfl rfl rfl (fun _ _ => ?_) | refine dC rfl rfl rfl trivial ?_ | refine s_skip ?_ | refine s_block ?_ | refine s_exit ?_ | refine s_label ?_))
  refine oB2 rfl rfl rfl ⟨(0, 0), trivial⟩ ⟨trivial, trivial⟩ (fun P _ => ?_)
  obtain ⟨bp, bm⟩ := P
  dsimp only
  repeat (first | refine s_seq ?_ | refine s_region ?_ | refine o_nil ?_ | refine d_nil ?_ | refine oA rfl rfl trivial ?_ | refine oB rfl rfl rfl (fun _ _ => ?_) | refine oC rfl rfl rfl trivial ?_ | refine dA rfl rfl trivial ?_ | refine dB rfl rfl rfl (fun _ _ => ?_) | refine dC rfl rfl rfl trivial ?_ | refine s_skip ?_ | refine s_block ?_ | refine s_exit ?_ | refine s_label ?_)
  refine s_cond (b := false) rfl (fun hb => by cases hb) (fun _ => ?_)
  repeat (first | refine s_seq ?_ | refine s_region ?_ | refine o_nil ?_ | refine d_nil ?_ | refine oA rfl rfl trivial ?_ | refine oB rfl rfl rfl (fun _ _ => ?_) | refine oC rfl rfl rfl trivial ?_ | refine dA rfl rfl trivial ?_ | refine dB rfl rfl rfl (fun _ _ => ?_) | refine dC rfl rfl rfl trivial ?_ | refine s_skip ?_ | refine s_block ?_ | refine s_exit ?_ | refine s_label ?_)
  obtain ⟨V, hV⟩ : ∃ V : List (Int × ByteArray) → Vote × Vote → Int, V = fun R x => verE K b0L s ((List.range s.n3).map fun i => pst1 (f1 (hxA s.a3 s.n3) i)) (fun k => ((List.range (((List.range s.n3).map fun i => pst1 (f1 (hxA s.a3 s.n3) i)).getD k default).n).map fun i => mb1 (f3 (hxA (((List.range s.n3).map fun i => pst1 (f1 (hxA s.a3 s.n3) i)).getD k default).a (((List.range s.n3).map fun i => pst1 (f1 (hxA s.a3 s.n3) i)).getD k default).n) i)).map (·.1)) ((List.range s.n4).map fun i => off1 (f2 (hxA s.a4 s.n4) i)) R x := ⟨_, rfl⟩
  refine s_le (tm' := [(11, none, .v (.int .i64 0)), (10, none, .v (.int .i64 0)), (9, none, .ptr ⟨32, 0, bp, 0, 1, 0, 0, 0, false⟩), (8, none, .ptr ⟨29, 0, bW, 0, 4, 0, 0, 0, false⟩), (3, none, .ptr ⟨3, 0, b3, 0, row37.size, 0, 0, 0, false⟩), (2, none, roS 930 basep 109 np capp)]) (M' := [(32, .row bp 121 1 1 (fun _ => .agg (.cons (.mp 1032 bm) .nil)) 1), (1032, .mp true bm [] 0), (29, .row bW 62 4 1 (fun _ => wldT 200029 300029 400029 500029 bR bQ ents.length v1 v2) 1), (200029, regB bR ents [] S1), (300029, docB bQ dents [] S2), (400029, .vrow v1.1 114 1 ents.length (sgE 200029 ents) v1.2), (500029, .vrow v2.1 147 1 ents.length (sgE 300029 dents) v2.2), (3, .row b3 37 row37.size 1 (fun _ => encS s) 1), (930, roB basep 109 np fun i => encT (T i)), (90001, .vro 3 base1 len1 f1), (90002, .vro 2 base2 len2 f2), (90003, .vro 3 base3 len3 f3), (100002, .var 2 (.ints .u32 64 K)), (100003, .var 3 (.ints .u32 8 b0L)), (100004, .var 4 (.ints .u32 64 K))]) ?_ ?_
  · (refine Le.of ?leT ?leM (by first | exact dfs_nil rfl rfl | exact rfl); (case leT => repeat (first | exact trivial | refine And.intro (by first | exact rfl | (show some (none, AV.v (.int .i64 (IntKind.i64.wrap _))) = _; rw [wi64 (by omega) (by omega)]; rfl)) ?_)); (case leM => repeat (first | exact trivial | refine And.intro ⟨_, rfl, Blk.le_refl _⟩ ?_)))
  refine s_loopW (α := Nat × List (Int × ByteArray) × (List PEv × Nat) × (Nat → Prop) × (Nat → Prop)) [10, 11, 12, 13, 14, 39, 40, 41, 42, 43, 44, 45, 46, 47, 48, 49, 50, 51, 52, 53, 54, 55, 56, 57, 58, 59, 60, 61, 62, 63, 64, 65, 66, 67, 68, 69] [12, 1032, 200029, 300029] (fun z => z.1 ≤ np ∧ z.2.1.length ≤ 2 * z.1 ∧ PoolOk (V z.2.1) z.2.2.1.1 ∧ z.2.2.1.1.length ≤ 65536) (fun z => [(11, none, .v (.int .i64 z.1)), (10, none, .v (.int .i64 z.2.2.1.1.length))]) (fun z => [(1032, .mp true bm (z.2.2.1.1.map encP) z.2.2.1.2), (200029, regB bR ents z.2.1 z.2.2.2.1), (300029, docB bQ dents z.2.1 z.2.2.2.2)]) (fun z => np - z.1) (0, [], ([], 0), S1, S2) ⟨Nat.zero_le _, Nat.zero_le _, PoolOk.nil _, Nat.zero_le _⟩ ?_ ?_
  · (refine Le.of ?leT ?leM (by first | exact dfs_nil rfl rfl | exact rfl); (case leT => repeat (first | exact trivial | refine And.intro (by first | exact rfl | (show some (none, AV.v (.int .i64 (IntKind.i64.wrap _))) = _; rw [wi64 (by omega) (by omega)]; rfl)) ?_)); (case leM => repeat (first | exact trivial | refine And.intro ⟨_, rfl, Blk.le_refl _⟩ ?_)))
  · intro ⟨k, R, ⟨pl, clk⟩, S3, S4⟩ ⟨hk, hRl, hpo, hpl⟩
    dsimp only at hk hRl hpo hpl
    repeat (first | refine s_seq ?_ | refine s_region ?_ | refine o_nil ?_ | refine d_nil ?_ | refine oA rfl rfl trivial ?_ | refine oB rfl rfl rfl (fun _ _ => ?_) | refine oC rfl rfl rfl trivial ?_ | refine dA rfl rfl trivial ?_ | refine dB rfl rfl rfl (fun _ _ => ?_) | refine dC rfl rfl rfl trivial ?_ | refine s_skip ?_ | refine s_block ?_ | refine s_exit ?_ | refine s_label ?_)
    refine s_cond (b := decide ((k : Int) < (np : Int))) rfl (fun hb2 => ?_) (fun hb2 => ?_)
    · have hk8 : k < np := by have := of_decide_eq_true hb2; omega
      obtain ⟨hva, hvb⟩ := hT k hk8
      repeat (first | refine s_seq ?_ | refine s_region ?_ | refine o_nil ?_ | refine d_nil ?_ | refine oA rfl rfl trivial ?_ | refine oB rfl rfl rfl (fun _ _ => ?_) | refine oC rfl rfl rfl trivial ?_ | refine dA rfl rfl trivial ?_ | refine dB rfl rfl rfl (fun _ _ => ?_) | refine dC rfl rfl rfl trivial ?_ | refine s_skip ?_ | refine s_block ?_ | refine s_exit ?_ | refine s_label ?_)
      refine s_draw rD8_12 rM8_12 [(12, [12]), (200029, [7]), (300029, [7])] rN8_12 rfl rfl ?_
      repeat ((fail_if_success (first | refine o_at 11 ?_ | refine d_at 11 ?_)); (first | refine s_seq ?_ | refine s_region ?_ | refine o_nil ?_ | refine d_nil ?_ | refine oA rfl rfl trivial ?_ | refine oB rfl rfl rfl (fun _ _ => ?_) | refine oC rfl rfl rfl trivial ?_ | refine dA rfl rfl trivial ?_ | refine dB rfl rfl rfl (fun _ _ => ?_) | refine dC rfl rfl rfl trivial ?_ | refine s_skip ?_ | refine s_block ?_ | refine s_exit ?_ | refine s_label ?_))
      refine dB2 rfl rfl rfl ⟨(fun _ => False, fun _ => False), trivial⟩ ?hsh (fun z1 _ => ?_)
      case hsh => exact ⟨by (repeat' apply And.intro) <;> trivial, ⟨⟨⟨⟨rfl, rfl, rfl, Nat.zero_lt_one⟩, rfl⟩, ⟨rfl, rfl, rfl, rfl, rfl, rfl, rfl⟩, ⟨rfl, rfl, rfl, rfl, rfl, rfl, rfl⟩, ⟨rfl, rfl, Nat.le_of_eq (Nat.zero_add _)⟩, ⟨rfl, rfl, Nat.le_of_eq (Nat.zero_add _)⟩⟩, ⟨fun _ => rfl, fun _ => rfl, rfl, rfl⟩, ⟨hde, rfl, hel⟩, ⟨fun _ _ => rfl, fun _ _ => rfl⟩, (show (29 : Nat) ≠ 200029 by decide), (show (29 : Nat) ≠ 300029 by decide), (show (200029 : Nat) ≠ 300029 by decide), rfl, rfl, rfl, rfl⟩, ⟨hva, hvb⟩, (show R.length ≤ 3999999999980 by omega), rfl, rfl⟩
      repeat (first | refine s_seq ?_ | refine s_region ?_ | refine o_nil ?_ | refine d_nil ?_ | refine oA rfl rfl trivial ?_ | refine oB rfl rfl rfl (fun _ _ => ?_) | refine oC rfl rfl rfl trivial ?_ | refine dA rfl rfl trivial ?_ | refine dB rfl rfl rfl (fun _ _ => ?_) | refine dC rfl rfl rfl trivial ?_ | refine s_skip ?_ | refine s_block ?_ | refine s_exit ?_ | refine s_label ?_)
      rename_i b12 _
      obtain ⟨E, hE⟩ : ∃ E, E = shE K s.nm (ents.map (·.1)) (T k) := ⟨_, rfl⟩
      obtain ⟨R2, hR2⟩ : ∃ R2, R2 = shR s.nm (ents.map (·.1)) R (T k) := ⟨_, rfl⟩
      refine s_cond (b := false) rfl (fun hb => by cases hb) (fun _ => ?_)
      refine s_le (le_blk (k := 200029) rfl rfl (le_regR (recs2 := R2) hR2)) ?_
      refine s_le (le_blk (k := 300029) rfl rfl (le_docR (recs2 := R2) hR2)) ?_
      refine s_le (le_blk (k := 12) rfl rfl (Blk.le_rowc (f' := fun _ => encE E) (Nat.le_refl _) fun _ _ => ⟨by rw [hE]; rfl, rfl⟩)) ?_
      have hvE : VR E.1 ∧ VR E.2 := by rw [hE]; exact sh_VR hva hvb
      have hR2l : R2.length ≤ 2 * (k + 1) := by rw [hR2]; exact Nat.le_trans (shR_len _ _ _ _) (by omega)
      have hpo2 : PoolOk (V R2) pl := hpo.mono fun x hx => by
        rw [hV] at hx ⊢
        exact verE_mono (by rw [hR2]; exact shR_sub) hx
      obtain ⟨A, hA⟩ : ∃ A, A = addP (V R2 E) E ((pl.map encP).map decP) clk := ⟨_, rfl⟩
      have hA2 := hA
      rw [decP_all] at hA2
      have hadd := hpo2.add hvE clk
      have hlen := addP_le (V := V R2 E) (x := E) (clk := clk) hpl
      rw [← hA2] at hadd hlen
      clear hA2
      repeat (first | refine s_seq ?_ | refine s_region ?_ | refine o_nil ?_ | refine d_nil ?_ | refine oA rfl rfl trivial ?_ | refine oB rfl rfl rfl (fun _ _ => ?_) | refine oC rfl rfl rfl trivial ?_ | refine dA rfl rfl trivial ?_ | refine dB rfl rfl rfl (fun _ _ => ?_) | refine dC rfl rfl rfl trivial ?_ | refine s_skip ?_ | refine s_block ?_ | refine s_exit ?_ | refine s_label ?_)
      refine s_draw rD8_15 rM8_15 [(1032, [7]), (200029, [7])] rN8_15 rfl rfl ?_
      repeat ((fail_if_success (first | refine o_at 28 ?_ | refine d_at 28 ?_)); (first | refine s_seq ?_ | refine s_region ?_ | refine o_nil ?_ | refine d_nil ?_ | refine oA rfl rfl trivial ?_ | refine oB rfl rfl rfl (fun _ _ => ?_) | refine oC rfl rfl rfl trivial ?_ | refine dA rfl rfl trivial ?_ | refine dB rfl rfl rfl (fun _ _ => ?_) | refine dC rfl rfl rfl trivial ?_ | refine s_skip ?_ | refine s_block ?_ | refine s_exit ?_ | refine s_label ?_))
      refine dB2 rfl rfl rfl ⟨fun _ => False, trivial⟩ ?had (fun z2 _ => ?_)
      case had => exact ⟨by (repeat' apply And.intro) <;> trivial, ⟨⟨⟨⟨rfl, rfl, rfl, Nat.zero_lt_one⟩, rfl⟩, rfl, congrArg (List.map encP) (decP_all pl).symm⟩, (show (32 : Nat) ≠ 1032 by decide), (show (32 : Nat) ≠ 200029 by decide), (show (1032 : Nat) ≠ 200029 by decide)⟩, ⟨rfl, rfl, rfl, rfl, rfl, rfl, rfl⟩, ⟨hc1, hc2, hmb'⟩, hvE.1, hvE.2⟩
      repeat (first | refine s_seq ?_ | refine s_region ?_ | refine o_nil ?_ | refine d_nil ?_ | refine oA rfl rfl trivial ?_ | refine oB rfl rfl rfl (fun _ _ => ?_) | refine oC rfl rfl rfl trivial ?_ | refine dA rfl rfl trivial ?_ | refine dB rfl rfl rfl (fun _ _ => ?_) | refine dC rfl rfl rfl trivial ?_ | refine s_skip ?_ | refine s_block ?_ | refine s_exit ?_ | refine s_label ?_)
      refine s_le (le_val (t := 67) (av' := .v (.bool (A.1 == 0))) rfl (by rw [hA, hV]; rfl)) ?_
      refine s_le (le_blk (k := 1032) (B' := .mp true bm (A.2.1.map encP) A.2.2) rfl rfl (le_of_eq' (by rw [hA, hV]; rfl))) ?_
      clear hA hE hR2
      refine s_cond (b := (A.1 == 0)) rfl (fun h9 => ?_) (fun h9 => ?_)
      · rw [if_pos h9] at hadd
        repeat (first | refine s_seq ?_ | refine s_region ?_ | refine o_nil ?_ | refine d_nil ?_ | refine oA rfl rfl trivial ?_ | refine oB rfl rfl rfl (fun _ _ => ?_) | refine oC rfl rfl rfl trivial ?_ | refine dA rfl rfl trivial ?_ | refine dB rfl rfl rfl (fun _ _ => ?_) | refine dC rfl rfl rfl trivial ?_ | refine s_skip ?_ | refine s_block ?_ | refine s_exit ?_ | refine s_label ?_)
        refine ⟨(k + 1, R2, (A.2.1, A.2.2), z2, z1.2), ⟨by dsimp only; omega, hR2l, hadd.1, hlen⟩, by dsimp only; omega, ?_⟩
        dsimp only
        rw [hadd.2]
        (refine Le.of ?leT ?leM (by first | exact dfs_nil rfl rfl | exact rfl); (case leT => repeat (first | exact trivial | refine And.intro (by first | exact rfl | (show some (none, AV.v (.int .i64 (IntKind.i64.wrap _))) = _; rw [wi64 (by omega) (by omega)]; rfl)) ?_)); (case leM => repeat (first | exact trivial | refine And.intro ⟨_, rfl, Blk.le_refl _⟩ ?_)))
      · rw [if_neg (by rw [h9]; decide)] at hadd
        repeat (first | refine s_seq ?_ | refine s_region ?_ | refine o_nil ?_ | refine d_nil ?_ | refine oA rfl rfl trivial ?_ | refine oB rfl rfl rfl (fun _ _ => ?_) | refine oC rfl rfl rfl trivial ?_ | refine dA rfl rfl trivial ?_ | refine dB rfl rfl rfl (fun _ _ => ?_) | refine dC rfl rfl rfl trivial ?_ | refine s_skip ?_ | refine s_block ?_ | refine s_exit ?_ | refine s_label ?_)
        refine ⟨(k + 1, R2, (A.2.1, A.2.2), z2, z1.2), ⟨by dsimp only; omega, hR2l, hadd.1, hlen⟩, by dsimp only; omega, ?_⟩
        dsimp only
        rw [hadd.2]
        (refine Le.of ?leT ?leM (by first | exact dfs_nil rfl rfl | exact rfl); (case leT => repeat (first | exact trivial | refine And.intro (by first | exact rfl | (show some (none, AV.v (.int .i64 (IntKind.i64.wrap _))) = _; rw [wi64 (by omega) (by omega)]; rfl)) ?_)); (case leM => repeat (first | exact trivial | refine And.intro ⟨_, rfl, Blk.le_refl _⟩ ?_)))
    · have hk8 : k = np := by have := of_decide_eq_false hb2; omega
      subst hk8
      have hvr : ∀ x, x ∈ (pl.map encP).map decP → VR x.e.1 ∧ VR x.e.2 := by rw [decP_all]; exact fun x hx => (hpo.2 x hx).2.1
      have hpl' : ((pl.map encP).map decP).length ≤ 65536 := by rw [decP_all]; exact hpl
      repeat (first | refine s_seq ?_ | refine s_region ?_ | refine o_nil ?_ | refine d_nil ?_ | refine oA rfl rfl trivial ?_ | refine oB rfl rfl rfl (fun _ _ => ?_) | refine oC rfl rfl rfl trivial ?_ | refine dA rfl rfl trivial ?_ | refine dB rfl rfl rfl (fun _ _ => ?_) | refine dC rfl rfl rfl trivial ?_ | refine s_skip ?_ | refine s_block ?_ | refine s_exit ?_ | refine s_label ?_)
      refine s_draw rD8_18 rM8_18 [(200029, [6])] rN8_18 rfl rfl ?_
      repeat ((fail_if_success (first | refine o_at 29 ?_ | refine d_at 29 ?_)); (first | refine s_seq ?_ | refine s_region ?_ | refine o_nil ?_ | refine d_nil ?_ | refine oA rfl rfl trivial ?_ | refine oB rfl rfl rfl (fun _ _ => ?_) | refine oC rfl rfl rfl trivial ?_ | refine dA rfl rfl trivial ?_ | refine dB rfl rfl rfl (fun _ _ => ?_) | refine dC rfl rfl rfl trivial ?_ | refine s_skip ?_ | refine s_block ?_ | refine s_exit ?_ | refine s_label ?_))
      refine dB2 rfl rfl rfl ⟨(fun _ => False, (sortedE_some _).choose, none, 0), (sortedE_some _).choose_spec⟩ ?hpk (fun z hz => ?_)
      case hpk => exact ⟨by (repeat' apply And.intro) <;> trivial, ⟨⟨⟨⟨rfl, rfl, rfl, Nat.zero_lt_one⟩, rfl⟩, rfl, congrArg (List.map encP) (decP_all pl).symm⟩, (show (32 : Nat) ≠ 200029 by decide), (show (1032 : Nat) ≠ 200029 by decide)⟩, ⟨rfl, rfl, rfl, rfl, rfl, rfl, rfl⟩, ⟨hc1, hc2, hmb'⟩, hvr, hpl'⟩
      obtain ⟨S5, L, va, vc⟩ := z
      have hz : SortedE (letE (V R) ((pl.map encP).map decP)) L := by rw [hV]; exact hz
      rw [decP_all] at hz
      have hpi := hpo.pick hz
      clear hz hvr hpl'
      repeat ((fail_if_success (first | refine o_at 32 ?_ | refine d_at 32 ?_)); (first | refine s_seq ?_ | refine s_region ?_ | refine o_nil ?_ | refine d_nil ?_ | refine oA rfl rfl trivial ?_ | refine oB rfl rfl rfl (fun _ _ => ?_) | refine oC rfl rfl rfl trivial ?_ | refine dA rfl rfl trivial ?_ | refine dB rfl rfl rfl (fun _ _ => ?_) | refine dC rfl rfl rfl trivial ?_ | refine s_skip ?_ | refine s_block ?_ | refine s_exit ?_ | refine s_label ?_))
      obtain ⟨m, hm⟩ : ∃ m, m = Nat.min L.length 16 := ⟨_, rfl⟩
      have hmL : m ≤ L.length := by rw [hm]; exact Nat.min_le_left _ _
      have hm16 : m ≤ 16 := by rw [hm]; exact Nat.min_le_right _ _
      refine o_le (tm' := [(77, none, .ptr ⟨32, 0, bp, 0, 1, 0, 0, 0, false⟩), (15, none, .gs 76 0 (ownB va) 106 0 m m), (10, none, .v (.int .i64 pl.length)), (9, none, .ptr ⟨32, 0, bp, 0, 1, 0, 0, 0, false⟩), (8, none, .ptr ⟨29, 0, bW, 0, 4, 0, 0, 0, false⟩), (3, none, .ptr ⟨3, 0, b3, 0, row37.size, 0, 0, 0, false⟩)]) (M' := [(76, .vrow va 52 106 L.length (fun i => encE (L.getD i default)) vc), (32, .row bp 121 1 1 (fun _ => .agg (.cons (.mp 1032 bm) .nil)) 1), (1032, .mp true bm (pl.map encP) clk), (29, .row bW 62 4 1 (fun _ => wldT 200029 300029 400029 500029 bR bQ ents.length v1 v2) 1), (200029, regB bR ents R S5), (400029, .vrow v1.1 114 1 ents.length (sgE 200029 ents) v1.2), (500029, .vrow v2.1 147 1 ents.length (sgE 300029 dents) v2.2), (3, .row b3 37 row37.size 1 (fun _ => encS s) 1), (90001, .vro 3 base1 len1 f1), (90002, .vro 2 base2 len2 f2), (90003, .vro 3 base3 len3 f3), (100002, .var 2 (.ints .u32 64 K)), (100003, .var 3 (.ints .u32 8 b0L)), (100004, .var 4 (.ints .u32 64 K))]) ?_ ?_
      · rw [hm]
        (refine Le.of ?leT ?leM (by first | exact dfs_nil rfl rfl | exact rfl); (case leT => repeat (first | exact trivial | refine And.intro (by first | exact rfl | (show some (none, AV.v (.int .i64 (IntKind.i64.wrap _))) = _; rw [wi64 (by omega) (by omega)]; rfl)) ?_)); (case leM => repeat (first | exact trivial | refine And.intro ⟨_, rfl, Blk.le_refl _⟩ ?_)))
      refine o_val rfl rfl trivial ⟨by (repeat' apply And.intro) <;> trivial, ⟨⟨⟨rfl, rfl, rfl, Nat.zero_lt_one⟩, rfl⟩, rfl⟩⟩ ?_
      refine o_le (le_val (t := 78) (av' := .v (.int .i64 pl.length)) rfl (by show Value.int .i64 _ = Value.int .i64 _; rw [List.length_map])) ?_
      repeat (first | refine s_seq ?_ | refine s_region ?_ | refine o_nil ?_ | refine d_nil ?_ | refine oA rfl rfl trivial ?_ | refine oB rfl rfl rfl (fun _ _ => ?_) | refine oC rfl rfl rfl trivial ?_ | refine dA rfl rfl trivial ?_ | refine dB rfl rfl rfl (fun _ _ => ?_) | refine dC rfl rfl rfl trivial ?_ | refine s_skip ?_ | refine s_block ?_ | refine s_exit ?_ | refine s_label ?_)
      have hgd : (!((pl.length : Int) != (pl.length : Int))) = true := by simp
      refine o_minG rfl rfl rfl rfl hgd rfl hgd rfl trivial ?_
      repeat (first | refine s_seq ?_ | refine s_region ?_ | refine o_nil ?_ | refine d_nil ?_ | refine oA rfl rfl trivial ?_ | refine oB rfl rfl rfl (fun _ _ => ?_) | refine oC rfl rfl rfl trivial ?_ | refine dA rfl rfl trivial ?_ | refine dB rfl rfl rfl (fun _ _ => ?_) | refine dC rfl rfl rfl trivial ?_ | refine s_skip ?_ | refine s_block ?_ | refine s_exit ?_ | refine s_label ?_)
      have hmin : (m : Int) = if (16 : Int) < (pl.length : Int) then (16 : Int) else (pl.length : Int) := by
        have : m = min L.length 16 := hm
        rw [this, hpi.len]
        split <;> omega
      refine s_cond rfl (fun hb => ?_) (fun _ => ?_)
      · exfalso
        have hb2 : (((pl.length : Int) != (pl.length : Int)) || ((m : Int) != if (16 : Int) < (pl.length : Int) then (16 : Int) else (pl.length : Int))) = true := hb
        rw [← hmin] at hb2
        simp at hb2
      clear hmin hgd
      repeat (first | refine s_seq ?_ | refine s_region ?_ | refine o_nil ?_ | refine d_nil ?_ | refine oA rfl rfl trivial ?_ | refine oB rfl rfl rfl (fun _ _ => ?_) | refine oC rfl rfl rfl trivial ?_ | refine dA rfl rfl trivial ?_ | refine dB rfl rfl rfl (fun _ _ => ?_) | refine dC rfl rfl rfl trivial ?_ | refine s_skip ?_ | refine s_block ?_ | refine s_exit ?_ | refine s_label ?_)
      refine s_le (tm' := [(16, none, .v (.int .i64 0)), (15, none, .gs 76 0 (ownB va) 106 0 m m), (10, none, .v (.int .i64 pl.length)), (9, none, .ptr ⟨32, 0, bp, 0, 1, 0, 0, 0, false⟩), (8, none, .ptr ⟨29, 0, bW, 0, 4, 0, 0, 0, false⟩), (3, none, .ptr ⟨3, 0, b3, 0, row37.size, 0, 0, 0, false⟩)]) (M' := [(76, .vrow va 52 106 L.length (fun i => encE (L.getD i default)) vc), (32, .row bp 121 1 1 (fun _ => .agg (.cons (.mp 1032 bm) .nil)) 1), (1032, .mp true bm (pl.map encP) clk), (29, .row bW 62 4 1 (fun _ => wldT 200029 300029 400029 500029 bR bQ ents.length v1 v2) 1), (200029, regB bR ents R S5), (400029, .vrow v1.1 114 1 ents.length (sgE 200029 ents) v1.2), (500029, .vrow v2.1 147 1 ents.length (sgE 300029 dents) v2.2), (3, .row b3 37 row37.size 1 (fun _ => encS s) 1), (90001, .vro 3 base1 len1 f1), (90002, .vro 2 base2 len2 f2), (90003, .vro 3 base3 len3 f3), (100002, .var 2 (.ints .u32 64 K)), (100003, .var 3 (.ints .u32 8 b0L)), (100004, .var 4 (.ints .u32 64 K))]) ?_ ?_
      · (refine Le.of ?leT ?leM (by first | exact dfs_nil rfl rfl | exact rfl); (case leT => repeat (first | exact trivial | refine And.intro (by first | exact rfl | (show some (none, AV.v (.int .i64 (IntKind.i64.wrap _))) = _; rw [wi64 (by omega) (by omega)]; rfl)) ?_)); (case leM => repeat (first | exact trivial | refine And.intro ⟨_, rfl, Blk.le_refl _⟩ ?_)))
      refine s_loopW (α := Nat × (Nat → Prop)) [16, 17, 18, 19, 20, 88, 89, 90, 91, 92, 93, 94, 95, 96, 97, 98, 99, 100, 101, 102, 103, 104, 105, 106, 107, 108, 109, 110, 111, 112, 113, 114, 115, 116, 117, 118, 119, 120, 121, 122, 123, 124, 125, 126, 127, 128, 129, 130, 131, 132, 133, 134, 135, 136, 137, 138, 139, 140, 141, 142, 143, 144, 145, 146, 147, 148, 149, 150, 151, 152] [19, 20, 1032, 200029] (fun z => z.1 ≤ m) (fun z => [(16, none, .v (.int .i64 z.1))]) (fun z => [(1032, .mp true bm (pl.map encP) clk), (200029, regB bR ents R z.2)]) (fun z => m - z.1) (0, S5) (Nat.zero_le _) ?_ ?_
      · (refine Le.of ?leT ?leM (by first | exact dfs_nil rfl rfl | exact rfl); (case leT => repeat (first | exact trivial | refine And.intro (by first | exact rfl | (show some (none, AV.v (.int .i64 (IntKind.i64.wrap _))) = _; rw [wi64 (by omega) (by omega)]; rfl)) ?_)); (case leM => repeat (first | exact trivial | refine And.intro ⟨_, rfl, Blk.le_refl _⟩ ?_)))
      · intro ⟨k, S6⟩ hk
        dsimp only at hk
        repeat (first | refine s_seq ?_ | refine s_region ?_ | refine o_nil ?_ | refine d_nil ?_ | refine oA rfl rfl trivial ?_ | refine oB rfl rfl rfl (fun _ _ => ?_) | refine oC rfl rfl rfl trivial ?_ | refine dA rfl rfl trivial ?_ | refine dB rfl rfl rfl (fun _ _ => ?_) | refine dC rfl rfl rfl trivial ?_ | refine s_skip ?_ | refine s_block ?_ | refine s_exit ?_ | refine s_label ?_)
        refine s_cond (b := decide ((k : Int) < (m : Int))) rfl (fun hb2 => ?_) (fun hb2 => ?_)
        · have hk8 : k < m := by have := of_decide_eq_true hb2; omega
          have hkL : k < L.length := by omega
          obtain ⟨hl0, hlA, hlB⟩ := hpi.let_ hpo hkL
          have hkn := hpi.known hpo hkL clk
          repeat (first | refine s_seq ?_ | refine s_region ?_ | refine o_nil ?_ | refine d_nil ?_ | refine oA rfl rfl trivial ?_ | refine oB rfl rfl rfl (fun _ _ => ?_) | refine oC rfl rfl rfl trivial ?_ | refine dA rfl rfl trivial ?_ | refine dB rfl rfl rfl (fun _ _ => ?_) | refine dC rfl rfl rfl trivial ?_ | refine s_skip ?_ | refine s_block ?_ | refine s_exit ?_ | refine s_label ?_)
          refine s_draw rD8_24 rM8_24 [(200029, [9])] rN8_24 rfl rfl ?_
          repeat ((fail_if_success (first | refine o_at 12 ?_ | refine d_at 12 ?_)); (first | refine s_seq ?_ | refine s_region ?_ | refine o_nil ?_ | refine d_nil ?_ | refine oA rfl rfl trivial ?_ | refine oB rfl rfl rfl (fun _ _ => ?_) | refine oC rfl rfl rfl trivial ?_ | refine dA rfl rfl trivial ?_ | refine dB rfl rfl rfl (fun _ _ => ?_) | refine dC rfl rfl rfl trivial ?_ | refine s_skip ?_ | refine s_block ?_ | refine s_exit ?_ | refine s_label ?_))
          refine dB rfl rfl rfl (fun z2 _ => ?_) ⟨fun _ => False, trivial⟩ ⟨by (repeat' apply And.intro) <;> trivial, ⟨rfl, rfl, rfl, rfl, rfl, rfl, rfl⟩, ⟨hc1, hc2, hmb'⟩, hlA, hlB⟩
          repeat (first | refine s_seq ?_ | refine s_region ?_ | refine o_nil ?_ | refine d_nil ?_ | refine oA rfl rfl trivial ?_ | refine oB rfl rfl rfl (fun _ _ => ?_) | refine oC rfl rfl rfl trivial ?_ | refine dA rfl rfl trivial ?_ | refine dB rfl rfl rfl (fun _ _ => ?_) | refine dC rfl rfl rfl trivial ?_ | refine s_skip ?_ | refine s_block ?_ | refine s_exit ?_ | refine s_label ?_)
          have hl1 : V R (L.getD k default) = 0 := hl0
          refine s_le (le_val (t := 17) (av' := .v (.int .i64 0)) rfl (by rw [← hl1, hV]; rfl)) ?_
          have hkn2 : addP (V R (L.getD k default)) (L.getD k default) ((pl.map encP).map decP) clk = (90, pl, clk) := by rw [hl1, decP_all]; exact hkn
          refine s_draw rD8_25 rM8_25 [(1032, [10]), (200029, [10])] rN8_25 rfl rfl ?_
          repeat ((fail_if_success (first | refine o_at 28 ?_ | refine d_at 28 ?_)); (first | refine s_seq ?_ | refine s_region ?_ | refine o_nil ?_ | refine d_nil ?_ | refine oA rfl rfl trivial ?_ | refine oB rfl rfl rfl (fun _ _ => ?_) | refine oC rfl rfl rfl trivial ?_ | refine dA rfl rfl trivial ?_ | refine dB rfl rfl rfl (fun _ _ => ?_) | refine dC rfl rfl rfl trivial ?_ | refine s_skip ?_ | refine s_block ?_ | refine s_exit ?_ | refine s_label ?_))
          refine dB2 rfl rfl rfl ⟨fun _ => False, trivial⟩ ?had2 (fun z3 _ => ?_)
          case had2 => exact ⟨by (repeat' apply And.intro) <;> trivial, ⟨⟨⟨⟨rfl, rfl, rfl, Nat.zero_lt_one⟩, rfl⟩, rfl, congrArg (List.map encP) (decP_all pl).symm⟩, (show (32 : Nat) ≠ 1032 by decide), (show (32 : Nat) ≠ 200029 by decide), (show (1032 : Nat) ≠ 200029 by decide)⟩, ⟨rfl, rfl, rfl, rfl, rfl, rfl, rfl⟩, ⟨hc1, hc2, hmb'⟩, hlA, hlB⟩
          obtain ⟨A, hA⟩ : ∃ A, A = addP (V R (L.getD k default)) (L.getD k default) ((pl.map encP).map decP) clk := ⟨_, rfl⟩
          have hA2 := hA.trans hkn2
          repeat (first | refine s_seq ?_ | refine s_region ?_ | refine o_nil ?_ | refine d_nil ?_ | refine oA rfl rfl trivial ?_ | refine oB rfl rfl rfl (fun _ _ => ?_) | refine oC rfl rfl rfl trivial ?_ | refine dA rfl rfl trivial ?_ | refine dB rfl rfl rfl (fun _ _ => ?_) | refine dC rfl rfl rfl trivial ?_ | refine s_skip ?_ | refine s_block ?_ | refine s_exit ?_ | refine s_label ?_)
          refine s_le (le_val (t := 120) (av' := .v (.bool false)) rfl (by rw [show AV.v (.bool false) = .v (.bool (((0 : Int) != 0) || (A.1 != 90))) by rw [hA2]; rfl, hA, hV]; rfl)) ?_
          refine s_le (le_blk (k := 1032) (B' := .mp true bm (pl.map encP) clk) rfl rfl (le_of_eq' (by rw [show Blk.mp true bm (pl.map encP) clk = .mp true bm (A.2.1.map encP) A.2.2 by rw [hA2], hA, hV]; rfl))) ?_
          clear hA2 hA hkn2 hkn
          refine s_cond (b := false) rfl (fun hb => by cases hb) (fun _ => ?_)
          repeat (first | refine s_seq ?_ | refine s_region ?_ | refine o_nil ?_ | refine d_nil ?_ | refine oA rfl rfl trivial ?_ | refine oB rfl rfl rfl (fun _ _ => ?_) | refine oC rfl rfl rfl trivial ?_ | refine dA rfl rfl trivial ?_ | refine dB rfl rfl rfl (fun _ _ => ?_) | refine dC rfl rfl rfl trivial ?_ | refine s_skip ?_ | refine s_block ?_ | refine s_exit ?_ | refine s_label ?_)
          refine s_cond (b := decide ((k : Int) > 0)) rfl (fun hb3 => ?_) (fun hb3 => ?_)
          · have hk0 : 0 < k := by have := of_decide_eq_true hb3; omega
            have hor := hpi.ord (k - 1) k (by omega) hkL
            have hj : (IntKind.i64.wrap ((k : Int) - 1)).toNat + 0 = k - 1 := by rw [wi64 (by omega) (by omega)]; omega
            have hf : ∀ J, J = k - 1 → (decide ((L.getD J default).1.height > (L.getD k default).1.height) || ((L.getD J default).1.height == (L.getD k default).1.height && decide ((L.getD J default).1.from_ ≥ (L.getD k default).1.from_))) = false := by
              intro J hJ
              rw [hJ]
              exact ord_no hor
            repeat (first | refine s_seq ?_ | refine s_region ?_ | refine o_nil ?_ | refine d_nil ?_ | refine oA rfl rfl trivial ?_ | refine oB rfl rfl rfl (fun _ _ => ?_) | refine oC rfl rfl rfl trivial ?_ | refine dA rfl rfl trivial ?_ | refine dB rfl rfl rfl (fun _ _ => ?_) | refine dC rfl rfl rfl trivial ?_ | refine s_skip ?_ | refine s_block ?_ | refine s_exit ?_ | refine s_label ?_)
            refine s_cond rfl (fun hb => ?_) (fun _ => ?_)
            · exfalso
              have hb4 := (hf _ hj).symm.trans hb
              cases hb4
            repeat (first | refine s_seq ?_ | refine s_region ?_ | refine o_nil ?_ | refine d_nil ?_ | refine oA rfl rfl trivial ?_ | refine oB rfl rfl rfl (fun _ _ => ?_) | refine oC rfl rfl rfl trivial ?_ | refine dA rfl rfl trivial ?_ | refine dB rfl rfl rfl (fun _ _ => ?_) | refine dC rfl rfl rfl trivial ?_ | refine s_skip ?_ | refine s_block ?_ | refine s_exit ?_ | refine s_label ?_)
            refine ⟨(k + 1, z3), hk8, by dsimp only; omega, ?_⟩
            (refine Le.of ?leT ?leM (by first | exact dfs_nil rfl rfl | exact rfl); (case leT => repeat (first | exact trivial | refine And.intro (by first | exact rfl | (show some (none, AV.v (.int .i64 (IntKind.i64.wrap _))) = _; rw [wi64 (by omega) (by omega)]; rfl)) ?_)); (case leM => repeat (first | exact trivial | refine And.intro ⟨_, rfl, Blk.le_refl _⟩ ?_)))
          · repeat (first | refine s_seq ?_ | refine s_region ?_ | refine o_nil ?_ | refine d_nil ?_ | refine oA rfl rfl trivial ?_ | refine oB rfl rfl rfl (fun _ _ => ?_) | refine oC rfl rfl rfl trivial ?_ | refine dA rfl rfl trivial ?_ | refine dB rfl rfl rfl (fun _ _ => ?_) | refine dC rfl rfl rfl trivial ?_ | refine s_skip ?_ | refine s_block ?_ | refine s_exit ?_ | refine s_label ?_)
            refine ⟨(k + 1, z3), hk8, by dsimp only; omega, ?_⟩
            (refine Le.of ?leT ?leM (by first | exact dfs_nil rfl rfl | exact rfl); (case leT => repeat (first | exact trivial | refine And.intro (by first | exact rfl | (show some (none, AV.v (.int .i64 (IntKind.i64.wrap _))) = _; rw [wi64 (by omega) (by omega)]; rfl)) ?_)); (case leM => repeat (first | exact trivial | refine And.intro ⟨_, rfl, Blk.le_refl _⟩ ?_)))
        · have hk8 : k = m := by have := of_decide_eq_false hb2; omega
          clear hk hb2
          obtain ⟨G, hG⟩ : ∃ G, G = goesP s ((List.range s.n3).map fun i => pst1 (f1 (hxA s.a3 s.n3) i)) ((List.range s.n4).map fun i => off1 (f2 (hxA s.a4 s.n4) i)) := ⟨_, rfl⟩
          have hGn : ∀ q, q ∈ pl → G q = false := fun q hq => by
            obtain ⟨g1, _, g2⟩ := hpo.2 q hq
            rw [hV] at g2
            rw [hG]
            exact let_stays g1 g2
          obtain ⟨P2, hP2⟩ : ∃ P2, P2 = stlP G ((List.range m).map fun i => decE (encE (L.getD i default))) ((pl.map encP).map decP) := ⟨_, rfl⟩
          have hst := settled hpo hGn hpi m hmL
          have hP3 := hP2
          rw [decP_all, range_take hmL] at hP3
          rw [← hP3] at hst
          clear hP3
          obtain ⟨hs1, hs2, hs3⟩ := hst
          repeat ((fail_if_success (first | refine o_at 30 ?_ | refine d_at 30 ?_)); (first | refine s_seq ?_ | refine s_region ?_ | refine o_nil ?_ | refine d_nil ?_ | refine oA rfl rfl trivial ?_ | refine oB rfl rfl rfl (fun _ _ => ?_) | refine oC rfl rfl rfl trivial ?_ | refine dA rfl rfl trivial ?_ | refine dB rfl rfl rfl (fun _ _ => ?_) | refine dC rfl rfl rfl trivial ?_ | refine s_skip ?_ | refine s_block ?_ | refine s_exit ?_ | refine s_label ?_))
          refine oB rfl rfl rfl (fun _ _ => ?_) ⟨(), trivial⟩ ⟨by (repeat' apply And.intro) <;> trivial, ⟨⟨⟨⟨rfl, rfl, rfl, Nat.zero_lt_one⟩, rfl⟩, rfl, congrArg (List.map encP) (decP_all pl).symm⟩, (show (32 : Nat) ≠ 1032 by decide)⟩, ⟨hc1, hc2⟩, ⟨rfl, rfl, (show 0 + m ≤ L.length by omega)⟩, fun _ => rfl, rfl, Nat.le_trans hm16 (by decide), fun _ _ => rfl⟩
          refine o_le (le_blk (k := 1032) (B' := .mp true bm (P2.map encP) clk) rfl rfl (le_of_eq' (by rw [hP2, hG]; rfl))) ?_
          clear hP2 hG hGn
          repeat (first | refine s_seq ?_ | refine s_region ?_ | refine o_nil ?_ | refine d_nil ?_ | refine oA rfl rfl trivial ?_ | refine oB rfl rfl rfl (fun _ _ => ?_) | refine oC rfl rfl rfl trivial ?_ | refine dA rfl rfl trivial ?_ | refine dB rfl rfl rfl (fun _ _ => ?_) | refine dC rfl rfl rfl trivial ?_ | refine s_skip ?_ | refine s_block ?_ | refine s_exit ?_ | refine s_label ?_)
          have hvr : ∀ x, x ∈ (P2.map encP).map decP → VR x.e.1 ∧ VR x.e.2 := by rw [decP_all]; exact fun x hx => (hs2.2 x hx).2.1
          have hpl' : ((P2.map encP).map decP).length ≤ 65536 := by rw [decP_all]; omega
          refine s_draw rD8_34 rM8_34 [(200029, [6])] rN8_34 rfl rfl ?_
          repeat ((fail_if_success (first | refine o_at 29 ?_ | refine d_at 29 ?_)); (first | refine s_seq ?_ | refine s_region ?_ | refine o_nil ?_ | refine d_nil ?_ | refine oA rfl rfl trivial ?_ | refine oB rfl rfl rfl (fun _ _ => ?_) | refine oC rfl rfl rfl trivial ?_ | refine dA rfl rfl trivial ?_ | refine dB rfl rfl rfl (fun _ _ => ?_) | refine dC rfl rfl rfl trivial ?_ | refine s_skip ?_ | refine s_block ?_ | refine s_exit ?_ | refine s_label ?_))
          refine dB2 rfl rfl rfl ⟨(fun _ => False, (sortedE_some _).choose, none, 0), (sortedE_some _).choose_spec⟩ ?hpk2 (fun z hz => ?_)
          case hpk2 => exact ⟨by (repeat' apply And.intro) <;> trivial, ⟨⟨⟨⟨rfl, rfl, rfl, Nat.zero_lt_one⟩, rfl⟩, rfl, congrArg (List.map encP) (decP_all P2).symm⟩, (show (32 : Nat) ≠ 200029 by decide), (show (1032 : Nat) ≠ 200029 by decide)⟩, ⟨rfl, rfl, rfl, rfl, rfl, rfl, rfl⟩, ⟨hc1, hc2, hmb'⟩, hvr, hpl'⟩
          obtain ⟨S7, L2, va2, vc2⟩ := z
          have hz : SortedE (letE (V R) ((P2.map encP).map decP)) L2 := by rw [hV]; exact hz
          rw [decP_all] at hz
          have hpi2 := hs2.pick hz
          clear hz hvr hpl'
          obtain ⟨m2, hm2⟩ : ∃ m2, m2 = Nat.min L2.length 16 := ⟨_, rfl⟩
          have hm2L : m2 ≤ L2.length := by rw [hm2]; exact Nat.min_le_left _ _
          have hm216 : m2 ≤ 16 := by rw [hm2]; exact Nat.min_le_right _ _
          repeat (first | refine s_seq ?_ | refine s_region ?_ | refine o_nil ?_ | refine d_nil ?_ | refine oA rfl rfl trivial ?_ | refine oB rfl rfl rfl (fun _ _ => ?_) | refine oC rfl rfl rfl trivial ?_ | refine dA rfl rfl trivial ?_ | refine dB rfl rfl rfl (fun _ _ => ?_) | refine dC rfl rfl rfl trivial ?_ | refine s_skip ?_ | refine s_block ?_ | refine s_exit ?_ | refine s_label ?_)
          refine s_le (tm' := [(22, none, .v (.int .i64 0)), (21, none, .gs 163 0 (ownB va2) 106 0 m2 m2), (15, none, .gs 76 0 (ownB va) 106 0 m m), (10, none, .v (.int .i64 pl.length)), (9, none, .ptr ⟨32, 0, bp, 0, 1, 0, 0, 0, false⟩)]) (M' := [(76, .vrow va 52 106 L.length (fun i => encE (L.getD i default)) vc), (163, .vrow va2 52 106 L2.length (fun i => encE (L2.getD i default)) vc2), (32, .row bp 121 1 1 (fun _ => .agg (.cons (.mp 1032 bm) .nil)) 1), (1032, .mp true bm (P2.map encP) clk)]) ?_ ?_
          · rw [hm2]
            (refine Le.of ?leT ?leM (by first | exact dfs_nil rfl rfl | exact rfl); (case leT => repeat (first | exact trivial | refine And.intro (by first | exact rfl | (show some (none, AV.v (.int .i64 (IntKind.i64.wrap _))) = _; rw [wi64 (by omega) (by omega)]; rfl)) ?_)); (case leM => repeat (first | exact trivial | refine And.intro ⟨_, rfl, Blk.le_refl _⟩ ?_)))
          clear hm2
          refine s_loopW (α := Nat) [22, 23, 164, 165, 166, 167, 168, 169, 170, 171, 172, 173, 174, 175, 176, 177, 178, 179, 180, 181, 182, 183, 184, 185, 186, 187, 188, 189, 190, 191, 192, 193, 194, 195, 196, 197, 198, 199, 200, 201, 202, 203] [] (fun z => z ≤ m2) (fun z => [(22, none, .v (.int .i64 z))]) (fun _ => []) (fun z => m2 - z) 0 (Nat.zero_le _) ?_ ?_
          · (refine Le.of ?leT ?leM (by first | exact dfs_nil rfl rfl | exact rfl); (case leT => repeat (first | exact trivial | refine And.intro (by first | exact rfl | (show some (none, AV.v (.int .i64 (IntKind.i64.wrap _))) = _; rw [wi64 (by omega) (by omega)]; rfl)) ?_)); (case leM => repeat (first | exact trivial | refine And.intro ⟨_, rfl, Blk.le_refl _⟩ ?_)))
          · intro i hi
            repeat (first | refine s_seq ?_ | refine s_region ?_ | refine o_nil ?_ | refine d_nil ?_ | refine oA rfl rfl trivial ?_ | refine oB rfl rfl rfl (fun _ _ => ?_) | refine oC rfl rfl rfl trivial ?_ | refine dA rfl rfl trivial ?_ | refine dB rfl rfl rfl (fun _ _ => ?_) | refine dC rfl rfl rfl trivial ?_ | refine s_skip ?_ | refine s_block ?_ | refine s_exit ?_ | refine s_label ?_)
            refine s_cond (b := decide ((i : Int) < (m2 : Int))) rfl (fun hb2 => ?_) (fun hb2 => ?_)
            · have hi8 : i < m2 := by have := of_decide_eq_true hb2; omega
              repeat (first | refine s_seq ?_ | refine s_region ?_ | refine o_nil ?_ | refine d_nil ?_ | refine oA rfl rfl trivial ?_ | refine oB rfl rfl rfl (fun _ _ => ?_) | refine oC rfl rfl rfl trivial ?_ | refine dA rfl rfl trivial ?_ | refine dB rfl rfl rfl (fun _ _ => ?_) | refine dC rfl rfl rfl trivial ?_ | refine s_skip ?_ | refine s_block ?_ | refine s_exit ?_ | refine s_label ?_)
              refine s_loopW (α := Nat) [23, 170, 171, 172, 173, 174, 175, 176, 177, 178, 179, 180, 181, 182, 183, 184, 185, 186, 187, 188, 189, 190, 191, 192, 193, 194, 195, 196, 197, 198, 199, 200, 201, 202, 203] [] (fun z => z ≤ m) (fun z => [(23, none, .v (.int .i64 z))]) (fun _ => []) (fun z => m - z) 0 (Nat.zero_le _) ?_ ?_
              · (refine Le.of ?leT ?leM (by first | exact dfs_nil rfl rfl | exact rfl); (case leT => repeat (first | exact trivial | refine And.intro (by first | exact rfl | (show some (none, AV.v (.int .i64 (IntKind.i64.wrap _))) = _; rw [wi64 (by omega) (by omega)]; rfl)) ?_)); (case leM => repeat (first | exact trivial | refine And.intro ⟨_, rfl, Blk.le_refl _⟩ ?_)))
              · intro j hj
                repeat (first | refine s_seq ?_ | refine s_region ?_ | refine o_nil ?_ | refine d_nil ?_ | refine oA rfl rfl trivial ?_ | refine oB rfl rfl rfl (fun _ _ => ?_) | refine oC rfl rfl rfl trivial ?_ | refine dA rfl rfl trivial ?_ | refine dB rfl rfl rfl (fun _ _ => ?_) | refine dC rfl rfl rfl trivial ?_ | refine s_skip ?_ | refine s_block ?_ | refine s_exit ?_ | refine s_label ?_)
                refine s_cond (b := decide ((j : Int) < (m : Int))) rfl (fun hb3 => ?_) (fun hb3 => ?_)
                · have hj8 : j < m := by have := of_decide_eq_true hb3; omega
                  have hno := no_same hs2 hpi2 hs3 (show i < L2.length by omega) hj8
                  repeat (first | refine s_seq ?_ | refine s_region ?_ | refine o_nil ?_ | refine d_nil ?_ | refine oA rfl rfl trivial ?_ | refine oB rfl rfl rfl (fun _ _ => ?_) | refine oC rfl rfl rfl trivial ?_ | refine dA rfl rfl trivial ?_ | refine dB rfl rfl rfl (fun _ _ => ?_) | refine dC rfl rfl rfl trivial ?_ | refine s_skip ?_ | refine s_block ?_ | refine s_exit ?_ | refine s_label ?_)
                  refine s_draw rD8_41 rM8_41 rX8_41 rN8_41 rfl rfl ?_
                  repeat (first | refine s_seq ?_ | refine s_region ?_ | refine o_nil ?_ | refine d_nil ?_ | refine oA rfl rfl trivial ?_ | refine oB rfl rfl rfl (fun _ _ => ?_) | refine oC rfl rfl rfl trivial ?_ | refine dA rfl rfl trivial ?_ | refine dB rfl rfl rfl (fun _ _ => ?_) | refine dC rfl rfl rfl trivial ?_ | refine s_skip ?_ | refine s_block ?_ | refine s_exit ?_ | refine s_label ?_)
                  refine s_cond rfl (fun hb => ?_) (fun _ => ?_)
                  · exfalso
                    have hb4 := hno.symm.trans hb
                    cases hb4
                  repeat (first | refine s_seq ?_ | refine s_region ?_ | refine o_nil ?_ | refine d_nil ?_ | refine oA rfl rfl trivial ?_ | refine oB rfl rfl rfl (fun _ _ => ?_) | refine oC rfl rfl rfl trivial ?_ | refine dA rfl rfl trivial ?_ | refine dB rfl rfl rfl (fun _ _ => ?_) | refine dC rfl rfl rfl trivial ?_ | refine s_skip ?_ | refine s_block ?_ | refine s_exit ?_ | refine s_label ?_)
                  refine ⟨j + 1, hj8, by omega, ?_⟩
                  (refine Le.of ?leT ?leM (by first | exact dfs_nil rfl rfl | exact rfl); (case leT => repeat (first | exact trivial | refine And.intro (by first | exact rfl | (show some (none, AV.v (.int .i64 (IntKind.i64.wrap _))) = _; rw [wi64 (by omega) (by omega)]; rfl)) ?_)); (case leM => repeat (first | exact trivial | refine And.intro ⟨_, rfl, Blk.le_refl _⟩ ?_)))
                · have hj8 : j = m := by have := of_decide_eq_false hb3; omega
                  repeat (first | refine s_seq ?_ | refine s_region ?_ | refine o_nil ?_ | refine d_nil ?_ | refine oA rfl rfl trivial ?_ | refine oB rfl rfl rfl (fun _ _ => ?_) | refine oC rfl rfl rfl trivial ?_ | refine dA rfl rfl trivial ?_ | refine dB rfl rfl rfl (fun _ _ => ?_) | refine dC rfl rfl rfl trivial ?_ | refine s_skip ?_ | refine s_block ?_ | refine s_exit ?_ | refine s_label ?_)
                  refine ⟨i + 1, hi8, by omega, ?_⟩
                  (refine Le.of ?leT ?leM (by first | exact dfs_nil rfl rfl | exact rfl); (case leT => repeat (first | exact trivial | refine And.intro (by first | exact rfl | (show some (none, AV.v (.int .i64 (IntKind.i64.wrap _))) = _; rw [wi64 (by omega) (by omega)]; rfl)) ?_)); (case leM => repeat (first | exact trivial | refine And.intro ⟨_, rfl, Blk.le_refl _⟩ ?_)))
            · have hi8 : i = m2 := by have := of_decide_eq_false hb2; omega
              repeat ((fail_if_success (first | refine o_at 32 ?_ | refine d_at 32 ?_)); (first | refine s_seq ?_ | refine s_region ?_ | refine o_nil ?_ | refine d_nil ?_ | refine oA rfl rfl trivial ?_ | refine oB rfl rfl rfl (fun _ _ => ?_) | refine oC rfl rfl rfl trivial ?_ | refine dA rfl rfl trivial ?_ | refine dB rfl rfl rfl (fun _ _ => ?_) | refine dC rfl rfl rfl trivial ?_ | refine s_skip ?_ | refine s_block ?_ | refine s_exit ?_ | refine s_label ?_))
              refine o_val rfl rfl trivial ⟨by (repeat' apply And.intro) <;> trivial, ⟨⟨⟨rfl, rfl, rfl, Nat.zero_lt_one⟩, rfl⟩, rfl⟩⟩ ?_
              repeat (first | refine s_seq ?_ | refine s_region ?_ | refine o_nil ?_ | refine d_nil ?_ | refine oA rfl rfl trivial ?_ | refine oB rfl rfl rfl (fun _ _ => ?_) | refine oC rfl rfl rfl trivial ?_ | refine dA rfl rfl trivial ?_ | refine dB rfl rfl rfl (fun _ _ => ?_) | refine dC rfl rfl rfl trivial ?_ | refine s_skip ?_ | refine s_block ?_ | refine s_exit ?_ | refine s_label ?_)
              refine s_ret ?_
              refine ⟨_, _, rfl, ⟨trivial, trivial⟩, rfl, ?_⟩
              show Value.bool (((P2.map encP).length : Int) == IntKind.i64.wrap ((pl.length : Int) - (m : Int))) = Value.bool true
              rw [wi64 (by omega) (by omega), List.length_map]
              congr 1
              rw [beq_iff_eq]
              omega
end Go.Proofs.YtofophjfgalhaaaGreatDoor.V
