import Derived.Test.YtofophjfgalhaaaGreatDoorMisdeedVerifiesW13
import Derived.Test.YtofophjfgalhaaaGreatDoorMisdeedVerifiesW30
set_option linter.unusedVariables false
set_option linter.unusedSimpArgs false
/-! The document's Verify. -/
namespace Go.Proofs.YtofophjfgalhaaaGreatDoor.V
open Go Go.RowKit

def chkD (K : List Int) (nm : ByteArray) (recs : List (Int × ByteArray)) (x : Vote) : Bool := dcheckF K recs x.from_ (fun i => (vl (dsaidR nm x).1 i).int1) (strOf (dsaidR nm x).1.length (vl (dsaidR nm x).1)) (dsaidR nm x).1.length x.sig
def sealedD (K : List Int) (nm : ByteArray) (recs : List (Int × ByteArray)) (x : Vote) : Bool := ((dsaidR nm x).2 == 0) && chkD K nm recs x
def dsldC (args : List AV) (M : MemF) : Option (Prop × AV) := match args, M 100002 with
  | [S, .ptr p, V], some (.var 2 (.ints .u32 64 K)) => match decS S, decV V, docV M p with
    | some s, some x, some (c, _, recs) => some (c ∧ VR x ∧ recs.length ≤ 1000000, .v (.bool (sealedD K s.nm recs x)))
    | _, _, _ => none
  | _, _ => none
def ctDq : CtL := [(114, dcheckC)]
set_option maxRecDepth 100000 in
theorem ctDq_ok : CtLOk Tryz.prog ctDq := ⟨.fn dcheck_body dcheck_read, trivial⟩
def crDq : CrL := [(14, dvbC)]
set_option maxRecDepth 100000 in
theorem crDq_ok : CrLOk Tryz.prog crDq := ⟨⟨dvb_body, dvb_turn⟩, trivial⟩
set_option maxRecDepth 100000 in
set_option maxHeartbeats 2000000 in
theorem dsld_read : ReadFn Tryz.prog 62 dsldC := by
  intro args M q res h0 hq O w0 w hS
  unfold dsldC at h0
  split at h0
  · rename_i S p V K hM2
    split at h0
    · rename_i s x c aa recs hs hx hp
      have hs := decS_enc hs
      have hx := decV_enc hx
      subst hs hx
      clear hs hx
      cases h0
      obtain ⟨hq, hvr, hn⟩ := hq
      obtain ⟨b, i, x1, c1, x2, c2, hv, h1, h2, h3⟩ := doc_open hS hp hq
      have hK := hS.holds _ _ hM2
      rw [show [encS s, AV.ptr p, encV x].map AV.val = [encS s, roP 900 b i 3, encV x].map AV.val by simp only [List.map_cons, List.map_nil, hv]]
      refine ro_fn tabs2 ctDq_ok crDq_ok Tryz.func62 rfl rfl (M := [(900, roB (some (b, i)) 3 1 fun _ => docAV x1 aa.length c1 x2 recs.length c2), (901, roB x1 1 aa.length (asE aa)), (902, roB x2 2 recs.length (recE recs)), (100002, .var 2 (.ints .u32 64 K))]) rfl ⟨roB_noOwn, roB_noOwn, roB_noOwn, fun _ h => h, trivial⟩ ⟨h1, h2, h3, hK, trivial⟩ ?_
      have hlen := dsaid_len s.nm x
      repeat ((fail_if_success (first | refine o_at 14 ?_ | refine d_at 14 ?_)); (first | refine s_seq ?_ | refine s_region ?_ | refine o_nil ?_ | refine d_nil ?_ | refine oA rfl rfl trivial ?_ | refine oB rfl rfl rfl (fun _ _ => ?_) | refine oC rfl rfl rfl trivial ?_ | refine dA rfl rfl trivial ?_ | refine dB rfl rfl rfl (fun _ _ => ?_) | refine dC rfl rfl rfl trivial ?_ | refine s_skip ?_ | refine s_block ?_ | refine s_exit ?_ | refine s_label ?_))
      refine oB rfl rfl rfl (fun yy hyy => ?_) ⟨(none, _), Nat.le_refl _⟩ ?hc
      case hc => (repeat' (first | exact hvr | apply And.intro)) <;> (first | trivial | rfl | exact Nat.zero_lt_one | decide)
      repeat ((fail_if_success (first | refine o_at 114 ?_ | refine d_at 114 ?_)); (first | refine s_seq ?_ | refine s_region ?_ | refine o_nil ?_ | refine d_nil ?_ | refine oA rfl rfl trivial ?_ | refine oB rfl rfl rfl (fun _ _ => ?_) | refine oC rfl rfl rfl trivial ?_ | refine dA rfl rfl trivial ?_ | refine dB rfl rfl rfl (fun _ _ => ?_) | refine dC rfl rfl rfl trivial ?_ | refine s_skip ?_ | refine s_block ?_ | refine s_exit ?_ | refine s_label ?_))
      refine o_val rfl rfl trivial ⟨?h1, fun _ => ⟨⟨⟨⟨rfl, rfl, Nat.zero_lt_one⟩, rfl⟩, ⟨⟨rfl, rfl, Nat.le_of_eq (Nat.zero_add _)⟩, fun _ => rfl, fun _ _ => rfl⟩, ⟨rfl, rfl, Nat.le_of_eq (Nat.zero_add _)⟩, fun _ => rfl, fun _ _ => rfl⟩, ?h2, ⟨rfl, rfl, Nat.le_of_eq (Nat.zero_add _)⟩, fun _ => rfl, Nat.le_trans hlen (by decide), fun _ _ => rfl⟩⟩ ?_
      case h1 => (repeat' apply And.intro) <;> (first | trivial | exact fun h => h)
      case h2 => rw [List.length_map, List.length_range]; exact hn
      repeat (first | refine s_seq ?_ | refine s_region ?_ | refine o_nil ?_ | refine d_nil ?_ | refine oA rfl rfl trivial ?_ | refine oB rfl rfl rfl (fun _ _ => ?_) | refine oC rfl rfl rfl trivial ?_ | refine dA rfl rfl trivial ?_ | refine dB rfl rfl rfl (fun _ _ => ?_) | refine dC rfl rfl rfl trivial ?_ | refine s_skip ?_ | refine s_block ?_ | refine s_exit ?_ | refine s_label ?_)
      refine s_ret ?_
      refine ⟨_, _, rfl, ⟨trivial, trivial⟩, rfl, ?_⟩
      have hag := recs_again recs
      show Value.bool (((dsaidR s.nm x).2 == 0) && chkD K s.nm ((List.range recs.length).map fun i => rec1 (recE recs i)) x) = _
      rw [hag]
      rfl
    · cases h0
  · cases h0
set_option maxRecDepth 100000 in
theorem dsld_body : HasBody Tryz.prog 62 := ⟨_, Tryz.func62, rfl, by decide⟩

def dverC (args : List AV) (M : MemF) : Option (Prop × AV) := match args, M 100002 with
  | [S, .ptr p, .agg (.cons a (.cons b .nil))], some (.var 2 (.ints .u32 64 K)) => match decS S, decV a, decV b, docV M p with
    | some s, some x, some y, some (c, _, recs) => match pstV M s.a3 s.n3, comeIn M 90002 2 off1 offX s.a4 s.n4, M 90003 with
      | some (c1, l), some (c2, pun), some (.vro es3 base3 len3 f3) => some (c ∧ (c1 ∧ c2 ∧ ∀ k, k < l.length → (mbK M (l.getD k default)).1) ∧ VR x ∧ VR y ∧ recs.length ≤ 1000000, .v (.int .i64 (verR s l (fun k => (mbK M (l.getD k default)).2.map (·.1)) pun (pairD x y) x y (sealedD K s.nm recs x) (sealedD K s.nm recs y))))
      | _, _, _ => none
    | _, _, _, _ => none
  | _, _ => none
def ctDw : CtL := [(56, dgoodC), (57, pairDC), (58, dpastC), (59, cntC), (60, dixC), (61, dpunC), (62, dsldC)]
set_option maxRecDepth 100000 in
theorem ctDw_ok : CtLOk Tryz.prog ctDw := ⟨.fn dgood_body dgood_read, .fn pairD_body pairD_read, .fn dpast_body dpast_read, .fn dcnt_body dcnt_read, .fn dix_body dix_read, .fn dpun_body dpun_read, .fn dsld_body dsld_read, trivial⟩
set_option maxRecDepth 100000 in
set_option maxHeartbeats 2000000 in
theorem dver_read : ReadFn Tryz.prog 13 dverC := by
  intro args M q res h0 hq O w0 w hS
  unfold dverC at h0
  split at h0
  · rename_i S p a b K hM2
    split at h0
    · rename_i s x y c aa recs hs hx hy hp
      have hs := decS_enc hs
      have hx := decV_enc hx
      have hy := decV_enc hy
      subst hs hx hy
      clear hs hx hy
      split at h0
      · rename_i c1 l c2 pun es3 base3 len3 f3 hpst hpun hM90003
        cases h0
        obtain ⟨hq, ⟨hc1, hc2, hmb⟩, hvx, hvy, hn⟩ := hq
        obtain ⟨bb, ii, x1, cc1, x2, cc2, hv, hd1, hd2, hd3⟩ := doc_open hS hp hq
        have hK := hS.holds _ _ hM2
        obtain ⟨hln, hl, hl3⟩ := comeIn_spec hpst hc1
        obtain ⟨es1, base1, len1, f1, hM1, _⟩ := comeIn_entry hpst
        obtain ⟨es2, base2, len2, f2, hM22, _⟩ := comeIn_entry hpun
        rw [show [encS s, AV.ptr p, .agg (.cons (encV x) (.cons (encV y) .nil))].map AV.val = [encS s, roP 900 bb ii 3, .agg (.cons (encV x) (.cons (encV y) .nil))].map AV.val by simp only [List.map_cons, List.map_nil, hv]]
        obtain ⟨R, hR⟩ : ∃ R, R = verR s l (fun k => (mbK M (l.getD k default)).2.map (·.1)) pun (pairD x y) x y (sealedD K s.nm recs x) (sealedD K s.nm recs y) := ⟨_, rfl⟩
        rw [← hR]
        unfold pstV comeIn at hpst
        rw [hM1] at hpst
        unfold comeIn at hpun
        rw [hM22] at hpun
        cases hpst
        cases hpun
        have hag := recs_again recs
        refine ro_fn tabs2 ctDw_ok (cr := []) trivial Tryz.func13 rfl rfl (M := [(900, roB (some (bb, ii)) 3 1 fun _ => docAV x1 aa.length cc1 x2 recs.length cc2), (901, roB x1 1 aa.length (asE aa)), (902, roB x2 2 recs.length (recE recs)), (90001, .vro es1 base1 len1 f1), (90002, .vro es2 base2 len2 f2), (90003, .vro es3 base3 len3 f3), (100002, .var 2 (.ints .u32 64 K))]) rfl ⟨roB_noOwn, roB_noOwn, roB_noOwn, fun _ h => h, fun _ h => h, fun _ h => h, fun _ h => h, trivial⟩ ⟨hd1, hd2, hd3, hS.holds _ _ hM1, hS.holds _ _ hM22, hS.holds _ _ hM90003, hK, trivial⟩ ?_
        repeat ((fail_if_success (first | refine o_at 56 ?_ | refine d_at 56 ?_)); (first | refine s_seq ?_ | refine s_region ?_ | refine o_nil ?_ | refine d_nil ?_ | refine oA rfl rfl trivial ?_ | refine oB rfl rfl rfl (fun _ _ => ?_) | refine oC rfl rfl rfl trivial ?_ | refine dA rfl rfl trivial ?_ | refine dB rfl rfl rfl (fun _ _ => ?_) | refine dC rfl rfl rfl trivial ?_ | refine s_skip ?_ | refine s_block ?_ | refine s_exit ?_ | refine s_label ?_))
        refine o_val rfl rfl trivial ⟨by (repeat' apply And.intro) <;> trivial, ⟨⟨⟨rfl, rfl, Nat.zero_lt_one⟩, rfl⟩, ⟨⟨rfl, rfl, Nat.le_of_eq (Nat.zero_add _)⟩, fun _ => rfl, fun _ _ => rfl⟩, ⟨rfl, rfl, Nat.le_of_eq (Nat.zero_add _)⟩, fun _ => rfl, fun _ _ => rfl⟩⟩ ?_
        repeat (first | refine s_seq ?_ | refine s_region ?_ | refine o_nil ?_ | refine d_nil ?_ | refine oA rfl rfl trivial ?_ | refine oB rfl rfl rfl (fun _ _ => ?_) | refine oC rfl rfl rfl trivial ?_ | refine dA rfl rfl trivial ?_ | refine dB rfl rfl rfl (fun _ _ => ?_) | refine dC rfl rfl rfl trivial ?_ | refine s_skip ?_ | refine s_block ?_ | refine s_exit ?_ | refine s_label ?_)
        refine s_cond (b := false) rfl (fun hb => by cases hb) (fun _ => ?_)
        repeat (first | refine s_seq ?_ | refine s_region ?_ | refine o_nil ?_ | refine d_nil ?_ | refine oA rfl rfl trivial ?_ | refine oB rfl rfl rfl (fun _ _ => ?_) | refine oC rfl rfl rfl trivial ?_ | refine dA rfl rfl trivial ?_ | refine dB rfl rfl rfl (fun _ _ => ?_) | refine dC rfl rfl rfl trivial ?_ | refine s_skip ?_ | refine s_block ?_ | refine s_exit ?_ | refine s_label ?_)
        refine s_cond (b := ((pairD x y).2 != 0)) rfl (fun hE => ?_) (fun hE => ?_)
        · repeat (first | refine s_seq ?_ | refine s_region ?_ | refine o_nil ?_ | refine d_nil ?_ | refine oA rfl rfl trivial ?_ | refine oB rfl rfl rfl (fun _ _ => ?_) | refine oC rfl rfl rfl trivial ?_ | refine dA rfl rfl trivial ?_ | refine dB rfl rfl rfl (fun _ _ => ?_) | refine dC rfl rfl rfl trivial ?_ | refine s_skip ?_ | refine s_block ?_ | refine s_exit ?_ | refine s_label ?_)
          refine s_ret ?_
          refine ⟨_, _, rfl, ⟨trivial, trivial⟩, rfl, ?_⟩
          show (AV.v (.int .i64 (pairD x y).2)).val = _
          rw [hR, verR, if_pos hE]
        have hE' : ¬ ((pairD x y).2 != 0) = true := by rw [hE]; decide
        repeat (first | refine s_seq ?_ | refine s_region ?_ | refine o_nil ?_ | refine d_nil ?_ | refine oA rfl rfl trivial ?_ | refine oB rfl rfl rfl (fun _ _ => ?_) | refine oC rfl rfl rfl trivial ?_ | refine dA rfl rfl trivial ?_ | refine dB rfl rfl rfl (fun _ _ => ?_) | refine dC rfl rfl rfl trivial ?_ | refine s_skip ?_ | refine s_block ?_ | refine s_exit ?_ | refine s_label ?_)
        refine s_cond (b := !(eqE (pairD x y).1 (x, y))) rfl (fun hQ => ?_) (fun hQ => ?_)
        · repeat (first | refine s_seq ?_ | refine s_region ?_ | refine o_nil ?_ | refine d_nil ?_ | refine oA rfl rfl trivial ?_ | refine oB rfl rfl rfl (fun _ _ => ?_) | refine oC rfl rfl rfl trivial ?_ | refine dA rfl rfl trivial ?_ | refine dB rfl rfl rfl (fun _ _ => ?_) | refine dC rfl rfl rfl trivial ?_ | refine s_skip ?_ | refine s_block ?_ | refine s_exit ?_ | refine s_label ?_)
          refine s_ret ?_
          refine ⟨_, _, rfl, ⟨trivial, trivial⟩, rfl, ?_⟩
          show (AV.v (.int .i64 110)).val = _
          rw [hR, verR, if_neg hE', if_pos hQ]
        have hQ' : ¬ (!(eqE (pairD x y).1 (x, y))) = true := by rw [hQ]; decide
        repeat ((fail_if_success (first | refine o_at 58 ?_ | refine d_at 58 ?_)); (first | refine s_seq ?_ | refine s_region ?_ | refine o_nil ?_ | refine d_nil ?_ | refine oA rfl rfl trivial ?_ | refine oB rfl rfl rfl (fun _ _ => ?_) | refine oC rfl rfl rfl trivial ?_ | refine dA rfl rfl trivial ?_ | refine dB rfl rfl rfl (fun _ _ => ?_) | refine dC rfl rfl rfl trivial ?_ | refine s_skip ?_ | refine s_block ?_ | refine s_exit ?_ | refine s_label ?_))
        refine o_val rfl rfl trivial ⟨by (repeat' apply And.intro) <;> trivial, hc1⟩ ?_
        repeat (first | refine s_seq ?_ | refine s_region ?_ | refine o_nil ?_ | refine d_nil ?_ | refine oA rfl rfl trivial ?_ | refine oB rfl rfl rfl (fun _ _ => ?_) | refine oC rfl rfl rfl trivial ?_ | refine dA rfl rfl trivial ?_ | refine dB rfl rfl rfl (fun _ _ => ?_) | refine dC rfl rfl rfl trivial ?_ | refine s_skip ?_ | refine s_block ?_ | refine s_exit ?_ | refine s_label ?_)
        refine s_cond (b := ((!(cntF s x.height)) || decide (numIx x.height (List.map (fun x => x.h) ((List.range s.n3).map fun i => pst1 (f1 (hxA s.a3 s.n3) i))) 0 < 0))) rfl (fun hN => ?_) (fun hN => ?_)
        · repeat (first | refine s_seq ?_ | refine s_region ?_ | refine o_nil ?_ | refine d_nil ?_ | refine oA rfl rfl trivial ?_ | refine oB rfl rfl rfl (fun _ _ => ?_) | refine oC rfl rfl rfl trivial ?_ | refine dA rfl rfl trivial ?_ | refine dB rfl rfl rfl (fun _ _ => ?_) | refine dC rfl rfl rfl trivial ?_ | refine s_skip ?_ | refine s_block ?_ | refine s_exit ?_ | refine s_label ?_)
          refine s_ret ?_
          refine ⟨_, _, rfl, ⟨trivial, trivial⟩, rfl, ?_⟩
          show (AV.v (.int .i64 111)).val = _
          rw [hR, verR, if_neg hE', if_neg hQ', if_pos hN]
        have hN' : ¬ ((!(cntF s x.height)) || decide (numIx x.height (List.map (fun x => x.h) ((List.range s.n3).map fun i => pst1 (f1 (hxA s.a3 s.n3) i))) 0 < 0)) = true := by rw [hN]; decide
        obtain ⟨k, hk, hke⟩ : ∃ k : Nat, k < s.n3 ∧ numIx x.height (List.map (fun x => x.h) ((List.range s.n3).map fun i => pst1 (f1 (hxA s.a3 s.n3) i))) 0 = (k : Int) := by
          simp only [Bool.or_eq_false_iff, decide_eq_false_iff_not] at hN
          rcases numIx_lt (a := x.height) (l := (List.map (fun x => x.h) ((List.range s.n3).map fun i => pst1 (f1 (hxA s.a3 s.n3) i)))) (i := 0) with h | ⟨k, h1, h2⟩
          · omega
          · exact ⟨k, by simpa using h1, by rw [h2]; simp⟩
        obtain ⟨base, len, f, b', o, hM1', ha3, hb1, hle, hel⟩ := hl3 (by omega)
        rw [hM1] at hM1'
        cases hM1'
        have hmk := hmb k (by simpa using hk)
        unfold mbK comeIn at hmk
        rw [hM90003] at hmk
        refine s_le (le_sub (n := 910) (k := 90001) (ix := hx b' o s.n3) (m := s.n3) (g := pstE ((List.range s.n3).map fun i => pst1 (f1 (hxA s.a3 s.n3) i))) rfl rfl hb1 hle (fun i hi => (hel i hi).symm)) ?_
        refine s_le (le_blk (k := 3) rfl rfl (Blk.le_rowc (f' := fun _ => encSP s (roS 910 (some (b', o)) 3 s.n3 s.c3)) (Nat.le_refl _) fun i hi => ⟨(encSP_val s (roS_cells _ _ _ _ _) ((roS_val 910 (some (b', o)) 3 s.n3 s.c3).trans (by rw [ha3]; rfl))).symm, rfl⟩)) ?_
        refine s_le (le_val (t := 10) (av' := .v (.int .i64 (k : Int))) rfl (by rw [← hke])) ?_
        repeat (first | refine s_seq ?_ | refine s_region ?_ | refine o_nil ?_ | refine d_nil ?_ | refine oA rfl rfl trivial ?_ | refine oB rfl rfl rfl (fun _ _ => ?_) | refine oC rfl rfl rfl trivial ?_ | refine dA rfl rfl trivial ?_ | refine dB rfl rfl rfl (fun _ _ => ?_) | refine dC rfl rfl rfl trivial ?_ | refine s_skip ?_ | refine s_block ?_ | refine s_exit ?_ | refine s_label ?_)
        refine s_draw rD13_13 rM13_13 rX13_13 rN13_13 rfl rfl ?_
        repeat ((fail_if_success (first | refine o_at 60 ?_ | refine d_at 60 ?_)); (first | refine s_seq ?_ | refine s_region ?_ | refine o_nil ?_ | refine d_nil ?_ | refine oA rfl rfl trivial ?_ | refine oB rfl rfl rfl (fun _ _ => ?_) | refine oC rfl rfl rfl trivial ?_ | refine dA rfl rfl trivial ?_ | refine dB rfl rfl rfl (fun _ _ => ?_) | refine dC rfl rfl rfl trivial ?_ | refine s_skip ?_ | refine s_block ?_ | refine s_exit ?_ | refine s_label ?_))
        refine d_val rfl rfl trivial ⟨by (repeat' apply And.intro) <;> trivial, hmk⟩ ?_
        repeat (first | refine s_seq ?_ | refine s_region ?_ | refine o_nil ?_ | refine d_nil ?_ | refine oA rfl rfl trivial ?_ | refine oB rfl rfl rfl (fun _ _ => ?_) | refine oC rfl rfl rfl trivial ?_ | refine dA rfl rfl trivial ?_ | refine dB rfl rfl rfl (fun _ _ => ?_) | refine dC rfl rfl rfl trivial ?_ | refine s_skip ?_ | refine s_block ?_ | refine s_exit ?_ | refine s_label ?_)
        have hmem : (mbK M (((List.range s.n3).map fun i => pst1 (f1 (hxA s.a3 s.n3) i)).getD (numIx x.height (List.map (fun x => x.h) ((List.range s.n3).map fun i => pst1 (f1 (hxA s.a3 s.n3) i))) 0).toNat default)).2.map (·.1) = (((List.range (((List.range s.n3).map fun i => pst1 (f1 (hxA s.a3 s.n3) i)).getD k default).n).map fun i => mb1 (f3 (hxA (((List.range s.n3).map fun i => pst1 (f1 (hxA s.a3 s.n3) i)).getD k default).a (((List.range s.n3).map fun i => pst1 (f1 (hxA s.a3 s.n3) i)).getD k default).n) i)).map (·.1)) := by
          rw [hke]
          unfold mbK comeIn
          rw [hM90003]
          rfl
        refine s_cond (b := decide (numIx x.from_ (((List.range (((List.range s.n3).map fun i => pst1 (f1 (hxA s.a3 s.n3) i)).getD k default).n).map fun i => mb1 (f3 (hxA (((List.range s.n3).map fun i => pst1 (f1 (hxA s.a3 s.n3) i)).getD k default).a (((List.range s.n3).map fun i => pst1 (f1 (hxA s.a3 s.n3) i)).getD k default).n) i)).map (·.1)) 0 < 0)) rfl (fun hI => ?_) (fun hI => ?_)
        · repeat (first | refine s_seq ?_ | refine s_region ?_ | refine o_nil ?_ | refine d_nil ?_ | refine oA rfl rfl trivial ?_ | refine oB rfl rfl rfl (fun _ _ => ?_) | refine oC rfl rfl rfl trivial ?_ | refine dA rfl rfl trivial ?_ | refine dB rfl rfl rfl (fun _ _ => ?_) | refine dC rfl rfl rfl trivial ?_ | refine s_skip ?_ | refine s_block ?_ | refine s_exit ?_ | refine s_label ?_)
          refine s_ret ?_
          refine ⟨_, _, rfl, ⟨trivial, trivial⟩, rfl, ?_⟩
          show (AV.v (.int .i64 101)).val = _
          rw [hR, verR, if_neg hE', if_neg hQ', if_neg hN', hmem, if_pos hI]
        refine s_le (le_blk (k := 3) rfl rfl (Blk.le_rowc (f' := fun _ => encS s) (Nat.le_refl _) fun i hi => ⟨encSP_val s (roS_cells _ _ _ _ _) ((roS_val 910 (some (b', o)) 3 s.n3 s.c3).trans (by rw [ha3]; rfl)), rfl⟩)) ?_
        repeat ((fail_if_success (first | refine o_at 61 ?_ | refine d_at 61 ?_)); (first | refine s_seq ?_ | refine s_region ?_ | refine o_nil ?_ | refine d_nil ?_ | refine oA rfl rfl trivial ?_ | refine oB rfl rfl rfl (fun _ _ => ?_) | refine oC rfl rfl rfl trivial ?_ | refine dA rfl rfl trivial ?_ | refine dB rfl rfl rfl (fun _ _ => ?_) | refine dC rfl rfl rfl trivial ?_ | refine s_skip ?_ | refine s_block ?_ | refine s_exit ?_ | refine s_label ?_))
        refine o_val rfl rfl trivial ⟨by (repeat' apply And.intro) <;> trivial, hc2⟩ ?_
        repeat (first | refine s_seq ?_ | refine s_region ?_ | refine o_nil ?_ | refine d_nil ?_ | refine oA rfl rfl trivial ?_ | refine oB rfl rfl rfl (fun _ _ => ?_) | refine oC rfl rfl rfl trivial ?_ | refine dA rfl rfl trivial ?_ | refine dB rfl rfl rfl (fun _ _ => ?_) | refine dC rfl rfl rfl trivial ?_ | refine s_skip ?_ | refine s_block ?_ | refine s_exit ?_ | refine s_label ?_)
        refine s_cond (b := decide (offIx (x.height, x.from_) ((List.range s.n4).map fun i => off1 (f2 (hxA s.a4 s.n4) i)) 0 ≥ 0)) rfl (fun hD => ?_) (fun hD => ?_)
        · repeat (first | refine s_seq ?_ | refine s_region ?_ | refine o_nil ?_ | refine d_nil ?_ | refine oA rfl rfl trivial ?_ | refine oB rfl rfl rfl (fun _ _ => ?_) | refine oC rfl rfl rfl trivial ?_ | refine dA rfl rfl trivial ?_ | refine dB rfl rfl rfl (fun _ _ => ?_) | refine dC rfl rfl rfl trivial ?_ | refine s_skip ?_ | refine s_block ?_ | refine s_exit ?_ | refine s_label ?_)
          refine s_ret ?_
          refine ⟨_, _, rfl, ⟨trivial, trivial⟩, rfl, ?_⟩
          show (AV.v (.int .i64 112)).val = _
          rw [hR, verR, if_neg hE', if_neg hQ', if_neg hN', hmem, if_neg (by rw [hI]; decide), if_pos hD]
        have hV : R = if sealedD K s.nm recs x = true then (if sealedD K s.nm recs y = true then 0 else 84) else 84 := by
          rw [hR, verR, if_neg hE', if_neg hQ', if_neg hN', hmem, if_neg (by rw [hI]; decide), if_neg (by rw [hD]; decide)]
        obtain ⟨sx, hsx⟩ : ∃ b, b = sealedD K s.nm recs x := ⟨_, rfl⟩
        obtain ⟨sy, hsy⟩ : ∃ b, b = sealedD K s.nm recs y := ⟨_, rfl⟩
        repeat ((fail_if_success (first | refine o_at 62 ?_ | refine d_at 62 ?_)); (first | refine s_seq ?_ | refine s_region ?_ | refine o_nil ?_ | refine d_nil ?_ | refine oA rfl rfl trivial ?_ | refine oB rfl rfl rfl (fun _ _ => ?_) | refine oC rfl rfl rfl trivial ?_ | refine dA rfl rfl trivial ?_ | refine dB rfl rfl rfl (fun _ _ => ?_) | refine dC rfl rfl rfl trivial ?_ | refine s_skip ?_ | refine s_block ?_ | refine s_exit ?_ | refine s_label ?_))
        refine o_val rfl rfl trivial ⟨by (repeat' apply And.intro) <;> trivial, ⟨⟨⟨rfl, rfl, Nat.zero_lt_one⟩, rfl⟩, ⟨⟨rfl, rfl, Nat.le_of_eq (Nat.zero_add _)⟩, fun _ => rfl, fun _ _ => rfl⟩, ⟨rfl, rfl, Nat.le_of_eq (Nat.zero_add _)⟩, fun _ => rfl, fun _ _ => rfl⟩, hvx, by rw [List.length_map, List.length_range]; exact hn⟩ ?_
        refine o_le (le_val (t := 69) (av' := .v (.bool sx)) rfl (by rw [hsx]; show _ = Value.bool (sealedD K s.nm ((List.range recs.length).map fun i => rec1 (recE recs i)) x); rw [hag]; rfl)) ?_
        repeat ((fail_if_success (first | refine o_at 62 ?_ | refine d_at 62 ?_)); (first | refine s_seq ?_ | refine s_region ?_ | refine o_nil ?_ | refine d_nil ?_ | refine oA rfl rfl trivial ?_ | refine oB rfl rfl rfl (fun _ _ => ?_) | refine oC rfl rfl rfl trivial ?_ | refine dA rfl rfl trivial ?_ | refine dB rfl rfl rfl (fun _ _ => ?_) | refine dC rfl rfl rfl trivial ?_ | refine s_skip ?_ | refine s_block ?_ | refine s_exit ?_ | refine s_label ?_))
        refine o_val rfl rfl trivial ⟨by (repeat' apply And.intro) <;> trivial, ⟨⟨⟨rfl, rfl, Nat.zero_lt_one⟩, rfl⟩, ⟨⟨rfl, rfl, Nat.le_of_eq (Nat.zero_add _)⟩, fun _ => rfl, fun _ _ => rfl⟩, ⟨rfl, rfl, Nat.le_of_eq (Nat.zero_add _)⟩, fun _ => rfl, fun _ _ => rfl⟩, hvy, by rw [List.length_map, List.length_range]; exact hn⟩ ?_
        refine o_le (le_val (t := 74) (av' := .v (.bool sy)) rfl (by rw [hsy]; show _ = Value.bool (sealedD K s.nm ((List.range recs.length).map fun i => rec1 (recE recs i)) y); rw [hag]; rfl)) ?_
        repeat (first | refine s_seq ?_ | refine s_region ?_ | refine o_nil ?_ | refine d_nil ?_ | refine oA rfl rfl trivial ?_ | refine oB rfl rfl rfl (fun _ _ => ?_) | refine oC rfl rfl rfl trivial ?_ | refine dA rfl rfl trivial ?_ | refine dB rfl rfl rfl (fun _ _ => ?_) | refine dC rfl rfl rfl trivial ?_ | refine s_skip ?_ | refine s_block ?_ | refine s_exit ?_ | refine s_label ?_)
        rw [← hsx, ← hsy] at hV
        refine s_cond (b := (!sx || !sy)) rfl (fun hF => ?_) (fun hF => ?_)
        · repeat (first | refine s_seq ?_ | refine s_region ?_ | refine o_nil ?_ | refine d_nil ?_ | refine oA rfl rfl trivial ?_ | refine oB rfl rfl rfl (fun _ _ => ?_) | refine oC rfl rfl rfl trivial ?_ | refine dA rfl rfl trivial ?_ | refine dB rfl rfl rfl (fun _ _ => ?_) | refine dC rfl rfl rfl trivial ?_ | refine s_skip ?_ | refine s_block ?_ | refine s_exit ?_ | refine s_label ?_)
          refine s_ret ?_
          refine ⟨_, _, rfl, ⟨trivial, trivial⟩, rfl, ?_⟩
          show (AV.v (.int .i64 84)).val = _
          rw [hV]
          cases sx <;> cases sy <;> first | rfl | cases hF
        · repeat (first | refine s_seq ?_ | refine s_region ?_ | refine o_nil ?_ | refine d_nil ?_ | refine oA rfl rfl trivial ?_ | refine oB rfl rfl rfl (fun _ _ => ?_) | refine oC rfl rfl rfl trivial ?_ | refine dA rfl rfl trivial ?_ | refine dB rfl rfl rfl (fun _ _ => ?_) | refine dC rfl rfl rfl trivial ?_ | refine s_skip ?_ | refine s_block ?_ | refine s_exit ?_ | refine s_label ?_)
          refine s_ret ?_
          refine ⟨_, _, rfl, ⟨trivial, trivial⟩, rfl, ?_⟩
          show (AV.v (.int .i64 0)).val = _
          rw [hV]
          cases sx <;> cases sy <;> first | rfl | cases hF
      · cases h0
    · cases h0
  · cases h0
set_option maxRecDepth 100000 in
theorem dver_body : HasBody Tryz.prog 13 := ⟨_, Tryz.func13, rfl, by decide⟩
end Go.Proofs.YtofophjfgalhaaaGreatDoor.V
/-! The law's world: both books with their signers; sealed. -/
namespace Go.Proofs.YtofophjfgalhaaaGreatDoor.V
open Go Go.RowKit

structure Wld where
  nR : Nat
  nQ : Nat
  bR : Nat
  bQ : Nat
  ents : List (Int × Nat)
  dents : List (Int × Nat)
  recs : List (Int × ByteArray)
def wldV (M : MemF) (pw : Pt) : Option (Prop × Wld) := match ptrOf M pw true 4 with
  | some (c0, .agg (.cons (.ptr pR) (.cons (.ptr pQ) (.cons X (.cons Y .nil))))) => match regOf M pR, docOf M pQ, seqOf M X, seqOf M Y with
    | some (c1, bR, ents, recs, _), some (c2, bQ, dents, drecs, _), some (c3, es1, n1, f1), some (c4, es2, n2, f2) =>
      some ((c0 ∧ c1 ∧ c2 ∧ c3 ∧ c4) ∧ ((n1 ≠ 0 → es1 = 1) ∧ (n2 ≠ 0 → es2 = 1) ∧ n1 = ents.length ∧ n2 = ents.length) ∧ (dents.map (·.1) = ents.map (·.1) ∧ drecs = recs ∧ ents.length ≤ 17592186044416) ∧
        ((∀ i, i < n1 → (f1 i).cells = (sigP (ents.getD i (0, 0)).2).cells) ∧ ∀ i, i < n2 → (f2 i).cells = (sigP (dents.getD i (0, 0)).2).cells) ∧
        (pw.n ≠ pR.n ∧ pw.n ≠ pQ.n ∧ pR.n ≠ pQ.n ∧ tagNe pR.n X = true ∧ tagNe pQ.n X = true ∧ tagNe pR.n Y = true ∧ tagNe pQ.n Y = true), ⟨pR.n, pQ.n, bR, bQ, ents, dents, recs⟩)
    | _, _, _, _ => none
  | _ => none
def wldA (bR bQ : Nat) (x1 : Option (Nat × Nat)) (n c1 : Nat) (x2 : Option (Nat × Nat)) (c2 : Nat) : AV := .agg (.cons (.ptr ⟨900, 0, bR, 0, 5, 0, 0, 0, false⟩) (.cons (.ptr ⟨901, 0, bQ, 0, 3, 0, 0, 0, false⟩) (.cons (.gs 903 0 x1 1 0 n c1) (.cons (.gs 904 0 x2 1 0 n c2) .nil))))
def sgE (tag : Nat) (l : List (Int × Nat)) (i : Nat) : AV := .ptr ⟨tag, i, (l.getD i (0, 0)).2, 0, 2, 0, 0, 0, false⟩
theorem sgE_cells (tag : Nat) (l : List (Int × Nat)) (i : Nat) : (sgE tag l i).cells = (sigP (l.getD i (0, 0)).2).cells := rfl
abbrev wldM (pw : Pt) (W : Wld) (x1 : Option (Nat × Nat)) (c1 : Nat) (x2 : Option (Nat × Nat)) (c2 : Nat) : Mem := [(902, roB (some (pw.b, pw.cell)) 4 1 fun _ => wldA W.bR W.bQ x1 W.ents.length c1 x2 c2), (903, roB x1 1 W.ents.length (sgE 900 W.ents)), (904, roB x2 1 W.ents.length (sgE 901 W.dents))]
theorem wld_open {O : Nat → Prop} {w0 w : World} {M : MemF} (hS : Sat O w0 M w) {pw : Pt} {c : Prop} {W : Wld} (h : wldV M pw = some (c, W)) (hc : c) :
    (∃ S1 S2 x1 c1 x2 c2, M W.nR = some (regB W.bR W.ents W.recs S1) ∧ M W.nQ = some (docB W.bQ W.dents W.recs S2) ∧ (AV.ptr pw).val = (roP 902 pw.b pw.cell 4).val ∧ allHold w (wldM pw W x1 c1 x2 c2) ∧ apartL (regB W.bR W.ents W.recs S1) (wldM pw W x1 c1 x2 c2) ∧ apartL (docB W.bQ W.dents W.recs S2) (wldM pw W x1 c1 x2 c2)) ∧ W.nR ≠ W.nQ ∧ W.dents.map (·.1) = W.ents.map (·.1) ∧ W.ents.length ≤ 17592186044416 := by
  unfold wldV at h
  split at h
  · rename_i c0 pR pQ X Y hpw
    split at h
    · rename_i c1 bR ents recs S1 c2 bQ dents drecs S2 c3 es1 n1 f1 c4 es2 n2 f2 h1 h2 h3 h4
      cases h
      obtain ⟨⟨q0, q1, q2, q3, q4⟩, ⟨r1, r2, rfl, rfl⟩, ⟨r5, rfl, r6⟩, ⟨s1, s2⟩, t1, t2, t3, t4, t5, t6, t7⟩ := hc
      obtain ⟨hM1, hv1⟩ := regOf_spec h1 q1
      obtain ⟨hM2, hv2⟩ := docOf_spec h2 q2
      have hR := ptrOf_spec (g := true) hS hpw q0
      obtain ⟨x1, cap1, e1, f3⟩ := seqOf_spec hS h3 q3
      obtain ⟨x2, cap2, e2, f4⟩ := seqOf_spec hS h4 q4
      refine ⟨⟨S1, S2, x1, cap1, x2, cap2, hM1, hM2, pt_ro pw 902 4, ⟨roB_holds fun _ => ⟨_, _, rfl, hR.recell fun i _ => ⟨?_, rfl⟩⟩, roB_holds fun h0 => ?_, roB_holds fun h0 => ?_, trivial⟩, ⟨?_, ?_, ?_, trivial⟩, ⟨?_, ?_, ?_, trivial⟩⟩, t3, r5, r6⟩
      · simp only [wldA, AV.cells_agg, AV.cells_cons, seq_cells h3, seq_cells h4, e1, e2]
        have g1 : (AV.gs 903 0 x1 1 0 ents.length cap1).cells = [slV x1 ents.length cap1] := by rw [← roS_val 903 x1 1 ents.length cap1]; rfl
        have g2 : (AV.gs 904 0 x2 1 0 ents.length cap2).cells = [slV x2 ents.length cap2] := by rw [← roS_val 904 x2 1 ents.length cap2]; rfl
        have g3 : (AV.ptr pR).cells = (AV.ptr ⟨900, 0, bR, 0, 5, 0, 0, 0, false⟩).cells := congrArg (fun v => [v]) (hv1 900)
        have g4 : (AV.ptr pQ).cells = (AV.ptr ⟨901, 0, bQ, 0, 3, 0, 0, 0, false⟩).cells := congrArg (fun v => [v]) (hv2 901)
        rw [g1, g2, g3, g4]
      · obtain ⟨b, o, hb, hR1⟩ := f3 h0
        rw [r1 h0] at hR1
        exact ⟨b, o, hb, hR1.recell fun i hi => ⟨(s1 i hi).symm, rfl⟩⟩
      · obtain ⟨b, o, hb, hR1⟩ := f4 h0
        rw [r2 h0] at hR1
        exact ⟨b, o, hb, hR1.recell fun i hi => ⟨(s2 i hi).symm, rfl⟩⟩
      · exact ptr_apart hS hpw q0 (by decide) hM1 t1
      · exact ro_apart hS h3 q3 r1 hM1 t4 e1
      · exact ro_apart hS h4 q4 r2 hM1 t6 e2
      · exact ptr_apart hS hpw q0 (by decide) hM2 t2
      · exact ro_apart hS h3 q3 r1 hM2 t5 e1
      · exact ro_apart hS h4 q4 r2 hM2 t7 e2
    · cases h
  · cases h

/-! ### what sealed says -/
def seal1 : List Int := lset 16 (List.replicate 16 0) 0 1
def withS (x : Vote) (s : List Int) : Vote := { x with sig := s }
def msgL (nm : ByteArray) (x : Vote) : List Int := (dsaidR nm (withS x seal1)).1
def msgE (nm : ByteArray) (x : Vote) : Int := (dsaidR nm (withS x seal1)).2
def msgS (nm : ByteArray) (x : Vote) : ByteArray := strOf (msgL nm x).length (vl (msgL nm x))
def sgK (K : List Int) (nm : ByteArray) (x : Vote) : List Int := ofF K b0L x.from_ (fun i => (vl (msgL nm x) i).int1) (msgL nm x).length
def sldV (K : List Int) (nm : ByteArray) (aa : List Int) (x : Vote) (right : Bool) : Vote := if (msgE nm x != 0 || !right) = true then withS x seal1 else if knownF aa x.from_ = true then withS x (sgK K nm x) else withS x seal1
def sldR (nm : ByteArray) (aa : List Int) (recs : List (Int × ByteArray)) (x : Vote) (right : Bool) : List (Int × ByteArray) := if (msgE nm x != 0 || !right) = true then recs else if knownF aa x.from_ = true then addR recs (x.from_, msgS nm x) else recs
def sldC (_tag : Nat) (args : List AV) (M : MemF) : Option Res := match args, M 100002, M 100003, M 100004 with
  | [.ptr pw, .v (.string nm), V, .v (.bool right)], some (.var 2 (.ints .u32 64 K2)), some (.var 3 (.ints .u32 8 B0)), some (.var 4 (.ints .u32 64 K)) => match decV V, wldV M pw with
    | some x, some (c, W) => some ⟨(Nat → Prop) × (Nat → Prop), c ∧ VR x ∧ W.recs.length ≤ 999000 ∧ K2 = K ∧ B0 = b0L, fun _ => True, fun _ => .tup (.cons (encV (sldV K nm (W.ents.map (·.1)) x right)) (.cons (.v (.bool true)) .nil)), [W.nR, W.nQ], fun z => [regB W.bR W.ents (sldR nm (W.ents.map (·.1)) W.recs x right) z.1, docB W.bQ W.dents (sldR nm (W.ents.map (·.1)) W.recs x right) z.2]⟩
    | _, _ => none
  | _, _, _, _ => none
theorem hasR_add (recs : List (Int × ByteArray)) (r : Int × ByteArray) : hasR (addR recs r) r = true := by
  unfold addR
  split
  · assumption
  · exact hasR_iff.2 (List.mem_append_right _ (.head _))
theorem addR_idem (recs : List (Int × ByteArray)) (r : Int × ByteArray) : addR (addR recs r) r = addR recs r := by
  rw [show addR (addR recs r) r = if hasR (addR recs r) r then addR recs r else addR recs r ++ [r] from rfl, if_pos (hasR_add recs r)]
theorem addR_len (recs : List (Int × ByteArray)) (r : Int × ByteArray) : (addR recs r).length ≤ recs.length + 1 := by
  unfold addR
  split
  · omega
  · simp
theorem addR_nodup {recs : List (Int × ByteArray)} (h : recs.Nodup) (r : Int × ByteArray) : (addR recs r).Nodup := by
  unfold addR
  split
  · exact h
  · rename_i hr
    exact nodup_add h fun hm => hr (hasR_iff.2 hm)
/-- has one of the first k that address? -/
def kn (l : List (Int × Nat)) (a : Int) (k : Nat) : Bool := (l.take k).any fun e => e.1 == a
theorem kn_succ {l : List (Int × Nat)} {a : Int} {k : Nat} (h : k < l.length) : kn l a (k + 1) = (kn l a k || ((l.getD k (0, 0)).1 == a)) := by
  unfold kn
  rw [List.take_add_one, List.getElem?_eq_getElem h, List.any_append, List.getD_eq_getElem?_getD, List.getElem?_eq_getElem h]
  simp
theorem kn_all (l : List (Int × Nat)) (a : Int) : kn l a l.length = knownF (l.map (·.1)) a := by
  unfold kn knownF
  rw [List.take_length, List.any_map]; rfl
theorem kn_zero (l : List (Int × Nat)) (a : Int) : kn l a 0 = false := by unfold kn; rfl
theorem dent_at {d e : List (Int × Nat)} (h : d.map (·.1) = e.map (·.1)) (k : Nat) : (d.getD k (0, 0)).1 = (e.getD k (0, 0)).1 := by
  have := congrArg (fun l => l[k]?) h
  simp only [List.getElem?_map] at this
  rw [List.getD_eq_getElem?_getD, List.getD_eq_getElem?_getD]
  cases h1 : d[k]? <;> cases h2 : e[k]? <;> simp [h1, h2] at this ⊢
  exact this
def sgA (K : List Int) (nm : ByteArray) (ents : List (Int × Nat)) (x : Vote) (k : Nat) : List Int := if kn ents x.from_ k = true then sgK K nm x else seal1
def rcA (nm : ByteArray) (ents : List (Int × Nat)) (recs : List (Int × ByteArray)) (x : Vote) (k : Nat) : List (Int × ByteArray) := if kn ents x.from_ k = true then addR recs (x.from_, msgS nm x) else recs
theorem rcA_len (nm : ByteArray) (ents : List (Int × Nat)) (recs : List (Int × ByteArray)) (x : Vote) (k : Nat) : (rcA nm ents recs x k).length ≤ recs.length + 1 := by
  unfold rcA
  split
  · exact addR_len _ _
  · omega
theorem rcA_hit {nm : ByteArray} {ents : List (Int × Nat)} {recs : List (Int × ByteArray)} {x : Vote} {k : Nat} (hk : k < ents.length) (h : (ents.getD k (0, 0)).1 = x.from_) : rcA nm ents recs x (k + 1) = addR (rcA nm ents recs x k) ((ents.getD k (0, 0)).1, msgS nm x) := by
  have h1 : kn ents x.from_ (k + 1) = true := by rw [kn_succ hk, h]; simp
  unfold rcA
  rw [if_pos h1, h]
  split
  · rw [addR_idem]
  · rfl
theorem kn_miss {ents : List (Int × Nat)} {a : Int} {k : Nat} (hk : k < ents.length) (h : ((ents.getD k (0, 0)).1 == a) = false) : kn ents a (k + 1) = kn ents a k := by
  rw [kn_succ hk, h, Bool.or_false]
theorem intsEq_self (n : Nat) (l : List Int) : intsEq n l l = true := by unfold intsEq; simp
def ctSl : CtL := [(72, addrC)]
set_option maxRecDepth 100000 in
theorem ctSl_ok : CtLOk Tryz.prog ctSl := ⟨.fn addr_body addr_read, trivial⟩
def crSl : CrL := [(14, dvbC), (73, signC), (74, dsignC)]
set_option maxRecDepth 100000 in
theorem crSl_ok : CrLOk Tryz.prog crSl := ⟨⟨dvb_body, dvb_turn⟩, ⟨sign_body, sign_turn⟩, ⟨dsign_body, dsign_turn⟩, trivial⟩
set_option maxRecDepth 100000 in
set_option maxHeartbeats 2000000 in
theorem sld_turn : TurnFn Tryz.prog 45 sldC := by
  intro tag args M r h0 hok O w0 w hS
  unfold sldC at h0
  split at h0
  · rename_i pw nm V right K2 B0 K hM2 hM3 hM4
    split at h0
    · rename_i x c W hx hw
      have hx := decV_enc hx
      subst hx
      cases h0
      obtain ⟨hc, hvr, hrl, rfl, rfl⟩ := hok
      obtain ⟨⟨S1, S2, x1, c1, x2, c2, hMR, hMQ, hv, hall, ha1, ha2⟩, hne, hde, hel⟩ := wld_open hS hw hc
      obtain ⟨nR, nQ, bR, bQ, ents, dents, recs⟩ := W
      dsimp only at hMR hMQ hall ha1 ha2 hne hde hel hrl
      have hvr1 : VR (withS x seal1) := hvr
      have hG : ∀ {B : Blk}, (∃ k, M k = some B) → (∀ j, B.reads j → ¬ (regB bR ents recs S1).own j) ∧ ∀ j, B.reads j → ¬ (docB bQ dents recs S2).own j := fun ⟨k, hk⟩ => ⟨fun j hr ho => hS.roapart _ _ _ _ _ hMR hk ho hr, fun j hr ho => hS.roapart _ _ _ _ _ hMQ hk ho hr⟩
      rw [show [AV.ptr pw, .v (.string nm), encV x, .v (.bool right)].map AV.val = [roP 902 pw.b pw.cell 4, .v (.string nm), encV x, .v (.bool right)].map AV.val by simp only [List.map_cons, List.map_nil, hv]]
      refine turn_two tabs2 ctSl_ok crSl_ok Tryz.func45 rfl rfl hS _ hMR hMQ hne (C1 := regB bR ents recs S1) (C2 := docB bQ dents recs S2) [(902, roB (some (pw.b, pw.cell)) 4 1 fun _ => wldA bR bQ x1 ents.length c1 x2 c2), (903, roB x1 1 ents.length (sgE 900 ents)), (904, roB x2 1 ents.length (sgE 901 dents)), (100002, .var 2 (.ints .u32 64 K2)), (100003, .var 3 (.ints .u32 8 b0L)), (100004, .var 4 (.ints .u32 64 K2))] rfl rfl (hS.holds _ _ hMR) (fun _ h => h) (fun _ h => h) (hS.holds _ _ hMQ) (fun _ h => h) (fun _ h => h) ⟨hall.1, hall.2.1, hall.2.2.1, hS.holds _ _ hM2, hS.holds _ _ hM3, hS.holds _ _ hM4, trivial⟩ ⟨roB_noOwn, roB_noOwn, roB_noOwn, fun _ h => h, fun _ h => h, fun _ h => h, trivial⟩ ⟨ha1.1, ha1.2.1, ha1.2.2.1, (hG ⟨_, hM2⟩).1, (hG ⟨_, hM3⟩).1, (hG ⟨_, hM4⟩).1, trivial⟩ ⟨ha2.1, ha2.2.1, ha2.2.2.1, (hG ⟨_, hM2⟩).2, (hG ⟨_, hM3⟩).2, (hG ⟨_, hM4⟩).2, trivial⟩ ?_
      repeat (first | refine s_seq ?_ | refine s_region ?_ | refine o_nil ?_ | refine d_nil ?_ | refine oA rfl rfl trivial ?_ | refine oB rfl rfl rfl (fun _ _ => ?_) | refine oC rfl rfl rfl trivial ?_ | refine dA rfl rfl trivial ?_ | refine dB rfl rfl rfl (fun _ _ => ?_) | refine dC rfl rfl rfl trivial ?_ | refine s_skip ?_ | refine s_block ?_ | refine s_exit ?_ | refine s_label ?_)
      refine o_new rfl rfl rfl ⟨(none, _), Nat.le_refl _⟩ ?hc (fun yy hyy => ?_)
      case hc => (repeat' (first | exact hvr1 | apply And.intro)) <;> (first | trivial | rfl | exact Nat.zero_lt_one | decide)
      rename_i b6 _ b8 _
      refine o_le (tm' := [(22, none, okB 22 yy (msgL nm x) (msgE nm x)), (9, none, .v (.bool false)), (8, none, .ptr ⟨8, 0, b8, 0, row43.size, 0, 0, 0, false⟩), (6, none, .ptr ⟨6, 0, b6, 0, row43.size, 0, 0, 0, false⟩), (0, none, roP 902 pw.b pw.cell 4), (3, none, .v (.bool right))]) (M' := [(22, .vrow yy.1 5 1 (msgL nm x).length (vl (msgL nm x)) yy.2), (8, .row b8 43 row43.size 1 (fun _ => row43.zero) 1), (6, .row b6 43 row43.size 1 (fun _ => encV (withS x seal1)) 1), (900, regB bR ents recs S1), (901, docB bQ dents recs S2), (902, roB (some (pw.b, pw.cell)) 4 1 fun _ => wldA bR bQ x1 ents.length c1 x2 c2), (903, roB x1 1 ents.length (sgE 900 ents)), (904, roB x2 1 ents.length (sgE 901 dents)), (100002, .var 2 (.ints .u32 64 K2)), (100003, .var 3 (.ints .u32 8 b0L)), (100004, .var 4 (.ints .u32 64 K2))]) ?_ ?_
      · (refine Le.of ?leT ?leM (by first | exact dfs_nil rfl rfl | exact rfl); (case leT => repeat (first | exact trivial | refine And.intro (by first | exact rfl | (show some (none, AV.v (.int .i64 (IntKind.i64.wrap _))) = _; rw [wi64 (by omega) (by omega)]; rfl)) ?_)); (case leM => repeat (first | exact trivial | refine And.intro ⟨_, rfl, Blk.le_refl _⟩ ?_)))
      repeat (first | refine s_seq ?_ | refine s_region ?_ | refine o_nil ?_ | refine d_nil ?_ | refine oA rfl rfl trivial ?_ | refine oB rfl rfl rfl (fun _ _ => ?_) | refine oC rfl rfl rfl trivial ?_ | refine dA rfl rfl trivial ?_ | refine dB rfl rfl rfl (fun _ _ => ?_) | refine dC rfl rfl rfl trivial ?_ | refine s_skip ?_ | refine s_block ?_ | refine s_exit ?_ | refine s_label ?_)
      have hml : (msgL nm x).length ≤ 200 := dsaid_len nm (withS x seal1)
      have hdl : dents.length = ents.length := by simpa using congrArg List.length hde
      refine s_cond (b := (msgE nm x != 0 || !right)) rfl (fun hT => ?_) (fun hT => ?_)
      · have hRr : sldR nm (ents.map (·.1)) recs x right = recs := by unfold sldR; rw [if_pos hT]
        repeat (first | refine s_seq ?_ | refine s_region ?_ | refine o_nil ?_ | refine d_nil ?_ | refine oA rfl rfl trivial ?_ | refine oB rfl rfl rfl (fun _ _ => ?_) | refine oC rfl rfl rfl trivial ?_ | refine dA rfl rfl trivial ?_ | refine dB rfl rfl rfl (fun _ _ => ?_) | refine dC rfl rfl rfl trivial ?_ | refine s_skip ?_ | refine s_block ?_ | refine s_exit ?_ | refine s_label ?_)
        refine s_ret ?_
        refine ⟨_, _, rfl, ⟨⟨⟨rfl, rfl, rfl, Nat.zero_lt_one⟩, rfl⟩, trivial, trivial⟩, rfl, (S1, S2), trivial, ?_, ⟨⟨_, rfl, le_regR hRr⟩, fun _ h => h⟩, ⟨⟨_, rfl, le_docR hRr⟩, fun _ h => h⟩, trivial⟩
        show (AV.tup (.cons (encV (withS x seal1)) (.cons (.v (.bool true)) .nil))).val = (AV.tup (.cons (encV (sldV K2 nm (ents.map (·.1)) x right)) (.cons (.v (.bool true)) .nil))).val
        rw [sldV, if_pos hT]
      have hT' : ¬ (msgE nm x != 0 || !right) = true := by rw [hT]; decide
      repeat (first | refine s_seq ?_ | refine s_region ?_ | refine o_nil ?_ | refine d_nil ?_ | refine oA rfl rfl trivial ?_ | refine oB rfl rfl rfl (fun _ _ => ?_) | refine oC rfl rfl rfl trivial ?_ | refine dA rfl rfl trivial ?_ | refine dB rfl rfl rfl (fun _ _ => ?_) | refine dC rfl rfl rfl trivial ?_ | refine s_skip ?_ | refine s_block ?_ | refine s_exit ?_ | refine s_label ?_)
      refine s_le (tm' := [(12, none, .v (.int .i64 0)), (10, none, .gs 22 0 (ownB yy.1) 1 0 (msgL nm x).length yy.2), (8, none, .ptr ⟨8, 0, b8, 0, row43.size, 0, 0, 0, false⟩), (6, none, .ptr ⟨6, 0, b6, 0, row43.size, 0, 0, 0, false⟩), (0, none, roP 902 pw.b pw.cell 4)]) (M' := [(22, .vrow yy.1 5 1 (msgL nm x).length (vl (msgL nm x)) yy.2), (8, .row b8 43 row43.size 1 (fun _ => row43.zero) 1), (6, .row b6 43 row43.size 1 (fun _ => encV (withS x seal1)) 1), (900, regB bR ents recs S1), (901, docB bQ dents recs S2), (902, roB (some (pw.b, pw.cell)) 4 1 fun _ => wldA bR bQ x1 ents.length c1 x2 c2), (903, roB x1 1 ents.length (sgE 900 ents)), (904, roB x2 1 ents.length (sgE 901 dents)), (100002, .var 2 (.ints .u32 64 K2)), (100003, .var 3 (.ints .u32 8 b0L)), (100004, .var 4 (.ints .u32 64 K2))]) ?_ ?_
      · (refine Le.of ?leT ?leM (by first | exact dfs_nil rfl rfl | exact rfl); (case leT => repeat (first | exact trivial | refine And.intro (by first | exact rfl | (show some (none, AV.v (.int .i64 (IntKind.i64.wrap _))) = _; rw [wi64 (by omega) (by omega)]; rfl)) ?_)); (case leM => repeat (first | exact trivial | refine And.intro ⟨_, rfl, Blk.le_refl _⟩ ?_)))
      refine s_loopW (α := Nat × (Nat → Prop) × (Nat → Prop)) [12] [6, 900, 901] (fun z => z.1 ≤ ents.length) (fun z => [(12, none, .v (.int .i64 z.1))]) (fun z => [(6, .row b6 43 row43.size 1 (fun _ => encV (withS x (sgA K2 nm ents x z.1))) 1), (900, regB bR ents (rcA nm ents recs x z.1) z.2.1), (901, docB bQ dents (rcA nm ents recs x z.1) z.2.2)]) (fun z => ents.length - z.1) (0, S1, S2) (Nat.zero_le _) ?_ ?_
      · (refine Le.of ?leT ?leM (by first | exact dfs_nil rfl rfl | exact rfl); (case leT => repeat (first | exact trivial | refine And.intro (by first | exact rfl | (show some (none, AV.v (.int .i64 (IntKind.i64.wrap _))) = _; rw [wi64 (by omega) (by omega)]; rfl)) ?_)); (case leM => repeat (first | exact trivial | refine And.intro ⟨_, rfl, Blk.le_refl _⟩ ?_)))
      · intro ⟨k, T1, T2⟩ hk
        dsimp only at hk
        have hrc := rcA_len nm ents recs x k
        repeat (first | refine s_seq ?_ | refine s_region ?_ | refine o_nil ?_ | refine d_nil ?_ | refine oA rfl rfl trivial ?_ | refine oB rfl rfl rfl (fun _ _ => ?_) | refine oC rfl rfl rfl trivial ?_ | refine dA rfl rfl trivial ?_ | refine dB rfl rfl rfl (fun _ _ => ?_) | refine dC rfl rfl rfl trivial ?_ | refine s_skip ?_ | refine s_block ?_ | refine s_exit ?_ | refine s_label ?_)
        refine s_cond (b := decide ((k : Int) < (ents.length : Int))) rfl (fun hb2 => ?_) (fun hb2 => ?_)
        · have hk8 : k < ents.length := by have := of_decide_eq_true hb2; omega
          repeat (first | refine s_seq ?_ | refine s_region ?_ | refine o_nil ?_ | refine d_nil ?_ | refine oA rfl rfl trivial ?_ | refine oB rfl rfl rfl (fun _ _ => ?_) | refine oC rfl rfl rfl trivial ?_ | refine dA rfl rfl trivial ?_ | refine dB rfl rfl rfl (fun _ _ => ?_) | refine dC rfl rfl rfl trivial ?_ | refine s_skip ?_ | refine s_block ?_ | refine s_exit ?_ | refine s_label ?_)
          refine s_draw rD45_8 rM45_8 rX45_8 rN45_8 rfl rfl ?_
          repeat (first | refine s_seq ?_ | refine s_region ?_ | refine o_nil ?_ | refine d_nil ?_ | refine oA rfl rfl trivial ?_ | refine oB rfl rfl rfl (fun _ _ => ?_) | refine oC rfl rfl rfl trivial ?_ | refine dA rfl rfl trivial ?_ | refine dB rfl rfl rfl (fun _ _ => ?_) | refine dC rfl rfl rfl trivial ?_ | refine s_skip ?_ | refine s_block ?_ | refine s_exit ?_ | refine s_label ?_)
          refine s_cond (b := ((dents.getD k (0, 0)).1 == x.from_)) rfl (fun h9 => ?_) (fun h9 => ?_)
          · have h9d : (dents.getD k (0, 0)).1 = x.from_ := by simpa using h9
            have h9e : (ents.getD k (0, 0)).1 = x.from_ := by rw [← dent_at hde]; exact h9d
            have hkd : k < dents.length := by rw [hdl]; exact hk8
            obtain ⟨SA, hSA⟩ : ∃ l, l = sgK K2 nm x := ⟨_, rfl⟩
            have hs1 : seaF K2 b0L (ents.getD k (0, 0)).1 (fun i => (vl (msgL nm x) i).int1) (msgL nm x).length = SA := by rw [sea_of _ _ _ _ _ (by omega), h9e, hSA]; rfl
            have hs2 : ofF K2 b0L (dents.getD k (0, 0)).1 (fun i => (vl (msgL nm x) i).int1) (msgL nm x).length = SA := by rw [h9d, hSA]; rfl
            repeat ((fail_if_success (first | refine o_at 73 ?_ | refine d_at 73 ?_)); (first | refine s_seq ?_ | refine s_region ?_ | refine o_nil ?_ | refine d_nil ?_ | refine oA rfl rfl trivial ?_ | refine oB rfl rfl rfl (fun _ _ => ?_) | refine oC rfl rfl rfl trivial ?_ | refine dA rfl rfl trivial ?_ | refine dB rfl rfl rfl (fun _ _ => ?_) | refine dC rfl rfl rfl trivial ?_ | refine s_skip ?_ | refine s_block ?_ | refine s_exit ?_ | refine s_label ?_))
            refine o_new rfl rfl rfl ⟨fun _ => False, trivial⟩ ?hc1 (fun T3 _ => ?_)
            case hc1 => exact ⟨by (repeat' apply And.intro) <;> trivial, ⟨rfl, hk8, rfl, rfl, rfl, rfl, rfl, rfl⟩, ⟨⟨rfl, rfl, Nat.le_of_eq (Nat.zero_add _)⟩, fun _ => rfl, Nat.le_trans hml (by decide), fun _ _ => rfl⟩, rfl, Nat.le_trans hrc (by omega)⟩
            refine o_le (le_val (t := 61) (av' := (AV.tup (.cons (.ints .u8 16 SA) (.cons (.v (.int .i64 0)) .nil)))) rfl (by show _ = (AV.tup (.cons (.ints .u8 16 (seaF K2 b0L (ents.getD k (0, 0)).1 (fun i => (vl (msgL nm x) i).int1) (msgL nm x).length)) (.cons (.v (.int .i64 0)) .nil))).val; rw [hs1])) ?_
            repeat ((fail_if_success (first | refine o_at 74 ?_ | refine d_at 74 ?_)); (first | refine s_seq ?_ | refine s_region ?_ | refine o_nil ?_ | refine d_nil ?_ | refine oA rfl rfl trivial ?_ | refine oB rfl rfl rfl (fun _ _ => ?_) | refine oC rfl rfl rfl trivial ?_ | refine dA rfl rfl trivial ?_ | refine dB rfl rfl rfl (fun _ _ => ?_) | refine dC rfl rfl rfl trivial ?_ | refine s_skip ?_ | refine s_block ?_ | refine s_exit ?_ | refine s_label ?_))
            refine o_new rfl rfl rfl ⟨fun _ => False, trivial⟩ ?hc2 (fun T4 _ => ?_)
            case hc2 => exact ⟨by (repeat' apply And.intro) <;> trivial, ⟨rfl, hkd, rfl, rfl, rfl, rfl, rfl, rfl⟩, ⟨⟨rfl, rfl, Nat.le_of_eq (Nat.zero_add _)⟩, fun _ => rfl, Nat.le_trans hml (by decide), fun _ _ => rfl⟩, rfl, Nat.le_trans hrc (by omega)⟩
            refine o_le (le_val (t := 73) (av' := (AV.tup (.cons (.ints .u8 16 SA) (.cons (.v (.int .i64 0)) .nil)))) rfl (by show _ = (AV.tup (.cons (.ints .u8 16 (ofF K2 b0L (dents.getD k (0, 0)).1 (fun i => (vl (msgL nm x) i).int1) (msgL nm x).length)) (.cons (.v (.int .i64 0)) .nil))).val; rw [hs2])) ?_
            repeat (first | refine s_seq ?_ | refine s_region ?_ | refine o_nil ?_ | refine d_nil ?_ | refine oA rfl rfl trivial ?_ | refine oB rfl rfl rfl (fun _ _ => ?_) | refine oC rfl rfl rfl trivial ?_ | refine dA rfl rfl trivial ?_ | refine dB rfl rfl rfl (fun _ _ => ?_) | refine dC rfl rfl rfl trivial ?_ | refine s_skip ?_ | refine s_block ?_ | refine s_exit ?_ | refine s_label ?_)
            refine s_cond rfl (fun hb => ?_) (fun _ => ?_)
            · exfalso
              have hb3 : (!(intsEq 16 SA SA) || ((0 : Int) != 0)) = true := hb
              rw [intsEq_self] at hb3
              cases hb3
            · repeat (first | refine s_seq ?_ | refine s_region ?_ | refine o_nil ?_ | refine d_nil ?_ | refine oA rfl rfl trivial ?_ | refine oB rfl rfl rfl (fun _ _ => ?_) | refine oC rfl rfl rfl trivial ?_ | refine dA rfl rfl trivial ?_ | refine dB rfl rfl rfl (fun _ _ => ?_) | refine dC rfl rfl rfl trivial ?_ | refine s_skip ?_ | refine s_block ?_ | refine s_exit ?_ | refine s_label ?_)
              have hsg : sgA K2 nm ents x (k + 1) = SA := by
                unfold sgA
                rw [if_pos (by rw [kn_succ hk8, h9e]; simp), hSA]
              have hrh := rcA_hit (nm := nm) (recs := recs) (x := x) hk8 h9e
              have hrd : rcA nm ents recs x (k + 1) = addR (rcA nm ents recs x k) ((dents.getD k (0, 0)).1, msgS nm x) := by rw [dent_at hde]; exact hrh
              refine ⟨(k + 1, T3, T4), hk8, by dsimp only; omega, ?_⟩
              refine Le.of ?leT ?leM (by first | exact dfs_nil rfl rfl | exact rfl)
              (case leT => repeat (first | exact trivial | refine And.intro (by first | exact rfl | (show some (none, AV.v (.int .i64 (IntKind.i64.wrap _))) = _; rw [wi64 (by omega) (by omega)]; rfl)) ?_))
              case leM => exact ⟨⟨_, rfl, Blk.le_row (Nat.le_refl _) fun i _ => (by show encV (withS x (sgA K2 nm ents x (k + 1))) = _; rw [hsg]; rfl)⟩, ⟨_, rfl, le_regR hrh⟩, ⟨_, rfl, le_docR hrd⟩, ⟨_, rfl, Blk.le_refl _⟩, ⟨_, rfl, Blk.le_refl _⟩, ⟨_, rfl, Blk.le_refl _⟩, ⟨_, rfl, Blk.le_refl _⟩, ⟨_, rfl, Blk.le_refl _⟩, ⟨_, rfl, Blk.le_refl _⟩, ⟨_, rfl, Blk.le_refl _⟩, ⟨_, rfl, Blk.le_refl _⟩, trivial⟩
          · have h9e : ((ents.getD k (0, 0)).1 == x.from_) = false := by rw [← dent_at hde]; exact h9
            repeat (first | refine s_seq ?_ | refine s_region ?_ | refine o_nil ?_ | refine d_nil ?_ | refine oA rfl rfl trivial ?_ | refine oB rfl rfl rfl (fun _ _ => ?_) | refine oC rfl rfl rfl trivial ?_ | refine dA rfl rfl trivial ?_ | refine dB rfl rfl rfl (fun _ _ => ?_) | refine dC rfl rfl rfl trivial ?_ | refine s_skip ?_ | refine s_block ?_ | refine s_exit ?_ | refine s_label ?_)
            have hkm := kn_miss hk8 h9e
            refine ⟨(k + 1, T1, T2), hk8, by dsimp only; omega, ?_⟩
            refine Le.of ?leT ?leM (by first | exact dfs_nil rfl rfl | exact rfl)
            (case leT => repeat (first | exact trivial | refine And.intro (by first | exact rfl | (show some (none, AV.v (.int .i64 (IntKind.i64.wrap _))) = _; rw [wi64 (by omega) (by omega)]; rfl)) ?_))
            case leM => exact ⟨⟨_, rfl, Blk.le_row (Nat.le_refl _) fun i _ => (by show encV (withS x (sgA K2 nm ents x (k + 1))) = encV (withS x (sgA K2 nm ents x k)); unfold sgA; rw [hkm])⟩, ⟨_, rfl, le_regR (by unfold rcA; rw [hkm])⟩, ⟨_, rfl, le_docR (by unfold rcA; rw [hkm])⟩, ⟨_, rfl, Blk.le_refl _⟩, ⟨_, rfl, Blk.le_refl _⟩, ⟨_, rfl, Blk.le_refl _⟩, ⟨_, rfl, Blk.le_refl _⟩, ⟨_, rfl, Blk.le_refl _⟩, ⟨_, rfl, Blk.le_refl _⟩, ⟨_, rfl, Blk.le_refl _⟩, ⟨_, rfl, Blk.le_refl _⟩, trivial⟩
        · have hk8 : k = ents.length := by have := of_decide_eq_false hb2; omega
          subst hk8
          repeat (first | refine s_seq ?_ | refine s_region ?_ | refine o_nil ?_ | refine d_nil ?_ | refine oA rfl rfl trivial ?_ | refine oB rfl rfl rfl (fun _ _ => ?_) | refine oC rfl rfl rfl trivial ?_ | refine dA rfl rfl trivial ?_ | refine dB rfl rfl rfl (fun _ _ => ?_) | refine dC rfl rfl rfl trivial ?_ | refine s_skip ?_ | refine s_block ?_ | refine s_exit ?_ | refine s_label ?_)
          have hVv : withS x (sgA K2 nm ents x ents.length) = sldV K2 nm (ents.map (·.1)) x right := by
            unfold sgA sldV
            rw [if_neg hT', kn_all]
            split <;> rfl
          have hRr : sldR nm (ents.map (·.1)) recs x right = rcA nm ents recs x ents.length := by
            unfold sldR rcA
            rw [if_neg hT', kn_all]
          refine s_ret ?_
          refine ⟨_, _, rfl, ⟨⟨⟨rfl, rfl, rfl, Nat.zero_lt_one⟩, rfl⟩, trivial, trivial⟩, rfl, (T1, T2), trivial, ?_, ⟨⟨_, rfl, le_regR hRr⟩, fun _ h => h⟩, ⟨⟨_, rfl, le_docR hRr⟩, fun _ h => h⟩, trivial⟩
          show (AV.tup (.cons (encV (withS x (sgA K2 nm ents x ents.length))) (.cons (.v (.bool true)) .nil))).val = (AV.tup (.cons (encV (sldV K2 nm (ents.map (·.1)) x right)) (.cons (.v (.bool true)) .nil))).val
          rw [hVv]
    · cases h0
  · cases h0
set_option maxRecDepth 100000 in
theorem sld_body : HasBody Tryz.prog 45 := ⟨_, Tryz.func45, rfl, by decide⟩
end Go.Proofs.YtofophjfgalhaaaGreatDoor.V
