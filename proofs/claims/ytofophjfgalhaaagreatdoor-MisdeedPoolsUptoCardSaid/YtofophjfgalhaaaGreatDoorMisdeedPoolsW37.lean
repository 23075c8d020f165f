import Derived.Test.YtofophjfgalhaaaGreatDoorMisdeedPoolsW17
import Derived.Test.YtofophjfgalhaaaGreatDoorMisdeedPoolsW36
set_option linter.unusedVariables false
set_option linter.unusedSimpArgs false
set_option maxRecDepth 100000
set_option maxHeartbeats 8000000
namespace Go.Proofs.YtofophjfgalhaaaGreatDoor.V
open Go Go.RowKit
theorem fapp_Ek {L : List (Vote × Vote)} {e : Vote × Vote} {f src : Nat → AV} {k : Nat} (hk : L.length = k) (hf : ∀ i, i < L.length → f i = encE (L.getD i default)) (hs : src 0 = encE e) : ∀ i, i < k + 1 → encE ((L ++ [e]).getD i default) = fapp k f src i := by
 subst hk
 intro i hi
 exact fapp_E hf hs i (by rw [List.length_append]; exact hi)
def bestF (C : Vote × Vote → Bool) (dl : List (Vote × Vote)) : Nat → Option Nat
 | 0 => none
 | k + 1 => match bestF C dl k with
  | none => if C (dl.getD k default) = true then some k else none
  | some b => if (C (dl.getD k default) && befF (dl.getD k default) (dl.getD b default)) = true then some k else some b
def bestI : Option Nat → Int
 | none => -1
 | some b => b
theorem bestF_lt {C : Vote × Vote → Bool} {dl : List (Vote × Vote)} : ∀ {k b : Nat}, bestF C dl k = some b → b < k
 | 0, b, h => by cases h
 | k + 1, b, h => by
  unfold bestF at h
  split at h
  ·
   split at h
   ·
    cases h; omega
   ·
    cases h
  ·
   rename_i b' hb
   split at h
   ·
    cases h; omega
   ·
    cases h
    have := bestF_lt hb
    omega
theorem bestF_skip {C : Vote × Vote → Bool} {dl : List (Vote × Vote)} {k : Nat} (h : C (dl.getD k default) = false) : bestF C dl (k + 1) = bestF C dl k := by
 show (match bestF C dl k with
  | none => if C (dl.getD k default) = true then some k else none
  | some b => if (C (dl.getD k default) && befF (dl.getD k default) (dl.getD b default)) = true then some k else some b) = _
 rw [h]
 cases bestF C dl k <;> rfl
theorem bestF_none {C : Vote × Vote → Bool} {dl : List (Vote × Vote)} {k : Nat} (h : bestF C dl k = none) (hc : C (dl.getD k default) = true) : bestF C dl (k + 1) = some k := by
 show (match bestF C dl k with
  | none => if C (dl.getD k default) = true then some k else none
  | some b => if (C (dl.getD k default) && befF (dl.getD k default) (dl.getD b default)) = true then some k else some b) = _
 rw [h]
 exact if_pos hc
theorem bestF_some {C : Vote × Vote → Bool} {dl : List (Vote × Vote)} {k b : Nat} (h : bestF C dl k = some b) : bestF C dl (k + 1) = if (C (dl.getD k default) && befF (dl.getD k default) (dl.getD b default)) = true then some k else some b := by
 show (match bestF C dl k with
  | none => if C (dl.getD k default) = true then some k else none
  | some b => if (C (dl.getD k default) && befF (dl.getD k default) (dl.getD b default)) = true then some k else some b) = _
 rw [h]
def canF (V : Vote × Vote → Int) (out : List (Vote × Vote)) (x : Vote × Vote) : Bool := !(decide ((out.length : Int) > 0) && !(befF (out.getD (out.length - 1) default) x)) && (V x == 0)
def dpk (V : Vote × Vote → Int) (dl : List (Vote × Vote)) : Nat → List (Vote × Vote)
 | 0 => []
 | j + 1 => match bestF (canF V (dpk V dl j)) dl dl.length with
  | none => dpk V dl j
  | some b => dpk V dl j ++ [dl.getD b default]
theorem dpk_next {V : Vote × Vote → Int} {dl : List (Vote × Vote)} {j b : Nat} (h : bestF (canF V (dpk V dl j)) dl dl.length = some b) : dpk V dl (j + 1) = dpk V dl j ++ [dl.getD b default] := by
 show (match bestF (canF V (dpk V dl j)) dl dl.length with
  | none => dpk V dl j
  | some b => dpk V dl j ++ [dl.getD b default]) = _
 rw [h]
theorem dpk_stop {V : Vote × Vote → Int} {dl : List (Vote × Vote)} {j : Nat} (h : bestF (canF V (dpk V dl j)) dl dl.length = none) : ∀ i, dpk V dl (j + i) = dpk V dl j
 | 0 => rfl
 | i + 1 => by
  have ih := dpk_stop h i
  show (match bestF (canF V (dpk V dl (j + i))) dl dl.length with
   | none => dpk V dl (j + i)
   | some b => dpk V dl (j + i) ++ [dl.getD b default]) = _
  rw [ih, h]
def dverE (K : List Int) (s : StV) (l : List PstV) (mb : Nat → List Int) (pun : List (Int × Int)) (recs : List (Int × ByteArray)) (x : Vote × Vote) : Int := verR s l mb pun (pairD x.1 x.2) x.1 x.2 (sealedD K s.nm recs x.1) (sealedD K s.nm recs x.2)
def dpickC (tag : Nat) (args : List AV) (M : MemF) : Option Res := match args, M 100002 with
 | [.ptr p, S, .ptr q], some (.var 2 (.ints .u32 64 K)) => match decS S, docV M q, dpV M p with
  | some s, some (c, aa, recs), some (c0, n, bp, va, dl, cap) => match pstV M s.a3 s.n3, comeIn M 90002 2 off1 offX s.a4 s.n4, M 90003 with
   | some (c1, l), some (c2, pun), some (.vro es3 base3 len3 f3) => some ⟨Option Nat × Nat, c0 ∧ c ∧ (c1 ∧ c2 ∧ ∀ k, k < l.length → (mbK M (l.getD k default)).1) ∧ (∀ x, x ∈ dl → VR x.1 ∧ VR x.2) ∧ recs.length ≤ 4000000000000, fun z => (dpk (dverE K s l (fun k => (mbK M (l.getD k default)).2.map (·.1)) pun recs) dl 16).length ≤ z.2, fun z => .gs tag 0 (ownB z.1) 106 0 (dpk (dverE K s l (fun k => (mbK M (l.getD k default)).2.map (·.1)) pun recs) dl 16).length z.2, [tag],
     fun z => [.vrow z.1 52 106 (dpk (dverE K s l (fun k => (mbK M (l.getD k default)).2.map (·.1)) pun recs) dl 16).length (fun i => encE ((dpk (dverE K s l (fun k => (mbK M (l.getD k default)).2.map (·.1)) pun recs) dl 16).getD i default)) z.2]⟩
   | _, _, _ => none
  | _, _, _ => none
 | _, _ => none
def ctDpk : CtL := [(13, dverC), (104, befC)]
theorem ctDpk_ok : CtLOk Tryz.prog ctDpk := ⟨.fn dver_body dver_read, .fn bef_body bef_read, trivial⟩
section
attribute [local irreducible] verR sealedD pairD
theorem dpick_turn : TurnFn Tryz.prog 35 dpickC := by
 intro tag args M r h0 hok O w0 w hS
 unfold dpickC at h0
 split at h0
 ·
  rename_i p S q K hM2
  split at h0
  ·
   rename_i s c aa recs c0 n bp va dl cap hs hq hdp
   have hs := decS_enc hs
   subst hs
   split at h0
   ·
    rename_i c1 l c2 pun es3 base3 len3 f3 hpst hpun hM90003
    cases h0
    obtain ⟨hc0, hc, ⟨hc1, hc2, hmb⟩, hvr, hrl⟩ := hok
    obtain ⟨hvp, hp1, hp2, _⟩ := dpl_ro hS hdp hc0
    obtain ⟨_, _, _, hdl, _⟩ := dpV_spec hS hdp hc0
    obtain ⟨bq, iq, x1, cx1, x2, cx2, hvq, hq1, hq2, hq3⟩ := doc_open hS hq hc
    obtain ⟨es1, base1, len1, f1, hM1, _⟩ := comeIn_entry hpst
    obtain ⟨es2, base2, len2, f2, hM2', _⟩ := comeIn_entry hpun
    rw [show [.ptr p, encS s, .ptr q].map AV.val = [roP 910 bp 0 2, encS s, roP 900 bq iq 3].map AV.val by simp only [List.map_cons, List.map_nil, hvp, hvq]]
    obtain ⟨V, hV⟩ : ∃ V, V = dverE K s l (fun k => (mbK M (l.getD k default)).2.map (·.1)) pun recs := ⟨_, rfl⟩
    rw [← hV]
    refine turn_new tabs2 ctDpk_ok (cr := []) trivial Tryz.func35 rfl rfl hS _ [(910, roB (some (bp, 0)) 2 1 fun _ => .agg (.cons (.v (.bool true)) (.cons (.gs 911 0 (ownB va) 106 0 dl.length cap) .nil))), (911, roB (ownB va) 106 dl.length fun i => encE (dl.getD i default)), (900, roB (some (bq, iq)) 3 1 fun _ => docAV x1 aa.length cx1 x2 recs.length cx2), (901, roB x1 1 aa.length (asE aa)), (902, roB x2 2 recs.length (recE recs)), (90001, .vro es1 base1 len1 f1), (90002, .vro es2 base2 len2 f2), (90003, .vro es3 base3 len3 f3), (100002, .var 2 (.ints .u32 64 K))] [950] rfl ⟨hp1, hp2, hq1, hq2, hq3, hS.holds _ _ hM1, hS.holds _ _ hM2', hS.holds _ _ hM90003, hS.holds _ _ hM2, trivial⟩ ⟨roB_noOwn, roB_noOwn, roB_noOwn, roB_noOwn, roB_noOwn, fun _ h => h, fun _ h => h, fun _ h => h, fun _ h => h, trivial⟩ (by decide) rfl ?_
    unfold pstV comeIn at hpst
    rw [hM1] at hpst
    unfold comeIn at hpun
    rw [hM2'] at hpun
    cases hpst
    cases hpun
    simp only [mbK, comeIn, hM90003] at hmb hV
    have hV2 := hV
    rw [← recs_again recs] at hV2
    repeat (first | refine qs_ ?_ | refine qa_ ?_ | refine qo_ ?_ | refine qd_ ?_ | refine za ?_ | refine zb fun _ _ => ?_ | refine zc ?_ | refine ya ?_ | refine yb fun _ _ => ?_ | refine yc ?_ | refine qk_ ?_ | refine qb_ ?_ | refine qx_ ?_)
    refine s_le (le_nil (t := 7) (n := 950) 52 106 (fun i => encE (([] : List (Vote × Vote)).getD i default)) rfl rfl) ?_
    refine s_loopW (α := Nat × Option Nat × Nat) [6, 7, 8, 9, 10, 11, 12, 13, 14, 15, 16, 17, 18, 19, 20, 21, 22, 23, 24, 25, 26, 27, 28, 29, 30, 31, 32, 33, 34, 35, 36, 37, 38, 39, 40, 41, 42, 43, 44, 45, 46, 47, 48, 49, 50, 51, 52, 53, 54, 55, 56, 57, 58, 59, 60, 61, 62, 63, 64, 65, 66, 67, 68, 69, 70, 71, 72, 73, 74, 75, 76, 77, 78, 79, 80, 81, 82, 83, 84, 85, 86, 87, 88, 89, 90] [950] (fun z => z.1 ≤ 16 ∧ (dpk V dl z.1).length = z.1 ∧ z.1 ≤ z.2.2) (fun z => [(7, none, .gs 950 0 (ownB z.2.1) 106 0 z.1 z.2.2)]) (fun z => [(950, .vrow z.2.1 52 106 z.1 (fun i => encE ((dpk V dl z.1).getD i default)) z.2.2)]) (fun z => 16 - z.1) (0, none, 0) ⟨Nat.zero_le _, rfl, Nat.le_refl _⟩ ?_ ?_
    ·
     exact leQ
    ·
     intro ⟨j, a, cp⟩ ⟨hj, hjl, hcp⟩
     dsimp only at hj hjl hcp
     repeat (first | refine qs_ ?_ | refine qa_ ?_ | refine qo_ ?_ | refine qd_ ?_ | refine za ?_ | refine zb fun _ _ => ?_ | refine zc ?_ | refine ya ?_ | refine yb fun _ _ => ?_ | refine yc ?_ | refine qk_ ?_ | refine qb_ ?_ | refine qx_ ?_)
     refine s_cond (b := decide ((j : Int) < 16)) rfl (fun hb2 => ?_) (fun hb2 => ?_)
     ·
      have hj8 : j < 16 := by have := of_decide_eq_true hb2; omega
      repeat (first | refine qs_ ?_ | refine qa_ ?_ | refine qo_ ?_ | refine qd_ ?_ | refine za ?_ | refine zb fun _ _ => ?_ | refine zc ?_ | refine ya ?_ | refine yb fun _ _ => ?_ | refine yc ?_ | refine qk_ ?_ | refine qb_ ?_ | refine qx_ ?_)
      obtain ⟨out, hout⟩ : ∃ out, out = dpk V dl j := ⟨_, rfl⟩
      refine s_loopW (α := Nat) [8, 9, 10, 14, 15, 16, 17, 18, 19, 20, 21, 22, 23, 24, 25, 26, 27, 28, 29, 30, 31, 32, 33, 34, 35, 36, 37, 38, 39, 40, 41, 42, 43, 44, 45, 46, 47, 48, 49, 50, 51, 52, 53, 54, 55, 56, 57, 58, 59, 60, 61, 62, 63, 64, 65, 66, 67, 68, 69, 70, 71, 72, 73, 74, 75] [] (fun k => k ≤ dl.length) (fun k => [(9, none, .v (.int .i64 k)), (8, none, .v (.int .i64 (bestI (bestF (canF V out) dl k))))]) (fun _ => []) (fun k => dl.length - k) 0 (Nat.zero_le _) ?_ ?_
      ·
       exact leQ
      ·
       intro k hk
       repeat (first | refine qs_ ?_ | refine qa_ ?_ | refine qo_ ?_ | refine qd_ ?_ | refine za ?_ | refine zb fun _ _ => ?_ | refine zc ?_ | refine ya ?_ | refine yb fun _ _ => ?_ | refine yc ?_ | refine qk_ ?_ | refine qb_ ?_ | refine qx_ ?_)
       refine s_cond (b := decide ((k : Int) < (dl.length : Int))) rfl (fun hb3 => ?_) (fun hb3 => ?_)
       ·
        have hk8 : k < dl.length := by have := of_decide_eq_true hb3; omega
        repeat (first | refine qs_ ?_ | refine qa_ ?_ | refine qo_ ?_ | refine qd_ ?_ | refine za ?_ | refine zb fun _ _ => ?_ | refine zc ?_ | refine ya ?_ | refine yb fun _ _ => ?_ | refine yc ?_ | refine qk_ ?_ | refine qb_ ?_ | refine qx_ ?_)
        refine s_draw rD35_7 rM35_7 rX35_7 rN35_7 rfl rfl ?_
        repeat (first | refine qs_ ?_ | refine qa_ ?_ | refine qo_ ?_ | refine qd_ ?_ | refine za ?_ | refine zb fun _ _ => ?_ | refine zc ?_ | refine ya ?_ | refine yb fun _ _ => ?_ | refine yc ?_ | refine qk_ ?_ | refine qb_ ?_ | refine qx_ ?_)
        have hg : (decide ((j : Int) > 0) && !(befF ((dpk V dl j).getD ((IntKind.i64.wrap ((j : Int) - 1)).toNat + 0) default) (dl.getD k default))) = (decide ((out.length : Int) > 0) && !(befF (out.getD (out.length - 1) default) (dl.getD k default))) := by
         rw [hout, hjl]
         rcases Nat.eq_zero_or_pos j with e | e
         ·
          subst e; rfl
         ·
          rw [wi64 (by omega) (by omega), show ((j : Int) - 1).toNat + 0 = j - 1 by omega]
        refine s_cond (b := (decide ((j : Int) > 0) && !(befF ((dpk V dl j).getD ((IntKind.i64.wrap ((j : Int) - 1)).toNat + 0) default) (dl.getD k default)))) rfl (fun hb => ?_) (fun hb => ?_)
        ·
         have hbs : bestF (canF V out) dl (k + 1) = bestF (canF V out) dl k := bestF_skip (by unfold canF; rw [← hg, hb]; rfl)
         repeat (first | refine qs_ ?_ | refine qa_ ?_ | refine qo_ ?_ | refine qd_ ?_ | refine za ?_ | refine zb fun _ _ => ?_ | refine zc ?_ | refine ya ?_ | refine yb fun _ _ => ?_ | refine yc ?_ | refine qk_ ?_ | refine qb_ ?_ | refine qx_ ?_)
         refine ⟨k + 1, hk8, by omega, ?_⟩
         rw [hbs]
         exact leQ
        ·
         have hcn : canF V out (dl.getD k default) = (V (dl.getD k default) == 0) := by unfold canF; rw [← hg, hb]; rfl
         obtain ⟨hvA, hvB⟩ := hvr (dl.getD k default) (by rw [List.getD_eq_getElem?_getD, List.getElem?_eq_getElem hk8]; exact List.getElem_mem hk8)
         repeat (first | refine qs_ ?_ | refine qa_ ?_ | refine qo_ ?_ | refine qd_ ?_ | refine za ?_ | refine zb fun _ _ => ?_ | refine zc ?_ | refine ya ?_ | refine yb fun _ _ => ?_ | refine yc ?_ | refine qk_ ?_ | refine qb_ ?_ | refine qx_ ?_)
         refine s_draw rD35_8 rM35_8 rX35_8 rN35_8 rfl rfl ?_
         repeat ((fail_if_success (first | refine o_at 13 ?_ | refine d_at 13 ?_)); (first | refine qs_ ?_ | refine qa_ ?_ | refine qo_ ?_ | refine qd_ ?_ | refine za ?_ | refine zb fun _ _ => ?_ | refine zc ?_ | refine ya ?_ | refine yb fun _ _ => ?_ | refine yc ?_ | refine qk_ ?_ | refine qb_ ?_ | refine qx_ ?_))
         refine d_val rfl rfl trivial ⟨by (repeat' apply And.intro) <;> trivial, ⟨⟨⟨rfl, rfl, Nat.zero_lt_one⟩, rfl⟩, ⟨⟨rfl, rfl, Nat.le_of_eq (Nat.zero_add _)⟩, fun _ => rfl, fun _ _ => rfl⟩, ⟨rfl, rfl, Nat.le_of_eq (Nat.zero_add _)⟩, fun _ => rfl, fun _ _ => rfl⟩, ⟨hc1, hc2, hmb⟩, hvA, hvB, by rw [List.length_map, List.length_range]; exact hrl⟩ ?_
         repeat (first | refine qs_ ?_ | refine qa_ ?_ | refine qo_ ?_ | refine qd_ ?_ | refine za ?_ | refine zb fun _ _ => ?_ | refine zc ?_ | refine ya ?_ | refine yb fun _ _ => ?_ | refine yc ?_ | refine qk_ ?_ | refine qb_ ?_ | refine qx_ ?_)
         refine s_le (le_val (t := 10) (av' := .v (.int .i64 (V (dl.getD k default)))) rfl ?hv) ?_
         case hv => rw [hV2]; rfl
         cases hbst : bestF (canF V out) dl k with
         | none =>
          refine s_le (le_val (t := 8) (av' := .v (.int .i64 (-1))) rfl rfl) ?_
          refine s_draw rD35_9 rM35_9 rX35_9 rN35_9 rfl rfl ?_
          repeat (first | refine qs_ ?_ | refine qa_ ?_ | refine qo_ ?_ | refine qd_ ?_ | refine za ?_ | refine zb fun _ _ => ?_ | refine zc ?_ | refine ya ?_ | refine yb fun _ _ => ?_ | refine yc ?_ | refine qk_ ?_ | refine qb_ ?_ | refine qx_ ?_)
          refine s_cond rfl (fun h9 => ?_) (fun h9 => ?_)
          ·
           have hbs : bestF (canF V out) dl (k + 1) = some k := bestF_none hbst (by rw [hcn]; exact (Bool.and_eq_true_iff.1 h9).1)
           repeat (first | refine qs_ ?_ | refine qa_ ?_ | refine qo_ ?_ | refine qd_ ?_ | refine za ?_ | refine zb fun _ _ => ?_ | refine zc ?_ | refine ya ?_ | refine yb fun _ _ => ?_ | refine yc ?_ | refine qk_ ?_ | refine qb_ ?_ | refine qx_ ?_)
           refine ⟨k + 1, hk8, by omega, ?_⟩
           rw [hbs]
           exact leQ
          ·
           have hbs : bestF (canF V out) dl (k + 1) = none := by
            rw [bestF_skip, hbst]
            rw [hcn]
            rcases Bool.and_eq_false_iff.1 h9 with h | h
            ·
             exact h
            ·
             exact absurd (Bool.or_eq_false_iff.1 h).1 (by decide)
           repeat (first | refine qs_ ?_ | refine qa_ ?_ | refine qo_ ?_ | refine qd_ ?_ | refine za ?_ | refine zb fun _ _ => ?_ | refine zc ?_ | refine ya ?_ | refine yb fun _ _ => ?_ | refine yc ?_ | refine qk_ ?_ | refine qb_ ?_ | refine qx_ ?_)
           refine ⟨k + 1, hk8, by omega, ?_⟩
           rw [hbs]
           exact leQ
         | some b =>
          have hbk := bestF_lt hbst
          refine s_le (le_val (t := 8) (av' := .v (.int .i64 b)) rfl rfl) ?_
          refine s_draw rD35_9 rM35_9 rX35_9 rN35_9 rfl rfl ?_
          repeat (first | refine qs_ ?_ | refine qa_ ?_ | refine qo_ ?_ | refine qd_ ?_ | refine za ?_ | refine zb fun _ _ => ?_ | refine zc ?_ | refine ya ?_ | refine yb fun _ _ => ?_ | refine yc ?_ | refine qk_ ?_ | refine qb_ ?_ | refine qx_ ?_)
          have hb0 : decide ((b : Int) < 0) = false := decide_eq_false (by omega)
          refine s_cond (b := (V (dl.getD k default) == 0) && (decide ((b : Int) < 0) || befF (dl.getD k default) (dl.getD b default))) rfl (fun h9 => ?_) (fun h9 => ?_)
          ·
           rw [hb0, Bool.false_or] at h9
           have hbs : bestF (canF V out) dl (k + 1) = some k := by rw [bestF_some hbst, hcn, if_pos h9]
           repeat (first | refine qs_ ?_ | refine qa_ ?_ | refine qo_ ?_ | refine qd_ ?_ | refine za ?_ | refine zb fun _ _ => ?_ | refine zc ?_ | refine ya ?_ | refine yb fun _ _ => ?_ | refine yc ?_ | refine qk_ ?_ | refine qb_ ?_ | refine qx_ ?_)
           refine ⟨k + 1, hk8, by omega, ?_⟩
           rw [hbs]
           exact leQ
          ·
           rw [hb0, Bool.false_or] at h9
           have hbs : bestF (canF V out) dl (k + 1) = some b := by rw [bestF_some hbst, hcn, if_neg (by rw [h9]; decide)]
           repeat (first | refine qs_ ?_ | refine qa_ ?_ | refine qo_ ?_ | refine qd_ ?_ | refine za ?_ | refine zb fun _ _ => ?_ | refine zc ?_ | refine ya ?_ | refine yb fun _ _ => ?_ | refine yc ?_ | refine qk_ ?_ | refine qb_ ?_ | refine qx_ ?_)
           refine ⟨k + 1, hk8, by omega, ?_⟩
           rw [hbs]
           exact leQ
       ·
        have hk8 : k = dl.length := by have := of_decide_eq_false hb3; omega
        subst hk8
        cases hbst : bestF (canF V out) dl dl.length with
        | none =>
         have hstop : dpk V dl 16 = dpk V dl j := by
          rw [hout] at hbst
          rw [show 16 = j + (16 - j) by omega]
          exact dpk_stop hbst _
         refine s_le (le_val (t := 8) (av' := .v (.int .i64 (-1))) rfl rfl) ?_
         repeat (first | refine qs_ ?_ | refine qa_ ?_ | refine qo_ ?_ | refine qd_ ?_ | refine za ?_ | refine zb fun _ _ => ?_ | refine zc ?_ | refine ya ?_ | refine yb fun _ _ => ?_ | refine yc ?_ | refine qk_ ?_ | refine qb_ ?_ | refine qx_ ?_)
         refine s_cond (b := true) rfl (fun _ => ?_) (fun hb => by cases hb)
         repeat (first | refine qs_ ?_ | refine qa_ ?_ | refine qo_ ?_ | refine qd_ ?_ | refine za ?_ | refine zb fun _ _ => ?_ | refine zc ?_ | refine ya ?_ | refine yb fun _ _ => ?_ | refine yc ?_ | refine qk_ ?_ | refine qb_ ?_ | refine qx_ ?_)
         refine s_ret ?_
         rw [hstop, hjl]
         exact ⟨_, _, rfl, ⟨trivial, trivial⟩, rfl, (a, cp), hcp, rfl, ⟨⟨_, rfl, Blk.le_refl _⟩, fun _ h => h⟩, trivial⟩
        | some b =>
         have hbk := bestF_lt hbst
         have hb0 : decide ((b : Int) < 0) = false := decide_eq_false (by omega)
         have hnx : dpk V dl (j + 1) = dpk V dl j ++ [dl.getD b default] := dpk_next (by rw [← hout]; exact hbst)
         refine s_le (le_val (t := 8) (av' := .v (.int .i64 b)) rfl rfl) ?_
         repeat (first | refine qs_ ?_ | refine qa_ ?_ | refine qo_ ?_ | refine qd_ ?_ | refine za ?_ | refine zb fun _ _ => ?_ | refine zc ?_ | refine ya ?_ | refine yb fun _ _ => ?_ | refine yc ?_ | refine qk_ ?_ | refine qb_ ?_ | refine qx_ ?_)
         refine s_cond (b := decide ((b : Int) < 0)) rfl (fun hb => absurd hb (by rw [hb0]; decide)) (fun _ => ?_)
         repeat (first | refine qs_ ?_ | refine qa_ ?_ | refine qo_ ?_ | refine qd_ ?_ | refine za ?_ | refine zb fun _ _ => ?_ | refine zc ?_ | refine ya ?_ | refine yb fun _ _ => ?_ | refine yc ?_ | refine qk_ ?_ | refine qb_ ?_ | refine qx_ ?_)
         rename_i y hy
         refine ⟨(j + 1, y.1, y.2), ⟨hj8, by dsimp only; rw [hnx, List.length_append, hjl]; rfl, hy⟩, by dsimp only; omega, ?_⟩
         dsimp only
         rw [hnx]
         refine Le.of ?leT ?leM (dfs_nil rfl rfl)
         case leT => repeat (first | exact trivial | refine And.intro (by exact rfl) ?_)
         case leM => (refine And.intro ⟨_, rfl, Blk.le_vrow (Nat.le_refl _) (fapp_Ek (L := dpk V dl j) (e := dl.getD b default) hjl (fun _ _ => rfl) rfl)⟩ ?_); repeat (first | exact trivial | refine And.intro ⟨_, rfl, Blk.le_refl _⟩ ?_)
     ·
      have hj8 : j = 16 := by have := of_decide_eq_false hb2; omega
      subst hj8
      repeat (first | refine qs_ ?_ | refine qa_ ?_ | refine qo_ ?_ | refine qd_ ?_ | refine za ?_ | refine zb fun _ _ => ?_ | refine zc ?_ | refine ya ?_ | refine yb fun _ _ => ?_ | refine yc ?_ | refine qk_ ?_ | refine qb_ ?_ | refine qx_ ?_)
      refine s_ret ?_
      rw [hjl]
      exact ⟨_, _, rfl, ⟨trivial, trivial⟩, rfl, (a, cp), hcp, rfl, ⟨⟨_, rfl, Blk.le_refl _⟩, fun _ h => h⟩, trivial⟩
   ·
    cases h0
  ·
   cases h0
 ·
  cases h0
theorem dpick_body : HasBody Tryz.prog 35 := ⟨_, Tryz.func35, rfl, by decide⟩
end
end Go.Proofs.YtofophjfgalhaaaGreatDoor.V
