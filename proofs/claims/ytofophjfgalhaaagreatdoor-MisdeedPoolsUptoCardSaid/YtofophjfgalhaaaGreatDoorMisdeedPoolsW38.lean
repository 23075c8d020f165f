import Derived.Test.YtofophjfgalhaaaGreatDoorMisdeedPoolsW15
import Derived.Test.YtofophjfgalhaaaGreatDoorMisdeedPoolsW17
import Derived.Test.YtofophjfgalhaaaGreatDoorMisdeedPoolsW35
import Derived.Test.YtofophjfgalhaaaGreatDoorMisdeedPoolsW37
set_option linter.unusedVariables false
set_option linter.unusedSimpArgs false
set_option maxRecDepth 100000
set_option maxHeartbeats 8000000
namespace Go.Proofs.YtofophjfgalhaaaGreatDoor.V
open Go Go.RowKit
theorem s_join {X : Cx} {c y : Code} {tm : Tm} {M : Mem} {K : Exit → Tm → Mem → Prop} (tm' : Tm) (M' : Mem) (h : CodeS X c tm M fun e tm1 M1 => e = .normal ∧ Le X tm1 M1 tm' M') (hy : CodeS X y tm' M' K) : CodeS X c tm M (thenK X y K) :=
 s_mono h fun e tm1 M1 ⟨he, hl⟩ => by subst he; exact s_le hl hy
def dgoF (s : StV) (l : List PstV) (pun : List (Int × Int)) (x : Vote × Vote) : Bool := !(cntF s x.1.height) || (decide (offIx (x.1.height, x.1.from_) pun 0 ≥ 0) || decide (numIx x.1.height (l.map (·.h)) 0 < 0))
def dinF (H : List (Vote × Vote)) (x : Vote × Vote) : Bool := H.any fun d => d.1.height == x.1.height && d.1.from_ == x.1.from_
def dkeF (s : StV) (l : List PstV) (pun : List (Int × Int)) (H : List (Vote × Vote)) (x : Vote × Vote) : Bool := !(dgoF s l pun x || dinF H x)
theorem take_addE {L : List (Vote × Vote)} {k : Nat} (h : k < L.length) : L.take (k + 1) = L.take k ++ [L.getD k default] := by
 rw [List.take_add_one, List.getElem?_eq_getElem h, List.getD_eq_getElem?_getD, List.getElem?_eq_getElem h]; rfl
theorem din_succ {H : List (Vote × Vote)} {x : Vote × Vote} {k : Nat} (h : k < H.length) : dinF (H.take (k + 1)) x = (dinF (H.take k) x || ((H.getD k default).1.height == x.1.height && (H.getD k default).1.from_ == x.1.from_)) := by
 unfold dinF
 rw [take_addE h, List.any_append]
 congr 1
 exact Bool.or_false _
theorem dke_succ {C : Vote × Vote → Bool} {dl : List (Vote × Vote)} {k : Nat} (h : k < dl.length) : (dl.take (k + 1)).filter C = if C (dl.getD k default) = true then (dl.take k).filter C ++ [dl.getD k default] else (dl.take k).filter C := by
 rw [take_addE h, List.filter_append]
 split
 ·
  rename_i h1; rw [List.filter_cons_of_pos h1]; rfl
 ·
  rename_i h1; rw [List.filter_cons_of_neg h1]; exact List.append_nil _
def dsettleC (_tag : Nat) (args : List AV) (M : MemF) : Option Res := match args with
 | [.ptr p, S, X] => match decS S, dpV M p, seqOf M X with
  | some s, some (c0, n, bp, va, dl, cap), some (c3, es, m, fx) => match pstV M s.a3 s.n3, comeIn M 90002 2 off1 offX s.a4 s.n4 with
   | some (c1, l), some (c2, pun) => some ⟨Option Nat × Nat, c0 ∧ (c1 ∧ c2) ∧ c3 ∧ (m ≠ 0 → es = 106) ∧ (tagNe p.n X = true ∧ tagNe n X = true) ∧ m ≤ 1000000000000 ∧ ∀ i, i < m → fx i = encE (decE (fx i)), fun _ => True, fun _ => .tup .nil, [p.n, n],
     fun z => [.row bp 215 2 1 (fun _ => dplA n z.1 (dl.filter (dkeF s l pun ((List.range m).map fun i => decE (fx i)))).length z.2) 1, .vrow z.1 52 106 (dl.filter (dkeF s l pun ((List.range m).map fun i => decE (fx i)))).length (fun i => encE ((dl.filter (dkeF s l pun ((List.range m).map fun i => decE (fx i)))).getD i default)) z.2]⟩
   | _, _ => none
  | _, _, _ => none
 | _ => none
def ctDst : CtL := [(61, dpunC), (58, dpastC), (59, cntC)]
theorem ctDst_ok : CtLOk Tryz.prog ctDst := ⟨.fn dpun_body dpun_read, .fn dpast_body dpast_read, .fn dcnt_body dcnt_read, trivial⟩
theorem dsettle_turn : TurnFn Tryz.prog 37 dsettleC := by
 intro tag args M r h0 hok O w0 w hS
 unfold dsettleC at h0
 split at h0
 ·
  rename_i p S X
  split at h0
  ·
   rename_i s c0 n bp va dl cap c3 es m fx hs hdp hsx
   have hs := decS_enc hs
   subst hs
   split at h0
   ·
    rename_i c1 l c2 pun hpst hpun
    cases h0
    obtain ⟨hc0, ⟨hc1, hc2⟩, hc3, hes, ⟨ht1, ht2⟩, hm, hfx⟩ := hok
    obtain ⟨⟨B1, B2, hMp, hMl, ho1, ho2⟩, hvp, hn1, hdl, hr1, hr2⟩ := dpV_spec hS hdp hc0
    obtain ⟨es1, base1, len1, f1, hM1, _⟩ := comeIn_entry hpst
    obtain ⟨es2, base2, len2, f2, hM2, _⟩ := comeIn_entry hpun
    obtain ⟨base, cax, hvx, hrx⟩ := seqOf_spec hS hsx hc3
    obtain ⟨H, hH⟩ : ∃ H : List (Vote × Vote), H = (List.range m).map fun i => decE (fx i) := ⟨_, rfl⟩
    have hHl : H.length = m := by rw [hH]; simp
    have hro : (roB base 106 m fun i => encE (H.getD i default)).holds w := roB_holds fun h => by
     obtain ⟨b, o, h1, h2⟩ := hrx h
     rw [hes h] at h2
     refine ⟨b, o, h1, h2.congr fun i hi => ?_⟩
     rw [hfx i hi, hH, List.getD_eq_getElem?_getD, List.getElem?_map, List.getElem?_range hi]; rfl
    have hap : ∀ {k : Nat} {B : Blk}, M k = some B → (∀ j, B.reads j → ¬ B1.own j) ∧ ∀ j, B.reads j → ¬ B2.own j := fun hk => ⟨fun j hr ho => hS.roapart _ _ _ _ _ hMp hk ho hr, fun j hr ho => hS.roapart _ _ _ _ _ hMl hk ho hr⟩
    have hapx : (∀ j, (roB base 106 m fun i => encE (H.getD i default)).reads j → ¬ B1.own j) ∧ ∀ j, (roB base 106 m fun i => encE (H.getD i default)).reads j → ¬ B2.own j := ⟨fun j hr ho => by
     obtain ⟨_, ix, o, hl, hb⟩ := hr
     have hl : 0 < m := hl
     exact seq_apart hS hsx hc3 (fun h => by rw [hes h]; decide) hMp ht1 hvx (by omega) hb ho, fun j hr ho => by
     obtain ⟨_, ix, o, hl, hb⟩ := hr
     have hl : 0 < m := hl
     exact seq_apart hS hsx hc3 (fun h => by rw [hes h]; decide) hMl ht2 hvx (by omega) hb ho⟩
    rw [← hH]
    rw [show [.ptr p, encS s, X].map AV.val = [.ptr ⟨900, 0, bp, 0, 2, 0, 0, 0, false⟩, encS s, roS 904 base 106 m cax].map AV.val by simp only [List.map_cons, List.map_nil, hvx, roS_val, hvp 900]]
    refine turn_two tabs2 ctDst_ok (cr := []) trivial Tryz.func37 rfl rfl hS _ hMp hMl hn1 (C1 := .row bp 215 2 1 (fun _ => dplA 901 va dl.length cap) 1) (C2 := .vrow va 52 106 dl.length (fun i => encE (dl.getD i default)) cap) [(904, roB base 106 m fun i => encE (H.getD i default)), (90001, .vro es1 base1 len1 f1), (90002, .vro es2 base2 len2 f2)] rfl rfl (hr1 901) (fun k h => (ho1 k).2 h) (fun _ h => h) hr2 (fun k h => (ho2 k).2 h) (fun _ h => h) ⟨hro, hS.holds _ _ hM1, hS.holds _ _ hM2, trivial⟩ ⟨roB_noOwn, fun _ h => h, fun _ h => h, trivial⟩ ⟨hapx.1, (hap hM1).1, (hap hM2).1, trivial⟩ ⟨hapx.2, (hap hM1).2, (hap hM2).2, trivial⟩ (s_post ?_)
    unfold pstV comeIn at hpst
    rw [hM1] at hpst
    unfold comeIn at hpun
    rw [hM2] at hpun
    cases hpst
    cases hpun
    obtain ⟨C, hC⟩ : ∃ C, C = dkeF s ((List.range s.n3).map fun i => pst1 (f1 (hxA s.a3 s.n3) i)) ((List.range s.n4).map fun i => off1 (f2 (hxA s.a4 s.n4) i)) H := ⟨_, rfl⟩
    rw [← hC]
    repeat (first | refine qs_ ?_ | refine qa_ ?_ | refine qo_ ?_ | refine qd_ ?_ | refine za ?_ | refine zb fun _ _ => ?_ | refine zc ?_ | refine ya ?_ | refine yb fun _ _ => ?_ | refine yc ?_ | refine qk_ ?_ | refine qb_ ?_ | refine qx_ ?_)
    rename_i b4 _
    refine s_le (le_nil (t := 6) (n := 950) 52 106 (fun i => encE (([] : List (Vote × Vote)).getD i default)) rfl rfl) ?_
    refine s_loopW (α := Nat × Option Nat × Nat) [6, 7, 8, 9, 10, 11, 12, 13, 14, 15, 16, 17, 18, 19, 20, 21, 22, 23, 24, 25, 26, 27, 28, 29, 30, 31, 32, 33, 34, 35, 36, 37, 38, 39, 40, 41, 42, 43, 44, 45, 46, 47, 48, 49, 50, 51, 52, 53, 54, 55, 56, 57, 58, 59, 60, 61, 62, 63, 64, 65, 66, 67, 68, 69, 70, 71, 72, 73, 74, 75, 76, 77, 78, 79, 80, 81, 82, 83, 84, 85, 86, 87, 88, 89] [8, 950] (fun z => z.1 ≤ dl.length ∧ ((dl.take z.1).filter C).length ≤ z.2.2) (fun z => [(7, none, .v (.int .i64 z.1)), (6, none, .gs 950 0 (ownB z.2.1) 106 0 ((dl.take z.1).filter C).length z.2.2)]) (fun z => [(950, .vrow z.2.1 52 106 ((dl.take z.1).filter C).length (fun i => encE (((dl.take z.1).filter C).getD i default)) z.2.2)]) (fun z => dl.length - z.1) (0, none, 0) ⟨Nat.zero_le _, Nat.le_refl _⟩ ?_ ?_
    ·
     exact leQ
    ·
     intro ⟨i, a, cp⟩ ⟨hi, hcp⟩
     dsimp only at hi hcp
     repeat (first | refine qs_ ?_ | refine qa_ ?_ | refine qo_ ?_ | refine qd_ ?_ | refine za ?_ | refine zb fun _ _ => ?_ | refine zc ?_ | refine ya ?_ | refine yb fun _ _ => ?_ | refine yc ?_ | refine qk_ ?_ | refine qb_ ?_ | refine qx_ ?_)
     refine s_cond (b := decide ((i : Int) < (dl.length : Int))) rfl (fun hb2 => ?_) (fun hb2 => ?_)
     ·
      have hi8 : i < dl.length := by have := of_decide_eq_true hb2; omega
      repeat ((fail_if_success (first | refine o_at 61 ?_ | refine d_at 61 ?_)); (first | refine qs_ ?_ | refine qa_ ?_ | refine qo_ ?_ | refine qd_ ?_ | refine za ?_ | refine zb fun _ _ => ?_ | refine zc ?_ | refine ya ?_ | refine yb fun _ _ => ?_ | refine yc ?_ | refine qk_ ?_ | refine qb_ ?_ | refine qx_ ?_))
      refine o_val rfl rfl trivial ⟨by (repeat' apply And.intro) <;> trivial, hc2⟩ ?_
      repeat ((fail_if_success (first | refine o_at 58 ?_ | refine d_at 58 ?_)); (first | refine qs_ ?_ | refine qa_ ?_ | refine qo_ ?_ | refine qd_ ?_ | refine za ?_ | refine zb fun _ _ => ?_ | refine zc ?_ | refine ya ?_ | refine yb fun _ _ => ?_ | refine yc ?_ | refine qk_ ?_ | refine qb_ ?_ | refine qx_ ?_))
      refine o_val rfl rfl trivial ⟨by (repeat' apply And.intro) <;> (first | trivial | exact fun h => h), fun _ => hc1⟩ ?_
      repeat (first | refine qs_ ?_ | refine qa_ ?_ | refine qo_ ?_ | refine qd_ ?_ | refine za ?_ | refine zb fun _ _ => ?_ | refine zc ?_ | refine ya ?_ | refine yb fun _ _ => ?_ | refine yc ?_ | refine qk_ ?_ | refine qb_ ?_ | refine qx_ ?_)
      rename_i b8 _
      obtain ⟨x, hx⟩ : ∃ x, x = dl.getD i default := ⟨_, rfl⟩
      obtain ⟨G0, hG0⟩ : ∃ G0, G0 = dgoF s ((List.range s.n3).map fun i => pst1 (f1 (hxA s.a3 s.n3) i)) ((List.range s.n4).map fun i => off1 (f2 (hxA s.a4 s.n4) i)) x := ⟨_, rfl⟩
      have hCx : C x = !(G0 || dinF H x) := by rw [hC, hG0]; rfl
      have hst := dke_succ (C := C) hi8
      rw [← hx] at hst
      refine s_join [(9, none, .v (.bool G0)), (7, none, .v (.int .i64 i)), (6, none, .gs 950 0 (ownB a) 106 0 ((dl.take i).filter C).length cp), (8, none, .ptr ⟨8, 0, b8, 0, row43.size, 0, 0, 0, false⟩), (4, none, .ptr ⟨4, 0, b4, 0, row37.size, 0, 0, 0, false⟩), (0, none, .ptr ⟨900, 0, bp, 0, 2, 0, 0, 0, false⟩), (1, none, encS s), (2, none, roS 904 base 106 m cax)] [(950, .vrow a 52 106 ((dl.take i).filter C).length (fun j => encE (((dl.take i).filter C).getD j default)) cp), (8, .row b8 43 row43.size 1 (fun _ => encV x.1) 1), (4, .row b4 37 row37.size 1 (fun _ => encS s) 1), (900, .row bp 215 2 1 (fun _ => dplA 901 va dl.length cap) 1), (901, .vrow va 52 106 dl.length (fun i => encE (dl.getD i default)) cap), (904, roB base 106 m fun i => encE (H.getD i default)), (90001, .vro es1 base1 len1 f1), (90002, .vro es2 base2 len2 f2)] ?_ ?_
      ·
       refine s_cond (b := !(cntF s (dl.getD i default).1.height)) rfl (fun h9 => ?_) (fun h9 => ?_)
       ·
        have hG : G0 = true := by rw [hG0, dgoF, hx, h9]; rfl
        repeat (first | refine qs_ ?_ | refine qa_ ?_ | refine qo_ ?_ | refine qd_ ?_ | refine za ?_ | refine zb fun _ _ => ?_ | refine zc ?_ | refine ya ?_ | refine yb fun _ _ => ?_ | refine yc ?_ | refine qk_ ?_ | refine qb_ ?_ | refine qx_ ?_)
        refine ⟨rfl, ?_⟩
        rw [hG, hx]
        exact leQ
       ·
        have hG : G0 = (decide (offIx ((dl.getD i default).1.height, (dl.getD i default).1.from_) ((List.range s.n4).map fun i => off1 (f2 (hxA s.a4 s.n4) i)) 0 ≥ 0) || decide (numIx (dl.getD i default).1.height (((List.range s.n3).map fun i => pst1 (f1 (hxA s.a3 s.n3) i)).map (·.h)) 0 < 0)) := by rw [hG0, dgoF, hx, h9, Bool.false_or]
        repeat (first | refine qs_ ?_ | refine qa_ ?_ | refine qo_ ?_ | refine qd_ ?_ | refine za ?_ | refine zb fun _ _ => ?_ | refine zc ?_ | refine ya ?_ | refine yb fun _ _ => ?_ | refine yc ?_ | refine qk_ ?_ | refine qb_ ?_ | refine qx_ ?_)
        refine ⟨rfl, ?_⟩
        rw [hG, hx]
        exact leQ
      repeat (first | refine qs_ ?_ | refine qa_ ?_ | refine qo_ ?_ | refine qd_ ?_ | refine za ?_ | refine zb fun _ _ => ?_ | refine zc ?_ | refine ya ?_ | refine yb fun _ _ => ?_ | refine yc ?_ | refine qk_ ?_ | refine qb_ ?_ | refine qx_ ?_)
      refine s_loopW (α := Nat) [9, 11, 48, 49, 50, 51, 52, 53, 54, 55, 56, 57, 58, 59, 60, 61, 62, 63, 64, 65, 66, 67, 68, 69, 70, 71, 72, 73] [] (fun k => k ≤ m) (fun k => [(11, none, .v (.int .i64 k)), (9, none, .v (.bool (G0 || dinF (H.take k) x)))]) (fun _ => []) (fun k => m - k) 0 (Nat.zero_le _) ?_ ?_
      ·
       rw [show (G0 || dinF (H.take 0) x) = G0 from Bool.or_false _]
       exact leQ
      ·
       intro k hk
       repeat (first | refine qs_ ?_ | refine qa_ ?_ | refine qo_ ?_ | refine qd_ ?_ | refine za ?_ | refine zb fun _ _ => ?_ | refine zc ?_ | refine ya ?_ | refine yb fun _ _ => ?_ | refine yc ?_ | refine qk_ ?_ | refine qb_ ?_ | refine qx_ ?_)
       refine s_cond (b := decide ((k : Int) < (m : Int))) rfl (fun hb3 => ?_) (fun hb3 => ?_)
       ·
        have hk8 : k < m := by have := of_decide_eq_true hb3; omega
        have hds := din_succ (H := H) (x := x) (k := k) (by omega)
        repeat (first | refine qs_ ?_ | refine qa_ ?_ | refine qo_ ?_ | refine qd_ ?_ | refine za ?_ | refine zb fun _ _ => ?_ | refine zc ?_ | refine ya ?_ | refine yb fun _ _ => ?_ | refine yc ?_ | refine qk_ ?_ | refine qb_ ?_ | refine qx_ ?_)
        refine s_draw rD37_13 rM37_13 rX37_13 rN37_13 rfl rfl ?_
        repeat (first | refine qs_ ?_ | refine qa_ ?_ | refine qo_ ?_ | refine qd_ ?_ | refine za ?_ | refine zb fun _ _ => ?_ | refine zc ?_ | refine ya ?_ | refine yb fun _ _ => ?_ | refine yc ?_ | refine qk_ ?_ | refine qb_ ?_ | refine qx_ ?_)
        refine s_cond (b := ((H.getD k default).1.height == x.1.height && (H.getD k default).1.from_ == x.1.from_)) rfl (fun h9 => ?_) (fun h9 => ?_)
        ·
         have hv : (G0 || dinF (H.take (k + 1)) x) = true := by rw [hds, h9, Bool.or_true, Bool.or_true]
         repeat (first | refine qs_ ?_ | refine qa_ ?_ | refine qo_ ?_ | refine qd_ ?_ | refine za ?_ | refine zb fun _ _ => ?_ | refine zc ?_ | refine ya ?_ | refine yb fun _ _ => ?_ | refine yc ?_ | refine qk_ ?_ | refine qb_ ?_ | refine qx_ ?_)
         refine ⟨k + 1, hk8, by omega, ?_⟩
         rw [hv]
         exact leQ
        ·
         have hv : dinF (H.take (k + 1)) x = dinF (H.take k) x := by rw [hds, h9, Bool.or_false]
         repeat (first | refine qs_ ?_ | refine qa_ ?_ | refine qo_ ?_ | refine qd_ ?_ | refine za ?_ | refine zb fun _ _ => ?_ | refine zc ?_ | refine ya ?_ | refine yb fun _ _ => ?_ | refine yc ?_ | refine qk_ ?_ | refine qb_ ?_ | refine qx_ ?_)
         refine ⟨k + 1, hk8, by omega, ?_⟩
         rw [hv]
         exact leQ
       ·
        have hk8 : k = H.length := by have := of_decide_eq_false hb3; omega
        have hCy : C x = !(G0 || dinF (H.take k) x) := by rw [hk8, List.take_length]; exact hCx
        repeat (first | refine qs_ ?_ | refine qa_ ?_ | refine qo_ ?_ | refine qd_ ?_ | refine za ?_ | refine zb fun _ _ => ?_ | refine zc ?_ | refine ya ?_ | refine yb fun _ _ => ?_ | refine yc ?_ | refine qk_ ?_ | refine qb_ ?_ | refine qx_ ?_)
        refine s_cond (b := !(G0 || dinF (H.take k) x)) rfl (fun h9 => ?_) (fun h9 => ?_)
        ·
         rw [if_pos (hCy.trans h9)] at hst
         have hlen : ((dl.take i).filter C).length ≤ 65536 := Nat.le_trans (List.length_filter_le _ _) (by rw [List.length_take]; omega)
         repeat (first | refine qs_ ?_ | refine qa_ ?_ | refine qo_ ?_ | refine qd_ ?_ | refine za ?_ | refine zb fun _ _ => ?_ | refine zc ?_ | refine ya ?_ | refine yb fun _ _ => ?_ | refine yc ?_ | refine qk_ ?_ | refine qb_ ?_ | refine qx_ ?_)
         rename_i y hy
         refine ⟨(i + 1, y.1, y.2), ⟨hi8, by dsimp only; rw [hst, List.length_append]; exact hy⟩, by dsimp only; omega, ?_⟩
         dsimp only
         rw [hst]
         refine Le.of ?leT ?leM (dfs_nil rfl rfl)
         case leT => (refine And.intro (by show some (none, AV.v (.int .i64 (IntKind.i64.wrap _))) = _; rw [wi64 (by omega) (by omega)]; rfl) ?_); (refine And.intro (gs_len (by rw [List.length_append]; rfl)) ?_); repeat (first | exact trivial | refine And.intro (by exact rfl) ?_)
         case leM => (refine And.intro ⟨_, rfl, Blk.le_vrow (by rw [List.length_append]; exact Nat.le_refl _) (fapp_E (e := x) (fun _ _ => rfl) (by rw [hx]; rfl))⟩ ?_); repeat (first | exact trivial | refine And.intro ⟨_, rfl, Blk.le_refl _⟩ ?_)
        ·
         rw [if_neg (by rw [hCy, h9]; decide)] at hst
         repeat (first | refine qs_ ?_ | refine qa_ ?_ | refine qo_ ?_ | refine qd_ ?_ | refine za ?_ | refine zb fun _ _ => ?_ | refine zc ?_ | refine ya ?_ | refine yb fun _ _ => ?_ | refine yc ?_ | refine qk_ ?_ | refine qb_ ?_ | refine qx_ ?_)
         refine ⟨(i + 1, a, cp), ⟨hi8, by dsimp only; rw [hst]; exact hcp⟩, by dsimp only; omega, ?_⟩
         dsimp only
         rw [hst]
         exact leQ
     ·
      have hi8 : i = dl.length := by have := of_decide_eq_false hb2; omega
      have hfin : (dl.take i).filter C = dl.filter C := by rw [hi8, List.take_length]
      rw [hfin]
      repeat (first | refine qs_ ?_ | refine qa_ ?_ | refine qo_ ?_ | refine qd_ ?_ | refine za ?_ | refine zb fun _ _ => ?_ | refine zc ?_ | refine ya ?_ | refine yb fun _ _ => ?_ | refine yc ?_ | refine qk_ ?_ | refine qb_ ?_ | refine qx_ ?_)
      refine ⟨_, _, le_move (n := 950) (n' := 901) rfl rfl rfl, _, _, rfl, trivial, rfl, (a, cp), trivial, rfl, ⟨⟨_, rfl, Blk.le_rowc (Nat.le_refl _) fun _ _ => ⟨rfl, rfl⟩⟩, fun _ h => h⟩, ⟨⟨_, rfl, Blk.le_refl _⟩, fun _ h => h⟩, trivial⟩
   ·
    cases h0
  ·
   cases h0
 ·
  cases h0
theorem dsettle_body : HasBody Tryz.prog 37 := ⟨_, Tryz.func37, rfl, by decide⟩
theorem bef_iff {x y : Vote × Vote} : befF x y = true ↔ (x.1.height < y.1.height ∨ (x.1.height = y.1.height ∧ x.1.from_ < y.1.from_)) := by
 unfold befF
 simp
theorem bef_trans {x y z : Vote × Vote} (h1 : befF x y = true) (h2 : befF y z = true) : befF x z = true := by
 rw [bef_iff] at *
 omega
theorem bef_irr (x : Vote × Vote) : befF x x = false := by
 rw [Bool.eq_false_iff]
 intro h
 rw [bef_iff] at h
 omega
theorem bestF_spec {C : Vote × Vote → Bool} {dl : List (Vote × Vote)} : ∀ n, (bestF C dl n = none → ∀ k, k < n → C (dl.getD k default) = false) ∧ (∀ b, bestF C dl n = some b → b < n ∧ C (dl.getD b default) = true ∧ ∀ k, k < n → C (dl.getD k default) = true → befF (dl.getD k default) (dl.getD b default) = false)
 | 0 => ⟨fun _ k hk => absurd hk (Nat.not_lt_zero k), fun b h => by cases h⟩
 | n + 1 => by
  obtain ⟨ih1, ih2⟩ := bestF_spec (C := C) (dl := dl) n
  cases hb : bestF C dl n with
  | none =>
   cases hc : C (dl.getD n default) with
   | true =>
    rw [bestF_none hb hc]
    refine ⟨fun h => (by cases h), fun b h => ?_⟩
    cases h
    refine ⟨by omega, hc, fun k hk h2 => ?_⟩
    rcases Nat.lt_or_ge k n with h | h
    ·
     rw [ih1 hb k h] at h2; cases h2
    ·
     rw [show k = n by omega]; exact bef_irr _
   | false =>
    rw [bestF_skip hc, hb]
    refine ⟨fun _ k hk => ?_, fun b h => by cases h⟩
    rcases Nat.lt_or_ge k n with h | h
    ·
     exact ih1 hb k h
    ·
     rw [show k = n by omega]; exact hc
  | some b =>
   obtain ⟨q1, q2, q3⟩ := ih2 b hb
   rw [bestF_some hb]
   split
   ·
    rename_i h1
    rw [Bool.and_eq_true] at h1
    refine ⟨fun h => (by cases h), fun b' h => ?_⟩
    cases h
    refine ⟨by omega, h1.1, fun k hk h2 => ?_⟩
    rcases Nat.lt_or_ge k n with h | h
    ·
     rw [Bool.eq_false_iff]
     intro h3
     have := bef_trans h3 h1.2
     rw [q3 k h h2] at this
     cases this
    ·
     rw [show k = n by omega]; exact bef_irr _
   ·
    rename_i h1
    refine ⟨fun h => (by cases h), fun b' h => ?_⟩
    cases h
    refine ⟨by omega, q2, fun k hk h2 => ?_⟩
    rcases Nat.lt_or_ge k n with h | h
    ·
     exact q3 k h h2
    ·
     have hkn : k = n := by omega
     subst hkn
     rw [h2, Bool.true_and, Bool.not_eq_true] at h1
     exact h1
theorem strict_of {F L : List (Vote × Vote)} (h : SortedE F L) (hk : (F.map keyE).Nodup) {i j : Nat} (hij : i < j) (hj : j < L.length) : befF (L.getD i default) (L.getD j default) = true := by
 have hk2 : (L.map keyE).Nodup := (h.1.map keyE).nodup_iff.2 hk
 have h3 := h.2 i j hij hj
 rw [ltE_eq] at h3
 have h4 := of_decide_eq_false h3
 have h5 : keyE (L.getD i default) ≠ keyE (L.getD j default) := by
  intro e
  have hi : i < L.length := by omega
  rw [List.getD_eq_getElem?_getD, List.getD_eq_getElem?_getD, List.getElem?_eq_getElem hi, List.getElem?_eq_getElem hj] at e
  exact List.pairwise_iff_getElem.1 hk2 i j (by simpa using hi) (by simpa using hj) hij (by simpa using e)
 unfold keyE at h5
 have h6 : ¬ ((L.getD i default).1.height = (L.getD j default).1.height ∧ (L.getD i default).1.from_ = (L.getD j default).1.from_) := fun e => h5 (by rw [e.1, e.2])
 rw [bef_iff]
 omega
theorem getDE_mem {α : Type} [Inhabited α] {l : List α} {i : Nat} (h : i < l.length) : l.getD i default ∈ l := by
 rw [List.getD_eq_getElem?_getD, List.getElem?_eq_getElem h]
 exact List.getElem_mem h
theorem mem_getDE {α : Type} [Inhabited α] {l : List α} {x : α} (h : x ∈ l) : ∃ i, i < l.length ∧ l.getD i default = x := by
 obtain ⟨i, hi, rfl⟩ := List.getElem_of_mem h
 exact ⟨i, hi, by rw [List.getD_eq_getElem?_getD, List.getElem?_eq_getElem hi]; rfl⟩
theorem dpk_take {V : Vote × Vote → Int} {dl L : List (Vote × Vote)} (h : SortedE (dl.filter fun x => V x == 0) L) (hk : (dl.map keyE).Nodup) : ∀ j, dpk V dl j = L.take j
 | 0 => rfl
 | j + 1 => by
  have ih := dpk_take h hk j
  have hst : ∀ {a b : Nat}, a < b → b < L.length → befF (L.getD a default) (L.getD b default) = true := fun h1 h2 => strict_of h (hk.sublist (List.filter_sublist.map keyE)) h1 h2
  have hin : ∀ {x}, x ∈ dl → V x = 0 → ∃ i, i < L.length ∧ L.getD i default = x := fun h1 h2 => mem_getDE (h.1.mem_iff.2 (List.mem_filter.2 ⟨h1, by simpa using h2⟩))
  have hout : ∀ {i : Nat}, i < L.length → L.getD i default ∈ dl ∧ V (L.getD i default) = 0 := fun hi => by
   have := List.mem_filter.1 (h.1.mem_iff.1 (getDE_mem hi))
   exact ⟨this.1, by simpa using this.2⟩
  obtain ⟨s1, s2⟩ := bestF_spec (C := canF V (dpk V dl j)) (dl := dl) dl.length
  have hC : ∀ {i : Nat}, i < L.length → (canF V (dpk V dl j) (L.getD i default) = true ↔ j ≤ i) := by
   intro i hi
   unfold canF
   rw [ih, List.length_take, (hout hi).2]
   rcases Nat.eq_zero_or_pos j with e | e
   ·
    subst e
    simp
   ·
    rcases Nat.lt_or_ge j L.length with h1 | h1
    ·
     rw [Nat.min_eq_left (Nat.le_of_lt h1)]
     have e1 : (L.take j).getD (j - 1) default = L.getD (j - 1) default := by
      rw [List.getD_eq_getElem?_getD, List.getD_eq_getElem?_getD, List.getElem?_take, if_pos (by omega)]
     rw [e1, show decide ((j : Int) > 0) = true from decide_eq_true (by omega)]
     simp only [Bool.true_and, Bool.not_not, beq_self_eq_true, Bool.and_true]
     constructor
     ·
      intro h2
      rcases Nat.lt_or_ge i j with h3 | h3
      ·
       exfalso
       rcases Nat.lt_or_ge i (j - 1) with h4 | h4
       ·
        have := bef_trans (hst h4 (by omega)) h2
        rw [bef_irr] at this; cases this
       ·
        rw [show i = j - 1 by omega, bef_irr] at h2; cases h2
      ·
       exact h3
     ·
      intro h3
      exact hst (by omega) hi
    ·
     have hl : 0 < L.length := by omega
     rw [Nat.min_eq_right h1]
     have e1 : (L.take j).getD (L.length - 1) default = L.getD (L.length - 1) default := by rw [List.take_of_length_le h1]
     rw [e1, show decide ((L.length : Int) > 0) = true from decide_eq_true (by omega)]
     simp only [Bool.true_and, Bool.not_not, beq_self_eq_true, Bool.and_true]
     constructor
     ·
      intro h2
      exfalso
      rcases Nat.lt_or_ge i (L.length - 1) with h4 | h4
      ·
       have := bef_trans (hst h4 (by omega)) h2
       rw [bef_irr] at this; cases this
      ·
       rw [show i = L.length - 1 by omega, bef_irr] at h2; cases h2
     ·
      intro h3; omega
  have hCV : ∀ {x}, canF V (dpk V dl j) x = true → V x = 0 := fun h1 => by
   unfold canF at h1
   rw [Bool.and_eq_true] at h1
   simpa using h1.2
  cases hb : bestF (canF V (dpk V dl j)) dl dl.length with
  | none =>
   have hlen : L.length ≤ j := by
    rcases Nat.lt_or_ge j L.length with h1 | h1
    ·
     exfalso
     obtain ⟨k, hk1, hk2⟩ := mem_getDE (hout h1).1
     have := s1 hb k hk1
     rw [hk2, (hC h1).2 (Nat.le_refl _)] at this
     cases this
    ·
     exact h1
   have h2 := dpk_stop hb 1
   rw [h2, ih, List.take_of_length_le hlen, List.take_of_length_le (by omega)]
  | some b =>
   obtain ⟨b1, b2, b3⟩ := s2 b hb
   obtain ⟨i, hi, hie⟩ := hin (getDE_mem b1) (hCV b2)
   have hji : j ≤ i := (hC hi).1 (by rw [hie]; exact b2)
   have hjL : j < L.length := by omega
   have hij : i = j := by
    rcases Nat.lt_or_ge j i with h1 | h1
    ·
     exfalso
     obtain ⟨k, hk1, hk2⟩ := mem_getDE (hout hjL).1
     have h3 := b3 k hk1 (by rw [hk2]; exact (hC hjL).2 (Nat.le_refl _))
     rw [hk2, ← hie, hst h1 hi] at h3
     cases h3
    ·
     omega
   rw [dpk_next hb, ih, ← hie, hij]
   exact (take_addE hjL).symm
def PoolK (pl : List PEv) : Prop := (pl.map keyN).Nodup ∧ ∀ q, q ∈ pl → (q.h = q.e.1.height ∧ q.f = q.e.1.from_) ∧ (VR q.e.1 ∧ VR q.e.2) ∧ okV q.e.1 ∧ okV q.e.2
theorem PoolK.nil : PoolK [] := ⟨List.nodup_nil, fun _ h => by cases h⟩
theorem PoolK.sub {pl pl' : List PEv} (h : PoolK pl) (hs : pl'.Sublist pl) : PoolK pl' := ⟨h.1.sublist (hs.map keyN), fun q hq => h.2 q (hs.subset hq)⟩
theorem PoolK.keys {pl : List PEv} (h : PoolK pl) : (pl.map (·.e)).map keyE = pl.map keyN := by
 rw [List.map_map]
 refine List.map_congr_left fun q hq => ?_
 obtain ⟨⟨e1, e2⟩, _⟩ := h.2 q hq
 show (q.e.1.height, q.e.1.from_) = (q.h, q.f)
 rw [e1, e2]
theorem PoolK.has {pl : List PEv} (h : PoolK pl) (x : Vote × Vote) : dhasP (pl.map (·.e)) x = hasP pl x.1.height x.1.from_ := by
 unfold dhasP hasP
 rw [List.any_map]
 rw [Bool.eq_iff_iff, List.any_eq_true, List.any_eq_true]
 constructor
 ·
  rintro ⟨q, hq, h1⟩
  obtain ⟨⟨e1, e2⟩, _⟩ := h.2 q hq
  refine ⟨q, hq, ?_⟩
  have h1 : (q.e.1.height == x.1.height && q.e.1.from_ == x.1.from_) = true := h1
  simp only [Bool.and_eq_true, beq_iff_eq] at h1 ⊢
  exact ⟨by rw [e1, h1.1], by rw [e2, h1.2]⟩
 ·
  rintro ⟨q, hq, h1⟩
  obtain ⟨⟨e1, e2⟩, _⟩ := h.2 q hq
  refine ⟨q, hq, ?_⟩
  show (q.e.1.height == x.1.height && q.e.1.from_ == x.1.from_) = true
  simp only [Bool.and_eq_true, beq_iff_eq] at h1 ⊢
  exact ⟨by rw [← e1, h1.1], by rw [← e2, h1.2]⟩
theorem PoolK.add {pl : List PEv} (h : PoolK pl) {x : Vote × Vote} (hx : VR x.1 ∧ VR x.2) (hx2 : okV x.1 ∧ okV x.2) (V : Int) (clk : Nat) :
  daddP V x (pl.map (·.e)) = ((addP V x pl clk).1, (addP V x pl clk).2.1.map (·.e)) ∧ PoolK (addP V x pl clk).2.1 := by
 unfold daddP addP
 rw [h.has x, List.length_map]
 by_cases h1 : (V != 0) = true
 ·
  rw [if_pos h1, if_pos h1]
  exact ⟨rfl, h⟩
 ·
  rw [if_neg h1, if_neg h1]
  by_cases h2 : hasP pl x.1.height x.1.from_ = true
  ·
   rw [if_pos h2, if_pos h2]
   exact ⟨rfl, h⟩
  ·
   rw [if_neg h2, if_neg h2]
   by_cases h3 : decide ((pl.length : Int) ≥ 65536) = true
   ·
    rw [if_pos h3, if_pos h3]
    exact ⟨rfl, h⟩
   ·
    rw [if_neg h3, if_neg h3]
    refine ⟨by rw [List.map_append]; rfl, ?_, fun q hq => ?_⟩
    ·
     show ((pl ++ [_]).map keyN).Nodup
     rw [List.map_append, List.nodup_append]
     refine ⟨h.1, by simp, fun a ha b hb e => ?_⟩
     obtain ⟨q, hq, rfl⟩ := List.mem_map.1 ha
     have hb' : b = (x.1.height, x.1.from_) := by simpa [keyN] using hb
     exact hasP_no (by simpa using h2) hq (e.trans hb')
    ·
     rcases List.mem_append.1 hq with hq | hq
     ·
      exact h.2 q hq
     ·
      have : q = ⟨x.1.height, x.1.from_, x, clk⟩ := by simpa using hq
      subst this
      exact ⟨⟨rfl, rfl⟩, hx, hx2⟩
theorem PoolK.pick {pl : List PEv} (h : PoolK pl) {V V' : Vote × Vote → Int} (hV : ∀ x, okV x.1 → okV x.2 → V' x = V x) {L : List (Vote × Vote)} (hL : SortedE (letE V pl) L) : dpk V' (pl.map (·.e)) 16 = L.take 16 := by
 refine dpk_take ?_ (by rw [h.keys]; exact h.1) 16
 have e : letE V pl = (pl.map (·.e)).filter fun x => V' x == 0 := by
  unfold letE
  refine List.filter_congr fun x hx => ?_
  obtain ⟨q, hq, rfl⟩ := List.mem_map.1 hx
  obtain ⟨_, _, h1, h2⟩ := h.2 q hq
  rw [hV _ h1 h2]
 rw [← e]
 exact hL
theorem fold_del (H : List (Vote × Vote)) : ∀ (b : List PEv), H.foldl (fun pl e => delK pl e.1.height e.1.from_) b = b.filter fun q => !(H.any fun d => d.1.height == q.h && d.1.from_ == q.f) := by
 induction H with
 | nil => intro b; exact (List.filter_eq_self.2 fun _ _ => rfl).symm
 | cons d r ih =>
  intro b
  rw [List.foldl_cons, ih]
  unfold delK
  rw [List.filter_filter]
  refine List.filter_congr fun q _ => ?_
  rw [List.any_cons, Bool.not_or, Bool.and_comm]
theorem PoolK.settle {pl : List PEv} (h : PoolK pl) (s : StV) (l : List PstV) (pun : List (Int × Int)) (H : List (Vote × Vote)) : (pl.map (·.e)).filter (dkeF s l pun H) = (stlP (goesP s l pun) H pl).map (·.e) ∧ PoolK (stlP (goesP s l pun) H pl) := by
 refine ⟨?_, h.sub (stl_sub _ _ _)⟩
 unfold stlP
 rw [fold_del, List.filter_filter, List.filter_map]
 congr 1
 refine List.filter_congr fun q hq => ?_
 obtain ⟨⟨e1, e2⟩, _⟩ := h.2 q hq
 show dkeF s l pun H q.e = _
 unfold dkeF dgoF dinF goesP
 rw [e1, e2, Bool.not_or, Bool.and_comm]
 congr 1
 congr 1
 rw [Bool.or_assoc]
 congr 1
 congr 1
 rw [← decide_not]
 congr 1
 rw [eq_iff_iff]
 omega
theorem eqE_self (x : Vote × Vote) : eqE x x = true := by
 unfold eqE
 have h : eqT tabs2.tb tabs2.eqs 64 52 (encE x) (encE x) = some true := by
  show some ((x.1.kind == x.1.kind && (x.1.height == x.1.height && (x.1.round == x.1.round && (intsEq 32 x.1.id x.1.id && (x.1.time == x.1.time && (x.1.from_ == x.1.from_ && (intsEq 16 x.1.sig x.1.sig && true))))))) && ((x.2.kind == x.2.kind && (x.2.height == x.2.height && (x.2.round == x.2.round && (intsEq 32 x.2.id x.2.id && (x.2.time == x.2.time && (x.2.from_ == x.2.from_ && (intsEq 16 x.2.sig x.2.sig && true))))))) && true)) = some true
  simp [intsEq_self]
 rw [h]
theorem sameF_self (l : List (Vote × Vote)) : sameF l l = true := sameF_yes rfl fun _ _ => eqE_self _
theorem decP_all (pl : List PEv) : (pl.map encP).map decP = pl := by
 rw [List.map_map]
 exact List.map_id'' (fun _ => rfl) pl
theorem le_of_eq' {B C : Blk} (h : B = C) : B.le C := by rw [h]; exact Blk.le_refl _
theorem shR_len (nm : ByteArray) (aa : List Int) (recs : List (Int × ByteArray)) (t : Two) : (shR nm aa recs t).length ≤ recs.length + 2 := by
 unfold shR shR1
 exact Nat.le_trans (sldR_len _ _ _ _ _) (Nat.succ_le_succ (sldR_len _ _ _ _ _))
attribute [local irreducible] verR sealedP pairP shE shR addP stlP goesP
end Go.Proofs.YtofophjfgalhaaaGreatDoor.V
