import Derived.Test.YtofophjfgalhaaaGreatDoorMisdeedPoolsW15
import Derived.Test.YtofophjfgalhaaaGreatDoorMisdeedPoolsW17
import Derived.Test.YtofophjfgalhaaaGreatDoorMisdeedPoolsW35
set_option linter.unusedVariables false
set_option linter.unusedSimpArgs false
set_option maxRecDepth 100000
set_option maxHeartbeats 8000000
namespace Go.Proofs.YtofophjfgalhaaaGreatDoor.V
open Go Go.RowKit
def dplA (t : Nat) (a : Option Nat) (n cap : Nat) : AV := .agg (.cons (.v (.bool true)) (.cons (.gs t 0 (ownB a) 106 0 n cap) .nil))
def dpV (M : MemF) (p : Pt) : Option (Prop × Nat × Nat × Option Nat × List (Vote × Vote) × Nat) := match M p.n with
 | some (.row b T es len g cp) => match g 0 with
  | .agg (.cons (.v (.bool true)) (.cons (.gs n _ A e2 i0 l c2) .nil)) => match M n with
   | some (.vrow a T2 es2 l2 f c3) => some ((p.b = b ∧ p.o0 = 0 ∧ p.es = 2 ∧ p.idx = 0 ∧ p.off = 0 ∧ p.j = 0) ∧ (T = 215 ∧ es = 2 ∧ len = 1 ∧ cp = 1) ∧ (A = ownB a ∧ e2 = 106 ∧ i0 = 0 ∧ l = l2 ∧ c2 = c3) ∧ (T2 = 52 ∧ es2 = 106) ∧ p.n ≠ n ∧ l2 ≤ 65536 ∧ ∀ i, i < l2 → f i = encE (decE (f i)), n, b, a, (List.range l2).map fun i => decE (f i), c3)
   | _ => none
  | _ => none
 | _ => none
theorem dpV_spec {O : Nat → Prop} {w0 w : World} {M : MemF} (hS : Sat O w0 M w) {p : Pt} {c : Prop} {n b : Nat} {a : Option Nat} {dl : List (Vote × Vote)} {cap : Nat} (h : dpV M p = some (c, n, b, a, dl, cap)) (hc : c) :
  (∃ B1 B2, M p.n = some B1 ∧ M n = some B2 ∧ (∀ k, B1.own k ↔ b = k) ∧ (∀ k, B2.own k ↔ a = some k)) ∧ (∀ t, (AV.ptr p).val = (AV.ptr ⟨t, 0, b, 0, 2, 0, 0, 0, false⟩).val) ∧ p.n ≠ n ∧ dl.length ≤ 65536 ∧ (∀ t, (Blk.row b 215 2 1 (fun _ => dplA t a dl.length cap) 1).holds w) ∧ (Blk.vrow a 52 106 dl.length (fun i => encE (dl.getD i default)) cap).holds w := by
 unfold dpV at h
 split at h
 ·
  rename_i b' T es len g cp hM
  split at h
  ·
   rename_i n' ix A e2 i0 l c2 hg
   split at h
   ·
    rename_i a' T2 es2 l2 f c3 hM2
    cases h
    obtain ⟨⟨h1, h2, h3, h4, h5, h6⟩, ⟨rfl, rfl, rfl, rfl⟩, ⟨rfl, rfl, rfl, rfl, rfl⟩, ⟨rfl, rfl⟩, h7, h8, h9⟩ := hc
    have hl : ((List.range l).map fun i => decE (f i)).length = l := by simp
    refine ⟨⟨_, _, hM, hM2, fun k => Iff.rfl, fun k => Iff.rfl⟩, fun t => ?_, h7, by rw [hl]; exact h8, fun t => ?_, ?_⟩
    ·
     rw [ptr_val, ptr_val]
     unfold Pt.cell
     simp only [h1, h2, h3, h4, h5, h6]
    ·
     rw [hl]
     refine (Blk.le_rowc (f' := fun _ => dplA t a l c2) (Nat.le_refl 1) fun i hi => ?_).2.2 w (hS.holds _ _ hM)
     have h0 : i = 0 := Nat.lt_one_iff.1 hi
     subst h0
     rw [hg]
     refine ⟨?_, rfl⟩
     simp only [dplA, AV.cells_agg, AV.cells_cons]
     congr 2
    ·
     rw [hl]
     refine (Blk.le_vrowc (f' := fun i => encE (((List.range l).map fun i => decE (f i)).getD i default)) (Nat.le_refl l) fun i hi => ?_).2.2 w (hS.holds _ _ hM2)
     rw [List.getD_eq_getElem?_getD, List.getElem?_map, List.getElem?_range hi]
     show (encE (decE (f i))).cells = _ ∧ _
     rw [← h9 i hi]
     exact ⟨rfl, rfl⟩
   ·
    cases h
  ·
   cases h
 ·
  cases h
def dnpC (tag : Nat) (args : List AV) (_M : MemF) : Option Res := match args with
 | [] => some ⟨Nat, True, fun _ => True, fun x => .ptr ⟨tag, 0, x, 0, 2, 0, 0, 0, false⟩, [tag, tag + 1000], fun x => [.row x 215 2 1 (fun _ => dplA (tag + 1000) none 0 0) 1, .vrow none 52 106 0 (fun i => encE (([] : List (Vote × Vote)).getD i default)) 0]⟩
 | _ => none
theorem dnp_turn : TurnFn Tryz.prog 33 dnpC := by
 intro tag args M r h0 hok O w0 w hS
 unfold dnpC at h0
 split at h0
 ·
  cases h0
  refine turn_new tabs2 (ct := []) trivial (cr := []) trivial Tryz.func33 rfl rfl hS _ [] [2, 950] rfl trivial trivial (by decide) rfl (s_post ?_)
  repeat (first | refine qs_ ?_ | refine qa_ ?_ | refine qo_ ?_ | refine qd_ ?_ | refine za ?_ | refine zb fun _ _ => ?_ | refine zc ?_ | refine ya ?_ | refine yb fun _ _ => ?_ | refine yc ?_ | refine qk_ ?_ | refine qb_ ?_ | refine qx_ ?_)
  rename_i b2 _
  refine s_le (le_lay (n := 950) (B := .vrow none 52 106 0 (fun i => encE (([] : List (Vote × Vote)).getD i default)) 0) rfl (fun k h => by cases h) (fun k h => h) (fun w => ⟨rfl, rfl⟩)) ?_
  refine s_le (le_blk (k := 2) rfl rfl (Blk.le_rowc (f' := fun _ => dplA 950 none 0 0) (Nat.le_refl _) fun _ _ => ⟨rfl, rfl⟩)) ?_
  refine s_ret ?_
  exact ⟨_, _, Le.refl, _, _, rfl, ⟨trivial, trivial⟩, rfl, b2, trivial, rfl, ⟨⟨_, rfl, Blk.le_rowc (Nat.le_refl _) fun _ _ => ⟨rfl, rfl⟩⟩, fun _ h => h⟩, ⟨⟨_, rfl, Blk.le_refl _⟩, fun _ h => h⟩, trivial⟩
 ·
  cases h0
theorem dnp_body : HasBody Tryz.prog 33 := ⟨_, Tryz.func33, rfl, by decide⟩
def dlenC (args : List AV) (M : MemF) : Option (Prop × AV) := match args with
 | [.ptr p] => match dpV M p with
  | some (c, _, _, _, dl, _) => some (c, .v (.int .i64 dl.length))
  | none => none
 | _ => none
def dplM (b : Nat) (a : Option Nat) (dl : List (Vote × Vote)) (cap : Nat) : Mem := [(910, roB (some (b, 0)) 2 1 fun _ => .agg (.cons (.v (.bool true)) (.cons (.gs 911 0 (ownB a) 106 0 dl.length cap) .nil))), (911, roB (ownB a) 106 dl.length fun i => encE (dl.getD i default))]
theorem vrow_ro {w : World} {a : Option Nat} {T es len cap : Nat} {f : Nat → AV} (h : (Blk.vrow a T es len f cap).holds w) : (roB (ownB a) es len f).holds w := roB_holds fun h0 => by
 cases a with
 | none => exact absurd h.1 h0
 | some b =>
  have h : RowHolds w b T es len f cap := h
  exact ⟨b, 0, rfl, h.reads⟩
theorem dpl_ro {O : Nat → Prop} {w0 w : World} {M : MemF} (hS : Sat O w0 M w) {p : Pt} {c : Prop} {n b : Nat} {a : Option Nat} {dl : List (Vote × Vote)} {cap : Nat} (h : dpV M p = some (c, n, b, a, dl, cap)) (hc : c) :
  (AV.ptr p).val = (roP 910 b 0 2).val ∧ allHold w (dplM b a dl cap) := by
 obtain ⟨_, hv, _, _, h1, h2⟩ := dpV_spec hS h hc
 refine ⟨(hv 910).trans rfl, roB_holds fun _ => ⟨b, 0, rfl, ?_⟩, vrow_ro h2, trivial⟩
 have h3 : RowHolds w b 215 2 1 (fun _ => dplA 911 a dl.length cap) 1 := h1 911
 exact h3.reads
theorem dlen_read : ReadFn Tryz.prog 39 dlenC := by
 intro args M q res h hq O w0 w hS
 unfold dlenC at h
 split at h
 ·
  rename_i p
  split at h
  ·
   rename_i c n b a dl cap hp
   cases h
   obtain ⟨hv, h1, h2, _⟩ := dpl_ro hS hp hq
   rw [show [AV.ptr p].map AV.val = [roP 910 b 0 2].map AV.val by simp only [List.map_cons, List.map_nil, hv]]
   refine ro_fn tabs2 (ct := []) trivial (cr := []) trivial Tryz.func39 rfl rfl (M := dplM b a dl cap) rfl ⟨roB_noOwn, roB_noOwn, trivial⟩ ⟨h1, h2, trivial⟩ ?_
   repeat (first | refine qs_ ?_ | refine qa_ ?_ | refine qo_ ?_ | refine qd_ ?_ | refine za ?_ | refine zb fun _ _ => ?_ | refine zc ?_ | refine ya ?_ | refine yb fun _ _ => ?_ | refine yc ?_ | refine qk_ ?_ | refine qb_ ?_ | refine qx_ ?_)
   refine s_ret ?_
   exact ⟨_, _, rfl, ⟨trivial, trivial⟩, rfl, rfl⟩
  ·
   cases h
 ·
  cases h
theorem dlen_body : HasBody Tryz.prog 39 := ⟨_, Tryz.func39, rfl, by decide⟩
def dhasP (dl : List (Vote × Vote)) (x : Vote × Vote) : Bool := dl.any fun q => q.1.height == x.1.height && q.1.from_ == x.1.from_
def daddP (V : Int) (x : Vote × Vote) (dl : List (Vote × Vote)) : Int × List (Vote × Vote) :=
 if (V != 0) = true then (V, dl) else if dhasP dl x = true then (90, dl) else if decide ((dl.length : Int) ≥ 65536) = true then (4, dl) else (0, dl ++ [x])
theorem dhas_at {dl : List (Vote × Vote)} {x : Vote × Vote} {i : Nat} (hi : i < dl.length) (h : ((dl.getD i default).1.height == x.1.height && (dl.getD i default).1.from_ == x.1.from_) = true) : dhasP dl x = true := by
 unfold dhasP
 rw [List.any_eq_true]
 refine ⟨dl.getD i default, ?_, h⟩
 rw [List.getD_eq_getElem?_getD, List.getElem?_eq_getElem hi]
 exact List.getElem_mem hi
theorem dhas_no {dl : List (Vote × Vote)} {x : Vote × Vote} (h : ∀ i, i < dl.length → ((dl.getD i default).1.height == x.1.height && (dl.getD i default).1.from_ == x.1.from_) = false) : dhasP dl x = false := by
 unfold dhasP
 rw [List.any_eq_false]
 intro q hq
 obtain ⟨i, hi, rfl⟩ := List.getElem_of_mem hq
 have := h i hi
 rw [List.getD_eq_getElem?_getD, List.getElem?_eq_getElem hi] at this
 rw [Bool.not_eq_true]
 exact this
def daddC (_tag : Nat) (args : List AV) (M : MemF) : Option Res := match args, M 100002 with
 | [.ptr p, S, .ptr q, .agg (.cons a (.cons b .nil))], some (.var 2 (.ints .u32 64 K)) => match decS S, decV a, decV b, docOf M q with
  | some s, some x, some y, some (c, bQ, ents, recs, SQ) => match dpV M p, pstV M s.a3 s.n3, comeIn M 90002 2 off1 offX s.a4 s.n4, M 90003 with
   | some (c0, n, bp, va, dl, cap), some (c1, l), some (c2, pun), some (.vro es3 base3 len3 f3) => some ⟨Option Nat × Nat, (c0 ∧ p.n ≠ q.n ∧ n ≠ q.n) ∧ c ∧ (c1 ∧ c2 ∧ ∀ k, k < l.length → (mbK M (l.getD k default)).1) ∧ VR x ∧ VR y ∧ recs.length ≤ 4000000000000, fun _ => True, fun _ => .v (.int .i64 (daddP (verR s l (fun k => (mbK M (l.getD k default)).2.map (·.1)) pun (pairD x y) x y (sealedD K s.nm recs x) (sealedD K s.nm recs y)) (x, y) dl).1), [p.n, n, q.n],
     fun z => [.row bp 215 2 1 (fun _ => dplA n z.1 (daddP (verR s l (fun k => (mbK M (l.getD k default)).2.map (·.1)) pun (pairD x y) x y (sealedD K s.nm recs x) (sealedD K s.nm recs y)) (x, y) dl).2.length z.2) 1, .vrow z.1 52 106 (daddP (verR s l (fun k => (mbK M (l.getD k default)).2.map (·.1)) pun (pairD x y) x y (sealedD K s.nm recs x) (sealedD K s.nm recs y)) (x, y) dl).2.length (fun i => encE ((daddP (verR s l (fun k => (mbK M (l.getD k default)).2.map (·.1)) pun (pairD x y) x y (sealedD K s.nm recs x) (sealedD K s.nm recs y)) (x, y) dl).2.getD i default)) z.2, docB bQ ents recs SQ]⟩
   | _, _, _, _ => none
  | _, _, _, _ => none
 | _, _ => none
def ctDa : CtL := [(13, dverC)]
theorem ctDa_ok : CtLOk Tryz.prog ctDa := ⟨.fn dver_body dver_read, trivial⟩
section
attribute [local irreducible] verR sealedD pairD
theorem dadd_turn : TurnFn Tryz.prog 38 daddC := by
 intro tag args M r h0 hok O w0 w hS
 unfold daddC at h0
 split at h0
 ·
  rename_i p S q a b K hM2
  split at h0
  ·
   rename_i s x y c bQ ents recs SQ hs hx hy hq
   have hs := decS_enc hs
   have hx := decV_enc hx
   have hy := decV_enc hy
   subst hs hx hy
   clear hs hx hy
   split at h0
   ·
    rename_i c0 n bp va dl cap c1 l c2 pun es3 base3 len3 f3 hdp hpst hpun hM90003
    cases h0
    obtain ⟨⟨hc0, hn2, hn3⟩, hc, ⟨hc1, hc2, hmb⟩, hvx, hvy, hrl⟩ := hok
    obtain ⟨hMQ, hvQ⟩ := docOf_spec hq hc
    obtain ⟨⟨B1, B2, hMp, hMl, ho1, ho2⟩, hvp, hn1, hdl, hr1, hr2⟩ := dpV_spec hS hdp hc0
    obtain ⟨es1, base1, len1, f1, hM1, _⟩ := comeIn_entry hpst
    obtain ⟨es2, base2, len2, f2, hM2', _⟩ := comeIn_entry hpun
    have hap : ∀ {k : Nat} {B : Blk}, M k = some B → (∀ j, B.reads j → ¬ B1.own j) ∧ (∀ j, B.reads j → ¬ B2.own j) ∧ ∀ j, B.reads j → ¬ (docB bQ ents recs SQ).own j := fun hk => ⟨fun j hr ho => hS.roapart _ _ _ _ _ hMp hk ho hr, fun j hr ho => hS.roapart _ _ _ _ _ hMl hk ho hr, fun j hr ho => hS.roapart _ _ _ _ _ hMQ hk ho hr⟩
    rw [show [.ptr p, encS s, .ptr q, .agg (.cons (encV x) (.cons (encV y) .nil))].map AV.val = [.ptr ⟨900, 0, bp, 0, 2, 0, 0, 0, false⟩, encS s, .ptr ⟨902, 0, bQ, 0, 3, 0, 0, 0, false⟩, .agg (.cons (encV x) (.cons (encV y) .nil))].map AV.val by simp only [List.map_cons, List.map_nil, hvQ 902, hvp 900]]
    obtain ⟨V, hV⟩ : ∃ V, V = verR s l (fun k => (mbK M (l.getD k default)).2.map (·.1)) pun (pairD x y) x y (sealedD K s.nm recs x) (sealedD K s.nm recs y) := ⟨_, rfl⟩
    rw [← hV]
    refine turn_three tabs2 ctDa_ok (cr := []) trivial Tryz.func38 rfl rfl hS _ hMp hMl hMQ ⟨hn1, hn2, hn3⟩ (C1 := .row bp 215 2 1 (fun _ => dplA 901 va dl.length cap) 1) (C2 := .vrow va 52 106 dl.length (fun i => encE (dl.getD i default)) cap) (C3 := docB bQ ents recs SQ) [(90001, .vro es1 base1 len1 f1), (90002, .vro es2 base2 len2 f2), (90003, .vro es3 base3 len3 f3), (100002, .var 2 (.ints .u32 64 K))] rfl rfl (hr1 901) (fun k h => (ho1 k).2 h) (fun _ h => h) hr2 (fun k h => (ho2 k).2 h) (fun _ h => h) (hS.holds _ _ hMQ) (fun _ h => h) (fun _ h => h) ⟨hS.holds _ _ hM1, hS.holds _ _ hM2', hS.holds _ _ hM90003, hS.holds _ _ hM2, trivial⟩ ⟨fun _ h => h, fun _ h => h, fun _ h => h, fun _ h => h, trivial⟩ ⟨(hap hM1).1, (hap hM2').1, (hap hM90003).1, (hap hM2).1, trivial⟩ ⟨(hap hM1).2.1, (hap hM2').2.1, (hap hM90003).2.1, (hap hM2).2.1, trivial⟩ ⟨(hap hM1).2.2, (hap hM2').2.2, (hap hM90003).2.2, (hap hM2).2.2, trivial⟩ ?_
    unfold pstV comeIn at hpst
    rw [hM1] at hpst
    unfold comeIn at hpun
    rw [hM2'] at hpun
    cases hpst
    cases hpun
    simp only [mbK, comeIn, hM90003] at hmb hV
    repeat ((fail_if_success (first | refine o_at 13 ?_ | refine d_at 13 ?_)); (first | refine qs_ ?_ | refine qa_ ?_ | refine qo_ ?_ | refine qd_ ?_ | refine za ?_ | refine zb fun _ _ => ?_ | refine zc ?_ | refine ya ?_ | refine yb fun _ _ => ?_ | refine yc ?_ | refine qk_ ?_ | refine qb_ ?_ | refine qx_ ?_))
    refine o_val rfl rfl trivial ⟨by (repeat' apply And.intro) <;> trivial, ⟨rfl, rfl, rfl, rfl, rfl, rfl, rfl⟩, ⟨hc1, hc2, hmb⟩, hvx, hvy, hrl⟩ ?_
    refine o_le (le_val (t := 14) (av' := .v (.int .i64 V)) rfl ?hv) ?_
    case hv => rw [hV]; rfl
    repeat (first | refine qs_ ?_ | refine qa_ ?_ | refine qo_ ?_ | refine qd_ ?_ | refine za ?_ | refine zb fun _ _ => ?_ | refine zc ?_ | refine ya ?_ | refine yb fun _ _ => ?_ | refine yc ?_ | refine qk_ ?_ | refine qb_ ?_ | refine qx_ ?_)
    refine s_cond (b := (V != 0)) rfl (fun hE => ?_) (fun hE => ?_)
    ·
     repeat (first | refine qs_ ?_ | refine qa_ ?_ | refine qo_ ?_ | refine qd_ ?_ | refine za ?_ | refine zb fun _ _ => ?_ | refine zc ?_ | refine ya ?_ | refine yb fun _ _ => ?_ | refine yc ?_ | refine qk_ ?_ | refine qb_ ?_ | refine qx_ ?_)
     refine s_ret ?_
     have e0 : daddP V (x, y) dl = (V, dl) := by unfold daddP; rw [if_pos hE]
     rw [e0]
     exact ⟨_, _, rfl, ⟨trivial, trivial⟩, rfl, (va, cap), trivial, rfl, ⟨⟨_, rfl, Blk.le_rowc (Nat.le_refl _) fun _ _ => ⟨rfl, rfl⟩⟩, fun _ h => h⟩, ⟨⟨_, rfl, Blk.le_refl _⟩, fun _ h => h⟩, ⟨⟨_, rfl, Blk.le_refl _⟩, fun _ h => h⟩, trivial⟩
    have hE' : ¬ (V != 0) = true := by rw [hE]; decide
    repeat (first | refine qs_ ?_ | refine qa_ ?_ | refine qo_ ?_ | refine qd_ ?_ | refine za ?_ | refine zb fun _ _ => ?_ | refine zc ?_ | refine ya ?_ | refine yb fun _ _ => ?_ | refine yc ?_ | refine qk_ ?_ | refine qb_ ?_ | refine qx_ ?_)
    refine s_loopW (α := Nat) [9, 10, 11, 12, 13, 14, 15, 16, 17, 18, 19, 20, 21, 22, 23, 24, 25, 26, 27, 28, 29, 30, 31, 32, 33, 34, 35, 36, 37, 38, 39, 40, 41, 42, 43, 44, 45, 46, 47, 48, 49, 50, 51, 52, 53, 54] [] (fun k => k ≤ dl.length ∧ ∀ j, j < k → ((dl.getD j default).1.height == x.height && (dl.getD j default).1.from_ == x.from_) = false) (fun k => [(10, none, .v (.int .i64 k))]) (fun _ => []) (fun k => dl.length - k) 0 ⟨Nat.zero_le _, fun j hj => absurd hj (Nat.not_lt_zero j)⟩ ?_ ?_
    ·
     exact leQ
    ·
     intro k ⟨hk, hno⟩
     repeat (first | refine qs_ ?_ | refine qa_ ?_ | refine qo_ ?_ | refine qd_ ?_ | refine za ?_ | refine zb fun _ _ => ?_ | refine zc ?_ | refine ya ?_ | refine yb fun _ _ => ?_ | refine yc ?_ | refine qk_ ?_ | refine qb_ ?_ | refine qx_ ?_)
     refine s_cond (b := decide ((k : Int) < (dl.length : Int))) rfl (fun hb2 => ?_) (fun hb2 => ?_)
     ·
      have hk8 : k < dl.length := by have := of_decide_eq_true hb2; omega
      repeat (first | refine qs_ ?_ | refine qa_ ?_ | refine qo_ ?_ | refine qd_ ?_ | refine za ?_ | refine zb fun _ _ => ?_ | refine zc ?_ | refine ya ?_ | refine yb fun _ _ => ?_ | refine yc ?_ | refine qk_ ?_ | refine qb_ ?_ | refine qx_ ?_)
      refine s_draw rD38_7 rM38_7 rX38_7 rN38_7 rfl rfl ?_
      repeat (first | refine qs_ ?_ | refine qa_ ?_ | refine qo_ ?_ | refine qd_ ?_ | refine za ?_ | refine zb fun _ _ => ?_ | refine zc ?_ | refine ya ?_ | refine yb fun _ _ => ?_ | refine yc ?_ | refine qk_ ?_ | refine qb_ ?_ | refine qx_ ?_)
      refine s_cond (b := ((dl.getD k default).1.height == x.height && (dl.getD k default).1.from_ == x.from_)) rfl (fun h9 => ?_) (fun h9 => ?_)
      ·
       have e0 : daddP V (x, y) dl = (90, dl) := by unfold daddP; rw [if_neg hE', if_pos (dhas_at hk8 h9)]
       rw [e0]
       repeat (first | refine qs_ ?_ | refine qa_ ?_ | refine qo_ ?_ | refine qd_ ?_ | refine za ?_ | refine zb fun _ _ => ?_ | refine zc ?_ | refine ya ?_ | refine yb fun _ _ => ?_ | refine yc ?_ | refine qk_ ?_ | refine qb_ ?_ | refine qx_ ?_)
       refine s_ret ?_
       exact ⟨_, _, rfl, ⟨trivial, trivial⟩, rfl, (va, cap), trivial, rfl, ⟨⟨_, rfl, Blk.le_rowc (Nat.le_refl _) fun _ _ => ⟨rfl, rfl⟩⟩, fun _ h => h⟩, ⟨⟨_, rfl, Blk.le_refl _⟩, fun _ h => h⟩, ⟨⟨_, rfl, Blk.le_refl _⟩, fun _ h => h⟩, trivial⟩
      ·
       repeat (first | refine qs_ ?_ | refine qa_ ?_ | refine qo_ ?_ | refine qd_ ?_ | refine za ?_ | refine zb fun _ _ => ?_ | refine zc ?_ | refine ya ?_ | refine yb fun _ _ => ?_ | refine yc ?_ | refine qk_ ?_ | refine qb_ ?_ | refine qx_ ?_)
       refine ⟨k + 1, ⟨hk8, fun j hj => ?_⟩, by omega, ?_⟩
       ·
        rcases Nat.lt_or_ge j k with h | h
        ·
         exact hno j h
        ·
         rw [show j = k by omega]; exact h9
       ·
        exact leQ
     ·
      have hk8 : k = dl.length := by have := of_decide_eq_false hb2; omega
      have hP' : ¬ dhasP dl (x, y) = true := by rw [dhas_no (x := (x, y)) (by rw [← hk8]; exact hno)]; decide
      repeat (first | refine qs_ ?_ | refine qa_ ?_ | refine qo_ ?_ | refine qd_ ?_ | refine za ?_ | refine zb fun _ _ => ?_ | refine zc ?_ | refine ya ?_ | refine yb fun _ _ => ?_ | refine yc ?_ | refine qk_ ?_ | refine qb_ ?_ | refine qx_ ?_)
      refine s_cond (b := decide ((dl.length : Int) ≥ 65536)) rfl (fun hL => ?_) (fun hL => ?_)
      ·
       have e0 : daddP V (x, y) dl = (4, dl) := by unfold daddP; rw [if_neg hE', if_neg hP', if_pos hL]
       rw [e0]
       repeat (first | refine qs_ ?_ | refine qa_ ?_ | refine qo_ ?_ | refine qd_ ?_ | refine za ?_ | refine zb fun _ _ => ?_ | refine zc ?_ | refine ya ?_ | refine yb fun _ _ => ?_ | refine yc ?_ | refine qk_ ?_ | refine qb_ ?_ | refine qx_ ?_)
       refine s_ret ?_
       exact ⟨_, _, rfl, ⟨trivial, trivial⟩, rfl, (va, cap), trivial, rfl, ⟨⟨_, rfl, Blk.le_rowc (Nat.le_refl _) fun _ _ => ⟨rfl, rfl⟩⟩, fun _ h => h⟩, ⟨⟨_, rfl, Blk.le_refl _⟩, fun _ h => h⟩, ⟨⟨_, rfl, Blk.le_refl _⟩, fun _ h => h⟩, trivial⟩
      ·
       have hL' : ¬ decide ((dl.length : Int) ≥ 65536) = true := by rw [hL]; decide
       have e0 : daddP V (x, y) dl = (0, dl ++ [(x, y)]) := by unfold daddP; rw [if_neg hE', if_neg hP', if_neg hL']
       rw [e0]
       repeat (first | refine qs_ ?_ | refine qa_ ?_ | refine qo_ ?_ | refine qd_ ?_ | refine za ?_ | refine zb fun _ _ => ?_ | refine zc ?_ | refine ya ?_ | refine yb fun _ _ => ?_ | refine yc ?_ | refine qk_ ?_ | refine qb_ ?_ | refine qx_ ?_)
       refine s_draw rD38_11 rM38_11 [(900, [10]), (901, [7])] rN38_11 rfl rfl ?_
       repeat (first | refine qs_ ?_ | refine qa_ ?_ | refine qo_ ?_ | refine qd_ ?_ | refine za ?_ | refine zb fun _ _ => ?_ | refine zc ?_ | refine ya ?_ | refine yb fun _ _ => ?_ | refine yc ?_ | refine qk_ ?_ | refine qb_ ?_ | refine qx_ ?_)
       rename_i y2 hy2
       refine s_ret ?_
       refine ⟨_, _, rfl, ⟨trivial, trivial⟩, rfl, y2, trivial, rfl, ⟨⟨_, rfl, Blk.le_rowc (Nat.le_refl _) fun _ _ => ⟨by rw [List.length_append]; rfl, rfl⟩⟩, fun _ h => h⟩, ⟨⟨_, rfl, Blk.le_vrow (by rw [List.length_append]; exact Nat.le_refl _) (fapp_E (fun _ _ => rfl) rfl)⟩, fun _ h => h⟩, ⟨⟨_, rfl, Blk.le_refl _⟩, fun _ h => h⟩, trivial⟩
   ·
    cases h0
  ·
   cases h0
 ·
  cases h0
theorem dadd_body : HasBody Tryz.prog 38 := ⟨_, Tryz.func38, rfl, by decide⟩
end
end Go.Proofs.YtofophjfgalhaaaGreatDoor.V
