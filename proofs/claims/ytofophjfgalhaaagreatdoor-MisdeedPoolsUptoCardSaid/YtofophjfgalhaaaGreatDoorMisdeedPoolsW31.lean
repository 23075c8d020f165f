import Derived.Test.YtofophjfgalhaaaGreatDoorMisdeedPoolsW12
import Derived.Test.YtofophjfgalhaaaGreatDoorMisdeedPoolsW17
import Derived.Test.YtofophjfgalhaaaGreatDoorMisdeedPoolsW30
set_option linter.unusedVariables false
set_option linter.unusedSimpArgs false
set_option maxRecDepth 100000
set_option maxHeartbeats 8000000
namespace Go.Proofs.YtofophjfgalhaaaGreatDoor.V
open Go Go.RowKit
def eqE (p q : Vote × Vote) : Bool := match eqT tabs2.tb tabs2.eqs 64 52 (encE p) (encE q) with
 | some b => b
 | none => false
def mbK (M : MemF) (p : PstV) : Prop × List (Int × Int × Int) := match comeIn M 90003 3 mb1 mbX p.a p.n with
 | some r => r
 | none => (False, [])
def verR (s : StV) (l : List PstV) (mem : Nat → List Int) (pun : List (Int × Int)) (pr : (Vote × Vote) × Int) (x y : Vote) (sx sy : Bool) : Int :=
 if (pr.2 != 0) = true then pr.2 else
 if (!(eqE pr.1 (x, y))) = true then 110 else
 if ((!(cntF s x.height)) || decide (numIx x.height (l.map (·.h)) 0 < 0)) = true then 111 else
 if decide (numIx x.from_ (mem (numIx x.height (l.map (·.h)) 0).toNat) 0 < 0) = true then 101 else
 if decide (offIx (x.height, x.from_) pun 0 ≥ 0) = true then 112 else
 if sx = true then (if sy = true then 0 else 84) else 84
def chkP (K B0 : List Int) (nm : ByteArray) (recs : List (Int × ByteArray)) (x : Vote) : Bool := checkF K B0 recs x.from_ (fun i => (vl (saidR 86 nm (plainV x) x).1 i).int1) (strOf (saidR 86 nm (plainV x) x).1.length (vl (saidR 86 nm (plainV x) x).1)) (saidR 86 nm (plainV x) x).1.length x.sig
def sealedP (K B0 : List Int) (nm : ByteArray) (recs : List (Int × ByteArray)) (x : Vote) : Bool := ((saidR 86 nm (plainV x) x).2 == 0) && chkP K B0 nm recs x
theorem numIx_lt {a : Int} : ∀ {l : List Int} {i : Nat}, numIx a l i = -1 ∨ ∃ k : Nat, k < l.length ∧ numIx a l i = ((i + k : Nat) : Int)
 | [], i => .inl rfl
 | q :: l, i => by
  unfold numIx
  split
  ·
   exact .inr ⟨0, by simp, by simp⟩
  ·
   rcases numIx_lt (a := a) (l := l) (i := i + 1) with h | ⟨k, h1, h2⟩
   ·
    exact .inl h
   ·
    exact .inr ⟨k + 1, by simpa using h1, by rw [h2]; congr 1; omega⟩
theorem dsaid_len (s : ByteArray) (x : Vote) : (dsaidR s x).1.length ≤ 200 := by
 unfold dsaidR
 split
 ·
  exact Nat.zero_le _
 ·
  rename_i h1
  split
  ·
   exact Nat.zero_le _
  ·
   have hsz : s.size ≤ 16 := by simp at h1; omega
   have htl : (textL s).length ≤ 26 := by
    unfold textL
    rw [List.length_append, strL_length]
    have := varL_len (s.size : Int)
    omega
   have hdl := dvoteL_length x
   show ([86] ++ textL s ++ dvoteL x).length ≤ 200
   simp only [List.length_append, List.length_singleton]
   omega
theorem said_len (s : ByteArray) (x : Vote) : (saidR 86 s (plainV x) x).1.length ≤ 200 := by
 rw [said_eq]; exact dsaid_len s x
def verC (_tag : Nat) (args : List AV) (M : MemF) : Option Res := match args, M 100003, M 100004 with
 | [S, .ptr p, .agg (.cons a (.cons b .nil))], some (.var 3 (.ints .u32 8 B0)), some (.var 4 (.ints .u32 64 K)) => match decS S, decV a, decV b, regOf M p with
  | some s, some x, some y, some (c, b, ents, recs, _) => match pstV M s.a3 s.n3, comeIn M 90002 2 off1 offX s.a4 s.n4, M 90003 with
   | some (c1, l), some (c2, pun), some (.vro es3 base3 len3 f3) => some ⟨Nat → Prop, c ∧ (c1 ∧ c2 ∧ ∀ k, k < l.length → (mbK M (l.getD k default)).1) ∧ VR x ∧ VR y, fun _ => True, fun _ => .v (.int .i64 (verR s l (fun k => (mbK M (l.getD k default)).2.map (·.1)) pun (pairP x y) x y (sealedP K B0 s.nm recs x) (sealedP K B0 s.nm recs y))), [p.n], fun S' => [regB b ents recs S']⟩
   | _, _, _ => none
  | _, _, _, _ => none
 | _, _, _ => none
def ctVe : CtL := [(47, madeC), (40, pairPC), (48, pofC), (49, ixPC), (51, cntC), (52, dixC), (53, doneC)]
theorem ctVe_ok : CtLOk Tryz.prog ctVe := ⟨.fn made_body made_read, .fn pairP_body pairP_read, .fn pof_body pof_read, .fn ixP_body ixP_read, .fn cnt_body cnt_read, .fn ix_body ix_read, .fn done_body done_read, trivial⟩
def crVe : CrL := [(54, vbC), (55, checkC)]
theorem crVe_ok : CrLOk Tryz.prog crVe := ⟨⟨vb_body, vb_turn⟩, ⟨check_body, check_turn⟩, trivial⟩
theorem ver_turn : TurnFn Tryz.prog 12 verC := by
 intro tag args M r h0 hok O w0 w hS
 unfold verC at h0
 split at h0
 ·
  rename_i S p a b B0 K hM3 hM4
  split at h0
  ·
   rename_i s x y c b ents recs Sr hs hx hy hp
   have hs := decS_enc hs
   have hx := decV_enc hx
   have hy := decV_enc hy
   subst hs hx hy
   clear hs hx hy
   split at h0
   ·
    rename_i c1 l c2 pun es3 base3 len3 f3 hpst hpun hM90003
    cases h0
    obtain ⟨hc, ⟨hc1, hc2, hmb⟩, hvx, hvy⟩ := hok
    obtain ⟨hM, hv⟩ := regOf_spec hp hc
    obtain ⟨hln, hl, hl3⟩ := comeIn_spec hpst hc1
    obtain ⟨es1, base1, len1, f1, hM1, _⟩ := comeIn_entry hpst
    obtain ⟨es2, base2, len2, f2, hM2, _⟩ := comeIn_entry hpun
    have hap : ∀ {k : Nat} {B : Blk}, M k = some B → ∀ j, B.reads j → ¬ (regB b ents recs Sr).own j := fun hk j hr ho => hS.roapart _ _ _ _ _ hM hk ho hr
    rw [show [encS s, .ptr p, .agg (.cons (encV x) (.cons (encV y) .nil))].map AV.val = [encS s, .ptr ⟨900, 0, b, 0, 5, 0, 0, 0, false⟩, .agg (.cons (encV x) (.cons (encV y) .nil))].map AV.val by simp only [List.map_cons, List.map_nil, hv 900]]
    refine turn_one tabs2 ctVe_ok crVe_ok Tryz.func12 rfl rfl hS _ hM [(90001, .vro es1 base1 len1 f1), (90002, .vro es2 base2 len2 f2), (90003, .vro es3 base3 len3 f3), (100003, .var 3 (.ints .u32 8 B0)), (100004, .var 4 (.ints .u32 64 K))] rfl rfl (hS.holds _ _ hM) (fun _ h => h) (fun _ h => h) ⟨hS.holds _ _ hM1, hS.holds _ _ hM2, hS.holds _ _ hM90003, hS.holds _ _ hM3, hS.holds _ _ hM4, trivial⟩ ⟨fun _ h => h, fun _ h => h, fun _ h => h, fun _ h => h, fun _ h => h, trivial⟩ ⟨hap hM1, hap hM2, hap hM90003, hap hM3, hap hM4, trivial⟩ ?_
    obtain ⟨R, hR⟩ : ∃ R, R = verR s l (fun k => (mbK M (l.getD k default)).2.map (·.1)) pun (pairP x y) x y (sealedP K B0 s.nm recs x) (sealedP K B0 s.nm recs y) := ⟨_, rfl⟩
    rw [← hR]
    unfold pstV comeIn at hpst
    rw [hM1] at hpst
    unfold comeIn at hpun
    rw [hM2] at hpun
    cases hpst
    cases hpun
    repeat (first | refine qs_ ?_ | refine qa_ ?_ | refine qo_ ?_ | refine qd_ ?_ | refine za ?_ | refine zb fun _ _ => ?_ | refine zc ?_ | refine ya ?_ | refine yb fun _ _ => ?_ | refine yc ?_ | refine qk_ ?_ | refine qb_ ?_ | refine qx_ ?_)
    refine s_cond (b := false) rfl (fun hb => by cases hb) (fun _ => ?_)
    repeat (first | refine qs_ ?_ | refine qa_ ?_ | refine qo_ ?_ | refine qd_ ?_ | refine za ?_ | refine zb fun _ _ => ?_ | refine zc ?_ | refine ya ?_ | refine yb fun _ _ => ?_ | refine yc ?_ | refine qk_ ?_ | refine qb_ ?_ | refine qx_ ?_)
    refine s_cond (b := ((pairP x y).2 != 0)) rfl (fun hE => ?_) (fun hE => ?_)
    ·
     repeat (first | refine qs_ ?_ | refine qa_ ?_ | refine qo_ ?_ | refine qd_ ?_ | refine za ?_ | refine zb fun _ _ => ?_ | refine zc ?_ | refine ya ?_ | refine yb fun _ _ => ?_ | refine yc ?_ | refine qk_ ?_ | refine qb_ ?_ | refine qx_ ?_)
     refine s_ret ?_
     refine ⟨_, _, rfl, ⟨trivial, trivial⟩, rfl, Sr, trivial, ?_, ⟨⟨_, rfl, Blk.le_refl _⟩, fun _ h => h⟩, trivial⟩
     show (AV.v (.int .i64 (pairP x y).2)).val = _
     rw [hR, verR, if_pos hE]
    have hE' : ¬ ((pairP x y).2 != 0) = true := by rw [hE]; decide
    repeat (first | refine qs_ ?_ | refine qa_ ?_ | refine qo_ ?_ | refine qd_ ?_ | refine za ?_ | refine zb fun _ _ => ?_ | refine zc ?_ | refine ya ?_ | refine yb fun _ _ => ?_ | refine yc ?_ | refine qk_ ?_ | refine qb_ ?_ | refine qx_ ?_)
    refine o_val rfl rfl trivial ⟨?h1, ?h2⟩ ?_
    case h1 => repeat' (first | trivial | apply And.intro)
    case h2 => exact ⟨hc1, by (repeat' (first | trivial | rfl | exact Nat.zero_lt_one | apply And.intro))⟩
    repeat (first | refine qs_ ?_ | refine qa_ ?_ | refine qo_ ?_ | refine qd_ ?_ | refine za ?_ | refine zb fun _ _ => ?_ | refine zc ?_ | refine ya ?_ | refine yb fun _ _ => ?_ | refine yc ?_ | refine qk_ ?_ | refine qb_ ?_ | refine qx_ ?_)
    refine s_cond (b := !(eqE (pairP x y).1 (x, y))) rfl (fun hQ => ?_) (fun hQ => ?_)
    ·
     repeat (first | refine qs_ ?_ | refine qa_ ?_ | refine qo_ ?_ | refine qd_ ?_ | refine za ?_ | refine zb fun _ _ => ?_ | refine zc ?_ | refine ya ?_ | refine yb fun _ _ => ?_ | refine yc ?_ | refine qk_ ?_ | refine qb_ ?_ | refine qx_ ?_)
     refine s_ret ?_
     refine ⟨_, _, rfl, ⟨trivial, trivial⟩, rfl, Sr, trivial, ?_, ⟨⟨_, rfl, Blk.le_refl _⟩, fun _ h => h⟩, trivial⟩
     show (AV.v (.int .i64 110)).val = _
     rw [hR, verR, if_neg hE', if_pos hQ]
    have hQ' : ¬ (!(eqE (pairP x y).1 (x, y))) = true := by rw [hQ]; decide
    repeat (first | refine qs_ ?_ | refine qa_ ?_ | refine qo_ ?_ | refine qd_ ?_ | refine za ?_ | refine zb fun _ _ => ?_ | refine zc ?_ | refine ya ?_ | refine yb fun _ _ => ?_ | refine yc ?_ | refine qk_ ?_ | refine qb_ ?_ | refine qx_ ?_)
    refine s_cond (b := ((!(cntF s x.height)) || decide (numIx x.height (List.map (fun x => x.h) ((List.range s.n3).map fun i => pst1 (f1 (hxA s.a3 s.n3) i))) 0 < 0))) rfl (fun hN => ?_) (fun hN => ?_)
    ·
     repeat (first | refine qs_ ?_ | refine qa_ ?_ | refine qo_ ?_ | refine qd_ ?_ | refine za ?_ | refine zb fun _ _ => ?_ | refine zc ?_ | refine ya ?_ | refine yb fun _ _ => ?_ | refine yc ?_ | refine qk_ ?_ | refine qb_ ?_ | refine qx_ ?_)
     refine s_ret ?_
     refine ⟨_, _, rfl, ⟨trivial, trivial⟩, rfl, Sr, trivial, ?_, ⟨⟨_, rfl, Blk.le_refl _⟩, fun _ h => h⟩, trivial⟩
     show (AV.v (.int .i64 111)).val = _
     rw [hR, verR, if_neg hE', if_neg hQ', if_pos hN]
    have hN' : ¬ ((!(cntF s x.height)) || decide (numIx x.height (List.map (fun x => x.h) ((List.range s.n3).map fun i => pst1 (f1 (hxA s.a3 s.n3) i))) 0 < 0)) = true := by rw [hN]; decide
    obtain ⟨k, hk, hke⟩ : ∃ k : Nat, k < s.n3 ∧ numIx x.height (List.map (fun x => x.h) ((List.range s.n3).map fun i => pst1 (f1 (hxA s.a3 s.n3) i))) 0 = (k : Int) := by
     simp only [Bool.or_eq_false_iff, decide_eq_false_iff_not] at hN
     rcases numIx_lt (a := x.height) (l := List.map (fun x => x.h) ((List.range s.n3).map fun i => pst1 (f1 (hxA s.a3 s.n3) i))) (i := 0) with h | ⟨k, h1, h2⟩
     ·
      omega
     ·
      exact ⟨k, by simpa using h1, by rw [h2]; simp⟩
    obtain ⟨base, len, f, b', o, hM1', ha3, hb1, hle, hel⟩ := hl3 (by omega)
    rw [hM1] at hM1'
    cases hM1'
    have hmk := hmb k (by simpa using hk)
    unfold mbK comeIn at hmk
    rw [hM90003] at hmk
    refine s_le (le_sub (n := 910) (k := 90001) (ix := hx b' o s.n3) (m := s.n3) (g := pstE ((List.range s.n3).map fun i => pst1 (f1 (hxA s.a3 s.n3) i))) rfl rfl hb1 hle (fun i hi => (hel i hi).symm)) ?_
    refine s_le (le_blk (k := 3) rfl rfl (Blk.le_rowc (f' := fun _ => encSP s (roS 910 (some (b', o)) 3 s.n3 s.c3)) (Nat.le_refl _) fun i hi => ⟨(encSP_val s (roS_cells _ _ _ _ _) ((roS_val 910 (some (b', o)) 3 s.n3 s.c3).trans (by rw [ha3]; rfl))).symm, rfl⟩)) ?_
    refine s_le (le_val (t := 10) (av' := .v (.int .i64 (k : Int))) rfl (by rw [← hke])) ?_
    repeat (first | refine qs_ ?_ | refine qa_ ?_ | refine qo_ ?_ | refine qd_ ?_ | refine za ?_ | refine zb fun _ _ => ?_ | refine zc ?_ | refine ya ?_ | refine yb fun _ _ => ?_ | refine yc ?_ | refine qk_ ?_ | refine qb_ ?_ | refine qx_ ?_)
    refine s_draw rD12_12 rM12_12 rX12_12 rN12_12 rfl rfl ?_
    repeat (first | refine qs_ ?_ | refine qa_ ?_ | refine qo_ ?_ | refine qd_ ?_ | refine za ?_ | refine zb fun _ _ => ?_ | refine zc ?_ | refine ya ?_ | refine yb fun _ _ => ?_ | refine yc ?_ | refine qk_ ?_ | refine qb_ ?_ | refine qx_ ?_)
    refine d_val rfl rfl trivial ⟨?h3, hmk⟩ ?_
    case h3 => repeat' (first | trivial | apply And.intro)
    repeat (first | refine qs_ ?_ | refine qa_ ?_ | refine qo_ ?_ | refine qd_ ?_ | refine za ?_ | refine zb fun _ _ => ?_ | refine zc ?_ | refine ya ?_ | refine yb fun _ _ => ?_ | refine yc ?_ | refine qk_ ?_ | refine qb_ ?_ | refine qx_ ?_)
    have hmem : (mbK M (((List.range s.n3).map fun i => pst1 (f1 (hxA s.a3 s.n3) i)).getD (numIx x.height (List.map (fun x => x.h) ((List.range s.n3).map fun i => pst1 (f1 (hxA s.a3 s.n3) i))) 0).toNat default)).2.map (·.1) = ((List.range (((List.range s.n3).map fun i => pst1 (f1 (hxA s.a3 s.n3) i)).getD k default).n).map fun i => mb1 (f3 (hxA (((List.range s.n3).map fun i => pst1 (f1 (hxA s.a3 s.n3) i)).getD k default).a (((List.range s.n3).map fun i => pst1 (f1 (hxA s.a3 s.n3) i)).getD k default).n) i)).map (·.1) := by
     rw [hke]
     unfold mbK comeIn
     rw [hM90003]
     rfl
    refine s_cond (b := decide (numIx x.from_ (((List.range (((List.range s.n3).map fun i => pst1 (f1 (hxA s.a3 s.n3) i)).getD k default).n).map fun i => mb1 (f3 (hxA (((List.range s.n3).map fun i => pst1 (f1 (hxA s.a3 s.n3) i)).getD k default).a (((List.range s.n3).map fun i => pst1 (f1 (hxA s.a3 s.n3) i)).getD k default).n) i)).map (·.1)) 0 < 0)) rfl (fun hI => ?_) (fun hI => ?_)
    ·
     repeat (first | refine qs_ ?_ | refine qa_ ?_ | refine qo_ ?_ | refine qd_ ?_ | refine za ?_ | refine zb fun _ _ => ?_ | refine zc ?_ | refine ya ?_ | refine yb fun _ _ => ?_ | refine yc ?_ | refine qk_ ?_ | refine qb_ ?_ | refine qx_ ?_)
     refine s_ret ?_
     refine ⟨_, _, rfl, ⟨trivial, trivial⟩, rfl, Sr, trivial, ?_, ⟨⟨_, rfl, Blk.le_refl _⟩, fun _ h => h⟩, trivial⟩
     show (AV.v (.int .i64 101)).val = _
     rw [hR, verR, if_neg hE', if_neg hQ', if_neg hN', hmem, if_pos hI]
    refine s_le (le_blk (k := 3) rfl rfl (Blk.le_rowc (f' := fun _ => encS s) (Nat.le_refl _) fun i hi => ⟨encSP_val s (roS_cells _ _ _ _ _) ((roS_val 910 (some (b', o)) 3 s.n3 s.c3).trans (by rw [ha3]; rfl)), rfl⟩)) ?_
    repeat (first | refine qs_ ?_ | refine qa_ ?_ | refine qo_ ?_ | refine qd_ ?_ | refine za ?_ | refine zb fun _ _ => ?_ | refine zc ?_ | refine ya ?_ | refine yb fun _ _ => ?_ | refine yc ?_ | refine qk_ ?_ | refine qb_ ?_ | refine qx_ ?_)
    refine o_val rfl rfl trivial ⟨?h4, hc2⟩ ?_
    case h4 => repeat' (first | trivial | apply And.intro)
    repeat (first | refine qs_ ?_ | refine qa_ ?_ | refine qo_ ?_ | refine qd_ ?_ | refine za ?_ | refine zb fun _ _ => ?_ | refine zc ?_ | refine ya ?_ | refine yb fun _ _ => ?_ | refine yc ?_ | refine qk_ ?_ | refine qb_ ?_ | refine qx_ ?_)
    refine s_cond (b := decide (offIx (x.height, x.from_) ((List.range s.n4).map fun i => off1 (f2 (hxA s.a4 s.n4) i)) 0 ≥ 0)) rfl (fun hD => ?_) (fun hD => ?_)
    ·
     repeat (first | refine qs_ ?_ | refine qa_ ?_ | refine qo_ ?_ | refine qd_ ?_ | refine za ?_ | refine zb fun _ _ => ?_ | refine zc ?_ | refine ya ?_ | refine yb fun _ _ => ?_ | refine yc ?_ | refine qk_ ?_ | refine qb_ ?_ | refine qx_ ?_)
     refine s_ret ?_
     refine ⟨_, _, rfl, ⟨trivial, trivial⟩, rfl, Sr, trivial, ?_, ⟨⟨_, rfl, Blk.le_refl _⟩, fun _ h => h⟩, trivial⟩
     show (AV.v (.int .i64 112)).val = _
     rw [hR, verR, if_neg hE', if_neg hQ', if_neg hN', hmem, if_neg (by rw [hI]; decide), if_pos hD]
    have hV : R = if sealedP K B0 s.nm recs x = true then (if sealedP K B0 s.nm recs y = true then 0 else 84) else 84 := by
     rw [hR, verR, if_neg hE', if_neg hQ', if_neg hN', hmem, if_neg (by rw [hI]; decide), if_neg (by rw [hD]; decide)]
    clear hR hmem hmk hmb hel hl3
    repeat (first | refine qs_ ?_ | refine qa_ ?_ | refine qo_ ?_ | refine qd_ ?_ | refine za ?_ | refine zb fun _ _ => ?_ | refine zc ?_ | refine ya ?_ | refine yb fun _ _ => ?_ | refine yc ?_ | refine qk_ ?_ | refine qb_ ?_ | refine qx_ ?_)
    rename_i b3 _ b5 _ _ b7 _ b9 _ _
    refine s_loopW (α := Nat × (Nat → Prop)) [4, 5, 6, 7, 8, 9, 10, 11, 12, 13, 14, 15, 16, 17, 18, 19, 20, 21, 22, 23, 24, 25, 26, 27, 28, 29, 30, 31, 32, 33, 34, 35, 36, 37, 38, 39, 40, 41, 42, 43, 44, 45, 46, 47, 48, 49, 50, 51, 52, 53, 54, 55, 56, 57, 58, 59, 60, 61, 62, 63, 64, 65, 66, 67, 69, 70, 71, 72, 73, 74, 75, 76, 77, 78, 79, 80, 81, 82, 83, 84, 85, 86, 87, 88, 89, 90, 91] [3, 5, 7, 9, 12, 76, 910, 900] (fun z => z.1 ≤ 2 ∧ (0 < z.1 → sealedP K B0 s.nm recs x = true) ∧ (1 < z.1 → sealedP K B0 s.nm recs y = true)) (fun z => [(69, none, .v (.int .i64 z.1))]) (fun z => [(900, regB b ents recs z.2), (3, .row b3 37 row37.size 1 (fun _ => encS s) 1)]) (fun z => 2 - z.1) (0, Sr) ⟨Nat.zero_le _, fun h => absurd h (Nat.lt_irrefl _), fun h => absurd h (Nat.not_lt_zero _)⟩ ?_ ?_
    ·
     exact leQ
    ·
     intro ⟨kk, S1⟩ ⟨hk2, h0s, h1s⟩
     dsimp only at hk2 h0s h1s
     have hk3 : kk = 0 ∨ kk = 1 ∨ kk = 2 := by omega
     rcases hk3 with rfl | rfl | rfl
     ·
      repeat (first | refine qs_ ?_ | refine qa_ ?_ | refine qo_ ?_ | refine qd_ ?_ | refine za ?_ | refine zb fun _ _ => ?_ | refine zc ?_ | refine ya ?_ | refine yb fun _ _ => ?_ | refine yc ?_ | refine qk_ ?_ | refine qb_ ?_ | refine qx_ ?_)
      refine s_cond (b := true) rfl (fun _ => ?_) (fun hb => by cases hb)
      repeat (first | refine qs_ ?_ | refine qa_ ?_ | refine qo_ ?_ | refine qd_ ?_ | refine za ?_ | refine zb fun _ _ => ?_ | refine zc ?_ | refine ya ?_ | refine yb fun _ _ => ?_ | refine yc ?_ | refine qk_ ?_ | refine qb_ ?_ | refine qx_ ?_)
      refine o_new rfl rfl rfl ⟨(none, _), Nat.le_refl _⟩ ?hc (fun yy hyy => ?_)
      case hc => (repeat' (first | exact hvx | apply And.intro)) <;> (first | trivial | rfl | exact Nat.zero_lt_one | decide)
      repeat (first | refine qs_ ?_ | refine qa_ ?_ | refine qo_ ?_ | refine qd_ ?_ | refine za ?_ | refine zb fun _ _ => ?_ | refine zc ?_ | refine ya ?_ | refine yb fun _ _ => ?_ | refine yc ?_ | refine qk_ ?_ | refine qb_ ?_ | refine qx_ ?_)
      have hlen := said_len s.nm x
      cases hz : ((saidR 86 s.nm (plainV x) x).2 != 0) with
      | true =>
       have hsf : sealedP K B0 s.nm recs x = false := by
        unfold sealedP
        rw [show ((saidR 86 s.nm (plainV x) x).2 == 0) = false from by simpa using hz]; rfl
       refine o_skipG (.v (.bool true)) rfl rfl rfl rfl ?_
       repeat (first | refine qs_ ?_ | refine qa_ ?_ | refine qo_ ?_ | refine qd_ ?_ | refine za ?_ | refine zb fun _ _ => ?_ | refine zc ?_ | refine ya ?_ | refine yb fun _ _ => ?_ | refine yc ?_ | refine qk_ ?_ | refine qb_ ?_ | refine qx_ ?_)
       refine s_cond rfl (fun _ => ?_) (fun hb => by cases hb)
       repeat (first | refine qs_ ?_ | refine qa_ ?_ | refine qo_ ?_ | refine qd_ ?_ | refine za ?_ | refine zb fun _ _ => ?_ | refine zc ?_ | refine ya ?_ | refine yb fun _ _ => ?_ | refine yc ?_ | refine qk_ ?_ | refine qb_ ?_ | refine qx_ ?_)
       refine s_ret ?_
       refine ⟨_, _, rfl, ⟨trivial, trivial⟩, rfl, S1, trivial, ?_, ⟨⟨_, rfl, Blk.le_refl _⟩, fun _ h => h⟩, trivial⟩
       show (AV.v (.int .i64 84)).val = _
       rw [hV, if_neg (by rw [hsf]; decide)]
      | false =>
       refine o_resG rfl rfl rfl rfl rfl ?hok rfl (fun S2 _ => ?_)
       case hok => exact ⟨by (repeat' apply And.intro) <;> (first | trivial | exact fun h => h), ⟨rfl, rfl, rfl, rfl, rfl, rfl, rfl⟩, ⟨⟨rfl, rfl, Nat.le_of_eq (Nat.zero_add _)⟩, fun _ => rfl, Nat.le_trans hlen (by decide), fun _ _ => rfl⟩, rfl⟩
       have hz2 : ((saidR 86 s.nm (plainV x) x).2 == 0) = true := by simpa using hz
       repeat (first | refine qs_ ?_ | refine qa_ ?_ | refine qo_ ?_ | refine qd_ ?_ | refine za ?_ | refine zb fun _ _ => ?_ | refine zc ?_ | refine ya ?_ | refine yb fun _ _ => ?_ | refine yc ?_ | refine qk_ ?_ | refine qb_ ?_ | refine qx_ ?_)
       refine s_cond rfl (fun hF => ?_) (fun hF => ?_)
       ·
        have h9 : (!(chkP K B0 s.nm recs x)) = true := hF
        have hsf : sealedP K B0 s.nm recs x = false := by
         unfold sealedP
         rw [show chkP K B0 s.nm recs x = false by simpa using h9]
         exact Bool.and_false _
        repeat (first | refine qs_ ?_ | refine qa_ ?_ | refine qo_ ?_ | refine qd_ ?_ | refine za ?_ | refine zb fun _ _ => ?_ | refine zc ?_ | refine ya ?_ | refine yb fun _ _ => ?_ | refine yc ?_ | refine qk_ ?_ | refine qb_ ?_ | refine qx_ ?_)
        refine s_ret ?_
        refine ⟨_, _, rfl, ⟨trivial, trivial⟩, rfl, S2, trivial, ?_, ⟨⟨_, rfl, Blk.le_refl _⟩, fun _ h => h⟩, trivial⟩
        show (AV.v (.int .i64 84)).val = _
        rw [hV, if_neg (by rw [hsf]; decide)]
       ·
        have h9 : (!(chkP K B0 s.nm recs x)) = false := hF
        have hst : sealedP K B0 s.nm recs x = true := by
         unfold sealedP
         rw [hz2, show chkP K B0 s.nm recs x = true by simpa using h9]; rfl
        repeat (first | refine qs_ ?_ | refine qa_ ?_ | refine qo_ ?_ | refine qd_ ?_ | refine za ?_ | refine zb fun _ _ => ?_ | refine zc ?_ | refine ya ?_ | refine yb fun _ _ => ?_ | refine yc ?_ | refine qk_ ?_ | refine qb_ ?_ | refine qx_ ?_)
        refine ⟨(1, S2), ⟨by dsimp only; omega, fun _ => hst, fun h => absurd h (by dsimp only; omega)⟩, by dsimp only; omega, ?_⟩
        exact leQ
     ·
      repeat (first | refine qs_ ?_ | refine qa_ ?_ | refine qo_ ?_ | refine qd_ ?_ | refine za ?_ | refine zb fun _ _ => ?_ | refine zc ?_ | refine ya ?_ | refine yb fun _ _ => ?_ | refine yc ?_ | refine qk_ ?_ | refine qb_ ?_ | refine qx_ ?_)
      refine s_cond (b := true) rfl (fun _ => ?_) (fun hb => by cases hb)
      repeat (first | refine qs_ ?_ | refine qa_ ?_ | refine qo_ ?_ | refine qd_ ?_ | refine za ?_ | refine zb fun _ _ => ?_ | refine zc ?_ | refine ya ?_ | refine yb fun _ _ => ?_ | refine yc ?_ | refine qk_ ?_ | refine qb_ ?_ | refine qx_ ?_)
      refine o_new rfl rfl rfl ⟨(none, _), Nat.le_refl _⟩ ?hc (fun yy hyy => ?_)
      case hc => (repeat' (first | exact hvy | apply And.intro)) <;> (first | trivial | rfl | exact Nat.zero_lt_one | decide)
      repeat (first | refine qs_ ?_ | refine qa_ ?_ | refine qo_ ?_ | refine qd_ ?_ | refine za ?_ | refine zb fun _ _ => ?_ | refine zc ?_ | refine ya ?_ | refine yb fun _ _ => ?_ | refine yc ?_ | refine qk_ ?_ | refine qb_ ?_ | refine qx_ ?_)
      have hlen := said_len s.nm y
      cases hz : ((saidR 86 s.nm (plainV y) y).2 != 0) with
      | true =>
       have hsf : sealedP K B0 s.nm recs y = false := by
        unfold sealedP
        rw [show ((saidR 86 s.nm (plainV y) y).2 == 0) = false from by simpa using hz]; rfl
       refine o_skipG (.v (.bool true)) rfl rfl rfl rfl ?_
       repeat (first | refine qs_ ?_ | refine qa_ ?_ | refine qo_ ?_ | refine qd_ ?_ | refine za ?_ | refine zb fun _ _ => ?_ | refine zc ?_ | refine ya ?_ | refine yb fun _ _ => ?_ | refine yc ?_ | refine qk_ ?_ | refine qb_ ?_ | refine qx_ ?_)
       refine s_cond rfl (fun _ => ?_) (fun hb => by cases hb)
       repeat (first | refine qs_ ?_ | refine qa_ ?_ | refine qo_ ?_ | refine qd_ ?_ | refine za ?_ | refine zb fun _ _ => ?_ | refine zc ?_ | refine ya ?_ | refine yb fun _ _ => ?_ | refine yc ?_ | refine qk_ ?_ | refine qb_ ?_ | refine qx_ ?_)
       refine s_ret ?_
       refine ⟨_, _, rfl, ⟨trivial, trivial⟩, rfl, S1, trivial, ?_, ⟨⟨_, rfl, Blk.le_refl _⟩, fun _ h => h⟩, trivial⟩
       show (AV.v (.int .i64 84)).val = _
       rw [hV, if_pos (h0s (by omega)), if_neg (by rw [hsf]; decide)]
      | false =>
       refine o_resG rfl rfl rfl rfl rfl ?hok rfl (fun S2 _ => ?_)
       case hok => exact ⟨by (repeat' apply And.intro) <;> (first | trivial | exact fun h => h), ⟨rfl, rfl, rfl, rfl, rfl, rfl, rfl⟩, ⟨⟨rfl, rfl, Nat.le_of_eq (Nat.zero_add _)⟩, fun _ => rfl, Nat.le_trans hlen (by decide), fun _ _ => rfl⟩, rfl⟩
       have hz2 : ((saidR 86 s.nm (plainV y) y).2 == 0) = true := by simpa using hz
       repeat (first | refine qs_ ?_ | refine qa_ ?_ | refine qo_ ?_ | refine qd_ ?_ | refine za ?_ | refine zb fun _ _ => ?_ | refine zc ?_ | refine ya ?_ | refine yb fun _ _ => ?_ | refine yc ?_ | refine qk_ ?_ | refine qb_ ?_ | refine qx_ ?_)
       refine s_cond rfl (fun hF => ?_) (fun hF => ?_)
       ·
        have h9 : (!(chkP K B0 s.nm recs y)) = true := hF
        have hsf : sealedP K B0 s.nm recs y = false := by
         unfold sealedP
         rw [show chkP K B0 s.nm recs y = false by simpa using h9]
         exact Bool.and_false _
        repeat (first | refine qs_ ?_ | refine qa_ ?_ | refine qo_ ?_ | refine qd_ ?_ | refine za ?_ | refine zb fun _ _ => ?_ | refine zc ?_ | refine ya ?_ | refine yb fun _ _ => ?_ | refine yc ?_ | refine qk_ ?_ | refine qb_ ?_ | refine qx_ ?_)
        refine s_ret ?_
        refine ⟨_, _, rfl, ⟨trivial, trivial⟩, rfl, S2, trivial, ?_, ⟨⟨_, rfl, Blk.le_refl _⟩, fun _ h => h⟩, trivial⟩
        show (AV.v (.int .i64 84)).val = _
        rw [hV, if_pos (h0s (by omega)), if_neg (by rw [hsf]; decide)]
       ·
        have h9 : (!(chkP K B0 s.nm recs y)) = false := hF
        have hst : sealedP K B0 s.nm recs y = true := by
         unfold sealedP
         rw [hz2, show chkP K B0 s.nm recs y = true by simpa using h9]; rfl
        repeat (first | refine qs_ ?_ | refine qa_ ?_ | refine qo_ ?_ | refine qd_ ?_ | refine za ?_ | refine zb fun _ _ => ?_ | refine zc ?_ | refine ya ?_ | refine yb fun _ _ => ?_ | refine yc ?_ | refine qk_ ?_ | refine qb_ ?_ | refine qx_ ?_)
        refine ⟨(2, S2), ⟨by dsimp only; omega, fun _ => h0s (by omega), fun _ => hst⟩, by dsimp only; omega, ?_⟩
        exact leQ
     ·
      repeat (first | refine qs_ ?_ | refine qa_ ?_ | refine qo_ ?_ | refine qd_ ?_ | refine za ?_ | refine zb fun _ _ => ?_ | refine zc ?_ | refine ya ?_ | refine yb fun _ _ => ?_ | refine yc ?_ | refine qk_ ?_ | refine qb_ ?_ | refine qx_ ?_)
      refine s_cond (b := false) rfl (fun hb => by cases hb) (fun _ => ?_)
      repeat (first | refine qs_ ?_ | refine qa_ ?_ | refine qo_ ?_ | refine qd_ ?_ | refine za ?_ | refine zb fun _ _ => ?_ | refine zc ?_ | refine ya ?_ | refine yb fun _ _ => ?_ | refine yc ?_ | refine qk_ ?_ | refine qb_ ?_ | refine qx_ ?_)
      refine s_ret ?_
      refine ⟨_, _, rfl, ⟨trivial, trivial⟩, rfl, S1, trivial, ?_, ⟨⟨_, rfl, Blk.le_refl _⟩, fun _ h => h⟩, trivial⟩
      show (AV.v (.int .i64 0)).val = _
      rw [hV, if_pos (h0s (by omega)), if_pos (h1s (by omega))]
   ·
    cases h0
  ·
   cases h0
 ·
  cases h0
def dpunC (args : List AV) (M : MemF) : Option (Prop × AV) := match args with
 | [S, .v (.int .u64 h), .v (.int .u64 a)] => match decS S with
  | some s => match comeIn M 90002 2 off1 offX s.a4 s.n4 with
   | some (c, l) => some (c, .v (.bool (decide (offIx (h, a) l 0 ≥ 0))))
   | none => none
  | none => none
 | _ => none
theorem off_flip {h a : Int} {q : Int × Int} : (q.1 == h && q.2 == a) = (h == q.1 && a == q.2) := by
 rw [Bool.eq_iff_iff]; simp only [Bool.and_eq_true, beq_iff_eq]
 constructor <;> (rintro ⟨h1, h2⟩; exact ⟨h1.symm, h2.symm⟩)
theorem dpun_read : ReadFn Tryz.prog 61 dpunC := by
 intro args M q res h0 hq O w0 w hS
 unfold dpunC at h0
 split at h0
 ·
  rename_i S h a
  split at h0
  ·
   rename_i s hs
   have hs := decS_enc hs
   subst hs
   split at h0
   ·
    rename_i c l hsx
    cases h0
    obtain ⟨hn, hl, _⟩ := comeIn_spec hsx hq
    obtain ⟨pn, hpn⟩ : ∃ pn, pn = s.n4 := ⟨_, rfl⟩
    rw [← hpn] at hn hl
    rcases comeIn_ro (cap := s.c4) hS hsx hq with ⟨base, hv, hro⟩ | ⟨h00, rfl⟩
    ·
     have hro : (roB base 2 s.n4 (offE l)).holds w := hro
     rw [← hpn] at hro hv
     have hsv : (encS s).val = (encSQ s (roS 900 base 2 pn s.c4)).val := by
      rw [show (encS s).val = .agg (encS s).cells.toArray from rfl, encSQ_val s (roS_cells _ _ _ _ _) ((roS_val _ _ _ _ _).trans (by rw [← hpn]; exact hv.symm))]
      rfl
     rw [show [encS s, .v (.int .u64 h), .v (.int .u64 a)].map AV.val = [encSQ s (roS 900 base 2 pn s.c4), .v (.int .u64 h), .v (.int .u64 a)].map AV.val by simp only [List.map_cons, List.map_nil, hsv]]
     refine ro_fn tabs2 (ct := []) trivial (cr := []) trivial Tryz.func61 rfl rfl (M := [(900, roB base 2 pn (offE l))]) rfl ⟨roB_noOwn, trivial⟩ ⟨hro, trivial⟩ ?_
     repeat (first | refine qs_ ?_ | refine qa_ ?_ | refine qo_ ?_ | refine qd_ ?_ | refine za ?_ | refine zb fun _ _ => ?_ | refine zc ?_ | refine ya ?_ | refine yb fun _ _ => ?_ | refine yc ?_ | refine qk_ ?_ | refine qb_ ?_ | refine qx_ ?_)
     refine s_loopW (α := Nat) [7, 8, 9, 10, 11, 12, 13, 14, 15, 16, 17, 18, 19, 20, 21, 22, 23, 24, 25, 26, 27, 28, 29, 30, 31, 32] [] (fun k => k ≤ pn ∧ ∀ j, j < k → (h == (l.getD j (0, 0)).1 && a == (l.getD j (0, 0)).2) = false) (fun k => [(7, none, .v (.int .i64 k))]) (fun _ => []) (fun k => pn - k) 0 ⟨Nat.zero_le _, fun j hj => absurd hj (Nat.not_lt_zero j)⟩ ?_ ?_
     ·
      exact leQ
     ·
      intro k ⟨hk, hno⟩
      repeat (first | refine qs_ ?_ | refine qa_ ?_ | refine qo_ ?_ | refine qd_ ?_ | refine za ?_ | refine zb fun _ _ => ?_ | refine zc ?_ | refine ya ?_ | refine yb fun _ _ => ?_ | refine yc ?_ | refine qk_ ?_ | refine qb_ ?_ | refine qx_ ?_)
      refine s_cond (b := decide ((k : Int) < (pn : Int))) rfl (fun hb2 => ?_) (fun hb2 => ?_)
      ·
       have hk8 : k < pn := by have := of_decide_eq_true hb2; omega
       repeat (first | refine qs_ ?_ | refine qa_ ?_ | refine qo_ ?_ | refine qd_ ?_ | refine za ?_ | refine zb fun _ _ => ?_ | refine zc ?_ | refine ya ?_ | refine yb fun _ _ => ?_ | refine yc ?_ | refine qk_ ?_ | refine qb_ ?_ | refine qx_ ?_)
       refine s_cond (b := ((l.getD k (0, 0)).1 == h && (l.getD k (0, 0)).2 == a)) rfl (fun h9 => ?_) (fun h9 => ?_)
       ·
        rw [off_flip] at h9
        repeat (first | refine qs_ ?_ | refine qa_ ?_ | refine qo_ ?_ | refine qd_ ?_ | refine za ?_ | refine zb fun _ _ => ?_ | refine zc ?_ | refine ya ?_ | refine yb fun _ _ => ?_ | refine yc ?_ | refine qk_ ?_ | refine qb_ ?_ | refine qx_ ?_)
        refine s_ret ?_
        refine ⟨_, _, rfl, ⟨trivial, trivial⟩, rfl, ?_⟩
        rw [offIx_at (k := k) (by rw [hl]; exact hk8) hno h9, Nat.zero_add, decide_eq_true (show ((k : Nat) : Int) ≥ 0 by omega)]
        rfl
       ·
        rw [off_flip] at h9
        repeat (first | refine qs_ ?_ | refine qa_ ?_ | refine qo_ ?_ | refine qd_ ?_ | refine za ?_ | refine zb fun _ _ => ?_ | refine zc ?_ | refine ya ?_ | refine yb fun _ _ => ?_ | refine yc ?_ | refine qk_ ?_ | refine qb_ ?_ | refine qx_ ?_)
        refine ⟨k + 1, ⟨by omega, fun j hj => ?_⟩, by omega, ?_⟩
        ·
         rcases Nat.lt_or_ge j k with h1 | h1
         ·
          exact hno j h1
         ·
          rw [show j = k by omega]; exact h9
        ·
         exact leQ
      ·
       have hk8 : k = pn := by have := of_decide_eq_false hb2; omega
       repeat (first | refine qs_ ?_ | refine qa_ ?_ | refine qo_ ?_ | refine qd_ ?_ | refine za ?_ | refine zb fun _ _ => ?_ | refine zc ?_ | refine ya ?_ | refine yb fun _ _ => ?_ | refine yc ?_ | refine qk_ ?_ | refine qb_ ?_ | refine qx_ ?_)
       refine s_ret ?_
       refine ⟨_, _, rfl, ⟨trivial, trivial⟩, rfl, ?_⟩
       rw [offIx_no (by rw [hl, ← hk8]; exact hno)]
       rfl
    ·
     have hpn0 : pn = 0 := hpn.trans h00
     subst hpn0
     have hsv : (encS s).val = (encSQ s (.v (.slice s.a4 0 s.c4))).val := by
      rw [show (encS s).val = .agg (encS s).cells.toArray from rfl, encSQ_val s (X := .v (.slice s.a4 0 s.c4)) rfl (by rw [← hpn]; rfl)]
      rfl
     rw [show [encS s, .v (.int .u64 h), .v (.int .u64 a)].map AV.val = [encSQ s (.v (.slice s.a4 0 s.c4)), .v (.int .u64 h), .v (.int .u64 a)].map AV.val by simp only [List.map_cons, List.map_nil, hsv]]
     refine ro_fn tabs2 (ct := []) trivial (cr := []) trivial Tryz.func61 rfl rfl (M := []) rfl trivial trivial ?_
     repeat (first | refine qs_ ?_ | refine qa_ ?_ | refine qo_ ?_ | refine qd_ ?_ | refine za ?_ | refine zb fun _ _ => ?_ | refine zc ?_ | refine ya ?_ | refine yb fun _ _ => ?_ | refine yc ?_ | refine qk_ ?_ | refine qb_ ?_ | refine qx_ ?_)
     refine s_loopW (α := Unit) [7, 8, 9, 10, 11, 12, 13, 14, 15, 16, 17, 18, 19, 20, 21, 22, 23, 24, 25, 26, 27, 28, 29, 30, 31, 32] [] (fun _ => True) (fun _ => [(7, none, .v (.int .i64 0))]) (fun _ => []) (fun _ => 0) () trivial ?_ ?_
     ·
      exact leQ
     ·
      intro _ _
      repeat (first | refine qs_ ?_ | refine qa_ ?_ | refine qo_ ?_ | refine qd_ ?_ | refine za ?_ | refine zb fun _ _ => ?_ | refine zc ?_ | refine ya ?_ | refine yb fun _ _ => ?_ | refine yc ?_ | refine qk_ ?_ | refine qb_ ?_ | refine qx_ ?_)
      refine s_cond (b := false) rfl (fun hb => by cases hb) (fun _ => ?_)
      repeat (first | refine qs_ ?_ | refine qa_ ?_ | refine qo_ ?_ | refine qd_ ?_ | refine za ?_ | refine zb fun _ _ => ?_ | refine zc ?_ | refine ya ?_ | refine yb fun _ _ => ?_ | refine yc ?_ | refine qk_ ?_ | refine qb_ ?_ | refine qx_ ?_)
      refine s_ret ?_
      exact ⟨_, _, rfl, ⟨trivial, trivial⟩, rfl, rfl⟩
   ·
    cases h0
  ·
   cases h0
 ·
  cases h0
theorem dpun_body : HasBody Tryz.prog 61 := ⟨_, Tryz.func61, rfl, by decide⟩
def chkD (K : List Int) (nm : ByteArray) (recs : List (Int × ByteArray)) (x : Vote) : Bool := dcheckF K recs x.from_ (fun i => (vl (dsaidR nm x).1 i).int1) (strOf (dsaidR nm x).1.length (vl (dsaidR nm x).1)) (dsaidR nm x).1.length x.sig
def sealedD (K : List Int) (nm : ByteArray) (recs : List (Int × ByteArray)) (x : Vote) : Bool := ((dsaidR nm x).2 == 0) && chkD K nm recs x
def dsldC (args : List AV) (M : MemF) : Option (Prop × AV) := match args, M 100002 with
 | [S, .ptr p, V], some (.var 2 (.ints .u32 64 K)) => match decS S, decV V, docV M p with
  | some s, some x, some (c, _, recs) => some (c ∧ VR x ∧ recs.length ≤ 4000000000000, .v (.bool (sealedD K s.nm recs x)))
  | _, _, _ => none
 | _, _ => none
def ctDq : CtL := [(114, dcheckC)]
theorem ctDq_ok : CtLOk Tryz.prog ctDq := ⟨.fn dcheck_body dcheck_read, trivial⟩
def crDq : CrL := [(14, dvbC)]
theorem crDq_ok : CrLOk Tryz.prog crDq := ⟨⟨dvb_body, dvb_turn⟩, trivial⟩
theorem dsld_read : ReadFn Tryz.prog 62 dsldC := by
 intro args M q res h0 hq O w0 w hS
 unfold dsldC at h0
 split at h0
 ·
  rename_i S p V K hM2
  split at h0
  ·
   rename_i s x c aa recs hs hx hp
   have hs := decS_enc hs
   have hx := decV_enc hx
   subst hs hx
   clear hs hx
   cases h0
   obtain ⟨hq, hvr, hn⟩ := hq
   obtain ⟨b, i, x1, c1, x2, c2, hv, h1, h2, h3⟩ := doc_open hS hp hq
   have hK := hS.holds _ _ hM2
   rw [show [encS s, AV.ptr p, encV x].map AV.val = [encS s, roP 900 b i 3, encV x].map AV.val by simp only [List.map_cons, List.map_nil, hv]]
   refine ro_fn tabs2 ctDq_ok crDq_ok Tryz.func62 rfl rfl (M := [(900, roB (some (b, i)) 3 1 fun _ => docAV x1 aa.length c1 x2 recs.length c2), (901, roB x1 1 aa.length (asE aa)), (902, roB x2 2 recs.length (recE recs)), (100002, .var 2 (.ints .u32 64 K))]) rfl ⟨roB_noOwn, roB_noOwn, roB_noOwn, fun _ h => h, trivial⟩ ⟨h1, h2, h3, hK, trivial⟩ ?_
   have hlen := dsaid_len s.nm x
   repeat ((fail_if_success (first | refine o_at 14 ?_ | refine d_at 14 ?_)); (first | refine qs_ ?_ | refine qa_ ?_ | refine qo_ ?_ | refine qd_ ?_ | refine za ?_ | refine zb fun _ _ => ?_ | refine zc ?_ | refine ya ?_ | refine yb fun _ _ => ?_ | refine yc ?_ | refine qk_ ?_ | refine qb_ ?_ | refine qx_ ?_))
   refine oB rfl rfl rfl (fun yy hyy => ?_) ⟨(none, _), Nat.le_refl _⟩ ?hc
   case hc => (repeat' (first | exact hvr | apply And.intro)) <;> (first | trivial | rfl | exact Nat.zero_lt_one | decide)
   repeat ((fail_if_success (first | refine o_at 114 ?_ | refine d_at 114 ?_)); (first | refine qs_ ?_ | refine qa_ ?_ | refine qo_ ?_ | refine qd_ ?_ | refine za ?_ | refine zb fun _ _ => ?_ | refine zc ?_ | refine ya ?_ | refine yb fun _ _ => ?_ | refine yc ?_ | refine qk_ ?_ | refine qb_ ?_ | refine qx_ ?_))
   refine o_val rfl rfl trivial ⟨?h1, fun _ => ⟨⟨⟨⟨rfl, rfl, Nat.zero_lt_one⟩, rfl⟩, ⟨⟨rfl, rfl, Nat.le_of_eq (Nat.zero_add _)⟩, fun _ => rfl, fun _ _ => rfl⟩, ⟨rfl, rfl, Nat.le_of_eq (Nat.zero_add _)⟩, fun _ => rfl, fun _ _ => rfl⟩, ?h2, ⟨rfl, rfl, Nat.le_of_eq (Nat.zero_add _)⟩, fun _ => rfl, Nat.le_trans hlen (by decide), fun _ _ => rfl⟩⟩ ?_
   case h1 => (repeat' apply And.intro) <;> (first | trivial | exact fun h => h)
   case h2 => rw [List.length_map, List.length_range]; exact hn
   repeat (first | refine qs_ ?_ | refine qa_ ?_ | refine qo_ ?_ | refine qd_ ?_ | refine za ?_ | refine zb fun _ _ => ?_ | refine zc ?_ | refine ya ?_ | refine yb fun _ _ => ?_ | refine yc ?_ | refine qk_ ?_ | refine qb_ ?_ | refine qx_ ?_)
   refine s_ret ?_
   refine ⟨_, _, rfl, ⟨trivial, trivial⟩, rfl, ?_⟩
   have hag := recs_again recs
   show Value.bool (((dsaidR s.nm x).2 == 0) && chkD K s.nm ((List.range recs.length).map fun i => rec1 (recE recs i)) x) = _
   rw [hag]
   rfl
  ·
   cases h0
 ·
  cases h0
theorem dsld_body : HasBody Tryz.prog 62 := ⟨_, Tryz.func62, rfl, by decide⟩
def dverC (args : List AV) (M : MemF) : Option (Prop × AV) := match args, M 100002 with
 | [S, .ptr p, .agg (.cons a (.cons b .nil))], some (.var 2 (.ints .u32 64 K)) => match decS S, decV a, decV b, docV M p with
  | some s, some x, some y, some (c, _, recs) => match pstV M s.a3 s.n3, comeIn M 90002 2 off1 offX s.a4 s.n4, M 90003 with
   | some (c1, l), some (c2, pun), some (.vro es3 base3 len3 f3) => some (c ∧ (c1 ∧ c2 ∧ ∀ k, k < l.length → (mbK M (l.getD k default)).1) ∧ VR x ∧ VR y ∧ recs.length ≤ 4000000000000, .v (.int .i64 (verR s l (fun k => (mbK M (l.getD k default)).2.map (·.1)) pun (pairD x y) x y (sealedD K s.nm recs x) (sealedD K s.nm recs y))))
   | _, _, _ => none
  | _, _, _, _ => none
 | _, _ => none
def ctDw : CtL := [(56, dgoodC), (57, pairDC), (58, dpastC), (59, cntC), (60, dixC), (61, dpunC), (62, dsldC)]
theorem ctDw_ok : CtLOk Tryz.prog ctDw := ⟨.fn dgood_body dgood_read, .fn pairD_body pairD_read, .fn dpast_body dpast_read, .fn dcnt_body dcnt_read, .fn dix_body dix_read, .fn dpun_body dpun_read, .fn dsld_body dsld_read, trivial⟩
theorem dver_read : ReadFn Tryz.prog 13 dverC := by
 intro args M q res h0 hq O w0 w hS
 unfold dverC at h0
 split at h0
 ·
  rename_i S p a b K hM2
  split at h0
  ·
   rename_i s x y c aa recs hs hx hy hp
   have hs := decS_enc hs
   have hx := decV_enc hx
   have hy := decV_enc hy
   subst hs hx hy
   clear hs hx hy
   split at h0
   ·
    rename_i c1 l c2 pun es3 base3 len3 f3 hpst hpun hM90003
    cases h0
    obtain ⟨hq, ⟨hc1, hc2, hmb⟩, hvx, hvy, hn⟩ := hq
    obtain ⟨bb, ii, x1, cc1, x2, cc2, hv, hd1, hd2, hd3⟩ := doc_open hS hp hq
    have hK := hS.holds _ _ hM2
    obtain ⟨hln, hl, hl3⟩ := comeIn_spec hpst hc1
    obtain ⟨es1, base1, len1, f1, hM1, _⟩ := comeIn_entry hpst
    obtain ⟨es2, base2, len2, f2, hM22, _⟩ := comeIn_entry hpun
    rw [show [encS s, AV.ptr p, .agg (.cons (encV x) (.cons (encV y) .nil))].map AV.val = [encS s, roP 900 bb ii 3, .agg (.cons (encV x) (.cons (encV y) .nil))].map AV.val by simp only [List.map_cons, List.map_nil, hv]]
    obtain ⟨R, hR⟩ : ∃ R, R = verR s l (fun k => (mbK M (l.getD k default)).2.map (·.1)) pun (pairD x y) x y (sealedD K s.nm recs x) (sealedD K s.nm recs y) := ⟨_, rfl⟩
    rw [← hR]
    unfold pstV comeIn at hpst
    rw [hM1] at hpst
    unfold comeIn at hpun
    rw [hM22] at hpun
    cases hpst
    cases hpun
    have hag := recs_again recs
    refine ro_fn tabs2 ctDw_ok (cr := []) trivial Tryz.func13 rfl rfl (M := [(900, roB (some (bb, ii)) 3 1 fun _ => docAV x1 aa.length cc1 x2 recs.length cc2), (901, roB x1 1 aa.length (asE aa)), (902, roB x2 2 recs.length (recE recs)), (90001, .vro es1 base1 len1 f1), (90002, .vro es2 base2 len2 f2), (90003, .vro es3 base3 len3 f3), (100002, .var 2 (.ints .u32 64 K))]) rfl ⟨roB_noOwn, roB_noOwn, roB_noOwn, fun _ h => h, fun _ h => h, fun _ h => h, fun _ h => h, trivial⟩ ⟨hd1, hd2, hd3, hS.holds _ _ hM1, hS.holds _ _ hM22, hS.holds _ _ hM90003, hK, trivial⟩ ?_
    repeat ((fail_if_success (first | refine o_at 56 ?_ | refine d_at 56 ?_)); (first | refine qs_ ?_ | refine qa_ ?_ | refine qo_ ?_ | refine qd_ ?_ | refine za ?_ | refine zb fun _ _ => ?_ | refine zc ?_ | refine ya ?_ | refine yb fun _ _ => ?_ | refine yc ?_ | refine qk_ ?_ | refine qb_ ?_ | refine qx_ ?_))
    refine o_val rfl rfl trivial ⟨by (repeat' apply And.intro) <;> trivial, ⟨⟨⟨rfl, rfl, Nat.zero_lt_one⟩, rfl⟩, ⟨⟨rfl, rfl, Nat.le_of_eq (Nat.zero_add _)⟩, fun _ => rfl, fun _ _ => rfl⟩, ⟨rfl, rfl, Nat.le_of_eq (Nat.zero_add _)⟩, fun _ => rfl, fun _ _ => rfl⟩⟩ ?_
    repeat (first | refine qs_ ?_ | refine qa_ ?_ | refine qo_ ?_ | refine qd_ ?_ | refine za ?_ | refine zb fun _ _ => ?_ | refine zc ?_ | refine ya ?_ | refine yb fun _ _ => ?_ | refine yc ?_ | refine qk_ ?_ | refine qb_ ?_ | refine qx_ ?_)
    refine s_cond (b := false) rfl (fun hb => by cases hb) (fun _ => ?_)
    repeat (first | refine qs_ ?_ | refine qa_ ?_ | refine qo_ ?_ | refine qd_ ?_ | refine za ?_ | refine zb fun _ _ => ?_ | refine zc ?_ | refine ya ?_ | refine yb fun _ _ => ?_ | refine yc ?_ | refine qk_ ?_ | refine qb_ ?_ | refine qx_ ?_)
    refine s_cond (b := ((pairD x y).2 != 0)) rfl (fun hE => ?_) (fun hE => ?_)
    ·
     repeat (first | refine qs_ ?_ | refine qa_ ?_ | refine qo_ ?_ | refine qd_ ?_ | refine za ?_ | refine zb fun _ _ => ?_ | refine zc ?_ | refine ya ?_ | refine yb fun _ _ => ?_ | refine yc ?_ | refine qk_ ?_ | refine qb_ ?_ | refine qx_ ?_)
     refine s_ret ?_
     refine ⟨_, _, rfl, ⟨trivial, trivial⟩, rfl, ?_⟩
     show (AV.v (.int .i64 (pairD x y).2)).val = _
     rw [hR, verR, if_pos hE]
    have hE' : ¬ ((pairD x y).2 != 0) = true := by rw [hE]; decide
    repeat (first | refine qs_ ?_ | refine qa_ ?_ | refine qo_ ?_ | refine qd_ ?_ | refine za ?_ | refine zb fun _ _ => ?_ | refine zc ?_ | refine ya ?_ | refine yb fun _ _ => ?_ | refine yc ?_ | refine qk_ ?_ | refine qb_ ?_ | refine qx_ ?_)
    refine s_cond (b := !(eqE (pairD x y).1 (x, y))) rfl (fun hQ => ?_) (fun hQ => ?_)
    ·
     repeat (first | refine qs_ ?_ | refine qa_ ?_ | refine qo_ ?_ | refine qd_ ?_ | refine za ?_ | refine zb fun _ _ => ?_ | refine zc ?_ | refine ya ?_ | refine yb fun _ _ => ?_ | refine yc ?_ | refine qk_ ?_ | refine qb_ ?_ | refine qx_ ?_)
     refine s_ret ?_
     refine ⟨_, _, rfl, ⟨trivial, trivial⟩, rfl, ?_⟩
     show (AV.v (.int .i64 110)).val = _
     rw [hR, verR, if_neg hE', if_pos hQ]
    have hQ' : ¬ (!(eqE (pairD x y).1 (x, y))) = true := by rw [hQ]; decide
    repeat ((fail_if_success (first | refine o_at 58 ?_ | refine d_at 58 ?_)); (first | refine qs_ ?_ | refine qa_ ?_ | refine qo_ ?_ | refine qd_ ?_ | refine za ?_ | refine zb fun _ _ => ?_ | refine zc ?_ | refine ya ?_ | refine yb fun _ _ => ?_ | refine yc ?_ | refine qk_ ?_ | refine qb_ ?_ | refine qx_ ?_))
    refine o_val rfl rfl trivial ⟨by (repeat' apply And.intro) <;> trivial, hc1⟩ ?_
    repeat (first | refine qs_ ?_ | refine qa_ ?_ | refine qo_ ?_ | refine qd_ ?_ | refine za ?_ | refine zb fun _ _ => ?_ | refine zc ?_ | refine ya ?_ | refine yb fun _ _ => ?_ | refine yc ?_ | refine qk_ ?_ | refine qb_ ?_ | refine qx_ ?_)
    refine s_cond (b := ((!(cntF s x.height)) || decide (numIx x.height (List.map (fun x => x.h) ((List.range s.n3).map fun i => pst1 (f1 (hxA s.a3 s.n3) i))) 0 < 0))) rfl (fun hN => ?_) (fun hN => ?_)
    ·
     repeat (first | refine qs_ ?_ | refine qa_ ?_ | refine qo_ ?_ | refine qd_ ?_ | refine za ?_ | refine zb fun _ _ => ?_ | refine zc ?_ | refine ya ?_ | refine yb fun _ _ => ?_ | refine yc ?_ | refine qk_ ?_ | refine qb_ ?_ | refine qx_ ?_)
     refine s_ret ?_
     refine ⟨_, _, rfl, ⟨trivial, trivial⟩, rfl, ?_⟩
     show (AV.v (.int .i64 111)).val = _
     rw [hR, verR, if_neg hE', if_neg hQ', if_pos hN]
    have hN' : ¬ ((!(cntF s x.height)) || decide (numIx x.height (List.map (fun x => x.h) ((List.range s.n3).map fun i => pst1 (f1 (hxA s.a3 s.n3) i))) 0 < 0)) = true := by rw [hN]; decide
    obtain ⟨k, hk, hke⟩ : ∃ k : Nat, k < s.n3 ∧ numIx x.height (List.map (fun x => x.h) ((List.range s.n3).map fun i => pst1 (f1 (hxA s.a3 s.n3) i))) 0 = (k : Int) := by
     simp only [Bool.or_eq_false_iff, decide_eq_false_iff_not] at hN
     rcases numIx_lt (a := x.height) (l := (List.map (fun x => x.h) ((List.range s.n3).map fun i => pst1 (f1 (hxA s.a3 s.n3) i)))) (i := 0) with h | ⟨k, h1, h2⟩
     ·
      omega
     ·
      exact ⟨k, by simpa using h1, by rw [h2]; simp⟩
    obtain ⟨base, len, f, b', o, hM1', ha3, hb1, hle, hel⟩ := hl3 (by omega)
    rw [hM1] at hM1'
    cases hM1'
    have hmk := hmb k (by simpa using hk)
    unfold mbK comeIn at hmk
    rw [hM90003] at hmk
    refine s_le (le_sub (n := 910) (k := 90001) (ix := hx b' o s.n3) (m := s.n3) (g := pstE ((List.range s.n3).map fun i => pst1 (f1 (hxA s.a3 s.n3) i))) rfl rfl hb1 hle (fun i hi => (hel i hi).symm)) ?_
    refine s_le (le_blk (k := 3) rfl rfl (Blk.le_rowc (f' := fun _ => encSP s (roS 910 (some (b', o)) 3 s.n3 s.c3)) (Nat.le_refl _) fun i hi => ⟨(encSP_val s (roS_cells _ _ _ _ _) ((roS_val 910 (some (b', o)) 3 s.n3 s.c3).trans (by rw [ha3]; rfl))).symm, rfl⟩)) ?_
    refine s_le (le_val (t := 10) (av' := .v (.int .i64 (k : Int))) rfl (by rw [← hke])) ?_
    repeat (first | refine qs_ ?_ | refine qa_ ?_ | refine qo_ ?_ | refine qd_ ?_ | refine za ?_ | refine zb fun _ _ => ?_ | refine zc ?_ | refine ya ?_ | refine yb fun _ _ => ?_ | refine yc ?_ | refine qk_ ?_ | refine qb_ ?_ | refine qx_ ?_)
    refine s_draw rD13_13 rM13_13 rX13_13 rN13_13 rfl rfl ?_
    repeat ((fail_if_success (first | refine o_at 60 ?_ | refine d_at 60 ?_)); (first | refine qs_ ?_ | refine qa_ ?_ | refine qo_ ?_ | refine qd_ ?_ | refine za ?_ | refine zb fun _ _ => ?_ | refine zc ?_ | refine ya ?_ | refine yb fun _ _ => ?_ | refine yc ?_ | refine qk_ ?_ | refine qb_ ?_ | refine qx_ ?_))
    refine d_val rfl rfl trivial ⟨by (repeat' apply And.intro) <;> trivial, hmk⟩ ?_
    repeat (first | refine qs_ ?_ | refine qa_ ?_ | refine qo_ ?_ | refine qd_ ?_ | refine za ?_ | refine zb fun _ _ => ?_ | refine zc ?_ | refine ya ?_ | refine yb fun _ _ => ?_ | refine yc ?_ | refine qk_ ?_ | refine qb_ ?_ | refine qx_ ?_)
    have hmem : (mbK M (((List.range s.n3).map fun i => pst1 (f1 (hxA s.a3 s.n3) i)).getD (numIx x.height (List.map (fun x => x.h) ((List.range s.n3).map fun i => pst1 (f1 (hxA s.a3 s.n3) i))) 0).toNat default)).2.map (·.1) = (((List.range (((List.range s.n3).map fun i => pst1 (f1 (hxA s.a3 s.n3) i)).getD k default).n).map fun i => mb1 (f3 (hxA (((List.range s.n3).map fun i => pst1 (f1 (hxA s.a3 s.n3) i)).getD k default).a (((List.range s.n3).map fun i => pst1 (f1 (hxA s.a3 s.n3) i)).getD k default).n) i)).map (·.1)) := by
     rw [hke]
     unfold mbK comeIn
     rw [hM90003]
     rfl
    refine s_cond (b := decide (numIx x.from_ (((List.range (((List.range s.n3).map fun i => pst1 (f1 (hxA s.a3 s.n3) i)).getD k default).n).map fun i => mb1 (f3 (hxA (((List.range s.n3).map fun i => pst1 (f1 (hxA s.a3 s.n3) i)).getD k default).a (((List.range s.n3).map fun i => pst1 (f1 (hxA s.a3 s.n3) i)).getD k default).n) i)).map (·.1)) 0 < 0)) rfl (fun hI => ?_) (fun hI => ?_)
    ·
     repeat (first | refine qs_ ?_ | refine qa_ ?_ | refine qo_ ?_ | refine qd_ ?_ | refine za ?_ | refine zb fun _ _ => ?_ | refine zc ?_ | refine ya ?_ | refine yb fun _ _ => ?_ | refine yc ?_ | refine qk_ ?_ | refine qb_ ?_ | refine qx_ ?_)
     refine s_ret ?_
     refine ⟨_, _, rfl, ⟨trivial, trivial⟩, rfl, ?_⟩
     show (AV.v (.int .i64 101)).val = _
     rw [hR, verR, if_neg hE', if_neg hQ', if_neg hN', hmem, if_pos hI]
    refine s_le (le_blk (k := 3) rfl rfl (Blk.le_rowc (f' := fun _ => encS s) (Nat.le_refl _) fun i hi => ⟨encSP_val s (roS_cells _ _ _ _ _) ((roS_val 910 (some (b', o)) 3 s.n3 s.c3).trans (by rw [ha3]; rfl)), rfl⟩)) ?_
    repeat ((fail_if_success (first | refine o_at 61 ?_ | refine d_at 61 ?_)); (first | refine qs_ ?_ | refine qa_ ?_ | refine qo_ ?_ | refine qd_ ?_ | refine za ?_ | refine zb fun _ _ => ?_ | refine zc ?_ | refine ya ?_ | refine yb fun _ _ => ?_ | refine yc ?_ | refine qk_ ?_ | refine qb_ ?_ | refine qx_ ?_))
    refine o_val rfl rfl trivial ⟨by (repeat' apply And.intro) <;> trivial, hc2⟩ ?_
    repeat (first | refine qs_ ?_ | refine qa_ ?_ | refine qo_ ?_ | refine qd_ ?_ | refine za ?_ | refine zb fun _ _ => ?_ | refine zc ?_ | refine ya ?_ | refine yb fun _ _ => ?_ | refine yc ?_ | refine qk_ ?_ | refine qb_ ?_ | refine qx_ ?_)
    refine s_cond (b := decide (offIx (x.height, x.from_) ((List.range s.n4).map fun i => off1 (f2 (hxA s.a4 s.n4) i)) 0 ≥ 0)) rfl (fun hD => ?_) (fun hD => ?_)
    ·
     repeat (first | refine qs_ ?_ | refine qa_ ?_ | refine qo_ ?_ | refine qd_ ?_ | refine za ?_ | refine zb fun _ _ => ?_ | refine zc ?_ | refine ya ?_ | refine yb fun _ _ => ?_ | refine yc ?_ | refine qk_ ?_ | refine qb_ ?_ | refine qx_ ?_)
     refine s_ret ?_
     refine ⟨_, _, rfl, ⟨trivial, trivial⟩, rfl, ?_⟩
     show (AV.v (.int .i64 112)).val = _
     rw [hR, verR, if_neg hE', if_neg hQ', if_neg hN', hmem, if_neg (by rw [hI]; decide), if_pos hD]
    have hV : R = if sealedD K s.nm recs x = true then (if sealedD K s.nm recs y = true then 0 else 84) else 84 := by
     rw [hR, verR, if_neg hE', if_neg hQ', if_neg hN', hmem, if_neg (by rw [hI]; decide), if_neg (by rw [hD]; decide)]
    obtain ⟨sx, hsx⟩ : ∃ b, b = sealedD K s.nm recs x := ⟨_, rfl⟩
    obtain ⟨sy, hsy⟩ : ∃ b, b = sealedD K s.nm recs y := ⟨_, rfl⟩
    repeat ((fail_if_success (first | refine o_at 62 ?_ | refine d_at 62 ?_)); (first | refine qs_ ?_ | refine qa_ ?_ | refine qo_ ?_ | refine qd_ ?_ | refine za ?_ | refine zb fun _ _ => ?_ | refine zc ?_ | refine ya ?_ | refine yb fun _ _ => ?_ | refine yc ?_ | refine qk_ ?_ | refine qb_ ?_ | refine qx_ ?_))
    refine o_val rfl rfl trivial ⟨by (repeat' apply And.intro) <;> trivial, ⟨⟨⟨rfl, rfl, Nat.zero_lt_one⟩, rfl⟩, ⟨⟨rfl, rfl, Nat.le_of_eq (Nat.zero_add _)⟩, fun _ => rfl, fun _ _ => rfl⟩, ⟨rfl, rfl, Nat.le_of_eq (Nat.zero_add _)⟩, fun _ => rfl, fun _ _ => rfl⟩, hvx, by rw [List.length_map, List.length_range]; exact hn⟩ ?_
    refine o_le (le_val (t := 69) (av' := .v (.bool sx)) rfl (by rw [hsx]; show _ = Value.bool (sealedD K s.nm ((List.range recs.length).map fun i => rec1 (recE recs i)) x); rw [hag]; rfl)) ?_
    repeat ((fail_if_success (first | refine o_at 62 ?_ | refine d_at 62 ?_)); (first | refine qs_ ?_ | refine qa_ ?_ | refine qo_ ?_ | refine qd_ ?_ | refine za ?_ | refine zb fun _ _ => ?_ | refine zc ?_ | refine ya ?_ | refine yb fun _ _ => ?_ | refine yc ?_ | refine qk_ ?_ | refine qb_ ?_ | refine qx_ ?_))
    refine o_val rfl rfl trivial ⟨by (repeat' apply And.intro) <;> trivial, ⟨⟨⟨rfl, rfl, Nat.zero_lt_one⟩, rfl⟩, ⟨⟨rfl, rfl, Nat.le_of_eq (Nat.zero_add _)⟩, fun _ => rfl, fun _ _ => rfl⟩, ⟨rfl, rfl, Nat.le_of_eq (Nat.zero_add _)⟩, fun _ => rfl, fun _ _ => rfl⟩, hvy, by rw [List.length_map, List.length_range]; exact hn⟩ ?_
    refine o_le (le_val (t := 74) (av' := .v (.bool sy)) rfl (by rw [hsy]; show _ = Value.bool (sealedD K s.nm ((List.range recs.length).map fun i => rec1 (recE recs i)) y); rw [hag]; rfl)) ?_
    repeat (first | refine qs_ ?_ | refine qa_ ?_ | refine qo_ ?_ | refine qd_ ?_ | refine za ?_ | refine zb fun _ _ => ?_ | refine zc ?_ | refine ya ?_ | refine yb fun _ _ => ?_ | refine yc ?_ | refine qk_ ?_ | refine qb_ ?_ | refine qx_ ?_)
    rw [← hsx, ← hsy] at hV
    refine s_cond (b := (!sx || !sy)) rfl (fun hF => ?_) (fun hF => ?_)
    ·
     repeat (first | refine qs_ ?_ | refine qa_ ?_ | refine qo_ ?_ | refine qd_ ?_ | refine za ?_ | refine zb fun _ _ => ?_ | refine zc ?_ | refine ya ?_ | refine yb fun _ _ => ?_ | refine yc ?_ | refine qk_ ?_ | refine qb_ ?_ | refine qx_ ?_)
     refine s_ret ?_
     refine ⟨_, _, rfl, ⟨trivial, trivial⟩, rfl, ?_⟩
     show (AV.v (.int .i64 84)).val = _
     rw [hV]
     cases sx <;> cases sy <;> first | rfl | cases hF
    ·
     repeat (first | refine qs_ ?_ | refine qa_ ?_ | refine qo_ ?_ | refine qd_ ?_ | refine za ?_ | refine zb fun _ _ => ?_ | refine zc ?_ | refine ya ?_ | refine yb fun _ _ => ?_ | refine yc ?_ | refine qk_ ?_ | refine qb_ ?_ | refine qx_ ?_)
     refine s_ret ?_
     refine ⟨_, _, rfl, ⟨trivial, trivial⟩, rfl, ?_⟩
     show (AV.v (.int .i64 0)).val = _
     rw [hV]
     cases sx <;> cases sy <;> first | rfl | cases hF
   ·
    cases h0
  ·
   cases h0
 ·
  cases h0
theorem dver_body : HasBody Tryz.prog 13 := ⟨_, Tryz.func13, rfl, by decide⟩
end Go.Proofs.YtofophjfgalhaaaGreatDoor.V
