import Derived.Test.YtofophjfgalhaaaGreatDoorMisdeedPoolsW13
import Derived.Test.YtofophjfgalhaaaGreatDoorMisdeedPoolsW17
import Derived.Test.YtofophjfgalhaaaGreatDoorMisdeedPoolsW24
import Derived.Test.YtofophjfgalhaaaGreatDoorMisdeedPoolsW32
set_option linter.unusedVariables false
set_option linter.unusedSimpArgs false
set_option maxRecDepth 100000
set_option maxHeartbeats 8000000
namespace Go.Proofs.YtofophjfgalhaaaGreatDoor.V
open Go Go.RowKit
def decVz (a : AV) : Vote := match decV a with
 | some v => v
 | none => zeroV
def cmp3 (a b : Int) : Int := if a < b then -1 else if a > b then 1 else 0
def or2 (a b : Int) : Int := if (a != 0) = true then a else b
def nanC (args : List AV) (_M : MemF) : Option (Prop × AV) := match args with
 | [.v (.int .u64 _)] => some (True, .v (.bool false))
 | _ => none
theorem nan1_read : ReadFn Tryz.prog 147 nanC := by
 intro args M q res h hq O w0 w hS
 unfold nanC at h
 split at h
 ·
  rename_i a
  cases h
  refine ro_fn tabs2 (ct := []) trivial (cr := []) trivial Tryz.func147 rfl rfl (M := []) rfl trivial trivial ?_
  repeat (first | refine qs_ ?_ | refine qa_ ?_ | refine qo_ ?_ | refine qd_ ?_ | refine za ?_ | refine zb fun _ _ => ?_ | refine zc ?_ | refine ya ?_ | refine yb fun _ _ => ?_ | refine yc ?_ | refine qk_ ?_ | refine qb_ ?_ | refine qx_ ?_)
  refine s_ret ?_
  refine ⟨_, _, rfl, ⟨trivial, trivial⟩, rfl, ?_⟩
  show (AV.v (.bool (a != a))).val = _
  rw [bne_self_eq_false]
 ·
  cases h
theorem nan2_read : ReadFn Tryz.prog 148 nanC := by
 intro args M q res h hq O w0 w hS
 unfold nanC at h
 split at h
 ·
  rename_i a
  cases h
  refine ro_fn tabs2 (ct := []) trivial (cr := []) trivial Tryz.func148 rfl rfl (M := []) rfl trivial trivial ?_
  repeat (first | refine qs_ ?_ | refine qa_ ?_ | refine qo_ ?_ | refine qd_ ?_ | refine za ?_ | refine zb fun _ _ => ?_ | refine zc ?_ | refine ya ?_ | refine yb fun _ _ => ?_ | refine yc ?_ | refine qk_ ?_ | refine qb_ ?_ | refine qx_ ?_)
  refine s_ret ?_
  refine ⟨_, _, rfl, ⟨trivial, trivial⟩, rfl, ?_⟩
  show (AV.v (.bool (a != a))).val = _
  rw [bne_self_eq_false]
 ·
  cases h
theorem nan1_body : HasBody Tryz.prog 147 := ⟨_, Tryz.func147, rfl, by decide⟩
theorem nan2_body : HasBody Tryz.prog 148 := ⟨_, Tryz.func148, rfl, by decide⟩
def ctNa : CtL := [(147, nanC), (148, nanC)]
theorem ctNa_ok : CtLOk Tryz.prog ctNa := ⟨.fn nan1_body nan1_read, .fn nan2_body nan2_read, trivial⟩
def cmpUC (args : List AV) (_M : MemF) : Option (Prop × AV) := match args with
 | [.v (.int .u64 a), .v (.int .u64 b)] => some (True, .v (.int .i64 (cmp3 a b)))
 | _ => none
theorem cmpU1_read : ReadFn Tryz.prog 100 cmpUC := by
 intro args M q res h hq O w0 w hS
 unfold cmpUC at h
 split at h
 ·
  rename_i a b
  cases h
  refine ro_fn tabs2 ctNa_ok (cr := []) trivial Tryz.func100 rfl rfl (M := []) rfl trivial trivial ?_
  repeat (first | refine qs_ ?_ | refine qa_ ?_ | refine qo_ ?_ | refine qd_ ?_ | refine za ?_ | refine zb fun _ _ => ?_ | refine zc ?_ | refine ya ?_ | refine yb fun _ _ => ?_ | refine yc ?_ | refine qk_ ?_ | refine qb_ ?_ | refine qx_ ?_)
  refine s_cond (b := false) rfl (fun hb => by cases hb) (fun _ => ?_)
  repeat (first | refine qs_ ?_ | refine qa_ ?_ | refine qo_ ?_ | refine qd_ ?_ | refine za ?_ | refine zb fun _ _ => ?_ | refine zc ?_ | refine ya ?_ | refine yb fun _ _ => ?_ | refine yc ?_ | refine qk_ ?_ | refine qb_ ?_ | refine qx_ ?_)
  refine s_cond (b := false) rfl (fun hb => by cases hb) (fun _ => ?_)
  repeat (first | refine qs_ ?_ | refine qa_ ?_ | refine qo_ ?_ | refine qd_ ?_ | refine za ?_ | refine zb fun _ _ => ?_ | refine zc ?_ | refine ya ?_ | refine yb fun _ _ => ?_ | refine yc ?_ | refine qk_ ?_ | refine qb_ ?_ | refine qx_ ?_)
  refine s_cond (b := decide (a < b)) rfl (fun h1 => ?_) (fun h1 => ?_)
  ·
   repeat (first | refine qs_ ?_ | refine qa_ ?_ | refine qo_ ?_ | refine qd_ ?_ | refine za ?_ | refine zb fun _ _ => ?_ | refine zc ?_ | refine ya ?_ | refine yb fun _ _ => ?_ | refine yc ?_ | refine qk_ ?_ | refine qb_ ?_ | refine qx_ ?_)
   refine s_ret ?_
   exact ⟨_, _, rfl, ⟨trivial, trivial⟩, rfl, by rw [cmp3, if_pos (of_decide_eq_true h1)]; rfl⟩
  repeat (first | refine qs_ ?_ | refine qa_ ?_ | refine qo_ ?_ | refine qd_ ?_ | refine za ?_ | refine zb fun _ _ => ?_ | refine zc ?_ | refine ya ?_ | refine yb fun _ _ => ?_ | refine yc ?_ | refine qk_ ?_ | refine qb_ ?_ | refine qx_ ?_)
  refine s_cond (b := decide (a > b)) rfl (fun h2 => ?_) (fun h2 => ?_)
  ·
   repeat (first | refine qs_ ?_ | refine qa_ ?_ | refine qo_ ?_ | refine qd_ ?_ | refine za ?_ | refine zb fun _ _ => ?_ | refine zc ?_ | refine ya ?_ | refine yb fun _ _ => ?_ | refine yc ?_ | refine qk_ ?_ | refine qb_ ?_ | refine qx_ ?_)
   refine s_ret ?_
   exact ⟨_, _, rfl, ⟨trivial, trivial⟩, rfl, by rw [cmp3, if_neg (of_decide_eq_false h1), if_pos (of_decide_eq_true h2)]; rfl⟩
  ·
   repeat (first | refine qs_ ?_ | refine qa_ ?_ | refine qo_ ?_ | refine qd_ ?_ | refine za ?_ | refine zb fun _ _ => ?_ | refine zc ?_ | refine ya ?_ | refine yb fun _ _ => ?_ | refine yc ?_ | refine qk_ ?_ | refine qb_ ?_ | refine qx_ ?_)
   refine s_ret ?_
   exact ⟨_, _, rfl, ⟨trivial, trivial⟩, rfl, by rw [cmp3, if_neg (of_decide_eq_false h1), if_neg (of_decide_eq_false h2)]; rfl⟩
 ·
  cases h
theorem cmpU2_read : ReadFn Tryz.prog 101 cmpUC := by
 intro args M q res h hq O w0 w hS
 unfold cmpUC at h
 split at h
 ·
  rename_i a b
  cases h
  refine ro_fn tabs2 ctNa_ok (cr := []) trivial Tryz.func101 rfl rfl (M := []) rfl trivial trivial ?_
  repeat (first | refine qs_ ?_ | refine qa_ ?_ | refine qo_ ?_ | refine qd_ ?_ | refine za ?_ | refine zb fun _ _ => ?_ | refine zc ?_ | refine ya ?_ | refine yb fun _ _ => ?_ | refine yc ?_ | refine qk_ ?_ | refine qb_ ?_ | refine qx_ ?_)
  refine s_cond (b := false) rfl (fun hb => by cases hb) (fun _ => ?_)
  repeat (first | refine qs_ ?_ | refine qa_ ?_ | refine qo_ ?_ | refine qd_ ?_ | refine za ?_ | refine zb fun _ _ => ?_ | refine zc ?_ | refine ya ?_ | refine yb fun _ _ => ?_ | refine yc ?_ | refine qk_ ?_ | refine qb_ ?_ | refine qx_ ?_)
  refine s_cond (b := false) rfl (fun hb => by cases hb) (fun _ => ?_)
  repeat (first | refine qs_ ?_ | refine qa_ ?_ | refine qo_ ?_ | refine qd_ ?_ | refine za ?_ | refine zb fun _ _ => ?_ | refine zc ?_ | refine ya ?_ | refine yb fun _ _ => ?_ | refine yc ?_ | refine qk_ ?_ | refine qb_ ?_ | refine qx_ ?_)
  refine s_cond (b := decide (a < b)) rfl (fun h1 => ?_) (fun h1 => ?_)
  ·
   repeat (first | refine qs_ ?_ | refine qa_ ?_ | refine qo_ ?_ | refine qd_ ?_ | refine za ?_ | refine zb fun _ _ => ?_ | refine zc ?_ | refine ya ?_ | refine yb fun _ _ => ?_ | refine yc ?_ | refine qk_ ?_ | refine qb_ ?_ | refine qx_ ?_)
   refine s_ret ?_
   exact ⟨_, _, rfl, ⟨trivial, trivial⟩, rfl, by rw [cmp3, if_pos (of_decide_eq_true h1)]; rfl⟩
  repeat (first | refine qs_ ?_ | refine qa_ ?_ | refine qo_ ?_ | refine qd_ ?_ | refine za ?_ | refine zb fun _ _ => ?_ | refine zc ?_ | refine ya ?_ | refine yb fun _ _ => ?_ | refine yc ?_ | refine qk_ ?_ | refine qb_ ?_ | refine qx_ ?_)
  refine s_cond (b := decide (a > b)) rfl (fun h2 => ?_) (fun h2 => ?_)
  ·
   repeat (first | refine qs_ ?_ | refine qa_ ?_ | refine qo_ ?_ | refine qd_ ?_ | refine za ?_ | refine zb fun _ _ => ?_ | refine zc ?_ | refine ya ?_ | refine yb fun _ _ => ?_ | refine yc ?_ | refine qk_ ?_ | refine qb_ ?_ | refine qx_ ?_)
   refine s_ret ?_
   exact ⟨_, _, rfl, ⟨trivial, trivial⟩, rfl, by rw [cmp3, if_neg (of_decide_eq_false h1), if_pos (of_decide_eq_true h2)]; rfl⟩
  ·
   repeat (first | refine qs_ ?_ | refine qa_ ?_ | refine qo_ ?_ | refine qd_ ?_ | refine za ?_ | refine zb fun _ _ => ?_ | refine zc ?_ | refine ya ?_ | refine yb fun _ _ => ?_ | refine yc ?_ | refine qk_ ?_ | refine qb_ ?_ | refine qx_ ?_)
   refine s_ret ?_
   exact ⟨_, _, rfl, ⟨trivial, trivial⟩, rfl, by rw [cmp3, if_neg (of_decide_eq_false h1), if_neg (of_decide_eq_false h2)]; rfl⟩
 ·
  cases h
theorem cmpU1_body : HasBody Tryz.prog 100 := ⟨_, Tryz.func100, rfl, by decide⟩
theorem cmpU2_body : HasBody Tryz.prog 101 := ⟨_, Tryz.func101, rfl, by decide⟩
def orC (args : List AV) (M : MemF) : Option (Prop × AV) := match args with
 | [X] => match seqOf M X with
  | some (c, es, n, f) => some (c ∧ n = 2 ∧ es = 1 ∧ f 0 = .v (.int .i64 (f 0).int1) ∧ f 1 = .v (.int .i64 (f 1).int1), .v (.int .i64 (or2 (f 0).int1 (f 1).int1)))
  | none => none
 | _ => none
theorem or_read : ReadFn Tryz.prog 99 orC := by
 intro args M q res h0 hq O w0 w hS
 unfold orC at h0
 split at h0
 ·
  rename_i X
  split at h0
  ·
   rename_i c es n f hsx
   cases h0
   obtain ⟨hc, rfl, rfl, e0, e1⟩ := hq
   obtain ⟨base, cap, hv, hf⟩ := seqOf_spec hS hsx hc
   obtain ⟨a, ha⟩ : ∃ a, a = (f 0).int1 := ⟨_, rfl⟩
   obtain ⟨b, hb⟩ : ∃ b, b = (f 1).int1 := ⟨_, rfl⟩
   rw [← ha] at e0 ⊢
   rw [← hb] at e1 ⊢
   have hro : (roB base 1 2 fun i => .v (.int .i64 (if i = 0 then a else b))).holds w := roB_holds fun _ => by
    obtain ⟨bb, o, h1, h2⟩ := hf (by decide)
    refine ⟨bb, o, h1, h2.congr fun i hi => ?_⟩
    rcases i with _ | _ | i
    ·
     exact e0
    ·
     exact e1
    ·
     omega
   rw [show [X].map AV.val = [roS 900 base 1 2 cap].map AV.val by simp only [List.map_cons, List.map_nil, hv, roS_val]]
   refine ro_fn tabs2 (ct := []) trivial (cr := []) trivial Tryz.func99 rfl rfl (M := [(900, roB base 1 2 fun i => .v (.int .i64 (if i = 0 then a else b)))]) rfl ⟨roB_noOwn, trivial⟩ ⟨hro, trivial⟩ ?_
   repeat (first | refine qs_ ?_ | refine qa_ ?_ | refine qo_ ?_ | refine qd_ ?_ | refine za ?_ | refine zb fun _ _ => ?_ | refine zc ?_ | refine ya ?_ | refine yb fun _ _ => ?_ | refine yc ?_ | refine qk_ ?_ | refine qb_ ?_ | refine qx_ ?_)
   refine s_loopW (α := Nat) [5, 8, 9, 10, 11, 12, 13, 14, 15, 16] [] (fun k => k ≤ 2 ∧ ∀ j, j < k → (if j = 0 then a else b) = 0) (fun k => [(8, none, .v (.int .i64 k))]) (fun _ => []) (fun k => 2 - k) 0 ⟨by decide, fun j hj => absurd hj (Nat.not_lt_zero j)⟩ ?_ ?_
   ·
    exact leQ
   ·
    intro k ⟨hk, hno⟩
    repeat (first | refine qs_ ?_ | refine qa_ ?_ | refine qo_ ?_ | refine qd_ ?_ | refine za ?_ | refine zb fun _ _ => ?_ | refine zc ?_ | refine ya ?_ | refine yb fun _ _ => ?_ | refine yc ?_ | refine qk_ ?_ | refine qb_ ?_ | refine qx_ ?_)
    refine s_cond (b := decide ((k : Int) < ((2 : Nat) : Int))) rfl (fun hb2 => ?_) (fun hb2 => ?_)
    ·
     have hk8 : k < 2 := by have := of_decide_eq_true hb2; omega
     repeat (first | refine qs_ ?_ | refine qa_ ?_ | refine qo_ ?_ | refine qd_ ?_ | refine za ?_ | refine zb fun _ _ => ?_ | refine zc ?_ | refine ya ?_ | refine yb fun _ _ => ?_ | refine yc ?_ | refine qk_ ?_ | refine qb_ ?_ | refine qx_ ?_)
     refine s_cond (b := ((if k = 0 then a else b) != 0)) rfl (fun h9 => ?_) (fun h9 => ?_)
     ·
      repeat (first | refine qs_ ?_ | refine qa_ ?_ | refine qo_ ?_ | refine qd_ ?_ | refine za ?_ | refine zb fun _ _ => ?_ | refine zc ?_ | refine ya ?_ | refine yb fun _ _ => ?_ | refine yc ?_ | refine qk_ ?_ | refine qb_ ?_ | refine qx_ ?_)
      refine s_ret ?_
      refine ⟨_, _, rfl, ⟨trivial, trivial⟩, rfl, ?_⟩
      show (AV.v (.int .i64 (if k = 0 then a else b))).val = _
      rcases k with _ | _ | k
      ·
       have h9' : (a != 0) = true := h9
       show (AV.v (.int .i64 a)).val = _
       rw [or2, if_pos h9']
      ·
       have e : a = 0 := hno 0 (by decide)
       have e' : ¬ (a != 0) = true := by rw [e]; decide
       show (AV.v (.int .i64 b)).val = _
       rw [or2, if_neg e']
      ·
       omega
     ·
      repeat (first | refine qs_ ?_ | refine qa_ ?_ | refine qo_ ?_ | refine qd_ ?_ | refine za ?_ | refine zb fun _ _ => ?_ | refine zc ?_ | refine ya ?_ | refine yb fun _ _ => ?_ | refine yc ?_ | refine qk_ ?_ | refine qb_ ?_ | refine qx_ ?_)
      refine ⟨k + 1, ⟨by omega, fun j hj => ?_⟩, by omega, ?_⟩
      ·
       rcases Nat.lt_or_ge j k with h1 | h1
       ·
        exact hno j h1
       ·
        rw [show j = k by omega]; simpa using h9
      ·
       exact leQ
    ·
     have hk8 : k = 2 := by have := of_decide_eq_false hb2; omega
     subst hk8
     repeat (first | refine qs_ ?_ | refine qa_ ?_ | refine qo_ ?_ | refine qd_ ?_ | refine za ?_ | refine zb fun _ _ => ?_ | refine zc ?_ | refine ya ?_ | refine yb fun _ _ => ?_ | refine yc ?_ | refine qk_ ?_ | refine qb_ ?_ | refine qx_ ?_)
     refine s_ret ?_
     refine ⟨_, _, rfl, ⟨trivial, trivial⟩, rfl, ?_⟩
     have e : a = 0 := hno 0 (by decide)
     have e' : ¬ (a != 0) = true := by rw [e]; decide
     have e2 : b = 0 := hno 1 (by decide)
     rw [or2, if_neg e', e2]; rfl
  ·
   cases h0
 ·
  cases h0
theorem or_body : HasBody Tryz.prog 99 := ⟨_, Tryz.func99, rfl, by decide⟩
def cmpE (x y : Vote × Vote) : Int := or2 (cmp3 x.1.height y.1.height) (cmp3 x.1.from_ y.1.from_)
def cmpEC (args : List AV) (_M : MemF) : Option (Prop × AV) := match args with
 | [.agg (.cons a (.cons b .nil)), .agg (.cons c (.cons d .nil))] => match decV a, decV b, decV c, decV d with
  | some x, some x2, some y, some y2 => some (True, .v (.int .i64 (cmpE (x, x2) (y, y2))))
  | _, _, _, _ => none
 | _ => none
def ctCe : CtL := [(99, orC), (100, cmpUC), (101, cmpUC)]
theorem ctCe_ok : CtLOk Tryz.prog ctCe := ⟨.fn or_body or_read, .fn cmpU1_body cmpU1_read, .fn cmpU2_body cmpU2_read, trivial⟩
theorem cmpE_read : ReadFn Tryz.prog 98 cmpEC := by
 intro args M q res h hq O w0 w hS
 unfold cmpEC at h
 split at h
 ·
  rename_i a b c d
  split at h
  ·
   rename_i x x2 y y2 h1 h2 h3 h4
   cases h
   have h1 := decV_enc h1
   have h2 := decV_enc h2
   have h3 := decV_enc h3
   have h4 := decV_enc h4
   subst h1 h2 h3 h4
   refine ro_fn tabs2 ctCe_ok (cr := []) trivial Tryz.func98 rfl rfl (M := []) rfl trivial trivial ?_
   repeat (first | refine qs_ ?_ | refine qa_ ?_ | refine qo_ ?_ | refine qd_ ?_ | refine za ?_ | refine zb fun _ _ => ?_ | refine zc ?_ | refine ya ?_ | refine yb fun _ _ => ?_ | refine yc ?_ | refine qk_ ?_ | refine qb_ ?_ | refine qx_ ?_)
   refine s_draw rD98_1 rM98_1 rX98_1 rN98_1 rfl rfl ?_
   repeat (first | refine qs_ ?_ | refine qa_ ?_ | refine qo_ ?_ | refine qd_ ?_ | refine za ?_ | refine zb fun _ _ => ?_ | refine zc ?_ | refine ya ?_ | refine yb fun _ _ => ?_ | refine yc ?_ | refine qk_ ?_ | refine qb_ ?_ | refine qx_ ?_)
   refine s_ret ?_
   exact ⟨_, _, rfl, ⟨trivial, trivial⟩, rfl, rfl⟩
  ·
   cases h
 ·
  cases h
theorem cmpE_body : HasBody Tryz.prog 98 := ⟨_, Tryz.func98, rfl, by decide⟩
structure PEv where
 h : Int
 f : Int
 e : Vote × Vote
 st : Nat
instance : Inhabited PEv := ⟨⟨0, 0, (zeroV, zeroV), 0⟩⟩
def keyP (h f : Int) : AV := .agg (.cons (.v (.int .u64 h)) (.cons (.v (.int .u64 f)) .nil))
def encP (x : PEv) : AV × AV × Nat := (keyP x.h x.f, encE x.e, x.st)
def decP : AV × AV × Nat → PEv
 | (.agg (.cons (.v (.int _ h)) (.cons (.v (.int _ f)) .nil)), .agg (.cons a (.cons b .nil)), s) => ⟨h, f, (decVz a, decVz b), s⟩
 | _ => default
theorem key_eq (h f h' f' : Int) : eqT tabs2.tb tabs2.eqs 64 155 (keyP h f) (keyP h' f') = some (h == h' && f == f') := by
 show some (h == h' && (f == f' && true)) = _
 rw [Bool.and_true]
def hasP (pl : List PEv) (h f : Int) : Bool := pl.any fun q => h == q.h && f == q.f
theorem find_no {pl : List PEv} {h f : Int} (hn : hasP pl h f = false) : mfind tabs2.tb tabs2.eqs 155 (keyP h f) (pl.map encP) 0 = some none := by
 refine mfind_miss fun p hp => ?_
 obtain ⟨q, hq, rfl⟩ := List.mem_map.1 hp
 show eqT tabs2.tb tabs2.eqs 64 155 (keyP h f) (keyP q.h q.f) = _
 rw [key_eq]
 have := List.any_eq_false.1 hn q hq
 simpa using this
theorem find_yes {pl : List PEv} {h f : Int} (hn : hasP pl h f = true) : ∃ j e, mfind tabs2.tb tabs2.eqs 155 (keyP h f) (pl.map encP) 0 = some (some (j, encE e)) := by
 suffices ∀ (pl : List PEv) (i : Nat), hasP pl h f = true → ∃ j e, mfind tabs2.tb tabs2.eqs 155 (keyP h f) (pl.map encP) i = some (some (j, encE e)) from this pl 0 hn
 intro pl
 induction pl with
 | nil => intro i h0; cases h0
 | cons q r ih =>
  intro i h0
  show ∃ j e, mfind tabs2.tb tabs2.eqs 155 (keyP h f) ((keyP q.h q.f, encE q.e, q.st) :: r.map encP) i = _
  simp only [mfind, key_eq]
  by_cases hq : (h == q.h && f == q.f) = true
  ·
   rw [hq]; exact ⟨i, q.e, rfl⟩
  ·
   rw [Bool.not_eq_true] at hq
   rw [hq]
   refine ih (i + 1) ?_
   unfold hasP at h0 ⊢
   rw [List.any_cons, hq, Bool.false_or] at h0
   exact h0
def mpOf (M : MemF) (p : Pt) : Option (Prop × Nat × Nat × List PEv × Nat) := match ptrOf M p true 1 with
 | some (c, .agg (.cons (.mp n bm) .nil)) => match M n with
  | some (.mp true b' l clk) => some (c ∧ b' = bm ∧ l = (l.map decP).map encP, n, bm, l.map decP, clk)
  | _ => none
 | _ => none
theorem mpOf_spec {O : Nat → Prop} {w0 w : World} {M : MemF} (hS : Sat O w0 M w) {p : Pt} {c : Prop} {n bm clk : Nat} {pl : List PEv} (h : mpOf M p = some (c, n, bm, pl, clk)) (hc : c) :
  M n = some (.mp true bm (pl.map encP) clk) ∧ (∃ c' X, ptrOf M p true 1 = some (c', X) ∧ c') ∧ (roB (some (p.b, p.cell)) 1 1 fun _ => .agg (.cons (.mp 900 bm) .nil)).holds w := by
 unfold mpOf at h
 split at h
 ·
  rename_i c0 n' bm' hp
  split at h
  ·
   rename_i b' l' clk' hm
   cases h
   obtain ⟨h1, rfl, h3⟩ := hc
   have hR : Reads w p.b p.cell 1 1 fun _ => .agg (.cons (.mp n b') .nil) := ptrOf_spec (g := true) hS hp h1
   exact ⟨by rw [hm]; rw [← h3], ⟨_, _, hp, h1⟩, roB_holds fun _ => ⟨_, _, rfl, fun i hi => hR i hi⟩⟩
  ·
   cases h
 ·
  cases h
def addP (V : Int) (x : Vote × Vote) (pl : List PEv) (clk : Nat) : Int × List PEv × Nat :=
 if (V != 0) = true then (V, pl, clk) else if hasP pl x.1.height x.1.from_ = true then (90, pl, clk) else if decide ((pl.length : Int) ≥ 65536) = true then (4, pl, clk) else (0, pl ++ [⟨x.1.height, x.1.from_, x, clk⟩], clk + 1)
def addPC (_tag : Nat) (args : List AV) (M : MemF) : Option Res := match args, M 100003, M 100004 with
 | [.ptr p, S, .ptr q, .agg (.cons a (.cons b .nil))], some (.var 3 (.ints .u32 8 B0)), some (.var 4 (.ints .u32 64 K)) => match decS S, decV a, decV b, regOf M q with
  | some s, some x, some y, some (c, br, ents, recs, _) => match mpOf M p, pstV M s.a3 s.n3, comeIn M 90002 2 off1 offX s.a4 s.n4, M 90003 with
   | some (c0, n, bm, pl, clk), some (c1, l), some (c2, pun), some (.vro es3 base3 len3 f3) => some ⟨Nat → Prop, (c0 ∧ p.n ≠ n ∧ p.n ≠ q.n ∧ n ≠ q.n) ∧ c ∧ (c1 ∧ c2 ∧ ∀ k, k < l.length → (mbK M (l.getD k default)).1) ∧ VR x ∧ VR y, fun _ => True, fun _ => .v (.int .i64 (addP (verR s l (fun k => (mbK M (l.getD k default)).2.map (·.1)) pun (pairP x y) x y (sealedP K B0 s.nm recs x) (sealedP K B0 s.nm recs y)) (x, y) pl clk).1), [n, q.n],
     fun S' => [.mp true bm ((addP (verR s l (fun k => (mbK M (l.getD k default)).2.map (·.1)) pun (pairP x y) x y (sealedP K B0 s.nm recs x) (sealedP K B0 s.nm recs y)) (x, y) pl clk).2.1.map encP) (addP (verR s l (fun k => (mbK M (l.getD k default)).2.map (·.1)) pun (pairP x y) x y (sealedP K B0 s.nm recs x) (sealedP K B0 s.nm recs y)) (x, y) pl clk).2.2, regB br ents recs S']⟩
   | _, _, _, _ => none
  | _, _, _, _ => none
 | _, _, _ => none
def ctAd : CtL := [(96, pgoodC), (48, pofC)]
theorem ctAd_ok : CtLOk Tryz.prog ctAd := ⟨.fn pgood_body pgood_read, .fn pof_body pof_read, trivial⟩
def crAd : CrL := [(12, verC)]
theorem crAd_ok : CrLOk Tryz.prog crAd := ⟨⟨ver_body, ver_turn⟩, trivial⟩
section
attribute [local irreducible] verR sealedP pairP
theorem addP_turn : TurnFn Tryz.prog 28 addPC := by
 intro tag args M r h0 hok O w0 w hS
 unfold addPC at h0
 split at h0
 ·
  rename_i p S q a b B0 K hM3 hM4
  split at h0
  ·
   rename_i s x y c br ents recs Sr hs hx hy hq
   have hs := decS_enc hs
   have hx := decV_enc hx
   have hy := decV_enc hy
   subst hs hx hy
   clear hs hx hy
   split at h0
   ·
    rename_i c0 n bm pl clk c1 l c2 pun es3 base3 len3 f3 hmp hpst hpun hM90003
    cases h0
    obtain ⟨⟨hc0, hn1, hn2, hn3⟩, hc, ⟨hc1, hc2, hmb⟩, hvx, hvy⟩ := hok
    obtain ⟨hM, hv⟩ := regOf_spec hq hc
    obtain ⟨hMp, ⟨cp, Xp, hpp, hcp⟩, hrow⟩ := mpOf_spec hS hmp hc0
    obtain ⟨es1, base1, len1, f1, hM1, _⟩ := comeIn_entry hpst
    obtain ⟨es2, base2, len2, f2, hM2, _⟩ := comeIn_entry hpun
    have hap : ∀ {k : Nat} {B : Blk}, M k = some B → (∀ j, B.reads j → ¬ (Blk.mp true bm (pl.map encP) clk).own j) ∧ ∀ j, B.reads j → ¬ (regB br ents recs Sr).own j := fun hk => ⟨fun j hr ho => hS.roapart _ _ _ _ _ hMp hk ho hr, fun j hr ho => hS.roapart _ _ _ _ _ hM hk ho hr⟩
    rw [show [.ptr p, encS s, .ptr q, .agg (.cons (encV x) (.cons (encV y) .nil))].map AV.val = [roP 902 p.b p.cell 1, encS s, .ptr ⟨901, 0, br, 0, 5, 0, 0, 0, false⟩, .agg (.cons (encV x) (.cons (encV y) .nil))].map AV.val by simp only [List.map_cons, List.map_nil, hv 901, pt_ro p 902 1]]
    obtain ⟨V, hV⟩ : ∃ V, V = verR s l (fun k => (mbK M (l.getD k default)).2.map (·.1)) pun (pairP x y) x y (sealedP K B0 s.nm recs x) (sealedP K B0 s.nm recs y) := ⟨_, rfl⟩
    rw [← hV]
    refine turn_two tabs2 ctAd_ok crAd_ok Tryz.func28 rfl rfl hS _ hMp hM hn3 (C1 := .mp true bm (pl.map encP) clk) (C2 := regB br ents recs Sr) [(902, roB (some (p.b, p.cell)) 1 1 fun _ => .agg (.cons (.mp 900 bm) .nil)), (90001, .vro es1 base1 len1 f1), (90002, .vro es2 base2 len2 f2), (90003, .vro es3 base3 len3 f3), (100003, .var 3 (.ints .u32 8 B0)), (100004, .var 4 (.ints .u32 64 K))] rfl rfl (hS.holds _ _ hMp) (fun _ h => h) (fun _ h => h) (hS.holds _ _ hM) (fun _ h => h) (fun _ h => h) ⟨hrow, hS.holds _ _ hM1, hS.holds _ _ hM2, hS.holds _ _ hM90003, hS.holds _ _ hM3, hS.holds _ _ hM4, trivial⟩ ⟨roB_noOwn, fun _ h => h, fun _ h => h, fun _ h => h, fun _ h => h, fun _ h => h, trivial⟩ ⟨ptr_apart hS hpp hcp (by decide) hMp hn1, (hap hM1).1, (hap hM2).1, (hap hM90003).1, (hap hM3).1, (hap hM4).1, trivial⟩ ⟨ptr_apart hS hpp hcp (by decide) hM hn2, (hap hM1).2, (hap hM2).2, (hap hM90003).2, (hap hM3).2, (hap hM4).2, trivial⟩ ?_
    unfold pstV comeIn at hpst
    rw [hM1] at hpst
    unfold comeIn at hpun
    rw [hM2] at hpun
    cases hpst
    cases hpun
    simp only [mbK, comeIn, hM90003] at hmb hV
    repeat (first | refine qs_ ?_ | refine qa_ ?_ | refine qo_ ?_ | refine qd_ ?_ | refine za ?_ | refine zb fun _ _ => ?_ | refine zc ?_ | refine ya ?_ | refine yb fun _ _ => ?_ | refine yc ?_ | refine qk_ ?_ | refine qb_ ?_ | refine qx_ ?_)
    refine s_cond (b := false) rfl (fun hb => by cases hb) (fun _ => ?_)
    repeat ((fail_if_success (first | refine o_at 12 ?_ | refine d_at 12 ?_)); (first | refine qs_ ?_ | refine qa_ ?_ | refine qo_ ?_ | refine qd_ ?_ | refine za ?_ | refine zb fun _ _ => ?_ | refine zc ?_ | refine ya ?_ | refine yb fun _ _ => ?_ | refine yc ?_ | refine qk_ ?_ | refine qb_ ?_ | refine qx_ ?_))
    refine oB rfl rfl rfl (fun z2 _ => ?_) ⟨fun _ => False, trivial⟩ ⟨by (repeat' apply And.intro) <;> trivial, ⟨rfl, rfl, rfl, rfl, rfl, rfl, rfl⟩, ⟨hc1, hc2, hmb⟩, hvx, hvy⟩
    refine o_le (le_val (t := 19) (av' := .v (.int .i64 V)) rfl ?hv) ?_
    case hv => rw [hV]; rfl
    repeat (first | refine qs_ ?_ | refine qa_ ?_ | refine qo_ ?_ | refine qd_ ?_ | refine za ?_ | refine zb fun _ _ => ?_ | refine zc ?_ | refine ya ?_ | refine yb fun _ _ => ?_ | refine yc ?_ | refine qk_ ?_ | refine qb_ ?_ | refine qx_ ?_)
    refine s_cond (b := (V != 0)) rfl (fun hE => ?_) (fun hE => ?_)
    ·
     repeat (first | refine qs_ ?_ | refine qa_ ?_ | refine qo_ ?_ | refine qd_ ?_ | refine za ?_ | refine zb fun _ _ => ?_ | refine zc ?_ | refine ya ?_ | refine yb fun _ _ => ?_ | refine yc ?_ | refine qk_ ?_ | refine qb_ ?_ | refine qx_ ?_)
     refine s_ret ?_
     have e0 : addP V (x, y) pl clk = (V, pl, clk) := by unfold addP; rw [if_pos hE]
     rw [e0]
     exact ⟨_, _, rfl, ⟨trivial, trivial⟩, rfl, z2, trivial, rfl, ⟨⟨_, rfl, Blk.le_refl _⟩, fun _ h => h⟩, ⟨⟨_, rfl, Blk.le_refl _⟩, fun _ h => h⟩, trivial⟩
    have hE' : ¬ (V != 0) = true := by rw [hE]; decide
    have hV0 : V = 0 := by simpa using hE
    repeat (first | refine qs_ ?_ | refine qa_ ?_ | refine qo_ ?_ | refine qd_ ?_ | refine za ?_ | refine zb fun _ _ => ?_ | refine zc ?_ | refine ya ?_ | refine yb fun _ _ => ?_ | refine yc ?_ | refine qk_ ?_ | refine qb_ ?_ | refine qx_ ?_)
    refine s_draw rD28_7 rM28_7 rX28_7 rN28_7 rfl rfl ?_
    repeat (first | refine qs_ ?_ | refine qa_ ?_ | refine qo_ ?_ | refine qd_ ?_ | refine za ?_ | refine zb fun _ _ => ?_ | refine zc ?_ | refine ya ?_ | refine yb fun _ _ => ?_ | refine yc ?_ | refine qk_ ?_ | refine qb_ ?_ | refine qx_ ?_)
    cases hP : hasP pl x.height x.from_ with
    | true =>
     obtain ⟨j, Y, hj⟩ := find_yes hP
     refine d_look (some (j, encE Y)) rfl rfl rfl rfl rfl rfl rfl rfl rfl rfl rfl rfl rfl hj ?_
     repeat (first | refine qs_ ?_ | refine qa_ ?_ | refine qo_ ?_ | refine qd_ ?_ | refine za ?_ | refine zb fun _ _ => ?_ | refine zc ?_ | refine ya ?_ | refine yb fun _ _ => ?_ | refine yc ?_ | refine qk_ ?_ | refine qb_ ?_ | refine qx_ ?_)
     refine s_cond (b := true) rfl (fun _ => ?_) (fun hb => by cases hb)
     repeat (first | refine qs_ ?_ | refine qa_ ?_ | refine qo_ ?_ | refine qd_ ?_ | refine za ?_ | refine zb fun _ _ => ?_ | refine zc ?_ | refine ya ?_ | refine yb fun _ _ => ?_ | refine yc ?_ | refine qk_ ?_ | refine qb_ ?_ | refine qx_ ?_)
     refine s_ret ?_
     have e0 : addP V (x, y) pl clk = (90, pl, clk) := by unfold addP; rw [if_neg hE', if_pos hP]
     rw [e0]
     exact ⟨_, _, rfl, ⟨trivial, trivial⟩, rfl, z2, trivial, rfl, ⟨⟨_, rfl, Blk.le_refl _⟩, fun _ h => h⟩, ⟨⟨_, rfl, Blk.le_refl _⟩, fun _ h => h⟩, trivial⟩
    | false =>
     refine d_look none rfl rfl rfl rfl rfl rfl rfl rfl rfl rfl rfl rfl rfl (find_no hP) ?_
     have hP' : ¬ hasP pl x.height x.from_ = true := by rw [hP]; decide
     repeat (first | refine qs_ ?_ | refine qa_ ?_ | refine qo_ ?_ | refine qd_ ?_ | refine za ?_ | refine zb fun _ _ => ?_ | refine zc ?_ | refine ya ?_ | refine yb fun _ _ => ?_ | refine yc ?_ | refine qk_ ?_ | refine qb_ ?_ | refine qx_ ?_)
     refine s_cond (b := false) rfl (fun hb => by cases hb) (fun _ => ?_)
     repeat (first | refine qs_ ?_ | refine qa_ ?_ | refine qo_ ?_ | refine qd_ ?_ | refine za ?_ | refine zb fun _ _ => ?_ | refine zc ?_ | refine ya ?_ | refine yb fun _ _ => ?_ | refine yc ?_ | refine qk_ ?_ | refine qb_ ?_ | refine qx_ ?_)
     refine s_cond (b := decide (((pl.map encP).length : Int) ≥ 65536)) rfl (fun hL => ?_) (fun hL => ?_)
     ·
      repeat (first | refine qs_ ?_ | refine qa_ ?_ | refine qo_ ?_ | refine qd_ ?_ | refine za ?_ | refine zb fun _ _ => ?_ | refine zc ?_ | refine ya ?_ | refine yb fun _ _ => ?_ | refine yc ?_ | refine qk_ ?_ | refine qb_ ?_ | refine qx_ ?_)
      refine s_ret ?_
      have e0 : addP V (x, y) pl clk = (4, pl, clk) := by unfold addP; rw [if_neg hE', if_neg hP', if_pos (by simpa using hL)]
      rw [e0]
      exact ⟨_, _, rfl, ⟨trivial, trivial⟩, rfl, z2, trivial, rfl, ⟨⟨_, rfl, Blk.le_refl _⟩, fun _ h => h⟩, ⟨⟨_, rfl, Blk.le_refl _⟩, fun _ h => h⟩, trivial⟩
     have hL' : ¬ decide ((pl.length : Int) ≥ 65536) = true := by simpa using hL
     repeat (first | refine qs_ ?_ | refine qa_ ?_ | refine qo_ ?_ | refine qd_ ?_ | refine za ?_ | refine zb fun _ _ => ?_ | refine zc ?_ | refine ya ?_ | refine yb fun _ _ => ?_ | refine yc ?_ | refine qk_ ?_ | refine qb_ ?_ | refine qx_ ?_)
     refine s_draw rD28_12 rM28_12 [(900, [6])] rN28_12 rfl rfl ?_
     repeat (first | refine qs_ ?_ | refine qa_ ?_ | refine qo_ ?_ | refine qd_ ?_ | refine za ?_ | refine zb fun _ _ => ?_ | refine zc ?_ | refine ya ?_ | refine yb fun _ _ => ?_ | refine yc ?_ | refine qk_ ?_ | refine qb_ ?_ | refine qx_ ?_)
     refine d_mset none rfl rfl rfl rfl rfl rfl rfl rfl rfl rfl rfl rfl (find_no hP) rfl ?_
     repeat (first | refine qs_ ?_ | refine qa_ ?_ | refine qo_ ?_ | refine qd_ ?_ | refine za ?_ | refine zb fun _ _ => ?_ | refine zc ?_ | refine ya ?_ | refine yb fun _ _ => ?_ | refine yc ?_ | refine qk_ ?_ | refine qb_ ?_ | refine qx_ ?_)
     refine s_ret ?_
     have e0 : addP V (x, y) pl clk = (0, pl ++ [⟨x.height, x.from_, (x, y), clk⟩], clk + 1) := by unfold addP; rw [if_neg hE', if_neg hP', if_neg hL']
     rw [e0]
     exact ⟨_, _, rfl, ⟨trivial, trivial⟩, rfl, z2, trivial, rfl, ⟨⟨_, rfl, by rw [List.map_append]; exact Blk.le_refl _⟩, fun _ h => h⟩, ⟨⟨_, rfl, Blk.le_refl _⟩, fun _ h => h⟩, trivial⟩
   ·
    cases h0
  ·
   cases h0
 ·
  cases h0
theorem addP_body : HasBody Tryz.prog 28 := ⟨_, Tryz.func28, rfl, by decide⟩
end
end Go.Proofs.YtofophjfgalhaaaGreatDoor.V
