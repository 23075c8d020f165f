import Derived.Test.YtofophjfgalhaaaGreatDoorMisdeedPoolsW17
import Derived.Test.YtofophjfgalhaaaGreatDoorMisdeedPoolsW23
import Derived.Test.YtofophjfgalhaaaGreatDoorMisdeedPoolsW25
import Derived.Test.YtofophjfgalhaaaGreatDoorChecked
import Derived.Conc.MuLone
import Derived.KernelRfl
set_option linter.unusedVariables false
set_option linter.unusedSimpArgs false
set_option maxRecDepth 100000
set_option maxHeartbeats 8000000
namespace Go.Proofs.YtofophjfgalhaaaGreatDoor.V
open Go Go.RowKit
def dnamedC (args : List AV) (_M : MemF) : Option (Prop × AV) := match args with
 | [.v (.string s)] => some (True, .v (.bool (decide ((s.size : Int) ≥ 1) && decide ((s.size : Int) ≤ 16))))
 | _ => none
theorem dnamed_read : ReadFn Tryz.prog 63 dnamedC := by
 intro args M q res h hq O w0 w hS
 unfold dnamedC at h
 split at h
 ·
  rename_i s
  cases h
  refine ro_fn tabs2 (ct := []) trivial (cr := []) trivial Tryz.func63 rfl rfl (M := []) rfl trivial trivial ?_
  repeat (first | refine qs_ ?_ | refine qa_ ?_ | refine qo_ ?_ | refine qd_ ?_ | refine za ?_ | refine zb fun _ _ => ?_ | refine zc ?_ | refine ya ?_ | refine yb fun _ _ => ?_ | refine yc ?_ | refine qk_ ?_ | refine qb_ ?_ | refine qx_ ?_)
  refine s_ret ?_
  exact ⟨_, _, rfl, ⟨trivial, trivial⟩, rfl, rfl⟩
 ·
  cases h
theorem dnamed_body : HasBody Tryz.prog 63 := ⟨_, Tryz.func63, rfl, by decide⟩
def dHeightC (args : List AV) (_M : MemF) : Option (Prop × AV) := match args with
 | [.v (.int .u64 h)] => some (True, .v (.bool (decide (h ≥ 1) && decide (h ≤ 1099511627776))))
 | _ => none
theorem dHeight_read : ReadFn Tryz.prog 115 dHeightC := by
 intro args M q res h hq O w0 w hS
 unfold dHeightC at h
 split at h
 ·
  rename_i k
  cases h
  refine ro_fn tabs2 (ct := []) trivial (cr := []) trivial Tryz.func115 rfl rfl (M := []) rfl trivial trivial ?_
  repeat (first | refine qs_ ?_ | refine qa_ ?_ | refine qo_ ?_ | refine qd_ ?_ | refine za ?_ | refine zb fun _ _ => ?_ | refine zc ?_ | refine ya ?_ | refine yb fun _ _ => ?_ | refine yc ?_ | refine qk_ ?_ | refine qb_ ?_ | refine qx_ ?_)
  refine s_ret ?_
  exact ⟨_, _, rfl, ⟨trivial, trivial⟩, rfl, rfl⟩
 ·
  cases h
theorem dHeight_body : HasBody Tryz.prog 115 := ⟨_, Tryz.func115, rfl, by decide⟩
def dRoundC (args : List AV) (_M : MemF) : Option (Prop × AV) := match args with
 | [.v (.int .i64 h)] => some (True, .v (.bool (decide (h ≥ 0) && decide (h ≤ 65535))))
 | _ => none
theorem dRound_read : ReadFn Tryz.prog 116 dRoundC := by
 intro args M q res h hq O w0 w hS
 unfold dRoundC at h
 split at h
 ·
  rename_i k
  cases h
  refine ro_fn tabs2 (ct := []) trivial (cr := []) trivial Tryz.func116 rfl rfl (M := []) rfl trivial trivial ?_
  repeat (first | refine qs_ ?_ | refine qa_ ?_ | refine qo_ ?_ | refine qd_ ?_ | refine za ?_ | refine zb fun _ _ => ?_ | refine zc ?_ | refine ya ?_ | refine yb fun _ _ => ?_ | refine yc ?_ | refine qk_ ?_ | refine qb_ ?_ | refine qx_ ?_)
  refine s_ret ?_
  exact ⟨_, _, rfl, ⟨trivial, trivial⟩, rfl, rfl⟩
 ·
  cases h
theorem dRound_body : HasBody Tryz.prog 116 := ⟨_, Tryz.func116, rfl, by decide⟩
def dTimeC (args : List AV) (_M : MemF) : Option (Prop × AV) := match args with
 | [.v (.int .u64 h)] => some (True, .v (.bool (decide (h ≤ 1125899906842624))))
 | _ => none
theorem dTime_read : ReadFn Tryz.prog 117 dTimeC := by
 intro args M q res h hq O w0 w hS
 unfold dTimeC at h
 split at h
 ·
  rename_i k
  cases h
  refine ro_fn tabs2 (ct := []) trivial (cr := []) trivial Tryz.func117 rfl rfl (M := []) rfl trivial trivial ?_
  repeat (first | refine qs_ ?_ | refine qa_ ?_ | refine qo_ ?_ | refine qd_ ?_ | refine za ?_ | refine zb fun _ _ => ?_ | refine zc ?_ | refine ya ?_ | refine yb fun _ _ => ?_ | refine yc ?_ | refine qk_ ?_ | refine qb_ ?_ | refine qx_ ?_)
  refine s_ret ?_
  exact ⟨_, _, rfl, ⟨trivial, trivial⟩, rfl, rfl⟩
 ·
  cases h
theorem dTime_body : HasBody Tryz.prog 117 := ⟨_, Tryz.func117, rfl, by decide⟩
def dplainV (x : Vote) : Int :=
 if ((x.kind != 1) && (x.kind != 2)) = true then 40 else
 if ((!(decide (x.height ≥ 1) && decide (x.height ≤ 1099511627776)) || !(decide (x.round ≥ 0) && decide (x.round ≤ 65535))) || !decide (x.time ≤ 1125899906842624)) = true then 41 else
 if ((x.time != 0) && ((x.kind == 1) || intsEq 32 x.id zeroH)) = true then 41 else
 if (x.from_ == 0) = true then 41 else 0
def dplainC (args : List AV) (_M : MemF) : Option (Prop × AV) := match args with
 | [a] => match decV a with
  | some x => some (True, .v (.int .i64 (dplainV x)))
  | none => none
 | _ => none
def ctDp : CtL := [(115, dHeightC), (116, dRoundC), (117, dTimeC)]
theorem ctDp_ok : CtLOk Tryz.prog ctDp := ⟨.fn dHeight_body dHeight_read, .fn dRound_body dRound_read, .fn dTime_body dTime_read, trivial⟩
theorem dplain_read : ReadFn Tryz.prog 64 dplainC := by
 intro args M q res h hq O w0 w hS
 unfold dplainC at h
 split at h
 ·
  split at h
  ·
   rename_i a x hx
   cases h
   have ha := decV_enc hx
   subst ha
   refine ro_fn tabs2 ctDp_ok (cr := []) trivial Tryz.func64 rfl rfl (M := []) rfl trivial trivial ?_
   repeat (first | refine qs_ ?_ | refine qa_ ?_ | refine qo_ ?_ | refine qd_ ?_ | refine za ?_ | refine zb fun _ _ => ?_ | refine zc ?_ | refine ya ?_ | refine yb fun _ _ => ?_ | refine yc ?_ | refine qk_ ?_ | refine qb_ ?_ | refine qx_ ?_)
   refine s_cond (b := ((x.kind != 1) && (x.kind != 2))) rfl (fun h1 => ?_) (fun h1 => ?_)
   ·
    repeat (first | refine qs_ ?_ | refine qa_ ?_ | refine qo_ ?_ | refine qd_ ?_ | refine za ?_ | refine zb fun _ _ => ?_ | refine zc ?_ | refine ya ?_ | refine yb fun _ _ => ?_ | refine yc ?_ | refine qk_ ?_ | refine qb_ ?_ | refine qx_ ?_)
    refine s_ret ?_
    exact ⟨_, _, rfl, ⟨trivial, trivial⟩, rfl, by unfold dplainV; rw [if_pos h1]; rfl⟩
   ·
    repeat (first | refine qs_ ?_ | refine qa_ ?_ | refine qo_ ?_ | refine qd_ ?_ | refine za ?_ | refine zb fun _ _ => ?_ | refine zc ?_ | refine ya ?_ | refine yb fun _ _ => ?_ | refine yc ?_ | refine qk_ ?_ | refine qb_ ?_ | refine qx_ ?_)
    refine s_cond (b := ((!(decide (x.height ≥ 1) && decide (x.height ≤ 1099511627776)) || !(decide (x.round ≥ 0) && decide (x.round ≤ 65535))) || !decide (x.time ≤ 1125899906842624))) rfl (fun h2 => ?_) (fun h2 => ?_)
    ·
     repeat (first | refine qs_ ?_ | refine qa_ ?_ | refine qo_ ?_ | refine qd_ ?_ | refine za ?_ | refine zb fun _ _ => ?_ | refine zc ?_ | refine ya ?_ | refine yb fun _ _ => ?_ | refine yc ?_ | refine qk_ ?_ | refine qb_ ?_ | refine qx_ ?_)
     refine s_ret ?_
     exact ⟨_, _, rfl, ⟨trivial, trivial⟩, rfl, by unfold dplainV; rw [if_neg (by rw [h1]; decide), if_pos h2]; rfl⟩
    ·
     repeat (first | refine qs_ ?_ | refine qa_ ?_ | refine qo_ ?_ | refine qd_ ?_ | refine za ?_ | refine zb fun _ _ => ?_ | refine zc ?_ | refine ya ?_ | refine yb fun _ _ => ?_ | refine yc ?_ | refine qk_ ?_ | refine qb_ ?_ | refine qx_ ?_)
     refine s_cond (b := ((x.time != 0) && ((x.kind == 1) || intsEq 32 x.id zeroH))) rfl (fun h3 => ?_) (fun h3 => ?_)
     ·
      repeat (first | refine qs_ ?_ | refine qa_ ?_ | refine qo_ ?_ | refine qd_ ?_ | refine za ?_ | refine zb fun _ _ => ?_ | refine zc ?_ | refine ya ?_ | refine yb fun _ _ => ?_ | refine yc ?_ | refine qk_ ?_ | refine qb_ ?_ | refine qx_ ?_)
      refine s_ret ?_
      exact ⟨_, _, rfl, ⟨trivial, trivial⟩, rfl, by unfold dplainV; rw [if_neg (by rw [h1]; decide), if_neg (by rw [h2]; decide), if_pos h3]; rfl⟩
     ·
      repeat (first | refine qs_ ?_ | refine qa_ ?_ | refine qo_ ?_ | refine qd_ ?_ | refine za ?_ | refine zb fun _ _ => ?_ | refine zc ?_ | refine ya ?_ | refine yb fun _ _ => ?_ | refine yc ?_ | refine qk_ ?_ | refine qb_ ?_ | refine qx_ ?_)
      refine s_cond (b := (x.from_ == 0)) rfl (fun h4 => ?_) (fun h4 => ?_)
      ·
       repeat (first | refine qs_ ?_ | refine qa_ ?_ | refine qo_ ?_ | refine qd_ ?_ | refine za ?_ | refine zb fun _ _ => ?_ | refine zc ?_ | refine ya ?_ | refine yb fun _ _ => ?_ | refine yc ?_ | refine qk_ ?_ | refine qb_ ?_ | refine qx_ ?_)
       refine s_ret ?_
       exact ⟨_, _, rfl, ⟨trivial, trivial⟩, rfl, by unfold dplainV; rw [if_neg (by rw [h1]; decide), if_neg (by rw [h2]; decide), if_neg (by rw [h3]; decide), if_pos h4]; rfl⟩
      ·
       repeat (first | refine qs_ ?_ | refine qa_ ?_ | refine qo_ ?_ | refine qd_ ?_ | refine za ?_ | refine zb fun _ _ => ?_ | refine zc ?_ | refine ya ?_ | refine yb fun _ _ => ?_ | refine yc ?_ | refine qk_ ?_ | refine qb_ ?_ | refine qx_ ?_)
       refine s_ret ?_
       exact ⟨_, _, rfl, ⟨trivial, trivial⟩, rfl, by unfold dplainV; rw [if_neg (by rw [h1]; decide), if_neg (by rw [h2]; decide), if_neg (by rw [h3]; decide), if_neg (by rw [h4]; decide)]; rfl⟩
  ·
   cases h
 ·
  cases h
theorem dplain_body : HasBody Tryz.prog 64 := ⟨_, Tryz.func64, rfl, by decide⟩
def dsaidR (s : ByteArray) (x : Vote) : List Int × Int :=
 if (!(decide ((s.size : Int) ≥ 1) && decide ((s.size : Int) ≤ 16))) = true then ([], 41) else
 if (dplainV x != 0) = true then ([], dplainV x) else ([86] ++ textL s ++ dvoteL x, 0)
def dvbC (tag : Nat) (args : List AV) (_M : MemF) : Option Res := match args with
 | [.v (.string s), V] => match decV V with
  | some x => some ⟨Option Nat × Nat, VR x, fun y => (dsaidR s x).1.length ≤ y.2, fun y => resB tag y (dsaidR s x), [tag], fun y => [.vrow y.1 5 1 (dsaidR s x).1.length (vl (dsaidR s x).1) y.2]⟩
  | none => none
 | _ => none
def ctDv : CtL := [(63, dnamedC), (64, dplainC)]
theorem ctDv_ok : CtLOk Tryz.prog ctDv := ⟨.fn dnamed_body dnamed_read, .fn dplain_body dplain_read, trivial⟩
def crDv : CrL := [(65, dtextC), (66, dvoteC)]
theorem crDv_ok : CrLOk Tryz.prog crDv := ⟨⟨dtext_body, dtext_turn⟩, ⟨dvote_body, dvote_turn⟩, trivial⟩
theorem dvoteL_length (x : Vote) : (dvoteL x).length ≤ 73 := by
 have h1 := varL_len x.height
 have h2 := varL_len (IntKind.u64.wrap x.round)
 have h3 := varL_len x.time
 have h4 := varL_len x.from_
 unfold dvoteL
 simp only [List.flatten_cons, List.flatten_nil, List.length_append, List.length_cons, List.length_nil, idL_length]
 omega
theorem dvb_turn : TurnFn Tryz.prog 14 dvbC := by
 intro tag args M r h0 hok O w0 w hS
 unfold dvbC at h0
 split at h0
 ·
  rename_i s V
  split at h0
  ·
   rename_i x hx
   cases h0
   have hx := decV_enc hx
   subst hx
   have hvr : VR x := hok
   refine turn_new tabs2 ctDv_ok crDv_ok Tryz.func14 rfl rfl hS _ [] [15] rfl trivial trivial (by decide) rfl (s_post ?_)
   repeat (first | refine qs_ ?_ | refine qa_ ?_ | refine qo_ ?_ | refine qd_ ?_ | refine za ?_ | refine zb fun _ _ => ?_ | refine zc ?_ | refine ya ?_ | refine yb fun _ _ => ?_ | refine yc ?_ | refine qk_ ?_ | refine qb_ ?_ | refine qx_ ?_)
   refine s_cond (b := (!(decide ((s.size : Int) ≥ 1) && decide ((s.size : Int) ≤ 16)))) rfl (fun h1 => ?_) (fun h1 => ?_)
   ·
    repeat (first | refine qs_ ?_ | refine qa_ ?_ | refine qo_ ?_ | refine qd_ ?_ | refine za ?_ | refine zb fun _ _ => ?_ | refine zc ?_ | refine ya ?_ | refine yb fun _ _ => ?_ | refine yc ?_ | refine qk_ ?_ | refine qb_ ?_ | refine qx_ ?_)
    refine s_ret ?_
    refine ⟨_, _, le_lay (n := 15) (B := .vrow none 5 1 0 (vl []) 0) rfl (fun k h => by cases h) (fun k h => h) (fun w => ⟨rfl, rfl⟩), ?_⟩
    have hr : dsaidR s x = ([], 41) := by unfold dsaidR; rw [if_pos h1]
    refine ⟨_, _, rfl, ⟨trivial, trivial, trivial⟩, rfl, (none, 0), (by rw [hr]; exact Nat.le_refl _), ?_, ⟨⟨_, rfl, ?_⟩, fun _ h => h⟩, trivial⟩
    ·
     rw [hr]; rfl
    ·
     rw [hr]; exact Blk.le_refl _
   ·
    repeat (first | refine qs_ ?_ | refine qa_ ?_ | refine qo_ ?_ | refine qd_ ?_ | refine za ?_ | refine zb fun _ _ => ?_ | refine zc ?_ | refine ya ?_ | refine yb fun _ _ => ?_ | refine yc ?_ | refine qk_ ?_ | refine qb_ ?_ | refine qx_ ?_)
    refine s_cond (b := (dplainV x != 0)) rfl (fun h2 => ?_) (fun h2 => ?_)
    ·
     repeat (first | refine qs_ ?_ | refine qa_ ?_ | refine qo_ ?_ | refine qd_ ?_ | refine za ?_ | refine zb fun _ _ => ?_ | refine zc ?_ | refine ya ?_ | refine yb fun _ _ => ?_ | refine yc ?_ | refine qk_ ?_ | refine qb_ ?_ | refine qx_ ?_)
     refine s_ret ?_
     refine ⟨_, _, le_lay (n := 15) (B := .vrow none 5 1 0 (vl []) 0) rfl (fun k h => by cases h) (fun k h => h) (fun w => ⟨rfl, rfl⟩), ?_⟩
     have hr : dsaidR s x = ([], dplainV x) := by unfold dsaidR; rw [if_neg (by rw [h1]; decide), if_pos h2]
     refine ⟨_, _, rfl, ⟨trivial, trivial, trivial⟩, rfl, (none, 0), (by rw [hr]; exact Nat.le_refl _), ?_, ⟨⟨_, rfl, ?_⟩, fun _ h => h⟩, trivial⟩
     ·
      rw [hr]; rfl
     ·
      rw [hr]; exact Blk.le_refl _
    ·
     have hr : dsaidR s x = ([86] ++ textL s ++ dvoteL x, 0) := by unfold dsaidR; rw [if_neg (by rw [h1]; decide), if_neg (by rw [h2]; decide)]
     have hsz : s.size ≤ 16 := by simp at h1; omega
     have htl : (textL s).length ≤ 26 := by
      unfold textL
      rw [List.length_append, strL_length]
      have := varL_len (s.size : Int)
      omega
     have hdl := dvoteL_length x
     repeat (first | refine qs_ ?_ | refine qa_ ?_ | refine qo_ ?_ | refine qd_ ?_ | refine za ?_ | refine zb fun _ _ => ?_ | refine zc ?_ | refine ya ?_ | refine yb fun _ _ => ?_ | refine yc ?_ | refine qk_ ?_ | refine qb_ ?_ | refine qx_ ?_)
     refine s_draw rD14_6 rM14_6 [(15, [3, 6])] rN14_6 rfl rfl ?_
     repeat (first | refine qs_ ?_ | refine qa_ ?_ | refine qo_ ?_ | refine qd_ ?_ | refine za ?_ | refine zb fun _ _ => ?_ | refine zc ?_ | refine ya ?_ | refine yb fun _ _ => ?_ | refine yc ?_ | refine qk_ ?_ | refine qb_ ?_ | refine qx_ ?_)
     refine d_new rfl rfl rfl ⟨(none, _), Nat.le_refl _⟩ ?hc (fun y20 hy20 => ?_)
     case hc => (repeat' (first | exact hvr | apply And.intro)) <;> trivial
     refine d_new rfl rfl rfl ⟨(none, _), Nat.le_refl _⟩ ?hc2 (fun y hy => ?_)
     case hc2 =>
      refine ⟨⟨⟨rfl, rfl, Nat.le_of_eq (Nat.zero_add _)⟩, fun _ => rfl⟩, ⟨⟨rfl, rfl, rfl, rfl, rfl⟩, Nat.le_refl _, rfl⟩, ?_⟩
      show (1 + (textL s).length + (dvoteL x).length) * 1 ≤ 140737488355328
      omega
     repeat (first | refine qs_ ?_ | refine qa_ ?_ | refine qo_ ?_ | refine qd_ ?_ | refine za ?_ | refine zb fun _ _ => ?_ | refine zc ?_ | refine ya ?_ | refine yb fun _ _ => ?_ | refine yc ?_ | refine qk_ ?_ | refine qb_ ?_ | refine qx_ ?_)
     have hy : 1 + (textL s).length + (dvoteL x).length ≤ y.2 := hy
     have hln : 1 + (textL s).length + (dvoteL x).length = ([86] ++ textL s ++ dvoteL x).length := by simp only [List.length_append, List.length_singleton]
     have hfx : ∀ i, i < ([86] ++ textL s ++ dvoteL x).length → fapp (1 + (textL s).length) (fapp 1 (fun i => (AV.cons (.v (.int .u8 86)) .nil).nthA i) fun i => vl (textL s) (i + 0)) (fun i => vl (dvoteL x) (i + 0)) i = vl ([86] ++ textL s ++ dvoteL x) i := by
      intro i hi
      have h2 := fapp_vl (l := [86] ++ textL s) (m := dvoteL x) (f := fapp 1 (fun i => (AV.cons (.v (.int .u8 86)) .nil).nthA i) fun i => vl (textL s) (i + 0)) (src := fun i => vl (dvoteL x) (i + 0)) (fapp_vl (l := [86]) (m := textL s) (one_vl 86 .nil) (fun _ _ => rfl)) (fun _ _ => rfl) i hi
      rw [List.length_append, List.length_singleton] at h2
      exact h2
     refine s_ret ?_
     refine ⟨_, _, Le.refl, ?_⟩
     refine ⟨_, _, rfl, ⟨trivial, trivial, trivial⟩, rfl, y, ?_, ?_, ⟨⟨_, rfl, ?_⟩, fun _ h => h⟩, trivial⟩
     ·
      rw [hr]
      show ([86] ++ textL s ++ dvoteL x).length ≤ y.2
      rw [← hln]; exact hy
     ·
      rw [hr]
      show _ = (okB tag y ([86] ++ textL s ++ dvoteL x) 0).val
      unfold okB
      rw [← hln]; rfl
     ·
      rw [hr]
      exact Blk.le_vrow (Nat.le_of_eq hln.symm) fun i hi => (hfx i hi).symm
  ·
   cases h0
 ·
  cases h0
theorem dvb_body : HasBody Tryz.prog 14 := ⟨_, Tryz.func14, rfl, by decide⟩
def belowF (a b : List Int) : Nat → Nat → Bool
 | 0, _ => false
 | n + 1, i => if (a.getD i 0 != b.getD i 0) = true then decide (a.getD i 0 < b.getD i 0) else belowF a b n (i + 1)
def belowC (args : List AV) (_M : MemF) : Option (Prop × AV) := match args with
 | [.ints .u8 32 a, .ints .u8 32 b] => some (True, .v (.bool (belowF a b 32 0)))
 | _ => none
theorem below_read : ReadFn Tryz.prog 46 belowC := by
 intro args M q res h hq O w0 w hS
 unfold belowC at h
 split at h
 ·
  rename_i a b
  cases h
  obtain ⟨T, hT⟩ : ∃ T, T = belowF a b 32 0 := ⟨_, rfl⟩
  rw [← hT]
  refine ro_fn tabs2 (ct := []) trivial (cr := []) trivial Tryz.func46 rfl rfl (M := []) rfl trivial trivial ?_
  repeat (first | refine qs_ ?_ | refine qa_ ?_ | refine qo_ ?_ | refine qd_ ?_ | refine za ?_ | refine zb fun _ _ => ?_ | refine zc ?_ | refine ya ?_ | refine yb fun _ _ => ?_ | refine yc ?_ | refine qk_ ?_ | refine qb_ ?_ | refine qx_ ?_)
  refine s_loopW (α := Nat) [5, 6, 7, 8, 9, 10, 11, 12, 13, 14, 15, 16, 17, 18, 19, 20, 21, 22, 23] [] (fun k => k ≤ 32 ∧ T = belowF a b (32 - k) k) (fun k => [(5, none, .v (.int .i64 k))]) (fun _ => []) (fun k => 32 - k) 0 ⟨Nat.zero_le _, hT⟩ ?_ ?_
  ·
   exact leQ
  ·
   intro k ⟨hk, hz⟩
   repeat (first | refine qs_ ?_ | refine qa_ ?_ | refine qo_ ?_ | refine qd_ ?_ | refine za ?_ | refine zb fun _ _ => ?_ | refine zc ?_ | refine ya ?_ | refine yb fun _ _ => ?_ | refine yc ?_ | refine qk_ ?_ | refine qb_ ?_ | refine qx_ ?_)
   refine s_cond (b := decide ((k : Int) < 32)) rfl (fun hb => ?_) (fun hb => ?_)
   ·
    have hlt : k < 32 := by have := of_decide_eq_true hb; omega
    rw [show 32 - k = (32 - (k + 1)) + 1 by omega, belowF] at hz
    repeat (first | refine qs_ ?_ | refine qa_ ?_ | refine qo_ ?_ | refine qd_ ?_ | refine za ?_ | refine zb fun _ _ => ?_ | refine zc ?_ | refine ya ?_ | refine yb fun _ _ => ?_ | refine yc ?_ | refine qk_ ?_ | refine qb_ ?_ | refine qx_ ?_)
    refine s_draw rD46_4 rM46_4 rX46_4 rN46_4 rfl rfl ?_
    repeat (first | refine qs_ ?_ | refine qa_ ?_ | refine qo_ ?_ | refine qd_ ?_ | refine za ?_ | refine zb fun _ _ => ?_ | refine zc ?_ | refine ya ?_ | refine yb fun _ _ => ?_ | refine yc ?_ | refine qk_ ?_ | refine qb_ ?_ | refine qx_ ?_)
    refine s_cond (b := (a.getD (0 + k) 0 != b.getD (0 + k) 0)) rfl (fun h2 => ?_) (fun h2 => ?_)
    ·
     rw [Nat.zero_add] at h2
     rw [if_pos h2] at hz
     repeat (first | refine qs_ ?_ | refine qa_ ?_ | refine qo_ ?_ | refine qd_ ?_ | refine za ?_ | refine zb fun _ _ => ?_ | refine zc ?_ | refine ya ?_ | refine yb fun _ _ => ?_ | refine yc ?_ | refine qk_ ?_ | refine qb_ ?_ | refine qx_ ?_)
     refine s_draw rD46_5 rM46_5 rX46_5 rN46_5 rfl rfl ?_
     repeat (first | refine qs_ ?_ | refine qa_ ?_ | refine qo_ ?_ | refine qd_ ?_ | refine za ?_ | refine zb fun _ _ => ?_ | refine zc ?_ | refine ya ?_ | refine yb fun _ _ => ?_ | refine yc ?_ | refine qk_ ?_ | refine qb_ ?_ | refine qx_ ?_)
     refine s_ret ?_
     exact ⟨_, _, rfl, ⟨trivial, trivial⟩, rfl, by rw [hz]; show Value.bool (decide (a.getD (0 + k) 0 < b.getD (0 + k) 0)) = _; rw [Nat.zero_add]; rfl⟩
    ·
     rw [Nat.zero_add] at h2
     rw [if_neg (by rw [h2]; decide)] at hz
     repeat (first | refine qs_ ?_ | refine qa_ ?_ | refine qo_ ?_ | refine qd_ ?_ | refine za ?_ | refine zb fun _ _ => ?_ | refine zc ?_ | refine ya ?_ | refine yb fun _ _ => ?_ | refine yc ?_ | refine qk_ ?_ | refine qb_ ?_ | refine qx_ ?_)
     refine ⟨k + 1, ⟨by omega, hz⟩, by omega, ?_⟩
     exact leQ
   ·
    have hge : k = 32 := by have := of_decide_eq_false hb; omega
    subst hge
    have hz2 : T = false := hz
    repeat (first | refine qs_ ?_ | refine qa_ ?_ | refine qo_ ?_ | refine qd_ ?_ | refine za ?_ | refine zb fun _ _ => ?_ | refine zc ?_ | refine ya ?_ | refine yb fun _ _ => ?_ | refine yc ?_ | refine qk_ ?_ | refine qb_ ?_ | refine qx_ ?_)
    refine s_ret ?_
    exact ⟨_, _, rfl, ⟨trivial, trivial⟩, rfl, by rw [hz2]; rfl⟩
 ·
  cases h
theorem below_body : HasBody Tryz.prog 46 := ⟨_, Tryz.func46, rfl, by decide⟩
def pairD (x y : Vote) : (Vote × Vote) × Int :=
 let e := if (dplainV x == 0) = true then dplainV y else dplainV x
 if (e != 0) = true then ((zeroV, zeroV), e) else
 if (((((x.from_ != y.from_) || (x.height != y.height)) || (x.round != y.round)) || (x.kind != y.kind)) || intsEq 32 x.id y.id) = true then ((zeroV, zeroV), 110) else
 if belowF y.id x.id 32 0 = true then ((y, x), 0) else ((x, y), 0)
def pairDC (args : List AV) (_M : MemF) : Option (Prop × AV) := match args with
 | [a, b] => match decV a, decV b with
  | some x, some y => some (True, encR (pairD x y))
  | _, _ => none
 | _ => none
def ctPd : CtL := [(64, dplainC), (46, belowC)]
theorem ctPd_ok : CtLOk Tryz.prog ctPd := ⟨.fn dplain_body dplain_read, .fn below_body below_read, trivial⟩
theorem pairD_read : ReadFn Tryz.prog 57 pairDC := by
 intro args M q res h hq O w0 w hS
 unfold pairDC at h
 split at h
 ·
  split at h
  ·
   rename_i a b x y hx hy
   cases h
   have ha := decV_enc hx
   have hb := decV_enc hy
   subst ha hb
   refine ro_fn tabs2 ctPd_ok (cr := []) trivial Tryz.func57 rfl rfl (M := []) rfl trivial trivial ?_
   repeat (first | refine qs_ ?_ | refine qa_ ?_ | refine qo_ ?_ | refine qd_ ?_ | refine za ?_ | refine zb fun _ _ => ?_ | refine zc ?_ | refine ya ?_ | refine yb fun _ _ => ?_ | refine yc ?_ | refine qk_ ?_ | refine qb_ ?_ | refine qx_ ?_)
   refine s_cond (b := (dplainV x == 0)) rfl (fun h1 => ?_) (fun h1 => ?_)
   all_goals
    repeat (first | refine qs_ ?_ | refine qa_ ?_ | refine qo_ ?_ | refine qd_ ?_ | refine za ?_ | refine zb fun _ _ => ?_ | refine zc ?_ | refine ya ?_ | refine yb fun _ _ => ?_ | refine yc ?_ | refine qk_ ?_ | refine qb_ ?_ | refine qx_ ?_)
    refine s_cond rfl (fun h2 => ?_) (fun h2 => ?_)
    ·
     repeat (first | refine qs_ ?_ | refine qa_ ?_ | refine qo_ ?_ | refine qd_ ?_ | refine za ?_ | refine zb fun _ _ => ?_ | refine zc ?_ | refine ya ?_ | refine yb fun _ _ => ?_ | refine yc ?_ | refine qk_ ?_ | refine qb_ ?_ | refine qx_ ?_)
     refine s_ret ?_
     refine ⟨_, _, rfl, ⟨⟨⟨rfl, rfl, rfl, Nat.zero_lt_one⟩, rfl⟩, trivial, trivial⟩, rfl, ?_⟩
     simp only [pairD, h1, h2, if_true, if_false, Bool.false_eq_true]; rfl
    ·
     repeat (first | refine qs_ ?_ | refine qa_ ?_ | refine qo_ ?_ | refine qd_ ?_ | refine za ?_ | refine zb fun _ _ => ?_ | refine zc ?_ | refine ya ?_ | refine yb fun _ _ => ?_ | refine yc ?_ | refine qk_ ?_ | refine qb_ ?_ | refine qx_ ?_)
     refine s_cond (b := (((((x.from_ != y.from_) || (x.height != y.height)) || (x.round != y.round)) || (x.kind != y.kind)) || intsEq 32 x.id y.id)) rfl (fun h3 => ?_) (fun h3 => ?_)
     ·
      repeat (first | refine qs_ ?_ | refine qa_ ?_ | refine qo_ ?_ | refine qd_ ?_ | refine za ?_ | refine zb fun _ _ => ?_ | refine zc ?_ | refine ya ?_ | refine yb fun _ _ => ?_ | refine yc ?_ | refine qk_ ?_ | refine qb_ ?_ | refine qx_ ?_)
      refine s_ret ?_
      refine ⟨_, _, rfl, ⟨⟨⟨rfl, rfl, rfl, Nat.zero_lt_one⟩, rfl⟩, trivial, trivial⟩, rfl, ?_⟩
      simp only [pairD, h1, h2, h3, if_true, if_false, Bool.false_eq_true]; rfl
     ·
      repeat (first | refine qs_ ?_ | refine qa_ ?_ | refine qo_ ?_ | refine qd_ ?_ | refine za ?_ | refine zb fun _ _ => ?_ | refine zc ?_ | refine ya ?_ | refine yb fun _ _ => ?_ | refine yc ?_ | refine qk_ ?_ | refine qb_ ?_ | refine qx_ ?_)
      refine s_cond (b := belowF y.id x.id 32 0) rfl (fun h4 => ?_) (fun h4 => ?_)
      all_goals
       repeat (first | refine qs_ ?_ | refine qa_ ?_ | refine qo_ ?_ | refine qd_ ?_ | refine za ?_ | refine zb fun _ _ => ?_ | refine zc ?_ | refine ya ?_ | refine yb fun _ _ => ?_ | refine yc ?_ | refine qk_ ?_ | refine qb_ ?_ | refine qx_ ?_)
       refine s_ret ?_
       refine ⟨_, _, rfl, ⟨⟨⟨rfl, rfl, rfl, Nat.zero_lt_one⟩, rfl⟩, trivial, trivial⟩, rfl, ?_⟩
       simp only [pairD, h1, h2, h3, h4, if_true, if_false, Bool.false_eq_true]; rfl
  ·
   cases h
 ·
  cases h
theorem pairD_body : HasBody Tryz.prog 57 := ⟨_, Tryz.func57, rfl, by decide⟩
theorem plain_eq (x : Vote) : plainV x = dplainV x := by
 have hk : (decide (x.kind < 1) || decide (x.kind > 2)) = ((x.kind != 1) && (x.kind != 2)) := by
  rw [Bool.eq_iff_iff]; simp; omega
 have hh : heightB x.height = !(decide (x.height ≥ 1) && decide (x.height ≤ 1099511627776)) := by
  rw [Bool.eq_iff_iff]; simp [heightB]
 have hr : roundB x.round = !(decide (x.round ≥ 0) && decide (x.round ≤ 65535)) := by
  rw [Bool.eq_iff_iff]; simp [roundB]
 have ht : momentB x.time = !decide (x.time ≤ 1125899906842624) := by
  rw [Bool.eq_iff_iff]; simp [momentB]
 unfold plainV dplainV kindF fieldF
 rw [hk, hh, hr, ht]
 generalize ((x.kind != 1) && (x.kind != 2)) = a
 generalize (decide (x.height ≥ 1) && decide (x.height ≤ 1099511627776)) = b
 generalize (decide (x.round ≥ 0) && decide (x.round ≤ 65535)) = c
 generalize decide (x.time ≤ 1125899906842624) = d
 generalize ((x.time != 0) && ((x.kind == 1) || intsEq 32 x.id zeroH)) = e
 generalize (x.from_ == 0) = f
 cases a <;> cases b <;> cases c <;> cases d <;> cases e <;> cases f <;> rfl
theorem voteL_eq (l : List Int) (x : Vote) : putL l x = l ++ dvoteL x := by
 unfold putL dvoteL
 simp only [List.flatten_cons, List.flatten_nil, List.append_nil, List.append_assoc]
theorem said_eq (s : ByteArray) (x : Vote) : saidR 86 s (plainV x) x = dsaidR s x := by
 unfold saidR dsaidR
 rw [plain_eq, voteL_eq]
 have hn : namedF s.size = if (!(decide ((s.size : Int) ≥ 1) && decide ((s.size : Int) ≤ 16))) = true then 41 else 0 := by
  unfold namedF fieldF
  have : (decide ((s.size : Int) < 1) || decide ((s.size : Int) > 16)) = !(decide ((s.size : Int) ≥ 1) && decide ((s.size : Int) ≤ 16)) := by
   rw [Bool.eq_iff_iff]; simp
  rw [this]
 rw [hn]
 generalize (!(decide ((s.size : Int) ≥ 1) && decide ((s.size : Int) ≤ 16))) = q
 cases q with
 | true => rfl
 | false =>
  simp only [Bool.false_eq_true, if_false]
  have : firstE [0, dplainV x] = dplainV x := by
   unfold firstE
   rw [if_neg (by decide)]
   unfold firstE
   split
   ·
    rfl
   ·
    rename_i h; simp at h; rw [h]; rfl
  rw [this]
def byteOk (n : Int) : Prop := 0 ≤ n ∧ n < 256
theorem byte_lt {a b : Int} (ha : byteOk a) (hb : byteOk b) : (a.toNat.toUInt8 < b.toNat.toUInt8) ↔ a < b := by
 obtain ⟨h1, h2⟩ := ha
 obtain ⟨h3, h4⟩ := hb
 rw [UInt8.lt_iff_toNat_lt]
 simp only [Nat.toUInt8, UInt8.toNat_ofNat']
 omega
def bytesAt (a : List Int) (i n : Nat) : List UInt8 := (List.range' i n).map fun j => (a.getD j 0).toNat.toUInt8
theorem bytesAt_succ (a : List Int) (i n : Nat) : bytesAt a i (n + 1) = (a.getD i 0).toNat.toUInt8 :: bytesAt a (i + 1) n := by
 unfold bytesAt; rw [List.range'_succ, List.map_cons]
theorem cmp_at (a b : List Int) (ha : ∀ j, byteOk (a.getD j 0)) (hb : ∀ j, byteOk (b.getD j 0)) : ∀ n i,
  ((Lib.compareBytes (bytesAt a i n) (bytesAt b i n) == 0) = (List.range' i n).all fun j => a.getD j 0 == b.getD j 0) ∧
  decide (Lib.compareBytes (bytesAt a i n) (bytesAt b i n) > 0) = belowF b a n i ∧
  Lib.compareBytes (bytesAt a i n) (bytesAt b i n) = - Lib.compareBytes (bytesAt b i n) (bytesAt a i n)
 | 0, i => ⟨rfl, rfl, rfl⟩
 | n + 1, i => by
  obtain ⟨h1, h2, h3⟩ := cmp_at a b ha hb n (i + 1)
  rw [bytesAt_succ, bytesAt_succ, List.range'_succ, List.all_cons]
  simp only [Lib.compareBytes, byte_lt (ha i) (hb i), byte_lt (hb i) (ha i), belowF]
  rcases Int.lt_trichotomy (a.getD i 0) (b.getD i 0) with h | h | h
  ·
   have hn : ¬ b.getD i 0 < a.getD i 0 := by omega
   have he : (a.getD i 0 == b.getD i 0) = false := by rw [beq_eq_false_iff_ne]; omega
   have hne : (b.getD i 0 != a.getD i 0) = true := by rw [bne_iff_ne]; omega
   rw [if_pos h, he, if_pos hne, if_neg hn, if_pos h]
   exact ⟨rfl, by rw [decide_eq_false hn]; rfl, rfl⟩
  ·
   rw [h]
   simp only [Int.lt_irrefl, if_false, BEq.rfl, Bool.true_and, bne_self_eq_false, Bool.false_eq_true]
   exact ⟨h1, h2, h3⟩
  ·
   have hn : ¬ a.getD i 0 < b.getD i 0 := by omega
   have he : (a.getD i 0 == b.getD i 0) = false := by rw [beq_eq_false_iff_ne]; omega
   have hne : (b.getD i 0 != a.getD i 0) = true := by rw [bne_iff_ne]; omega
   rw [if_neg hn, if_pos h, he, if_pos hne, if_pos h]
   exact ⟨rfl, by rw [decide_eq_true h]; rfl, rfl⟩
theorem bytes_at (a : List Int) : Lib.bytesOf (idL a) = bytesAt a 0 32 := by
 unfold Lib.bytesOf idL intsOf bytesAt
 rw [List.range_eq_range', List.map_map]
 refine List.map_congr_left fun j _ => ?_
 simp [AV.int1]
def okV (x : Vote) : Prop := ∀ j, byteOk (x.id.getD j 0)
theorem cmpV_eq (x y : Vote) (hx : okV x) (hy : okV y) : (cmpV x y == 0) = intsEq 32 x.id y.id ∧ decide (cmpV x y > 0) = belowF y.id x.id 32 0 := by
 have h := cmp_at x.id y.id hx hy 32 0
 unfold cmpV cmpI
 rw [bytes_at, bytes_at]
 refine ⟨?_, h.2.1⟩
 rw [h.1]; unfold intsEq; rw [List.range_eq_range']
theorem pair_eq (x y : Vote) (hx : okV x) (hy : okV y) : pairP x y = pairD x y := by
 obtain ⟨h1, h2⟩ := cmpV_eq x y hx hy
 unfold pairP pairD
 rw [h1, h2, plain_eq x, plain_eq y]
 by_cases hz : dplainV x = 0
 ·
  rw [hz]; simp
 ·
  have a1 : (dplainV x != 0) = true := bne_iff_ne.2 hz
  have a2 : (dplainV x == 0) = false := by rw [beq_eq_false_iff_ne]; exact hz
  rw [a1, a2]; simp [a1]
theorem of16_step (h : List Int) : ∀ n i l, n + i = 16 → (∀ j, j < i → l.getD j 0 = h.getD j 0) → l.length = 16 → of16 h n i l = (List.range 16).map fun j => h.getD j 0
 | 0, i, l, e, hl, h16 => by
  show l = _
  refine List.ext_getElem (by simp [h16]) fun j h1 h2 => ?_
  have := hl j (by omega)
  rw [List.getD_eq_getElem?_getD, List.getElem?_eq_getElem h1] at this
  simpa using this
 | n + 1, i, l, e, hl, h16 => by
  show of16 h n (i + 1) (pI 16 l i (aI h i)) = _
  refine of16_step h n (i + 1) _ (by omega) (fun j hj => ?_) (by unfold pI lset; simp)
  unfold pI
  rw [Int.toNat_natCast, Nat.zero_add, lset_get 16 l i _ (by omega)]
  by_cases e2 : j = i
  ·
   subst e2
   rw [if_pos rfl]; unfold aI
   rw [Int.toNat_natCast, Nat.zero_add]
  ·
   rw [if_neg e2]; exact hl j (by omega)
theorem sea_of (K B0 : List Int) (a : Int) (b : Nat → Int) (n : Nat) (hn : n ≤ 2000000) : seaF K B0 a b n = ofF K B0 a b n := by
 unfold seaF ofF
 rw [dig_ref K B0 _ (8 + n) (by omega), of16_step _ 16 0 (zs 16) rfl (fun j hj => by omega) rfl]
 unfold lcopy
 refine List.map_congr_left fun j hj => ?_
 have := List.mem_range.1 hj
 rw [if_pos (by omega), Nat.sub_zero]
end Go.Proofs.YtofophjfgalhaaaGreatDoor.V
namespace Go.Proofs.YtofophjfgalhaaaGreatDoor.V
abbrev muLink : Go.Conc.Locks.MuLink := { lock := 68, unlock := 69, ilock := 123, iunlock := 124, lockSlow := 163, unlockSlow := 166, disable := 159, enable := 161, acquire := 162, relMerge := 164, cas32 := 160, add32 := 165, tMutex := 69, tIMutex := 67, tPMutex := 244, tPIMutex := 286, tPI32 := 288, tUP := 290, tNoCopy := 64, tU32 := 65 }
theorem muLib : Go.Conc.Locks.MuLib Tryz.prog muLink :=
 ⟨Tryz.func68, Tryz.func69, Tryz.func123, Tryz.func124, Tryz.func159, Tryz.func161, Tryz.func162, Tryz.func164, Tryz.func160, Tryz.func165, Tryz.underlying67, Tryz.runUnderlying67, Tryz.sizeOf67, Tryz.isAgg67, Tryz.zeroValue67, Tryz.underlying69, Tryz.runUnderlying69, Tryz.sizeOf69, Tryz.isAgg69, Tryz.zeroValue69, Tryz.underlying244, Tryz.runUnderlying244, Tryz.sizeOf244, Tryz.isAgg244, Tryz.zeroValue244, Tryz.underlying286, Tryz.runUnderlying286, Tryz.sizeOf286, Tryz.isAgg286, Tryz.zeroValue286, Tryz.underlying288, Tryz.runUnderlying288, Tryz.sizeOf288, Tryz.isAgg288, Tryz.zeroValue288, Tryz.underlying290, Tryz.runUnderlying290, Tryz.sizeOf290, Tryz.isAgg290, Tryz.zeroValue290, Tryz.underlying64, Tryz.runUnderlying64, Tryz.sizeOf64, Tryz.isAgg64, Tryz.zeroValue64, Tryz.underlying21, Tryz.runUnderlying21, Tryz.sizeOf21, Tryz.isAgg21, Tryz.zeroValue21, (by kernel_rfl)⟩
end Go.Proofs.YtofophjfgalhaaaGreatDoor.V
namespace Go.Proofs.YtofophjfgalhaaaGreatDoor.V
open Go Go.RowKit
section
variable {tb : Tbl} {eqs : List TypeId} {kt : TypeId} {K : AV}
theorem mfind_miss : ∀ {l : List (AV × AV × Nat)} {i : Nat}, (∀ p ∈ l, eqT tb eqs 64 kt K p.1 = some false) → mfind tb eqs kt K l i = some none
 | [], _, _ => rfl
 | (k, v, b) :: r, i, h => by
  simp only [mfind]
  rw [h (k, v, b) (.head _)]
  exact mfind_miss fun p hp => h p (.tail _ hp)
theorem mfind_hit : ∀ {l : List (AV × AV × Nat)} {i j : Nat} {p : AV × AV × Nat}, l[j]? = some p → eqT tb eqs 64 kt K p.1 = some true → (∀ j', j' < j → ∀ q, l[j']? = some q → eqT tb eqs 64 kt K q.1 = some false) → mfind tb eqs kt K l i = some (some (i + j, p.2.1))
 | [], _, _, _, h, _, _ => by simp at h
 | (k, v, b) :: r, i, j, p, h, h1, h2 => by
  simp only [mfind]
  cases j with
  | zero =>
   rw [List.getElem?_cons_zero] at h
   cases h
   rw [h1]; rfl
  | succ j =>
   rw [h2 0 (by omega) _ (List.getElem?_cons_zero)]
   rw [List.getElem?_cons_succ] at h
   have := mfind_hit (i := i + 1) h h1 fun j' hj q hq => h2 (j' + 1) (by omega) q (by rw [List.getElem?_cons_succ]; exact hq)
   rw [show i + (j + 1) = i + 1 + j by omega]
   exact this
end
theorem eq_u64 (a b : Int) : eqT tabs2.tb tabs2.eqs 64 39 (.v (.int .u64 a)) (.v (.int .u64 b)) = some (a == b) := rfl
def recK (r : Int × ByteArray) : AV := .agg (.cons (.v (.int .u64 r.1)) (.cons (.v (.string r.2)) .nil))
theorem eq_rec (r s : Int × ByteArray) : eqT tabs2.tb tabs2.eqs 64 237 (recK r) (recK s) = some ((r.1 == s.1) && ((r.2.toList == s.2.toList) && true)) := rfl
theorem recK_same (r : Int × ByteArray) : eqT tabs2.tb tabs2.eqs 64 237 (recK r) (recK r) = some true := by
 rw [eq_rec]; simp
theorem recK_diff {r s : Int × ByteArray} (h : r ≠ s) : eqT tabs2.tb tabs2.eqs 64 237 (recK r) (recK s) = some false := by
 rw [eq_rec]
 by_cases h1 : r.1 = s.1
 ·
  by_cases h2 : r.2.toList = s.2.toList
  ·
   exact absurd (Prod.ext h1 (bytes_toList h2)) h
  ·
   simp [h2]
 ·
  simp [h1]
def regAV (mu : Int) (bS bR bG : Nat) : AV := .agg (.cons (.agg (.cons (.agg .nil) (.cons (.agg (.cons (.v (.int .i32 mu)) (.cons (.v (.int .u32 0)) .nil))) .nil))) (.cons (.mp 901 bS) (.cons (.mp 902 bR) (.cons (.mp 903 bG) .nil))))
def sigP (k : Nat) : AV := .ptr ⟨904, 0, k, 0, 2, 0, 0, 0, false⟩
def sigAV (b : Nat) (a : Int) : AV := .agg (.cons (.ptr ⟨900, 0, b, 0, 5, 0, 0, 0, false⟩) (.cons (.v (.int .u64 a)) .nil))
def sgOf (recs : List (Int × ByteArray)) (a : Int) : List ByteArray := (recs.filter fun r => r.1 == a).map (·.2)
structure Grp where
 a : Int
 blk : Nat
 cap : Nat
def kv (l : List (AV × AV × Nat)) : List (AV × AV) := l.map fun p => (p.1, p.2.1)
structure RegF (H : Frag) (b : Nat) (ents : List (Int × Nat)) (recs : List (Int × ByteArray)) (bS bR bG : Nat) (gr : List Grp) (lS lR lG : List (AV × AV × Nat)) (cS cR cG : Nat) : Prop where
 row : FRow H b 74 5 1 (fun _ => regAV 0 bS bR bG) 1
 sg : FMap H bS lS cS
 sgv : kv lS = ents.map fun e => (.v (.int .u64 e.1), sigP e.2)
 rc : FMap H bR lR cR
 rcv : kv lR = recs.map fun r => (recK r, .agg .nil)
 gp : FMap H bG lG cG
 gpv : kv lG = gr.map fun g => (.v (.int .u64 g.a), .gs 905 0 (some (g.blk, 0)) 1 0 (sgOf recs g.a).length g.cap)
 sig : ∀ e ∈ ents, FRow H e.2 222 2 1 (fun _ => sigAV b e.1) 1
 grp : ∀ g ∈ gr, FRow H g.blk 9 1 (sgOf recs g.a).length (fun i => .v (.string ((sgOf recs g.a).getD i ⟨#[]⟩))) g.cap
 all : ∀ r ∈ recs, ∃ g ∈ gr, g.a = r.1
 nda : (gr.map (·.a)).Nodup
 nde : (ents.map (·.1)).Nodup
 ndr : recs.Nodup
 ndb : (b :: bS :: bR :: bG :: (ents.map (·.2) ++ gr.map (·.blk))).Nodup
def IsReg (b : Nat) (ents : List (Int × Nat)) (recs : List (Int × ByteArray)) (H : Frag) : Prop := ∃ bS bR bG gr lS lR lG cS cR cG, RegF H b ents recs bS bR bG gr lS lR lG cS cR cG
def regB (b : Nat) (ents : List (Int × Nat)) (recs : List (Int × ByteArray)) (S : Nat → Prop) : Blk := frB (.reg b ents recs) S (IsReg b ents recs)
def regOf (M : MemF) (p : Pt) : Option (Prop × Nat × List (Int × Nat) × List (Int × ByteArray) × (Nat → Prop)) := match M p.n with
 | some (.sep (.reg b ents recs) S φ) => some (Blk.sep (.reg b ents recs) S φ = regB b ents recs S ∧ (p.b = b ∧ p.o0 = 0 ∧ p.es = 5 ∧ p.idx = 0 ∧ p.off = 0 ∧ p.j = 0), b, ents, recs, S)
 | _ => none
theorem regOf_spec {M : MemF} {p : Pt} {c : Prop} {b : Nat} {ents : List (Int × Nat)} {recs : List (Int × ByteArray)} {S : Nat → Prop} (h : regOf M p = some (c, b, ents, recs, S)) (hc : c) : M p.n = some (regB b ents recs S) ∧ ∀ n, (AV.ptr p).val = (AV.ptr ⟨n, 0, b, 0, 5, 0, 0, 0, false⟩).val := by
 unfold regOf at h
 split at h
 ·
  rename_i b' e' r' S' φ hM
  cases h
  obtain ⟨h1, h2, h3, h4, h5, h6, h7⟩ := hc
  refine ⟨by rw [hM, h1], fun n => ?_⟩
  rw [ptr_val, ptr_val]
  unfold Pt.cell
  simp only [h2, h3, h5, h6, h7]
  simp
 ·
  cases h
def missC (args : List AV) (M : MemF) : Option (Prop × AV) := match args with
 | [.v (.pointer none)] => some (True, .v (.bool true))
 | [.ptr p] => match regOf M p with
  | some (c, _, _, _, _) => some (c, .v (.bool false))
  | none => match ptrOf M p true 5 with
   | some (c, .agg (.cons (.agg (.cons (.agg .nil) (.cons (.agg (.cons (.v (.int .i32 _)) (.cons (.v (.int .u32 _)) .nil))) .nil))) (.cons (.v (.map none)) (.cons (.v (.map none)) (.cons (.v (.map none)) .nil))))) => some (c, .v (.bool true))
   | some (c, .agg (.cons (.agg (.cons (.agg .nil) (.cons (.agg (.cons (.v (.int .i32 _)) (.cons (.v (.int .u32 _)) .nil))) .nil))) (.cons (.mp _ _) (.cons (.mp _ _) (.cons (.mp _ _) .nil))))) => some (c, .v (.bool false))
   | _ => none
 | _ => none
def zrAV (x : Int) (y : Int) : AV := .agg (.cons (.agg (.cons (.agg .nil) (.cons (.agg (.cons (.v (.int .i32 x)) (.cons (.v (.int .u32 y)) .nil))) .nil))) (.cons (.v (.map none)) (.cons (.v (.map none)) (.cons (.v (.map none)) .nil))))
def mdAV (x : Int) (y : Int) (t1 b1 t2 b2 t3 b3 : Nat) : AV := .agg (.cons (.agg (.cons (.agg .nil) (.cons (.agg (.cons (.v (.int .i32 x)) (.cons (.v (.int .u32 y)) .nil))) .nil))) (.cons (.mp t1 b1) (.cons (.mp t2 b2) (.cons (.mp t3 b3) .nil))))
theorem miss_open {O : Nat → Prop} {w0 w : World} {M : MemF} {P v : AV} {c : Prop} (hS : Sat O w0 M w) (h : missC [P] M = some (c, v)) (hc : c) :
  (P = .v (.pointer none) ∧ v = .v (.bool true)) ∨ ∃ b i X, P.val = (roP 900 b i 5).val ∧ Reads w b i 5 1 (fun _ => X) ∧ ((∃ x y, X = zrAV x y ∧ v = .v (.bool true)) ∨ ∃ x y t1 b1 t2 b2 t3 b3, X = mdAV x y t1 b1 t2 b2 t3 b3 ∧ v = .v (.bool false)) := by
 unfold missC at h
 split at h
 ·
  rename_i he
  cases he
  cases h
  exact .inl ⟨rfl, rfl⟩
 ·
  rename_i p he
  cases he
  refine .inr ?_
  split at h
  ·
   rename_i c b ents recs S hp
   cases h
   obtain ⟨hM, hv⟩ := regOf_spec hp hc
   obtain ⟨H, _, ⟨bS, bR, bG, gr, lS, lR, lG, cS, cR, cG, hF⟩, h3⟩ := frB_open (hS.holds _ _ hM)
   have hR := hF.row.on h3
   exact ⟨b, 0, regAV 0 bS bR bG, (hv 900).trans rfl, hR.reads, .inr ⟨0, 0, 901, bS, 902, bR, 903, bG, rfl, rfl⟩⟩
  ·
   split at h
   ·
    rename_i c x y hp
    cases h
    exact ⟨_, _, _, pt_ro p 900 5, ptrOf_spec (g := true) hS hp hc, .inl ⟨x, y, rfl, rfl⟩⟩
   ·
    rename_i c x y t1 b1 t2 b2 t3 b3 hp
    cases h
    exact ⟨_, _, _, pt_ro p 900 5, ptrOf_spec (g := true) hS hp hc, .inr ⟨x, y, t1, b1, t2, b2, t3, b3, rfl, rfl⟩⟩
   ·
    cases h
 ·
  cases h
theorem miss_read : ReadFn Tryz.prog 67 missC := by
 intro args M q res h hq O w0 w hS
 have hargs : ∃ P, args = [P] := by
  unfold missC at h
  split at h
  ·
   exact ⟨_, rfl⟩
  ·
   exact ⟨_, rfl⟩
  ·
   cases h
 obtain ⟨P, rfl⟩ := hargs
 rcases miss_open hS h hq with ⟨rfl, rfl⟩ | ⟨b, i, X, hv, hR, ⟨x, y, rfl, rfl⟩ | ⟨x, y, t1, b1, t2, b2, t3, b3, rfl, rfl⟩⟩
 ·
  refine ro_fn tabs2 (ct := []) trivial (cr := []) trivial Tryz.func67 rfl rfl (M := []) rfl trivial trivial ?_
  repeat (first | refine qs_ ?_ | refine qa_ ?_ | refine qo_ ?_ | refine qd_ ?_ | refine za ?_ | refine zb fun _ _ => ?_ | refine zc ?_ | refine ya ?_ | refine yb fun _ _ => ?_ | refine yc ?_ | refine qk_ ?_ | refine qb_ ?_ | refine qx_ ?_)
  refine s_ret ?_
  exact ⟨_, _, rfl, ⟨trivial, trivial⟩, rfl, rfl⟩
 ·
  rw [show [P].map AV.val = [roP 900 b i 5].map AV.val by simp only [List.map_cons, List.map_nil, hv]]
  refine ro_fn tabs2 (ct := []) trivial (cr := []) trivial Tryz.func67 rfl rfl (M := [(900, roB (some (b, i)) 5 1 fun _ => zrAV x y)]) rfl ⟨roB_noOwn, trivial⟩ ⟨roB_holds fun _ => ⟨b, i, rfl, hR⟩, trivial⟩ ?_
  repeat (first | refine qs_ ?_ | refine qa_ ?_ | refine qo_ ?_ | refine qd_ ?_ | refine za ?_ | refine zb fun _ _ => ?_ | refine zc ?_ | refine ya ?_ | refine yb fun _ _ => ?_ | refine yc ?_ | refine qk_ ?_ | refine qb_ ?_ | refine qx_ ?_)
  refine s_ret ?_
  exact ⟨_, _, rfl, ⟨trivial, trivial⟩, rfl, rfl⟩
 ·
  rw [show [P].map AV.val = [roP 900 b i 5].map AV.val by simp only [List.map_cons, List.map_nil, hv]]
  refine ro_fn tabs2 (ct := []) trivial (cr := []) trivial Tryz.func67 rfl rfl (M := [(900, roB (some (b, i)) 5 1 fun _ => mdAV x y t1 b1 t2 b2 t3 b3)]) rfl ⟨roB_noOwn, trivial⟩ ⟨roB_holds fun _ => ⟨b, i, rfl, hR⟩, trivial⟩ ?_
  repeat (first | refine qs_ ?_ | refine qa_ ?_ | refine qo_ ?_ | refine qd_ ?_ | refine za ?_ | refine zb fun _ _ => ?_ | refine zc ?_ | refine ya ?_ | refine yb fun _ _ => ?_ | refine yc ?_ | refine qk_ ?_ | refine qb_ ?_ | refine qx_ ?_)
  refine s_ret ?_
  exact ⟨_, _, rfl, ⟨trivial, trivial⟩, rfl, rfl⟩
theorem miss_body : HasBody Tryz.prog 67 := ⟨_, Tryz.func67, rfl, by decide⟩
theorem nodup4 {a b c d : Nat} {l : List Nat} (h : (a :: b :: c :: d :: l).Nodup) : a ≠ b ∧ a ≠ c ∧ a ≠ d ∧ b ≠ c ∧ b ≠ d ∧ c ≠ d ∧ a ∉ l ∧ b ∉ l ∧ c ∉ l ∧ d ∉ l ∧ l.Nodup := by
 simp only [List.nodup_cons, List.mem_cons, not_or] at h
 obtain ⟨⟨h1, h2, h3, h4⟩, ⟨h5, h6, h7⟩, ⟨h8, h9⟩, h10, h11⟩ := h
 exact ⟨h1, h2, h3, h5, h6, h8, h4, h7, h9, h10, h11⟩
def newRC (tag : Nat) (args : List AV) (_M : MemF) : Option Res := match args with
 | [] => some ⟨Nat × (Nat → Prop), True, fun _ => True, fun x => .ptr ⟨tag, 0, x.1, 0, 5, 0, 0, 0, false⟩, [tag], fun x => [regB x.1 [] [] x.2]⟩
 | _ => none
theorem reg_new {w : World} {b bS bR bG : Nat} (hh : ∀ B ∈ ([.row b 74 5 1 (fun _ => regAV 0 bS bR bG) 1, .mp true bS [] 0, .mp true bR [] 0, .mp true bG [] 0] : List Blk), B.holds w) (hp : ([.row b 74 5 1 (fun _ => regAV 0 bS bR bG) 1, .mp true bS [] 0, .mp true bR [] 0, .mp true bG [] 0] : List Blk).Pairwise fun B B' => ∀ k, B.own k → ¬ B'.own k) :
  IsReg b [] [] (restr w (ownU [.row b 74 5 1 (fun _ => regAV 0 bS bR bG) 1, .mp true bS [] 0, .mp true bR [] 0, .mp true bG [] 0])) := by
 refine ⟨bS, bR, bG, [], [], [], [], 0, 0, 0, closed_row (.head _) hh, closed_map (.tail _ (.head _)) hh, rfl, closed_map (.tail _ (.tail _ (.head _))) hh, rfl, closed_map (.tail _ (.tail _ (.tail _ (.head _)))) hh, rfl, fun _ h => (by cases h), fun _ h => (by cases h), fun _ h => (by cases h), .nil, .nil, .nil, ?_⟩
 simp only [List.pairwise_cons, List.mem_cons, List.not_mem_nil, or_false] at hp
 obtain ⟨h1, h2, h3, _⟩ := hp
 simp only [List.map_nil, List.append_nil, List.nodup_cons, List.mem_cons, List.not_mem_nil, or_false, not_or]
 have e1 := h1 _ (.inl rfl) b rfl
 have e2 := h1 _ (.inr (.inl rfl)) b rfl
 have e3 := h1 _ (.inr (.inr rfl)) b rfl
 have e4 := h2 _ (.inl rfl) bS rfl
 have e5 := h2 _ (.inr rfl) bS rfl
 have e6 := h3 _ rfl bR rfl
 exact ⟨⟨fun e => e1 e.symm, fun e => e2 e.symm, fun e => e3 e.symm⟩, ⟨fun e => e4 e.symm, fun e => e5 e.symm⟩, fun e => e6 e.symm, not_false, .nil⟩
theorem newR_turn : TurnFn Tryz.prog 27 newRC := by
 intro tag args M r h0 hok O w0 w hS
 unfold newRC at h0
 split at h0
 ·
  cases h0
  refine turn_new tabs2 (ct := []) trivial (cr := []) trivial Tryz.func27 rfl rfl hS _ [] [5] rfl trivial trivial (by decide) rfl (s_post ?_)
  repeat (first | refine qs_ ?_ | refine qa_ ?_ | refine qo_ ?_ | refine qd_ ?_ | refine za ?_ | refine zb fun _ _ => ?_ | refine zc ?_ | refine ya ?_ | refine yb fun _ _ => ?_ | refine yc ?_ | refine qk_ ?_ | refine qb_ ?_ | refine qx_ ?_)
  rename_i b1 _ b2 _ b3 _ b5 _
  refine s_ret ?_
  refine ⟨_, _, le_close (n := 5) (.reg b5 [] []) (IsReg b5 [] []) [5, 1, 2, 3] [.row b5 74 5 1 (fun _ => regAV 0 b1 b2 b3) 1, .mp true b1 [] 0, .mp true b2 [] 0, .mp true b3 [] 0] rfl (by decide) ⟨⟨⟨_, rfl, Blk.le_rowc (Nat.le_refl _) fun _ _ => ⟨rfl, rfl⟩⟩, fun _ h => h⟩, ⟨⟨_, rfl, Blk.le_refl _⟩, fun _ h => h⟩, ⟨⟨_, rfl, Blk.le_refl _⟩, fun _ h => h⟩, ⟨⟨_, rfl, Blk.le_refl _⟩, fun _ h => h⟩, trivial⟩ (fun w hh hp => reg_new hh hp), ?_⟩
  exact ⟨_, _, rfl, ⟨trivial, trivial⟩, rfl, (b5, _), trivial, rfl, ⟨⟨_, rfl, Blk.le_refl _⟩, fun _ h => h⟩, trivial⟩
 ·
  cases h0
theorem newR_body : HasBody Tryz.prog 27 := ⟨_, Tryz.func27, rfl, by decide⟩
def ent0C (args : List AV) (M : MemF) : Option (Prop × AV) := match args with
 | [P, .v (.int .u64 0)] => match missC [P] M with
  | some (c, .v (.bool b)) => some (c, .tup (.cons (.v (.pointer none)) (.cons (.v (.int .i64 (if b then 1 else 2))) .nil)))
  | _ => none
 | _ => none
theorem ent0_read : ReadFn Tryz.prog 43 ent0C := by
 intro args M q res h hq O w0 w hS
 unfold ent0C at h
 split at h
 ·
  rename_i P
  split at h
  ·
   rename_i c v hm
   cases h
   have e0 : ∀ {P' : AV}, P.val = P'.val → [P, AV.v (.int .u64 0)].map AV.val = [P', AV.v (.int .u64 0)].map AV.val := fun h => by simp only [List.map_cons, List.map_nil, h]
   rcases miss_open hS hm hq with ⟨rfl, hv⟩ | ⟨b, i, X, hP, hR, ⟨x, y, rfl, hv⟩ | ⟨x, y, t1, b1, t2, b2, t3, b3, rfl, hv⟩⟩
   ·
    cases hv
    refine ro_fn tabs2 (ct := [(67, missC)]) ⟨CallsOk.fn miss_body miss_read, trivial⟩ (cr := []) trivial Tryz.func43 rfl rfl (M := []) rfl trivial trivial ?_
    repeat (first | refine qs_ ?_ | refine qa_ ?_ | refine qo_ ?_ | refine qd_ ?_ | refine za ?_ | refine zb fun _ _ => ?_ | refine zc ?_ | refine ya ?_ | refine yb fun _ _ => ?_ | refine yc ?_ | refine qk_ ?_ | refine qb_ ?_ | refine qx_ ?_)
    refine s_cond (b := true) rfl (fun _ => ?_) (fun hb => by cases hb)
    repeat (first | refine qs_ ?_ | refine qa_ ?_ | refine qo_ ?_ | refine qd_ ?_ | refine za ?_ | refine zb fun _ _ => ?_ | refine zc ?_ | refine ya ?_ | refine yb fun _ _ => ?_ | refine yc ?_ | refine qk_ ?_ | refine qb_ ?_ | refine qx_ ?_)
    refine s_ret ?_
    exact ⟨_, _, rfl, (by repeat (first | exact trivial | constructor)), rfl, rfl⟩
   ·
    cases hv
    rw [e0 hP]
    refine ro_fn tabs2 (ct := [(67, missC)]) ⟨CallsOk.fn miss_body miss_read, trivial⟩ (cr := []) trivial Tryz.func43 rfl rfl (M := [(900, roB (some (b, i)) 5 1 fun _ => zrAV x y)]) rfl ⟨roB_noOwn, trivial⟩ ⟨roB_holds fun _ => ⟨b, i, rfl, hR⟩, trivial⟩ ?_
    repeat (first | refine qs_ ?_ | refine qa_ ?_ | refine qo_ ?_ | refine qd_ ?_ | refine za ?_ | refine zb fun _ _ => ?_ | refine zc ?_ | refine ya ?_ | refine yb fun _ _ => ?_ | refine yc ?_ | refine qk_ ?_ | refine qb_ ?_ | refine qx_ ?_)
    refine s_cond (b := true) rfl (fun _ => ?_) (fun hb => by cases hb)
    repeat (first | refine qs_ ?_ | refine qa_ ?_ | refine qo_ ?_ | refine qd_ ?_ | refine za ?_ | refine zb fun _ _ => ?_ | refine zc ?_ | refine ya ?_ | refine yb fun _ _ => ?_ | refine yc ?_ | refine qk_ ?_ | refine qb_ ?_ | refine qx_ ?_)
    refine s_ret ?_
    exact ⟨_, _, rfl, (by repeat (first | exact trivial | constructor)), rfl, rfl⟩
   ·
    cases hv
    rw [e0 hP]
    refine ro_fn tabs2 (ct := [(67, missC)]) ⟨CallsOk.fn miss_body miss_read, trivial⟩ (cr := []) trivial Tryz.func43 rfl rfl (M := [(900, roB (some (b, i)) 5 1 fun _ => mdAV x y t1 b1 t2 b2 t3 b3)]) rfl ⟨roB_noOwn, trivial⟩ ⟨roB_holds fun _ => ⟨b, i, rfl, hR⟩, trivial⟩ ?_
    repeat (first | refine qs_ ?_ | refine qa_ ?_ | refine qo_ ?_ | refine qd_ ?_ | refine za ?_ | refine zb fun _ _ => ?_ | refine zc ?_ | refine ya ?_ | refine yb fun _ _ => ?_ | refine yc ?_ | refine qk_ ?_ | refine qb_ ?_ | refine qx_ ?_)
    refine s_cond (b := false) rfl (fun hb => by cases hb) (fun _ => ?_)
    repeat (first | refine qs_ ?_ | refine qa_ ?_ | refine qo_ ?_ | refine qd_ ?_ | refine za ?_ | refine zb fun _ _ => ?_ | refine zc ?_ | refine ya ?_ | refine yb fun _ _ => ?_ | refine yc ?_ | refine qk_ ?_ | refine qb_ ?_ | refine qx_ ?_)
    refine s_cond (b := true) rfl (fun _ => ?_) (fun hb => by cases hb)
    repeat (first | refine qs_ ?_ | refine qa_ ?_ | refine qo_ ?_ | refine qd_ ?_ | refine za ?_ | refine zb fun _ _ => ?_ | refine zc ?_ | refine ya ?_ | refine yb fun _ _ => ?_ | refine yc ?_ | refine qk_ ?_ | refine qb_ ?_ | refine qx_ ?_)
    refine s_ret ?_
    exact ⟨_, _, rfl, (by repeat (first | exact trivial | constructor)), rfl, rfl⟩
  ·
   cases h
 ·
  cases h
theorem ent0_body : HasBody Tryz.prog 43 := ⟨_, Tryz.func43, rfl, by decide⟩
def madeC (args : List AV) (M : MemF) : Option (Prop × AV) := match args with
 | [P] => match missC [P] M with
  | some (c, .v (.bool b)) => some (c, .v (.bool (!b)))
  | _ => none
 | _ => none
theorem made_read : ReadFn Tryz.prog 47 madeC := by
 intro args M q res h hq O w0 w hS
 unfold madeC at h
 split at h
 ·
  rename_i P
  split at h
  ·
   rename_i c v hm
   cases h
   have e0 : ∀ {P' : AV}, P.val = P'.val → [P].map AV.val = [P'].map AV.val := fun h => by simp only [List.map_cons, List.map_nil, h]
   rcases miss_open hS hm hq with ⟨rfl, hv⟩ | ⟨b, i, X, hP, hR, ⟨x, y, rfl, hv⟩ | ⟨x, y, t1, b1, t2, b2, t3, b3, rfl, hv⟩⟩
   ·
    cases hv
    refine ro_fn tabs2 (ct := [(43, ent0C)]) ⟨CallsOk.fn ent0_body ent0_read, trivial⟩ (cr := []) trivial Tryz.func47 rfl rfl (M := []) rfl trivial trivial ?_
    repeat (first | refine qs_ ?_ | refine qa_ ?_ | refine qo_ ?_ | refine qd_ ?_ | refine za ?_ | refine zb fun _ _ => ?_ | refine zc ?_ | refine ya ?_ | refine yb fun _ _ => ?_ | refine yc ?_ | refine qk_ ?_ | refine qb_ ?_ | refine qx_ ?_)
    refine s_cond (b := true) rfl (fun _ => ?_) (fun hb => by cases hb)
    repeat (first | refine qs_ ?_ | refine qa_ ?_ | refine qo_ ?_ | refine qd_ ?_ | refine za ?_ | refine zb fun _ _ => ?_ | refine zc ?_ | refine ya ?_ | refine yb fun _ _ => ?_ | refine yc ?_ | refine qk_ ?_ | refine qb_ ?_ | refine qx_ ?_)
    refine s_ret ?_
    exact ⟨_, _, rfl, (by repeat (first | exact trivial | constructor)), rfl, rfl⟩
   ·
    cases hv
    rw [e0 hP]
    refine ro_fn tabs2 (ct := [(43, ent0C)]) ⟨CallsOk.fn ent0_body ent0_read, trivial⟩ (cr := []) trivial Tryz.func47 rfl rfl (M := [(900, roB (some (b, i)) 5 1 fun _ => zrAV x y)]) rfl ⟨roB_noOwn, trivial⟩ ⟨roB_holds fun _ => ⟨b, i, rfl, hR⟩, trivial⟩ ?_
    repeat (first | refine qs_ ?_ | refine qa_ ?_ | refine qo_ ?_ | refine qd_ ?_ | refine za ?_ | refine zb fun _ _ => ?_ | refine zc ?_ | refine ya ?_ | refine yb fun _ _ => ?_ | refine yc ?_ | refine qk_ ?_ | refine qb_ ?_ | refine qx_ ?_)
    refine s_cond (b := false) rfl (fun hb => by cases hb) (fun _ => ?_)
    repeat (first | refine qs_ ?_ | refine qa_ ?_ | refine qo_ ?_ | refine qd_ ?_ | refine za ?_ | refine zb fun _ _ => ?_ | refine zc ?_ | refine ya ?_ | refine yb fun _ _ => ?_ | refine yc ?_ | refine qk_ ?_ | refine qb_ ?_ | refine qx_ ?_)
    refine s_ret ?_
    exact ⟨_, _, rfl, (by repeat (first | exact trivial | constructor)), rfl, rfl⟩
   ·
    cases hv
    rw [e0 hP]
    refine ro_fn tabs2 (ct := [(43, ent0C)]) ⟨CallsOk.fn ent0_body ent0_read, trivial⟩ (cr := []) trivial Tryz.func47 rfl rfl (M := [(900, roB (some (b, i)) 5 1 fun _ => mdAV x y t1 b1 t2 b2 t3 b3)]) rfl ⟨roB_noOwn, trivial⟩ ⟨roB_holds fun _ => ⟨b, i, rfl, hR⟩, trivial⟩ ?_
    repeat (first | refine qs_ ?_ | refine qa_ ?_ | refine qo_ ?_ | refine qd_ ?_ | refine za ?_ | refine zb fun _ _ => ?_ | refine zc ?_ | refine ya ?_ | refine yb fun _ _ => ?_ | refine yc ?_ | refine qk_ ?_ | refine qb_ ?_ | refine qx_ ?_)
    refine s_cond (b := false) rfl (fun hb => by cases hb) (fun _ => ?_)
    repeat (first | refine qs_ ?_ | refine qa_ ?_ | refine qo_ ?_ | refine qd_ ?_ | refine za ?_ | refine zb fun _ _ => ?_ | refine zc ?_ | refine ya ?_ | refine yb fun _ _ => ?_ | refine yc ?_ | refine qk_ ?_ | refine qb_ ?_ | refine qx_ ?_)
    refine s_ret ?_
    exact ⟨_, _, rfl, (by repeat (first | exact trivial | constructor)), rfl, rfl⟩
  ·
   cases h
 ·
  cases h
theorem made_body : HasBody Tryz.prog 47 := ⟨_, Tryz.func47, rfl, by decide⟩
end Go.Proofs.YtofophjfgalhaaaGreatDoor.V
