import Derived.Test.YtofophjfgalhaaaGreatDoorMisdeedPoolsW17
import Derived.Test.YtofophjfgalhaaaGreatDoorMisdeedPoolsW23
set_option linter.unusedVariables false
set_option linter.unusedSimpArgs false
set_option maxRecDepth 100000
set_option maxHeartbeats 8000000
namespace Go.Proofs.YtofophjfgalhaaaGreatDoor.V
open Go Go.RowKit
theorem bcmp_ok : CallsOk Tryz.prog 149 cmpC := cmp_extern Tryz.func149 (by kernel_rfl) (by kernel_rfl) (by kernel_rfl) (by kernel_rfl)
def ctC1 : CtL := [(149, cmpC)]
theorem ctC1_ok : CtLOk Tryz.prog ctC1 := ⟨bcmp_ok, trivial⟩
theorem compare_read : ReadFn Tryz.prog 105 cmpC := by
 intro args M q res h hq O w0 w hS
 unfold cmpC at h
 split at h
 ·
  rename_i x y
  split at h
  ·
   rename_i c es n f c' es' n' g h1 h2
   cases h
   obtain ⟨⟨a1, a2, a3, a4⟩, ⟨b1, b2, b3, b4⟩⟩ := hq
   obtain ⟨base, cap, v1, r1⟩ := ints_ro hS h1 a1 a2 a4
   obtain ⟨base', cap', v2, r2⟩ := ints_ro hS h2 b1 b2 b4
   rw [show [x, y].map AV.val = [roS 900 base 1 n cap, roS 901 base' 1 n' cap'].map AV.val by simp only [List.map_cons, List.map_nil, v1, v2, roS_val]]
   refine ro_fn tabs2 ctC1_ok (cr := []) trivial Tryz.func105 rfl rfl (M := [(900, roB base 1 n fun i => .v (.int .u8 (f i).int1)), (901, roB base' 1 n' fun i => .v (.int .u8 (g i).int1))]) rfl ⟨roB_noOwn, roB_noOwn, trivial⟩ ⟨r1, r2, trivial⟩ ?_
   repeat (first | refine qs_ ?_ | refine qa_ ?_ | refine qo_ ?_ | refine qd_ ?_ | refine za ?_ | refine zb fun _ _ => ?_ | refine zc ?_ | refine ya ?_ | refine yb fun _ _ => ?_ | refine yc ?_ | refine qk_ ?_ | refine qb_ ?_ | refine qx_ ?_)
   refine s_ret ?_
   exact ⟨_, _, rfl, ⟨trivial, trivial⟩, rfl, rfl⟩
  ·
   cases h
 ·
  cases h
theorem compare_body : HasBody Tryz.prog 105 := ⟨_, Tryz.func105, rfl, by decide⟩
def encE (p : Vote × Vote) : AV := .agg (.cons (encV p.1) (.cons (encV p.2) .nil))
def zeroV : Vote := ⟨0, 0, 0, zeroH, 0, 0, List.replicate 16 0⟩
def idL (l : List Int) : List Int := intsOf 32 fun i => .v (.int .u8 (l.getD i 0))
def cmpV (x y : Vote) : Int := cmpI (idL x.id) (idL y.id)
def pairP (x y : Vote) : (Vote × Vote) × Int :=
 if (plainV x != 0) = true then ((zeroV, zeroV), plainV x) else
 if (plainV y != 0) = true then ((zeroV, zeroV), plainV y) else
 if (((((x.from_ != y.from_) || (x.height != y.height)) || (x.round != y.round)) || (x.kind != y.kind)) || (cmpV x y == 0)) = true then ((zeroV, zeroV), 110) else
 if decide (cmpV x y > 0) = true then ((y, x), 0) else ((x, y), 0)
def encR (r : (Vote × Vote) × Int) : AV := .tup (.cons (encE r.1) (.cons (.v (.int .i64 r.2)) .nil))
def pairPC (args : List AV) (_M : MemF) : Option (Prop × AV) := match args with
 | [a, b] => match decV a, decV b with
  | some x, some y => some (True, encR (pairP x y))
  | _, _ => none
 | _ => none
def ctC2 : CtL := [(77, plainC), (105, cmpC)]
theorem ctC2_ok : CtLOk Tryz.prog ctC2 := ⟨.fn plain_body plain_read, .fn compare_body compare_read, trivial⟩
theorem pairP_read : ReadFn Tryz.prog 40 pairPC := by
 intro args M q res h hq O w0 w hS
 unfold pairPC at h
 split at h
 ·
  split at h
  ·
   rename_i a b x y hx hy
   cases h
   have ha := decV_enc hx
   have hb := decV_enc hy
   subst ha hb
   refine ro_fn tabs2 ctC2_ok (cr := []) trivial Tryz.func40 rfl rfl (M := []) rfl trivial trivial ?_
   repeat (first | refine qs_ ?_ | refine qa_ ?_ | refine qo_ ?_ | refine qd_ ?_ | refine za ?_ | refine zb fun _ _ => ?_ | refine zc ?_ | refine ya ?_ | refine yb fun _ _ => ?_ | refine yc ?_ | refine qk_ ?_ | refine qb_ ?_ | refine qx_ ?_)
   rename_i b2 _ b3 _ b4 _
   refine s_loopW (α := Nat) [7, 8, 13, 14, 15, 16, 17, 18, 19, 20, 21, 22] [] (fun k => k ≤ 2 ∧ (0 < k → plainV x = 0) ∧ (1 < k → plainV y = 0)) (fun k => [(13, none, .v (.int .i64 k))]) (fun _ => []) (fun k => 2 - k) 0 ⟨Nat.zero_le _, fun h => by omega, fun h => by omega⟩ ?_ ?_
   ·
    exact leQ
   ·
    intro k ⟨hk, h0, h1⟩
    have hk3 : k = 0 ∨ k = 1 ∨ k = 2 := by omega
    rcases hk3 with rfl | rfl | rfl
    ·
     repeat (first | refine qs_ ?_ | refine qa_ ?_ | refine qo_ ?_ | refine qd_ ?_ | refine za ?_ | refine zb fun _ _ => ?_ | refine zc ?_ | refine ya ?_ | refine yb fun _ _ => ?_ | refine yc ?_ | refine qk_ ?_ | refine qb_ ?_ | refine qx_ ?_)
     refine s_cond (b := true) rfl (fun _ => ?_) (fun hb => by cases hb)
     repeat (first | refine qs_ ?_ | refine qa_ ?_ | refine qo_ ?_ | refine qd_ ?_ | refine za ?_ | refine zb fun _ _ => ?_ | refine zc ?_ | refine ya ?_ | refine yb fun _ _ => ?_ | refine yc ?_ | refine qk_ ?_ | refine qb_ ?_ | refine qx_ ?_)
     refine s_cond (b := (plainV x != 0)) rfl (fun h2 => ?_) (fun h2 => ?_)
     ·
      repeat (first | refine qs_ ?_ | refine qa_ ?_ | refine qo_ ?_ | refine qd_ ?_ | refine za ?_ | refine zb fun _ _ => ?_ | refine zc ?_ | refine ya ?_ | refine yb fun _ _ => ?_ | refine yc ?_ | refine qk_ ?_ | refine qb_ ?_ | refine qx_ ?_)
      refine s_ret ?_
      refine ⟨_, _, rfl, ⟨⟨⟨rfl, rfl, rfl, Nat.zero_lt_one⟩, rfl⟩, trivial, trivial⟩, rfl, ?_⟩
      simp only [pairP, h2]; rfl
     ·
      repeat (first | refine qs_ ?_ | refine qa_ ?_ | refine qo_ ?_ | refine qd_ ?_ | refine za ?_ | refine zb fun _ _ => ?_ | refine zc ?_ | refine ya ?_ | refine yb fun _ _ => ?_ | refine yc ?_ | refine qk_ ?_ | refine qb_ ?_ | refine qx_ ?_)
      refine ⟨1, ⟨by omega, fun _ => by simpa using h2, fun h => by omega⟩, by omega, ?_⟩
      exact leQ
    ·
     repeat (first | refine qs_ ?_ | refine qa_ ?_ | refine qo_ ?_ | refine qd_ ?_ | refine za ?_ | refine zb fun _ _ => ?_ | refine zc ?_ | refine ya ?_ | refine yb fun _ _ => ?_ | refine yc ?_ | refine qk_ ?_ | refine qb_ ?_ | refine qx_ ?_)
     refine s_cond (b := true) rfl (fun _ => ?_) (fun hb => by cases hb)
     repeat (first | refine qs_ ?_ | refine qa_ ?_ | refine qo_ ?_ | refine qd_ ?_ | refine za ?_ | refine zb fun _ _ => ?_ | refine zc ?_ | refine ya ?_ | refine yb fun _ _ => ?_ | refine yc ?_ | refine qk_ ?_ | refine qb_ ?_ | refine qx_ ?_)
     refine s_cond (b := (plainV y != 0)) rfl (fun h2 => ?_) (fun h2 => ?_)
     ·
      repeat (first | refine qs_ ?_ | refine qa_ ?_ | refine qo_ ?_ | refine qd_ ?_ | refine za ?_ | refine zb fun _ _ => ?_ | refine zc ?_ | refine ya ?_ | refine yb fun _ _ => ?_ | refine yc ?_ | refine qk_ ?_ | refine qb_ ?_ | refine qx_ ?_)
      refine s_ret ?_
      refine ⟨_, _, rfl, ⟨⟨⟨rfl, rfl, rfl, Nat.zero_lt_one⟩, rfl⟩, trivial, trivial⟩, rfl, ?_⟩
      have hx0 : (plainV x != 0) = false := by rw [h0 (by omega)]; rfl
      simp only [pairP, hx0, h2]; rfl
     ·
      repeat (first | refine qs_ ?_ | refine qa_ ?_ | refine qo_ ?_ | refine qd_ ?_ | refine za ?_ | refine zb fun _ _ => ?_ | refine zc ?_ | refine ya ?_ | refine yb fun _ _ => ?_ | refine yc ?_ | refine qk_ ?_ | refine qb_ ?_ | refine qx_ ?_)
      refine ⟨2, ⟨by omega, fun _ => h0 (by omega), fun _ => by simpa using h2⟩, by omega, ?_⟩
      exact leQ
    ·
     have hx0 : (plainV x != 0) = false := by rw [h0 (by omega)]; rfl
     have hy0 : (plainV y != 0) = false := by rw [h1 (by omega)]; rfl
     repeat (first | refine qs_ ?_ | refine qa_ ?_ | refine qo_ ?_ | refine qd_ ?_ | refine za ?_ | refine zb fun _ _ => ?_ | refine zc ?_ | refine ya ?_ | refine yb fun _ _ => ?_ | refine yc ?_ | refine qk_ ?_ | refine qb_ ?_ | refine qx_ ?_)
     refine s_cond (b := false) rfl (fun hb => by cases hb) (fun _ => ?_)
     repeat (first | refine qs_ ?_ | refine qa_ ?_ | refine qo_ ?_ | refine qd_ ?_ | refine za ?_ | refine zb fun _ _ => ?_ | refine zc ?_ | refine ya ?_ | refine yb fun _ _ => ?_ | refine yc ?_ | refine qk_ ?_ | refine qb_ ?_ | refine qx_ ?_)
     refine s_draw rD40_8 rM40_8 rX40_8 rN40_8 rfl rfl ?_
     repeat (first | refine qs_ ?_ | refine qa_ ?_ | refine qo_ ?_ | refine qd_ ?_ | refine za ?_ | refine zb fun _ _ => ?_ | refine zc ?_ | refine ya ?_ | refine yb fun _ _ => ?_ | refine yc ?_ | refine qk_ ?_ | refine qb_ ?_ | refine qx_ ?_)
     refine s_cond (b := (((((x.from_ != y.from_) || (x.height != y.height)) || (x.round != y.round)) || (x.kind != y.kind)) || (cmpV x y == 0))) rfl (fun h2 => ?_) (fun h2 => ?_)
     ·
      repeat (first | refine qs_ ?_ | refine qa_ ?_ | refine qo_ ?_ | refine qd_ ?_ | refine za ?_ | refine zb fun _ _ => ?_ | refine zc ?_ | refine ya ?_ | refine yb fun _ _ => ?_ | refine yc ?_ | refine qk_ ?_ | refine qb_ ?_ | refine qx_ ?_)
      refine s_ret ?_
      refine ⟨_, _, rfl, ⟨⟨⟨rfl, rfl, rfl, Nat.zero_lt_one⟩, rfl⟩, trivial, trivial⟩, rfl, ?_⟩
      simp only [pairP, hx0, hy0, h2]; rfl
     ·
      repeat (first | refine qs_ ?_ | refine qa_ ?_ | refine qo_ ?_ | refine qd_ ?_ | refine za ?_ | refine zb fun _ _ => ?_ | refine zc ?_ | refine ya ?_ | refine yb fun _ _ => ?_ | refine yc ?_ | refine qk_ ?_ | refine qb_ ?_ | refine qx_ ?_)
      refine s_cond (b := decide (cmpV x y > 0)) rfl (fun h3 => ?_) (fun h3 => ?_)
      all_goals
       repeat (first | refine qs_ ?_ | refine qa_ ?_ | refine qo_ ?_ | refine qd_ ?_ | refine za ?_ | refine zb fun _ _ => ?_ | refine zc ?_ | refine ya ?_ | refine yb fun _ _ => ?_ | refine yc ?_ | refine qk_ ?_ | refine qb_ ?_ | refine qx_ ?_)
       refine s_ret ?_
       refine ⟨_, _, rfl, ⟨⟨⟨rfl, rfl, rfl, Nat.zero_lt_one⟩, rfl⟩, trivial, trivial⟩, rfl, ?_⟩
       simp only [pairP, hx0, hy0, h2, h3]; rfl
  ·
   cases h
 ·
  cases h
theorem pairP_body : HasBody Tryz.prog 40 := ⟨_, Tryz.func40, rfl, by decide⟩
def npoolC (tag : Nat) (args : List AV) (_M : MemF) : Option Res := match args with
 | [] => some ⟨Nat × Nat, True, fun _ => True, fun x => .ptr ⟨tag, 0, x.1, 0, 1, 0, 0, 0, false⟩, [tag, tag + 1000], fun x => [.row x.1 121 1 1 (fun _ => .agg (.cons (.mp (tag + 1000) x.2) .nil)) 1, .mp true x.2 [] 0]⟩
 | _ => none
theorem npool_turn : TurnFn Tryz.prog 31 npoolC := by
 intro tag args M r h0 hok O w0 w hS
 unfold npoolC at h0
 split at h0
 ·
  cases h0
  refine turn_new tabs2 (ct := []) trivial (cr := []) trivial Tryz.func31 rfl rfl hS _ [] [3, 1] rfl trivial trivial (by decide) rfl ?_
  repeat (first | refine qs_ ?_ | refine qa_ ?_ | refine qo_ ?_ | refine qd_ ?_ | refine za ?_ | refine zb fun _ _ => ?_ | refine zc ?_ | refine ya ?_ | refine yb fun _ _ => ?_ | refine yc ?_ | refine qk_ ?_ | refine qb_ ?_ | refine qx_ ?_)
  rename_i b1 _ b3 _
  refine s_ret ?_
  exact ⟨_, _, rfl, ⟨trivial, trivial⟩, rfl, (b3, b1), trivial, rfl, ⟨⟨_, rfl, Blk.le_rowc (Nat.le_refl _) fun _ _ => ⟨rfl, rfl⟩⟩, fun _ h => h⟩, ⟨⟨_, rfl, Blk.le_refl _⟩, fun _ h => h⟩, trivial⟩
 ·
  cases h0
theorem npool_body : HasBody Tryz.prog 31 := ⟨_, Tryz.func31, rfl, by decide⟩
def poolL (M : MemF) (p : Pt) : Option (Prop × Option (Nat × List (AV × AV × Nat) × Nat)) := match ptrOf M p true 1 with
 | some (c, .agg (.cons (.mp n bm) .nil)) => match M n with
  | some (.mp _ b' l clk) => some (c ∧ b' = bm, some (bm, l, clk))
  | _ => none
 | some (c, .agg (.cons (.v (.map none)) .nil)) => some (c, none)
 | _ => none
theorem mp_ro {w : World} {m : Bool} {b : Nat} {l : List (AV × AV × Nat)} {clk : Nat} (h : (Blk.mp m b l clk).holds w) : (Blk.mp false b l clk).holds w := h
theorem pt_ro (p : Pt) (n es : Nat) : (AV.ptr p).val = (roP n p.b p.cell es).val := by rw [ptr_val, roP_val]
def pgoodC (args : List AV) (M : MemF) : Option (Prop × AV) := match args with
 | [.v (.pointer none)] => some (True, .v (.bool false))
 | [.ptr p] => match poolL M p with
  | some (c, some _) => some (c, .v (.bool true))
  | some (c, none) => some (c, .v (.bool false))
  | none => none
 | _ => none
theorem poolL_some {O : Nat → Prop} {w0 w : World} {M : MemF} (hS : Sat O w0 M w) {p : Pt} {c : Prop} {bm : Nat} {l : List (AV × AV × Nat)} {clk : Nat} (h : poolL M p = some (c, some (bm, l, clk))) (hc : c) :
  (roB (some (p.b, p.cell)) 1 1 fun _ => .agg (.cons (.mp 901 bm) .nil)).holds w ∧ (Blk.mp false bm l clk).holds w := by
 unfold poolL at h
 split at h
 ·
  rename_i c0 n bm' hp
  split at h
  ·
   rename_i mine b' l' clk' hm
   cases h
   obtain ⟨h1, rfl⟩ := hc
   have hR : Reads w p.b p.cell 1 1 fun _ => .agg (.cons (.mp n b') .nil) := ptrOf_spec (g := true) hS hp h1
   exact ⟨roB_holds fun _ => ⟨_, _, rfl, fun i hi => hR i hi⟩, mp_ro (hS.holds _ _ hm)⟩
  ·
   cases h
 ·
  cases h
 ·
  cases h
theorem poolL_none {O : Nat → Prop} {w0 w : World} {M : MemF} (hS : Sat O w0 M w) {p : Pt} {c : Prop} (h : poolL M p = some (c, none)) (hc : c) :
  (roB (some (p.b, p.cell)) 1 1 fun _ => .agg (.cons (.v (.map none)) .nil)).holds w := by
 unfold poolL at h
 split at h
 ·
  split at h <;> cases h
 ·
  rename_i c0 hp
  cases h
  have hR : Reads w p.b p.cell 1 1 fun _ => .agg (.cons (.v (.map none)) .nil) := ptrOf_spec (g := true) hS hp hc
  exact roB_holds fun _ => ⟨_, _, rfl, hR⟩
 ·
  cases h
theorem pgood_read : ReadFn Tryz.prog 96 pgoodC := by
 intro args M q res h hq O w0 w hS
 unfold pgoodC at h
 split at h
 ·
  cases h
  refine ro_fn tabs2 (ct := []) trivial (cr := []) trivial Tryz.func96 rfl rfl (M := []) rfl trivial trivial ?_
  repeat (first | refine qs_ ?_ | refine qa_ ?_ | refine qo_ ?_ | refine qd_ ?_ | refine za ?_ | refine zb fun _ _ => ?_ | refine zc ?_ | refine ya ?_ | refine yb fun _ _ => ?_ | refine yc ?_ | refine qk_ ?_ | refine qb_ ?_ | refine qx_ ?_)
  refine s_ret ?_
  exact ⟨_, _, rfl, ⟨trivial, trivial⟩, rfl, rfl⟩
 ·
  rename_i p
  split at h
  ·
   rename_i c x hp
   cases h
   obtain ⟨bm, l, clk⟩ := x
   obtain ⟨h1, h2⟩ := poolL_some hS hp hq
   rw [show [AV.ptr p].map AV.val = [roP 900 p.b p.cell 1].map AV.val by simp only [List.map_cons, List.map_nil, pt_ro p 900 1]]
   refine ro_fn tabs2 (ct := []) trivial (cr := []) trivial Tryz.func96 rfl rfl (M := [(900, roB (some (p.b, p.cell)) 1 1 fun _ => .agg (.cons (.mp 901 bm) .nil)), (901, .mp false bm l clk)]) rfl ⟨roB_noOwn, fun _ h => h, trivial⟩ ⟨h1, h2, trivial⟩ ?_
   repeat (first | refine qs_ ?_ | refine qa_ ?_ | refine qo_ ?_ | refine qd_ ?_ | refine za ?_ | refine zb fun _ _ => ?_ | refine zc ?_ | refine ya ?_ | refine yb fun _ _ => ?_ | refine yc ?_ | refine qk_ ?_ | refine qb_ ?_ | refine qx_ ?_)
   refine s_ret ?_
   exact ⟨_, _, rfl, ⟨trivial, trivial⟩, rfl, rfl⟩
  ·
   rename_i c hp
   cases h
   have h1 := poolL_none hS hp hq
   rw [show [AV.ptr p].map AV.val = [roP 900 p.b p.cell 1].map AV.val by simp only [List.map_cons, List.map_nil, pt_ro p 900 1]]
   refine ro_fn tabs2 (ct := []) trivial (cr := []) trivial Tryz.func96 rfl rfl (M := [(900, roB (some (p.b, p.cell)) 1 1 fun _ => .agg (.cons (.v (.map none)) .nil))]) rfl ⟨roB_noOwn, trivial⟩ ⟨h1, trivial⟩ ?_
   repeat (first | refine qs_ ?_ | refine qa_ ?_ | refine qo_ ?_ | refine qd_ ?_ | refine za ?_ | refine zb fun _ _ => ?_ | refine zc ?_ | refine ya ?_ | refine yb fun _ _ => ?_ | refine yc ?_ | refine qk_ ?_ | refine qb_ ?_ | refine qx_ ?_)
   refine s_ret ?_
   exact ⟨_, _, rfl, ⟨trivial, trivial⟩, rfl, rfl⟩
  ·
   cases h
 ·
  cases h
theorem pgood_body : HasBody Tryz.prog 96 := ⟨_, Tryz.func96, rfl, by decide⟩
def plenC (args : List AV) (M : MemF) : Option (Prop × AV) := match args with
 | [.v (.pointer none)] => some (True, .v (.int .i64 0))
 | [.ptr p] => match poolL M p with
  | some (c, some (_, l, _)) => some (c, .v (.int .i64 l.length))
  | some (c, none) => some (c, .v (.int .i64 0))
  | none => none
 | _ => none
def ctPg : CtL := [(96, pgoodC)]
theorem ctPg_ok : CtLOk Tryz.prog ctPg := ⟨.fn pgood_body pgood_read, trivial⟩
theorem plen_read : ReadFn Tryz.prog 32 plenC := by
 intro args M q res h hq O w0 w hS
 unfold plenC at h
 split at h
 ·
  cases h
  refine ro_fn tabs2 ctPg_ok (cr := []) trivial Tryz.func32 rfl rfl (M := []) rfl trivial trivial ?_
  repeat (first | refine qs_ ?_ | refine qa_ ?_ | refine qo_ ?_ | refine qd_ ?_ | refine za ?_ | refine zb fun _ _ => ?_ | refine zc ?_ | refine ya ?_ | refine yb fun _ _ => ?_ | refine yc ?_ | refine qk_ ?_ | refine qb_ ?_ | refine qx_ ?_)
  refine s_cond (b := true) rfl (fun _ => ?_) (fun h => by cases h)
  repeat (first | refine qs_ ?_ | refine qa_ ?_ | refine qo_ ?_ | refine qd_ ?_ | refine za ?_ | refine zb fun _ _ => ?_ | refine zc ?_ | refine ya ?_ | refine yb fun _ _ => ?_ | refine yc ?_ | refine qk_ ?_ | refine qb_ ?_ | refine qx_ ?_)
  refine s_ret ?_
  exact ⟨_, _, rfl, ⟨trivial, trivial⟩, rfl, rfl⟩
 ·
  rename_i p
  split at h
  ·
   rename_i c bm l clk hp
   cases h
   obtain ⟨h1, h2⟩ := poolL_some hS hp hq
   rw [show [AV.ptr p].map AV.val = [roP 900 p.b p.cell 1].map AV.val by simp only [List.map_cons, List.map_nil, pt_ro p 900 1]]
   refine ro_fn tabs2 ctPg_ok (cr := []) trivial Tryz.func32 rfl rfl (M := [(900, roB (some (p.b, p.cell)) 1 1 fun _ => .agg (.cons (.mp 901 bm) .nil)), (901, .mp false bm l clk)]) rfl ⟨roB_noOwn, fun _ h => h, trivial⟩ ⟨h1, h2, trivial⟩ ?_
   repeat (first | refine qs_ ?_ | refine qa_ ?_ | refine qo_ ?_ | refine qd_ ?_ | refine za ?_ | refine zb fun _ _ => ?_ | refine zc ?_ | refine ya ?_ | refine yb fun _ _ => ?_ | refine yc ?_ | refine qk_ ?_ | refine qb_ ?_ | refine qx_ ?_)
   refine s_cond (b := false) rfl (fun h => by cases h) (fun _ => ?_)
   repeat (first | refine qs_ ?_ | refine qa_ ?_ | refine qo_ ?_ | refine qd_ ?_ | refine za ?_ | refine zb fun _ _ => ?_ | refine zc ?_ | refine ya ?_ | refine yb fun _ _ => ?_ | refine yc ?_ | refine qk_ ?_ | refine qb_ ?_ | refine qx_ ?_)
   refine s_ret ?_
   exact ⟨_, _, rfl, ⟨trivial, trivial⟩, rfl, rfl⟩
  ·
   rename_i c hp
   cases h
   have h1 := poolL_none hS hp hq
   rw [show [AV.ptr p].map AV.val = [roP 900 p.b p.cell 1].map AV.val by simp only [List.map_cons, List.map_nil, pt_ro p 900 1]]
   refine ro_fn tabs2 ctPg_ok (cr := []) trivial Tryz.func32 rfl rfl (M := [(900, roB (some (p.b, p.cell)) 1 1 fun _ => .agg (.cons (.v (.map none)) .nil))]) rfl ⟨roB_noOwn, trivial⟩ ⟨h1, trivial⟩ ?_
   repeat (first | refine qs_ ?_ | refine qa_ ?_ | refine qo_ ?_ | refine qd_ ?_ | refine za ?_ | refine zb fun _ _ => ?_ | refine zc ?_ | refine ya ?_ | refine yb fun _ _ => ?_ | refine yc ?_ | refine qk_ ?_ | refine qb_ ?_ | refine qx_ ?_)
   refine s_cond (b := true) rfl (fun _ => ?_) (fun h => by cases h)
   repeat (first | refine qs_ ?_ | refine qa_ ?_ | refine qo_ ?_ | refine qd_ ?_ | refine za ?_ | refine zb fun _ _ => ?_ | refine zc ?_ | refine ya ?_ | refine yb fun _ _ => ?_ | refine yc ?_ | refine qk_ ?_ | refine qb_ ?_ | refine qx_ ?_)
   refine s_ret ?_
   exact ⟨_, _, rfl, ⟨trivial, trivial⟩, rfl, rfl⟩
  ·
   cases h
 ·
  cases h
theorem plen_body : HasBody Tryz.prog 32 := ⟨_, Tryz.func32, rfl, by decide⟩
def aliveC (args : List AV) (_M : MemF) : Option (Prop × AV) := match args with
 | [] => some (True, .v (.bool true))
 | _ => none
def ctAl : CtL := [(40, pairPC), (32, plenC)]
theorem ctAl_ok : CtLOk Tryz.prog ctAl := ⟨.fn pairP_body pairP_read, .fn plen_body plen_read, trivial⟩
def crAl : CrL := [(31, npoolC)]
theorem crAl_ok : CrLOk Tryz.prog crAl := ⟨⟨npool_body, npool_turn⟩, trivial⟩
def hashL (x : Int) : List Int := lset 32 (List.replicate 32 0) 0 x
def vA : Vote := ⟨1, 5, 0, hashL 2, 0, 3, List.replicate 16 0⟩
def vB : Vote := ⟨1, 5, 0, hashL 1, 0, 3, List.replicate 16 0⟩
theorem pair_alive : pairP vA vB = ((vB, vA), 0) := by
 have h1 : plainV vA = 0 := by decide
 have h2 : plainV vB = 0 := by decide
 have h3 : cmpV vA vB = 1 := by decide
 unfold pairP
 rw [h1, h2, h3]
 rfl
theorem alive_read : ReadFn Tryz.prog 9 aliveC := by
 intro args M q res h hq O w0 w hS
 unfold aliveC at h
 split at h
 ·
  cases h
  refine ro_fn tabs2 ctAl_ok crAl_ok Tryz.func9 rfl rfl (M := []) rfl trivial trivial ?_
  repeat (first | refine qs_ ?_ | refine qa_ ?_ | refine qo_ ?_ | refine qd_ ?_ | refine za ?_ | refine zb fun _ _ => ?_ | refine zc ?_ | refine ya ?_ | refine yb fun _ _ => ?_ | refine yc ?_ | refine qk_ ?_ | refine qb_ ?_ | refine qx_ ?_)
  rename_i b1 _ b2 _ b3 _
  refine o_le (tm' := [(4, none, .v (.int .i64 0)), (3, none, .ptr ⟨3, 0, b3, 0, 106, 0, 0, 0, false⟩), (2, none, .ptr ⟨2, 0, b2, 0, 53, 0, 0, 0, false⟩), (1, none, .ptr ⟨1, 0, b1, 0, 53, 0, 0, 0, false⟩)]) (M' := [(3, .row b3 52 106 1 (fun _ => encE (vB, vA)) 1), (2, .row b2 43 53 1 (fun _ => encV vB) 1), (1, .row b1 43 53 1 (fun _ => encV vA) 1)]) ?_ ?_
  ·
   refine Le.of ?leT ?leM (dfs_nil rfl rfl)
   case leT => (refine And.intro (by show some (none, AV.v (.int .i64 (pairP vA vB).2)) = _; rw [pair_alive]) ?_); repeat (first | exact trivial | refine And.intro (by exact rfl) ?_)
   case leM => (refine And.intro ⟨_, rfl, Blk.le_row (Nat.le_refl _) fun _ _ => (by show encE (vB, vA) = encE (pairP vA vB).1; rw [pair_alive])⟩ ?_); repeat (first | exact trivial | refine And.intro ⟨_, rfl, Blk.le_refl _⟩ ?_)
  refine o_res rfl ⟨trivial, trivial⟩ ⟨(0, 0), trivial⟩ rfl (fun x _ => ?_)
  repeat (first | refine qs_ ?_ | refine qa_ ?_ | refine qo_ ?_ | refine qd_ ?_ | refine za ?_ | refine zb fun _ _ => ?_ | refine zc ?_ | refine ya ?_ | refine yb fun _ _ => ?_ | refine yc ?_ | refine qk_ ?_ | refine qb_ ?_ | refine qx_ ?_)
  refine s_ret ?_
  exact ⟨_, _, rfl, ⟨trivial, trivial⟩, rfl, rfl⟩
 ·
  cases h
theorem alive_body : HasBody Tryz.prog 9 := ⟨_, Tryz.func9, rfl, by decide⟩
def crPu : CrL := [(188, putC)]
theorem crPu_ok : CrLOk Tryz.prog crPu := ⟨⟨put_body, put_turn⟩, trivial⟩
theorem wr_at (b : Nat) (l : List Int) (S : Nat → Prop) (n : Nat) : Blk.sep (.nums b l) S (fun w => ∃ H : Frag, (∀ k, S k ↔ H k ≠ none) ∧ IsWr b l H ∧ H.on w) = wrB b l S ∧ ((⟨n, 0, b, 0, 3, 0, 0, 0, false⟩ : Pt).b = b ∧ (⟨n, 0, b, 0, 3, 0, 0, 0, false⟩ : Pt).o0 = 0 ∧ (⟨n, 0, b, 0, 3, 0, 0, 0, false⟩ : Pt).es = 3 ∧ (⟨n, 0, b, 0, 3, 0, 0, 0, false⟩ : Pt).idx = 0 ∧ (⟨n, 0, b, 0, 3, 0, 0, 0, false⟩ : Pt).off = 0 ∧ (⟨n, 0, b, 0, 3, 0, 0, 0, false⟩ : Pt).j = 0) := ⟨rfl, rfl, rfl, rfl, rfl, rfl, rfl⟩
theorem one_int1 (x : Int) (t : AV) : ∀ i, i < 1 → (AV.cons (.v (.int .u8 x)) t).nthA (i + 0) = .v (.int .u8 ((AV.cons (.v (.int .u8 x)) t).nthA (i + 0)).int1) := by
 intro i hi
 have : i = 0 := by omega
 subst this; rfl
def nwC (tag : Nat) (args : List AV) (_M : MemF) : Option Res := match args with
 | [] => some ⟨Nat × (Nat → Prop), True, fun _ => True, fun x => .ptr ⟨tag, 0, x.1, 0, 3, 0, 0, 0, false⟩, [tag], fun x => [wrB x.1 [] x.2]⟩
 | _ => none
theorem nw_turn : TurnFn Tryz.prog 152 nwC := by
 intro tag args M r h0 hok O w0 w hS
 unfold nwC at h0
 split at h0
 ·
  cases h0
  refine turn_new tabs2 (ct := []) trivial (cr := []) trivial Tryz.func152 rfl rfl hS _ [] [2] rfl trivial trivial (by decide) rfl (s_post ?_)
  repeat (first | refine qs_ ?_ | refine qa_ ?_ | refine qo_ ?_ | refine qd_ ?_ | refine za ?_ | refine zb fun _ _ => ?_ | refine zc ?_ | refine ya ?_ | refine yb fun _ _ => ?_ | refine yc ?_ | refine qk_ ?_ | refine qb_ ?_ | refine qx_ ?_)
  rename_i b2 _
  refine s_ret ?_
  refine ⟨_, _, le_trans (le_lay (n := 902) (B := .vrow none 5 1 0 (vl []) 0) rfl (fun k h => by cases h) (fun k h => h) fun w => ⟨rfl, rfl⟩) (le_close (n := 2) (.nums b2 []) (IsWr b2 []) [2, 902] [.row b2 312 3 1 (fun _ => wAV none 0 0) 1, .vrow none 5 1 0 (vl []) 0] rfl (by decide) ⟨⟨⟨_, rfl, Blk.le_rowc (Nat.le_refl _) fun _ _ => ⟨rfl, rfl⟩⟩, fun _ h => h⟩, ⟨⟨_, rfl, Blk.le_refl _⟩, fun _ h => h⟩, trivial⟩ (fun w hh hp => wr_closed (l := []) hh hp)), ?_⟩
  exact ⟨_, _, rfl, ⟨trivial, trivial⟩, rfl, (b2, _), trivial, rfl, ⟨⟨_, rfl, Blk.le_refl _⟩, fun _ h => h⟩, trivial⟩
 ·
  cases h0
theorem nw_body : HasBody Tryz.prog 152 := ⟨_, Tryz.func152, rfl, by decide⟩
def byteC (_tag : Nat) (args : List AV) (M : MemF) : Option Res := match args with
 | [.ptr p, .v (.int .u8 x)] => match wrOf M p with
  | some (c0, b, l, _) => some ⟨Nat → Prop, c0 ∧ l.length ≤ 900000, fun _ => True, fun _ => .tup .nil, [p.n], fun S' => [wrB b (l ++ [x]) S']⟩
  | none => none
 | _ => none
theorem byte_turn : TurnFn Tryz.prog 153 byteC := by
 intro tag args M r h0 hok O w0 w hS
 unfold byteC at h0
 split at h0
 ·
  rename_i p x
  split at h0
  ·
   rename_i c0 b l S hp
   cases h0
   obtain ⟨hc0, hll⟩ := hok
   obtain ⟨hM, hv⟩ := wrOf_spec hp hc0
   rw [show [AV.ptr p, .v (.int .u8 x)].map AV.val = [AV.ptr ⟨900, 0, b, 0, 3, 0, 0, 0, false⟩, .v (.int .u8 x)].map AV.val by simp only [List.map_cons, List.map_nil, hv 900]]
   refine turn_one tabs2 (ct := []) trivial crPu_ok Tryz.func153 rfl rfl hS _ hM (B1 := wrB b l S) [] rfl rfl (hS.holds _ _ hM) (fun _ h => h) (fun _ h => h) trivial trivial trivial ?_
   repeat (first | refine qs_ ?_ | refine qa_ ?_ | refine qo_ ?_ | refine qd_ ?_ | refine za ?_ | refine zb fun _ _ => ?_ | refine zc ?_ | refine ya ?_ | refine yb fun _ _ => ?_ | refine yc ?_ | refine qk_ ?_ | refine qb_ ?_ | refine qx_ ?_)
   refine o_new rfl rfl rfl ⟨fun _ => False, trivial⟩ ⟨trivial, wr_at _ _ _ _, ⟨⟨rfl, rfl, Nat.le_refl _⟩, fun _ => rfl, by decide, one_int1 x _⟩, by omega, rfl⟩ (fun S' _ => ?_)
   repeat (first | refine qs_ ?_ | refine qa_ ?_ | refine qo_ ?_ | refine qd_ ?_ | refine za ?_ | refine zb fun _ _ => ?_ | refine zc ?_ | refine ya ?_ | refine yb fun _ _ => ?_ | refine yc ?_ | refine qk_ ?_ | refine qb_ ?_ | refine qx_ ?_)
   exact ⟨_, _, rfl, trivial, rfl, S', trivial, rfl, ⟨⟨_, rfl, Blk.le_refl _⟩, fun _ h => h⟩, trivial⟩
  ·
   cases h0
 ·
  cases h0
theorem byte_body : HasBody Tryz.prog 153 := ⟨_, Tryz.func153, rfl, by decide⟩
def rawC (_tag : Nat) (args : List AV) (M : MemF) : Option Res := match args with
 | [.ptr p, X] => match wrOf M p, seqOf M X with
  | some (c0, b, l, _), some (c, es, n, fx) => some ⟨Nat → Prop, c0 ∧ (c ∧ (n ≠ 0 → es = 1) ∧ n ≤ 1000000 ∧ ∀ i, i < n → fx i = .v (.int .u8 (fx i).int1)) ∧ l.length ≤ 900000 ∧ tagNe p.n X = true, fun _ => True, fun _ => .tup .nil, [p.n], fun S' => [wrB b (l ++ lof (fun i => (fx i).int1) n) S']⟩
  | _, _ => none
 | _ => none
theorem raw_turn : TurnFn Tryz.prog 191 rawC := by
 intro tag args M r h0 hok O w0 w hS
 unfold rawC at h0
 split at h0
 ·
  rename_i p X
  split at h0
  ·
   rename_i c0 b l S c es n fx hp hsx
   cases h0
   obtain ⟨hc0, ⟨q1, q2, q3, q4⟩, hll, htag⟩ := hok
   obtain ⟨hM, hv⟩ := wrOf_spec hp hc0
   obtain ⟨base, cap, hvx, hro⟩ := bytes_ro hS hsx q1 q2 q4
   obtain ⟨f, hf0⟩ : ∃ f, f = fun i => (fx i).int1 := ⟨_, rfl⟩
   rw [← hf0]
   have hro : (roB base 1 n fun i => .v (.int .u8 (f i))).holds w := by rw [hf0]; exact hro
   have hap : ∀ j, (roB base 1 n fun i => .v (.int .u8 (f i))).reads j → ¬ (wrB b l S).own j := ro_apart hS hsx q1 q2 hM htag hvx
   rw [show [AV.ptr p, X].map AV.val = [AV.ptr ⟨900, 0, b, 0, 3, 0, 0, 0, false⟩, roS 901 base 1 n cap].map AV.val by simp only [List.map_cons, List.map_nil, hv 900, hvx, roS_val]]
   refine turn_one tabs2 (ct := []) trivial crPu_ok Tryz.func191 rfl rfl hS _ hM (B1 := wrB b l S) [(901, roB base 1 n fun i => .v (.int .u8 (f i)))] rfl rfl (hS.holds _ _ hM) (fun _ h => h) (fun _ h => h) ⟨hro, trivial⟩ ⟨roB_noOwn, trivial⟩ ⟨hap, trivial⟩ ?_
   repeat (first | refine qs_ ?_ | refine qa_ ?_ | refine qo_ ?_ | refine qd_ ?_ | refine za ?_ | refine zb fun _ _ => ?_ | refine zc ?_ | refine ya ?_ | refine yb fun _ _ => ?_ | refine yc ?_ | refine qk_ ?_ | refine qb_ ?_ | refine qx_ ?_)
   exact ⟨_, _, rfl, trivial, rfl, _, trivial, rfl, ⟨⟨_, rfl, Blk.le_refl _⟩, fun _ h => h⟩, trivial⟩
  ·
   cases h0
 ·
  cases h0
theorem raw_body : HasBody Tryz.prog 191 := ⟨_, Tryz.func191, rfl, by decide⟩
def phC (_tag : Nat) (args : List AV) (M : MemF) : Option Res := match args with
 | [.ptr p, .ints .u8 32 h] => match wrOf M p with
  | some (c0, b, l, _) => some ⟨Nat → Prop, c0 ∧ l.length ≤ 900000, fun _ => True, fun _ => .tup .nil, [p.n], fun S' => [wrB b (l ++ idL h) S']⟩
  | _ => none
 | _ => none
def crRa : CrL := [(191, rawC)]
theorem crRa_ok : CrLOk Tryz.prog crRa := ⟨⟨raw_body, raw_turn⟩, trivial⟩
theorem ph_turn : TurnFn Tryz.prog 157 phC := by
 intro tag args M r h0 hok O w0 w hS
 unfold phC at h0
 split at h0
 ·
  rename_i p h
  split at h0
  ·
   rename_i c0 b l S hp
   cases h0
   obtain ⟨hc0, hll⟩ := hok
   obtain ⟨hM, hv⟩ := wrOf_spec hp hc0
   rw [show [AV.ptr p, .ints .u8 32 h].map AV.val = [AV.ptr ⟨900, 0, b, 0, 3, 0, 0, 0, false⟩, .ints .u8 32 h].map AV.val by simp only [List.map_cons, List.map_nil, hv 900]]
   refine turn_one tabs2 (ct := []) trivial crRa_ok Tryz.func157 rfl rfl hS _ hM (B1 := wrB b l S) [] rfl rfl (hS.holds _ _ hM) (fun _ h => h) (fun _ h => h) trivial trivial trivial ?_
   repeat (first | refine qs_ ?_ | refine qa_ ?_ | refine qo_ ?_ | refine qd_ ?_ | refine za ?_ | refine zb fun _ _ => ?_ | refine zc ?_ | refine ya ?_ | refine yb fun _ _ => ?_ | refine yc ?_ | refine qk_ ?_ | refine qb_ ?_ | refine qx_ ?_)
   exact ⟨_, _, rfl, trivial, rfl, _, trivial, rfl, ⟨⟨_, rfl, Blk.le_refl _⟩, fun _ h => h⟩, trivial⟩
  ·
   cases h0
 ·
  cases h0
theorem ph_body : HasBody Tryz.prog 157 := ⟨_, Tryz.func157, rfl, by decide⟩
def orB (v : Int) : Int := IntKind.u8.wrap (BitVec.ofInt 8 (IntKind.u8.wrap v) ||| BitVec.ofInt 8 128).toNat
def shr7 (v : Int) : Int := v.fdiv (2 ^ min (7 : Int).toNat 64)
theorem shr7_eq (v : Int) : shr7 v = v / 128 := by
 show v.fdiv (2 ^ 7) = _
 rw [show (2 : Int) ^ 7 = 128 from rfl, Int.fdiv_eq_ediv_of_nonneg v (by decide)]
def varP : Nat → Int → List Int
 | 0, v => [IntKind.u8.wrap v]
 | n + 1, v => if decide (v ≥ 128) = true then orB v :: varP n (shr7 v) else [IntKind.u8.wrap v]
def varL (v : Int) : List Int := varP 9 v
theorem varP_length : ∀ n v, (varP n v).length ≤ n + 1
 | 0, v => Nat.le_refl _
 | n + 1, v => by
  unfold varP
  split
  ·
   have := varP_length n (shr7 v); simp; omega
  ·
   simp
theorem varP_small {n : Nat} {v : Int} (h : ¬ v ≥ 128) : varP n v = [IntKind.u8.wrap v] := by
 cases n with
 | zero => rfl
 | succ n => unfold varP; rw [if_neg (by simpa using h)]
def varC (_tag : Nat) (args : List AV) (M : MemF) : Option Res := match args with
 | [.ptr p, .v (.int .u64 v)] => match wrOf M p with
  | some (c0, b, l, _) => some ⟨Nat → Prop, c0 ∧ l.length ≤ 800000 ∧ 0 ≤ v ∧ v < 18446744073709551616, fun _ => True, fun _ => .tup .nil, [p.n], fun S' => [wrB b (l ++ varL v) S']⟩
  | none => none
 | _ => none
theorem var_turn : TurnFn Tryz.prog 156 varC := by
 intro tag args M r h0 hok O w0 w hS
 unfold varC at h0
 split at h0
 ·
  rename_i p v
  split at h0
  ·
   rename_i c0 b l S hp
   cases h0
   obtain ⟨hc0, hll, hv0, hv1⟩ := hok
   obtain ⟨hM, hv⟩ := wrOf_spec hp hc0
   rw [show [AV.ptr p, .v (.int .u64 v)].map AV.val = [AV.ptr ⟨900, 0, b, 0, 3, 0, 0, 0, false⟩, .v (.int .u64 v)].map AV.val by simp only [List.map_cons, List.map_nil, hv 900]]
   refine turn_one tabs2 (ct := []) trivial crPu_ok Tryz.func156 rfl rfl hS _ hM (B1 := wrB b l S) [] rfl rfl (hS.holds _ _ hM) (fun _ h => h) (fun _ h => h) trivial trivial trivial ?_
   repeat (first | refine qs_ ?_ | refine qa_ ?_ | refine qo_ ?_ | refine qd_ ?_ | refine za ?_ | refine zb fun _ _ => ?_ | refine zc ?_ | refine ya ?_ | refine yb fun _ _ => ?_ | refine yc ?_ | refine qk_ ?_ | refine qb_ ?_ | refine qx_ ?_)
   refine s_loopW (α := Nat × Int × List Int × (Nat → Prop)) [1, 4, 5, 6, 7, 8, 9, 10, 11, 12, 13] [900] (fun x => 0 ≤ x.2.1 ∧ x.2.1 < 128 ^ (x.1 + 1) ∧ x.2.2.1 ++ varP x.1 x.2.1 = l ++ varL v ∧ x.2.2.1.length + x.1 ≤ 800009) (fun x => [(1, none, .v (.int .u64 x.2.1))]) (fun x => [(900, wrB b x.2.2.1 x.2.2.2)]) (fun x => x.1) (9, v, l, S) ⟨hv0, by dsimp only; omega, rfl, by dsimp only; omega⟩ ?_ ?_
   ·
    exact leQ
   ·
    intro ⟨n, v2, l2, S2⟩ ⟨g1, g2, g3, g4⟩
    dsimp only at g1 g2 g3 g4
    repeat (first | refine qs_ ?_ | refine qa_ ?_ | refine qo_ ?_ | refine qd_ ?_ | refine za ?_ | refine zb fun _ _ => ?_ | refine zc ?_ | refine ya ?_ | refine yb fun _ _ => ?_ | refine yc ?_ | refine qk_ ?_ | refine qb_ ?_ | refine qx_ ?_)
    refine s_cond (b := decide (v2 ≥ 128)) rfl (fun hb => ?_) (fun hb => ?_)
    ·
     have hge : v2 ≥ 128 := of_decide_eq_true hb
     obtain ⟨n, rfl⟩ : ∃ m, n = m + 1 := by
      cases n with
      | zero => omega
      | succ m => exact ⟨m, rfl⟩
     rw [varP, if_pos hb] at g3
     repeat (first | refine qs_ ?_ | refine qa_ ?_ | refine qo_ ?_ | refine qd_ ?_ | refine za ?_ | refine zb fun _ _ => ?_ | refine zc ?_ | refine ya ?_ | refine yb fun _ _ => ?_ | refine yc ?_ | refine qk_ ?_ | refine qb_ ?_ | refine qx_ ?_)
     refine o_new rfl rfl rfl ⟨fun _ => False, trivial⟩ ⟨trivial, wr_at _ _ _ _, ⟨⟨rfl, rfl, Nat.le_refl _⟩, fun _ => rfl, by decide, one_int1 _ _⟩, (by dsimp only; omega), rfl⟩ (fun S' _ => ?_)
     repeat (first | refine qs_ ?_ | refine qa_ ?_ | refine qo_ ?_ | refine qd_ ?_ | refine za ?_ | refine zb fun _ _ => ?_ | refine zc ?_ | refine ya ?_ | refine yb fun _ _ => ?_ | refine yc ?_ | refine qk_ ?_ | refine qb_ ?_ | refine qx_ ?_)
     have hsh := shr7_eq v2
     have hpow : (128 : Int) ^ (n + 1 + 1) = 128 ^ (n + 1) * 128 := Int.pow_succ _ _
     refine ⟨(n, shr7 v2, l2 ++ [orB v2], S'), ⟨by dsimp only; omega, by dsimp only; omega, by dsimp only; rw [List.append_assoc]; exact g3, by dsimp only; rw [List.length_append]; simp; omega⟩, by dsimp only; omega, ?_⟩
     exact leQ
    ·
     have hlt : ¬ v2 ≥ 128 := of_decide_eq_false hb
     rw [varP_small hlt] at g3
     repeat (first | refine qs_ ?_ | refine qa_ ?_ | refine qo_ ?_ | refine qd_ ?_ | refine za ?_ | refine zb fun _ _ => ?_ | refine zc ?_ | refine ya ?_ | refine yb fun _ _ => ?_ | refine yc ?_ | refine qk_ ?_ | refine qb_ ?_ | refine qx_ ?_)
     refine o_new rfl rfl rfl ⟨fun _ => False, trivial⟩ ⟨trivial, wr_at _ _ _ _, ⟨⟨rfl, rfl, Nat.le_refl _⟩, fun _ => rfl, by decide, one_int1 _ _⟩, (by dsimp only; omega), rfl⟩ (fun S' _ => ?_)
     repeat (first | refine qs_ ?_ | refine qa_ ?_ | refine qo_ ?_ | refine qd_ ?_ | refine za ?_ | refine zb fun _ _ => ?_ | refine zc ?_ | refine ya ?_ | refine yb fun _ _ => ?_ | refine yc ?_ | refine qk_ ?_ | refine qb_ ?_ | refine qx_ ?_)
     refine ⟨_, _, rfl, trivial, rfl, S', trivial, rfl, ⟨⟨_, rfl, ?_⟩, fun _ h => h⟩, trivial⟩
     rw [← g3]
     exact Blk.le_refl _
  ·
   cases h0
 ·
  cases h0
theorem var_body : HasBody Tryz.prog 156 := ⟨_, Tryz.func156, rfl, by decide⟩
def strL (s : ByteArray) : List Int := s.data.toList.map fun x => (x.toNat : Int)
theorem strL_length (s : ByteArray) : (strL s).length = s.size := by unfold strL; simp
def textL (s : ByteArray) : List Int := varL (s.size : Int) ++ strL s
def ptC (_tag : Nat) (args : List AV) (M : MemF) : Option Res := match args with
 | [.ptr p, .v (.string s)] => match wrOf M p with
  | some (c0, b, l, _) => some ⟨Nat → Prop, c0 ∧ l.length ≤ 700000 ∧ s.size ≤ 100000, fun _ => True, fun _ => .tup .nil, [p.n], fun S' => [wrB b (l ++ textL s) S']⟩
  | none => none
 | _ => none
def crVa : CrL := [(156, varC)]
theorem crVa_ok : CrLOk Tryz.prog crVa := ⟨⟨var_body, var_turn⟩, trivial⟩
theorem pt_turn : TurnFn Tryz.prog 189 ptC := by
 intro tag args M r h0 hok O w0 w hS
 unfold ptC at h0
 split at h0
 ·
  rename_i p s
  split at h0
  ·
   rename_i c0 b l S hp
   cases h0
   obtain ⟨hc0, hll, hsz⟩ := hok
   obtain ⟨hM, hv⟩ := wrOf_spec hp hc0
   rw [show [AV.ptr p, .v (.string s)].map AV.val = [AV.ptr ⟨900, 0, b, 0, 3, 0, 0, 0, false⟩, .v (.string s)].map AV.val by simp only [List.map_cons, List.map_nil, hv 900]]
   refine turn_one tabs2 ctLi_ok crVa_ok Tryz.func189 rfl rfl hS _ hM (B1 := wrB b l S) [] rfl rfl (hS.holds _ _ hM) (fun _ h => h) (fun _ h => h) trivial trivial trivial (s_post ?_)
   have hw : IntKind.u64.wrap (s.size : Int) = (s.size : Int) := wu64 (by omega) (by omega)
   repeat (first | refine qs_ ?_ | refine qa_ ?_ | refine qo_ ?_ | refine qd_ ?_ | refine za ?_ | refine zb fun _ _ => ?_ | refine zc ?_ | refine ya ?_ | refine yb fun _ _ => ?_ | refine yc ?_ | refine qk_ ?_ | refine qb_ ?_ | refine qx_ ?_)
   rename_i S2 _
   obtain ⟨l2, hl2⟩ : ∃ l2, l2 = l ++ varL (IntKind.u64.wrap (s.size : Int)) := ⟨_, rfl⟩
   have hvl : (varL (IntKind.u64.wrap (s.size : Int))).length ≤ 10 := varP_length 9 _
   have hll2 : l2.length ≤ 700010 := by rw [hl2, List.length_append]; omega
   refine s_le (tm' := [(0, none, .ptr ⟨900, 0, b, 0, 3, 0, 0, 0, false⟩), (1, none, .v (.string s)), (10, none, .v (.bool true))]) (M' := [(900, wrB b l2 S2)]) ?_ ?_
   ·
    rw [hl2]
    exact leQ
   refine s_cond (b := true) rfl (fun _ => ?_) (fun h => by cases h)
   refine s_open (n := 900) [900, 902] rfl rfl fun H hS2 hP => ?_
   obtain ⟨a, cp, hpc⟩ := wr_pieces hP
   refine ⟨_, hpc, ?_⟩
   repeat (first | refine qs_ ?_ | refine qa_ ?_ | refine qo_ ?_ | refine qd_ ?_ | refine za ?_ | refine zb fun _ _ => ?_ | refine zc ?_ | refine ya ?_ | refine yb fun _ _ => ?_ | refine yc ?_ | refine qk_ ?_ | refine qb_ ?_ | refine qx_ ?_)
   rename_i y hy
   have hy : l2.length + s.size ≤ y.2 := hy
   have hln : (l2 ++ strL s).length = l2.length + s.size := by rw [List.length_append, strL_length]
   have hfx : ∀ i, i < (l2 ++ strL s).length → fapp l2.length (vl l2) (strAt s) i = vl (l2 ++ strL s) i :=
    fapp_vl (fun _ _ => rfl) (fun i hi => by
     unfold vl lb strL strAt
     rw [strL_length] at hi
     rw [List.getD_eq_getElem?_getD, List.getD_eq_getElem?_getD, List.getElem?_map, List.getElem?_eq_getElem (by simpa using hi)]
     rfl)
   have hfin : l2 ++ strL s = l ++ textL s := by rw [hl2, hw, List.append_assoc]; rfl
   refine ⟨_, _, le_close (n := 900) (.nums b (l ++ textL s)) (IsWr b (l ++ textL s)) [900, 902] [.row b 312 3 1 (fun _ => wAV y.1 (l2 ++ strL s).length y.2) 1, .vrow y.1 5 1 (l2 ++ strL s).length (vl (l2 ++ strL s)) y.2] rfl (by decide)
    ⟨⟨⟨_, rfl, Blk.le_row (Nat.le_refl _) fun _ _ => (by rw [hln]; rfl)⟩, fun _ h => h⟩, ⟨⟨_, rfl, Blk.le_vrow (Nat.le_of_eq hln) fun i hi => (hfx i hi).symm⟩, fun _ h => h⟩, trivial⟩ (fun w hh hp => by rw [← hfin]; exact wr_closed hh hp), ?_⟩
   exact ⟨_, _, rfl, trivial, rfl, _, trivial, rfl, ⟨⟨_, rfl, Blk.le_refl _⟩, fun _ h => h⟩, trivial⟩
  ·
   cases h0
 ·
  cases h0
theorem pt_body : HasBody Tryz.prog 189 := ⟨_, Tryz.func189, rfl, by decide⟩
def crPt : CrL := [(189, ptC)]
theorem crPt_ok : CrLOk Tryz.prog crPt := ⟨⟨pt_body, pt_turn⟩, trivial⟩
theorem text_turn : TurnFn Tryz.prog 154 ptC := by
 intro tag args M r h0 hok O w0 w hS
 unfold ptC at h0
 split at h0
 ·
  rename_i p s
  split at h0
  ·
   rename_i c0 b l S hp
   cases h0
   obtain ⟨hc0, hll, hsz⟩ := hok
   obtain ⟨hM, hv⟩ := wrOf_spec hp hc0
   rw [show [AV.ptr p, .v (.string s)].map AV.val = [AV.ptr ⟨900, 0, b, 0, 3, 0, 0, 0, false⟩, .v (.string s)].map AV.val by simp only [List.map_cons, List.map_nil, hv 900]]
   refine turn_one tabs2 (ct := []) trivial crPt_ok Tryz.func154 rfl rfl hS _ hM (B1 := wrB b l S) [] rfl rfl (hS.holds _ _ hM) (fun _ h => h) (fun _ h => h) trivial trivial trivial ?_
   repeat (first | refine qs_ ?_ | refine qa_ ?_ | refine qo_ ?_ | refine qd_ ?_ | refine za ?_ | refine zb fun _ _ => ?_ | refine zc ?_ | refine ya ?_ | refine yb fun _ _ => ?_ | refine yc ?_ | refine qk_ ?_ | refine qb_ ?_ | refine qx_ ?_)
   exact ⟨_, _, rfl, trivial, rfl, _, trivial, rfl, ⟨⟨_, rfl, Blk.le_refl _⟩, fun _ h => h⟩, trivial⟩
  ·
   cases h0
 ·
  cases h0
theorem text_body : HasBody Tryz.prog 154 := ⟨_, Tryz.func154, rfl, by decide⟩
def cloneC (tag : Nat) (args : List AV) (M : MemF) : Option Res := match args with
 | [X] => match seqOf M X with
  | some (c, es, n, fx) => some ⟨Option Nat × Nat, c ∧ (n ≠ 0 → es = 1) ∧ n ≠ 0 ∧ n ≤ 1000000 ∧ ∀ i, i < n → fx i = .v (.int .u8 (fx i).int1), fun x => n ≤ x.2, fun x => .gs tag 0 (ownB x.1) 1 0 n x.2, [tag], fun x => [.vrow x.1 5 1 n (vl (lof (fun i => (fx i).int1) n)) x.2]⟩
  | none => none
 | _ => none
theorem clone_turn : TurnFn Tryz.prog 190 cloneC := by
 intro tag args M r h0 hok O w0 w hS
 unfold cloneC at h0
 split at h0
 ·
  rename_i X
  split at h0
  ·
   rename_i c es n fx hsx
   cases h0
   obtain ⟨q1, q2, hn0, q3, q4⟩ := hok
   obtain ⟨base, cap, hvx, hro⟩ := bytes_ro hS hsx q1 q2 q4
   obtain ⟨f, hf0⟩ : ∃ f, f = fun i => (fx i).int1 := ⟨_, rfl⟩
   rw [← hf0]
   have hro : (roB base 1 n fun i => .v (.int .u8 (f i))).holds w := by rw [hf0]; exact hro
   obtain ⟨z, rfl⟩ : ∃ z, base = some z := by
    cases hb : base with
    | none => exact absurd ((hro 0).1 hb) hn0
    | some z => exact ⟨z, rfl⟩
   rw [show [X].map AV.val = [roS 901 (some z) 1 n cap].map AV.val by simp only [List.map_cons, List.map_nil, hvx, roS_val]]
   refine turn_new tabs2 (ct := []) trivial (cr := []) trivial Tryz.func190 rfl rfl hS _ [(901, roB (some z) 1 n fun i => .v (.int .u8 (f i)))] [5] rfl ⟨hro, trivial⟩ ⟨roB_noOwn, trivial⟩ (by decide) rfl ?_
   repeat (first | refine qs_ ?_ | refine qa_ ?_ | refine qo_ ?_ | refine qd_ ?_ | refine za ?_ | refine zb fun _ _ => ?_ | refine zc ?_ | refine ya ?_ | refine yb fun _ _ => ?_ | refine yc ?_ | refine qk_ ?_ | refine qb_ ?_ | refine qx_ ?_)
   refine s_cond (b := false) rfl (fun h => by cases h) (fun _ => ?_)
   repeat (first | refine qs_ ?_ | refine qa_ ?_ | refine qo_ ?_ | refine qd_ ?_ | refine za ?_ | refine zb fun _ _ => ?_ | refine zc ?_ | refine ya ?_ | refine yb fun _ _ => ?_ | refine yc ?_ | refine qk_ ?_ | refine qb_ ?_ | refine qx_ ?_)
   rename_i b5 _ y hy
   have hy : 0 + n ≤ y.2 := hy
   have hfx : ∀ i, i < n → fapp 0 (fun i => (AV.rep (.v (.int .u8 0)) 0).nthA i) (fun i => .v (.int .u8 (f (i + 0)))) i = vl (lof f n) i := fun i hi => by
    rw [fapp_ge (Nat.zero_le _)]; unfold vl; rw [lof_get f hi]; rfl
   refine s_ret ?_
   refine ⟨_, _, rfl, ⟨trivial, trivial⟩, rfl, y, (by show n ≤ y.2; omega), ?_, ⟨⟨_, rfl, Blk.le_vrow (by omega) fun i hi => (hfx i hi).symm⟩, fun _ h => h⟩, trivial⟩
   show (AV.gs 5 0 (ownB y.1) 1 0 (0 + n) y.2).val = (AV.gs tag 0 (ownB y.1) 1 0 n y.2).val
   rw [gs_val, gs_val, Nat.zero_add]
  ·
   cases h0
 ·
  cases h0
theorem clone_body : HasBody Tryz.prog 190 := ⟨_, Tryz.func190, rfl, by decide⟩
theorem lof_lb (l : List Int) : lof (lb l) l.length = l := by
 refine List.ext_getElem (by simp) fun i h1 h2 => ?_
 have h3 : (lof (lb l) l.length)[i]? = some (lb l i) := by unfold lof; rw [List.getElem?_map, List.getElem?_range h2]; rfl
 rw [List.getElem?_eq_getElem h1] at h3
 have h4 : lb l i = l[i] := by unfold lb; rw [List.getD_eq_getElem?_getD, List.getElem?_eq_getElem h2]; rfl
 rw [← h4]; exact Option.some.inj h3
theorem wr_ro {b : Nat} {l : List Int} {S : Nat → Prop} {w : World} (h : (wrB b l S).holds w) (hl : l.length ≠ 0) : ∃ k cap, (RowHolds w b 312 3 1 (fun _ => wAV (some k) l.length cap) 1) ∧ RowHolds w k 5 1 l.length (vl l) cap := by
 obtain ⟨H, _, ⟨a, cap, h1, h2⟩, h3⟩ := frB_open h
 cases a with
 | none => exact absurd h2.1 hl
 | some k => exact ⟨k, cap, h1.on h3, h2.2.on h3⟩
def okB (tag : Nat) (y : Option Nat × Nat) (l : List Int) (e : Int) : AV := .tup (.cons (.gs tag 0 (ownB y.1) 1 0 l.length y.2) (.cons (.v (.int .i64 e)) .nil))
def outC (tag : Nat) (args : List AV) (M : MemF) : Option Res := match args with
 | [.ptr p] => match wrOf M p with
  | some (c0, _, l, _) => some ⟨Option Nat × Nat, c0 ∧ l.length ≠ 0 ∧ l.length ≤ 1000000, fun y => l.length ≤ y.2, fun y => okB tag y l 0, [tag], fun y => [.vrow y.1 5 1 l.length (vl l) y.2]⟩
  | none => none
 | _ => none
def crCl : CrL := [(190, cloneC)]
theorem crCl_ok : CrLOk Tryz.prog crCl := ⟨⟨clone_body, clone_turn⟩, trivial⟩
theorem out_turn : TurnFn Tryz.prog 155 outC := by
 intro tag args M r h0 hok O w0 w hS
 unfold outC at h0
 split at h0
 ·
  rename_i p
  split at h0
  ·
   rename_i c0 b l S hp
   cases h0
   obtain ⟨hc0, hl0, hll⟩ := hok
   obtain ⟨hM, hv⟩ := wrOf_spec hp hc0
   obtain ⟨k, cap, hR, hB⟩ := wr_ro (hS.holds _ _ hM) hl0
   rw [show [AV.ptr p].map AV.val = [AV.ptr ⟨900, 0, b, 0, 3, 0, 0, 0, false⟩].map AV.val by simp only [List.map_cons, List.map_nil, hv 900]]
   refine turn_new tabs2 (ct := []) trivial crCl_ok Tryz.func155 rfl rfl hS _ [(900, roB (some (b, 0)) 3 1 fun _ => wAV (some k) l.length cap), (902, roB (some (k, 0)) 1 l.length (vl l))] [26] rfl ⟨roB_holds fun _ => ⟨b, 0, rfl, hR.reads⟩, roB_holds fun _ => ⟨k, 0, rfl, hB.reads⟩, trivial⟩ ⟨roB_noOwn, roB_noOwn, trivial⟩ (by decide) rfl ?_
   repeat (first | refine qs_ ?_ | refine qa_ ?_ | refine qo_ ?_ | refine qd_ ?_ | refine za ?_ | refine zb fun _ _ => ?_ | refine zc ?_ | refine ya ?_ | refine yb fun _ _ => ?_ | refine yc ?_ | refine qk_ ?_ | refine qb_ ?_ | refine qx_ ?_)
   refine s_cond (b := false) rfl (fun h => by cases h) (fun _ => ?_)
   repeat (first | refine qs_ ?_ | refine qa_ ?_ | refine qo_ ?_ | refine qd_ ?_ | refine za ?_ | refine zb fun _ _ => ?_ | refine zc ?_ | refine ya ?_ | refine yb fun _ _ => ?_ | refine yc ?_ | refine qk_ ?_ | refine qb_ ?_ | refine qx_ ?_)
   refine s_cond (b := false) rfl (fun h => by cases h) (fun _ => ?_)
   repeat (first | refine qs_ ?_ | refine qa_ ?_ | refine qo_ ?_ | refine qd_ ?_ | refine za ?_ | refine zb fun _ _ => ?_ | refine zc ?_ | refine ya ?_ | refine yb fun _ _ => ?_ | refine yc ?_ | refine qk_ ?_ | refine qb_ ?_ | refine qx_ ?_)
   rename_i y hy
   refine s_ret ?_
   exact ⟨_, _, rfl, ⟨trivial, trivial, trivial⟩, rfl, y, hy, rfl, ⟨⟨_, rfl, Blk.le_vrow (Nat.le_refl _) fun i hi => (by show vl l i = vl (lof (lb l) l.length) i; rw [lof_lb])⟩, fun _ h => h⟩, trivial⟩
  ·
   cases h0
 ·
  cases h0
theorem out_body : HasBody Tryz.prog 155 := ⟨_, Tryz.func155, rfl, by decide⟩
theorem varL_len (v : Int) : (varL v).length ≤ 10 := varP_length 9 v
@[simp] theorem idL_length (l : List Int) : (idL l).length = 32 := by unfold idL; rw [intsOf_length]
def putL (l : List Int) (x : Vote) : List Int := l ++ [IntKind.u8.wrap x.kind] ++ varL x.height ++ varL (IntKind.u64.wrap x.round) ++ idL x.id ++ varL x.time ++ varL x.from_
def VR (x : Vote) : Prop := (0 ≤ x.height ∧ x.height < 18446744073709551616) ∧ (0 ≤ x.time ∧ x.time < 18446744073709551616) ∧ (0 ≤ x.from_ ∧ x.from_ < 18446744073709551616)
def nosC (args : List AV) (_M : MemF) : Option (Prop × AV) := match args with
 | [_] => some (True, .tup .nil)
 | _ => none
theorem nos_read : ReadFn Tryz.prog 112 nosC := by
 intro args M q res h hq O w0 w hS
 unfold nosC at h
 split at h
 ·
  cases h
  refine ro_fn tabs2 (ct := []) trivial (cr := []) trivial Tryz.func112 rfl rfl (M := []) rfl trivial trivial ?_
  repeat (first | refine qs_ ?_ | refine qa_ ?_ | refine qo_ ?_ | refine qd_ ?_ | refine za ?_ | refine zb fun _ _ => ?_ | refine zc ?_ | refine ya ?_ | refine yb fun _ _ => ?_ | refine yc ?_ | refine qk_ ?_ | refine qb_ ?_ | refine qx_ ?_)
  exact ⟨_, _, rfl, trivial, rfl, rfl⟩
 ·
  cases h
theorem nos_body : HasBody Tryz.prog 112 := ⟨_, Tryz.func112, rfl, by decide⟩
def pvC (_tag : Nat) (args : List AV) (M : MemF) : Option Res := match args with
 | [.ptr p, V, .fn 112 .nil] => match wrOf M p, decV V with
  | some (c0, b, l, _), some x => some ⟨Nat → Prop, c0 ∧ l.length ≤ 600000 ∧ VR x, fun _ => True, fun _ => .tup .nil, [p.n], fun S' => [wrB b (putL l x) S']⟩
  | _, _ => none
 | _ => none
def ctPv : CtL := [(112, nosC)]
theorem ctPv_ok : CtLOk Tryz.prog ctPv := ⟨.fn nos_body nos_read, trivial⟩
def crPv : CrL := [(153, byteC), (156, varC), (157, phC)]
theorem crPv_ok : CrLOk Tryz.prog crPv := ⟨⟨byte_body, byte_turn⟩, ⟨var_body, var_turn⟩, ⟨ph_body, ph_turn⟩, trivial⟩
theorem u64_rng (n : Int) : 0 ≤ IntKind.u64.wrap n ∧ IntKind.u64.wrap n < 18446744073709551616 := by
 unfold IntKind.wrap
 simp only [IntKind.signed, IntKind.bits, Bool.false_and, Bool.false_eq_true, if_false, p64]
 omega
theorem pv_turn : TurnFn Tryz.prog 111 pvC := by
 intro tag args M r h0 hok O w0 w hS
 unfold pvC at h0
 split at h0
 ·
  rename_i p V
  split at h0
  ·
   rename_i c0 b l S x hp hx
   cases h0
   have hx := decV_enc hx
   subst hx
   obtain ⟨hc0, hll, ⟨g1, g2⟩, ⟨g3, g4⟩, g5, g6⟩ := hok
   obtain ⟨hM, hv⟩ := wrOf_spec hp hc0
   have v1 := varL_len x.height
   have v2 := varL_len (IntKind.u64.wrap x.round)
   have v3 := varL_len x.time
   obtain ⟨r1, r2⟩ := u64_rng x.round
   rw [show [AV.ptr p, encV x, .fn 112 .nil].map AV.val = [AV.ptr ⟨900, 0, b, 0, 3, 0, 0, 0, false⟩, encV x, .fn 112 .nil].map AV.val by simp only [List.map_cons, List.map_nil, hv 900]]
   refine turn_one tabs2 ctPv_ok crPv_ok Tryz.func111 rfl rfl hS _ hM (B1 := wrB b l S) [] rfl rfl (hS.holds _ _ hM) (fun _ h => h) (fun _ h => h) trivial trivial trivial ?_
   repeat (first | refine qs_ ?_ | refine qa_ ?_ | refine qo_ ?_ | refine qd_ ?_ | refine za ?_ | refine zb fun _ _ => ?_ | refine zc ?_ | refine ya ?_ | refine yb fun _ _ => ?_ | refine yc ?_ | refine qk_ ?_ | refine qb_ ?_ | refine qx_ ?_)
   exact ⟨_, _, rfl, trivial, rfl, _, trivial, rfl, ⟨⟨_, rfl, Blk.le_refl _⟩, fun _ h => h⟩, trivial⟩
  ·
   cases h0
 ·
  cases h0
theorem pv_body : HasBody Tryz.prog 111 := ⟨_, Tryz.func111, rfl, by decide⟩
end Go.Proofs.YtofophjfgalhaaaGreatDoor.V
