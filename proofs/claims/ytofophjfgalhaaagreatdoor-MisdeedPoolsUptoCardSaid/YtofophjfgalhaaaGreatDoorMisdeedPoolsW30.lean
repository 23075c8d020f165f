import Derived.Test.YtofophjfgalhaaaGreatDoorMisdeedPoolsW07
import Derived.Test.YtofophjfgalhaaaGreatDoorMisdeedPoolsW17
import Derived.Test.YtofophjfgalhaaaGreatDoorMisdeedPoolsW29
set_option linter.unusedVariables false
set_option linter.unusedSimpArgs false
set_option maxRecDepth 100000
set_option maxHeartbeats 8000000
namespace Go.Proofs.YtofophjfgalhaaaGreatDoor.V
open Go Go.RowKit
def isMemC (args : List AV) (M : MemF) : Option (Prop × AV) := match args with
 | [.agg (.cons (.v (.int .u64 x)) (.cons (.v (.int .u64 y)) (.cons (.v (.int .i64 z)) .nil))), .ptr p] => match ptrOf M p false 1 with
  | some (c, .v (.int .u64 a)) => some (c, .v (.bool (x == a)))
  | _ => none
 | _ => none
theorem isMem_read : ReadFn Tryz.prog 107 isMemC := by
 intro args M q res h hq O w0 w hS
 unfold isMemC at h
 split at h
 ·
  rename_i x y z p
  split at h
  ·
   rename_i c a hp
   cases h
   have hR := ptrOf_spec (g := false) hS hp hq
   rw [show [.agg (.cons (.v (.int .u64 x)) (.cons (.v (.int .u64 y)) (.cons (.v (.int .i64 z)) .nil))), AV.ptr p].map AV.val = [.agg (.cons (.v (.int .u64 x)) (.cons (.v (.int .u64 y)) (.cons (.v (.int .i64 z)) .nil))), roP 900 p.b p.cell 1].map AV.val by simp only [List.map_cons, List.map_nil, pt_ro p 900 1]]
   refine ro_fn tabs2 (ct := []) trivial (cr := []) trivial Tryz.func107 rfl rfl (M := [(900, roB (some (p.b, p.cell)) 1 1 fun _ => .v (.int .u64 a))]) rfl ⟨roB_noOwn, trivial⟩ ⟨roB_holds fun _ => ⟨_, _, rfl, hR⟩, trivial⟩ ?_
   repeat (first | refine qs_ ?_ | refine qa_ ?_ | refine qo_ ?_ | refine qd_ ?_ | refine za ?_ | refine zb fun _ _ => ?_ | refine zc ?_ | refine ya ?_ | refine yb fun _ _ => ?_ | refine yc ?_ | refine qk_ ?_ | refine qb_ ?_ | refine qx_ ?_)
   refine s_ret ?_
   exact ⟨_, _, rfl, ⟨trivial, trivial⟩, rfl, rfl⟩
  ·
   cases h
 ·
  cases h
theorem isMem_body : HasBody Tryz.prog 107 := ⟨_, Tryz.func107, rfl, by decide⟩
def ixFC (args : List AV) (M : MemF) : Option (Prop × AV) := match args with
 | [X, .fn 107 (.cons (.ptr p) .nil)] => match memV M X, ptrOf M p false 1 with
  | some (c, l), some (c2, .v (.int .u64 a)) => some (c ∧ c2, .v (.int .i64 (numIx a (l.map (·.1)) 0)))
  | _, _ => none
 | _ => none
def ctIm : CtL := [(107, isMemC)]
theorem ctIm_ok : CtLOk Tryz.prog ctIm := ⟨CallsOk.fn isMem_body isMem_read, trivial⟩
theorem ixF_read : ReadFn Tryz.prog 106 ixFC := by
 intro args M q res h0 hq O w0 w hS
 unfold ixFC at h0
 split at h0
 ·
  rename_i X p
  split at h0
  ·
   rename_i c l c2 a hsx hp
   cases h0
   obtain ⟨hq, hq2⟩ := hq
   rcases mem_open hS hsx hq with ⟨hn, hcl, ⟨base, cap, hv, hro⟩ | ⟨rfl, sp, scap, rfl⟩⟩
   ·
    have hR := ptrOf_spec (g := false) hS hp hq2
    have hf : (AV.fn 107 (.cons (.ptr p) .nil)).val = (AV.fn 107 (.cons (roP 901 p.b p.cell 1) .nil)).val := by
     rw [fn_val, fn_val]
     show Value.func _ _ #[(AV.ptr p).val] = Value.func _ _ #[(roP 901 p.b p.cell 1).val]
     rw [pt_ro p 901 1]
    rw [show [X, AV.fn 107 (.cons (.ptr p) .nil)].map AV.val = [roS 900 base 3 l.length cap, AV.fn 107 (.cons (roP 901 p.b p.cell 1) .nil)].map AV.val by simp only [List.map_cons, List.map_nil, hf, hv, roS_val]]
    refine ro_fn tabs2 ctIm_ok (cr := []) trivial Tryz.func106 rfl rfl (M := [(900, roB base 3 l.length (mbE l)), (901, roB (some (p.b, p.cell)) 1 1 fun _ => .v (.int .u64 a))]) rfl ⟨roB_noOwn, roB_noOwn, trivial⟩ ⟨hro, roB_holds fun _ => ⟨_, _, rfl, hR⟩, trivial⟩ ?_
    repeat (first | refine qs_ ?_ | refine qa_ ?_ | refine qo_ ?_ | refine qd_ ?_ | refine za ?_ | refine zb fun _ _ => ?_ | refine zc ?_ | refine ya ?_ | refine yb fun _ _ => ?_ | refine yc ?_ | refine qk_ ?_ | refine qb_ ?_ | refine qx_ ?_)
    refine s_loopW (α := Nat) [5, 8, 9, 10, 11, 12, 13, 14, 15, 16, 17, 18] [] (fun k => k ≤ l.length ∧ ∀ j, j < k → ((l.map (·.1)).getD j 0 == a) = false) (fun k => [(8, none, .v (.int .i64 k))]) (fun _ => []) (fun k => l.length - k) 0 ⟨Nat.zero_le _, fun j hj => absurd hj (Nat.not_lt_zero j)⟩ ?_ ?_
    ·
     exact leQ
    ·
     intro k ⟨hk, hno⟩
     repeat (first | refine qs_ ?_ | refine qa_ ?_ | refine qo_ ?_ | refine qd_ ?_ | refine za ?_ | refine zb fun _ _ => ?_ | refine zc ?_ | refine ya ?_ | refine yb fun _ _ => ?_ | refine yc ?_ | refine qk_ ?_ | refine qb_ ?_ | refine qx_ ?_)
     refine s_cond (b := decide ((k : Int) < (l.length : Int))) rfl (fun hb2 => ?_) (fun hb2 => ?_)
     ·
      have hk8 : k < l.length := by have := of_decide_eq_true hb2; omega
      repeat (first | refine qs_ ?_ | refine qa_ ?_ | refine qo_ ?_ | refine qd_ ?_ | refine za ?_ | refine zb fun _ _ => ?_ | refine zc ?_ | refine ya ?_ | refine yb fun _ _ => ?_ | refine yc ?_ | refine qk_ ?_ | refine qb_ ?_ | refine qx_ ?_)
      refine s_cond (b := ((l.getD k (0, 0, 0)).1 == a)) rfl (fun h9 => ?_) (fun h9 => ?_)
      ·
       repeat (first | refine qs_ ?_ | refine qa_ ?_ | refine qo_ ?_ | refine qd_ ?_ | refine za ?_ | refine zb fun _ _ => ?_ | refine zc ?_ | refine ya ?_ | refine yb fun _ _ => ?_ | refine yc ?_ | refine qk_ ?_ | refine qb_ ?_ | refine qx_ ?_)
       refine s_ret ?_
       refine ⟨_, _, rfl, ⟨trivial, trivial⟩, rfl, ?_⟩
       rw [numIx_at (k := k) (by rw [List.length_map]; exact hk8) hno (by rw [mb_get]; exact h9), Nat.zero_add]
       rfl
      ·
       repeat (first | refine qs_ ?_ | refine qa_ ?_ | refine qo_ ?_ | refine qd_ ?_ | refine za ?_ | refine zb fun _ _ => ?_ | refine zc ?_ | refine ya ?_ | refine yb fun _ _ => ?_ | refine yc ?_ | refine qk_ ?_ | refine qb_ ?_ | refine qx_ ?_)
       refine ⟨k + 1, ⟨by omega, fun j hj => ?_⟩, by omega, ?_⟩
       ·
        rcases Nat.lt_or_ge j k with h1 | h1
        ·
         exact hno j h1
        ·
         rw [show j = k by omega, mb_get]; exact h9
       ·
        exact leQ
     ·
      have hk8 : k = l.length := by have := of_decide_eq_false hb2; omega
      repeat (first | refine qs_ ?_ | refine qa_ ?_ | refine qo_ ?_ | refine qd_ ?_ | refine za ?_ | refine zb fun _ _ => ?_ | refine zc ?_ | refine ya ?_ | refine yb fun _ _ => ?_ | refine yc ?_ | refine qk_ ?_ | refine qb_ ?_ | refine qx_ ?_)
      refine s_ret ?_
      refine ⟨_, _, rfl, ⟨trivial, trivial⟩, rfl, ?_⟩
      rw [numIx_no (by rw [List.length_map, ← hk8]; exact hno)]
      rfl
   ·
    have hR := ptrOf_spec (g := false) hS hp hq2
    have hf : (AV.fn 107 (.cons (.ptr p) .nil)).val = (AV.fn 107 (.cons (roP 901 p.b p.cell 1) .nil)).val := by
     rw [fn_val, fn_val]
     show Value.func _ _ #[(AV.ptr p).val] = Value.func _ _ #[(roP 901 p.b p.cell 1).val]
     rw [pt_ro p 901 1]
    rw [show [.v (.slice sp 0 scap), AV.fn 107 (.cons (.ptr p) .nil)].map AV.val = [.v (.slice sp 0 scap), AV.fn 107 (.cons (roP 901 p.b p.cell 1) .nil)].map AV.val by simp only [List.map_cons, List.map_nil, hf]]
    refine ro_fn tabs2 ctIm_ok (cr := []) trivial Tryz.func106 rfl rfl (M := [(901, roB (some (p.b, p.cell)) 1 1 fun _ => .v (.int .u64 a))]) rfl ⟨roB_noOwn, trivial⟩ ⟨roB_holds fun _ => ⟨_, _, rfl, hR⟩, trivial⟩ ?_
    repeat (first | refine qs_ ?_ | refine qa_ ?_ | refine qo_ ?_ | refine qd_ ?_ | refine za ?_ | refine zb fun _ _ => ?_ | refine zc ?_ | refine ya ?_ | refine yb fun _ _ => ?_ | refine yc ?_ | refine qk_ ?_ | refine qb_ ?_ | refine qx_ ?_)
    refine s_loopW (α := Unit) [5, 8, 9, 10, 11, 12, 13, 14, 15, 16, 17, 18] [] (fun _ => True) (fun _ => [(8, none, .v (.int .i64 0))]) (fun _ => []) (fun _ => 0) () trivial ?_ ?_
    ·
     exact leQ
    ·
     intro _ _
     repeat (first | refine qs_ ?_ | refine qa_ ?_ | refine qo_ ?_ | refine qd_ ?_ | refine za ?_ | refine zb fun _ _ => ?_ | refine zc ?_ | refine ya ?_ | refine yb fun _ _ => ?_ | refine yc ?_ | refine qk_ ?_ | refine qb_ ?_ | refine qx_ ?_)
     refine s_cond (b := false) rfl (fun hb => by cases hb) (fun _ => ?_)
     repeat (first | refine qs_ ?_ | refine qa_ ?_ | refine qo_ ?_ | refine qd_ ?_ | refine za ?_ | refine zb fun _ _ => ?_ | refine zc ?_ | refine ya ?_ | refine yb fun _ _ => ?_ | refine yc ?_ | refine qk_ ?_ | refine qb_ ?_ | refine qx_ ?_)
     refine s_ret ?_
     exact ⟨_, _, rfl, ⟨trivial, trivial⟩, rfl, rfl⟩
  ·
   cases h0
 ·
  cases h0
theorem ixF_body : HasBody Tryz.prog 106 := ⟨_, Tryz.func106, rfl, by decide⟩
theorem mb_again (l : List (Int × Int × Int)) : ((List.range l.length).map fun i => mb1 (mbE l i)) = l := by
 apply List.ext_getElem?
 intro i
 rw [List.getElem?_map]
 by_cases h : i < l.length
 ·
  rw [List.getElem?_range h, List.getElem?_eq_getElem h]
  show some ((l.getD i (0, 0, 0)).1, (l.getD i (0, 0, 0)).2.1, (l.getD i (0, 0, 0)).2.2) = _
  rw [List.getD_eq_getElem?_getD, List.getElem?_eq_getElem h]; rfl
 ·
  rw [List.getElem?_eq_none (by simpa using h), List.getElem?_eq_none (by omega)]; rfl
def ctIx : CtL := [(106, ixFC)]
theorem ctIx_ok : CtLOk Tryz.prog ctIx := ⟨CallsOk.fn ixF_body ixF_read, trivial⟩
theorem ix_read : ReadFn Tryz.prog 52 dixC := by
 intro args M q res h0 hq O w0 w hS
 unfold dixC at h0
 split at h0
 ·
  rename_i X a
  split at h0
  ·
   rename_i c l hsx
   cases h0
   rcases mem_open hS hsx hq with ⟨hn, hcl, ⟨base, cap, hv, hro⟩ | ⟨rfl, sp, scap, rfl⟩⟩
   ·
    have hx : (AV.agg (.cons X .nil)).val = (AV.agg (.cons (roS 900 base 3 l.length cap) .nil)).val := by
     simp only [AV.val_agg, AV.cells_cons, AV.cells_nil, hcl, hv]
     rw [show (roS 900 base 3 l.length cap).cells = [slV base l.length cap] by rw [← roS_val 900 base 3 l.length cap]; rfl]
    rw [show [.agg (.cons X .nil), .v (.int .u64 a)].map AV.val = [.agg (.cons (roS 900 base 3 l.length cap) .nil), .v (.int .u64 a)].map AV.val by simp only [List.map_cons, List.map_nil, hx]]
    refine ro_fn tabs2 ctIx_ok (cr := []) trivial Tryz.func52 rfl rfl (M := [(900, roB base 3 l.length (mbE l))]) rfl ⟨roB_noOwn, trivial⟩ ⟨hro, trivial⟩ ?_
    repeat (first | refine qs_ ?_ | refine qa_ ?_ | refine qo_ ?_ | refine qd_ ?_ | refine za ?_ | refine zb fun _ _ => ?_ | refine zc ?_ | refine ya ?_ | refine yb fun _ _ => ?_ | refine yc ?_ | refine qk_ ?_ | refine qb_ ?_ | refine qx_ ?_)
    refine s_ret ?_
    refine ⟨_, _, rfl, ⟨trivial, trivial⟩, rfl, ?_⟩
    show (AV.v (.int .i64 (numIx a (((List.range l.length).map fun i => mb1 (mbE l i)).map (·.1)) 0))).val = _
    rw [mb_again]
   ·
    refine ro_fn tabs2 ctIx_ok (cr := []) trivial Tryz.func52 rfl rfl (M := [(90003, noneB 3)]) rfl ⟨fun _ h => h, trivial⟩ ⟨noneB_holds _ _, trivial⟩ ?_
    repeat (first | refine qs_ ?_ | refine qa_ ?_ | refine qo_ ?_ | refine qd_ ?_ | refine za ?_ | refine zb fun _ _ => ?_ | refine zc ?_ | refine ya ?_ | refine yb fun _ _ => ?_ | refine yc ?_ | refine qk_ ?_ | refine qb_ ?_ | refine qx_ ?_)
    refine s_ret ?_
    exact ⟨_, _, rfl, ⟨trivial, trivial⟩, rfl, rfl⟩
  ·
   cases h0
 ·
  cases h0
theorem ix_body : HasBody Tryz.prog 52 := ⟨_, Tryz.func52, rfl, by decide⟩
def pofC (args : List AV) (_M : MemF) : Option (Prop × AV) := match args with
 | [.agg (.cons a (.cons b .nil))] => match decV a, decV b with
  | some x, some _ => some (True, .agg (.cons (.v (.int .u64 x.height)) (.cons (.v (.int .u64 x.from_)) .nil)))
  | _, _ => none
 | _ => none
theorem pof_read : ReadFn Tryz.prog 48 pofC := by
 intro args M q res h hq O w0 w hS
 unfold pofC at h
 split at h
 ·
  split at h
  ·
   rename_i a b x y hx hy
   cases h
   have ha := decV_enc hx
   have hb := decV_enc hy
   subst ha hb
   refine ro_fn tabs2 (ct := []) trivial (cr := []) trivial Tryz.func48 rfl rfl (M := []) rfl trivial trivial ?_
   repeat (first | refine qs_ ?_ | refine qa_ ?_ | refine qo_ ?_ | refine qd_ ?_ | refine za ?_ | refine zb fun _ _ => ?_ | refine zc ?_ | refine ya ?_ | refine yb fun _ _ => ?_ | refine yc ?_ | refine qk_ ?_ | refine qb_ ?_ | refine qx_ ?_)
   refine s_ret ?_
   refine ⟨_, _, rfl, (by repeat (first | exact trivial | constructor)), rfl, rfl⟩
  ·
   cases h
 ·
  cases h
theorem pof_body : HasBody Tryz.prog 48 := ⟨_, Tryz.func48, rfl, by decide⟩
end Go.Proofs.YtofophjfgalhaaaGreatDoor.V
namespace Go.Proofs.YtofophjfgalhaaaGreatDoor.V
open Go Go.RowKit
end Go.Proofs.YtofophjfgalhaaaGreatDoor.V
namespace Go.Proofs.YtofophjfgalhaaaGreatDoor.V
open Go Go.RowKit
structure StV where
 nm : ByteArray
 p0 : Int
 p1 : Int
 p2 : Int
 p3 : Int
 p4 : Int
 p5 : Int
 p6 : Int
 p7 : Int
 p8 : Int
 p9 : Int
 p10 : Int
 p11 : Int
 h : Int
 t : Int
 id : List Int
 a1 : Option Addr
 n1 : Nat
 c1 : Nat
 a2 : Option Addr
 n2 : Nat
 c2 : Nat
 a3 : Option Addr
 n3 : Nat
 c3 : Nat
 a4 : Option Addr
 n4 : Nat
 c4 : Nat
 a5 : Option Addr
 n5 : Nat
 c5 : Nat
 a6 : Option Addr
 n6 : Nat
 c6 : Nat
 u : Int
 v : Int
def encS (x : StV) : AV := .agg (.cons (.v (.string x.nm)) (.cons (.agg (.cons (.v (.int .u64 x.p0)) (.cons (.v (.int .i64 x.p1)) (.cons (.v (.int .u64 x.p2)) (.cons (.v (.int .u64 x.p3)) (.cons (.v (.int .u64 x.p4)) (.cons (.v (.int .i64 x.p5)) (.cons (.v (.int .u64 x.p6)) (.cons (.v (.int .u64 x.p7)) (.cons (.v (.int .u64 x.p8)) (.cons (.v (.int .u64 x.p9)) (.cons (.v (.int .u64 x.p10)) (.cons (.v (.int .u64 x.p11)) .nil))))))))))))) (.cons (.v (.int .u64 x.h)) (.cons (.v (.int .u64 x.t)) (.cons (.ints .u8 32 x.id) (.cons (.agg (.cons (.v (.slice x.a1 x.n1 x.c1)) .nil)) (.cons (.agg (.cons (.v (.slice x.a2 x.n2 x.c2)) .nil)) (.cons (.v (.slice x.a3 x.n3 x.c3)) (.cons (.v (.slice x.a4 x.n4 x.c4)) (.cons (.agg (.cons (.v (.slice x.a5 x.n5 x.c5)) (.cons (.v (.slice x.a6 x.n6 x.c6)) (.cons (.v (.int .u64 x.u)) (.cons (.v (.int .u64 x.v)) .nil))))) .nil))))))))))
def encSP (x : StV) (X : AV) : AV := .agg (.cons (.v (.string x.nm)) (.cons (.agg (.cons (.v (.int .u64 x.p0)) (.cons (.v (.int .i64 x.p1)) (.cons (.v (.int .u64 x.p2)) (.cons (.v (.int .u64 x.p3)) (.cons (.v (.int .u64 x.p4)) (.cons (.v (.int .i64 x.p5)) (.cons (.v (.int .u64 x.p6)) (.cons (.v (.int .u64 x.p7)) (.cons (.v (.int .u64 x.p8)) (.cons (.v (.int .u64 x.p9)) (.cons (.v (.int .u64 x.p10)) (.cons (.v (.int .u64 x.p11)) .nil))))))))))))) (.cons (.v (.int .u64 x.h)) (.cons (.v (.int .u64 x.t)) (.cons (.ints .u8 32 x.id) (.cons (.agg (.cons (.v (.slice x.a1 x.n1 x.c1)) .nil)) (.cons (.agg (.cons (.v (.slice x.a2 x.n2 x.c2)) .nil)) (.cons X (.cons (.v (.slice x.a4 x.n4 x.c4)) (.cons (.agg (.cons (.v (.slice x.a5 x.n5 x.c5)) (.cons (.v (.slice x.a6 x.n6 x.c6)) (.cons (.v (.int .u64 x.u)) (.cons (.v (.int .u64 x.v)) .nil))))) .nil))))))))))
def encSQ (x : StV) (X : AV) : AV := .agg (.cons (.v (.string x.nm)) (.cons (.agg (.cons (.v (.int .u64 x.p0)) (.cons (.v (.int .i64 x.p1)) (.cons (.v (.int .u64 x.p2)) (.cons (.v (.int .u64 x.p3)) (.cons (.v (.int .u64 x.p4)) (.cons (.v (.int .i64 x.p5)) (.cons (.v (.int .u64 x.p6)) (.cons (.v (.int .u64 x.p7)) (.cons (.v (.int .u64 x.p8)) (.cons (.v (.int .u64 x.p9)) (.cons (.v (.int .u64 x.p10)) (.cons (.v (.int .u64 x.p11)) .nil))))))))))))) (.cons (.v (.int .u64 x.h)) (.cons (.v (.int .u64 x.t)) (.cons (.ints .u8 32 x.id) (.cons (.agg (.cons (.v (.slice x.a1 x.n1 x.c1)) .nil)) (.cons (.agg (.cons (.v (.slice x.a2 x.n2 x.c2)) .nil)) (.cons (.v (.slice x.a3 x.n3 x.c3)) (.cons X (.cons (.agg (.cons (.v (.slice x.a5 x.n5 x.c5)) (.cons (.v (.slice x.a6 x.n6 x.c6)) (.cons (.v (.int .u64 x.u)) (.cons (.v (.int .u64 x.v)) .nil))))) .nil))))))))))
def decS : AV → Option StV
 | .agg (.cons (.v (.string nm)) (.cons (.agg (.cons (.v (.int .u64 p0)) (.cons (.v (.int .i64 p1)) (.cons (.v (.int .u64 p2)) (.cons (.v (.int .u64 p3)) (.cons (.v (.int .u64 p4)) (.cons (.v (.int .i64 p5)) (.cons (.v (.int .u64 p6)) (.cons (.v (.int .u64 p7)) (.cons (.v (.int .u64 p8)) (.cons (.v (.int .u64 p9)) (.cons (.v (.int .u64 p10)) (.cons (.v (.int .u64 p11)) .nil))))))))))))) (.cons (.v (.int .u64 h)) (.cons (.v (.int .u64 t)) (.cons (.ints .u8 32 id) (.cons (.agg (.cons (.v (.slice a1 n1 c1)) .nil)) (.cons (.agg (.cons (.v (.slice a2 n2 c2)) .nil)) (.cons (.v (.slice a3 n3 c3)) (.cons (.v (.slice a4 n4 c4)) (.cons (.agg (.cons (.v (.slice a5 n5 c5)) (.cons (.v (.slice a6 n6 c6)) (.cons (.v (.int .u64 u)) (.cons (.v (.int .u64 v)) .nil))))) .nil)))))))))) => some ⟨nm, p0, p1, p2, p3, p4, p5, p6, p7, p8, p9, p10, p11, h, t, id, a1, n1, c1, a2, n2, c2, a3, n3, c3, a4, n4, c4, a5, n5, c5, a6, n6, c6, u, v⟩
 | _ => none
theorem decS_enc {a : AV} {x : StV} (h : decS a = some x) : a = encS x := by
 unfold decS at h
 split at h
 ·
  cases h; rfl
 ·
  cases h
structure PstV where
 h : Int
 t : Int
 a : Option Addr
 n : Nat
 c : Nat
instance : Inhabited PstV := ⟨⟨0, 0, none, 0, 0⟩⟩
def pstX (p : PstV) : AV := .agg (.cons (.v (.int .u64 p.h)) (.cons (.v (.int .u64 p.t)) (.cons (.agg (.cons (.v (.slice p.a p.n p.c)) .nil)) .nil)))
def pst1 : AV → PstV
 | .agg (.cons (.v (.int _ h)) (.cons (.v (.int _ t)) (.cons (.agg (.cons (.v (.slice a n c)) .nil)) .nil))) => ⟨h, t, a, n, c⟩
 | _ => default
def pstE (l : List PstV) (i : Nat) : AV := pstX (l.getD i default)
def pstV (M : MemF) (a : Option Addr) (n : Nat) : Option (Prop × List PstV) := comeIn M 90001 3 pst1 pstX a n
theorem pst_get {l : List PstV} {k : Nat} : (l.map (·.h)).getD k 0 = (l.getD k default).h := by
 rw [List.getD_eq_getElem?_getD, List.getD_eq_getElem?_getD, List.getElem?_map]
 cases l[k]? <;> rfl
def hitC (args : List AV) (M : MemF) : Option (Prop × AV) := match args with
 | [.agg (.cons (.v (.int .u64 h)) (.cons (.v (.int .u64 t)) (.cons (.agg (.cons (.v (.slice a n c)) .nil)) .nil))), .ptr p] => match ptrOf M p true 2 with
  | some (q, .agg (.cons (.v (.int .u64 x)) (.cons (.v (.int .u64 y)) .nil))) => some (q, .v (.bool (h == x)))
  | _ => none
 | _ => none
theorem hit_read : ReadFn Tryz.prog 50 hitC := by
 intro args M q res h hq O w0 w hS
 unfold hitC at h
 split at h
 ·
  rename_i h1 t a n c p
  split at h
  ·
   rename_i q x y hp
   cases h
   have hR := ptrOf_spec (g := true) hS hp hq
   rw [show [.agg (.cons (.v (.int .u64 h1)) (.cons (.v (.int .u64 t)) (.cons (.agg (.cons (.v (.slice a n c)) .nil)) .nil))), AV.ptr p].map AV.val = [.agg (.cons (.v (.int .u64 h1)) (.cons (.v (.int .u64 t)) (.cons (.agg (.cons (.v (.slice a n c)) .nil)) .nil))), roP 900 p.b p.cell 2].map AV.val by simp only [List.map_cons, List.map_nil, pt_ro p 900 2]]
   refine ro_fn tabs2 (ct := []) trivial (cr := []) trivial Tryz.func50 rfl rfl (M := [(900, roB (some (p.b, p.cell)) 2 1 fun _ => .agg (.cons (.v (.int .u64 x)) (.cons (.v (.int .u64 y)) .nil)))]) rfl ⟨roB_noOwn, trivial⟩ ⟨roB_holds fun _ => ⟨_, _, rfl, hR⟩, trivial⟩ ?_
   repeat (first | refine qs_ ?_ | refine qa_ ?_ | refine qo_ ?_ | refine qd_ ?_ | refine za ?_ | refine zb fun _ _ => ?_ | refine zc ?_ | refine ya ?_ | refine yb fun _ _ => ?_ | refine yc ?_ | refine qk_ ?_ | refine qb_ ?_ | refine qx_ ?_)
   refine s_ret ?_
   exact ⟨_, _, rfl, ⟨trivial, trivial⟩, rfl, rfl⟩
  ·
   cases h
 ·
  cases h
theorem hit_body : HasBody Tryz.prog 50 := ⟨_, Tryz.func50, rfl, by decide⟩
def ixPC (args : List AV) (M : MemF) : Option (Prop × AV) := match args with
 | [.v (.slice a n _), .fn 50 (.cons (.ptr p) .nil)] => match pstV M a n, ptrOf M p true 2 with
  | some (c, l), some (c2, .agg (.cons (.v (.int .u64 x)) (.cons (.v (.int .u64 _)) .nil))) => some (c ∧ c2, .v (.int .i64 (numIx x (l.map (·.h)) 0)))
  | _, _ => none
 | _ => none
def ctHt : CtL := [(50, hitC)]
theorem ctHt_ok : CtLOk Tryz.prog ctHt := ⟨CallsOk.fn hit_body hit_read, trivial⟩
theorem ixP_read : ReadFn Tryz.prog 49 ixPC := by
 intro args M q res h0 hq O w0 w hS
 unfold ixPC at h0
 split at h0
 ·
  rename_i pa pn pc p
  split at h0
  ·
   rename_i c l c2 x y hsx hp
   cases h0
   obtain ⟨hq, hq2⟩ := hq
   have hR := ptrOf_spec (g := true) hS hp hq2
   obtain ⟨hn, hl, _⟩ := comeIn_spec hsx hq
   have hf : (AV.fn 50 (.cons (.ptr p) .nil)).val = (AV.fn 50 (.cons (roP 901 p.b p.cell 2) .nil)).val := by
    rw [fn_val, fn_val]
    show Value.func _ _ #[(AV.ptr p).val] = Value.func _ _ #[(roP 901 p.b p.cell 2).val]
    rw [pt_ro p 901 2]
   rcases comeIn_ro (cap := pc) hS hsx hq with ⟨base, hv, hro⟩ | ⟨rfl, rfl⟩
   ·
    have hro : (roB base 3 pn (pstE l)).holds w := hro
    rw [show [.v (.slice pa pn pc), AV.fn 50 (.cons (.ptr p) .nil)].map AV.val = [roS 900 base 3 pn pc, AV.fn 50 (.cons (roP 901 p.b p.cell 2) .nil)].map AV.val by simp only [List.map_cons, List.map_nil, hf, roS_val, AV.val_v, hv]]
    refine ro_fn tabs2 ctHt_ok (cr := []) trivial Tryz.func49 rfl rfl (M := [(900, roB base 3 pn (pstE l)), (901, roB (some (p.b, p.cell)) 2 1 fun _ => .agg (.cons (.v (.int .u64 x)) (.cons (.v (.int .u64 y)) .nil)))]) rfl ⟨roB_noOwn, roB_noOwn, trivial⟩ ⟨hro, roB_holds fun _ => ⟨_, _, rfl, hR⟩, trivial⟩ ?_
    repeat (first | refine qs_ ?_ | refine qa_ ?_ | refine qo_ ?_ | refine qd_ ?_ | refine za ?_ | refine zb fun _ _ => ?_ | refine zc ?_ | refine ya ?_ | refine yb fun _ _ => ?_ | refine yc ?_ | refine qk_ ?_ | refine qb_ ?_ | refine qx_ ?_)
    refine s_loopW (α := Nat) [5, 8, 9, 10, 11, 12, 13, 14, 15, 16, 17, 18] [] (fun k => k ≤ pn ∧ ∀ j, j < k → ((l.map (·.h)).getD j 0 == x) = false) (fun k => [(8, none, .v (.int .i64 k))]) (fun _ => []) (fun k => pn - k) 0 ⟨Nat.zero_le _, fun j hj => absurd hj (Nat.not_lt_zero j)⟩ ?_ ?_
    ·
     exact leQ
    ·
     intro k ⟨hk, hno⟩
     repeat (first | refine qs_ ?_ | refine qa_ ?_ | refine qo_ ?_ | refine qd_ ?_ | refine za ?_ | refine zb fun _ _ => ?_ | refine zc ?_ | refine ya ?_ | refine yb fun _ _ => ?_ | refine yc ?_ | refine qk_ ?_ | refine qb_ ?_ | refine qx_ ?_)
     refine s_cond (b := decide ((k : Int) < (pn : Int))) rfl (fun hb2 => ?_) (fun hb2 => ?_)
     ·
      have hk8 : k < pn := by have := of_decide_eq_true hb2; omega
      repeat (first | refine qs_ ?_ | refine qa_ ?_ | refine qo_ ?_ | refine qd_ ?_ | refine za ?_ | refine zb fun _ _ => ?_ | refine zc ?_ | refine ya ?_ | refine yb fun _ _ => ?_ | refine yc ?_ | refine qk_ ?_ | refine qb_ ?_ | refine qx_ ?_)
      refine s_cond (b := ((l.getD k default).h == x)) rfl (fun h9 => ?_) (fun h9 => ?_)
      ·
       repeat (first | refine qs_ ?_ | refine qa_ ?_ | refine qo_ ?_ | refine qd_ ?_ | refine za ?_ | refine zb fun _ _ => ?_ | refine zc ?_ | refine ya ?_ | refine yb fun _ _ => ?_ | refine yc ?_ | refine qk_ ?_ | refine qb_ ?_ | refine qx_ ?_)
       refine s_ret ?_
       refine ⟨_, _, rfl, ⟨trivial, trivial⟩, rfl, ?_⟩
       rw [numIx_at (k := k) (by rw [List.length_map, hl]; exact hk8) hno (by rw [pst_get]; exact h9), Nat.zero_add]
       rfl
      ·
       repeat (first | refine qs_ ?_ | refine qa_ ?_ | refine qo_ ?_ | refine qd_ ?_ | refine za ?_ | refine zb fun _ _ => ?_ | refine zc ?_ | refine ya ?_ | refine yb fun _ _ => ?_ | refine yc ?_ | refine qk_ ?_ | refine qb_ ?_ | refine qx_ ?_)
       refine ⟨k + 1, ⟨by omega, fun j hj => ?_⟩, by omega, ?_⟩
       ·
        rcases Nat.lt_or_ge j k with h1 | h1
        ·
         exact hno j h1
        ·
         rw [show j = k by omega, pst_get]; exact h9
       ·
        exact leQ
     ·
      have hk8 : k = pn := by have := of_decide_eq_false hb2; omega
      repeat (first | refine qs_ ?_ | refine qa_ ?_ | refine qo_ ?_ | refine qd_ ?_ | refine za ?_ | refine zb fun _ _ => ?_ | refine zc ?_ | refine ya ?_ | refine yb fun _ _ => ?_ | refine yc ?_ | refine qk_ ?_ | refine qb_ ?_ | refine qx_ ?_)
      refine s_ret ?_
      refine ⟨_, _, rfl, ⟨trivial, trivial⟩, rfl, ?_⟩
      rw [numIx_no (by rw [List.length_map, hl, ← hk8]; exact hno)]
      rfl
   ·
    rw [show [.v (.slice pa 0 pc), AV.fn 50 (.cons (.ptr p) .nil)].map AV.val = [.v (.slice pa 0 pc), AV.fn 50 (.cons (roP 901 p.b p.cell 2) .nil)].map AV.val by simp only [List.map_cons, List.map_nil, hf]]
    refine ro_fn tabs2 ctHt_ok (cr := []) trivial Tryz.func49 rfl rfl (M := [(901, roB (some (p.b, p.cell)) 2 1 fun _ => .agg (.cons (.v (.int .u64 x)) (.cons (.v (.int .u64 y)) .nil)))]) rfl ⟨roB_noOwn, trivial⟩ ⟨roB_holds fun _ => ⟨_, _, rfl, hR⟩, trivial⟩ ?_
    repeat (first | refine qs_ ?_ | refine qa_ ?_ | refine qo_ ?_ | refine qd_ ?_ | refine za ?_ | refine zb fun _ _ => ?_ | refine zc ?_ | refine ya ?_ | refine yb fun _ _ => ?_ | refine yc ?_ | refine qk_ ?_ | refine qb_ ?_ | refine qx_ ?_)
    refine s_loopW (α := Unit) [5, 8, 9, 10, 11, 12, 13, 14, 15, 16, 17, 18] [] (fun _ => True) (fun _ => [(8, none, .v (.int .i64 0))]) (fun _ => []) (fun _ => 0) () trivial ?_ ?_
    ·
     exact leQ
    ·
     intro _ _
     repeat (first | refine qs_ ?_ | refine qa_ ?_ | refine qo_ ?_ | refine qd_ ?_ | refine za ?_ | refine zb fun _ _ => ?_ | refine zc ?_ | refine ya ?_ | refine yb fun _ _ => ?_ | refine yc ?_ | refine qk_ ?_ | refine qb_ ?_ | refine qx_ ?_)
     refine s_cond (b := false) rfl (fun hb => by cases hb) (fun _ => ?_)
     repeat (first | refine qs_ ?_ | refine qa_ ?_ | refine qo_ ?_ | refine qd_ ?_ | refine za ?_ | refine zb fun _ _ => ?_ | refine zc ?_ | refine ya ?_ | refine yb fun _ _ => ?_ | refine yc ?_ | refine qk_ ?_ | refine qb_ ?_ | refine qx_ ?_)
     refine s_ret ?_
     exact ⟨_, _, rfl, ⟨trivial, trivial⟩, rfl, rfl⟩
  ·
   cases h0
 ·
  cases h0
theorem ixP_body : HasBody Tryz.prog 49 := ⟨_, Tryz.func49, rfl, by decide⟩
def dpastC (args : List AV) (M : MemF) : Option (Prop × AV) := match args with
 | [S, .v (.int .u64 x)] => match decS S with
  | some s => match pstV M s.a3 s.n3 with
   | some (c, l) => some (c, .v (.int .i64 (numIx x (l.map (·.h)) 0)))
   | none => none
  | none => none
 | _ => none
theorem encSP_val (s : StV) {X : AV} (hx : X.cells = [X.val]) (hv : X.val = .slice s.a3 s.n3 s.c3) : (encS s).cells = (encSP s X).cells := by
 simp only [encS, encSP, AV.cells_agg, AV.cells_cons, hx, hv]
 rfl
theorem encSQ_val (s : StV) {X : AV} (hx : X.cells = [X.val]) (hv : X.val = .slice s.a4 s.n4 s.c4) : (encS s).cells = (encSQ s X).cells := by
 simp only [encS, encSQ, AV.cells_agg, AV.cells_cons, hx, hv]
 rfl
theorem roS_cells (n : Nat) (base : Option (Nat × Nat)) (es len cap : Nat) : (roS n base es len cap).cells = [(roS n base es len cap).val] := rfl
theorem dpast_read : ReadFn Tryz.prog 58 dpastC := by
 intro args M q res h0 hq O w0 w hS
 unfold dpastC at h0
 split at h0
 ·
  rename_i S x
  split at h0
  ·
   rename_i s hs
   have hs := decS_enc hs
   subst hs
   split at h0
   ·
    rename_i c l hsx
    cases h0
    obtain ⟨hn, hl, _⟩ := comeIn_spec hsx hq
    obtain ⟨pn, hpn⟩ : ∃ pn, pn = s.n3 := ⟨_, rfl⟩
    rw [← hpn] at hn hl
    rcases comeIn_ro (cap := s.c3) hS hsx hq with ⟨base, hv, hro⟩ | ⟨h00, rfl⟩
    ·
     have hro : (roB base 3 s.n3 (pstE l)).holds w := hro
     rw [← hpn] at hro hv
     have hsv : (encS s).val = (encSP s (roS 900 base 3 pn s.c3)).val := by
      rw [show (encS s).val = .agg (encS s).cells.toArray from rfl, encSP_val s (roS_cells _ _ _ _ _) ((roS_val _ _ _ _ _).trans (by rw [← hpn]; exact hv.symm))]
      rfl
     rw [show [encS s, .v (.int .u64 x)].map AV.val = [encSP s (roS 900 base 3 pn s.c3), .v (.int .u64 x)].map AV.val by simp only [List.map_cons, List.map_nil, hsv]]
     refine ro_fn tabs2 (ct := []) trivial (cr := []) trivial Tryz.func58 rfl rfl (M := [(900, roB base 3 pn (pstE l))]) rfl ⟨roB_noOwn, trivial⟩ ⟨hro, trivial⟩ ?_
     repeat (first | refine qs_ ?_ | refine qa_ ?_ | refine qo_ ?_ | refine qd_ ?_ | refine za ?_ | refine zb fun _ _ => ?_ | refine zc ?_ | refine ya ?_ | refine yb fun _ _ => ?_ | refine yc ?_ | refine qk_ ?_ | refine qb_ ?_ | refine qx_ ?_)
     refine s_loopW (α := Nat) [5, 6, 7, 8, 9, 10, 11, 12, 13, 14, 15, 16, 17, 18, 19, 20, 21] [] (fun k => k ≤ pn ∧ ∀ j, j < k → ((l.map (·.h)).getD j 0 == x) = false) (fun k => [(5, none, .v (.int .i64 k))]) (fun _ => []) (fun k => pn - k) 0 ⟨Nat.zero_le _, fun j hj => absurd hj (Nat.not_lt_zero j)⟩ ?_ ?_
     ·
      exact leQ
     ·
      intro k ⟨hk, hno⟩
      repeat (first | refine qs_ ?_ | refine qa_ ?_ | refine qo_ ?_ | refine qd_ ?_ | refine za ?_ | refine zb fun _ _ => ?_ | refine zc ?_ | refine ya ?_ | refine yb fun _ _ => ?_ | refine yc ?_ | refine qk_ ?_ | refine qb_ ?_ | refine qx_ ?_)
      refine s_cond (b := decide ((k : Int) < (pn : Int))) rfl (fun hb2 => ?_) (fun hb2 => ?_)
      ·
       have hk8 : k < pn := by have := of_decide_eq_true hb2; omega
       repeat (first | refine qs_ ?_ | refine qa_ ?_ | refine qo_ ?_ | refine qd_ ?_ | refine za ?_ | refine zb fun _ _ => ?_ | refine zc ?_ | refine ya ?_ | refine yb fun _ _ => ?_ | refine yc ?_ | refine qk_ ?_ | refine qb_ ?_ | refine qx_ ?_)
       refine s_cond (b := ((l.getD k default).h == x)) rfl (fun h9 => ?_) (fun h9 => ?_)
       ·
        repeat (first | refine qs_ ?_ | refine qa_ ?_ | refine qo_ ?_ | refine qd_ ?_ | refine za ?_ | refine zb fun _ _ => ?_ | refine zc ?_ | refine ya ?_ | refine yb fun _ _ => ?_ | refine yc ?_ | refine qk_ ?_ | refine qb_ ?_ | refine qx_ ?_)
        refine s_ret ?_
        refine ⟨_, _, rfl, ⟨trivial, trivial⟩, rfl, ?_⟩
        rw [numIx_at (k := k) (by rw [List.length_map, hl]; exact hk8) hno (by rw [pst_get]; exact h9), Nat.zero_add]
        rfl
       ·
        repeat (first | refine qs_ ?_ | refine qa_ ?_ | refine qo_ ?_ | refine qd_ ?_ | refine za ?_ | refine zb fun _ _ => ?_ | refine zc ?_ | refine ya ?_ | refine yb fun _ _ => ?_ | refine yc ?_ | refine qk_ ?_ | refine qb_ ?_ | refine qx_ ?_)
        refine ⟨k + 1, ⟨by omega, fun j hj => ?_⟩, by omega, ?_⟩
        ·
         rcases Nat.lt_or_ge j k with h1 | h1
         ·
          exact hno j h1
         ·
          rw [show j = k by omega, pst_get]; exact h9
        ·
         exact leQ
      ·
       have hk8 : k = pn := by have := of_decide_eq_false hb2; omega
       repeat (first | refine qs_ ?_ | refine qa_ ?_ | refine qo_ ?_ | refine qd_ ?_ | refine za ?_ | refine zb fun _ _ => ?_ | refine zc ?_ | refine ya ?_ | refine yb fun _ _ => ?_ | refine yc ?_ | refine qk_ ?_ | refine qb_ ?_ | refine qx_ ?_)
       refine s_ret ?_
       refine ⟨_, _, rfl, ⟨trivial, trivial⟩, rfl, ?_⟩
       rw [numIx_no (by rw [List.length_map, hl, ← hk8]; exact hno)]
       rfl
    ·
     have hpn0 : pn = 0 := hpn.trans h00
     subst hpn0
     have hsv : (encS s).val = (encSP s (.v (.slice s.a3 0 s.c3))).val := by
      rw [show (encS s).val = .agg (encS s).cells.toArray from rfl, encSP_val s (X := .v (.slice s.a3 0 s.c3)) rfl (by rw [← hpn]; rfl)]
      rfl
     rw [show [encS s, .v (.int .u64 x)].map AV.val = [encSP s (.v (.slice s.a3 0 s.c3)), .v (.int .u64 x)].map AV.val by simp only [List.map_cons, List.map_nil, hsv]]
     refine ro_fn tabs2 (ct := []) trivial (cr := []) trivial Tryz.func58 rfl rfl (M := []) rfl trivial trivial ?_
     repeat (first | refine qs_ ?_ | refine qa_ ?_ | refine qo_ ?_ | refine qd_ ?_ | refine za ?_ | refine zb fun _ _ => ?_ | refine zc ?_ | refine ya ?_ | refine yb fun _ _ => ?_ | refine yc ?_ | refine qk_ ?_ | refine qb_ ?_ | refine qx_ ?_)
     refine s_loopW (α := Unit) [5, 6, 7, 8, 9, 10, 11, 12, 13, 14, 15, 16, 17, 18, 19, 20, 21] [] (fun _ => True) (fun _ => [(5, none, .v (.int .i64 0))]) (fun _ => []) (fun _ => 0) () trivial ?_ ?_
     ·
      exact leQ
     ·
      intro _ _
      repeat (first | refine qs_ ?_ | refine qa_ ?_ | refine qo_ ?_ | refine qd_ ?_ | refine za ?_ | refine zb fun _ _ => ?_ | refine zc ?_ | refine ya ?_ | refine yb fun _ _ => ?_ | refine yc ?_ | refine qk_ ?_ | refine qb_ ?_ | refine qx_ ?_)
      refine s_cond (b := false) rfl (fun hb => by cases hb) (fun _ => ?_)
      repeat (first | refine qs_ ?_ | refine qa_ ?_ | refine qo_ ?_ | refine qd_ ?_ | refine za ?_ | refine zb fun _ _ => ?_ | refine zc ?_ | refine ya ?_ | refine yb fun _ _ => ?_ | refine yc ?_ | refine qk_ ?_ | refine qb_ ?_ | refine qx_ ?_)
      refine s_ret ?_
      exact ⟨_, _, rfl, ⟨trivial, trivial⟩, rfl, rfl⟩
   ·
    cases h0
  ·
   cases h0
 ·
  cases h0
theorem dpast_body : HasBody Tryz.prog 58 := ⟨_, Tryz.func58, rfl, by decide⟩
def cntF (s : StV) (h : Int) : Bool := (decide (h ≥ 1) && decide (h ≤ s.h)) && decide (IntKind.u64.wrap (s.h - h) < s.p4)
def cntC (args : List AV) (_M : MemF) : Option (Prop × AV) := match args with
 | [S, .v (.int .u64 h)] => match decS S with
  | some s => some (True, .v (.bool (cntF s h)))
  | none => none
 | _ => none
theorem cnt_read : ReadFn Tryz.prog 51 cntC := by
 intro args M q res h0 hq O w0 w hS
 unfold cntC at h0
 split at h0
 ·
  rename_i S h
  split at h0
  ·
   rename_i s hs
   have hs := decS_enc hs
   subst hs
   cases h0
   refine ro_fn tabs2 (ct := []) trivial (cr := []) trivial Tryz.func51 rfl rfl (M := []) rfl trivial trivial ?_
   repeat (first | refine qs_ ?_ | refine qa_ ?_ | refine qo_ ?_ | refine qd_ ?_ | refine za ?_ | refine zb fun _ _ => ?_ | refine zc ?_ | refine ya ?_ | refine yb fun _ _ => ?_ | refine yc ?_ | refine qk_ ?_ | refine qb_ ?_ | refine qx_ ?_)
   refine s_ret ?_
   exact ⟨_, _, rfl, ⟨trivial, trivial⟩, rfl, rfl⟩
  ·
   cases h0
 ·
  cases h0
theorem cnt_body : HasBody Tryz.prog 51 := ⟨_, Tryz.func51, rfl, by decide⟩
theorem dcnt_read : ReadFn Tryz.prog 59 cntC := by
 intro args M q res h0 hq O w0 w hS
 unfold cntC at h0
 split at h0
 ·
  rename_i S h
  split at h0
  ·
   rename_i s hs
   have hs := decS_enc hs
   subst hs
   cases h0
   refine ro_fn tabs2 (ct := []) trivial (cr := []) trivial Tryz.func59 rfl rfl (M := []) rfl trivial trivial ?_
   repeat (first | refine qs_ ?_ | refine qa_ ?_ | refine qo_ ?_ | refine qd_ ?_ | refine za ?_ | refine zb fun _ _ => ?_ | refine zc ?_ | refine ya ?_ | refine yb fun _ _ => ?_ | refine yc ?_ | refine qk_ ?_ | refine qb_ ?_ | refine qx_ ?_)
   refine s_cond (b := decide (h < 1) || decide (h > s.h)) rfl (fun hb => ?_) (fun hb => ?_)
   ·
    repeat (first | refine qs_ ?_ | refine qa_ ?_ | refine qo_ ?_ | refine qd_ ?_ | refine za ?_ | refine zb fun _ _ => ?_ | refine zc ?_ | refine ya ?_ | refine yb fun _ _ => ?_ | refine yc ?_ | refine qk_ ?_ | refine qb_ ?_ | refine qx_ ?_)
    refine s_ret ?_
    refine ⟨_, _, rfl, ⟨trivial, trivial⟩, rfl, ?_⟩
    have : cntF s h = false := by
     unfold cntF
     simp at hb ⊢
     omega
    rw [this]; rfl
   ·
    repeat (first | refine qs_ ?_ | refine qa_ ?_ | refine qo_ ?_ | refine qd_ ?_ | refine za ?_ | refine zb fun _ _ => ?_ | refine zc ?_ | refine ya ?_ | refine yb fun _ _ => ?_ | refine yc ?_ | refine qk_ ?_ | refine qb_ ?_ | refine qx_ ?_)
    refine s_ret ?_
    refine ⟨_, _, rfl, ⟨trivial, trivial⟩, rfl, ?_⟩
    have : cntF s h = decide (IntKind.u64.wrap (s.h - h) < s.p4) := by
     unfold cntF
     simp at hb
     rw [decide_eq_true (show h ≥ 1 by omega), decide_eq_true (show h ≤ s.h by omega)]
     rfl
    rw [this]; rfl
  ·
   cases h0
 ·
  cases h0
theorem dcnt_body : HasBody Tryz.prog 59 := ⟨_, Tryz.func59, rfl, by decide⟩
def doneC (args : List AV) (M : MemF) : Option (Prop × AV) := match args with
 | [S, .agg (.cons (.v (.int .u64 h)) (.cons (.v (.int .u64 a)) .nil))] => match decS S with
  | some s => match comeIn M 90002 2 off1 offX s.a4 s.n4 with
   | some (c, l) => some (c, .v (.bool (decide (offIx (h, a) l 0 ≥ 0))))
   | none => none
  | none => none
 | _ => none
def ctCn : CtL := [(108, contC)]
theorem ctCn_ok : CtLOk Tryz.prog ctCn := ⟨CallsOk.fn cont_body cont_read, trivial⟩
theorem comeIn_entry {M : MemF} {tag es : Nat} {α : Type} {dec : AV → α} {enc : α → AV} {a : Option Addr} {n : Nat} {c : Prop} {l : List α} (h : comeIn M tag es dec enc a n = some (c, l)) : ∃ es' base len f, M tag = some (.vro es' base len f) ∧ ∀ M' : MemF, M' tag = some (.vro es' base len f) → comeIn M' tag es dec enc a n = some (c, l) := by
 unfold comeIn at h
 split at h
 ·
  rename_i es' base len f hM
  refine ⟨es', base, len, f, hM, fun M' hM' => ?_⟩
  unfold comeIn
  rw [hM']
  exact h
 ·
  cases h
theorem done_read : ReadFn Tryz.prog 53 doneC := by
 intro args M q res h0 hq O w0 w hS
 unfold doneC at h0
 split at h0
 ·
  rename_i S h a
  split at h0
  ·
   rename_i s hs
   have hs := decS_enc hs
   subst hs
   split at h0
   ·
    rename_i c l hsx
    cases h0
    obtain ⟨es', base, len, f, hM, hal⟩ := comeIn_entry hsx
    have hh := hS.holds _ _ hM
    unfold comeIn at hsx
    rw [hM] at hsx
    cases hsx
    refine ro_fn tabs2 ctCn_ok (cr := []) trivial Tryz.func53 rfl rfl (M := [(90002, .vro es' base len f)]) rfl ⟨fun _ h => h, trivial⟩ ⟨hh, trivial⟩ ?_
    repeat (first | refine qs_ ?_ | refine qa_ ?_ | refine qo_ ?_ | refine qd_ ?_ | refine za ?_ | refine zb fun _ _ => ?_ | refine zc ?_ | refine ya ?_ | refine yb fun _ _ => ?_ | refine yc ?_ | refine qk_ ?_ | refine qb_ ?_ | refine qx_ ?_)
    refine o_val rfl rfl trivial ⟨?_, hq⟩ ?_
    ·
     (repeat' (first | trivial | apply And.intro))
    repeat (first | refine qs_ ?_ | refine qa_ ?_ | refine qo_ ?_ | refine qd_ ?_ | refine za ?_ | refine zb fun _ _ => ?_ | refine zc ?_ | refine ya ?_ | refine yb fun _ _ => ?_ | refine yc ?_ | refine qk_ ?_ | refine qb_ ?_ | refine qx_ ?_)
    refine s_ret ?_
    exact ⟨_, _, rfl, ⟨trivial, trivial⟩, rfl, rfl⟩
   ·
    cases h0
  ·
   cases h0
 ·
  cases h0
theorem done_body : HasBody Tryz.prog 53 := ⟨_, Tryz.func53, rfl, by decide⟩
end Go.Proofs.YtofophjfgalhaaaGreatDoor.V
