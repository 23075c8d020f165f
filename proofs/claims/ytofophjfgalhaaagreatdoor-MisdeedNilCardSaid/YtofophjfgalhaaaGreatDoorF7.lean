import Derived.Test.YtofophjfgalhaaaGreatDoorF6
/-! Pools that New has not made; no registry. -/
namespace Go.Proofs.YtofophjfgalhaaaGreatDoor.D
open Go
set_option maxRecDepth 100000
/-- a state, its lists as they come in -/
structure St where
  nm : ByteArray
  p0 : Int
  p1 : Int
  p2 : Int
  p3 : Int
  p4 : Int
  p5 : Int
  p6 : Int
  p7 : Int
  p8 : Int
  p9 : Int
  p10 : Int
  p11 : Int
  h : Int
  t : Int
  id : List Int
  a1 : Option Addr
  n1 : Nat
  c1 : Nat
  a2 : Option Addr
  n2 : Nat
  c2 : Nat
  a3 : Option Addr
  n3 : Nat
  c3 : Nat
  a4 : Option Addr
  n4 : Nat
  c4 : Nat
  a5 : Option Addr
  n5 : Nat
  c5 : Nat
  a6 : Option Addr
  n6 : Nat
  c6 : Nat
  u : Int
  v : Int
def encSt (s : St) : AV := .agg (.cons (.v (.string s.nm)) (.cons (.agg (.cons (.v (.int .u64 s.p0)) (.cons (.v (.int .i64 s.p1)) (.cons (.v (.int .u64 s.p2)) (.cons (.v (.int .u64 s.p3)) (.cons (.v (.int .u64 s.p4)) (.cons (.v (.int .i64 s.p5)) (.cons (.v (.int .u64 s.p6)) (.cons (.v (.int .u64 s.p7)) (.cons (.v (.int .u64 s.p8)) (.cons (.v (.int .u64 s.p9)) (.cons (.v (.int .u64 s.p10)) (.cons (.v (.int .u64 s.p11)) .nil))))))))))))) (.cons (.v (.int .u64 s.h)) (.cons (.v (.int .u64 s.t)) (.cons (.ints .u8 32 s.id) (.cons (.agg (.cons (.v (.slice s.a1 s.n1 s.c1)) .nil)) (.cons (.agg (.cons (.v (.slice s.a2 s.n2 s.c2)) .nil)) (.cons (.v (.slice s.a3 s.n3 s.c3)) (.cons (.v (.slice s.a4 s.n4 s.c4)) (.cons (.agg (.cons (.v (.slice s.a5 s.n5 s.c5)) (.cons (.v (.slice s.a6 s.n6 s.c6)) (.cons (.v (.int .u64 s.u)) (.cons (.v (.int .u64 s.v)) .nil))))) .nil))))))))))
def decSt : AV → Option St
  | .agg (.cons (.v (.string nm)) (.cons (.agg (.cons (.v (.int .u64 p0)) (.cons (.v (.int .i64 p1)) (.cons (.v (.int .u64 p2)) (.cons (.v (.int .u64 p3)) (.cons (.v (.int .u64 p4)) (.cons (.v (.int .i64 p5)) (.cons (.v (.int .u64 p6)) (.cons (.v (.int .u64 p7)) (.cons (.v (.int .u64 p8)) (.cons (.v (.int .u64 p9)) (.cons (.v (.int .u64 p10)) (.cons (.v (.int .u64 p11)) .nil))))))))))))) (.cons (.v (.int .u64 h)) (.cons (.v (.int .u64 t)) (.cons (.ints .u8 32 id) (.cons (.agg (.cons (.v (.slice a1 n1 c1)) .nil)) (.cons (.agg (.cons (.v (.slice a2 n2 c2)) .nil)) (.cons (.v (.slice a3 n3 c3)) (.cons (.v (.slice a4 n4 c4)) (.cons (.agg (.cons (.v (.slice a5 n5 c5)) (.cons (.v (.slice a6 n6 c6)) (.cons (.v (.int .u64 u)) (.cons (.v (.int .u64 v)) .nil))))) .nil)))))))))) => some ⟨nm, p0, p1, p2, p3, p4, p5, p6, p7, p8, p9, p10, p11, h, t, id, a1, n1, c1, a2, n2, c2, a3, n3, c3, a4, n4, c4, a5, n5, c5, a6, n6, c6, u, v⟩
  | _ => none
theorem decSt_enc {a : AV} {x : St} (h : decSt a = some x) : a = encSt x := by
  unfold decSt at h
  split at h
  · cases h; rfl
  · cases h
def decE : AV → Option (Vote × Vote)
  | .agg (.cons a (.cons b .nil)) => match decV a, decV b with
    | some x, some y => some (x, y)
    | _, _ => none
  | _ => none
theorem decE_enc {a : AV} {x : Vote × Vote} (h : decE a = some x) : a = encE x := by
  unfold decE at h
  split at h
  · split at h
    · rename_i a b x y h1 h2
      cases h
      rw [decV_enc h1, decV_enc h2]; rfl
    · cases h
  · cases h

def madeC : List AV → Option (Prop × AV)
  | [.v (.pointer none)] => some (True, .v (.bool false))
  | _ => none
theorem made_pure : PureFn Tryz.prog 47 madeC := by
  intro args q res h hq w
  unfold madeC at h
  split at h
  · cases h
    refine pure_fn tb_ok eqs_ok (ct := []) trivial mixed Tryz.func47 rfl rfl ?_
    repeat (first
      | refine s_seq ?_
      | refine s_region ?_
      | refine o_val rfl rfl trivial ?_
      | (refine o_val rfl rfl ?hc ?_; (case hc => (first | (simp only [need, imp, needIf]; done) | ((try simp only [need, imp, needIf]); (repeat' apply And.intro) <;> (first | trivial | rfl | omega | (simp; done) | (simp; omega))))))
      | refine o_new rfl rfl trivial (fun _ => ?_)
      | (refine o_new rfl rfl ?hc (fun _ => ?_); (case hc => (first | (simp only [need, imp, needIf]; done) | ((try simp only [need, imp, needIf]); (repeat' apply And.intro) <;> (first | trivial | rfl | omega | (simp; done) | (simp; omega))))))
      | refine d_val rfl rfl trivial ?_
      | (refine d_val rfl rfl ?hc ?_; (case hc => (first | (simp only [need, imp, needIf]; done) | ((try simp only [need, imp, needIf]); (repeat' apply And.intro) <;> (first | trivial | rfl | omega | (simp; done) | (simp; omega))))))
      | refine d_new rfl rfl trivial rfl (fun _ => ?_)
      | (refine d_new rfl rfl ?hc rfl (fun _ => ?_); (case hc => (first | (simp only [need, imp, needIf]; done) | ((try simp only [need, imp, needIf]); (repeat' apply And.intro) <;> (first | trivial | rfl | omega | (simp; done) | (simp; omega))))))
      | refine o_eff (e_store rfl rfl rfl rfl rfl rfl rfl trivial ?_)
      | (refine o_eff (e_store rfl rfl rfl rfl rfl rfl rfl ?hc ?_); (case hc => (first | (simp only [need, imp, needIf]; done) | ((try simp only [need, imp, needIf]); (repeat' apply And.intro) <;> (first | trivial | rfl | omega | (simp; done) | (simp; omega))))))
      | refine o_nil ?_
      | refine d_nil ?_
      | refine s_skip ?_
      | refine s_block ?_
      | refine s_exit ?_
      | refine s_label ?_)
    refine s_cond (b := true) rfl (fun _ => ?_) (fun h => by cases h)
    repeat (first
      | refine s_seq ?_
      | refine s_region ?_
      | refine o_val rfl rfl trivial ?_
      | (refine o_val rfl rfl ?hc ?_; (case hc => (first | (simp only [need, imp, needIf]; done) | ((try simp only [need, imp, needIf]); (repeat' apply And.intro) <;> (first | trivial | rfl | omega | (simp; done) | (simp; omega))))))
      | refine o_new rfl rfl trivial (fun _ => ?_)
      | (refine o_new rfl rfl ?hc (fun _ => ?_); (case hc => (first | (simp only [need, imp, needIf]; done) | ((try simp only [need, imp, needIf]); (repeat' apply And.intro) <;> (first | trivial | rfl | omega | (simp; done) | (simp; omega))))))
      | refine d_val rfl rfl trivial ?_
      | (refine d_val rfl rfl ?hc ?_; (case hc => (first | (simp only [need, imp, needIf]; done) | ((try simp only [need, imp, needIf]); (repeat' apply And.intro) <;> (first | trivial | rfl | omega | (simp; done) | (simp; omega))))))
      | refine d_new rfl rfl trivial rfl (fun _ => ?_)
      | (refine d_new rfl rfl ?hc rfl (fun _ => ?_); (case hc => (first | (simp only [need, imp, needIf]; done) | ((try simp only [need, imp, needIf]); (repeat' apply And.intro) <;> (first | trivial | rfl | omega | (simp; done) | (simp; omega))))))
      | refine o_eff (e_store rfl rfl rfl rfl rfl rfl rfl trivial ?_)
      | (refine o_eff (e_store rfl rfl rfl rfl rfl rfl rfl ?hc ?_); (case hc => (first | (simp only [need, imp, needIf]; done) | ((try simp only [need, imp, needIf]); (repeat' apply And.intro) <;> (first | trivial | rfl | omega | (simp; done) | (simp; omega))))))
      | refine o_nil ?_
      | refine d_nil ?_
      | refine s_skip ?_
      | refine s_block ?_
      | refine s_exit ?_
      | refine s_label ?_)
    refine s_ret ?_
    exact ⟨_, _, rfl, ⟨trivial, trivial⟩, rfl⟩
  · cases h
theorem made_body : HasBody Tryz.prog 47 := ⟨_, Tryz.func47, rfl, by decide⟩

def ct9 : CtL := [(47, fun a _ => madeC a)]
theorem ct9_ok : CtLOk Tryz.prog ct9 := ⟨.fn made_body made_pure.read, trivial⟩
def verC : List AV → Option (Prop × AV)
  | [s, .v (.pointer none), e] => match decSt s, decE e with
    | some _, some _ => some (True, .v (.int .i64 1))
    | _, _ => none
  | _ => none
set_option maxHeartbeats 4000000 in
theorem ver_pure : PureFn Tryz.prog 12 verC := by
  intro args q res h hq w
  unfold verC at h
  split at h
  · split at h
    · rename_i s e x y hx hy
      cases h
      have h1 := decSt_enc hx
      have h2 := decE_enc hy
      subst h1 h2
      refine pure_fn tb_ok eqs_ok ct9_ok mixed Tryz.func12 rfl rfl ?_
      repeat (first
        | refine s_seq ?_
        | refine s_region ?_
        | refine o_val rfl rfl trivial ?_
        | (refine o_val rfl rfl ?hc ?_; (case hc => (first | (simp only [need, imp, needIf]; done) | ((try simp only [need, imp, needIf]); (repeat' apply And.intro) <;> (first | trivial | rfl | omega | (simp; done) | (simp; omega))))))
        | refine o_new rfl rfl trivial (fun _ => ?_)
        | (refine o_new rfl rfl ?hc (fun _ => ?_); (case hc => (first | (simp only [need, imp, needIf]; done) | ((try simp only [need, imp, needIf]); (repeat' apply And.intro) <;> (first | trivial | rfl | omega | (simp; done) | (simp; omega))))))
        | refine d_val rfl rfl trivial ?_
        | (refine d_val rfl rfl ?hc ?_; (case hc => (first | (simp only [need, imp, needIf]; done) | ((try simp only [need, imp, needIf]); (repeat' apply And.intro) <;> (first | trivial | rfl | omega | (simp; done) | (simp; omega))))))
        | refine d_new rfl rfl trivial rfl (fun _ => ?_)
        | (refine d_new rfl rfl ?hc rfl (fun _ => ?_); (case hc => (first | (simp only [need, imp, needIf]; done) | ((try simp only [need, imp, needIf]); (repeat' apply And.intro) <;> (first | trivial | rfl | omega | (simp; done) | (simp; omega))))))
        | refine o_eff (e_store rfl rfl rfl rfl rfl rfl rfl trivial ?_)
        | (refine o_eff (e_store rfl rfl rfl rfl rfl rfl rfl ?hc ?_); (case hc => (first | (simp only [need, imp, needIf]; done) | ((try simp only [need, imp, needIf]); (repeat' apply And.intro) <;> (first | trivial | rfl | omega | (simp; done) | (simp; omega))))))
        | refine o_nil ?_
        | refine d_nil ?_
        | refine s_skip ?_
        | refine s_block ?_
        | refine s_exit ?_
        | refine s_label ?_)
      refine s_cond (b := true) rfl (fun _ => ?_) (fun h => by cases h)
      repeat (first
        | refine s_seq ?_
        | refine s_region ?_
        | refine o_val rfl rfl trivial ?_
        | (refine o_val rfl rfl ?hc ?_; (case hc => (first | (simp only [need, imp, needIf]; done) | ((try simp only [need, imp, needIf]); (repeat' apply And.intro) <;> (first | trivial | rfl | omega | (simp; done) | (simp; omega))))))
        | refine o_new rfl rfl trivial (fun _ => ?_)
        | (refine o_new rfl rfl ?hc (fun _ => ?_); (case hc => (first | (simp only [need, imp, needIf]; done) | ((try simp only [need, imp, needIf]); (repeat' apply And.intro) <;> (first | trivial | rfl | omega | (simp; done) | (simp; omega))))))
        | refine d_val rfl rfl trivial ?_
        | (refine d_val rfl rfl ?hc ?_; (case hc => (first | (simp only [need, imp, needIf]; done) | ((try simp only [need, imp, needIf]); (repeat' apply And.intro) <;> (first | trivial | rfl | omega | (simp; done) | (simp; omega))))))
        | refine d_new rfl rfl trivial rfl (fun _ => ?_)
        | (refine d_new rfl rfl ?hc rfl (fun _ => ?_); (case hc => (first | (simp only [need, imp, needIf]; done) | ((try simp only [need, imp, needIf]); (repeat' apply And.intro) <;> (first | trivial | rfl | omega | (simp; done) | (simp; omega))))))
        | refine o_eff (e_store rfl rfl rfl rfl rfl rfl rfl trivial ?_)
        | (refine o_eff (e_store rfl rfl rfl rfl rfl rfl rfl ?hc ?_); (case hc => (first | (simp only [need, imp, needIf]; done) | ((try simp only [need, imp, needIf]); (repeat' apply And.intro) <;> (first | trivial | rfl | omega | (simp; done) | (simp; omega))))))
        | refine o_nil ?_
        | refine d_nil ?_
        | refine s_skip ?_
        | refine s_block ?_
        | refine s_exit ?_
        | refine s_label ?_)
      refine s_ret ?_
      exact ⟨_, _, rfl, ⟨trivial, trivial⟩, rfl⟩
    · cases h
  · cases h
theorem ver_body : HasBody Tryz.prog 12 := ⟨_, Tryz.func12, rfl, by decide⟩

def ct10 : CtL := [(96, goodC), (12, fun a _ => verC a), (47, fun a _ => madeC a)]
theorem ct10_ok : CtLOk Tryz.prog ct10 := ⟨.fn good_body good_read, .fn ver_body ver_pure.read, .fn made_body made_pure.read, trivial⟩

def addC (args : List AV) (M : MemF) : Option (Prop × AV) := match args with
  | [p, s, r, e] => match decSt s, decE e with
    | some _, some _ => match p with
      | .v (.pointer none) => some (True, .v (.int .i64 1))
      | .ptr p => match poolC M p with
        | some (c, none) => some (c, .v (.int .i64 1))
        | some (c, some _) => match r with
          | .v (.pointer none) => some (c, .v (.int .i64 1))
          | _ => none
        | none => none
      | _ => none
    | _, _ => none
  | _ => none
set_option maxHeartbeats 4000000 in
theorem add_read : ReadFn Tryz.prog 28 addC := by
  intro args M q res h hq O w0 w hS
  unfold addC at h
  split at h
  · split at h
    · rename_i p s r e os oe x y hx hy
      have h1 := decSt_enc hx
      have h2 := decE_enc hy
      subst h1 h2
      split at h
      · cases h
        refine pure_fn tb_ok eqs_ok ct10_ok mixed Tryz.func28 rfl rfl ?_
        repeat (first
          | refine s_seq ?_
          | refine s_region ?_
          | refine o_val rfl rfl trivial ?_
          | (refine o_val rfl rfl ?hc ?_; (case hc => (first | (simp only [need, imp, needIf]; done) | ((try simp only [need, imp, needIf]); (repeat' apply And.intro) <;> (first | trivial | rfl | omega | (simp; done) | (simp; omega))))))
          | refine o_new rfl rfl trivial (fun _ => ?_)
          | (refine o_new rfl rfl ?hc (fun _ => ?_); (case hc => (first | (simp only [need, imp, needIf]; done) | ((try simp only [need, imp, needIf]); (repeat' apply And.intro) <;> (first | trivial | rfl | omega | (simp; done) | (simp; omega))))))
          | refine d_val rfl rfl trivial ?_
          | (refine d_val rfl rfl ?hc ?_; (case hc => (first | (simp only [need, imp, needIf]; done) | ((try simp only [need, imp, needIf]); (repeat' apply And.intro) <;> (first | trivial | rfl | omega | (simp; done) | (simp; omega))))))
          | refine d_new rfl rfl trivial rfl (fun _ => ?_)
          | (refine d_new rfl rfl ?hc rfl (fun _ => ?_); (case hc => (first | (simp only [need, imp, needIf]; done) | ((try simp only [need, imp, needIf]); (repeat' apply And.intro) <;> (first | trivial | rfl | omega | (simp; done) | (simp; omega))))))
          | refine o_eff (e_store rfl rfl rfl rfl rfl rfl rfl trivial ?_)
          | (refine o_eff (e_store rfl rfl rfl rfl rfl rfl rfl ?hc ?_); (case hc => (first | (simp only [need, imp, needIf]; done) | ((try simp only [need, imp, needIf]); (repeat' apply And.intro) <;> (first | trivial | rfl | omega | (simp; done) | (simp; omega))))))
          | refine o_nil ?_
          | refine d_nil ?_
          | refine s_skip ?_
          | refine s_block ?_
          | refine s_exit ?_
          | refine s_label ?_)
        refine s_cond (b := true) rfl (fun _ => ?_) (fun h => by cases h)
        repeat (first
          | refine s_seq ?_
          | refine s_region ?_
          | refine o_val rfl rfl trivial ?_
          | (refine o_val rfl rfl ?hc ?_; (case hc => (first | (simp only [need, imp, needIf]; done) | ((try simp only [need, imp, needIf]); (repeat' apply And.intro) <;> (first | trivial | rfl | omega | (simp; done) | (simp; omega))))))
          | refine o_new rfl rfl trivial (fun _ => ?_)
          | (refine o_new rfl rfl ?hc (fun _ => ?_); (case hc => (first | (simp only [need, imp, needIf]; done) | ((try simp only [need, imp, needIf]); (repeat' apply And.intro) <;> (first | trivial | rfl | omega | (simp; done) | (simp; omega))))))
          | refine d_val rfl rfl trivial ?_
          | (refine d_val rfl rfl ?hc ?_; (case hc => (first | (simp only [need, imp, needIf]; done) | ((try simp only [need, imp, needIf]); (repeat' apply And.intro) <;> (first | trivial | rfl | omega | (simp; done) | (simp; omega))))))
          | refine d_new rfl rfl trivial rfl (fun _ => ?_)
          | (refine d_new rfl rfl ?hc rfl (fun _ => ?_); (case hc => (first | (simp only [need, imp, needIf]; done) | ((try simp only [need, imp, needIf]); (repeat' apply And.intro) <;> (first | trivial | rfl | omega | (simp; done) | (simp; omega))))))
          | refine o_eff (e_store rfl rfl rfl rfl rfl rfl rfl trivial ?_)
          | (refine o_eff (e_store rfl rfl rfl rfl rfl rfl rfl ?hc ?_); (case hc => (first | (simp only [need, imp, needIf]; done) | ((try simp only [need, imp, needIf]); (repeat' apply And.intro) <;> (first | trivial | rfl | omega | (simp; done) | (simp; omega))))))
          | refine o_nil ?_
          | refine d_nil ?_
          | refine s_skip ?_
          | refine s_block ?_
          | refine s_exit ?_
          | refine s_label ?_)
        refine s_ret ?_
        exact ⟨_, _, rfl, ⟨trivial, trivial⟩, rfl⟩
      · rename_i p
        split at h
        · rename_i c hp
          cases h
          have h1 := poolC_none hS hp hq
          have e : [.ptr p, encSt x, r, encE y].map AV.val = [roPt 900 p.b p.cell 1, encSt x, r, encE y].map AV.val := by simp only [List.map_cons, List.map_nil, roPt_val, ptr_val]
          rw [e]
          refine ro_fn tb_ok eqs_ok ct10_ok mixed Tryz.func28 rfl (args := [roPt 900 p.b p.cell 1, encSt x, r, encE y]) rfl (M := [(900, roB p.b p.cell 1 1 fun _ => .agg (.cons (.v (.map none)) .nil))]) trivial ⟨h1.ro, trivial⟩ ?_
          repeat (first
            | refine s_seq ?_
            | refine s_region ?_
            | refine o_val rfl rfl trivial ?_
            | (refine o_val rfl rfl ?hc ?_; (case hc => (first | (simp only [need, imp, needIf]; done) | ((try simp only [need, imp, needIf]); (repeat' apply And.intro) <;> (first | trivial | rfl | omega | (simp; done) | (simp; omega))))))
            | refine o_new rfl rfl trivial (fun _ => ?_)
            | (refine o_new rfl rfl ?hc (fun _ => ?_); (case hc => (first | (simp only [need, imp, needIf]; done) | ((try simp only [need, imp, needIf]); (repeat' apply And.intro) <;> (first | trivial | rfl | omega | (simp; done) | (simp; omega))))))
            | refine d_val rfl rfl trivial ?_
            | (refine d_val rfl rfl ?hc ?_; (case hc => (first | (simp only [need, imp, needIf]; done) | ((try simp only [need, imp, needIf]); (repeat' apply And.intro) <;> (first | trivial | rfl | omega | (simp; done) | (simp; omega))))))
            | refine d_new rfl rfl trivial rfl (fun _ => ?_)
            | (refine d_new rfl rfl ?hc rfl (fun _ => ?_); (case hc => (first | (simp only [need, imp, needIf]; done) | ((try simp only [need, imp, needIf]); (repeat' apply And.intro) <;> (first | trivial | rfl | omega | (simp; done) | (simp; omega))))))
            | refine o_eff (e_store rfl rfl rfl rfl rfl rfl rfl trivial ?_)
            | (refine o_eff (e_store rfl rfl rfl rfl rfl rfl rfl ?hc ?_); (case hc => (first | (simp only [need, imp, needIf]; done) | ((try simp only [need, imp, needIf]); (repeat' apply And.intro) <;> (first | trivial | rfl | omega | (simp; done) | (simp; omega))))))
            | refine o_nil ?_
            | refine d_nil ?_
            | refine s_skip ?_
            | refine s_block ?_
            | refine s_exit ?_
            | refine s_label ?_)
          refine s_cond (b := true) rfl (fun _ => ?_) (fun h => by cases h)
          repeat (first
            | refine s_seq ?_
            | refine s_region ?_
            | refine o_val rfl rfl trivial ?_
            | (refine o_val rfl rfl ?hc ?_; (case hc => (first | (simp only [need, imp, needIf]; done) | ((try simp only [need, imp, needIf]); (repeat' apply And.intro) <;> (first | trivial | rfl | omega | (simp; done) | (simp; omega))))))
            | refine o_new rfl rfl trivial (fun _ => ?_)
            | (refine o_new rfl rfl ?hc (fun _ => ?_); (case hc => (first | (simp only [need, imp, needIf]; done) | ((try simp only [need, imp, needIf]); (repeat' apply And.intro) <;> (first | trivial | rfl | omega | (simp; done) | (simp; omega))))))
            | refine d_val rfl rfl trivial ?_
            | (refine d_val rfl rfl ?hc ?_; (case hc => (first | (simp only [need, imp, needIf]; done) | ((try simp only [need, imp, needIf]); (repeat' apply And.intro) <;> (first | trivial | rfl | omega | (simp; done) | (simp; omega))))))
            | refine d_new rfl rfl trivial rfl (fun _ => ?_)
            | (refine d_new rfl rfl ?hc rfl (fun _ => ?_); (case hc => (first | (simp only [need, imp, needIf]; done) | ((try simp only [need, imp, needIf]); (repeat' apply And.intro) <;> (first | trivial | rfl | omega | (simp; done) | (simp; omega))))))
            | refine o_eff (e_store rfl rfl rfl rfl rfl rfl rfl trivial ?_)
            | (refine o_eff (e_store rfl rfl rfl rfl rfl rfl rfl ?hc ?_); (case hc => (first | (simp only [need, imp, needIf]; done) | ((try simp only [need, imp, needIf]); (repeat' apply And.intro) <;> (first | trivial | rfl | omega | (simp; done) | (simp; omega))))))
            | refine o_nil ?_
            | refine d_nil ?_
            | refine s_skip ?_
            | refine s_block ?_
            | refine s_exit ?_
            | refine s_label ?_)
          refine s_ret ?_
          exact ⟨_, _, rfl, ⟨trivial, trivial⟩, rfl⟩
        · rename_i c x hp
          split at h
          · cases h
            obtain ⟨n, bm, l⟩ := x
            obtain ⟨h1, h2⟩ := poolC_some hS hp hq
            have e : [.ptr p, encSt x, .v (.pointer none), encE y].map AV.val = [roPt 900 p.b p.cell 1, encSt x, .v (.pointer none), encE y].map AV.val := by simp only [List.map_cons, List.map_nil, roPt_val, ptr_val]
            rw [e]
            refine ro_fn tb_ok eqs_ok ct10_ok mixed Tryz.func28 rfl (args := [roPt 900 p.b p.cell 1, encSt x, .v (.pointer none), encE y]) rfl (M := [(900, roB p.b p.cell 1 1 fun _ => .agg (.cons (.mp 901 bm) .nil)), (901, .mp false bm l)]) trivial ⟨h1.ro, h2, trivial⟩ ?_
            repeat (first
              | refine s_seq ?_
              | refine s_region ?_
              | refine o_val rfl rfl trivial ?_
              | (refine o_val rfl rfl ?hc ?_; (case hc => (first | (simp only [need, imp, needIf]; done) | ((try simp only [need, imp, needIf]); (repeat' apply And.intro) <;> (first | trivial | rfl | omega | (simp; done) | (simp; omega))))))
              | refine o_new rfl rfl trivial (fun _ => ?_)
              | (refine o_new rfl rfl ?hc (fun _ => ?_); (case hc => (first | (simp only [need, imp, needIf]; done) | ((try simp only [need, imp, needIf]); (repeat' apply And.intro) <;> (first | trivial | rfl | omega | (simp; done) | (simp; omega))))))
              | refine d_val rfl rfl trivial ?_
              | (refine d_val rfl rfl ?hc ?_; (case hc => (first | (simp only [need, imp, needIf]; done) | ((try simp only [need, imp, needIf]); (repeat' apply And.intro) <;> (first | trivial | rfl | omega | (simp; done) | (simp; omega))))))
              | refine d_new rfl rfl trivial rfl (fun _ => ?_)
              | (refine d_new rfl rfl ?hc rfl (fun _ => ?_); (case hc => (first | (simp only [need, imp, needIf]; done) | ((try simp only [need, imp, needIf]); (repeat' apply And.intro) <;> (first | trivial | rfl | omega | (simp; done) | (simp; omega))))))
              | refine o_eff (e_store rfl rfl rfl rfl rfl rfl rfl trivial ?_)
              | (refine o_eff (e_store rfl rfl rfl rfl rfl rfl rfl ?hc ?_); (case hc => (first | (simp only [need, imp, needIf]; done) | ((try simp only [need, imp, needIf]); (repeat' apply And.intro) <;> (first | trivial | rfl | omega | (simp; done) | (simp; omega))))))
              | refine o_nil ?_
              | refine d_nil ?_
              | refine s_skip ?_
              | refine s_block ?_
              | refine s_exit ?_
              | refine s_label ?_)
            refine s_cond (b := false) rfl (fun h => by cases h) (fun _ => ?_)
            repeat (first
              | refine s_seq ?_
              | refine s_region ?_
              | refine o_val rfl rfl trivial ?_
              | (refine o_val rfl rfl ?hc ?_; (case hc => (first | (simp only [need, imp, needIf]; done) | ((try simp only [need, imp, needIf]); (repeat' apply And.intro) <;> (first | trivial | rfl | omega | (simp; done) | (simp; omega))))))
              | refine o_new rfl rfl trivial (fun _ => ?_)
              | (refine o_new rfl rfl ?hc (fun _ => ?_); (case hc => (first | (simp only [need, imp, needIf]; done) | ((try simp only [need, imp, needIf]); (repeat' apply And.intro) <;> (first | trivial | rfl | omega | (simp; done) | (simp; omega))))))
              | refine d_val rfl rfl trivial ?_
              | (refine d_val rfl rfl ?hc ?_; (case hc => (first | (simp only [need, imp, needIf]; done) | ((try simp only [need, imp, needIf]); (repeat' apply And.intro) <;> (first | trivial | rfl | omega | (simp; done) | (simp; omega))))))
              | refine d_new rfl rfl trivial rfl (fun _ => ?_)
              | (refine d_new rfl rfl ?hc rfl (fun _ => ?_); (case hc => (first | (simp only [need, imp, needIf]; done) | ((try simp only [need, imp, needIf]); (repeat' apply And.intro) <;> (first | trivial | rfl | omega | (simp; done) | (simp; omega))))))
              | refine o_eff (e_store rfl rfl rfl rfl rfl rfl rfl trivial ?_)
              | (refine o_eff (e_store rfl rfl rfl rfl rfl rfl rfl ?hc ?_); (case hc => (first | (simp only [need, imp, needIf]; done) | ((try simp only [need, imp, needIf]); (repeat' apply And.intro) <;> (first | trivial | rfl | omega | (simp; done) | (simp; omega))))))
              | refine o_nil ?_
              | refine d_nil ?_
              | refine s_skip ?_
              | refine s_block ?_
              | refine s_exit ?_
              | refine s_label ?_)
            refine s_cond (b := true) rfl (fun _ => ?_) (fun h => by cases h)
            repeat (first
              | refine s_seq ?_
              | refine s_region ?_
              | refine o_val rfl rfl trivial ?_
              | (refine o_val rfl rfl ?hc ?_; (case hc => (first | (simp only [need, imp, needIf]; done) | ((try simp only [need, imp, needIf]); (repeat' apply And.intro) <;> (first | trivial | rfl | omega | (simp; done) | (simp; omega))))))
              | refine o_new rfl rfl trivial (fun _ => ?_)
              | (refine o_new rfl rfl ?hc (fun _ => ?_); (case hc => (first | (simp only [need, imp, needIf]; done) | ((try simp only [need, imp, needIf]); (repeat' apply And.intro) <;> (first | trivial | rfl | omega | (simp; done) | (simp; omega))))))
              | refine d_val rfl rfl trivial ?_
              | (refine d_val rfl rfl ?hc ?_; (case hc => (first | (simp only [need, imp, needIf]; done) | ((try simp only [need, imp, needIf]); (repeat' apply And.intro) <;> (first | trivial | rfl | omega | (simp; done) | (simp; omega))))))
              | refine d_new rfl rfl trivial rfl (fun _ => ?_)
              | (refine d_new rfl rfl ?hc rfl (fun _ => ?_); (case hc => (first | (simp only [need, imp, needIf]; done) | ((try simp only [need, imp, needIf]); (repeat' apply And.intro) <;> (first | trivial | rfl | omega | (simp; done) | (simp; omega))))))
              | refine o_eff (e_store rfl rfl rfl rfl rfl rfl rfl trivial ?_)
              | (refine o_eff (e_store rfl rfl rfl rfl rfl rfl rfl ?hc ?_); (case hc => (first | (simp only [need, imp, needIf]; done) | ((try simp only [need, imp, needIf]); (repeat' apply And.intro) <;> (first | trivial | rfl | omega | (simp; done) | (simp; omega))))))
              | refine o_nil ?_
              | refine d_nil ?_
              | refine s_skip ?_
              | refine s_block ?_
              | refine s_exit ?_
              | refine s_label ?_)
            refine s_ret ?_
            exact ⟨_, _, rfl, ⟨trivial, trivial⟩, rfl⟩
          · cases h
        · cases h
      · cases h
    · cases h
  · cases h
theorem add_body : HasBody Tryz.prog 28 := ⟨_, Tryz.func28, rfl, by decide⟩

def pickC (args : List AV) (M : MemF) : Option (Prop × AV) := match args with
  | [p, s, .v (.pointer r)] => match decSt s with
    | some _ => match p with
      | .v (.pointer none) => some (True, .v (.slice none 0 0))
      | .ptr p => match poolC M p with
        | some (c, none) => some (c, .v (.slice none 0 0))
        | some (c, some _) => match r with
          | none => some (c, .v (.slice none 0 0))
          | some _ => none
        | none => none
      | _ => none
    | none => none
  | _ => none
set_option maxHeartbeats 4000000 in
theorem pick_read : ReadFn Tryz.prog 29 pickC := by
  intro args M q res h hq O w0 w hS
  unfold pickC at h
  split at h
  · split at h
    · rename_i p s r os x hx
      have h1 := decSt_enc hx
      subst h1
      rcases r with _ | ra
      all_goals
        split at h
        · cases h
          refine pure_fn tb_ok eqs_ok ct10_ok mixed Tryz.func29 rfl rfl ?_
          repeat (first
            | refine s_seq ?_
            | refine s_region ?_
            | refine o_val rfl rfl trivial ?_
            | (refine o_val rfl rfl ?hc ?_; (case hc => (first | (simp only [need, imp, needIf]; done) | ((try simp only [need, imp, needIf]); (repeat' apply And.intro) <;> (first | trivial | rfl | omega | (simp; done) | (simp; omega))))))
            | refine o_new rfl rfl trivial (fun _ => ?_)
            | (refine o_new rfl rfl ?hc (fun _ => ?_); (case hc => (first | (simp only [need, imp, needIf]; done) | ((try simp only [need, imp, needIf]); (repeat' apply And.intro) <;> (first | trivial | rfl | omega | (simp; done) | (simp; omega))))))
            | refine d_val rfl rfl trivial ?_
            | (refine d_val rfl rfl ?hc ?_; (case hc => (first | (simp only [need, imp, needIf]; done) | ((try simp only [need, imp, needIf]); (repeat' apply And.intro) <;> (first | trivial | rfl | omega | (simp; done) | (simp; omega))))))
            | refine d_new rfl rfl trivial rfl (fun _ => ?_)
            | (refine d_new rfl rfl ?hc rfl (fun _ => ?_); (case hc => (first | (simp only [need, imp, needIf]; done) | ((try simp only [need, imp, needIf]); (repeat' apply And.intro) <;> (first | trivial | rfl | omega | (simp; done) | (simp; omega))))))
            | refine o_eff (e_store rfl rfl rfl rfl rfl rfl rfl trivial ?_)
            | (refine o_eff (e_store rfl rfl rfl rfl rfl rfl rfl ?hc ?_); (case hc => (first | (simp only [need, imp, needIf]; done) | ((try simp only [need, imp, needIf]); (repeat' apply And.intro) <;> (first | trivial | rfl | omega | (simp; done) | (simp; omega))))))
            | refine o_nil ?_
            | refine d_nil ?_
            | refine s_skip ?_
            | refine s_block ?_
            | refine s_exit ?_
            | refine s_label ?_)
          refine s_cond (b := true) rfl (fun _ => ?_) (fun h => by cases h)
          repeat (first
            | refine s_seq ?_
            | refine s_region ?_
            | refine o_val rfl rfl trivial ?_
            | (refine o_val rfl rfl ?hc ?_; (case hc => (first | (simp only [need, imp, needIf]; done) | ((try simp only [need, imp, needIf]); (repeat' apply And.intro) <;> (first | trivial | rfl | omega | (simp; done) | (simp; omega))))))
            | refine o_new rfl rfl trivial (fun _ => ?_)
            | (refine o_new rfl rfl ?hc (fun _ => ?_); (case hc => (first | (simp only [need, imp, needIf]; done) | ((try simp only [need, imp, needIf]); (repeat' apply And.intro) <;> (first | trivial | rfl | omega | (simp; done) | (simp; omega))))))
            | refine d_val rfl rfl trivial ?_
            | (refine d_val rfl rfl ?hc ?_; (case hc => (first | (simp only [need, imp, needIf]; done) | ((try simp only [need, imp, needIf]); (repeat' apply And.intro) <;> (first | trivial | rfl | omega | (simp; done) | (simp; omega))))))
            | refine d_new rfl rfl trivial rfl (fun _ => ?_)
            | (refine d_new rfl rfl ?hc rfl (fun _ => ?_); (case hc => (first | (simp only [need, imp, needIf]; done) | ((try simp only [need, imp, needIf]); (repeat' apply And.intro) <;> (first | trivial | rfl | omega | (simp; done) | (simp; omega))))))
            | refine o_eff (e_store rfl rfl rfl rfl rfl rfl rfl trivial ?_)
            | (refine o_eff (e_store rfl rfl rfl rfl rfl rfl rfl ?hc ?_); (case hc => (first | (simp only [need, imp, needIf]; done) | ((try simp only [need, imp, needIf]); (repeat' apply And.intro) <;> (first | trivial | rfl | omega | (simp; done) | (simp; omega))))))
            | refine o_nil ?_
            | refine d_nil ?_
            | refine s_skip ?_
            | refine s_block ?_
            | refine s_exit ?_
            | refine s_label ?_)
          refine s_ret ?_
          exact ⟨_, _, rfl, ⟨trivial, trivial⟩, rfl⟩
        · rename_i p
          split at h
          · rename_i c hp
            cases h
            have h1 := poolC_none hS hp hq
            refine ro_fn tb_ok eqs_ok ct10_ok mixed Tryz.func29 rfl (args := [roPt 900 p.b p.cell 1, encSt x, .v (.pointer _)]) rfl (M := [(900, roB p.b p.cell 1 1 fun _ => .agg (.cons (.v (.map none)) .nil))]) trivial ⟨h1.ro, trivial⟩ ?_
            repeat (first
              | refine s_seq ?_
              | refine s_region ?_
              | refine o_val rfl rfl trivial ?_
              | (refine o_val rfl rfl ?hc ?_; (case hc => (first | (simp only [need, imp, needIf]; done) | ((try simp only [need, imp, needIf]); (repeat' apply And.intro) <;> (first | trivial | rfl | omega | (simp; done) | (simp; omega))))))
              | refine o_new rfl rfl trivial (fun _ => ?_)
              | (refine o_new rfl rfl ?hc (fun _ => ?_); (case hc => (first | (simp only [need, imp, needIf]; done) | ((try simp only [need, imp, needIf]); (repeat' apply And.intro) <;> (first | trivial | rfl | omega | (simp; done) | (simp; omega))))))
              | refine d_val rfl rfl trivial ?_
              | (refine d_val rfl rfl ?hc ?_; (case hc => (first | (simp only [need, imp, needIf]; done) | ((try simp only [need, imp, needIf]); (repeat' apply And.intro) <;> (first | trivial | rfl | omega | (simp; done) | (simp; omega))))))
              | refine d_new rfl rfl trivial rfl (fun _ => ?_)
              | (refine d_new rfl rfl ?hc rfl (fun _ => ?_); (case hc => (first | (simp only [need, imp, needIf]; done) | ((try simp only [need, imp, needIf]); (repeat' apply And.intro) <;> (first | trivial | rfl | omega | (simp; done) | (simp; omega))))))
              | refine o_eff (e_store rfl rfl rfl rfl rfl rfl rfl trivial ?_)
              | (refine o_eff (e_store rfl rfl rfl rfl rfl rfl rfl ?hc ?_); (case hc => (first | (simp only [need, imp, needIf]; done) | ((try simp only [need, imp, needIf]); (repeat' apply And.intro) <;> (first | trivial | rfl | omega | (simp; done) | (simp; omega))))))
              | refine o_nil ?_
              | refine d_nil ?_
              | refine s_skip ?_
              | refine s_block ?_
              | refine s_exit ?_
              | refine s_label ?_)
            refine s_cond (b := true) rfl (fun _ => ?_) (fun h => by cases h)
            repeat (first
              | refine s_seq ?_
              | refine s_region ?_
              | refine o_val rfl rfl trivial ?_
              | (refine o_val rfl rfl ?hc ?_; (case hc => (first | (simp only [need, imp, needIf]; done) | ((try simp only [need, imp, needIf]); (repeat' apply And.intro) <;> (first | trivial | rfl | omega | (simp; done) | (simp; omega))))))
              | refine o_new rfl rfl trivial (fun _ => ?_)
              | (refine o_new rfl rfl ?hc (fun _ => ?_); (case hc => (first | (simp only [need, imp, needIf]; done) | ((try simp only [need, imp, needIf]); (repeat' apply And.intro) <;> (first | trivial | rfl | omega | (simp; done) | (simp; omega))))))
              | refine d_val rfl rfl trivial ?_
              | (refine d_val rfl rfl ?hc ?_; (case hc => (first | (simp only [need, imp, needIf]; done) | ((try simp only [need, imp, needIf]); (repeat' apply And.intro) <;> (first | trivial | rfl | omega | (simp; done) | (simp; omega))))))
              | refine d_new rfl rfl trivial rfl (fun _ => ?_)
              | (refine d_new rfl rfl ?hc rfl (fun _ => ?_); (case hc => (first | (simp only [need, imp, needIf]; done) | ((try simp only [need, imp, needIf]); (repeat' apply And.intro) <;> (first | trivial | rfl | omega | (simp; done) | (simp; omega))))))
              | refine o_eff (e_store rfl rfl rfl rfl rfl rfl rfl trivial ?_)
              | (refine o_eff (e_store rfl rfl rfl rfl rfl rfl rfl ?hc ?_); (case hc => (first | (simp only [need, imp, needIf]; done) | ((try simp only [need, imp, needIf]); (repeat' apply And.intro) <;> (first | trivial | rfl | omega | (simp; done) | (simp; omega))))))
              | refine o_nil ?_
              | refine d_nil ?_
              | refine s_skip ?_
              | refine s_block ?_
              | refine s_exit ?_
              | refine s_label ?_)
            refine s_ret ?_
            exact ⟨_, _, rfl, ⟨trivial, trivial⟩, rfl⟩
          · rename_i c y hp
            first
              | (cases h; done)
              | (
                cases h
                obtain ⟨n, bm, l⟩ := y
                obtain ⟨h1, h2⟩ := poolC_some hS hp hq
                refine ro_fn tb_ok eqs_ok ct10_ok mixed Tryz.func29 rfl (args := [roPt 900 p.b p.cell 1, encSt x, .v (.pointer none)]) rfl (M := [(900, roB p.b p.cell 1 1 fun _ => .agg (.cons (.mp 901 bm) .nil)), (901, .mp false bm l)]) trivial ⟨h1.ro, h2, trivial⟩ ?_
                repeat (first
                  | refine s_seq ?_
                  | refine s_region ?_
                  | refine o_val rfl rfl trivial ?_
                  | (refine o_val rfl rfl ?hc ?_; (case hc => (first | (simp only [need, imp, needIf]; done) | ((try simp only [need, imp, needIf]); (repeat' apply And.intro) <;> (first | trivial | rfl | omega | (simp; done) | (simp; omega))))))
                  | refine o_new rfl rfl trivial (fun _ => ?_)
                  | (refine o_new rfl rfl ?hc (fun _ => ?_); (case hc => (first | (simp only [need, imp, needIf]; done) | ((try simp only [need, imp, needIf]); (repeat' apply And.intro) <;> (first | trivial | rfl | omega | (simp; done) | (simp; omega))))))
                  | refine d_val rfl rfl trivial ?_
                  | (refine d_val rfl rfl ?hc ?_; (case hc => (first | (simp only [need, imp, needIf]; done) | ((try simp only [need, imp, needIf]); (repeat' apply And.intro) <;> (first | trivial | rfl | omega | (simp; done) | (simp; omega))))))
                  | refine d_new rfl rfl trivial rfl (fun _ => ?_)
                  | (refine d_new rfl rfl ?hc rfl (fun _ => ?_); (case hc => (first | (simp only [need, imp, needIf]; done) | ((try simp only [need, imp, needIf]); (repeat' apply And.intro) <;> (first | trivial | rfl | omega | (simp; done) | (simp; omega))))))
                  | refine o_eff (e_store rfl rfl rfl rfl rfl rfl rfl trivial ?_)
                  | (refine o_eff (e_store rfl rfl rfl rfl rfl rfl rfl ?hc ?_); (case hc => (first | (simp only [need, imp, needIf]; done) | ((try simp only [need, imp, needIf]); (repeat' apply And.intro) <;> (first | trivial | rfl | omega | (simp; done) | (simp; omega))))))
                  | refine o_nil ?_
                  | refine d_nil ?_
                  | refine s_skip ?_
                  | refine s_block ?_
                  | refine s_exit ?_
                  | refine s_label ?_)
                refine s_cond (b := true) rfl (fun _ => ?_) (fun h => by cases h)
                repeat (first
                  | refine s_seq ?_
                  | refine s_region ?_
                  | refine o_val rfl rfl trivial ?_
                  | (refine o_val rfl rfl ?hc ?_; (case hc => (first | (simp only [need, imp, needIf]; done) | ((try simp only [need, imp, needIf]); (repeat' apply And.intro) <;> (first | trivial | rfl | omega | (simp; done) | (simp; omega))))))
                  | refine o_new rfl rfl trivial (fun _ => ?_)
                  | (refine o_new rfl rfl ?hc (fun _ => ?_); (case hc => (first | (simp only [need, imp, needIf]; done) | ((try simp only [need, imp, needIf]); (repeat' apply And.intro) <;> (first | trivial | rfl | omega | (simp; done) | (simp; omega))))))
                  | refine d_val rfl rfl trivial ?_
                  | (refine d_val rfl rfl ?hc ?_; (case hc => (first | (simp only [need, imp, needIf]; done) | ((try simp only [need, imp, needIf]); (repeat' apply And.intro) <;> (first | trivial | rfl | omega | (simp; done) | (simp; omega))))))
                  | refine d_new rfl rfl trivial rfl (fun _ => ?_)
                  | (refine d_new rfl rfl ?hc rfl (fun _ => ?_); (case hc => (first | (simp only [need, imp, needIf]; done) | ((try simp only [need, imp, needIf]); (repeat' apply And.intro) <;> (first | trivial | rfl | omega | (simp; done) | (simp; omega))))))
                  | refine o_eff (e_store rfl rfl rfl rfl rfl rfl rfl trivial ?_)
                  | (refine o_eff (e_store rfl rfl rfl rfl rfl rfl rfl ?hc ?_); (case hc => (first | (simp only [need, imp, needIf]; done) | ((try simp only [need, imp, needIf]); (repeat' apply And.intro) <;> (first | trivial | rfl | omega | (simp; done) | (simp; omega))))))
                  | refine o_nil ?_
                  | refine d_nil ?_
                  | refine s_skip ?_
                  | refine s_block ?_
                  | refine s_exit ?_
                  | refine s_label ?_)
                refine s_ret ?_
                exact ⟨_, _, rfl, ⟨trivial, trivial⟩, rfl⟩)
          · cases h
        · cases h
    · cases h
  · cases h
theorem pick_body : HasBody Tryz.prog 29 := ⟨_, Tryz.func29, rfl, by decide⟩

def settleC (args : List AV) (M : MemF) : Option (Prop × AV) := match args with
  | [p, s, r] => match decSt s with
    | some _ => match p with
      | .v (.pointer none) => some (True, .tup .nil)
      | .ptr p => match poolC M p with
        | some (c, none) => some (c, .tup .nil)
        | some (c, some _) => none
        | none => none
      | _ => none
    | _ => none
  | _ => none
set_option maxHeartbeats 4000000 in
theorem settle_read : ReadFn Tryz.prog 30 settleC := by
  intro args M q res h hq O w0 w hS
  unfold settleC at h
  split at h
  · split at h
    · rename_i p s r os x hx
      have h1 := decSt_enc hx
      subst h1
      split at h
      · cases h
        refine pure_fn tb_ok eqs_ok ct10_ok mixed Tryz.func30 rfl rfl ?_
        repeat (first
          | refine s_seq ?_
          | refine s_region ?_
          | refine o_val rfl rfl trivial ?_
          | (refine o_val rfl rfl ?hc ?_; (case hc => (first | (simp only [need, imp, needIf]; done) | ((try simp only [need, imp, needIf]); (repeat' apply And.intro) <;> (first | trivial | rfl | omega | (simp; done) | (simp; omega))))))
          | refine o_new rfl rfl trivial (fun _ => ?_)
          | (refine o_new rfl rfl ?hc (fun _ => ?_); (case hc => (first | (simp only [need, imp, needIf]; done) | ((try simp only [need, imp, needIf]); (repeat' apply And.intro) <;> (first | trivial | rfl | omega | (simp; done) | (simp; omega))))))
          | refine d_val rfl rfl trivial ?_
          | (refine d_val rfl rfl ?hc ?_; (case hc => (first | (simp only [need, imp, needIf]; done) | ((try simp only [need, imp, needIf]); (repeat' apply And.intro) <;> (first | trivial | rfl | omega | (simp; done) | (simp; omega))))))
          | refine d_new rfl rfl trivial rfl (fun _ => ?_)
          | (refine d_new rfl rfl ?hc rfl (fun _ => ?_); (case hc => (first | (simp only [need, imp, needIf]; done) | ((try simp only [need, imp, needIf]); (repeat' apply And.intro) <;> (first | trivial | rfl | omega | (simp; done) | (simp; omega))))))
          | refine o_eff (e_store rfl rfl rfl rfl rfl rfl rfl trivial ?_)
          | (refine o_eff (e_store rfl rfl rfl rfl rfl rfl rfl ?hc ?_); (case hc => (first | (simp only [need, imp, needIf]; done) | ((try simp only [need, imp, needIf]); (repeat' apply And.intro) <;> (first | trivial | rfl | omega | (simp; done) | (simp; omega))))))
          | refine o_nil ?_
          | refine d_nil ?_
          | refine s_skip ?_
          | refine s_block ?_
          | refine s_exit ?_
          | refine s_label ?_)
        refine s_cond (b := true) rfl (fun _ => ?_) (fun h => by cases h)
        repeat (first
          | refine s_seq ?_
          | refine s_region ?_
          | refine o_val rfl rfl trivial ?_
          | (refine o_val rfl rfl ?hc ?_; (case hc => (first | (simp only [need, imp, needIf]; done) | ((try simp only [need, imp, needIf]); (repeat' apply And.intro) <;> (first | trivial | rfl | omega | (simp; done) | (simp; omega))))))
          | refine o_new rfl rfl trivial (fun _ => ?_)
          | (refine o_new rfl rfl ?hc (fun _ => ?_); (case hc => (first | (simp only [need, imp, needIf]; done) | ((try simp only [need, imp, needIf]); (repeat' apply And.intro) <;> (first | trivial | rfl | omega | (simp; done) | (simp; omega))))))
          | refine d_val rfl rfl trivial ?_
          | (refine d_val rfl rfl ?hc ?_; (case hc => (first | (simp only [need, imp, needIf]; done) | ((try simp only [need, imp, needIf]); (repeat' apply And.intro) <;> (first | trivial | rfl | omega | (simp; done) | (simp; omega))))))
          | refine d_new rfl rfl trivial rfl (fun _ => ?_)
          | (refine d_new rfl rfl ?hc rfl (fun _ => ?_); (case hc => (first | (simp only [need, imp, needIf]; done) | ((try simp only [need, imp, needIf]); (repeat' apply And.intro) <;> (first | trivial | rfl | omega | (simp; done) | (simp; omega))))))
          | refine o_eff (e_store rfl rfl rfl rfl rfl rfl rfl trivial ?_)
          | (refine o_eff (e_store rfl rfl rfl rfl rfl rfl rfl ?hc ?_); (case hc => (first | (simp only [need, imp, needIf]; done) | ((try simp only [need, imp, needIf]); (repeat' apply And.intro) <;> (first | trivial | rfl | omega | (simp; done) | (simp; omega))))))
          | refine o_nil ?_
          | refine d_nil ?_
          | refine s_skip ?_
          | refine s_block ?_
          | refine s_exit ?_
          | refine s_label ?_)
        refine s_ret ?_
        exact ⟨_, _, rfl, trivial, rfl⟩
      · rename_i p
        split at h
        · rename_i c hp
          cases h
          have h1 := poolC_none hS hp hq
          have e : [.ptr p, encSt x, r].map AV.val = [roPt 900 p.b p.cell 1, encSt x, r].map AV.val := by simp only [List.map_cons, List.map_nil, roPt_val, ptr_val]
          rw [e]
          refine ro_fn tb_ok eqs_ok ct10_ok mixed Tryz.func30 rfl (args := [roPt 900 p.b p.cell 1, encSt x, r]) rfl (M := [(900, roB p.b p.cell 1 1 fun _ => .agg (.cons (.v (.map none)) .nil))]) trivial ⟨h1.ro, trivial⟩ ?_
          repeat (first
            | refine s_seq ?_
            | refine s_region ?_
            | refine o_val rfl rfl trivial ?_
            | (refine o_val rfl rfl ?hc ?_; (case hc => (first | (simp only [need, imp, needIf]; done) | ((try simp only [need, imp, needIf]); (repeat' apply And.intro) <;> (first | trivial | rfl | omega | (simp; done) | (simp; omega))))))
            | refine o_new rfl rfl trivial (fun _ => ?_)
            | (refine o_new rfl rfl ?hc (fun _ => ?_); (case hc => (first | (simp only [need, imp, needIf]; done) | ((try simp only [need, imp, needIf]); (repeat' apply And.intro) <;> (first | trivial | rfl | omega | (simp; done) | (simp; omega))))))
            | refine d_val rfl rfl trivial ?_
            | (refine d_val rfl rfl ?hc ?_; (case hc => (first | (simp only [need, imp, needIf]; done) | ((try simp only [need, imp, needIf]); (repeat' apply And.intro) <;> (first | trivial | rfl | omega | (simp; done) | (simp; omega))))))
            | refine d_new rfl rfl trivial rfl (fun _ => ?_)
            | (refine d_new rfl rfl ?hc rfl (fun _ => ?_); (case hc => (first | (simp only [need, imp, needIf]; done) | ((try simp only [need, imp, needIf]); (repeat' apply And.intro) <;> (first | trivial | rfl | omega | (simp; done) | (simp; omega))))))
            | refine o_eff (e_store rfl rfl rfl rfl rfl rfl rfl trivial ?_)
            | (refine o_eff (e_store rfl rfl rfl rfl rfl rfl rfl ?hc ?_); (case hc => (first | (simp only [need, imp, needIf]; done) | ((try simp only [need, imp, needIf]); (repeat' apply And.intro) <;> (first | trivial | rfl | omega | (simp; done) | (simp; omega))))))
            | refine o_nil ?_
            | refine d_nil ?_
            | refine s_skip ?_
            | refine s_block ?_
            | refine s_exit ?_
            | refine s_label ?_)
          refine s_cond (b := true) rfl (fun _ => ?_) (fun h => by cases h)
          repeat (first
            | refine s_seq ?_
            | refine s_region ?_
            | refine o_val rfl rfl trivial ?_
            | (refine o_val rfl rfl ?hc ?_; (case hc => (first | (simp only [need, imp, needIf]; done) | ((try simp only [need, imp, needIf]); (repeat' apply And.intro) <;> (first | trivial | rfl | omega | (simp; done) | (simp; omega))))))
            | refine o_new rfl rfl trivial (fun _ => ?_)
            | (refine o_new rfl rfl ?hc (fun _ => ?_); (case hc => (first | (simp only [need, imp, needIf]; done) | ((try simp only [need, imp, needIf]); (repeat' apply And.intro) <;> (first | trivial | rfl | omega | (simp; done) | (simp; omega))))))
            | refine d_val rfl rfl trivial ?_
            | (refine d_val rfl rfl ?hc ?_; (case hc => (first | (simp only [need, imp, needIf]; done) | ((try simp only [need, imp, needIf]); (repeat' apply And.intro) <;> (first | trivial | rfl | omega | (simp; done) | (simp; omega))))))
            | refine d_new rfl rfl trivial rfl (fun _ => ?_)
            | (refine d_new rfl rfl ?hc rfl (fun _ => ?_); (case hc => (first | (simp only [need, imp, needIf]; done) | ((try simp only [need, imp, needIf]); (repeat' apply And.intro) <;> (first | trivial | rfl | omega | (simp; done) | (simp; omega))))))
            | refine o_eff (e_store rfl rfl rfl rfl rfl rfl rfl trivial ?_)
            | (refine o_eff (e_store rfl rfl rfl rfl rfl rfl rfl ?hc ?_); (case hc => (first | (simp only [need, imp, needIf]; done) | ((try simp only [need, imp, needIf]); (repeat' apply And.intro) <;> (first | trivial | rfl | omega | (simp; done) | (simp; omega))))))
            | refine o_nil ?_
            | refine d_nil ?_
            | refine s_skip ?_
            | refine s_block ?_
            | refine s_exit ?_
            | refine s_label ?_)
          refine s_ret ?_
          exact ⟨_, _, rfl, trivial, rfl⟩
        · rename_i c x hp
          cases h
        · cases h
      · cases h
    · cases h
  · cases h
theorem settle_body : HasBody Tryz.prog 30 := ⟨_, Tryz.func30, rfl, by decide⟩

end Go.Proofs.YtofophjfgalhaaaGreatDoor.D
