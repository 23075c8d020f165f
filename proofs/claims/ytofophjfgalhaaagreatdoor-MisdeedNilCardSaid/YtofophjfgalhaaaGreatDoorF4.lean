import Derived.Test.YtofophjfgalhaaaGreatDoorF2
/-! bytes.Compare; misdeed.Pair. -/
namespace Go.Proofs.YtofophjfgalhaaaGreatDoor.D
open Go
set_option maxRecDepth 100000
theorem cmp_ok : CallsOk Tryz.prog 149 cmpC := cmp_extern Tryz.func149 (by kernel_rfl) (by kernel_rfl) (by kernel_rfl) (by kernel_rfl)
def ctc : CtL := [(149, cmpC)]
theorem ctc_ok : CtLOk Tryz.prog ctc := ⟨cmp_ok, trivial⟩
theorem compare_read : ReadFn Tryz.prog 105 cmpC := by
  intro args M q res h hq O w0 w hS
  unfold cmpC at h
  split at h
  · rename_i p la ca p' lb cb
    split at h
    · rename_i c es f c' es' g h1 h2
      cases h
      obtain ⟨⟨hc, rfl, hu⟩, ⟨hc', rfl, hu'⟩⟩ := hq
      have r1 := sliceOf_reads hS h1 hc
      have r2 := sliceOf_reads hS h2 hc'
      rw [val2]
      refine ro_fn tb_ok eqs_ok ctc_ok mixed Tryz.func105 rfl (args := [roSl 900 p.b p.cell 1 la ca, roSl 901 p'.b p'.cell 1 lb cb]) rfl (M := [(900, roB p.b p.cell 1 la f), (901, roB p'.b p'.cell 1 lb g)]) trivial ⟨r1.ro, r2.ro, trivial⟩ ?_
      repeat (first
        | refine s_seq ?_
        | refine s_region ?_
        | refine o_val rfl rfl trivial ?_
        | (refine o_val rfl rfl ?hc ?_; (case hc => (first | (simp only [need, imp, needIf]; done) | ((try simp only [need, imp, needIf]); (repeat' apply And.intro) <;> (first | trivial | rfl | omega | (simp; done) | (simp; omega))))))
        | refine o_new rfl rfl trivial (fun _ => ?_)
        | (refine o_new rfl rfl ?hc (fun _ => ?_); (case hc => (first | (simp only [need, imp, needIf]; done) | ((try simp only [need, imp, needIf]); (repeat' apply And.intro) <;> (first | trivial | rfl | omega | (simp; done) | (simp; omega))))))
        | refine d_val rfl rfl trivial ?_
        | (refine d_val rfl rfl ?hc ?_; (case hc => (first | (simp only [need, imp, needIf]; done) | ((try simp only [need, imp, needIf]); (repeat' apply And.intro) <;> (first | trivial | rfl | omega | (simp; done) | (simp; omega))))))
        | refine d_new rfl rfl trivial rfl (fun _ => ?_)
        | (refine d_new rfl rfl ?hc rfl (fun _ => ?_); (case hc => (first | (simp only [need, imp, needIf]; done) | ((try simp only [need, imp, needIf]); (repeat' apply And.intro) <;> (first | trivial | rfl | omega | (simp; done) | (simp; omega))))))
        | refine o_eff (e_store rfl rfl rfl rfl rfl rfl rfl trivial ?_)
        | (refine o_eff (e_store rfl rfl rfl rfl rfl rfl rfl ?hc ?_); (case hc => (first | (simp only [need, imp, needIf]; done) | ((try simp only [need, imp, needIf]); (repeat' apply And.intro) <;> (first | trivial | rfl | omega | (simp; done) | (simp; omega))))))
        | refine o_nil ?_
        | refine d_nil ?_
        | refine s_skip ?_
        | refine s_block ?_
        | refine s_exit ?_
        | refine s_label ?_)
      refine s_ret ?_
      refine ⟨_, _, rfl, ⟨trivial, trivial⟩, ?_⟩
      show Value.int .i64 (cmpI (intsOf la fun i => f (0 + i)) (intsOf lb fun i => g (0 + i))) = _
      simp only [Nat.zero_add]; rfl
    · cases h
  · cases h
theorem compare_body : HasBody Tryz.prog 105 := ⟨_, Tryz.func105, rfl, by decide⟩

/-! ### misdeed.Pair -/
def encE (p : Vote × Vote) : AV := .agg (.cons (encV p.1) (.cons (encV p.2) .nil))
def zeroV : Vote := ⟨0, 0, 0, zeroH, 0, 0, List.replicate 16 0⟩
def cmpV (x y : Vote) : Int := cmpI (intsOf 32 fun i => .v (.int .u8 (x.id.getD (0 + i) 0))) (intsOf 32 fun i => .v (.int .u8 (y.id.getD (0 + i) 0)))
/-- misdeed.Pair, as the program reckons it -/
def pairP (x y : Vote) : (Vote × Vote) × Int :=
  if (plainV x != 0) = true then ((zeroV, zeroV), plainV x) else
  if (plainV y != 0) = true then ((zeroV, zeroV), plainV y) else
  if (((((x.from_ != y.from_) || (x.height != y.height)) || (x.round != y.round)) || (x.kind != y.kind)) || (cmpV x y == 0)) = true then ((zeroV, zeroV), 110) else
  if decide (cmpV x y > 0) = true then ((y, x), 0) else ((x, y), 0)
def encR (r : (Vote × Vote) × Int) : AV := .tup (.cons (encE r.1) (.cons (.v (.int .i64 r.2)) .nil))
def pairPC : List AV → Option (Prop × AV)
  | [a, b] => match decV a, decV b with
    | some x, some y => some (True, encR (pairP x y))
    | _, _ => none
  | _ => none
def ct4 : CtL := [(77, fun a _ => plainC a), (105, cmpC)]
theorem ct4_ok : CtLOk Tryz.prog ct4 := ⟨.fn plain_body plain_pure.read, .fn compare_body compare_read, trivial⟩

set_option maxRecDepth 100000 in
set_option maxHeartbeats 4000000 in
theorem pairP_pure : PureFn Tryz.prog 40 pairPC := by
  intro args q res h hq w
  unfold pairPC at h
  split at h
  · split at h
    · rename_i a b x y hx hy
      cases h
      have ha := decV_enc hx
      have hb := decV_enc hy
      subst ha hb
      refine pure_fn tb_ok eqs_ok ct4_ok mixed Tryz.func40 rfl rfl ?_
      repeat (first
        | refine s_seq ?_
        | refine s_region ?_
        | refine o_val rfl rfl trivial ?_
        | (refine o_val rfl rfl ?hc ?_; (case hc => (first | (simp only [need, imp, needIf]; done) | ((try simp only [need, imp, needIf]); (repeat' apply And.intro) <;> (first | trivial | rfl | omega | (simp; done) | (simp; omega))))))
        | refine o_new rfl rfl trivial (fun _ => ?_)
        | (refine o_new rfl rfl ?hc (fun _ => ?_); (case hc => (first | (simp only [need, imp, needIf]; done) | ((try simp only [need, imp, needIf]); (repeat' apply And.intro) <;> (first | trivial | rfl | omega | (simp; done) | (simp; omega))))))
        | refine d_val rfl rfl trivial ?_
        | (refine d_val rfl rfl ?hc ?_; (case hc => (first | (simp only [need, imp, needIf]; done) | ((try simp only [need, imp, needIf]); (repeat' apply And.intro) <;> (first | trivial | rfl | omega | (simp; done) | (simp; omega))))))
        | refine d_new rfl rfl trivial rfl (fun _ => ?_)
        | (refine d_new rfl rfl ?hc rfl (fun _ => ?_); (case hc => (first | (simp only [need, imp, needIf]; done) | ((try simp only [need, imp, needIf]); (repeat' apply And.intro) <;> (first | trivial | rfl | omega | (simp; done) | (simp; omega))))))
        | refine o_eff (e_store rfl rfl rfl rfl rfl rfl rfl trivial ?_)
        | (refine o_eff (e_store rfl rfl rfl rfl rfl rfl rfl ?hc ?_); (case hc => (first | (simp only [need, imp, needIf]; done) | ((try simp only [need, imp, needIf]); (repeat' apply And.intro) <;> (first | trivial | rfl | omega | (simp; done) | (simp; omega))))))
        | refine o_nil ?_
        | refine d_nil ?_
        | refine s_skip ?_
        | refine s_block ?_
        | refine s_exit ?_
        | refine s_label ?_)
      rename_i b2 b3 b4
      refine s_loop (α := Nat) (fun k => k ≤ 2 ∧ (0 < k → plainV x = 0) ∧ (1 < k → plainV y = 0)) (fun k => [(12, none, .agg (.cons (encV x) (.cons (encV y) .nil))), (13, none, .v (.int .i64 k)), (5, none, .v (.int .i64 0)), (4, none, .ptr ⟨4, 0, b4, 0, 106, 0, 0, 0, false⟩), (3, none, .ptr ⟨3, 0, b3, 0, 53, 0, 0, 0, false⟩), (2, none, .ptr ⟨2, 0, b2, 0, 53, 0, 0, 0, false⟩)])
        (fun _ => [(4, .row b4 52 106 1 (fun _ => row52.zero) 1), (3, .row b3 43 53 1 (fun _ => encV y) 1), (2, .row b2 43 53 1 (fun _ => encV x) 1)]) (fun k => 2 - k) 0 ⟨Nat.zero_le _, fun h => by omega, fun h => by omega⟩ ?_ ?_
      · exact Le.of ⟨rfl, rfl, rfl, rfl, rfl, rfl, trivial⟩ ⟨⟨_, rfl, Blk.le_refl _⟩, ⟨_, rfl, Blk.le_refl _⟩, ⟨_, rfl, Blk.le_refl _⟩, trivial⟩
      · intro k ⟨hk, h0, h1⟩
        have hk3 : k = 0 ∨ k = 1 ∨ k = 2 := by omega
        rcases hk3 with rfl | rfl | rfl
        · repeat (first
            | refine s_seq ?_
            | refine s_region ?_
            | refine o_val rfl rfl trivial ?_
            | (refine o_val rfl rfl ?hc ?_; (case hc => (first | (simp only [need, imp, needIf]; done) | ((try simp only [need, imp, needIf]); (repeat' apply And.intro) <;> (first | trivial | rfl | omega | (simp; done) | (simp; omega))))))
            | refine o_new rfl rfl trivial (fun _ => ?_)
            | (refine o_new rfl rfl ?hc (fun _ => ?_); (case hc => (first | (simp only [need, imp, needIf]; done) | ((try simp only [need, imp, needIf]); (repeat' apply And.intro) <;> (first | trivial | rfl | omega | (simp; done) | (simp; omega))))))
            | refine d_val rfl rfl trivial ?_
            | (refine d_val rfl rfl ?hc ?_; (case hc => (first | (simp only [need, imp, needIf]; done) | ((try simp only [need, imp, needIf]); (repeat' apply And.intro) <;> (first | trivial | rfl | omega | (simp; done) | (simp; omega))))))
            | refine d_new rfl rfl trivial rfl (fun _ => ?_)
            | (refine d_new rfl rfl ?hc rfl (fun _ => ?_); (case hc => (first | (simp only [need, imp, needIf]; done) | ((try simp only [need, imp, needIf]); (repeat' apply And.intro) <;> (first | trivial | rfl | omega | (simp; done) | (simp; omega))))))
            | refine o_eff (e_store rfl rfl rfl rfl rfl rfl rfl trivial ?_)
            | (refine o_eff (e_store rfl rfl rfl rfl rfl rfl rfl ?hc ?_); (case hc => (first | (simp only [need, imp, needIf]; done) | ((try simp only [need, imp, needIf]); (repeat' apply And.intro) <;> (first | trivial | rfl | omega | (simp; done) | (simp; omega))))))
            | refine o_nil ?_
            | refine d_nil ?_
            | refine s_skip ?_
            | refine s_block ?_
            | refine s_exit ?_
            | refine s_label ?_)
          refine s_cond (b := true) rfl (fun _ => ?_) (fun hb => by cases hb)
          repeat (first
            | refine s_seq ?_
            | refine s_region ?_
            | refine o_val rfl rfl trivial ?_
            | (refine o_val rfl rfl ?hc ?_; (case hc => (first | (simp only [need, imp, needIf]; done) | ((try simp only [need, imp, needIf]); (repeat' apply And.intro) <;> (first | trivial | rfl | omega | (simp; done) | (simp; omega))))))
            | refine o_new rfl rfl trivial (fun _ => ?_)
            | (refine o_new rfl rfl ?hc (fun _ => ?_); (case hc => (first | (simp only [need, imp, needIf]; done) | ((try simp only [need, imp, needIf]); (repeat' apply And.intro) <;> (first | trivial | rfl | omega | (simp; done) | (simp; omega))))))
            | refine d_val rfl rfl trivial ?_
            | (refine d_val rfl rfl ?hc ?_; (case hc => (first | (simp only [need, imp, needIf]; done) | ((try simp only [need, imp, needIf]); (repeat' apply And.intro) <;> (first | trivial | rfl | omega | (simp; done) | (simp; omega))))))
            | refine d_new rfl rfl trivial rfl (fun _ => ?_)
            | (refine d_new rfl rfl ?hc rfl (fun _ => ?_); (case hc => (first | (simp only [need, imp, needIf]; done) | ((try simp only [need, imp, needIf]); (repeat' apply And.intro) <;> (first | trivial | rfl | omega | (simp; done) | (simp; omega))))))
            | refine o_eff (e_store rfl rfl rfl rfl rfl rfl rfl trivial ?_)
            | (refine o_eff (e_store rfl rfl rfl rfl rfl rfl rfl ?hc ?_); (case hc => (first | (simp only [need, imp, needIf]; done) | ((try simp only [need, imp, needIf]); (repeat' apply And.intro) <;> (first | trivial | rfl | omega | (simp; done) | (simp; omega))))))
            | refine o_nil ?_
            | refine d_nil ?_
            | refine s_skip ?_
            | refine s_block ?_
            | refine s_exit ?_
            | refine s_label ?_)
          refine s_cond rfl (fun h2 => ?_) (fun h2 => ?_)
          · repeat (first
              | refine s_seq ?_
              | refine s_region ?_
              | refine o_val rfl rfl trivial ?_
              | (refine o_val rfl rfl ?hc ?_; (case hc => (first | (simp only [need, imp, needIf]; done) | ((try simp only [need, imp, needIf]); (repeat' apply And.intro) <;> (first | trivial | rfl | omega | (simp; done) | (simp; omega))))))
              | refine o_new rfl rfl trivial (fun _ => ?_)
              | (refine o_new rfl rfl ?hc (fun _ => ?_); (case hc => (first | (simp only [need, imp, needIf]; done) | ((try simp only [need, imp, needIf]); (repeat' apply And.intro) <;> (first | trivial | rfl | omega | (simp; done) | (simp; omega))))))
              | refine d_val rfl rfl trivial ?_
              | (refine d_val rfl rfl ?hc ?_; (case hc => (first | (simp only [need, imp, needIf]; done) | ((try simp only [need, imp, needIf]); (repeat' apply And.intro) <;> (first | trivial | rfl | omega | (simp; done) | (simp; omega))))))
              | refine d_new rfl rfl trivial rfl (fun _ => ?_)
              | (refine d_new rfl rfl ?hc rfl (fun _ => ?_); (case hc => (first | (simp only [need, imp, needIf]; done) | ((try simp only [need, imp, needIf]); (repeat' apply And.intro) <;> (first | trivial | rfl | omega | (simp; done) | (simp; omega))))))
              | refine o_eff (e_store rfl rfl rfl rfl rfl rfl rfl trivial ?_)
              | (refine o_eff (e_store rfl rfl rfl rfl rfl rfl rfl ?hc ?_); (case hc => (first | (simp only [need, imp, needIf]; done) | ((try simp only [need, imp, needIf]); (repeat' apply And.intro) <;> (first | trivial | rfl | omega | (simp; done) | (simp; omega))))))
              | refine o_nil ?_
              | refine d_nil ?_
              | refine s_skip ?_
              | refine s_block ?_
              | refine s_exit ?_
              | refine s_label ?_)
            refine s_ret ?_
            refine ⟨_, _, rfl, ⟨⟨⟨rfl, rfl, rfl, Nat.zero_lt_one⟩, rfl⟩, trivial, trivial⟩, ?_⟩
            simp only [pairP, h2]; rfl
          · repeat (first
              | refine s_seq ?_
              | refine s_region ?_
              | refine o_val rfl rfl trivial ?_
              | (refine o_val rfl rfl ?hc ?_; (case hc => (first | (simp only [need, imp, needIf]; done) | ((try simp only [need, imp, needIf]); (repeat' apply And.intro) <;> (first | trivial | rfl | omega | (simp; done) | (simp; omega))))))
              | refine o_new rfl rfl trivial (fun _ => ?_)
              | (refine o_new rfl rfl ?hc (fun _ => ?_); (case hc => (first | (simp only [need, imp, needIf]; done) | ((try simp only [need, imp, needIf]); (repeat' apply And.intro) <;> (first | trivial | rfl | omega | (simp; done) | (simp; omega))))))
              | refine d_val rfl rfl trivial ?_
              | (refine d_val rfl rfl ?hc ?_; (case hc => (first | (simp only [need, imp, needIf]; done) | ((try simp only [need, imp, needIf]); (repeat' apply And.intro) <;> (first | trivial | rfl | omega | (simp; done) | (simp; omega))))))
              | refine d_new rfl rfl trivial rfl (fun _ => ?_)
              | (refine d_new rfl rfl ?hc rfl (fun _ => ?_); (case hc => (first | (simp only [need, imp, needIf]; done) | ((try simp only [need, imp, needIf]); (repeat' apply And.intro) <;> (first | trivial | rfl | omega | (simp; done) | (simp; omega))))))
              | refine o_eff (e_store rfl rfl rfl rfl rfl rfl rfl trivial ?_)
              | (refine o_eff (e_store rfl rfl rfl rfl rfl rfl rfl ?hc ?_); (case hc => (first | (simp only [need, imp, needIf]; done) | ((try simp only [need, imp, needIf]); (repeat' apply And.intro) <;> (first | trivial | rfl | omega | (simp; done) | (simp; omega))))))
              | refine o_nil ?_
              | refine d_nil ?_
              | refine s_skip ?_
              | refine s_block ?_
              | refine s_exit ?_
              | refine s_label ?_)
            refine ⟨1, ⟨by omega, fun _ => by simpa using h2, fun h => by omega⟩, by omega, ?_⟩
            exact Le.of ⟨rfl, rfl, rfl, rfl, rfl, rfl, trivial⟩ ⟨⟨_, rfl, Blk.le_refl _⟩, ⟨_, rfl, Blk.le_refl _⟩, ⟨_, rfl, Blk.le_refl _⟩, trivial⟩
        · repeat (first
            | refine s_seq ?_
            | refine s_region ?_
            | refine o_val rfl rfl trivial ?_
            | (refine o_val rfl rfl ?hc ?_; (case hc => (first | (simp only [need, imp, needIf]; done) | ((try simp only [need, imp, needIf]); (repeat' apply And.intro) <;> (first | trivial | rfl | omega | (simp; done) | (simp; omega))))))
            | refine o_new rfl rfl trivial (fun _ => ?_)
            | (refine o_new rfl rfl ?hc (fun _ => ?_); (case hc => (first | (simp only [need, imp, needIf]; done) | ((try simp only [need, imp, needIf]); (repeat' apply And.intro) <;> (first | trivial | rfl | omega | (simp; done) | (simp; omega))))))
            | refine d_val rfl rfl trivial ?_
            | (refine d_val rfl rfl ?hc ?_; (case hc => (first | (simp only [need, imp, needIf]; done) | ((try simp only [need, imp, needIf]); (repeat' apply And.intro) <;> (first | trivial | rfl | omega | (simp; done) | (simp; omega))))))
            | refine d_new rfl rfl trivial rfl (fun _ => ?_)
            | (refine d_new rfl rfl ?hc rfl (fun _ => ?_); (case hc => (first | (simp only [need, imp, needIf]; done) | ((try simp only [need, imp, needIf]); (repeat' apply And.intro) <;> (first | trivial | rfl | omega | (simp; done) | (simp; omega))))))
            | refine o_eff (e_store rfl rfl rfl rfl rfl rfl rfl trivial ?_)
            | (refine o_eff (e_store rfl rfl rfl rfl rfl rfl rfl ?hc ?_); (case hc => (first | (simp only [need, imp, needIf]; done) | ((try simp only [need, imp, needIf]); (repeat' apply And.intro) <;> (first | trivial | rfl | omega | (simp; done) | (simp; omega))))))
            | refine o_nil ?_
            | refine d_nil ?_
            | refine s_skip ?_
            | refine s_block ?_
            | refine s_exit ?_
            | refine s_label ?_)
          refine s_cond (b := true) rfl (fun _ => ?_) (fun hb => by cases hb)
          repeat (first
            | refine s_seq ?_
            | refine s_region ?_
            | refine o_val rfl rfl trivial ?_
            | (refine o_val rfl rfl ?hc ?_; (case hc => (first | (simp only [need, imp, needIf]; done) | ((try simp only [need, imp, needIf]); (repeat' apply And.intro) <;> (first | trivial | rfl | omega | (simp; done) | (simp; omega))))))
            | refine o_new rfl rfl trivial (fun _ => ?_)
            | (refine o_new rfl rfl ?hc (fun _ => ?_); (case hc => (first | (simp only [need, imp, needIf]; done) | ((try simp only [need, imp, needIf]); (repeat' apply And.intro) <;> (first | trivial | rfl | omega | (simp; done) | (simp; omega))))))
            | refine d_val rfl rfl trivial ?_
            | (refine d_val rfl rfl ?hc ?_; (case hc => (first | (simp only [need, imp, needIf]; done) | ((try simp only [need, imp, needIf]); (repeat' apply And.intro) <;> (first | trivial | rfl | omega | (simp; done) | (simp; omega))))))
            | refine d_new rfl rfl trivial rfl (fun _ => ?_)
            | (refine d_new rfl rfl ?hc rfl (fun _ => ?_); (case hc => (first | (simp only [need, imp, needIf]; done) | ((try simp only [need, imp, needIf]); (repeat' apply And.intro) <;> (first | trivial | rfl | omega | (simp; done) | (simp; omega))))))
            | refine o_eff (e_store rfl rfl rfl rfl rfl rfl rfl trivial ?_)
            | (refine o_eff (e_store rfl rfl rfl rfl rfl rfl rfl ?hc ?_); (case hc => (first | (simp only [need, imp, needIf]; done) | ((try simp only [need, imp, needIf]); (repeat' apply And.intro) <;> (first | trivial | rfl | omega | (simp; done) | (simp; omega))))))
            | refine o_nil ?_
            | refine d_nil ?_
            | refine s_skip ?_
            | refine s_block ?_
            | refine s_exit ?_
            | refine s_label ?_)
          refine s_cond rfl (fun h2 => ?_) (fun h2 => ?_)
          · repeat (first
              | refine s_seq ?_
              | refine s_region ?_
              | refine o_val rfl rfl trivial ?_
              | (refine o_val rfl rfl ?hc ?_; (case hc => (first | (simp only [need, imp, needIf]; done) | ((try simp only [need, imp, needIf]); (repeat' apply And.intro) <;> (first | trivial | rfl | omega | (simp; done) | (simp; omega))))))
              | refine o_new rfl rfl trivial (fun _ => ?_)
              | (refine o_new rfl rfl ?hc (fun _ => ?_); (case hc => (first | (simp only [need, imp, needIf]; done) | ((try simp only [need, imp, needIf]); (repeat' apply And.intro) <;> (first | trivial | rfl | omega | (simp; done) | (simp; omega))))))
              | refine d_val rfl rfl trivial ?_
              | (refine d_val rfl rfl ?hc ?_; (case hc => (first | (simp only [need, imp, needIf]; done) | ((try simp only [need, imp, needIf]); (repeat' apply And.intro) <;> (first | trivial | rfl | omega | (simp; done) | (simp; omega))))))
              | refine d_new rfl rfl trivial rfl (fun _ => ?_)
              | (refine d_new rfl rfl ?hc rfl (fun _ => ?_); (case hc => (first | (simp only [need, imp, needIf]; done) | ((try simp only [need, imp, needIf]); (repeat' apply And.intro) <;> (first | trivial | rfl | omega | (simp; done) | (simp; omega))))))
              | refine o_eff (e_store rfl rfl rfl rfl rfl rfl rfl trivial ?_)
              | (refine o_eff (e_store rfl rfl rfl rfl rfl rfl rfl ?hc ?_); (case hc => (first | (simp only [need, imp, needIf]; done) | ((try simp only [need, imp, needIf]); (repeat' apply And.intro) <;> (first | trivial | rfl | omega | (simp; done) | (simp; omega))))))
              | refine o_nil ?_
              | refine d_nil ?_
              | refine s_skip ?_
              | refine s_block ?_
              | refine s_exit ?_
              | refine s_label ?_)
            refine s_ret ?_
            refine ⟨_, _, rfl, ⟨⟨⟨rfl, rfl, rfl, Nat.zero_lt_one⟩, rfl⟩, trivial, trivial⟩, ?_⟩
            have hx0 : (plainV x != 0) = false := by rw [h0 (by omega)]; rfl
            simp only [pairP, hx0, h2]; rfl
          · repeat (first
              | refine s_seq ?_
              | refine s_region ?_
              | refine o_val rfl rfl trivial ?_
              | (refine o_val rfl rfl ?hc ?_; (case hc => (first | (simp only [need, imp, needIf]; done) | ((try simp only [need, imp, needIf]); (repeat' apply And.intro) <;> (first | trivial | rfl | omega | (simp; done) | (simp; omega))))))
              | refine o_new rfl rfl trivial (fun _ => ?_)
              | (refine o_new rfl rfl ?hc (fun _ => ?_); (case hc => (first | (simp only [need, imp, needIf]; done) | ((try simp only [need, imp, needIf]); (repeat' apply And.intro) <;> (first | trivial | rfl | omega | (simp; done) | (simp; omega))))))
              | refine d_val rfl rfl trivial ?_
              | (refine d_val rfl rfl ?hc ?_; (case hc => (first | (simp only [need, imp, needIf]; done) | ((try simp only [need, imp, needIf]); (repeat' apply And.intro) <;> (first | trivial | rfl | omega | (simp; done) | (simp; omega))))))
              | refine d_new rfl rfl trivial rfl (fun _ => ?_)
              | (refine d_new rfl rfl ?hc rfl (fun _ => ?_); (case hc => (first | (simp only [need, imp, needIf]; done) | ((try simp only [need, imp, needIf]); (repeat' apply And.intro) <;> (first | trivial | rfl | omega | (simp; done) | (simp; omega))))))
              | refine o_eff (e_store rfl rfl rfl rfl rfl rfl rfl trivial ?_)
              | (refine o_eff (e_store rfl rfl rfl rfl rfl rfl rfl ?hc ?_); (case hc => (first | (simp only [need, imp, needIf]; done) | ((try simp only [need, imp, needIf]); (repeat' apply And.intro) <;> (first | trivial | rfl | omega | (simp; done) | (simp; omega))))))
              | refine o_nil ?_
              | refine d_nil ?_
              | refine s_skip ?_
              | refine s_block ?_
              | refine s_exit ?_
              | refine s_label ?_)
            refine ⟨2, ⟨by omega, fun _ => h0 (by omega), fun _ => by simpa using h2⟩, by omega, ?_⟩
            exact Le.of ⟨rfl, rfl, rfl, rfl, rfl, rfl, trivial⟩ ⟨⟨_, rfl, Blk.le_refl _⟩, ⟨_, rfl, Blk.le_refl _⟩, ⟨_, rfl, Blk.le_refl _⟩, trivial⟩
        · have hx0 : (plainV x != 0) = false := by rw [h0 (by omega)]; rfl
          have hy0 : (plainV y != 0) = false := by rw [h1 (by omega)]; rfl
          repeat (first
            | refine s_seq ?_
            | refine s_region ?_
            | refine o_val rfl rfl trivial ?_
            | (refine o_val rfl rfl ?hc ?_; (case hc => (first | (simp only [need, imp, needIf]; done) | ((try simp only [need, imp, needIf]); (repeat' apply And.intro) <;> (first | trivial | rfl | omega | (simp; done) | (simp; omega))))))
            | refine o_new rfl rfl trivial (fun _ => ?_)
            | (refine o_new rfl rfl ?hc (fun _ => ?_); (case hc => (first | (simp only [need, imp, needIf]; done) | ((try simp only [need, imp, needIf]); (repeat' apply And.intro) <;> (first | trivial | rfl | omega | (simp; done) | (simp; omega))))))
            | refine d_val rfl rfl trivial ?_
            | (refine d_val rfl rfl ?hc ?_; (case hc => (first | (simp only [need, imp, needIf]; done) | ((try simp only [need, imp, needIf]); (repeat' apply And.intro) <;> (first | trivial | rfl | omega | (simp; done) | (simp; omega))))))
            | refine d_new rfl rfl trivial rfl (fun _ => ?_)
            | (refine d_new rfl rfl ?hc rfl (fun _ => ?_); (case hc => (first | (simp only [need, imp, needIf]; done) | ((try simp only [need, imp, needIf]); (repeat' apply And.intro) <;> (first | trivial | rfl | omega | (simp; done) | (simp; omega))))))
            | refine o_eff (e_store rfl rfl rfl rfl rfl rfl rfl trivial ?_)
            | (refine o_eff (e_store rfl rfl rfl rfl rfl rfl rfl ?hc ?_); (case hc => (first | (simp only [need, imp, needIf]; done) | ((try simp only [need, imp, needIf]); (repeat' apply And.intro) <;> (first | trivial | rfl | omega | (simp; done) | (simp; omega))))))
            | refine o_nil ?_
            | refine d_nil ?_
            | refine s_skip ?_
            | refine s_block ?_
            | refine s_exit ?_
            | refine s_label ?_)
          refine s_cond (b := false) rfl (fun hb => by cases hb) (fun _ => ?_)
          repeat (first
            | refine s_seq ?_
            | refine s_region ?_
            | refine o_val rfl rfl trivial ?_
            | (refine o_val rfl rfl ?hc ?_; (case hc => (first | (simp only [need, imp, needIf]; done) | ((try simp only [need, imp, needIf]); (repeat' apply And.intro) <;> (first | trivial | rfl | omega | (simp; done) | (simp; omega))))))
            | refine o_new rfl rfl trivial (fun _ => ?_)
            | (refine o_new rfl rfl ?hc (fun _ => ?_); (case hc => (first | (simp only [need, imp, needIf]; done) | ((try simp only [need, imp, needIf]); (repeat' apply And.intro) <;> (first | trivial | rfl | omega | (simp; done) | (simp; omega))))))
            | refine d_val rfl rfl trivial ?_
            | (refine d_val rfl rfl ?hc ?_; (case hc => (first | (simp only [need, imp, needIf]; done) | ((try simp only [need, imp, needIf]); (repeat' apply And.intro) <;> (first | trivial | rfl | omega | (simp; done) | (simp; omega))))))
            | refine d_new rfl rfl trivial rfl (fun _ => ?_)
            | (refine d_new rfl rfl ?hc rfl (fun _ => ?_); (case hc => (first | (simp only [need, imp, needIf]; done) | ((try simp only [need, imp, needIf]); (repeat' apply And.intro) <;> (first | trivial | rfl | omega | (simp; done) | (simp; omega))))))
            | refine o_eff (e_store rfl rfl rfl rfl rfl rfl rfl trivial ?_)
            | (refine o_eff (e_store rfl rfl rfl rfl rfl rfl rfl ?hc ?_); (case hc => (first | (simp only [need, imp, needIf]; done) | ((try simp only [need, imp, needIf]); (repeat' apply And.intro) <;> (first | trivial | rfl | omega | (simp; done) | (simp; omega))))))
            | refine o_nil ?_
            | refine d_nil ?_
            | refine s_skip ?_
            | refine s_block ?_
            | refine s_exit ?_
            | refine s_label ?_)
          refine s_draw rD40_8 rM40_8 (by kernel_rfl) (by kernel_rfl) ?_
          repeat (first
            | refine s_seq ?_
            | refine s_region ?_
            | refine o_val rfl rfl trivial ?_
            | (refine o_val rfl rfl ?hc ?_; (case hc => (first | (simp only [need, imp, needIf]; done) | ((try simp only [need, imp, needIf]); (repeat' apply And.intro) <;> (first | trivial | rfl | omega | (simp; done) | (simp; omega))))))
            | refine o_new rfl rfl trivial (fun _ => ?_)
            | (refine o_new rfl rfl ?hc (fun _ => ?_); (case hc => (first | (simp only [need, imp, needIf]; done) | ((try simp only [need, imp, needIf]); (repeat' apply And.intro) <;> (first | trivial | rfl | omega | (simp; done) | (simp; omega))))))
            | refine d_val rfl rfl trivial ?_
            | (refine d_val rfl rfl ?hc ?_; (case hc => (first | (simp only [need, imp, needIf]; done) | ((try simp only [need, imp, needIf]); (repeat' apply And.intro) <;> (first | trivial | rfl | omega | (simp; done) | (simp; omega))))))
            | refine d_new rfl rfl trivial rfl (fun _ => ?_)
            | (refine d_new rfl rfl ?hc rfl (fun _ => ?_); (case hc => (first | (simp only [need, imp, needIf]; done) | ((try simp only [need, imp, needIf]); (repeat' apply And.intro) <;> (first | trivial | rfl | omega | (simp; done) | (simp; omega))))))
            | refine o_eff (e_store rfl rfl rfl rfl rfl rfl rfl trivial ?_)
            | (refine o_eff (e_store rfl rfl rfl rfl rfl rfl rfl ?hc ?_); (case hc => (first | (simp only [need, imp, needIf]; done) | ((try simp only [need, imp, needIf]); (repeat' apply And.intro) <;> (first | trivial | rfl | omega | (simp; done) | (simp; omega))))))
            | refine o_nil ?_
            | refine d_nil ?_
            | refine s_skip ?_
            | refine s_block ?_
            | refine s_exit ?_
            | refine s_label ?_)
          refine d_val rfl rfl ?hc ?_
          case hc =>
            simp only [need, imp]
            exact ⟨trivial, ⟨⟨trivial, trivial, trivial, Nat.zero_lt_one, by decide⟩, trivial, fun _ _ => rfl⟩, ⟨trivial, trivial, trivial, Nat.zero_lt_one, by decide⟩, trivial, fun _ _ => rfl⟩
          repeat (first
            | refine s_seq ?_
            | refine s_region ?_
            | refine o_val rfl rfl trivial ?_
            | (refine o_val rfl rfl ?hc ?_; (case hc => (first | (simp only [need, imp, needIf]; done) | ((try simp only [need, imp, needIf]); (repeat' apply And.intro) <;> (first | trivial | rfl | omega | (simp; done) | (simp; omega))))))
            | refine o_new rfl rfl trivial (fun _ => ?_)
            | (refine o_new rfl rfl ?hc (fun _ => ?_); (case hc => (first | (simp only [need, imp, needIf]; done) | ((try simp only [need, imp, needIf]); (repeat' apply And.intro) <;> (first | trivial | rfl | omega | (simp; done) | (simp; omega))))))
            | refine d_val rfl rfl trivial ?_
            | (refine d_val rfl rfl ?hc ?_; (case hc => (first | (simp only [need, imp, needIf]; done) | ((try simp only [need, imp, needIf]); (repeat' apply And.intro) <;> (first | trivial | rfl | omega | (simp; done) | (simp; omega))))))
            | refine d_new rfl rfl trivial rfl (fun _ => ?_)
            | (refine d_new rfl rfl ?hc rfl (fun _ => ?_); (case hc => (first | (simp only [need, imp, needIf]; done) | ((try simp only [need, imp, needIf]); (repeat' apply And.intro) <;> (first | trivial | rfl | omega | (simp; done) | (simp; omega))))))
            | refine o_eff (e_store rfl rfl rfl rfl rfl rfl rfl trivial ?_)
            | (refine o_eff (e_store rfl rfl rfl rfl rfl rfl rfl ?hc ?_); (case hc => (first | (simp only [need, imp, needIf]; done) | ((try simp only [need, imp, needIf]); (repeat' apply And.intro) <;> (first | trivial | rfl | omega | (simp; done) | (simp; omega))))))
            | refine o_nil ?_
            | refine d_nil ?_
            | refine s_skip ?_
            | refine s_block ?_
            | refine s_exit ?_
            | refine s_label ?_)
          refine s_cond (b := (((((x.from_ != y.from_) || (x.height != y.height)) || (x.round != y.round)) || (x.kind != y.kind)) || (cmpV x y == 0))) rfl (fun h2 => ?_) (fun h2 => ?_)
          · repeat (first
              | refine s_seq ?_
              | refine s_region ?_
              | refine o_val rfl rfl trivial ?_
              | (refine o_val rfl rfl ?hc ?_; (case hc => (first | (simp only [need, imp, needIf]; done) | ((try simp only [need, imp, needIf]); (repeat' apply And.intro) <;> (first | trivial | rfl | omega | (simp; done) | (simp; omega))))))
              | refine o_new rfl rfl trivial (fun _ => ?_)
              | (refine o_new rfl rfl ?hc (fun _ => ?_); (case hc => (first | (simp only [need, imp, needIf]; done) | ((try simp only [need, imp, needIf]); (repeat' apply And.intro) <;> (first | trivial | rfl | omega | (simp; done) | (simp; omega))))))
              | refine d_val rfl rfl trivial ?_
              | (refine d_val rfl rfl ?hc ?_; (case hc => (first | (simp only [need, imp, needIf]; done) | ((try simp only [need, imp, needIf]); (repeat' apply And.intro) <;> (first | trivial | rfl | omega | (simp; done) | (simp; omega))))))
              | refine d_new rfl rfl trivial rfl (fun _ => ?_)
              | (refine d_new rfl rfl ?hc rfl (fun _ => ?_); (case hc => (first | (simp only [need, imp, needIf]; done) | ((try simp only [need, imp, needIf]); (repeat' apply And.intro) <;> (first | trivial | rfl | omega | (simp; done) | (simp; omega))))))
              | refine o_eff (e_store rfl rfl rfl rfl rfl rfl rfl trivial ?_)
              | (refine o_eff (e_store rfl rfl rfl rfl rfl rfl rfl ?hc ?_); (case hc => (first | (simp only [need, imp, needIf]; done) | ((try simp only [need, imp, needIf]); (repeat' apply And.intro) <;> (first | trivial | rfl | omega | (simp; done) | (simp; omega))))))
              | refine o_nil ?_
              | refine d_nil ?_
              | refine s_skip ?_
              | refine s_block ?_
              | refine s_exit ?_
              | refine s_label ?_)
            refine s_ret ?_
            refine ⟨_, _, rfl, ⟨⟨⟨rfl, rfl, rfl, Nat.zero_lt_one⟩, rfl⟩, trivial, trivial⟩, ?_⟩
            simp only [pairP, hx0, hy0, h2]; rfl
          · repeat (first
              | refine s_seq ?_
              | refine s_region ?_
              | refine o_val rfl rfl trivial ?_
              | (refine o_val rfl rfl ?hc ?_; (case hc => (first | (simp only [need, imp, needIf]; done) | ((try simp only [need, imp, needIf]); (repeat' apply And.intro) <;> (first | trivial | rfl | omega | (simp; done) | (simp; omega))))))
              | refine o_new rfl rfl trivial (fun _ => ?_)
              | (refine o_new rfl rfl ?hc (fun _ => ?_); (case hc => (first | (simp only [need, imp, needIf]; done) | ((try simp only [need, imp, needIf]); (repeat' apply And.intro) <;> (first | trivial | rfl | omega | (simp; done) | (simp; omega))))))
              | refine d_val rfl rfl trivial ?_
              | (refine d_val rfl rfl ?hc ?_; (case hc => (first | (simp only [need, imp, needIf]; done) | ((try simp only [need, imp, needIf]); (repeat' apply And.intro) <;> (first | trivial | rfl | omega | (simp; done) | (simp; omega))))))
              | refine d_new rfl rfl trivial rfl (fun _ => ?_)
              | (refine d_new rfl rfl ?hc rfl (fun _ => ?_); (case hc => (first | (simp only [need, imp, needIf]; done) | ((try simp only [need, imp, needIf]); (repeat' apply And.intro) <;> (first | trivial | rfl | omega | (simp; done) | (simp; omega))))))
              | refine o_eff (e_store rfl rfl rfl rfl rfl rfl rfl trivial ?_)
              | (refine o_eff (e_store rfl rfl rfl rfl rfl rfl rfl ?hc ?_); (case hc => (first | (simp only [need, imp, needIf]; done) | ((try simp only [need, imp, needIf]); (repeat' apply And.intro) <;> (first | trivial | rfl | omega | (simp; done) | (simp; omega))))))
              | refine o_nil ?_
              | refine d_nil ?_
              | refine s_skip ?_
              | refine s_block ?_
              | refine s_exit ?_
              | refine s_label ?_)
            refine s_cond (b := decide (cmpV x y > 0)) rfl (fun h3 => ?_) (fun h3 => ?_)
            all_goals
              repeat (first
                | refine s_seq ?_
                | refine s_region ?_
                | refine o_val rfl rfl trivial ?_
                | (refine o_val rfl rfl ?hc ?_; (case hc => (first | (simp only [need, imp, needIf]; done) | ((try simp only [need, imp, needIf]); (repeat' apply And.intro) <;> (first | trivial | rfl | omega | (simp; done) | (simp; omega))))))
                | refine o_new rfl rfl trivial (fun _ => ?_)
                | (refine o_new rfl rfl ?hc (fun _ => ?_); (case hc => (first | (simp only [need, imp, needIf]; done) | ((try simp only [need, imp, needIf]); (repeat' apply And.intro) <;> (first | trivial | rfl | omega | (simp; done) | (simp; omega))))))
                | refine d_val rfl rfl trivial ?_
                | (refine d_val rfl rfl ?hc ?_; (case hc => (first | (simp only [need, imp, needIf]; done) | ((try simp only [need, imp, needIf]); (repeat' apply And.intro) <;> (first | trivial | rfl | omega | (simp; done) | (simp; omega))))))
                | refine d_new rfl rfl trivial rfl (fun _ => ?_)
                | (refine d_new rfl rfl ?hc rfl (fun _ => ?_); (case hc => (first | (simp only [need, imp, needIf]; done) | ((try simp only [need, imp, needIf]); (repeat' apply And.intro) <;> (first | trivial | rfl | omega | (simp; done) | (simp; omega))))))
                | refine o_eff (e_store rfl rfl rfl rfl rfl rfl rfl trivial ?_)
                | (refine o_eff (e_store rfl rfl rfl rfl rfl rfl rfl ?hc ?_); (case hc => (first | (simp only [need, imp, needIf]; done) | ((try simp only [need, imp, needIf]); (repeat' apply And.intro) <;> (first | trivial | rfl | omega | (simp; done) | (simp; omega))))))
                | refine o_nil ?_
                | refine d_nil ?_
                | refine s_skip ?_
                | refine s_block ?_
                | refine s_exit ?_
                | refine s_label ?_)
              refine s_ret ?_
              refine ⟨_, _, rfl, ⟨⟨⟨rfl, rfl, rfl, Nat.zero_lt_one⟩, rfl⟩, trivial, trivial⟩, ?_⟩
              simp only [pairP, hx0, hy0, h2, h3]; rfl
    · cases h
  · cases h
theorem pairP_body : HasBody Tryz.prog 40 := ⟨_, Tryz.func40, rfl, by decide⟩
end Go.Proofs.YtofophjfgalhaaaGreatDoor.D
