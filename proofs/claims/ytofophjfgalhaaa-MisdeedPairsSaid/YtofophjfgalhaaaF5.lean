import Derived.Test.YtofophjfgalhaaaF4
import Derived.Test.YtofophjfgalhaaaD22
/-! The document's Pair; misdeed.New, Len; alive. -/
namespace Go.Proofs.Ytofophjfgalhaaa.D
open Go

def eR (x y : Vote) : Int := if (plainR x == 0) = true then plainR y else plainR x
/-- the document's Pair -/
def pairR (x y : Vote) : (Vote × Vote) × Int :=
  if (eR x y != 0) = true then ((zeroV, zeroV), eR x y) else
  if (((((x.from_ != y.from_) || (x.height != y.height)) || (x.round != y.round)) || (x.kind != y.kind)) || (intsEq 32 x.id y.id)) = true then ((zeroV, zeroV), 110) else
  if (belowN y.id x.id 32 0) = true then ((y, x), 0) else ((x, y), 0)
def pairRC : List AV → Option (Prop × AV)
  | [a, b] => match decV a, decV b with
    | some x, some y => some (True, encR (pairR x y))
    | _, _ => none
  | _ => none
def ct5 : CtL := [(22, fun a _ => plainRC a), (23, fun a _ => belowC a)]
theorem ct5_ok : CtLOk Try.prog ct5 := ⟨.fn plainR_body plainR_pure.read, .fn below_body below_pure.read, trivial⟩

set_option maxRecDepth 100000 in
set_option maxHeartbeats 4000000 in
theorem pairR_pure : PureFn Try.prog 12 pairRC := by
  intro args q res h hq w
  unfold pairRC at h
  split at h
  · split at h
    · rename_i a b x y hx hy
      cases h
      have ha := decV_enc hx
      have hb := decV_enc hy
      subst ha hb
      refine pure_fn tb_ok eqs_ok ct5_ok mixed Try.func12 rfl rfl ?_
      repeat (first
        | refine s_seq ?_
        | refine s_region ?_
        | refine o_val rfl rfl trivial ?_
        | (refine o_val rfl rfl ?hc ?_; (case hc => (first | (simp only [need, imp, needIf]; done) | ((try simp only [need, imp, needIf]); (repeat' apply And.intro) <;> (first | trivial | rfl | omega | (simp; done) | (simp; omega))))))
        | refine o_new rfl rfl trivial (fun _ => ?_)
        | (refine o_new rfl rfl ?hc (fun _ => ?_); (case hc => (first | (simp only [need, imp, needIf]; done) | ((try simp only [need, imp, needIf]); (repeat' apply And.intro) <;> (first | trivial | rfl | omega | (simp; done) | (simp; omega))))))
        | refine d_val rfl rfl trivial ?_
        | (refine d_val rfl rfl ?hc ?_; (case hc => (first | (simp only [need, imp, needIf]; done) | ((try simp only [need, imp, needIf]); (repeat' apply And.intro) <;> (first | trivial | rfl | omega | (simp; done) | (simp; omega))))))
        | refine d_new rfl rfl trivial rfl (fun _ => ?_)
        | (refine d_new rfl rfl ?hc rfl (fun _ => ?_); (case hc => (first | (simp only [need, imp, needIf]; done) | ((try simp only [need, imp, needIf]); (repeat' apply And.intro) <;> (first | trivial | rfl | omega | (simp; done) | (simp; omega))))))
        | refine o_eff (e_store rfl rfl rfl rfl rfl rfl rfl trivial ?_)
        | (refine o_eff (e_store rfl rfl rfl rfl rfl rfl rfl ?hc ?_); (case hc => (first | (simp only [need, imp, needIf]; done) | ((try simp only [need, imp, needIf]); (repeat' apply And.intro) <;> (first | trivial | rfl | omega | (simp; done) | (simp; omega))))))
        | refine o_nil ?_
        | refine d_nil ?_
        | refine s_skip ?_
        | refine s_block ?_
        | refine s_exit ?_
        | refine s_label ?_)
      rename_i b2 b3 b4
      refine s_cond (b := plainR x == 0) rfl (fun h1 => ?_) (fun h1 => ?_)
      all_goals
        repeat (first
          | refine s_seq ?_
          | refine s_region ?_
          | refine o_val rfl rfl trivial ?_
          | (refine o_val rfl rfl ?hc ?_; (case hc => (first | (simp only [need, imp, needIf]; done) | ((try simp only [need, imp, needIf]); (repeat' apply And.intro) <;> (first | trivial | rfl | omega | (simp; done) | (simp; omega))))))
          | refine o_new rfl rfl trivial (fun _ => ?_)
          | (refine o_new rfl rfl ?hc (fun _ => ?_); (case hc => (first | (simp only [need, imp, needIf]; done) | ((try simp only [need, imp, needIf]); (repeat' apply And.intro) <;> (first | trivial | rfl | omega | (simp; done) | (simp; omega))))))
          | refine d_val rfl rfl trivial ?_
          | (refine d_val rfl rfl ?hc ?_; (case hc => (first | (simp only [need, imp, needIf]; done) | ((try simp only [need, imp, needIf]); (repeat' apply And.intro) <;> (first | trivial | rfl | omega | (simp; done) | (simp; omega))))))
          | refine d_new rfl rfl trivial rfl (fun _ => ?_)
          | (refine d_new rfl rfl ?hc rfl (fun _ => ?_); (case hc => (first | (simp only [need, imp, needIf]; done) | ((try simp only [need, imp, needIf]); (repeat' apply And.intro) <;> (first | trivial | rfl | omega | (simp; done) | (simp; omega))))))
          | refine o_eff (e_store rfl rfl rfl rfl rfl rfl rfl trivial ?_)
          | (refine o_eff (e_store rfl rfl rfl rfl rfl rfl rfl ?hc ?_); (case hc => (first | (simp only [need, imp, needIf]; done) | ((try simp only [need, imp, needIf]); (repeat' apply And.intro) <;> (first | trivial | rfl | omega | (simp; done) | (simp; omega))))))
          | refine o_nil ?_
          | refine d_nil ?_
          | refine s_skip ?_
          | refine s_block ?_
          | refine s_exit ?_
          | refine s_label ?_)
        refine s_le (tm' := [(14, none, .v (.bool (eR x y != 0))), (6, none, .v (.int .i64 (eR x y))), (5, none, .v (.int .i64 0)), (4, none, .ptr ⟨4, 0, b4, 0, 106, 0, 0, 0, false⟩), (3, none, .ptr ⟨3, 0, b3, 0, 53, 0, 0, 0, false⟩), (2, none, .ptr ⟨2, 0, b2, 0, 53, 0, 0, 0, false⟩)]) (M' := [(4, .row b4 34 106 1 (fun _ => row34.zero) 1), (3, .row b3 32 53 1 (fun _ => encV y) 1), (2, .row b2 32 53 1 (fun _ => encV x) 1)]) ?_ ?_
        · refine Le.of ⟨?_, ?_, rfl, rfl, rfl, rfl, trivial⟩ ⟨⟨_, rfl, Blk.le_refl _⟩, ⟨_, rfl, Blk.le_refl _⟩, ⟨_, rfl, Blk.le_refl _⟩, trivial⟩
          all_goals
            simp only [eR, h1]; rfl
        · refine s_cond (b := eR x y != 0) rfl (fun h2 => ?_) (fun h2 => ?_)
          · repeat (first
              | refine s_seq ?_
              | refine s_region ?_
              | refine o_val rfl rfl trivial ?_
              | (refine o_val rfl rfl ?hc ?_; (case hc => (first | (simp only [need, imp, needIf]; done) | ((try simp only [need, imp, needIf]); (repeat' apply And.intro) <;> (first | trivial | rfl | omega | (simp; done) | (simp; omega))))))
              | refine o_new rfl rfl trivial (fun _ => ?_)
              | (refine o_new rfl rfl ?hc (fun _ => ?_); (case hc => (first | (simp only [need, imp, needIf]; done) | ((try simp only [need, imp, needIf]); (repeat' apply And.intro) <;> (first | trivial | rfl | omega | (simp; done) | (simp; omega))))))
              | refine d_val rfl rfl trivial ?_
              | (refine d_val rfl rfl ?hc ?_; (case hc => (first | (simp only [need, imp, needIf]; done) | ((try simp only [need, imp, needIf]); (repeat' apply And.intro) <;> (first | trivial | rfl | omega | (simp; done) | (simp; omega))))))
              | refine d_new rfl rfl trivial rfl (fun _ => ?_)
              | (refine d_new rfl rfl ?hc rfl (fun _ => ?_); (case hc => (first | (simp only [need, imp, needIf]; done) | ((try simp only [need, imp, needIf]); (repeat' apply And.intro) <;> (first | trivial | rfl | omega | (simp; done) | (simp; omega))))))
              | refine o_eff (e_store rfl rfl rfl rfl rfl rfl rfl trivial ?_)
              | (refine o_eff (e_store rfl rfl rfl rfl rfl rfl rfl ?hc ?_); (case hc => (first | (simp only [need, imp, needIf]; done) | ((try simp only [need, imp, needIf]); (repeat' apply And.intro) <;> (first | trivial | rfl | omega | (simp; done) | (simp; omega))))))
              | refine o_nil ?_
              | refine d_nil ?_
              | refine s_skip ?_
              | refine s_block ?_
              | refine s_exit ?_
              | refine s_label ?_)
            refine s_ret ?_
            refine ⟨_, _, rfl, ⟨⟨⟨rfl, rfl, rfl, Nat.zero_lt_one⟩, rfl⟩, trivial, trivial⟩, ?_⟩
            simp only [pairR, h2]; rfl
          · repeat (first
              | refine s_seq ?_
              | refine s_region ?_
              | refine o_val rfl rfl trivial ?_
              | (refine o_val rfl rfl ?hc ?_; (case hc => (first | (simp only [need, imp, needIf]; done) | ((try simp only [need, imp, needIf]); (repeat' apply And.intro) <;> (first | trivial | rfl | omega | (simp; done) | (simp; omega))))))
              | refine o_new rfl rfl trivial (fun _ => ?_)
              | (refine o_new rfl rfl ?hc (fun _ => ?_); (case hc => (first | (simp only [need, imp, needIf]; done) | ((try simp only [need, imp, needIf]); (repeat' apply And.intro) <;> (first | trivial | rfl | omega | (simp; done) | (simp; omega))))))
              | refine d_val rfl rfl trivial ?_
              | (refine d_val rfl rfl ?hc ?_; (case hc => (first | (simp only [need, imp, needIf]; done) | ((try simp only [need, imp, needIf]); (repeat' apply And.intro) <;> (first | trivial | rfl | omega | (simp; done) | (simp; omega))))))
              | refine d_new rfl rfl trivial rfl (fun _ => ?_)
              | (refine d_new rfl rfl ?hc rfl (fun _ => ?_); (case hc => (first | (simp only [need, imp, needIf]; done) | ((try simp only [need, imp, needIf]); (repeat' apply And.intro) <;> (first | trivial | rfl | omega | (simp; done) | (simp; omega))))))
              | refine o_eff (e_store rfl rfl rfl rfl rfl rfl rfl trivial ?_)
              | (refine o_eff (e_store rfl rfl rfl rfl rfl rfl rfl ?hc ?_); (case hc => (first | (simp only [need, imp, needIf]; done) | ((try simp only [need, imp, needIf]); (repeat' apply And.intro) <;> (first | trivial | rfl | omega | (simp; done) | (simp; omega))))))
              | refine o_nil ?_
              | refine d_nil ?_
              | refine s_skip ?_
              | refine s_block ?_
              | refine s_exit ?_
              | refine s_label ?_)
            refine s_cond (b := (((((x.from_ != y.from_) || (x.height != y.height)) || (x.round != y.round)) || (x.kind != y.kind)) || (intsEq 32 x.id y.id))) rfl (fun h3 => ?_) (fun h3 => ?_)
            · repeat (first
                | refine s_seq ?_
                | refine s_region ?_
                | refine o_val rfl rfl trivial ?_
                | (refine o_val rfl rfl ?hc ?_; (case hc => (first | (simp only [need, imp, needIf]; done) | ((try simp only [need, imp, needIf]); (repeat' apply And.intro) <;> (first | trivial | rfl | omega | (simp; done) | (simp; omega))))))
                | refine o_new rfl rfl trivial (fun _ => ?_)
                | (refine o_new rfl rfl ?hc (fun _ => ?_); (case hc => (first | (simp only [need, imp, needIf]; done) | ((try simp only [need, imp, needIf]); (repeat' apply And.intro) <;> (first | trivial | rfl | omega | (simp; done) | (simp; omega))))))
                | refine d_val rfl rfl trivial ?_
                | (refine d_val rfl rfl ?hc ?_; (case hc => (first | (simp only [need, imp, needIf]; done) | ((try simp only [need, imp, needIf]); (repeat' apply And.intro) <;> (first | trivial | rfl | omega | (simp; done) | (simp; omega))))))
                | refine d_new rfl rfl trivial rfl (fun _ => ?_)
                | (refine d_new rfl rfl ?hc rfl (fun _ => ?_); (case hc => (first | (simp only [need, imp, needIf]; done) | ((try simp only [need, imp, needIf]); (repeat' apply And.intro) <;> (first | trivial | rfl | omega | (simp; done) | (simp; omega))))))
                | refine o_eff (e_store rfl rfl rfl rfl rfl rfl rfl trivial ?_)
                | (refine o_eff (e_store rfl rfl rfl rfl rfl rfl rfl ?hc ?_); (case hc => (first | (simp only [need, imp, needIf]; done) | ((try simp only [need, imp, needIf]); (repeat' apply And.intro) <;> (first | trivial | rfl | omega | (simp; done) | (simp; omega))))))
                | refine o_nil ?_
                | refine d_nil ?_
                | refine s_skip ?_
                | refine s_block ?_
                | refine s_exit ?_
                | refine s_label ?_)
              refine s_ret ?_
              refine ⟨_, _, rfl, ⟨⟨⟨rfl, rfl, rfl, Nat.zero_lt_one⟩, rfl⟩, trivial, trivial⟩, ?_⟩
              simp only [pairR, h2, h3]; rfl
            · repeat (first
                | refine s_seq ?_
                | refine s_region ?_
                | refine o_val rfl rfl trivial ?_
                | (refine o_val rfl rfl ?hc ?_; (case hc => (first | (simp only [need, imp, needIf]; done) | ((try simp only [need, imp, needIf]); (repeat' apply And.intro) <;> (first | trivial | rfl | omega | (simp; done) | (simp; omega))))))
                | refine o_new rfl rfl trivial (fun _ => ?_)
                | (refine o_new rfl rfl ?hc (fun _ => ?_); (case hc => (first | (simp only [need, imp, needIf]; done) | ((try simp only [need, imp, needIf]); (repeat' apply And.intro) <;> (first | trivial | rfl | omega | (simp; done) | (simp; omega))))))
                | refine d_val rfl rfl trivial ?_
                | (refine d_val rfl rfl ?hc ?_; (case hc => (first | (simp only [need, imp, needIf]; done) | ((try simp only [need, imp, needIf]); (repeat' apply And.intro) <;> (first | trivial | rfl | omega | (simp; done) | (simp; omega))))))
                | refine d_new rfl rfl trivial rfl (fun _ => ?_)
                | (refine d_new rfl rfl ?hc rfl (fun _ => ?_); (case hc => (first | (simp only [need, imp, needIf]; done) | ((try simp only [need, imp, needIf]); (repeat' apply And.intro) <;> (first | trivial | rfl | omega | (simp; done) | (simp; omega))))))
                | refine o_eff (e_store rfl rfl rfl rfl rfl rfl rfl trivial ?_)
                | (refine o_eff (e_store rfl rfl rfl rfl rfl rfl rfl ?hc ?_); (case hc => (first | (simp only [need, imp, needIf]; done) | ((try simp only [need, imp, needIf]); (repeat' apply And.intro) <;> (first | trivial | rfl | omega | (simp; done) | (simp; omega))))))
                | refine o_nil ?_
                | refine d_nil ?_
                | refine s_skip ?_
                | refine s_block ?_
                | refine s_exit ?_
                | refine s_label ?_)
              refine s_cond (b := belowN y.id x.id 32 0) rfl (fun h4 => ?_) (fun h4 => ?_)
              all_goals
                repeat (first
                  | refine s_seq ?_
                  | refine s_region ?_
                  | refine o_val rfl rfl trivial ?_
                  | (refine o_val rfl rfl ?hc ?_; (case hc => (first | (simp only [need, imp, needIf]; done) | ((try simp only [need, imp, needIf]); (repeat' apply And.intro) <;> (first | trivial | rfl | omega | (simp; done) | (simp; omega))))))
                  | refine o_new rfl rfl trivial (fun _ => ?_)
                  | (refine o_new rfl rfl ?hc (fun _ => ?_); (case hc => (first | (simp only [need, imp, needIf]; done) | ((try simp only [need, imp, needIf]); (repeat' apply And.intro) <;> (first | trivial | rfl | omega | (simp; done) | (simp; omega))))))
                  | refine d_val rfl rfl trivial ?_
                  | (refine d_val rfl rfl ?hc ?_; (case hc => (first | (simp only [need, imp, needIf]; done) | ((try simp only [need, imp, needIf]); (repeat' apply And.intro) <;> (first | trivial | rfl | omega | (simp; done) | (simp; omega))))))
                  | refine d_new rfl rfl trivial rfl (fun _ => ?_)
                  | (refine d_new rfl rfl ?hc rfl (fun _ => ?_); (case hc => (first | (simp only [need, imp, needIf]; done) | ((try simp only [need, imp, needIf]); (repeat' apply And.intro) <;> (first | trivial | rfl | omega | (simp; done) | (simp; omega))))))
                  | refine o_eff (e_store rfl rfl rfl rfl rfl rfl rfl trivial ?_)
                  | (refine o_eff (e_store rfl rfl rfl rfl rfl rfl rfl ?hc ?_); (case hc => (first | (simp only [need, imp, needIf]; done) | ((try simp only [need, imp, needIf]); (repeat' apply And.intro) <;> (first | trivial | rfl | omega | (simp; done) | (simp; omega))))))
                  | refine o_nil ?_
                  | refine d_nil ?_
                  | refine s_skip ?_
                  | refine s_block ?_
                  | refine s_exit ?_
                  | refine s_label ?_)
                refine s_ret ?_
                refine ⟨_, _, rfl, ⟨⟨⟨rfl, rfl, rfl, Nat.zero_lt_one⟩, rfl⟩, trivial, trivial⟩, ?_⟩
                simp only [pairR, h2, h3, h4]; rfl
    · cases h
  · cases h
theorem pairR_body : HasBody Try.prog 12 := ⟨_, Try.func12, rfl, by decide⟩

/-! ### misdeed.New, good, Len -/
theorem new_calls (w : World) : Calls Try.prog 18 #[] w fun e w' => ∃ r : Nat × Nat, e = .returned (AV.ptr ⟨3, 0, r.1, 0, 1, 0, 0, 0, false⟩).val ∧ Fresh w w' [.row r.1 75 1 1 (fun _ => .agg (.cons (.mp 1 r.2) .nil)) 1, .mp true r.2 []] := by
  refine new_fn tb_ok eqs_ok (ct := []) trivial mixed Try.func18 rfl (args := []) rfl (fun r : Nat × Nat => AV.ptr ⟨3, 0, r.1, 0, 1, 0, 0, 0, false⟩) (fun r => [.row r.1 75 1 1 (fun _ => .agg (.cons (.mp 1 r.2) .nil)) 1, .mp true r.2 []]) [3, 1] (by decide) (M := []) trivial trivial ?_
  repeat (first
    | refine s_seq ?_
    | refine s_region ?_
    | refine o_val rfl rfl trivial ?_
    | (refine o_val rfl rfl ?hc ?_; (case hc => (first | (simp only [need, imp, needIf]; done) | ((try simp only [need, imp, needIf]); (repeat' apply And.intro) <;> (first | trivial | rfl | omega | (simp; done) | (simp; omega))))))
    | refine o_new rfl rfl trivial (fun _ => ?_)
    | (refine o_new rfl rfl ?hc (fun _ => ?_); (case hc => (first | (simp only [need, imp, needIf]; done) | ((try simp only [need, imp, needIf]); (repeat' apply And.intro) <;> (first | trivial | rfl | omega | (simp; done) | (simp; omega))))))
    | refine d_val rfl rfl trivial ?_
    | (refine d_val rfl rfl ?hc ?_; (case hc => (first | (simp only [need, imp, needIf]; done) | ((try simp only [need, imp, needIf]); (repeat' apply And.intro) <;> (first | trivial | rfl | omega | (simp; done) | (simp; omega))))))
    | refine d_new rfl rfl trivial rfl (fun _ => ?_)
    | (refine d_new rfl rfl ?hc rfl (fun _ => ?_); (case hc => (first | (simp only [need, imp, needIf]; done) | ((try simp only [need, imp, needIf]); (repeat' apply And.intro) <;> (first | trivial | rfl | omega | (simp; done) | (simp; omega))))))
    | refine o_eff (e_store rfl rfl rfl rfl rfl rfl rfl trivial ?_)
    | (refine o_eff (e_store rfl rfl rfl rfl rfl rfl rfl ?hc ?_); (case hc => (first | (simp only [need, imp, needIf]; done) | ((try simp only [need, imp, needIf]); (repeat' apply And.intro) <;> (first | trivial | rfl | omega | (simp; done) | (simp; omega))))))
    | refine o_nil ?_
    | refine d_nil ?_
    | refine s_skip ?_
    | refine s_block ?_
    | refine s_exit ?_
    | refine s_label ?_)
  rename_i bm bp
  refine s_ret ?_
  exact ⟨_, _, rfl, ⟨trivial, trivial⟩, (bp, bm), rfl, ⟨rfl, rfl⟩, ⟨rfl, rfl⟩, trivial⟩
theorem new_body : HasBody Try.prog 18 := ⟨_, Try.func18, rfl, by decide⟩

/-- a pool, as the memory has it: its map's entries -/
def poolC (M : MemF) (p : Pt) : Option (Prop × Option (Nat × Nat × List (AV × AV))) := match sliceOf M p 1 with
  | some (c, es, f) => match f 0 with
    | .agg (.cons (.mp n bm) .nil) => match M n with
      | some (.mp _ b' l) => some (c ∧ es = 1 ∧ b' = bm, some (n, bm, l))
      | _ => none
    | .agg (.cons (.v (.map none)) .nil) => some (c ∧ es = 1, none)
    | _ => none
  | none => none
def goodC (args : List AV) (M : MemF) : Option (Prop × AV) := match args with
  | [.v (.pointer none)] => some (True, .v (.bool false))
  | [.ptr p] => match poolC M p with
    | some (c, some _) => some (c, .v (.bool true))
    | some (c, none) => some (c, .v (.bool false))
    | none => none
  | _ => none
theorem poolC_some {O : Nat → Prop} {w0 w : World} {M : MemF} (hS : Sat O w0 M w) {p : Pt} {c : Prop} {n bm : Nat} {l : List (AV × AV)} (h : poolC M p = some (c, some (n, bm, l))) (hc : c) :
    Reads w p.b p.cell 1 1 (fun _ => .agg (.cons (.mp 901 bm) .nil)) ∧ (Blk.mp false bm l).holds w := by
  unfold poolC at h
  split at h
  · rename_i c0 es f hs
    split at h
    · rename_i n' bm' hf
      split at h
      · rename_i m b' l' hM
        cases h
        obtain ⟨h1, rfl, rfl⟩ := hc
        refine ⟨?_, Blk.mp_holds (hS.holds _ _ hM)⟩
        have hr := sliceOf_reads hS hs h1
        refine ⟨hr.1, fun i hi => ?_⟩
        have hi0 : i = 0 := by omega
        subst hi0
        have := hr.2 0 hi
        rw [hf] at this
        exact this
      · cases h
    · cases h
    · cases h
  · cases h
theorem poolC_none {O : Nat → Prop} {w0 w : World} {M : MemF} (hS : Sat O w0 M w) {p : Pt} {c : Prop} (h : poolC M p = some (c, none)) (hc : c) :
    Reads w p.b p.cell 1 1 (fun _ => .agg (.cons (.v (.map none)) .nil)) := by
  unfold poolC at h
  split at h
  · rename_i c0 es f hs
    split at h
    · split at h <;> cases h
    · rename_i hf
      cases h
      obtain ⟨h1, rfl⟩ := hc
      exact (sliceOf_reads hS hs h1).congr fun i hi => by
        have hi0 : i = 0 := by omega
        rw [hi0, hf]
    · cases h
  · cases h
theorem good_read : ReadFn Try.prog 29 goodC := by
  intro args M q res h hq O w0 w hS
  unfold goodC at h
  split at h
  · cases h
    refine pure_fn tb_ok eqs_ok (ct := []) trivial mixed Try.func29 rfl rfl ?_
    repeat (first
      | refine s_seq ?_
      | refine s_region ?_
      | refine o_val rfl rfl trivial ?_
      | (refine o_val rfl rfl ?hc ?_; (case hc => (first | (simp only [need, imp, needIf]; done) | ((try simp only [need, imp, needIf]); (repeat' apply And.intro) <;> (first | trivial | rfl | omega | (simp; done) | (simp; omega))))))
      | refine o_new rfl rfl trivial (fun _ => ?_)
      | (refine o_new rfl rfl ?hc (fun _ => ?_); (case hc => (first | (simp only [need, imp, needIf]; done) | ((try simp only [need, imp, needIf]); (repeat' apply And.intro) <;> (first | trivial | rfl | omega | (simp; done) | (simp; omega))))))
      | refine d_val rfl rfl trivial ?_
      | (refine d_val rfl rfl ?hc ?_; (case hc => (first | (simp only [need, imp, needIf]; done) | ((try simp only [need, imp, needIf]); (repeat' apply And.intro) <;> (first | trivial | rfl | omega | (simp; done) | (simp; omega))))))
      | refine d_new rfl rfl trivial rfl (fun _ => ?_)
      | (refine d_new rfl rfl ?hc rfl (fun _ => ?_); (case hc => (first | (simp only [need, imp, needIf]; done) | ((try simp only [need, imp, needIf]); (repeat' apply And.intro) <;> (first | trivial | rfl | omega | (simp; done) | (simp; omega))))))
      | refine o_eff (e_store rfl rfl rfl rfl rfl rfl rfl trivial ?_)
      | (refine o_eff (e_store rfl rfl rfl rfl rfl rfl rfl ?hc ?_); (case hc => (first | (simp only [need, imp, needIf]; done) | ((try simp only [need, imp, needIf]); (repeat' apply And.intro) <;> (first | trivial | rfl | omega | (simp; done) | (simp; omega))))))
      | refine o_nil ?_
      | refine d_nil ?_
      | refine s_skip ?_
      | refine s_block ?_
      | refine s_exit ?_
      | refine s_label ?_)
    refine s_ret ?_
    exact ⟨_, _, rfl, ⟨trivial, trivial⟩, rfl⟩
  · rename_i p
    split at h
    · rename_i c x hp
      cases h
      obtain ⟨n, bm, l⟩ := x
      obtain ⟨h1, h2⟩ := poolC_some hS hp hq
      have e : [AV.ptr p].map AV.val = [roPt 900 p.b p.cell 1].map AV.val := by simp only [List.map_cons, List.map_nil, roPt_val, ptr_val]
      rw [e]
      refine ro_fn tb_ok eqs_ok (ct := []) trivial mixed Try.func29 rfl (args := [roPt 900 p.b p.cell 1]) rfl (M := [(900, roB p.b p.cell 1 1 fun _ => .agg (.cons (.mp 901 bm) .nil)), (901, .mp false bm l)]) trivial ⟨h1.ro, h2, trivial⟩ ?_
      repeat (first
        | refine s_seq ?_
        | refine s_region ?_
        | refine o_val rfl rfl trivial ?_
        | (refine o_val rfl rfl ?hc ?_; (case hc => (first | (simp only [need, imp, needIf]; done) | ((try simp only [need, imp, needIf]); (repeat' apply And.intro) <;> (first | trivial | rfl | omega | (simp; done) | (simp; omega))))))
        | refine o_new rfl rfl trivial (fun _ => ?_)
        | (refine o_new rfl rfl ?hc (fun _ => ?_); (case hc => (first | (simp only [need, imp, needIf]; done) | ((try simp only [need, imp, needIf]); (repeat' apply And.intro) <;> (first | trivial | rfl | omega | (simp; done) | (simp; omega))))))
        | refine d_val rfl rfl trivial ?_
        | (refine d_val rfl rfl ?hc ?_; (case hc => (first | (simp only [need, imp, needIf]; done) | ((try simp only [need, imp, needIf]); (repeat' apply And.intro) <;> (first | trivial | rfl | omega | (simp; done) | (simp; omega))))))
        | refine d_new rfl rfl trivial rfl (fun _ => ?_)
        | (refine d_new rfl rfl ?hc rfl (fun _ => ?_); (case hc => (first | (simp only [need, imp, needIf]; done) | ((try simp only [need, imp, needIf]); (repeat' apply And.intro) <;> (first | trivial | rfl | omega | (simp; done) | (simp; omega))))))
        | refine o_eff (e_store rfl rfl rfl rfl rfl rfl rfl trivial ?_)
        | (refine o_eff (e_store rfl rfl rfl rfl rfl rfl rfl ?hc ?_); (case hc => (first | (simp only [need, imp, needIf]; done) | ((try simp only [need, imp, needIf]); (repeat' apply And.intro) <;> (first | trivial | rfl | omega | (simp; done) | (simp; omega))))))
        | refine o_nil ?_
        | refine d_nil ?_
        | refine s_skip ?_
        | refine s_block ?_
        | refine s_exit ?_
        | refine s_label ?_)
      refine s_ret ?_
      exact ⟨_, _, rfl, ⟨trivial, trivial⟩, rfl⟩
    · rename_i c hp
      cases h
      have h1 := poolC_none hS hp hq
      have e : [AV.ptr p].map AV.val = [roPt 900 p.b p.cell 1].map AV.val := by simp only [List.map_cons, List.map_nil, roPt_val, ptr_val]
      rw [e]
      refine ro_fn tb_ok eqs_ok (ct := []) trivial mixed Try.func29 rfl (args := [roPt 900 p.b p.cell 1]) rfl (M := [(900, roB p.b p.cell 1 1 fun _ => .agg (.cons (.v (.map none)) .nil))]) trivial ⟨h1.ro, trivial⟩ ?_
      repeat (first
        | refine s_seq ?_
        | refine s_region ?_
        | refine o_val rfl rfl trivial ?_
        | (refine o_val rfl rfl ?hc ?_; (case hc => (first | (simp only [need, imp, needIf]; done) | ((try simp only [need, imp, needIf]); (repeat' apply And.intro) <;> (first | trivial | rfl | omega | (simp; done) | (simp; omega))))))
        | refine o_new rfl rfl trivial (fun _ => ?_)
        | (refine o_new rfl rfl ?hc (fun _ => ?_); (case hc => (first | (simp only [need, imp, needIf]; done) | ((try simp only [need, imp, needIf]); (repeat' apply And.intro) <;> (first | trivial | rfl | omega | (simp; done) | (simp; omega))))))
        | refine d_val rfl rfl trivial ?_
        | (refine d_val rfl rfl ?hc ?_; (case hc => (first | (simp only [need, imp, needIf]; done) | ((try simp only [need, imp, needIf]); (repeat' apply And.intro) <;> (first | trivial | rfl | omega | (simp; done) | (simp; omega))))))
        | refine d_new rfl rfl trivial rfl (fun _ => ?_)
        | (refine d_new rfl rfl ?hc rfl (fun _ => ?_); (case hc => (first | (simp only [need, imp, needIf]; done) | ((try simp only [need, imp, needIf]); (repeat' apply And.intro) <;> (first | trivial | rfl | omega | (simp; done) | (simp; omega))))))
        | refine o_eff (e_store rfl rfl rfl rfl rfl rfl rfl trivial ?_)
        | (refine o_eff (e_store rfl rfl rfl rfl rfl rfl rfl ?hc ?_); (case hc => (first | (simp only [need, imp, needIf]; done) | ((try simp only [need, imp, needIf]); (repeat' apply And.intro) <;> (first | trivial | rfl | omega | (simp; done) | (simp; omega))))))
        | refine o_nil ?_
        | refine d_nil ?_
        | refine s_skip ?_
        | refine s_block ?_
        | refine s_exit ?_
        | refine s_label ?_)
      refine s_ret ?_
      exact ⟨_, _, rfl, ⟨trivial, trivial⟩, rfl⟩
    · cases h
  · cases h
end Go.Proofs.Ytofophjfgalhaaa.D
