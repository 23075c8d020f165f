import Derived.Test.YtofophjfgalhaaaGreatDoorF4
import Derived.Test.YtofophjfgalhaaaGreatDoorD22
/-! misdeed.New, Len; alive. -/
namespace Go.Proofs.YtofophjfgalhaaaGreatDoor.D
open Go
set_option maxRecDepth 100000

/-! ### misdeed.New, good, Len -/
theorem new_calls (w : World) : Calls Tryz.prog 31 #[] w fun e w' => ∃ r : Nat × Nat, e = .returned (AV.ptr ⟨3, 0, r.1, 0, 1, 0, 0, 0, false⟩).val ∧ Fresh w w' [.row r.1 121 1 1 (fun _ => .agg (.cons (.mp 1 r.2) .nil)) 1, .mp true r.2 []] := by
  refine new_fn tb_ok eqs_ok (ct := []) trivial mixed Tryz.func31 rfl (args := []) rfl (fun r : Nat × Nat => AV.ptr ⟨3, 0, r.1, 0, 1, 0, 0, 0, false⟩) (fun r => [.row r.1 121 1 1 (fun _ => .agg (.cons (.mp 1 r.2) .nil)) 1, .mp true r.2 []]) [3, 1] (by decide) (M := []) trivial trivial ?_
  repeat (first
    | refine s_seq ?_
    | refine s_region ?_
    | refine o_val rfl rfl trivial ?_
    | (refine o_val rfl rfl ?hc ?_; (case hc => (first | (simp only [need, imp, needIf]; done) | ((try simp only [need, imp, needIf]); (repeat' apply And.intro) <;> (first | trivial | rfl | omega | (simp; done) | (simp; omega))))))
    | refine o_new rfl rfl trivial (fun _ => ?_)
    | (refine o_new rfl rfl ?hc (fun _ => ?_); (case hc => (first | (simp only [need, imp, needIf]; done) | ((try simp only [need, imp, needIf]); (repeat' apply And.intro) <;> (first | trivial | rfl | omega | (simp; done) | (simp; omega))))))
    | refine d_val rfl rfl trivial ?_
    | (refine d_val rfl rfl ?hc ?_; (case hc => (first | (simp only [need, imp, needIf]; done) | ((try simp only [need, imp, needIf]); (repeat' apply And.intro) <;> (first | trivial | rfl | omega | (simp; done) | (simp; omega))))))
    | refine d_new rfl rfl trivial rfl (fun _ => ?_)
    | (refine d_new rfl rfl ?hc rfl (fun _ => ?_); (case hc => (first | (simp only [need, imp, needIf]; done) | ((try simp only [need, imp, needIf]); (repeat' apply And.intro) <;> (first | trivial | rfl | omega | (simp; done) | (simp; omega))))))
    | refine o_eff (e_store rfl rfl rfl rfl rfl rfl rfl trivial ?_)
    | (refine o_eff (e_store rfl rfl rfl rfl rfl rfl rfl ?hc ?_); (case hc => (first | (simp only [need, imp, needIf]; done) | ((try simp only [need, imp, needIf]); (repeat' apply And.intro) <;> (first | trivial | rfl | omega | (simp; done) | (simp; omega))))))
    | refine o_nil ?_
    | refine d_nil ?_
    | refine s_skip ?_
    | refine s_block ?_
    | refine s_exit ?_
    | refine s_label ?_)
  rename_i bm bp
  refine s_ret ?_
  exact ⟨_, _, rfl, ⟨trivial, trivial⟩, (bp, bm), rfl, ⟨rfl, rfl⟩, ⟨rfl, rfl⟩, trivial⟩
theorem new_body : HasBody Tryz.prog 31 := ⟨_, Tryz.func31, rfl, by decide⟩

/-- a pool, as the memory has it: its map's entries -/
def poolC (M : MemF) (p : Pt) : Option (Prop × Option (Nat × Nat × List (AV × AV))) := match sliceOf M p 1 with
  | some (c, es, f) => match f 0 with
    | .agg (.cons (.mp n bm) .nil) => match M n with
      | some (.mp _ b' l) => some (c ∧ es = 1 ∧ b' = bm, some (n, bm, l))
      | _ => none
    | .agg (.cons (.v (.map none)) .nil) => some (c ∧ es = 1, none)
    | _ => none
  | none => none
def goodC (args : List AV) (M : MemF) : Option (Prop × AV) := match args with
  | [.v (.pointer none)] => some (True, .v (.bool false))
  | [.ptr p] => match poolC M p with
    | some (c, some _) => some (c, .v (.bool true))
    | some (c, none) => some (c, .v (.bool false))
    | none => none
  | _ => none
theorem poolC_some {O : Nat → Prop} {w0 w : World} {M : MemF} (hS : Sat O w0 M w) {p : Pt} {c : Prop} {n bm : Nat} {l : List (AV × AV)} (h : poolC M p = some (c, some (n, bm, l))) (hc : c) :
    Reads w p.b p.cell 1 1 (fun _ => .agg (.cons (.mp 901 bm) .nil)) ∧ (Blk.mp false bm l).holds w := by
  unfold poolC at h
  split at h
  · rename_i c0 es f hs
    split at h
    · rename_i n' bm' hf
      split at h
      · rename_i m b' l' hM
        cases h
        obtain ⟨h1, rfl, rfl⟩ := hc
        refine ⟨?_, Blk.mp_holds (hS.holds _ _ hM)⟩
        have hr := sliceOf_reads hS hs h1
        refine ⟨hr.1, fun i hi => ?_⟩
        have hi0 : i = 0 := by omega
        subst hi0
        have := hr.2 0 hi
        rw [hf] at this
        exact this
      · cases h
    · cases h
    · cases h
  · cases h
theorem poolC_none {O : Nat → Prop} {w0 w : World} {M : MemF} (hS : Sat O w0 M w) {p : Pt} {c : Prop} (h : poolC M p = some (c, none)) (hc : c) :
    Reads w p.b p.cell 1 1 (fun _ => .agg (.cons (.v (.map none)) .nil)) := by
  unfold poolC at h
  split at h
  · rename_i c0 es f hs
    split at h
    · split at h <;> cases h
    · rename_i hf
      cases h
      obtain ⟨h1, rfl⟩ := hc
      exact (sliceOf_reads hS hs h1).congr fun i hi => by
        have hi0 : i = 0 := by omega
        rw [hi0, hf]
    · cases h
  · cases h
theorem good_read : ReadFn Tryz.prog 96 goodC := by
  intro args M q res h hq O w0 w hS
  unfold goodC at h
  split at h
  · cases h
    refine pure_fn tb_ok eqs_ok (ct := []) trivial mixed Tryz.func96 rfl rfl ?_
    repeat (first
      | refine s_seq ?_
      | refine s_region ?_
      | refine o_val rfl rfl trivial ?_
      | (refine o_val rfl rfl ?hc ?_; (case hc => (first | (simp only [need, imp, needIf]; done) | ((try simp only [need, imp, needIf]); (repeat' apply And.intro) <;> (first | trivial | rfl | omega | (simp; done) | (simp; omega))))))
      | refine o_new rfl rfl trivial (fun _ => ?_)
      | (refine o_new rfl rfl ?hc (fun _ => ?_); (case hc => (first | (simp only [need, imp, needIf]; done) | ((try simp only [need, imp, needIf]); (repeat' apply And.intro) <;> (first | trivial | rfl | omega | (simp; done) | (simp; omega))))))
      | refine d_val rfl rfl trivial ?_
      | (refine d_val rfl rfl ?hc ?_; (case hc => (first | (simp only [need, imp, needIf]; done) | ((try simp only [need, imp, needIf]); (repeat' apply And.intro) <;> (first | trivial | rfl | omega | (simp; done) | (simp; omega))))))
      | refine d_new rfl rfl trivial rfl (fun _ => ?_)
      | (refine d_new rfl rfl ?hc rfl (fun _ => ?_); (case hc => (first | (simp only [need, imp, needIf]; done) | ((try simp only [need, imp, needIf]); (repeat' apply And.intro) <;> (first | trivial | rfl | omega | (simp; done) | (simp; omega))))))
      | refine o_eff (e_store rfl rfl rfl rfl rfl rfl rfl trivial ?_)
      | (refine o_eff (e_store rfl rfl rfl rfl rfl rfl rfl ?hc ?_); (case hc => (first | (simp only [need, imp, needIf]; done) | ((try simp only [need, imp, needIf]); (repeat' apply And.intro) <;> (first | trivial | rfl | omega | (simp; done) | (simp; omega))))))
      | refine o_nil ?_
      | refine d_nil ?_
      | refine s_skip ?_
      | refine s_block ?_
      | refine s_exit ?_
      | refine s_label ?_)
    refine s_ret ?_
    exact ⟨_, _, rfl, ⟨trivial, trivial⟩, rfl⟩
  · rename_i p
    split at h
    · rename_i c x hp
      cases h
      obtain ⟨n, bm, l⟩ := x
      obtain ⟨h1, h2⟩ := poolC_some hS hp hq
      have e : [AV.ptr p].map AV.val = [roPt 900 p.b p.cell 1].map AV.val := by simp only [List.map_cons, List.map_nil, roPt_val, ptr_val]
      rw [e]
      refine ro_fn tb_ok eqs_ok (ct := []) trivial mixed Tryz.func96 rfl (args := [roPt 900 p.b p.cell 1]) rfl (M := [(900, roB p.b p.cell 1 1 fun _ => .agg (.cons (.mp 901 bm) .nil)), (901, .mp false bm l)]) trivial ⟨h1.ro, h2, trivial⟩ ?_
      repeat (first
        | refine s_seq ?_
        | refine s_region ?_
        | refine o_val rfl rfl trivial ?_
        | (refine o_val rfl rfl ?hc ?_; (case hc => (first | (simp only [need, imp, needIf]; done) | ((try simp only [need, imp, needIf]); (repeat' apply And.intro) <;> (first | trivial | rfl | omega | (simp; done) | (simp; omega))))))
        | refine o_new rfl rfl trivial (fun _ => ?_)
        | (refine o_new rfl rfl ?hc (fun _ => ?_); (case hc => (first | (simp only [need, imp, needIf]; done) | ((try simp only [need, imp, needIf]); (repeat' apply And.intro) <;> (first | trivial | rfl | omega | (simp; done) | (simp; omega))))))
        | refine d_val rfl rfl trivial ?_
        | (refine d_val rfl rfl ?hc ?_; (case hc => (first | (simp only [need, imp, needIf]; done) | ((try simp only [need, imp, needIf]); (repeat' apply And.intro) <;> (first | trivial | rfl | omega | (simp; done) | (simp; omega))))))
        | refine d_new rfl rfl trivial rfl (fun _ => ?_)
        | (refine d_new rfl rfl ?hc rfl (fun _ => ?_); (case hc => (first | (simp only [need, imp, needIf]; done) | ((try simp only [need, imp, needIf]); (repeat' apply And.intro) <;> (first | trivial | rfl | omega | (simp; done) | (simp; omega))))))
        | refine o_eff (e_store rfl rfl rfl rfl rfl rfl rfl trivial ?_)
        | (refine o_eff (e_store rfl rfl rfl rfl rfl rfl rfl ?hc ?_); (case hc => (first | (simp only [need, imp, needIf]; done) | ((try simp only [need, imp, needIf]); (repeat' apply And.intro) <;> (first | trivial | rfl | omega | (simp; done) | (simp; omega))))))
        | refine o_nil ?_
        | refine d_nil ?_
        | refine s_skip ?_
        | refine s_block ?_
        | refine s_exit ?_
        | refine s_label ?_)
      refine s_ret ?_
      exact ⟨_, _, rfl, ⟨trivial, trivial⟩, rfl⟩
    · rename_i c hp
      cases h
      have h1 := poolC_none hS hp hq
      have e : [AV.ptr p].map AV.val = [roPt 900 p.b p.cell 1].map AV.val := by simp only [List.map_cons, List.map_nil, roPt_val, ptr_val]
      rw [e]
      refine ro_fn tb_ok eqs_ok (ct := []) trivial mixed Tryz.func96 rfl (args := [roPt 900 p.b p.cell 1]) rfl (M := [(900, roB p.b p.cell 1 1 fun _ => .agg (.cons (.v (.map none)) .nil))]) trivial ⟨h1.ro, trivial⟩ ?_
      repeat (first
        | refine s_seq ?_
        | refine s_region ?_
        | refine o_val rfl rfl trivial ?_
        | (refine o_val rfl rfl ?hc ?_; (case hc => (first | (simp only [need, imp, needIf]; done) | ((try simp only [need, imp, needIf]); (repeat' apply And.intro) <;> (first | trivial | rfl | omega | (simp; done) | (simp; omega))))))
        | refine o_new rfl rfl trivial (fun _ => ?_)
        | (refine o_new rfl rfl ?hc (fun _ => ?_); (case hc => (first | (simp only [need, imp, needIf]; done) | ((try simp only [need, imp, needIf]); (repeat' apply And.intro) <;> (first | trivial | rfl | omega | (simp; done) | (simp; omega))))))
        | refine d_val rfl rfl trivial ?_
        | (refine d_val rfl rfl ?hc ?_; (case hc => (first | (simp only [need, imp, needIf]; done) | ((try simp only [need, imp, needIf]); (repeat' apply And.intro) <;> (first | trivial | rfl | omega | (simp; done) | (simp; omega))))))
        | refine d_new rfl rfl trivial rfl (fun _ => ?_)
        | (refine d_new rfl rfl ?hc rfl (fun _ => ?_); (case hc => (first | (simp only [need, imp, needIf]; done) | ((try simp only [need, imp, needIf]); (repeat' apply And.intro) <;> (first | trivial | rfl | omega | (simp; done) | (simp; omega))))))
        | refine o_eff (e_store rfl rfl rfl rfl rfl rfl rfl trivial ?_)
        | (refine o_eff (e_store rfl rfl rfl rfl rfl rfl rfl ?hc ?_); (case hc => (first | (simp only [need, imp, needIf]; done) | ((try simp only [need, imp, needIf]); (repeat' apply And.intro) <;> (first | trivial | rfl | omega | (simp; done) | (simp; omega))))))
        | refine o_nil ?_
        | refine d_nil ?_
        | refine s_skip ?_
        | refine s_block ?_
        | refine s_exit ?_
        | refine s_label ?_)
      refine s_ret ?_
      exact ⟨_, _, rfl, ⟨trivial, trivial⟩, rfl⟩
    · cases h
  · cases h
end Go.Proofs.YtofophjfgalhaaaGreatDoor.D
