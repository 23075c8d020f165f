import Derived.Test.YtofophjfgalhaaaGreatDoorF7
/-! The law MisdeedNil, walked. -/
namespace Go.Proofs.YtofophjfgalhaaaGreatDoor.D
open Go
set_option maxRecDepth 100000
theorem reg_calls (w : World) : Calls Tryz.prog 27 #[] w fun e w' => ∃ r : Nat, e = .returned (AV.v (.pointer (some ⟨r, 0, none⟩))).val ∧ Fresh w w' [] := by
  refine (new_fn tb_ok eqs_ok (ct := []) trivial mixed Tryz.func27 rfl (args := []) rfl (fun r : Nat => AV.v (.pointer (some ⟨r, 0, none⟩))) (fun _ => []) [] List.nodup_nil (M := []) trivial trivial ?_)
  repeat (first
    | refine s_seq ?_
    | refine s_region ?_
    | refine o_val rfl rfl trivial ?_
    | (refine o_val rfl rfl ?hc ?_; (case hc => (first | (simp only [need, imp, needIf]; done) | ((try simp only [need, imp, needIf]); (repeat' apply And.intro) <;> (first | trivial | rfl | omega | (simp; done) | (simp; omega))))))
    | refine o_new rfl rfl trivial (fun _ => ?_)
    | (refine o_new rfl rfl ?hc (fun _ => ?_); (case hc => (first | (simp only [need, imp, needIf]; done) | ((try simp only [need, imp, needIf]); (repeat' apply And.intro) <;> (first | trivial | rfl | omega | (simp; done) | (simp; omega))))))
    | refine d_val rfl rfl trivial ?_
    | (refine d_val rfl rfl ?hc ?_; (case hc => (first | (simp only [need, imp, needIf]; done) | ((try simp only [need, imp, needIf]); (repeat' apply And.intro) <;> (first | trivial | rfl | omega | (simp; done) | (simp; omega))))))
    | refine d_new rfl rfl trivial rfl (fun _ => ?_)
    | (refine d_new rfl rfl ?hc rfl (fun _ => ?_); (case hc => (first | (simp only [need, imp, needIf]; done) | ((try simp only [need, imp, needIf]); (repeat' apply And.intro) <;> (first | trivial | rfl | omega | (simp; done) | (simp; omega))))))
    | refine o_eff (e_store rfl rfl rfl rfl rfl rfl rfl trivial ?_)
    | (refine o_eff (e_store rfl rfl rfl rfl rfl rfl rfl ?hc ?_); (case hc => (first | (simp only [need, imp, needIf]; done) | ((try simp only [need, imp, needIf]); (repeat' apply And.intro) <;> (first | trivial | rfl | omega | (simp; done) | (simp; omega))))))
    | refine o_nil ?_
    | refine d_nil ?_
    | refine s_skip ?_
    | refine s_block ?_
    | refine s_exit ?_
    | refine s_label ?_)
  rename_i b
  refine s_ret ?_
  exact ⟨_, _, rfl, ⟨trivial, trivial⟩, b, by simp [pack, AV.val, AV.den, Pt.addr, Pt.cell], trivial⟩
theorem reg_body : HasBody Tryz.prog 27 := ⟨_, Tryz.func27, rfl, by decide⟩

def ct11 : CtL := [(28, addC), (29, pickC), (30, settleC), (9, fun a _ => aliveC a), (32, lenC)]
theorem ct11_ok : CtLOk Tryz.prog ct11 := ⟨.fn add_body add_read, .fn pick_body pick_read, .fn settle_body settle_read, .fn alive_body alive_pure.read, .fn len_body len_read, trivial⟩

set_option maxHeartbeats 8000000 in
theorem law_calls (x : St) (y : Vote × Vote) (w : World) : Calls Tryz.prog 6 ([encSt x, encE y].map AV.val).toArray w fun e w' => e = .returned (.bool true) ∧ RowKit.Below w.heap.size w w' := by
  refine pure_fn tb_ok eqs_ok ct11_ok mixed Tryz.func6 rfl (args := [encSt x, encE y]) rfl (res := .v (.bool true)) ?_
  repeat (first
    | refine s_seq ?_
    | refine s_region ?_
    | refine o_val rfl rfl trivial ?_
    | (refine o_val rfl rfl ?hc ?_; (case hc => (first | (simp only [need, imp, needIf]; done) | ((try simp only [need, imp, needIf]); (repeat' apply And.intro) <;> (first | trivial | rfl | omega | (simp; done) | (simp; omega))))))
    | refine o_new rfl rfl trivial (fun _ => ?_)
    | (refine o_new rfl rfl ?hc (fun _ => ?_); (case hc => (first | (simp only [need, imp, needIf]; done) | ((try simp only [need, imp, needIf]); (repeat' apply And.intro) <;> (first | trivial | rfl | omega | (simp; done) | (simp; omega))))))
    | refine d_val rfl rfl trivial ?_
    | (refine d_val rfl rfl ?hc ?_; (case hc => (first | (simp only [need, imp, needIf]; done) | ((try simp only [need, imp, needIf]); (repeat' apply And.intro) <;> (first | trivial | rfl | omega | (simp; done) | (simp; omega))))))
    | refine d_new rfl rfl trivial rfl (fun _ => ?_)
    | (refine d_new rfl rfl ?hc rfl (fun _ => ?_); (case hc => (first | (simp only [need, imp, needIf]; done) | ((try simp only [need, imp, needIf]); (repeat' apply And.intro) <;> (first | trivial | rfl | omega | (simp; done) | (simp; omega))))))
    | refine o_eff (e_store rfl rfl rfl rfl rfl rfl rfl trivial ?_)
    | (refine o_eff (e_store rfl rfl rfl rfl rfl rfl rfl ?hc ?_); (case hc => (first | (simp only [need, imp, needIf]; done) | ((try simp only [need, imp, needIf]); (repeat' apply And.intro) <;> (first | trivial | rfl | omega | (simp; done) | (simp; omega))))))
    | refine o_nil ?_
    | refine d_nil ?_
    | refine s_skip ?_
    | refine s_block ?_
    | refine s_exit ?_
    | refine s_label ?_)
  refine o_eff (e_new (α := Nat) (fun r => .v (.pointer (some ⟨r, 0, none⟩))) (fun _ => []) [] rfl rfl rfl rfl rfl trivial reg_body (fun w _ => reg_calls w) List.nodup_nil (fun _ => rfl) (fun r => ?_))
  repeat (first
    | refine s_seq ?_
    | refine s_region ?_
    | refine o_val rfl rfl trivial ?_
    | (refine o_val rfl rfl ?hc ?_; (case hc => (first | (simp only [need, imp, needIf]; done) | ((try simp only [need, imp, needIf]); (repeat' apply And.intro) <;> (first | trivial | rfl | omega | (simp; done) | (simp; omega))))))
    | refine o_new rfl rfl trivial (fun _ => ?_)
    | (refine o_new rfl rfl ?hc (fun _ => ?_); (case hc => (first | (simp only [need, imp, needIf]; done) | ((try simp only [need, imp, needIf]); (repeat' apply And.intro) <;> (first | trivial | rfl | omega | (simp; done) | (simp; omega))))))
    | refine d_val rfl rfl trivial ?_
    | (refine d_val rfl rfl ?hc ?_; (case hc => (first | (simp only [need, imp, needIf]; done) | ((try simp only [need, imp, needIf]); (repeat' apply And.intro) <;> (first | trivial | rfl | omega | (simp; done) | (simp; omega))))))
    | refine d_new rfl rfl trivial rfl (fun _ => ?_)
    | (refine d_new rfl rfl ?hc rfl (fun _ => ?_); (case hc => (first | (simp only [need, imp, needIf]; done) | ((try simp only [need, imp, needIf]); (repeat' apply And.intro) <;> (first | trivial | rfl | omega | (simp; done) | (simp; omega))))))
    | refine o_eff (e_store rfl rfl rfl rfl rfl rfl rfl trivial ?_)
    | (refine o_eff (e_store rfl rfl rfl rfl rfl rfl rfl ?hc ?_); (case hc => (first | (simp only [need, imp, needIf]; done) | ((try simp only [need, imp, needIf]); (repeat' apply And.intro) <;> (first | trivial | rfl | omega | (simp; done) | (simp; omega))))))
    | refine o_nil ?_
    | refine d_nil ?_
    | refine s_skip ?_
    | refine s_block ?_
    | refine s_exit ?_
    | refine s_label ?_)
  refine o_eff (e_new (α := Nat × Nat) (fun r => .ptr ⟨800, 0, r.1, 0, 1, 0, 0, 0, false⟩) (fun r => [.row r.1 121 1 1 (fun _ => .agg (.cons (.mp 801 r.2) .nil)) 1, .mp true r.2 []]) [800, 801] rfl rfl rfl rfl rfl trivial new_body (fun w _ => ?_) (by decide) (fun _ => rfl) (fun r2 => ?_))
  · refine (new_at 801 w).mono fun e w' ⟨r, h1, h2⟩ => ⟨r, ?_, h2⟩
    rw [h1]; simp [AV.val, AV.den, Pt.addr, Pt.cell]
  · repeat (first
      | refine s_seq ?_
      | refine s_region ?_
      | refine o_val rfl rfl trivial ?_
      | (refine o_val rfl rfl ?hc ?_; (case hc => (first | (simp only [need, imp, needIf]; done) | ((try simp only [need, imp, needIf]); (repeat' apply And.intro) <;> (first | trivial | rfl | omega | (simp; done) | (simp; omega))))))
      | refine o_new rfl rfl trivial (fun _ => ?_)
      | (refine o_new rfl rfl ?hc (fun _ => ?_); (case hc => (first | (simp only [need, imp, needIf]; done) | ((try simp only [need, imp, needIf]); (repeat' apply And.intro) <;> (first | trivial | rfl | omega | (simp; done) | (simp; omega))))))
      | refine d_val rfl rfl trivial ?_
      | (refine d_val rfl rfl ?hc ?_; (case hc => (first | (simp only [need, imp, needIf]; done) | ((try simp only [need, imp, needIf]); (repeat' apply And.intro) <;> (first | trivial | rfl | omega | (simp; done) | (simp; omega))))))
      | refine d_new rfl rfl trivial rfl (fun _ => ?_)
      | (refine d_new rfl rfl ?hc rfl (fun _ => ?_); (case hc => (first | (simp only [need, imp, needIf]; done) | ((try simp only [need, imp, needIf]); (repeat' apply And.intro) <;> (first | trivial | rfl | omega | (simp; done) | (simp; omega))))))
      | refine o_eff (e_store rfl rfl rfl rfl rfl rfl rfl trivial ?_)
      | (refine o_eff (e_store rfl rfl rfl rfl rfl rfl rfl ?hc ?_); (case hc => (first | (simp only [need, imp, needIf]; done) | ((try simp only [need, imp, needIf]); (repeat' apply And.intro) <;> (first | trivial | rfl | omega | (simp; done) | (simp; omega))))))
      | refine o_nil ?_
      | refine d_nil ?_
      | refine s_skip ?_
      | refine s_block ?_
      | refine s_exit ?_
      | refine s_label ?_)
    refine s_cond (b := false) rfl (fun h => by cases h) (fun _ => ?_)
    repeat (first
      | refine s_seq ?_
      | refine s_region ?_
      | refine o_val rfl rfl trivial ?_
      | (refine o_val rfl rfl ?hc ?_; (case hc => (first | (simp only [need, imp, needIf]; done) | ((try simp only [need, imp, needIf]); (repeat' apply And.intro) <;> (first | trivial | rfl | omega | (simp; done) | (simp; omega))))))
      | refine o_new rfl rfl trivial (fun _ => ?_)
      | (refine o_new rfl rfl ?hc (fun _ => ?_); (case hc => (first | (simp only [need, imp, needIf]; done) | ((try simp only [need, imp, needIf]); (repeat' apply And.intro) <;> (first | trivial | rfl | omega | (simp; done) | (simp; omega))))))
      | refine d_val rfl rfl trivial ?_
      | (refine d_val rfl rfl ?hc ?_; (case hc => (first | (simp only [need, imp, needIf]; done) | ((try simp only [need, imp, needIf]); (repeat' apply And.intro) <;> (first | trivial | rfl | omega | (simp; done) | (simp; omega))))))
      | refine d_new rfl rfl trivial rfl (fun _ => ?_)
      | (refine d_new rfl rfl ?hc rfl (fun _ => ?_); (case hc => (first | (simp only [need, imp, needIf]; done) | ((try simp only [need, imp, needIf]); (repeat' apply And.intro) <;> (first | trivial | rfl | omega | (simp; done) | (simp; omega))))))
      | refine o_eff (e_store rfl rfl rfl rfl rfl rfl rfl trivial ?_)
      | (refine o_eff (e_store rfl rfl rfl rfl rfl rfl rfl ?hc ?_); (case hc => (first | (simp only [need, imp, needIf]; done) | ((try simp only [need, imp, needIf]); (repeat' apply And.intro) <;> (first | trivial | rfl | omega | (simp; done) | (simp; omega))))))
      | refine o_nil ?_
      | refine d_nil ?_
      | refine s_skip ?_
      | refine s_block ?_
      | refine s_exit ?_
      | refine s_label ?_)
    refine s_ret ?_
    refine ⟨_, _, rfl, ⟨trivial, trivial⟩, ?_⟩
    rfl
end Go.Proofs.YtofophjfgalhaaaGreatDoor.D
