import Derived.Test.YtofophjfgalhaaaGreatDoorF1
/-! PlainVote: the program's look at a vote by itself. -/
namespace Go.Proofs.YtofophjfgalhaaaGreatDoor.D
open Go
set_option maxRecDepth 100000
/-! ### A vote -/
structure Vote where
  kind : Int
  height : Int
  round : Int
  id : List Int
  time : Int
  from_ : Int
  sig : List Int

def encV (x : Vote) : AV := .agg (.cons (.v (.int .i64 x.kind)) (.cons (.v (.int .u64 x.height)) (.cons (.v (.int .i64 x.round)) (.cons (.ints .u8 32 x.id) (.cons (.v (.int .u64 x.time)) (.cons (.v (.int .u64 x.from_)) (.cons (.ints .u8 16 x.sig) .nil)))))))
def decV : AV → Option Vote
  | .agg (.cons (.v (.int .i64 k)) (.cons (.v (.int .u64 h)) (.cons (.v (.int .i64 r)) (.cons (.ints .u8 32 id) (.cons (.v (.int .u64 t)) (.cons (.v (.int .u64 f)) (.cons (.ints .u8 16 s) .nil))))))) => some ⟨k, h, r, id, t, f, s⟩
  | _ => none
theorem decV_enc {a : AV} {x : Vote} (h : decV a = some x) : a = encV x := by
  unfold decV at h
  split at h
  · cases h; rfl
  · cases h

def zeroH : List Int := List.replicate 32 0
/-- PlainVote, as the program reckons it -/
def plainV (x : Vote) : Int := firstE [kindF x.kind 1 2, fieldF (heightB x.height), fieldF (roundB x.round), fieldF (momentB x.time),
  fieldF ((x.time != 0) && ((x.kind == 1) || intsEq 32 x.id zeroH)), fieldF (x.from_ == 0)]
def plainC : List AV → Option (Prop × AV)
  | [a] => match decV a with
    | some x => some (True, .v (.int .i64 (plainV x)))
    | none => none
  | _ => none
def ct2 : CtL := [(134, fun a _ => fieldC a), (130, fun a _ => kindC a), (131, fun a _ => heightC a), (132, fun a _ => roundC a), (133, fun a _ => momentC a), (129, allC)]
theorem ct2_ok : CtLOk Tryz.prog ct2 := ⟨.fn field_body field_pure.read, .fn kind_body kind_pure.read, .fn height_body height_pure.read, .fn round_body round_pure.read, .fn moment_body moment_pure.read, .fn all_body all_read, trivial⟩

set_option maxRecDepth 100000 in
set_option maxHeartbeats 4000000 in
theorem plain_pure : PureFn Tryz.prog 77 plainC := by
  intro args q res h hq w
  unfold plainC at h
  split at h
  · split at h
    · rename_i a x hx
      cases h
      have ha := decV_enc hx
      subst ha
      refine pure_fn tb_ok eqs_ok ct2_ok mixed Tryz.func77 rfl rfl ?_
      repeat (first
        | refine s_seq ?_
        | refine s_region ?_
        | refine o_val rfl rfl trivial ?_
        | (refine o_val rfl rfl ?hc ?_; (case hc => (first | (simp only [need, imp, needIf]; done) | ((try simp only [need, imp, needIf]); (repeat' apply And.intro) <;> (first | trivial | rfl | omega | (simp; done) | (simp; omega))))))
        | refine o_new rfl rfl trivial (fun _ => ?_)
        | (refine o_new rfl rfl ?hc (fun _ => ?_); (case hc => (first | (simp only [need, imp, needIf]; done) | ((try simp only [need, imp, needIf]); (repeat' apply And.intro) <;> (first | trivial | rfl | omega | (simp; done) | (simp; omega))))))
        | refine d_val rfl rfl trivial ?_
        | (refine d_val rfl rfl ?hc ?_; (case hc => (first | (simp only [need, imp, needIf]; done) | ((try simp only [need, imp, needIf]); (repeat' apply And.intro) <;> (first | trivial | rfl | omega | (simp; done) | (simp; omega))))))
        | refine d_new rfl rfl trivial rfl (fun _ => ?_)
        | (refine d_new rfl rfl ?hc rfl (fun _ => ?_); (case hc => (first | (simp only [need, imp, needIf]; done) | ((try simp only [need, imp, needIf]); (repeat' apply And.intro) <;> (first | trivial | rfl | omega | (simp; done) | (simp; omega))))))
        | refine o_eff (e_store rfl rfl rfl rfl rfl rfl rfl trivial ?_)
        | (refine o_eff (e_store rfl rfl rfl rfl rfl rfl rfl ?hc ?_); (case hc => (first | (simp only [need, imp, needIf]; done) | ((try simp only [need, imp, needIf]); (repeat' apply And.intro) <;> (first | trivial | rfl | omega | (simp; done) | (simp; omega))))))
        | refine o_nil ?_
        | refine d_nil ?_
        | refine s_skip ?_
        | refine s_block ?_
        | refine s_exit ?_
        | refine s_label ?_)
      refine s_draw rD77_1 rM77_1 (by kernel_rfl) (by kernel_rfl) ?_
      repeat (first
        | refine s_seq ?_
        | refine s_region ?_
        | refine o_val rfl rfl trivial ?_
        | (refine o_val rfl rfl ?hc ?_; (case hc => (first | (simp only [need, imp, needIf]; done) | ((try simp only [need, imp, needIf]); (repeat' apply And.intro) <;> (first | trivial | rfl | omega | (simp; done) | (simp; omega))))))
        | refine o_new rfl rfl trivial (fun _ => ?_)
        | (refine o_new rfl rfl ?hc (fun _ => ?_); (case hc => (first | (simp only [need, imp, needIf]; done) | ((try simp only [need, imp, needIf]); (repeat' apply And.intro) <;> (first | trivial | rfl | omega | (simp; done) | (simp; omega))))))
        | refine d_val rfl rfl trivial ?_
        | (refine d_val rfl rfl ?hc ?_; (case hc => (first | (simp only [need, imp, needIf]; done) | ((try simp only [need, imp, needIf]); (repeat' apply And.intro) <;> (first | trivial | rfl | omega | (simp; done) | (simp; omega))))))
        | refine d_new rfl rfl trivial rfl (fun _ => ?_)
        | (refine d_new rfl rfl ?hc rfl (fun _ => ?_); (case hc => (first | (simp only [need, imp, needIf]; done) | ((try simp only [need, imp, needIf]); (repeat' apply And.intro) <;> (first | trivial | rfl | omega | (simp; done) | (simp; omega))))))
        | refine o_eff (e_store rfl rfl rfl rfl rfl rfl rfl trivial ?_)
        | (refine o_eff (e_store rfl rfl rfl rfl rfl rfl rfl ?hc ?_); (case hc => (first | (simp only [need, imp, needIf]; done) | ((try simp only [need, imp, needIf]); (repeat' apply And.intro) <;> (first | trivial | rfl | omega | (simp; done) | (simp; omega))))))
        | refine o_nil ?_
        | refine d_nil ?_
        | refine s_skip ?_
        | refine s_block ?_
        | refine s_exit ?_
        | refine s_label ?_)
      refine d_val rfl rfl ?hc ?_
      case hc =>
        simp only [need, imp]
        refine ⟨trivial, ⟨trivial, trivial, trivial, trivial, trivial, by decide, by decide⟩, rfl, by decide, fun i hi => ?_⟩
        rcases i with _ | _ | _ | _ | _ | _ | i <;> first | rfl | omega
      repeat (first
        | refine s_seq ?_
        | refine s_region ?_
        | refine o_val rfl rfl trivial ?_
        | (refine o_val rfl rfl ?hc ?_; (case hc => (first | (simp only [need, imp, needIf]; done) | ((try simp only [need, imp, needIf]); (repeat' apply And.intro) <;> (first | trivial | rfl | omega | (simp; done) | (simp; omega))))))
        | refine o_new rfl rfl trivial (fun _ => ?_)
        | (refine o_new rfl rfl ?hc (fun _ => ?_); (case hc => (first | (simp only [need, imp, needIf]; done) | ((try simp only [need, imp, needIf]); (repeat' apply And.intro) <;> (first | trivial | rfl | omega | (simp; done) | (simp; omega))))))
        | refine d_val rfl rfl trivial ?_
        | (refine d_val rfl rfl ?hc ?_; (case hc => (first | (simp only [need, imp, needIf]; done) | ((try simp only [need, imp, needIf]); (repeat' apply And.intro) <;> (first | trivial | rfl | omega | (simp; done) | (simp; omega))))))
        | refine d_new rfl rfl trivial rfl (fun _ => ?_)
        | (refine d_new rfl rfl ?hc rfl (fun _ => ?_); (case hc => (first | (simp only [need, imp, needIf]; done) | ((try simp only [need, imp, needIf]); (repeat' apply And.intro) <;> (first | trivial | rfl | omega | (simp; done) | (simp; omega))))))
        | refine o_eff (e_store rfl rfl rfl rfl rfl rfl rfl trivial ?_)
        | (refine o_eff (e_store rfl rfl rfl rfl rfl rfl rfl ?hc ?_); (case hc => (first | (simp only [need, imp, needIf]; done) | ((try simp only [need, imp, needIf]); (repeat' apply And.intro) <;> (first | trivial | rfl | omega | (simp; done) | (simp; omega))))))
        | refine o_nil ?_
        | refine d_nil ?_
        | refine s_skip ?_
        | refine s_block ?_
        | refine s_exit ?_
        | refine s_label ?_)
      refine s_ret ?_
      exact ⟨_, _, rfl, ⟨trivial, trivial⟩, rfl⟩
    · cases h
  · cases h
theorem plain_body : HasBody Tryz.prog 77 := ⟨_, Tryz.func77, rfl, by decide⟩
end Go.Proofs.YtofophjfgalhaaaGreatDoor.D
