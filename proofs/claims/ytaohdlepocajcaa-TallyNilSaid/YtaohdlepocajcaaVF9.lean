import Derived.Test.YtaohdlepocajcaaVF8
/-! alive: a tally of one member takes a vote. -/
namespace Go.Proofs.Ytaohdlepocajcaa.V
open Go Go.RowKit

def numC (args : List AV) (M : MemF) : Option (Prop × AV) := match args with
  | [.v (.int .i64 e)] => some (True, .v (.int .i64 e))
  | _ => none
theorem num_read : ReadFn Try.prog 8 numC := by
  intro args M q res h hq O w0 w hS
  unfold numC at h
  split at h
  · rename_i e
    cases h
    refine ro_fn tabs (ct := []) trivial (cr := []) trivial Try.func8 rfl rfl (M := []) rfl trivial trivial ?_
    repeat (first
      | refine s_seq ?_
      | refine s_region ?_
      | refine o_val rfl rfl trivial trivial ?_
      | refine o_new rfl rfl rfl ⟨0, trivial⟩ trivial (fun _ _ => ?_)
      | refine o_new rfl rfl rfl ⟨(), trivial⟩ trivial (fun _ _ => ?_)
      | refine o_put rfl rfl rfl trivial trivial ?_
      | refine o_nil ?_
      | refine d_val rfl rfl trivial trivial ?_
      | refine d_new rfl rfl rfl ⟨0, trivial⟩ trivial (fun _ _ => ?_)
      | refine d_new rfl rfl rfl ⟨(), trivial⟩ trivial (fun _ _ => ?_)
      | refine d_put rfl rfl rfl trivial trivial ?_
      | refine d_nil ?_
      | refine s_skip ?_
      | refine s_block ?_
      | refine s_exit ?_
      | refine s_label ?_
      | ((first | refine o_val rfl rfl trivial ?hc ?_ | refine o_new rfl rfl rfl ⟨0, trivial⟩ ?hc (fun _ _ => ?_) | refine o_new rfl rfl rfl ⟨(none, _), Nat.le_refl _⟩ ?hc (fun _ _ => ?_) | refine o_new rfl rfl rfl ⟨(), trivial⟩ ?hc (fun _ _ => ?_) | refine o_put rfl rfl rfl trivial ?hc ?_ | refine d_val rfl rfl trivial ?hc ?_ | refine d_new rfl rfl rfl ⟨0, trivial⟩ ?hc (fun _ _ => ?_) | refine d_new rfl rfl rfl ⟨(none, _), Nat.le_refl _⟩ ?hc (fun _ _ => ?_) | refine d_new rfl rfl rfl ⟨(), trivial⟩ ?hc (fun _ _ => ?_) | refine d_put rfl rfl rfl trivial ?hc ?_); (case hc => (first | ((try simp only [needIf]); (try simp only [need]); (try simp only [imp]); done) | ((try simp only [needIf]); (try simp only [need]); (try simp only [imp]); (try simp only [cutOff]); (repeat' apply And.intro) <;> (first | trivial | rfl | omega | (simp; done) | (simp; omega) | (intros; rfl) | (intros; trivial) | (exact Nat.le_trans (Nat.mul_le_mul_right _ (show _ ≤ 100000000001 by omega)) (by decide)) | (intro hg_; first | exact hg_ | ((try simp only [decide_eq_true_eq] at hg_); (try rw [wi64 (by omega) (by omega)]); (repeat' apply And.intro) <;> (first | trivial | rfl | omega | (intros; rfl) | (intros; trivial))))))))))
    refine s_ret ?_
    exact ⟨_, _, rfl, ⟨trivial, trivial⟩, rfl, rfl⟩
  · cases h
set_option maxRecDepth 100000 in
theorem num_body : HasBody Try.prog 8 := ⟨_, Try.func8, rfl, by decide⟩

def ctAl : CtL := [(8, numC), (16, powerMC)]
set_option maxRecDepth 100000 in
theorem ctAl_ok : CtLOk Try.prog ctAl := ⟨.fn num_body num_read, .fn powerM_body powerM_read, trivial⟩
def crAl : CrL := [(7, newC), (10, addMC)]
set_option maxRecDepth 100000 in
theorem crAl_ok : CrLOk Try.prog crAl := ⟨⟨new_body, new_turn⟩, ⟨addM_body, addM_turn⟩, trivial⟩

def aliveC (args : List AV) (_M : MemF) : Option (Prop × AV) := match args with
  | [] => some (True, .v (.bool true))
  | _ => none
set_option maxRecDepth 100000 in
set_option maxHeartbeats 4000000 in
theorem alive_read : ReadFn Try.prog 6 aliveC := by
  intro args M q res h hq O w0 w hS
  unfold aliveC at h
  split at h
  · cases h
    refine ro_fn tabs ctAl_ok crAl_ok Try.func6 rfl rfl (M := []) rfl trivial trivial ?_
    repeat (first
      | refine s_seq ?_
      | refine s_region ?_
      | refine o_val rfl rfl trivial trivial ?_
      | refine o_new rfl rfl rfl ⟨0, trivial⟩ trivial (fun _ _ => ?_)
      | refine o_new rfl rfl rfl ⟨(), trivial⟩ trivial (fun _ _ => ?_)
      | refine o_put rfl rfl rfl trivial trivial ?_
      | refine o_nil ?_
      | refine d_val rfl rfl trivial trivial ?_
      | refine d_new rfl rfl rfl ⟨0, trivial⟩ trivial (fun _ _ => ?_)
      | refine d_new rfl rfl rfl ⟨(), trivial⟩ trivial (fun _ _ => ?_)
      | refine d_put rfl rfl rfl trivial trivial ?_
      | refine d_nil ?_
      | refine s_skip ?_
      | refine s_block ?_
      | refine s_exit ?_
      | refine s_label ?_
      | ((first | refine o_val rfl rfl trivial ?hc ?_ | refine o_new rfl rfl rfl ⟨0, trivial⟩ ?hc (fun _ _ => ?_) | refine o_new rfl rfl rfl ⟨(none, _), Nat.le_refl _⟩ ?hc (fun _ _ => ?_) | refine o_new rfl rfl rfl ⟨(), trivial⟩ ?hc (fun _ _ => ?_) | refine o_put rfl rfl rfl trivial ?hc ?_ | refine d_val rfl rfl trivial ?hc ?_ | refine d_new rfl rfl rfl ⟨0, trivial⟩ ?hc (fun _ _ => ?_) | refine d_new rfl rfl rfl ⟨(none, _), Nat.le_refl _⟩ ?hc (fun _ _ => ?_) | refine d_new rfl rfl rfl ⟨(), trivial⟩ ?hc (fun _ _ => ?_) | refine d_put rfl rfl rfl trivial ?hc ?_); (case hc => (first | ((try simp only [needIf]); (try simp only [need]); (try simp only [imp]); done) | ((try simp only [needIf]); (try simp only [need]); (try simp only [imp]); (try simp only [cutOff]); (repeat' apply And.intro) <;> (first | trivial | rfl | omega | (simp; done) | (simp; omega) | (intros; rfl) | (intros; trivial) | (exact Nat.le_trans (Nat.mul_le_mul_right _ (show _ ≤ 100000000001 by omega)) (by decide)) | (intro hg_; first | exact hg_ | ((try simp only [decide_eq_true_eq] at hg_); (try rw [wi64 (by omega) (by omega)]); (repeat' apply And.intro) <;> (first | trivial | rfl | omega | (intros; rfl) | (intros; trivial))))))))))
    refine o_res rfl ?hc ⟨(0, 0, 0, none, 1), Nat.le_refl _⟩ rfl (fun x hx => ?_)
    case hc =>
      refine ⟨trivial, ⟨⟨rfl, rfl, Nat.le_refl _⟩, fun _ => rfl, by decide, fun i hi => ?_⟩, by decide, rfl, rfl⟩
      have : i = 0 := by omega
      subst this; rfl
    obtain ⟨bt, bv, ba, yc, ycap⟩ := x
    repeat (first
      | refine s_seq ?_
      | refine s_region ?_
      | refine o_val rfl rfl trivial trivial ?_
      | refine o_new rfl rfl rfl ⟨0, trivial⟩ trivial (fun _ _ => ?_)
      | refine o_new rfl rfl rfl ⟨(), trivial⟩ trivial (fun _ _ => ?_)
      | refine o_put rfl rfl rfl trivial trivial ?_
      | refine o_nil ?_
      | refine d_val rfl rfl trivial trivial ?_
      | refine d_new rfl rfl rfl ⟨0, trivial⟩ trivial (fun _ _ => ?_)
      | refine d_new rfl rfl rfl ⟨(), trivial⟩ trivial (fun _ _ => ?_)
      | refine d_put rfl rfl rfl trivial trivial ?_
      | refine d_nil ?_
      | refine s_skip ?_
      | refine s_block ?_
      | refine s_exit ?_
      | refine s_label ?_
      | ((first | refine o_val rfl rfl trivial ?hc ?_ | refine o_new rfl rfl rfl ⟨0, trivial⟩ ?hc (fun _ _ => ?_) | refine o_new rfl rfl rfl ⟨(none, _), Nat.le_refl _⟩ ?hc (fun _ _ => ?_) | refine o_new rfl rfl rfl ⟨(), trivial⟩ ?hc (fun _ _ => ?_) | refine o_put rfl rfl rfl trivial ?hc ?_ | refine d_val rfl rfl trivial ?hc ?_ | refine d_new rfl rfl rfl ⟨0, trivial⟩ ?hc (fun _ _ => ?_) | refine d_new rfl rfl rfl ⟨(none, _), Nat.le_refl _⟩ ?hc (fun _ _ => ?_) | refine d_new rfl rfl rfl ⟨(), trivial⟩ ?hc (fun _ _ => ?_) | refine d_put rfl rfl rfl trivial ?hc ?_); (case hc => (first | ((try simp only [needIf]); (try simp only [need]); (try simp only [imp]); done) | ((try simp only [needIf]); (try simp only [need]); (try simp only [imp]); (try simp only [cutOff]); (repeat' apply And.intro) <;> (first | trivial | rfl | omega | (simp; done) | (simp; omega) | (intros; rfl) | (intros; trivial) | (exact Nat.le_trans (Nat.mul_le_mul_right _ (show _ ≤ 100000000001 by omega)) (by decide)) | (intro hg_; first | exact hg_ | ((try simp only [decide_eq_true_eq] at hg_); (try rw [wi64 (by omega) (by omega)]); (repeat' apply And.intro) <;> (first | trivial | rfl | omega | (intros; rfl) | (intros; trivial))))))))))
    refine s_cond (b := false) rfl (fun h1 => by cases h1) (fun _ => ?_)
    repeat (first
      | refine s_seq ?_
      | refine s_region ?_
      | refine o_val rfl rfl trivial trivial ?_
      | refine o_new rfl rfl rfl ⟨0, trivial⟩ trivial (fun _ _ => ?_)
      | refine o_new rfl rfl rfl ⟨(), trivial⟩ trivial (fun _ _ => ?_)
      | refine o_put rfl rfl rfl trivial trivial ?_
      | refine o_nil ?_
      | refine d_val rfl rfl trivial trivial ?_
      | refine d_new rfl rfl rfl ⟨0, trivial⟩ trivial (fun _ _ => ?_)
      | refine d_new rfl rfl rfl ⟨(), trivial⟩ trivial (fun _ _ => ?_)
      | refine d_put rfl rfl rfl trivial trivial ?_
      | refine d_nil ?_
      | refine s_skip ?_
      | refine s_block ?_
      | refine s_exit ?_
      | refine s_label ?_
      | ((first | refine o_val rfl rfl trivial ?hc ?_ | refine o_new rfl rfl rfl ⟨0, trivial⟩ ?hc (fun _ _ => ?_) | refine o_new rfl rfl rfl ⟨(none, _), Nat.le_refl _⟩ ?hc (fun _ _ => ?_) | refine o_new rfl rfl rfl ⟨(), trivial⟩ ?hc (fun _ _ => ?_) | refine o_put rfl rfl rfl trivial ?hc ?_ | refine d_val rfl rfl trivial ?hc ?_ | refine d_new rfl rfl rfl ⟨0, trivial⟩ ?hc (fun _ _ => ?_) | refine d_new rfl rfl rfl ⟨(none, _), Nat.le_refl _⟩ ?hc (fun _ _ => ?_) | refine d_new rfl rfl rfl ⟨(), trivial⟩ ?hc (fun _ _ => ?_) | refine d_put rfl rfl rfl trivial ?hc ?_); (case hc => (first | ((try simp only [needIf]); (try simp only [need]); (try simp only [imp]); done) | ((try simp only [needIf]); (try simp only [need]); (try simp only [imp]); (try simp only [cutOff]); (repeat' apply And.intro) <;> (first | trivial | rfl | omega | (simp; done) | (simp; omega) | (intros; rfl) | (intros; trivial) | (exact Nat.le_trans (Nat.mul_le_mul_right _ (show _ ≤ 100000000001 by omega)) (by decide)) | (intro hg_; first | exact hg_ | ((try simp only [decide_eq_true_eq] at hg_); (try rw [wi64 (by omega) (by omega)]); (repeat' apply And.intro) <;> (first | trivial | rfl | omega | (intros; rfl) | (intros; trivial))))))))))
    refine s_ret ?_
    exact ⟨_, _, rfl, ⟨trivial, trivial⟩, rfl, rfl⟩
  · cases h
set_option maxRecDepth 100000 in
theorem alive_body : HasBody Try.prog 6 := ⟨_, Try.func6, rfl, by decide⟩

/-- sameCert of two that are nothing -/
def sameNC (args : List AV) (_M : MemF) : Option (Prop × AV) := match args with
  | [.agg (.cons (.v (.int .u64 0)) (.cons (.v (.int .i64 0)) (.cons (.ints .u8 32 l) (.cons (.v (.slice none 0 0)) .nil)))), .agg (.cons (.v (.int .u64 0)) (.cons (.v (.int .i64 0)) (.cons (.ints .u8 32 l') (.cons (.v (.slice none 0 0)) .nil))))] => some (intsEq 32 l l' = true, .v (.bool true))
  | _ => none
set_option maxRecDepth 100000 in
theorem sameN_read : ReadFn Try.prog 21 sameNC := by
  intro args M q res h hq O w0 w hS
  unfold sameNC at h
  split at h
  · rename_i l l'
    cases h
    refine ro_fn tabs (ct := []) trivial (cr := []) trivial Try.func21 rfl rfl (M := []) rfl trivial trivial ?_
    repeat (first
      | refine s_seq ?_
      | refine s_region ?_
      | refine o_val rfl rfl trivial trivial ?_
      | refine o_new rfl rfl rfl ⟨0, trivial⟩ trivial (fun _ _ => ?_)
      | refine o_new rfl rfl rfl ⟨(), trivial⟩ trivial (fun _ _ => ?_)
      | refine o_put rfl rfl rfl trivial trivial ?_
      | refine o_nil ?_
      | refine d_val rfl rfl trivial trivial ?_
      | refine d_new rfl rfl rfl ⟨0, trivial⟩ trivial (fun _ _ => ?_)
      | refine d_new rfl rfl rfl ⟨(), trivial⟩ trivial (fun _ _ => ?_)
      | refine d_put rfl rfl rfl trivial trivial ?_
      | refine d_nil ?_
      | refine s_skip ?_
      | refine s_block ?_
      | refine s_exit ?_
      | refine s_label ?_
      | ((first | refine o_val rfl rfl trivial ?hc ?_ | refine o_new rfl rfl rfl ⟨0, trivial⟩ ?hc (fun _ _ => ?_) | refine o_new rfl rfl rfl ⟨(none, _), Nat.le_refl _⟩ ?hc (fun _ _ => ?_) | refine o_new rfl rfl rfl ⟨(), trivial⟩ ?hc (fun _ _ => ?_) | refine o_put rfl rfl rfl trivial ?hc ?_ | refine d_val rfl rfl trivial ?hc ?_ | refine d_new rfl rfl rfl ⟨0, trivial⟩ ?hc (fun _ _ => ?_) | refine d_new rfl rfl rfl ⟨(none, _), Nat.le_refl _⟩ ?hc (fun _ _ => ?_) | refine d_new rfl rfl rfl ⟨(), trivial⟩ ?hc (fun _ _ => ?_) | refine d_put rfl rfl rfl trivial ?hc ?_); (case hc => (first | ((try simp only [needIf]); (try simp only [need]); (try simp only [imp]); done) | ((try simp only [needIf]); (try simp only [need]); (try simp only [imp]); (try simp only [cutOff]); (repeat' apply And.intro) <;> (first | trivial | rfl | omega | (simp; done) | (simp; omega) | (intros; rfl) | (intros; trivial) | (exact Nat.le_trans (Nat.mul_le_mul_right _ (show _ ≤ 100000000001 by omega)) (by decide)) | (intro hg_; first | exact hg_ | ((try simp only [decide_eq_true_eq] at hg_); (try rw [wi64 (by omega) (by omega)]); (repeat' apply And.intro) <;> (first | trivial | rfl | omega | (intros; rfl) | (intros; trivial))))))))))
    refine s_cond (b := (!(intsEq 32 l l') || false)) rfl (fun h1 => by rw [hq] at h1; cases h1) (fun _ => ?_)
    repeat (first
      | refine s_seq ?_
      | refine s_region ?_
      | refine o_val rfl rfl trivial trivial ?_
      | refine o_new rfl rfl rfl ⟨0, trivial⟩ trivial (fun _ _ => ?_)
      | refine o_new rfl rfl rfl ⟨(), trivial⟩ trivial (fun _ _ => ?_)
      | refine o_put rfl rfl rfl trivial trivial ?_
      | refine o_nil ?_
      | refine d_val rfl rfl trivial trivial ?_
      | refine d_new rfl rfl rfl ⟨0, trivial⟩ trivial (fun _ _ => ?_)
      | refine d_new rfl rfl rfl ⟨(), trivial⟩ trivial (fun _ _ => ?_)
      | refine d_put rfl rfl rfl trivial trivial ?_
      | refine d_nil ?_
      | refine s_skip ?_
      | refine s_block ?_
      | refine s_exit ?_
      | refine s_label ?_
      | ((first | refine o_val rfl rfl trivial ?hc ?_ | refine o_new rfl rfl rfl ⟨0, trivial⟩ ?hc (fun _ _ => ?_) | refine o_new rfl rfl rfl ⟨(none, _), Nat.le_refl _⟩ ?hc (fun _ _ => ?_) | refine o_new rfl rfl rfl ⟨(), trivial⟩ ?hc (fun _ _ => ?_) | refine o_put rfl rfl rfl trivial ?hc ?_ | refine d_val rfl rfl trivial ?hc ?_ | refine d_new rfl rfl rfl ⟨0, trivial⟩ ?hc (fun _ _ => ?_) | refine d_new rfl rfl rfl ⟨(none, _), Nat.le_refl _⟩ ?hc (fun _ _ => ?_) | refine d_new rfl rfl rfl ⟨(), trivial⟩ ?hc (fun _ _ => ?_) | refine d_put rfl rfl rfl trivial ?hc ?_); (case hc => (first | ((try simp only [needIf]); (try simp only [need]); (try simp only [imp]); done) | ((try simp only [needIf]); (try simp only [need]); (try simp only [imp]); (try simp only [cutOff]); (repeat' apply And.intro) <;> (first | trivial | rfl | omega | (simp; done) | (simp; omega) | (intros; rfl) | (intros; trivial) | (exact Nat.le_trans (Nat.mul_le_mul_right _ (show _ ≤ 100000000001 by omega)) (by decide)) | (intro hg_; first | exact hg_ | ((try simp only [decide_eq_true_eq] at hg_); (try rw [wi64 (by omega) (by omega)]); (repeat' apply And.intro) <;> (first | trivial | rfl | omega | (intros; rfl) | (intros; trivial))))))))))
    refine s_loopW (α := Unit) [5, 34, 35, 36, 37, 38, 39, 40, 41, 42, 43, 44, 45, 46, 47, 48, 49, 50, 51] [] (fun _ => True) (fun _ => [(5, none, .v (.int .i64 0))]) (fun _ => []) (fun _ => 0) () trivial ?_ ?_
    · (refine Le.of ?leT ?leM rfl; (case leT => repeat (first | exact trivial | refine And.intro (by first | exact rfl | (show some (none, AV.v (.int .i64 (IntKind.i64.wrap _))) = _; rw [wi64 (by omega) (by omega)]; rfl)) ?_)); (case leM => repeat (first | exact trivial | refine And.intro ⟨_, rfl, Blk.le_refl _⟩ ?_)))
    · intro _ _
      repeat (first
        | refine s_seq ?_
        | refine s_region ?_
        | refine o_val rfl rfl trivial trivial ?_
        | refine o_new rfl rfl rfl ⟨0, trivial⟩ trivial (fun _ _ => ?_)
        | refine o_new rfl rfl rfl ⟨(), trivial⟩ trivial (fun _ _ => ?_)
        | refine o_put rfl rfl rfl trivial trivial ?_
        | refine o_nil ?_
        | refine d_val rfl rfl trivial trivial ?_
        | refine d_new rfl rfl rfl ⟨0, trivial⟩ trivial (fun _ _ => ?_)
        | refine d_new rfl rfl rfl ⟨(), trivial⟩ trivial (fun _ _ => ?_)
        | refine d_put rfl rfl rfl trivial trivial ?_
        | refine d_nil ?_
        | refine s_skip ?_
        | refine s_block ?_
        | refine s_exit ?_
        | refine s_label ?_
        | ((first | refine o_val rfl rfl trivial ?hc ?_ | refine o_new rfl rfl rfl ⟨0, trivial⟩ ?hc (fun _ _ => ?_) | refine o_new rfl rfl rfl ⟨(none, _), Nat.le_refl _⟩ ?hc (fun _ _ => ?_) | refine o_new rfl rfl rfl ⟨(), trivial⟩ ?hc (fun _ _ => ?_) | refine o_put rfl rfl rfl trivial ?hc ?_ | refine d_val rfl rfl trivial ?hc ?_ | refine d_new rfl rfl rfl ⟨0, trivial⟩ ?hc (fun _ _ => ?_) | refine d_new rfl rfl rfl ⟨(none, _), Nat.le_refl _⟩ ?hc (fun _ _ => ?_) | refine d_new rfl rfl rfl ⟨(), trivial⟩ ?hc (fun _ _ => ?_) | refine d_put rfl rfl rfl trivial ?hc ?_); (case hc => (first | ((try simp only [needIf]); (try simp only [need]); (try simp only [imp]); done) | ((try simp only [needIf]); (try simp only [need]); (try simp only [imp]); (try simp only [cutOff]); (repeat' apply And.intro) <;> (first | trivial | rfl | omega | (simp; done) | (simp; omega) | (intros; rfl) | (intros; trivial) | (exact Nat.le_trans (Nat.mul_le_mul_right _ (show _ ≤ 100000000001 by omega)) (by decide)) | (intro hg_; first | exact hg_ | ((try simp only [decide_eq_true_eq] at hg_); (try rw [wi64 (by omega) (by omega)]); (repeat' apply And.intro) <;> (first | trivial | rfl | omega | (intros; rfl) | (intros; trivial))))))))))
      refine s_cond (b := false) rfl (fun h1 => by cases h1) (fun _ => ?_)
      repeat (first
        | refine s_seq ?_
        | refine s_region ?_
        | refine o_val rfl rfl trivial trivial ?_
        | refine o_new rfl rfl rfl ⟨0, trivial⟩ trivial (fun _ _ => ?_)
        | refine o_new rfl rfl rfl ⟨(), trivial⟩ trivial (fun _ _ => ?_)
        | refine o_put rfl rfl rfl trivial trivial ?_
        | refine o_nil ?_
        | refine d_val rfl rfl trivial trivial ?_
        | refine d_new rfl rfl rfl ⟨0, trivial⟩ trivial (fun _ _ => ?_)
        | refine d_new rfl rfl rfl ⟨(), trivial⟩ trivial (fun _ _ => ?_)
        | refine d_put rfl rfl rfl trivial trivial ?_
        | refine d_nil ?_
        | refine s_skip ?_
        | refine s_block ?_
        | refine s_exit ?_
        | refine s_label ?_
        | ((first | refine o_val rfl rfl trivial ?hc ?_ | refine o_new rfl rfl rfl ⟨0, trivial⟩ ?hc (fun _ _ => ?_) | refine o_new rfl rfl rfl ⟨(none, _), Nat.le_refl _⟩ ?hc (fun _ _ => ?_) | refine o_new rfl rfl rfl ⟨(), trivial⟩ ?hc (fun _ _ => ?_) | refine o_put rfl rfl rfl trivial ?hc ?_ | refine d_val rfl rfl trivial ?hc ?_ | refine d_new rfl rfl rfl ⟨0, trivial⟩ ?hc (fun _ _ => ?_) | refine d_new rfl rfl rfl ⟨(none, _), Nat.le_refl _⟩ ?hc (fun _ _ => ?_) | refine d_new rfl rfl rfl ⟨(), trivial⟩ ?hc (fun _ _ => ?_) | refine d_put rfl rfl rfl trivial ?hc ?_); (case hc => (first | ((try simp only [needIf]); (try simp only [need]); (try simp only [imp]); done) | ((try simp only [needIf]); (try simp only [need]); (try simp only [imp]); (try simp only [cutOff]); (repeat' apply And.intro) <;> (first | trivial | rfl | omega | (simp; done) | (simp; omega) | (intros; rfl) | (intros; trivial) | (exact Nat.le_trans (Nat.mul_le_mul_right _ (show _ ≤ 100000000001 by omega)) (by decide)) | (intro hg_; first | exact hg_ | ((try simp only [decide_eq_true_eq] at hg_); (try rw [wi64 (by omega) (by omega)]); (repeat' apply And.intro) <;> (first | trivial | rfl | omega | (intros; rfl) | (intros; trivial))))))))))
      refine s_ret ?_
      exact ⟨_, _, rfl, ⟨trivial, trivial⟩, rfl, rfl⟩
  · cases h
set_option maxRecDepth 100000 in
theorem sameN_body : HasBody Try.prog 21 := ⟨_, Try.func21, rfl, by decide⟩
end Go.Proofs.Ytaohdlepocajcaa.V
