import Derived.Test.YtaohdlepocajcaaVF9
/-! The law TallyNil, walked. -/
namespace Go.Proofs.Ytaohdlepocajcaa.V
open Go Go.RowKit

def ctL : CtL := [(6, aliveC), (8, numC), (10, addNC), (13, heldNC), (14, skipNC), (15, quorumNC), (16, powerNC), (17, anyNC), (18, votesNC), (19, enterNC), (20, certNC), (21, sameNC), (22, roundNC)]
set_option maxRecDepth 100000 in
theorem ctL_ok : CtLOk Try.prog ctL := ⟨.fn alive_body alive_read, .fn num_body num_read, .fn addN_body addN_read, .fn heldN_body heldN_read, .fn skipN_body skipN_read, .fn quorumN_body quorumN_read, .fn powerN_body powerN_read, .fn anyN_body anyN_read, .fn votesN_body votesN_read, .fn enterN_body enterN_read, .fn certN_body certN_read, .fn sameN_body sameN_read, .fn roundN_body roundN_read, trivial⟩

set_option maxRecDepth 100000 in
set_option maxHeartbeats 8000000 in
theorem law_calls (x : Vote) (r : Int) (w : World) :
    Calls Try.prog 4 ([encV x, .v (.int .i64 r)].map AV.val).toArray w fun e w' => e = .returned (.bool true) ∧ Below w.heap.size w w' := by
  refine ro_fn tabs ctL_ok (cr := []) trivial Try.func4 rfl rfl (res := .v (.bool true)) (M := []) rfl trivial trivial ?_
  repeat (first
    | refine s_seq ?_
    | refine s_region ?_
    | refine o_val rfl rfl trivial trivial ?_
    | refine o_new rfl rfl rfl ⟨0, trivial⟩ trivial (fun _ _ => ?_)
    | refine o_new rfl rfl rfl ⟨(), trivial⟩ trivial (fun _ _ => ?_)
    | refine o_put rfl rfl rfl trivial trivial ?_
    | refine o_nil ?_
    | refine d_val rfl rfl trivial trivial ?_
    | refine d_new rfl rfl rfl ⟨0, trivial⟩ trivial (fun _ _ => ?_)
    | refine d_new rfl rfl rfl ⟨(), trivial⟩ trivial (fun _ _ => ?_)
    | refine d_put rfl rfl rfl trivial trivial ?_
    | refine d_nil ?_
    | refine s_skip ?_
    | refine s_block ?_
    | refine s_exit ?_
    | refine s_label ?_
    | ((first | refine o_val rfl rfl trivial ?hc ?_ | refine o_new rfl rfl rfl ⟨0, trivial⟩ ?hc (fun _ _ => ?_) | refine o_new rfl rfl rfl ⟨(none, _), Nat.le_refl _⟩ ?hc (fun _ _ => ?_) | refine o_new rfl rfl rfl ⟨(), trivial⟩ ?hc (fun _ _ => ?_) | refine o_put rfl rfl rfl trivial ?hc ?_ | refine d_val rfl rfl trivial ?hc ?_ | refine d_new rfl rfl rfl ⟨0, trivial⟩ ?hc (fun _ _ => ?_) | refine d_new rfl rfl rfl ⟨(none, _), Nat.le_refl _⟩ ?hc (fun _ _ => ?_) | refine d_new rfl rfl rfl ⟨(), trivial⟩ ?hc (fun _ _ => ?_) | refine d_put rfl rfl rfl trivial ?hc ?_); (case hc => (first | ((try simp only [needIf]); (try simp only [need]); (try simp only [imp]); done) | ((try simp only [needIf]); (try simp only [need]); (try simp only [imp]); (try simp only [cutOff]); (repeat' apply And.intro) <;> (first | trivial | rfl | omega | (simp; done) | (simp; omega) | (intros; rfl) | (intros; trivial) | (exact Nat.le_trans (Nat.mul_le_mul_right _ (show _ ≤ 100000000001 by omega)) (by decide)) | (intro hg_; first | exact hg_ | ((try simp only [decide_eq_true_eq] at hg_); (try rw [wi64 (by omega) (by omega)]); (repeat' apply And.intro) <;> (first | trivial | rfl | omega | (intros; rfl) | (intros; trivial))))))))))
  refine s_cond (b := false) rfl (fun h1 => by cases h1) (fun _ => ?_)
  repeat (first
    | refine s_seq ?_
    | refine s_region ?_
    | refine o_val rfl rfl trivial trivial ?_
    | refine o_new rfl rfl rfl ⟨0, trivial⟩ trivial (fun _ _ => ?_)
    | refine o_new rfl rfl rfl ⟨(), trivial⟩ trivial (fun _ _ => ?_)
    | refine o_put rfl rfl rfl trivial trivial ?_
    | refine o_nil ?_
    | refine d_val rfl rfl trivial trivial ?_
    | refine d_new rfl rfl rfl ⟨0, trivial⟩ trivial (fun _ _ => ?_)
    | refine d_new rfl rfl rfl ⟨(), trivial⟩ trivial (fun _ _ => ?_)
    | refine d_put rfl rfl rfl trivial trivial ?_
    | refine d_nil ?_
    | refine s_skip ?_
    | refine s_block ?_
    | refine s_exit ?_
    | refine s_label ?_
    | ((first | refine o_val rfl rfl trivial ?hc ?_ | refine o_new rfl rfl rfl ⟨0, trivial⟩ ?hc (fun _ _ => ?_) | refine o_new rfl rfl rfl ⟨(none, _), Nat.le_refl _⟩ ?hc (fun _ _ => ?_) | refine o_new rfl rfl rfl ⟨(), trivial⟩ ?hc (fun _ _ => ?_) | refine o_put rfl rfl rfl trivial ?hc ?_ | refine d_val rfl rfl trivial ?hc ?_ | refine d_new rfl rfl rfl ⟨0, trivial⟩ ?hc (fun _ _ => ?_) | refine d_new rfl rfl rfl ⟨(none, _), Nat.le_refl _⟩ ?hc (fun _ _ => ?_) | refine d_new rfl rfl rfl ⟨(), trivial⟩ ?hc (fun _ _ => ?_) | refine d_put rfl rfl rfl trivial ?hc ?_); (case hc => (first | ((try simp only [needIf]); (try simp only [need]); (try simp only [imp]); done) | ((try simp only [needIf]); (try simp only [need]); (try simp only [imp]); (try simp only [cutOff]); (repeat' apply And.intro) <;> (first | trivial | rfl | omega | (simp; done) | (simp; omega) | (intros; rfl) | (intros; trivial) | (exact Nat.le_trans (Nat.mul_le_mul_right _ (show _ ≤ 100000000001 by omega)) (by decide)) | (intro hg_; first | exact hg_ | ((try simp only [decide_eq_true_eq] at hg_); (try rw [wi64 (by omega) (by omega)]); (repeat' apply And.intro) <;> (first | trivial | rfl | omega | (intros; rfl) | (intros; trivial))))))))))
  refine s_loopW (α := Nat) [7, 8, 9, 10, 11, 12, 13, 14, 15, 16, 17, 18, 25, 26, 27, 28, 29, 30, 31, 32, 33, 34, 35, 36, 37, 38, 39, 40, 41, 42, 43, 44, 45, 46, 47, 48, 49, 50, 51, 52, 53, 54, 55, 56, 57, 58, 59, 60, 61, 62, 63, 64, 65, 66, 67, 68, 69, 70, 71, 72, 73, 74, 75, 76, 77, 78, 79, 80, 81, 82, 83, 84, 85, 86, 87, 88, 89, 90, 91, 92, 93, 94, 95, 96, 97, 98, 99, 100, 101, 102, 103, 104, 105, 106, 107, 108, 109, 110, 111, 112, 113, 114, 115, 116, 117, 118, 119, 120, 121, 122, 123, 124, 125, 126, 127, 128, 129, 130, 131, 132, 133, 134, 135, 136, 137, 138, 139, 140, 141, 142, 143, 144, 145, 146, 147] [9, 13, 15] (fun k => k ≤ 2) (fun k => [(7, none, .v (.int .i64 k))]) (fun _ => []) (fun k => 2 - k) 0 (by decide) ?_ ?_
  · (refine Le.of ?leT ?leM rfl; (case leT => repeat (first | exact trivial | refine And.intro (by first | exact rfl | (show some (none, AV.v (.int .i64 (IntKind.i64.wrap _))) = _; rw [wi64 (by omega) (by omega)]; rfl)) ?_)); (case leM => repeat (first | exact trivial | refine And.intro ⟨_, rfl, Blk.le_refl _⟩ ?_)))
  · intro k hk
    have hk3 : k = 0 ∨ k = 1 ∨ k = 2 := by omega
    rcases hk3 with rfl | rfl | rfl
    · repeat (first
        | refine s_seq ?_
        | refine s_region ?_
        | refine o_val rfl rfl trivial trivial ?_
        | refine o_new rfl rfl rfl ⟨0, trivial⟩ trivial (fun _ _ => ?_)
        | refine o_new rfl rfl rfl ⟨(), trivial⟩ trivial (fun _ _ => ?_)
        | refine o_put rfl rfl rfl trivial trivial ?_
        | refine o_nil ?_
        | refine d_val rfl rfl trivial trivial ?_
        | refine d_new rfl rfl rfl ⟨0, trivial⟩ trivial (fun _ _ => ?_)
        | refine d_new rfl rfl rfl ⟨(), trivial⟩ trivial (fun _ _ => ?_)
        | refine d_put rfl rfl rfl trivial trivial ?_
        | refine d_nil ?_
        | refine s_skip ?_
        | refine s_block ?_
        | refine s_exit ?_
        | refine s_label ?_
        | ((first | refine o_val rfl rfl trivial ?hc ?_ | refine o_new rfl rfl rfl ⟨0, trivial⟩ ?hc (fun _ _ => ?_) | refine o_new rfl rfl rfl ⟨(none, _), Nat.le_refl _⟩ ?hc (fun _ _ => ?_) | refine o_new rfl rfl rfl ⟨(), trivial⟩ ?hc (fun _ _ => ?_) | refine o_put rfl rfl rfl trivial ?hc ?_ | refine d_val rfl rfl trivial ?hc ?_ | refine d_new rfl rfl rfl ⟨0, trivial⟩ ?hc (fun _ _ => ?_) | refine d_new rfl rfl rfl ⟨(none, _), Nat.le_refl _⟩ ?hc (fun _ _ => ?_) | refine d_new rfl rfl rfl ⟨(), trivial⟩ ?hc (fun _ _ => ?_) | refine d_put rfl rfl rfl trivial ?hc ?_); (case hc => (first | ((try simp only [needIf]); (try simp only [need]); (try simp only [imp]); done) | ((try simp only [needIf]); (try simp only [need]); (try simp only [imp]); (try simp only [cutOff]); (repeat' apply And.intro) <;> (first | trivial | rfl | omega | (simp; done) | (simp; omega) | (intros; rfl) | (intros; trivial) | (exact Nat.le_trans (Nat.mul_le_mul_right _ (show _ ≤ 100000000001 by omega)) (by decide)) | (intro hg_; first | exact hg_ | ((try simp only [decide_eq_true_eq] at hg_); (try rw [wi64 (by omega) (by omega)]); (repeat' apply And.intro) <;> (first | trivial | rfl | omega | (intros; rfl) | (intros; trivial))))))))))
      refine s_cond (b := true) rfl (fun _ => ?_) (fun h1 => by cases h1)
      repeat (first
        | refine s_seq ?_
        | refine s_region ?_
        | refine o_val rfl rfl trivial trivial ?_
        | refine o_new rfl rfl rfl ⟨0, trivial⟩ trivial (fun _ _ => ?_)
        | refine o_new rfl rfl rfl ⟨(), trivial⟩ trivial (fun _ _ => ?_)
        | refine o_put rfl rfl rfl trivial trivial ?_
        | refine o_nil ?_
        | refine d_val rfl rfl trivial trivial ?_
        | refine d_new rfl rfl rfl ⟨0, trivial⟩ trivial (fun _ _ => ?_)
        | refine d_new rfl rfl rfl ⟨(), trivial⟩ trivial (fun _ _ => ?_)
        | refine d_put rfl rfl rfl trivial trivial ?_
        | refine d_nil ?_
        | refine s_skip ?_
        | refine s_block ?_
        | refine s_exit ?_
        | refine s_label ?_
        | ((first | refine o_val rfl rfl trivial ?hc ?_ | refine o_new rfl rfl rfl ⟨0, trivial⟩ ?hc (fun _ _ => ?_) | refine o_new rfl rfl rfl ⟨(none, _), Nat.le_refl _⟩ ?hc (fun _ _ => ?_) | refine o_new rfl rfl rfl ⟨(), trivial⟩ ?hc (fun _ _ => ?_) | refine o_put rfl rfl rfl trivial ?hc ?_ | refine d_val rfl rfl trivial ?hc ?_ | refine d_new rfl rfl rfl ⟨0, trivial⟩ ?hc (fun _ _ => ?_) | refine d_new rfl rfl rfl ⟨(none, _), Nat.le_refl _⟩ ?hc (fun _ _ => ?_) | refine d_new rfl rfl rfl ⟨(), trivial⟩ ?hc (fun _ _ => ?_) | refine d_put rfl rfl rfl trivial ?hc ?_); (case hc => (first | ((try simp only [needIf]); (try simp only [need]); (try simp only [imp]); done) | ((try simp only [needIf]); (try simp only [need]); (try simp only [imp]); (try simp only [cutOff]); (repeat' apply And.intro) <;> (first | trivial | rfl | omega | (simp; done) | (simp; omega) | (intros; rfl) | (intros; trivial) | (exact Nat.le_trans (Nat.mul_le_mul_right _ (show _ ≤ 100000000001 by omega)) (by decide)) | (intro hg_; first | exact hg_ | ((try simp only [decide_eq_true_eq] at hg_); (try rw [wi64 (by omega) (by omega)]); (repeat' apply And.intro) <;> (first | trivial | rfl | omega | (intros; rfl) | (intros; trivial))))))))))
      refine s_cond (b := false) rfl (fun h1 => by cases h1) (fun _ => ?_)
      repeat (first
        | refine s_seq ?_
        | refine s_region ?_
        | refine o_val rfl rfl trivial trivial ?_
        | refine o_new rfl rfl rfl ⟨0, trivial⟩ trivial (fun _ _ => ?_)
        | refine o_new rfl rfl rfl ⟨(), trivial⟩ trivial (fun _ _ => ?_)
        | refine o_put rfl rfl rfl trivial trivial ?_
        | refine o_nil ?_
        | refine d_val rfl rfl trivial trivial ?_
        | refine d_new rfl rfl rfl ⟨0, trivial⟩ trivial (fun _ _ => ?_)
        | refine d_new rfl rfl rfl ⟨(), trivial⟩ trivial (fun _ _ => ?_)
        | refine d_put rfl rfl rfl trivial trivial ?_
        | refine d_nil ?_
        | refine s_skip ?_
        | refine s_block ?_
        | refine s_exit ?_
        | refine s_label ?_
        | ((first | refine o_val rfl rfl trivial ?hc ?_ | refine o_new rfl rfl rfl ⟨0, trivial⟩ ?hc (fun _ _ => ?_) | refine o_new rfl rfl rfl ⟨(none, _), Nat.le_refl _⟩ ?hc (fun _ _ => ?_) | refine o_new rfl rfl rfl ⟨(), trivial⟩ ?hc (fun _ _ => ?_) | refine o_put rfl rfl rfl trivial ?hc ?_ | refine d_val rfl rfl trivial ?hc ?_ | refine d_new rfl rfl rfl ⟨0, trivial⟩ ?hc (fun _ _ => ?_) | refine d_new rfl rfl rfl ⟨(none, _), Nat.le_refl _⟩ ?hc (fun _ _ => ?_) | refine d_new rfl rfl rfl ⟨(), trivial⟩ ?hc (fun _ _ => ?_) | refine d_put rfl rfl rfl trivial ?hc ?_); (case hc => (first | ((try simp only [needIf]); (try simp only [need]); (try simp only [imp]); done) | ((try simp only [needIf]); (try simp only [need]); (try simp only [imp]); (try simp only [cutOff]); (repeat' apply And.intro) <;> (first | trivial | rfl | omega | (simp; done) | (simp; omega) | (intros; rfl) | (intros; trivial) | (exact Nat.le_trans (Nat.mul_le_mul_right _ (show _ ≤ 100000000001 by omega)) (by decide)) | (intro hg_; first | exact hg_ | ((try simp only [decide_eq_true_eq] at hg_); (try rw [wi64 (by omega) (by omega)]); (repeat' apply And.intro) <;> (first | trivial | rfl | omega | (intros; rfl) | (intros; trivial))))))))))
      refine s_cond (b := false) rfl (fun h1 => by cases h1) (fun _ => ?_)
      repeat (first
        | refine s_seq ?_
        | refine s_region ?_
        | refine o_val rfl rfl trivial trivial ?_
        | refine o_new rfl rfl rfl ⟨0, trivial⟩ trivial (fun _ _ => ?_)
        | refine o_new rfl rfl rfl ⟨(), trivial⟩ trivial (fun _ _ => ?_)
        | refine o_put rfl rfl rfl trivial trivial ?_
        | refine o_nil ?_
        | refine d_val rfl rfl trivial trivial ?_
        | refine d_new rfl rfl rfl ⟨0, trivial⟩ trivial (fun _ _ => ?_)
        | refine d_new rfl rfl rfl ⟨(), trivial⟩ trivial (fun _ _ => ?_)
        | refine d_put rfl rfl rfl trivial trivial ?_
        | refine d_nil ?_
        | refine s_skip ?_
        | refine s_block ?_
        | refine s_exit ?_
        | refine s_label ?_
        | ((first | refine o_val rfl rfl trivial ?hc ?_ | refine o_new rfl rfl rfl ⟨0, trivial⟩ ?hc (fun _ _ => ?_) | refine o_new rfl rfl rfl ⟨(none, _), Nat.le_refl _⟩ ?hc (fun _ _ => ?_) | refine o_new rfl rfl rfl ⟨(), trivial⟩ ?hc (fun _ _ => ?_) | refine o_put rfl rfl rfl trivial ?hc ?_ | refine d_val rfl rfl trivial ?hc ?_ | refine d_new rfl rfl rfl ⟨0, trivial⟩ ?hc (fun _ _ => ?_) | refine d_new rfl rfl rfl ⟨(none, _), Nat.le_refl _⟩ ?hc (fun _ _ => ?_) | refine d_new rfl rfl rfl ⟨(), trivial⟩ ?hc (fun _ _ => ?_) | refine d_put rfl rfl rfl trivial ?hc ?_); (case hc => (first | ((try simp only [needIf]); (try simp only [need]); (try simp only [imp]); done) | ((try simp only [needIf]); (try simp only [need]); (try simp only [imp]); (try simp only [cutOff]); (repeat' apply And.intro) <;> (first | trivial | rfl | omega | (simp; done) | (simp; omega) | (intros; rfl) | (intros; trivial) | (exact Nat.le_trans (Nat.mul_le_mul_right _ (show _ ≤ 100000000001 by omega)) (by decide)) | (intro hg_; first | exact hg_ | ((try simp only [decide_eq_true_eq] at hg_); (try rw [wi64 (by omega) (by omega)]); (repeat' apply And.intro) <;> (first | trivial | rfl | omega | (intros; rfl) | (intros; trivial))))))))))
      refine ⟨1, by decide, by decide, ?_⟩
      (refine Le.of ?leT ?leM rfl; (case leT => repeat (first | exact trivial | refine And.intro (by first | exact rfl | (show some (none, AV.v (.int .i64 (IntKind.i64.wrap _))) = _; rw [wi64 (by omega) (by omega)]; rfl)) ?_)); (case leM => repeat (first | exact trivial | refine And.intro ⟨_, rfl, Blk.le_refl _⟩ ?_)))
    · repeat (first
        | refine s_seq ?_
        | refine s_region ?_
        | refine o_val rfl rfl trivial trivial ?_
        | refine o_new rfl rfl rfl ⟨0, trivial⟩ trivial (fun _ _ => ?_)
        | refine o_new rfl rfl rfl ⟨(), trivial⟩ trivial (fun _ _ => ?_)
        | refine o_put rfl rfl rfl trivial trivial ?_
        | refine o_nil ?_
        | refine d_val rfl rfl trivial trivial ?_
        | refine d_new rfl rfl rfl ⟨0, trivial⟩ trivial (fun _ _ => ?_)
        | refine d_new rfl rfl rfl ⟨(), trivial⟩ trivial (fun _ _ => ?_)
        | refine d_put rfl rfl rfl trivial trivial ?_
        | refine d_nil ?_
        | refine s_skip ?_
        | refine s_block ?_
        | refine s_exit ?_
        | refine s_label ?_
        | ((first | refine o_val rfl rfl trivial ?hc ?_ | refine o_new rfl rfl rfl ⟨0, trivial⟩ ?hc (fun _ _ => ?_) | refine o_new rfl rfl rfl ⟨(none, _), Nat.le_refl _⟩ ?hc (fun _ _ => ?_) | refine o_new rfl rfl rfl ⟨(), trivial⟩ ?hc (fun _ _ => ?_) | refine o_put rfl rfl rfl trivial ?hc ?_ | refine d_val rfl rfl trivial ?hc ?_ | refine d_new rfl rfl rfl ⟨0, trivial⟩ ?hc (fun _ _ => ?_) | refine d_new rfl rfl rfl ⟨(none, _), Nat.le_refl _⟩ ?hc (fun _ _ => ?_) | refine d_new rfl rfl rfl ⟨(), trivial⟩ ?hc (fun _ _ => ?_) | refine d_put rfl rfl rfl trivial ?hc ?_); (case hc => (first | ((try simp only [needIf]); (try simp only [need]); (try simp only [imp]); done) | ((try simp only [needIf]); (try simp only [need]); (try simp only [imp]); (try simp only [cutOff]); (repeat' apply And.intro) <;> (first | trivial | rfl | omega | (simp; done) | (simp; omega) | (intros; rfl) | (intros; trivial) | (exact Nat.le_trans (Nat.mul_le_mul_right _ (show _ ≤ 100000000001 by omega)) (by decide)) | (intro hg_; first | exact hg_ | ((try simp only [decide_eq_true_eq] at hg_); (try rw [wi64 (by omega) (by omega)]); (repeat' apply And.intro) <;> (first | trivial | rfl | omega | (intros; rfl) | (intros; trivial))))))))))
      refine s_cond (b := true) rfl (fun _ => ?_) (fun h1 => by cases h1)
      repeat (first
        | refine s_seq ?_
        | refine s_region ?_
        | refine o_val rfl rfl trivial trivial ?_
        | refine o_new rfl rfl rfl ⟨0, trivial⟩ trivial (fun _ _ => ?_)
        | refine o_new rfl rfl rfl ⟨(), trivial⟩ trivial (fun _ _ => ?_)
        | refine o_put rfl rfl rfl trivial trivial ?_
        | refine o_nil ?_
        | refine d_val rfl rfl trivial trivial ?_
        | refine d_new rfl rfl rfl ⟨0, trivial⟩ trivial (fun _ _ => ?_)
        | refine d_new rfl rfl rfl ⟨(), trivial⟩ trivial (fun _ _ => ?_)
        | refine d_put rfl rfl rfl trivial trivial ?_
        | refine d_nil ?_
        | refine s_skip ?_
        | refine s_block ?_
        | refine s_exit ?_
        | refine s_label ?_
        | ((first | refine o_val rfl rfl trivial ?hc ?_ | refine o_new rfl rfl rfl ⟨0, trivial⟩ ?hc (fun _ _ => ?_) | refine o_new rfl rfl rfl ⟨(none, _), Nat.le_refl _⟩ ?hc (fun _ _ => ?_) | refine o_new rfl rfl rfl ⟨(), trivial⟩ ?hc (fun _ _ => ?_) | refine o_put rfl rfl rfl trivial ?hc ?_ | refine d_val rfl rfl trivial ?hc ?_ | refine d_new rfl rfl rfl ⟨0, trivial⟩ ?hc (fun _ _ => ?_) | refine d_new rfl rfl rfl ⟨(none, _), Nat.le_refl _⟩ ?hc (fun _ _ => ?_) | refine d_new rfl rfl rfl ⟨(), trivial⟩ ?hc (fun _ _ => ?_) | refine d_put rfl rfl rfl trivial ?hc ?_); (case hc => (first | ((try simp only [needIf]); (try simp only [need]); (try simp only [imp]); done) | ((try simp only [needIf]); (try simp only [need]); (try simp only [imp]); (try simp only [cutOff]); (repeat' apply And.intro) <;> (first | trivial | rfl | omega | (simp; done) | (simp; omega) | (intros; rfl) | (intros; trivial) | (exact Nat.le_trans (Nat.mul_le_mul_right _ (show _ ≤ 100000000001 by omega)) (by decide)) | (intro hg_; first | exact hg_ | ((try simp only [decide_eq_true_eq] at hg_); (try rw [wi64 (by omega) (by omega)]); (repeat' apply And.intro) <;> (first | trivial | rfl | omega | (intros; rfl) | (intros; trivial))))))))))
      refine s_cond (b := false) rfl (fun h1 => by cases h1) (fun _ => ?_)
      repeat (first
        | refine s_seq ?_
        | refine s_region ?_
        | refine o_val rfl rfl trivial trivial ?_
        | refine o_new rfl rfl rfl ⟨0, trivial⟩ trivial (fun _ _ => ?_)
        | refine o_new rfl rfl rfl ⟨(), trivial⟩ trivial (fun _ _ => ?_)
        | refine o_put rfl rfl rfl trivial trivial ?_
        | refine o_nil ?_
        | refine d_val rfl rfl trivial trivial ?_
        | refine d_new rfl rfl rfl ⟨0, trivial⟩ trivial (fun _ _ => ?_)
        | refine d_new rfl rfl rfl ⟨(), trivial⟩ trivial (fun _ _ => ?_)
        | refine d_put rfl rfl rfl trivial trivial ?_
        | refine d_nil ?_
        | refine s_skip ?_
        | refine s_block ?_
        | refine s_exit ?_
        | refine s_label ?_
        | ((first | refine o_val rfl rfl trivial ?hc ?_ | refine o_new rfl rfl rfl ⟨0, trivial⟩ ?hc (fun _ _ => ?_) | refine o_new rfl rfl rfl ⟨(none, _), Nat.le_refl _⟩ ?hc (fun _ _ => ?_) | refine o_new rfl rfl rfl ⟨(), trivial⟩ ?hc (fun _ _ => ?_) | refine o_put rfl rfl rfl trivial ?hc ?_ | refine d_val rfl rfl trivial ?hc ?_ | refine d_new rfl rfl rfl ⟨0, trivial⟩ ?hc (fun _ _ => ?_) | refine d_new rfl rfl rfl ⟨(none, _), Nat.le_refl _⟩ ?hc (fun _ _ => ?_) | refine d_new rfl rfl rfl ⟨(), trivial⟩ ?hc (fun _ _ => ?_) | refine d_put rfl rfl rfl trivial ?hc ?_); (case hc => (first | ((try simp only [needIf]); (try simp only [need]); (try simp only [imp]); done) | ((try simp only [needIf]); (try simp only [need]); (try simp only [imp]); (try simp only [cutOff]); (repeat' apply And.intro) <;> (first | trivial | rfl | omega | (simp; done) | (simp; omega) | (intros; rfl) | (intros; trivial) | (exact Nat.le_trans (Nat.mul_le_mul_right _ (show _ ≤ 100000000001 by omega)) (by decide)) | (intro hg_; first | exact hg_ | ((try simp only [decide_eq_true_eq] at hg_); (try rw [wi64 (by omega) (by omega)]); (repeat' apply And.intro) <;> (first | trivial | rfl | omega | (intros; rfl) | (intros; trivial))))))))))
      refine s_cond (b := false) rfl (fun h1 => by cases h1) (fun _ => ?_)
      repeat (first
        | refine s_seq ?_
        | refine s_region ?_
        | refine o_val rfl rfl trivial trivial ?_
        | refine o_new rfl rfl rfl ⟨0, trivial⟩ trivial (fun _ _ => ?_)
        | refine o_new rfl rfl rfl ⟨(), trivial⟩ trivial (fun _ _ => ?_)
        | refine o_put rfl rfl rfl trivial trivial ?_
        | refine o_nil ?_
        | refine d_val rfl rfl trivial trivial ?_
        | refine d_new rfl rfl rfl ⟨0, trivial⟩ trivial (fun _ _ => ?_)
        | refine d_new rfl rfl rfl ⟨(), trivial⟩ trivial (fun _ _ => ?_)
        | refine d_put rfl rfl rfl trivial trivial ?_
        | refine d_nil ?_
        | refine s_skip ?_
        | refine s_block ?_
        | refine s_exit ?_
        | refine s_label ?_
        | ((first | refine o_val rfl rfl trivial ?hc ?_ | refine o_new rfl rfl rfl ⟨0, trivial⟩ ?hc (fun _ _ => ?_) | refine o_new rfl rfl rfl ⟨(none, _), Nat.le_refl _⟩ ?hc (fun _ _ => ?_) | refine o_new rfl rfl rfl ⟨(), trivial⟩ ?hc (fun _ _ => ?_) | refine o_put rfl rfl rfl trivial ?hc ?_ | refine d_val rfl rfl trivial ?hc ?_ | refine d_new rfl rfl rfl ⟨0, trivial⟩ ?hc (fun _ _ => ?_) | refine d_new rfl rfl rfl ⟨(none, _), Nat.le_refl _⟩ ?hc (fun _ _ => ?_) | refine d_new rfl rfl rfl ⟨(), trivial⟩ ?hc (fun _ _ => ?_) | refine d_put rfl rfl rfl trivial ?hc ?_); (case hc => (first | ((try simp only [needIf]); (try simp only [need]); (try simp only [imp]); done) | ((try simp only [needIf]); (try simp only [need]); (try simp only [imp]); (try simp only [cutOff]); (repeat' apply And.intro) <;> (first | trivial | rfl | omega | (simp; done) | (simp; omega) | (intros; rfl) | (intros; trivial) | (exact Nat.le_trans (Nat.mul_le_mul_right _ (show _ ≤ 100000000001 by omega)) (by decide)) | (intro hg_; first | exact hg_ | ((try simp only [decide_eq_true_eq] at hg_); (try rw [wi64 (by omega) (by omega)]); (repeat' apply And.intro) <;> (first | trivial | rfl | omega | (intros; rfl) | (intros; trivial))))))))))
      refine ⟨2, by decide, by decide, ?_⟩
      (refine Le.of ?leT ?leM rfl; (case leT => repeat (first | exact trivial | refine And.intro (by first | exact rfl | (show some (none, AV.v (.int .i64 (IntKind.i64.wrap _))) = _; rw [wi64 (by omega) (by omega)]; rfl)) ?_)); (case leM => repeat (first | exact trivial | refine And.intro ⟨_, rfl, Blk.le_refl _⟩ ?_)))
    · repeat (first
        | refine s_seq ?_
        | refine s_region ?_
        | refine o_val rfl rfl trivial trivial ?_
        | refine o_new rfl rfl rfl ⟨0, trivial⟩ trivial (fun _ _ => ?_)
        | refine o_new rfl rfl rfl ⟨(), trivial⟩ trivial (fun _ _ => ?_)
        | refine o_put rfl rfl rfl trivial trivial ?_
        | refine o_nil ?_
        | refine d_val rfl rfl trivial trivial ?_
        | refine d_new rfl rfl rfl ⟨0, trivial⟩ trivial (fun _ _ => ?_)
        | refine d_new rfl rfl rfl ⟨(), trivial⟩ trivial (fun _ _ => ?_)
        | refine d_put rfl rfl rfl trivial trivial ?_
        | refine d_nil ?_
        | refine s_skip ?_
        | refine s_block ?_
        | refine s_exit ?_
        | refine s_label ?_
        | ((first | refine o_val rfl rfl trivial ?hc ?_ | refine o_new rfl rfl rfl ⟨0, trivial⟩ ?hc (fun _ _ => ?_) | refine o_new rfl rfl rfl ⟨(none, _), Nat.le_refl _⟩ ?hc (fun _ _ => ?_) | refine o_new rfl rfl rfl ⟨(), trivial⟩ ?hc (fun _ _ => ?_) | refine o_put rfl rfl rfl trivial ?hc ?_ | refine d_val rfl rfl trivial ?hc ?_ | refine d_new rfl rfl rfl ⟨0, trivial⟩ ?hc (fun _ _ => ?_) | refine d_new rfl rfl rfl ⟨(none, _), Nat.le_refl _⟩ ?hc (fun _ _ => ?_) | refine d_new rfl rfl rfl ⟨(), trivial⟩ ?hc (fun _ _ => ?_) | refine d_put rfl rfl rfl trivial ?hc ?_); (case hc => (first | ((try simp only [needIf]); (try simp only [need]); (try simp only [imp]); done) | ((try simp only [needIf]); (try simp only [need]); (try simp only [imp]); (try simp only [cutOff]); (repeat' apply And.intro) <;> (first | trivial | rfl | omega | (simp; done) | (simp; omega) | (intros; rfl) | (intros; trivial) | (exact Nat.le_trans (Nat.mul_le_mul_right _ (show _ ≤ 100000000001 by omega)) (by decide)) | (intro hg_; first | exact hg_ | ((try simp only [decide_eq_true_eq] at hg_); (try rw [wi64 (by omega) (by omega)]); (repeat' apply And.intro) <;> (first | trivial | rfl | omega | (intros; rfl) | (intros; trivial))))))))))
      refine s_cond (b := false) rfl (fun h1 => by cases h1) (fun _ => ?_)
      repeat (first
        | refine s_seq ?_
        | refine s_region ?_
        | refine o_val rfl rfl trivial trivial ?_
        | refine o_new rfl rfl rfl ⟨0, trivial⟩ trivial (fun _ _ => ?_)
        | refine o_new rfl rfl rfl ⟨(), trivial⟩ trivial (fun _ _ => ?_)
        | refine o_put rfl rfl rfl trivial trivial ?_
        | refine o_nil ?_
        | refine d_val rfl rfl trivial trivial ?_
        | refine d_new rfl rfl rfl ⟨0, trivial⟩ trivial (fun _ _ => ?_)
        | refine d_new rfl rfl rfl ⟨(), trivial⟩ trivial (fun _ _ => ?_)
        | refine d_put rfl rfl rfl trivial trivial ?_
        | refine d_nil ?_
        | refine s_skip ?_
        | refine s_block ?_
        | refine s_exit ?_
        | refine s_label ?_
        | ((first | refine o_val rfl rfl trivial ?hc ?_ | refine o_new rfl rfl rfl ⟨0, trivial⟩ ?hc (fun _ _ => ?_) | refine o_new rfl rfl rfl ⟨(none, _), Nat.le_refl _⟩ ?hc (fun _ _ => ?_) | refine o_new rfl rfl rfl ⟨(), trivial⟩ ?hc (fun _ _ => ?_) | refine o_put rfl rfl rfl trivial ?hc ?_ | refine d_val rfl rfl trivial ?hc ?_ | refine d_new rfl rfl rfl ⟨0, trivial⟩ ?hc (fun _ _ => ?_) | refine d_new rfl rfl rfl ⟨(none, _), Nat.le_refl _⟩ ?hc (fun _ _ => ?_) | refine d_new rfl rfl rfl ⟨(), trivial⟩ ?hc (fun _ _ => ?_) | refine d_put rfl rfl rfl trivial ?hc ?_); (case hc => (first | ((try simp only [needIf]); (try simp only [need]); (try simp only [imp]); done) | ((try simp only [needIf]); (try simp only [need]); (try simp only [imp]); (try simp only [cutOff]); (repeat' apply And.intro) <;> (first | trivial | rfl | omega | (simp; done) | (simp; omega) | (intros; rfl) | (intros; trivial) | (exact Nat.le_trans (Nat.mul_le_mul_right _ (show _ ≤ 100000000001 by omega)) (by decide)) | (intro hg_; first | exact hg_ | ((try simp only [decide_eq_true_eq] at hg_); (try rw [wi64 (by omega) (by omega)]); (repeat' apply And.intro) <;> (first | trivial | rfl | omega | (intros; rfl) | (intros; trivial))))))))))
      refine s_ret ?_
      exact ⟨_, _, rfl, ⟨trivial, trivial⟩, rfl, rfl⟩
end Go.Proofs.Ytaohdlepocajcaa.V
