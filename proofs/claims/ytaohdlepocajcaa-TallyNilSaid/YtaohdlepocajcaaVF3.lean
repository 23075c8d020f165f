import Derived.Test.YtaohdlepocajcaaVF2
/-! A tally that is none: nil, or one that New did not make. -/
namespace Go.Proofs.Ytaohdlepocajcaa.V
open Go Go.RowKit

structure Vote where
  kind : Int
  height : Int
  round : Int
  id : List Int
  time : Int
  from_ : Int
  sig : List Int
def encV (x : Vote) : AV := .agg (.cons (.v (.int .i64 x.kind)) (.cons (.v (.int .u64 x.height)) (.cons (.v (.int .i64 x.round)) (.cons (.ints .u8 32 x.id) (.cons (.v (.int .u64 x.time)) (.cons (.v (.int .u64 x.from_)) (.cons (.ints .u8 16 x.sig) .nil)))))))
def decV : AV → Option Vote
  | .agg (.cons (.v (.int .i64 k)) (.cons (.v (.int .u64 h)) (.cons (.v (.int .i64 r)) (.cons (.ints .u8 32 i) (.cons (.v (.int .u64 t)) (.cons (.v (.int .u64 f)) (.cons (.ints .u8 16 s) .nil))))))) => some ⟨k, h, r, i, t, f, s⟩
  | _ => none
theorem decV_enc {a : AV} {x : Vote} (h : decV a = some x) : a = encV x := by
  unfold decV at h
  split at h
  · cases h; rfl
  · cases h

/-- a tally that New did not make -/
def deadT : AV := row67.zero
def deadOf (M : MemF) : AV → Option Prop
  | .v (.pointer none) => some True
  | .ptr p => match ptrOf M p true 7 with
    | some (c, .agg (.cons (.v (.int .u64 0)) (.cons (.agg (.cons (.v (.slice none 0 0)) .nil)) (.cons (.v (.int .u64 0)) (.cons (.v (.int .u64 0)) (.cons (.v (.int .i64 0)) (.cons (.v (.map none)) (.cons (.v (.map none)) .nil)))))))) => some c
    | _ => none
  | _ => none
theorem dead_cases {O : Nat → Prop} {w0 w : World} {M : MemF} (hS : Sat O w0 M w) {x : AV} {c : Prop} (h : deadOf M x = some c) (hc : c) :
    x = .v (.pointer none) ∨ ∃ b o, x.val = (roP 901 b o 7).val ∧ (roB (some (b, o)) 7 1 fun _ => deadT).holds w := by
  unfold deadOf at h
  split at h
  · exact .inl rfl
  · rename_i p
    split at h
    · rename_i c' hp
      cases h
      exact .inr ⟨p.b, p.cell, by rw [roP_val, ptr_val], roB_holds fun _ => ⟨p.b, p.cell, rfl, ptrOf_spec hS hp hc⟩⟩
    · cases h
  · cases h
def ct0 : CtL := []
set_option maxRecDepth 100000 in
theorem ct0_ok : CtLOk Try.prog ct0 := trivial

def noneC (args : List AV) (M : MemF) : Option (Prop × AV) := match args with
  | [t] => match deadOf M t with
    | some c => some (c, .v (.bool true))
    | none => none
  | _ => none
set_option maxRecDepth 100000 in
theorem none_read : ReadFn Try.prog 33 noneC := by
  intro args M q res h hq O w0 w hS
  unfold noneC at h
  split at h
  · rename_i t
    split at h
    · rename_i c hd
      cases h
      rcases dead_cases hS hd hq with rfl | ⟨b, o, hv, hro⟩
      · refine ro_fn tabs ct0_ok (cr := []) trivial Try.func33 rfl rfl (M := []) rfl trivial trivial ?_
        repeat (first
          | refine s_seq ?_
          | refine s_region ?_
          | refine o_val rfl rfl trivial trivial ?_
          | refine o_new rfl rfl rfl ⟨0, trivial⟩ trivial (fun _ _ => ?_)
          | refine o_new rfl rfl rfl ⟨(), trivial⟩ trivial (fun _ _ => ?_)
          | refine o_put rfl rfl rfl trivial trivial ?_
          | refine o_nil ?_
          | refine d_val rfl rfl trivial trivial ?_
          | refine d_new rfl rfl rfl ⟨0, trivial⟩ trivial (fun _ _ => ?_)
          | refine d_new rfl rfl rfl ⟨(), trivial⟩ trivial (fun _ _ => ?_)
          | refine d_put rfl rfl rfl trivial trivial ?_
          | refine d_nil ?_
          | refine s_skip ?_
          | refine s_block ?_
          | refine s_exit ?_
          | refine s_label ?_
          | ((first | refine o_val rfl rfl trivial ?hc ?_ | refine o_new rfl rfl rfl ⟨0, trivial⟩ ?hc (fun _ _ => ?_) | refine o_new rfl rfl rfl ⟨(none, _), Nat.le_refl _⟩ ?hc (fun _ _ => ?_) | refine o_new rfl rfl rfl ⟨(), trivial⟩ ?hc (fun _ _ => ?_) | refine o_put rfl rfl rfl trivial ?hc ?_ | refine d_val rfl rfl trivial ?hc ?_ | refine d_new rfl rfl rfl ⟨0, trivial⟩ ?hc (fun _ _ => ?_) | refine d_new rfl rfl rfl ⟨(none, _), Nat.le_refl _⟩ ?hc (fun _ _ => ?_) | refine d_new rfl rfl rfl ⟨(), trivial⟩ ?hc (fun _ _ => ?_) | refine d_put rfl rfl rfl trivial ?hc ?_); (case hc => (first | ((try simp only [needIf]); (try simp only [need]); (try simp only [imp]); done) | ((try simp only [needIf]); (try simp only [need]); (try simp only [imp]); (try simp only [cutOff]); (repeat' apply And.intro) <;> (first | trivial | rfl | omega | (simp; done) | (simp; omega) | (intros; rfl) | (intros; trivial) | (exact Nat.le_trans (Nat.mul_le_mul_right _ (show _ ≤ 100000000001 by omega)) (by decide)) | (intro hg_; first | exact hg_ | ((try simp only [decide_eq_true_eq] at hg_); (try rw [wi64 (by omega) (by omega)]); (repeat' apply And.intro) <;> (first | trivial | rfl | omega | (intros; rfl) | (intros; trivial))))))))))
        refine s_ret ?_
        exact ⟨_, _, rfl, ⟨trivial, trivial⟩, rfl, rfl⟩
      · rw [show [t].map AV.val = [roP 901 b o 7].map AV.val by simp only [List.map_cons, List.map_nil, hv]]
        refine ro_fn tabs ct0_ok (cr := []) trivial Try.func33 rfl rfl (M := [(901, roB (some (b, o)) 7 1 fun _ => deadT)]) rfl ⟨roB_noOwn, trivial⟩ ⟨hro, trivial⟩ ?_
        repeat (first
          | refine s_seq ?_
          | refine s_region ?_
          | refine o_val rfl rfl trivial trivial ?_
          | refine o_new rfl rfl rfl ⟨0, trivial⟩ trivial (fun _ _ => ?_)
          | refine o_new rfl rfl rfl ⟨(), trivial⟩ trivial (fun _ _ => ?_)
          | refine o_put rfl rfl rfl trivial trivial ?_
          | refine o_nil ?_
          | refine d_val rfl rfl trivial trivial ?_
          | refine d_new rfl rfl rfl ⟨0, trivial⟩ trivial (fun _ _ => ?_)
          | refine d_new rfl rfl rfl ⟨(), trivial⟩ trivial (fun _ _ => ?_)
          | refine d_put rfl rfl rfl trivial trivial ?_
          | refine d_nil ?_
          | refine s_skip ?_
          | refine s_block ?_
          | refine s_exit ?_
          | refine s_label ?_
          | ((first | refine o_val rfl rfl trivial ?hc ?_ | refine o_new rfl rfl rfl ⟨0, trivial⟩ ?hc (fun _ _ => ?_) | refine o_new rfl rfl rfl ⟨(none, _), Nat.le_refl _⟩ ?hc (fun _ _ => ?_) | refine o_new rfl rfl rfl ⟨(), trivial⟩ ?hc (fun _ _ => ?_) | refine o_put rfl rfl rfl trivial ?hc ?_ | refine d_val rfl rfl trivial ?hc ?_ | refine d_new rfl rfl rfl ⟨0, trivial⟩ ?hc (fun _ _ => ?_) | refine d_new rfl rfl rfl ⟨(none, _), Nat.le_refl _⟩ ?hc (fun _ _ => ?_) | refine d_new rfl rfl rfl ⟨(), trivial⟩ ?hc (fun _ _ => ?_) | refine d_put rfl rfl rfl trivial ?hc ?_); (case hc => (first | ((try simp only [needIf]); (try simp only [need]); (try simp only [imp]); done) | ((try simp only [needIf]); (try simp only [need]); (try simp only [imp]); (try simp only [cutOff]); (repeat' apply And.intro) <;> (first | trivial | rfl | omega | (simp; done) | (simp; omega) | (intros; rfl) | (intros; trivial) | (exact Nat.le_trans (Nat.mul_le_mul_right _ (show _ ≤ 100000000001 by omega)) (by decide)) | (intro hg_; first | exact hg_ | ((try simp only [decide_eq_true_eq] at hg_); (try rw [wi64 (by omega) (by omega)]); (repeat' apply And.intro) <;> (first | trivial | rfl | omega | (intros; rfl) | (intros; trivial))))))))))
        refine s_ret ?_
        exact ⟨_, _, rfl, ⟨trivial, trivial⟩, rfl, rfl⟩
    · cases h
  · cases h
set_option maxRecDepth 100000 in
theorem none_body : HasBody Try.prog 33 := ⟨_, Try.func33, rfl, by decide⟩
def ctN : CtL := [(33, noneC)]
set_option maxRecDepth 100000 in
theorem ctN_ok : CtLOk Try.prog ctN := ⟨.fn none_body none_read, trivial⟩

def roundNC (args : List AV) (M : MemF) : Option (Prop × AV) := match args with
  | [t] => match deadOf M t with
    | some c => some (c, .v (.int .i64 0))
    | none => none
  | _ => none
set_option maxRecDepth 100000 in
theorem roundN_read : ReadFn Try.prog 22 roundNC := by
  intro args M q res h hq O w0 w hS
  unfold roundNC at h
  split at h
  · rename_i t
    split at h
    · rename_i c hd
      cases h
      rcases dead_cases hS hd hq with rfl | ⟨b, o, hv, hro⟩
      · refine ro_fn tabs ctN_ok (cr := []) trivial Try.func22 rfl rfl (M := []) rfl trivial trivial ?_
        repeat (first
          | refine s_seq ?_
          | refine s_region ?_
          | refine o_val rfl rfl trivial trivial ?_
          | refine o_new rfl rfl rfl ⟨0, trivial⟩ trivial (fun _ _ => ?_)
          | refine o_new rfl rfl rfl ⟨(), trivial⟩ trivial (fun _ _ => ?_)
          | refine o_put rfl rfl rfl trivial trivial ?_
          | refine o_nil ?_
          | refine d_val rfl rfl trivial trivial ?_
          | refine d_new rfl rfl rfl ⟨0, trivial⟩ trivial (fun _ _ => ?_)
          | refine d_new rfl rfl rfl ⟨(), trivial⟩ trivial (fun _ _ => ?_)
          | refine d_put rfl rfl rfl trivial trivial ?_
          | refine d_nil ?_
          | refine s_skip ?_
          | refine s_block ?_
          | refine s_exit ?_
          | refine s_label ?_
          | ((first | refine o_val rfl rfl trivial ?hc ?_ | refine o_new rfl rfl rfl ⟨0, trivial⟩ ?hc (fun _ _ => ?_) | refine o_new rfl rfl rfl ⟨(none, _), Nat.le_refl _⟩ ?hc (fun _ _ => ?_) | refine o_new rfl rfl rfl ⟨(), trivial⟩ ?hc (fun _ _ => ?_) | refine o_put rfl rfl rfl trivial ?hc ?_ | refine d_val rfl rfl trivial ?hc ?_ | refine d_new rfl rfl rfl ⟨0, trivial⟩ ?hc (fun _ _ => ?_) | refine d_new rfl rfl rfl ⟨(none, _), Nat.le_refl _⟩ ?hc (fun _ _ => ?_) | refine d_new rfl rfl rfl ⟨(), trivial⟩ ?hc (fun _ _ => ?_) | refine d_put rfl rfl rfl trivial ?hc ?_); (case hc => (first | ((try simp only [needIf]); (try simp only [need]); (try simp only [imp]); done) | ((try simp only [needIf]); (try simp only [need]); (try simp only [imp]); (try simp only [cutOff]); (repeat' apply And.intro) <;> (first | trivial | rfl | omega | (simp; done) | (simp; omega) | (intros; rfl) | (intros; trivial) | (exact Nat.le_trans (Nat.mul_le_mul_right _ (show _ ≤ 100000000001 by omega)) (by decide)) | (intro hg_; first | exact hg_ | ((try simp only [decide_eq_true_eq] at hg_); (try rw [wi64 (by omega) (by omega)]); (repeat' apply And.intro) <;> (first | trivial | rfl | omega | (intros; rfl) | (intros; trivial))))))))))
        refine s_cond (b := true) rfl (fun _ => ?_) (fun hh => by cases hh)
        repeat (first
          | refine s_seq ?_
          | refine s_region ?_
          | refine o_val rfl rfl trivial trivial ?_
          | refine o_new rfl rfl rfl ⟨0, trivial⟩ trivial (fun _ _ => ?_)
          | refine o_new rfl rfl rfl ⟨(), trivial⟩ trivial (fun _ _ => ?_)
          | refine o_put rfl rfl rfl trivial trivial ?_
          | refine o_nil ?_
          | refine d_val rfl rfl trivial trivial ?_
          | refine d_new rfl rfl rfl ⟨0, trivial⟩ trivial (fun _ _ => ?_)
          | refine d_new rfl rfl rfl ⟨(), trivial⟩ trivial (fun _ _ => ?_)
          | refine d_put rfl rfl rfl trivial trivial ?_
          | refine d_nil ?_
          | refine s_skip ?_
          | refine s_block ?_
          | refine s_exit ?_
          | refine s_label ?_
          | ((first | refine o_val rfl rfl trivial ?hc ?_ | refine o_new rfl rfl rfl ⟨0, trivial⟩ ?hc (fun _ _ => ?_) | refine o_new rfl rfl rfl ⟨(none, _), Nat.le_refl _⟩ ?hc (fun _ _ => ?_) | refine o_new rfl rfl rfl ⟨(), trivial⟩ ?hc (fun _ _ => ?_) | refine o_put rfl rfl rfl trivial ?hc ?_ | refine d_val rfl rfl trivial ?hc ?_ | refine d_new rfl rfl rfl ⟨0, trivial⟩ ?hc (fun _ _ => ?_) | refine d_new rfl rfl rfl ⟨(none, _), Nat.le_refl _⟩ ?hc (fun _ _ => ?_) | refine d_new rfl rfl rfl ⟨(), trivial⟩ ?hc (fun _ _ => ?_) | refine d_put rfl rfl rfl trivial ?hc ?_); (case hc => (first | ((try simp only [needIf]); (try simp only [need]); (try simp only [imp]); done) | ((try simp only [needIf]); (try simp only [need]); (try simp only [imp]); (try simp only [cutOff]); (repeat' apply And.intro) <;> (first | trivial | rfl | omega | (simp; done) | (simp; omega) | (intros; rfl) | (intros; trivial) | (exact Nat.le_trans (Nat.mul_le_mul_right _ (show _ ≤ 100000000001 by omega)) (by decide)) | (intro hg_; first | exact hg_ | ((try simp only [decide_eq_true_eq] at hg_); (try rw [wi64 (by omega) (by omega)]); (repeat' apply And.intro) <;> (first | trivial | rfl | omega | (intros; rfl) | (intros; trivial))))))))))
        refine s_ret ?_
        exact ⟨_, _, rfl, ⟨trivial, trivial⟩, rfl, rfl⟩
      · rw [show [t].map AV.val = [roP 901 b o 7].map AV.val by simp only [List.map_cons, List.map_nil, hv]]
        refine ro_fn tabs ctN_ok (cr := []) trivial Try.func22 rfl rfl (M := [(901, roB (some (b, o)) 7 1 fun _ => deadT)]) rfl ⟨roB_noOwn, trivial⟩ ⟨hro, trivial⟩ ?_
        repeat (first
          | refine s_seq ?_
          | refine s_region ?_
          | refine o_val rfl rfl trivial trivial ?_
          | refine o_new rfl rfl rfl ⟨0, trivial⟩ trivial (fun _ _ => ?_)
          | refine o_new rfl rfl rfl ⟨(), trivial⟩ trivial (fun _ _ => ?_)
          | refine o_put rfl rfl rfl trivial trivial ?_
          | refine o_nil ?_
          | refine d_val rfl rfl trivial trivial ?_
          | refine d_new rfl rfl rfl ⟨0, trivial⟩ trivial (fun _ _ => ?_)
          | refine d_new rfl rfl rfl ⟨(), trivial⟩ trivial (fun _ _ => ?_)
          | refine d_put rfl rfl rfl trivial trivial ?_
          | refine d_nil ?_
          | refine s_skip ?_
          | refine s_block ?_
          | refine s_exit ?_
          | refine s_label ?_
          | ((first | refine o_val rfl rfl trivial ?hc ?_ | refine o_new rfl rfl rfl ⟨0, trivial⟩ ?hc (fun _ _ => ?_) | refine o_new rfl rfl rfl ⟨(none, _), Nat.le_refl _⟩ ?hc (fun _ _ => ?_) | refine o_new rfl rfl rfl ⟨(), trivial⟩ ?hc (fun _ _ => ?_) | refine o_put rfl rfl rfl trivial ?hc ?_ | refine d_val rfl rfl trivial ?hc ?_ | refine d_new rfl rfl rfl ⟨0, trivial⟩ ?hc (fun _ _ => ?_) | refine d_new rfl rfl rfl ⟨(none, _), Nat.le_refl _⟩ ?hc (fun _ _ => ?_) | refine d_new rfl rfl rfl ⟨(), trivial⟩ ?hc (fun _ _ => ?_) | refine d_put rfl rfl rfl trivial ?hc ?_); (case hc => (first | ((try simp only [needIf]); (try simp only [need]); (try simp only [imp]); done) | ((try simp only [needIf]); (try simp only [need]); (try simp only [imp]); (try simp only [cutOff]); (repeat' apply And.intro) <;> (first | trivial | rfl | omega | (simp; done) | (simp; omega) | (intros; rfl) | (intros; trivial) | (exact Nat.le_trans (Nat.mul_le_mul_right _ (show _ ≤ 100000000001 by omega)) (by decide)) | (intro hg_; first | exact hg_ | ((try simp only [decide_eq_true_eq] at hg_); (try rw [wi64 (by omega) (by omega)]); (repeat' apply And.intro) <;> (first | trivial | rfl | omega | (intros; rfl) | (intros; trivial))))))))))
        refine s_cond (b := true) rfl (fun _ => ?_) (fun hh => by cases hh)
        repeat (first
          | refine s_seq ?_
          | refine s_region ?_
          | refine o_val rfl rfl trivial trivial ?_
          | refine o_new rfl rfl rfl ⟨0, trivial⟩ trivial (fun _ _ => ?_)
          | refine o_new rfl rfl rfl ⟨(), trivial⟩ trivial (fun _ _ => ?_)
          | refine o_put rfl rfl rfl trivial trivial ?_
          | refine o_nil ?_
          | refine d_val rfl rfl trivial trivial ?_
          | refine d_new rfl rfl rfl ⟨0, trivial⟩ trivial (fun _ _ => ?_)
          | refine d_new rfl rfl rfl ⟨(), trivial⟩ trivial (fun _ _ => ?_)
          | refine d_put rfl rfl rfl trivial trivial ?_
          | refine d_nil ?_
          | refine s_skip ?_
          | refine s_block ?_
          | refine s_exit ?_
          | refine s_label ?_
          | ((first | refine o_val rfl rfl trivial ?hc ?_ | refine o_new rfl rfl rfl ⟨0, trivial⟩ ?hc (fun _ _ => ?_) | refine o_new rfl rfl rfl ⟨(none, _), Nat.le_refl _⟩ ?hc (fun _ _ => ?_) | refine o_new rfl rfl rfl ⟨(), trivial⟩ ?hc (fun _ _ => ?_) | refine o_put rfl rfl rfl trivial ?hc ?_ | refine d_val rfl rfl trivial ?hc ?_ | refine d_new rfl rfl rfl ⟨0, trivial⟩ ?hc (fun _ _ => ?_) | refine d_new rfl rfl rfl ⟨(none, _), Nat.le_refl _⟩ ?hc (fun _ _ => ?_) | refine d_new rfl rfl rfl ⟨(), trivial⟩ ?hc (fun _ _ => ?_) | refine d_put rfl rfl rfl trivial ?hc ?_); (case hc => (first | ((try simp only [needIf]); (try simp only [need]); (try simp only [imp]); done) | ((try simp only [needIf]); (try simp only [need]); (try simp only [imp]); (try simp only [cutOff]); (repeat' apply And.intro) <;> (first | trivial | rfl | omega | (simp; done) | (simp; omega) | (intros; rfl) | (intros; trivial) | (exact Nat.le_trans (Nat.mul_le_mul_right _ (show _ ≤ 100000000001 by omega)) (by decide)) | (intro hg_; first | exact hg_ | ((try simp only [decide_eq_true_eq] at hg_); (try rw [wi64 (by omega) (by omega)]); (repeat' apply And.intro) <;> (first | trivial | rfl | omega | (intros; rfl) | (intros; trivial))))))))))
        refine s_ret ?_
        exact ⟨_, _, rfl, ⟨trivial, trivial⟩, rfl, rfl⟩
    · cases h
  · cases h
set_option maxRecDepth 100000 in
theorem roundN_body : HasBody Try.prog 22 := ⟨_, Try.func22, rfl, by decide⟩

def heldNC (args : List AV) (M : MemF) : Option (Prop × AV) := match args with
  | [t] => match deadOf M t with
    | some c => some (c, .v (.slice none 0 0))
    | none => none
  | _ => none
set_option maxRecDepth 100000 in
theorem heldN_read : ReadFn Try.prog 13 heldNC := by
  intro args M q res h hq O w0 w hS
  unfold heldNC at h
  split at h
  · rename_i t
    split at h
    · rename_i c hd
      cases h
      rcases dead_cases hS hd hq with rfl | ⟨b, o, hv, hro⟩
      · refine ro_fn tabs ctN_ok (cr := []) trivial Try.func13 rfl rfl (M := []) rfl trivial trivial ?_
        repeat (first
          | refine s_seq ?_
          | refine s_region ?_
          | refine o_val rfl rfl trivial trivial ?_
          | refine o_new rfl rfl rfl ⟨0, trivial⟩ trivial (fun _ _ => ?_)
          | refine o_new rfl rfl rfl ⟨(), trivial⟩ trivial (fun _ _ => ?_)
          | refine o_put rfl rfl rfl trivial trivial ?_
          | refine o_nil ?_
          | refine d_val rfl rfl trivial trivial ?_
          | refine d_new rfl rfl rfl ⟨0, trivial⟩ trivial (fun _ _ => ?_)
          | refine d_new rfl rfl rfl ⟨(), trivial⟩ trivial (fun _ _ => ?_)
          | refine d_put rfl rfl rfl trivial trivial ?_
          | refine d_nil ?_
          | refine s_skip ?_
          | refine s_block ?_
          | refine s_exit ?_
          | refine s_label ?_
          | ((first | refine o_val rfl rfl trivial ?hc ?_ | refine o_new rfl rfl rfl ⟨0, trivial⟩ ?hc (fun _ _ => ?_) | refine o_new rfl rfl rfl ⟨(none, _), Nat.le_refl _⟩ ?hc (fun _ _ => ?_) | refine o_new rfl rfl rfl ⟨(), trivial⟩ ?hc (fun _ _ => ?_) | refine o_put rfl rfl rfl trivial ?hc ?_ | refine d_val rfl rfl trivial ?hc ?_ | refine d_new rfl rfl rfl ⟨0, trivial⟩ ?hc (fun _ _ => ?_) | refine d_new rfl rfl rfl ⟨(none, _), Nat.le_refl _⟩ ?hc (fun _ _ => ?_) | refine d_new rfl rfl rfl ⟨(), trivial⟩ ?hc (fun _ _ => ?_) | refine d_put rfl rfl rfl trivial ?hc ?_); (case hc => (first | ((try simp only [needIf]); (try simp only [need]); (try simp only [imp]); done) | ((try simp only [needIf]); (try simp only [need]); (try simp only [imp]); (try simp only [cutOff]); (repeat' apply And.intro) <;> (first | trivial | rfl | omega | (simp; done) | (simp; omega) | (intros; rfl) | (intros; trivial) | (exact Nat.le_trans (Nat.mul_le_mul_right _ (show _ ≤ 100000000001 by omega)) (by decide)) | (intro hg_; first | exact hg_ | ((try simp only [decide_eq_true_eq] at hg_); (try rw [wi64 (by omega) (by omega)]); (repeat' apply And.intro) <;> (first | trivial | rfl | omega | (intros; rfl) | (intros; trivial))))))))))
        refine s_cond (b := true) rfl (fun _ => ?_) (fun hh => by cases hh)
        repeat (first
          | refine s_seq ?_
          | refine s_region ?_
          | refine o_val rfl rfl trivial trivial ?_
          | refine o_new rfl rfl rfl ⟨0, trivial⟩ trivial (fun _ _ => ?_)
          | refine o_new rfl rfl rfl ⟨(), trivial⟩ trivial (fun _ _ => ?_)
          | refine o_put rfl rfl rfl trivial trivial ?_
          | refine o_nil ?_
          | refine d_val rfl rfl trivial trivial ?_
          | refine d_new rfl rfl rfl ⟨0, trivial⟩ trivial (fun _ _ => ?_)
          | refine d_new rfl rfl rfl ⟨(), trivial⟩ trivial (fun _ _ => ?_)
          | refine d_put rfl rfl rfl trivial trivial ?_
          | refine d_nil ?_
          | refine s_skip ?_
          | refine s_block ?_
          | refine s_exit ?_
          | refine s_label ?_
          | ((first | refine o_val rfl rfl trivial ?hc ?_ | refine o_new rfl rfl rfl ⟨0, trivial⟩ ?hc (fun _ _ => ?_) | refine o_new rfl rfl rfl ⟨(none, _), Nat.le_refl _⟩ ?hc (fun _ _ => ?_) | refine o_new rfl rfl rfl ⟨(), trivial⟩ ?hc (fun _ _ => ?_) | refine o_put rfl rfl rfl trivial ?hc ?_ | refine d_val rfl rfl trivial ?hc ?_ | refine d_new rfl rfl rfl ⟨0, trivial⟩ ?hc (fun _ _ => ?_) | refine d_new rfl rfl rfl ⟨(none, _), Nat.le_refl _⟩ ?hc (fun _ _ => ?_) | refine d_new rfl rfl rfl ⟨(), trivial⟩ ?hc (fun _ _ => ?_) | refine d_put rfl rfl rfl trivial ?hc ?_); (case hc => (first | ((try simp only [needIf]); (try simp only [need]); (try simp only [imp]); done) | ((try simp only [needIf]); (try simp only [need]); (try simp only [imp]); (try simp only [cutOff]); (repeat' apply And.intro) <;> (first | trivial | rfl | omega | (simp; done) | (simp; omega) | (intros; rfl) | (intros; trivial) | (exact Nat.le_trans (Nat.mul_le_mul_right _ (show _ ≤ 100000000001 by omega)) (by decide)) | (intro hg_; first | exact hg_ | ((try simp only [decide_eq_true_eq] at hg_); (try rw [wi64 (by omega) (by omega)]); (repeat' apply And.intro) <;> (first | trivial | rfl | omega | (intros; rfl) | (intros; trivial))))))))))
        refine s_ret ?_
        exact ⟨_, _, rfl, ⟨trivial, trivial⟩, rfl, rfl⟩
      · rw [show [t].map AV.val = [roP 901 b o 7].map AV.val by simp only [List.map_cons, List.map_nil, hv]]
        refine ro_fn tabs ctN_ok (cr := []) trivial Try.func13 rfl rfl (M := [(901, roB (some (b, o)) 7 1 fun _ => deadT)]) rfl ⟨roB_noOwn, trivial⟩ ⟨hro, trivial⟩ ?_
        repeat (first
          | refine s_seq ?_
          | refine s_region ?_
          | refine o_val rfl rfl trivial trivial ?_
          | refine o_new rfl rfl rfl ⟨0, trivial⟩ trivial (fun _ _ => ?_)
          | refine o_new rfl rfl rfl ⟨(), trivial⟩ trivial (fun _ _ => ?_)
          | refine o_put rfl rfl rfl trivial trivial ?_
          | refine o_nil ?_
          | refine d_val rfl rfl trivial trivial ?_
          | refine d_new rfl rfl rfl ⟨0, trivial⟩ trivial (fun _ _ => ?_)
          | refine d_new rfl rfl rfl ⟨(), trivial⟩ trivial (fun _ _ => ?_)
          | refine d_put rfl rfl rfl trivial trivial ?_
          | refine d_nil ?_
          | refine s_skip ?_
          | refine s_block ?_
          | refine s_exit ?_
          | refine s_label ?_
          | ((first | refine o_val rfl rfl trivial ?hc ?_ | refine o_new rfl rfl rfl ⟨0, trivial⟩ ?hc (fun _ _ => ?_) | refine o_new rfl rfl rfl ⟨(none, _), Nat.le_refl _⟩ ?hc (fun _ _ => ?_) | refine o_new rfl rfl rfl ⟨(), trivial⟩ ?hc (fun _ _ => ?_) | refine o_put rfl rfl rfl trivial ?hc ?_ | refine d_val rfl rfl trivial ?hc ?_ | refine d_new rfl rfl rfl ⟨0, trivial⟩ ?hc (fun _ _ => ?_) | refine d_new rfl rfl rfl ⟨(none, _), Nat.le_refl _⟩ ?hc (fun _ _ => ?_) | refine d_new rfl rfl rfl ⟨(), trivial⟩ ?hc (fun _ _ => ?_) | refine d_put rfl rfl rfl trivial ?hc ?_); (case hc => (first | ((try simp only [needIf]); (try simp only [need]); (try simp only [imp]); done) | ((try simp only [needIf]); (try simp only [need]); (try simp only [imp]); (try simp only [cutOff]); (repeat' apply And.intro) <;> (first | trivial | rfl | omega | (simp; done) | (simp; omega) | (intros; rfl) | (intros; trivial) | (exact Nat.le_trans (Nat.mul_le_mul_right _ (show _ ≤ 100000000001 by omega)) (by decide)) | (intro hg_; first | exact hg_ | ((try simp only [decide_eq_true_eq] at hg_); (try rw [wi64 (by omega) (by omega)]); (repeat' apply And.intro) <;> (first | trivial | rfl | omega | (intros; rfl) | (intros; trivial))))))))))
        refine s_cond (b := true) rfl (fun _ => ?_) (fun hh => by cases hh)
        repeat (first
          | refine s_seq ?_
          | refine s_region ?_
          | refine o_val rfl rfl trivial trivial ?_
          | refine o_new rfl rfl rfl ⟨0, trivial⟩ trivial (fun _ _ => ?_)
          | refine o_new rfl rfl rfl ⟨(), trivial⟩ trivial (fun _ _ => ?_)
          | refine o_put rfl rfl rfl trivial trivial ?_
          | refine o_nil ?_
          | refine d_val rfl rfl trivial trivial ?_
          | refine d_new rfl rfl rfl ⟨0, trivial⟩ trivial (fun _ _ => ?_)
          | refine d_new rfl rfl rfl ⟨(), trivial⟩ trivial (fun _ _ => ?_)
          | refine d_put rfl rfl rfl trivial trivial ?_
          | refine d_nil ?_
          | refine s_skip ?_
          | refine s_block ?_
          | refine s_exit ?_
          | refine s_label ?_
          | ((first | refine o_val rfl rfl trivial ?hc ?_ | refine o_new rfl rfl rfl ⟨0, trivial⟩ ?hc (fun _ _ => ?_) | refine o_new rfl rfl rfl ⟨(none, _), Nat.le_refl _⟩ ?hc (fun _ _ => ?_) | refine o_new rfl rfl rfl ⟨(), trivial⟩ ?hc (fun _ _ => ?_) | refine o_put rfl rfl rfl trivial ?hc ?_ | refine d_val rfl rfl trivial ?hc ?_ | refine d_new rfl rfl rfl ⟨0, trivial⟩ ?hc (fun _ _ => ?_) | refine d_new rfl rfl rfl ⟨(none, _), Nat.le_refl _⟩ ?hc (fun _ _ => ?_) | refine d_new rfl rfl rfl ⟨(), trivial⟩ ?hc (fun _ _ => ?_) | refine d_put rfl rfl rfl trivial ?hc ?_); (case hc => (first | ((try simp only [needIf]); (try simp only [need]); (try simp only [imp]); done) | ((try simp only [needIf]); (try simp only [need]); (try simp only [imp]); (try simp only [cutOff]); (repeat' apply And.intro) <;> (first | trivial | rfl | omega | (simp; done) | (simp; omega) | (intros; rfl) | (intros; trivial) | (exact Nat.le_trans (Nat.mul_le_mul_right _ (show _ ≤ 100000000001 by omega)) (by decide)) | (intro hg_; first | exact hg_ | ((try simp only [decide_eq_true_eq] at hg_); (try rw [wi64 (by omega) (by omega)]); (repeat' apply And.intro) <;> (first | trivial | rfl | omega | (intros; rfl) | (intros; trivial))))))))))
        refine s_ret ?_
        exact ⟨_, _, rfl, ⟨trivial, trivial⟩, rfl, rfl⟩
    · cases h
  · cases h
set_option maxRecDepth 100000 in
theorem heldN_body : HasBody Try.prog 13 := ⟨_, Try.func13, rfl, by decide⟩

def thoseNC (args : List AV) (M : MemF) : Option (Prop × AV) := match args with
  | [t, .v (.int .i64 k), .v (.int .i64 r), .fn f cs] => match deadOf M t with
    | some c => some (c, .tup (.cons (.v (.slice none 0 0)) (.cons (.v (.int .u64 0)) .nil)))
    | none => none
  | _ => none
set_option maxRecDepth 100000 in
theorem thoseN_read : ReadFn Try.prog 45 thoseNC := by
  intro args M q res h hq O w0 w hS
  unfold thoseNC at h
  split at h
  · rename_i t k r f cs
    split at h
    · rename_i c hd
      cases h
      rcases dead_cases hS hd hq with rfl | ⟨b, o, hv, hro⟩
      · refine ro_fn tabs ctN_ok (cr := []) trivial Try.func45 rfl rfl (M := []) rfl trivial trivial ?_
        repeat (first
          | refine s_seq ?_
          | refine s_region ?_
          | refine o_val rfl rfl trivial trivial ?_
          | refine o_new rfl rfl rfl ⟨0, trivial⟩ trivial (fun _ _ => ?_)
          | refine o_new rfl rfl rfl ⟨(), trivial⟩ trivial (fun _ _ => ?_)
          | refine o_put rfl rfl rfl trivial trivial ?_
          | refine o_nil ?_
          | refine d_val rfl rfl trivial trivial ?_
          | refine d_new rfl rfl rfl ⟨0, trivial⟩ trivial (fun _ _ => ?_)
          | refine d_new rfl rfl rfl ⟨(), trivial⟩ trivial (fun _ _ => ?_)
          | refine d_put rfl rfl rfl trivial trivial ?_
          | refine d_nil ?_
          | refine s_skip ?_
          | refine s_block ?_
          | refine s_exit ?_
          | refine s_label ?_
          | ((first | refine o_val rfl rfl trivial ?hc ?_ | refine o_new rfl rfl rfl ⟨0, trivial⟩ ?hc (fun _ _ => ?_) | refine o_new rfl rfl rfl ⟨(none, _), Nat.le_refl _⟩ ?hc (fun _ _ => ?_) | refine o_new rfl rfl rfl ⟨(), trivial⟩ ?hc (fun _ _ => ?_) | refine o_put rfl rfl rfl trivial ?hc ?_ | refine d_val rfl rfl trivial ?hc ?_ | refine d_new rfl rfl rfl ⟨0, trivial⟩ ?hc (fun _ _ => ?_) | refine d_new rfl rfl rfl ⟨(none, _), Nat.le_refl _⟩ ?hc (fun _ _ => ?_) | refine d_new rfl rfl rfl ⟨(), trivial⟩ ?hc (fun _ _ => ?_) | refine d_put rfl rfl rfl trivial ?hc ?_); (case hc => (first | ((try simp only [needIf]); (try simp only [need]); (try simp only [imp]); done) | ((try simp only [needIf]); (try simp only [need]); (try simp only [imp]); (try simp only [cutOff]); (repeat' apply And.intro) <;> (first | trivial | rfl | omega | (simp; done) | (simp; omega) | (intros; rfl) | (intros; trivial) | (exact Nat.le_trans (Nat.mul_le_mul_right _ (show _ ≤ 100000000001 by omega)) (by decide)) | (intro hg_; first | exact hg_ | ((try simp only [decide_eq_true_eq] at hg_); (try rw [wi64 (by omega) (by omega)]); (repeat' apply And.intro) <;> (first | trivial | rfl | omega | (intros; rfl) | (intros; trivial))))))))))
        refine s_cond (b := true) rfl (fun _ => ?_) (fun hh => by cases hh)
        repeat (first
          | refine s_seq ?_
          | refine s_region ?_
          | refine o_val rfl rfl trivial trivial ?_
          | refine o_new rfl rfl rfl ⟨0, trivial⟩ trivial (fun _ _ => ?_)
          | refine o_new rfl rfl rfl ⟨(), trivial⟩ trivial (fun _ _ => ?_)
          | refine o_put rfl rfl rfl trivial trivial ?_
          | refine o_nil ?_
          | refine d_val rfl rfl trivial trivial ?_
          | refine d_new rfl rfl rfl ⟨0, trivial⟩ trivial (fun _ _ => ?_)
          | refine d_new rfl rfl rfl ⟨(), trivial⟩ trivial (fun _ _ => ?_)
          | refine d_put rfl rfl rfl trivial trivial ?_
          | refine d_nil ?_
          | refine s_skip ?_
          | refine s_block ?_
          | refine s_exit ?_
          | refine s_label ?_
          | ((first | refine o_val rfl rfl trivial ?hc ?_ | refine o_new rfl rfl rfl ⟨0, trivial⟩ ?hc (fun _ _ => ?_) | refine o_new rfl rfl rfl ⟨(none, _), Nat.le_refl _⟩ ?hc (fun _ _ => ?_) | refine o_new rfl rfl rfl ⟨(), trivial⟩ ?hc (fun _ _ => ?_) | refine o_put rfl rfl rfl trivial ?hc ?_ | refine d_val rfl rfl trivial ?hc ?_ | refine d_new rfl rfl rfl ⟨0, trivial⟩ ?hc (fun _ _ => ?_) | refine d_new rfl rfl rfl ⟨(none, _), Nat.le_refl _⟩ ?hc (fun _ _ => ?_) | refine d_new rfl rfl rfl ⟨(), trivial⟩ ?hc (fun _ _ => ?_) | refine d_put rfl rfl rfl trivial ?hc ?_); (case hc => (first | ((try simp only [needIf]); (try simp only [need]); (try simp only [imp]); done) | ((try simp only [needIf]); (try simp only [need]); (try simp only [imp]); (try simp only [cutOff]); (repeat' apply And.intro) <;> (first | trivial | rfl | omega | (simp; done) | (simp; omega) | (intros; rfl) | (intros; trivial) | (exact Nat.le_trans (Nat.mul_le_mul_right _ (show _ ≤ 100000000001 by omega)) (by decide)) | (intro hg_; first | exact hg_ | ((try simp only [decide_eq_true_eq] at hg_); (try rw [wi64 (by omega) (by omega)]); (repeat' apply And.intro) <;> (first | trivial | rfl | omega | (intros; rfl) | (intros; trivial))))))))))
        refine s_ret ?_
        exact ⟨_, _, rfl, ⟨trivial, trivial, trivial⟩, rfl, rfl⟩
      · rw [show [t, .v (.int .i64 k), .v (.int .i64 r), .fn f cs].map AV.val = [roP 901 b o 7, .v (.int .i64 k), .v (.int .i64 r), .fn f cs].map AV.val by simp only [List.map_cons, List.map_nil, hv]]
        refine ro_fn tabs ctN_ok (cr := []) trivial Try.func45 rfl rfl (M := [(901, roB (some (b, o)) 7 1 fun _ => deadT)]) rfl ⟨roB_noOwn, trivial⟩ ⟨hro, trivial⟩ ?_
        repeat (first
          | refine s_seq ?_
          | refine s_region ?_
          | refine o_val rfl rfl trivial trivial ?_
          | refine o_new rfl rfl rfl ⟨0, trivial⟩ trivial (fun _ _ => ?_)
          | refine o_new rfl rfl rfl ⟨(), trivial⟩ trivial (fun _ _ => ?_)
          | refine o_put rfl rfl rfl trivial trivial ?_
          | refine o_nil ?_
          | refine d_val rfl rfl trivial trivial ?_
          | refine d_new rfl rfl rfl ⟨0, trivial⟩ trivial (fun _ _ => ?_)
          | refine d_new rfl rfl rfl ⟨(), trivial⟩ trivial (fun _ _ => ?_)
          | refine d_put rfl rfl rfl trivial trivial ?_
          | refine d_nil ?_
          | refine s_skip ?_
          | refine s_block ?_
          | refine s_exit ?_
          | refine s_label ?_
          | ((first | refine o_val rfl rfl trivial ?hc ?_ | refine o_new rfl rfl rfl ⟨0, trivial⟩ ?hc (fun _ _ => ?_) | refine o_new rfl rfl rfl ⟨(none, _), Nat.le_refl _⟩ ?hc (fun _ _ => ?_) | refine o_new rfl rfl rfl ⟨(), trivial⟩ ?hc (fun _ _ => ?_) | refine o_put rfl rfl rfl trivial ?hc ?_ | refine d_val rfl rfl trivial ?hc ?_ | refine d_new rfl rfl rfl ⟨0, trivial⟩ ?hc (fun _ _ => ?_) | refine d_new rfl rfl rfl ⟨(none, _), Nat.le_refl _⟩ ?hc (fun _ _ => ?_) | refine d_new rfl rfl rfl ⟨(), trivial⟩ ?hc (fun _ _ => ?_) | refine d_put rfl rfl rfl trivial ?hc ?_); (case hc => (first | ((try simp only [needIf]); (try simp only [need]); (try simp only [imp]); done) | ((try simp only [needIf]); (try simp only [need]); (try simp only [imp]); (try simp only [cutOff]); (repeat' apply And.intro) <;> (first | trivial | rfl | omega | (simp; done) | (simp; omega) | (intros; rfl) | (intros; trivial) | (exact Nat.le_trans (Nat.mul_le_mul_right _ (show _ ≤ 100000000001 by omega)) (by decide)) | (intro hg_; first | exact hg_ | ((try simp only [decide_eq_true_eq] at hg_); (try rw [wi64 (by omega) (by omega)]); (repeat' apply And.intro) <;> (first | trivial | rfl | omega | (intros; rfl) | (intros; trivial))))))))))
        refine s_cond (b := true) rfl (fun _ => ?_) (fun hh => by cases hh)
        repeat (first
          | refine s_seq ?_
          | refine s_region ?_
          | refine o_val rfl rfl trivial trivial ?_
          | refine o_new rfl rfl rfl ⟨0, trivial⟩ trivial (fun _ _ => ?_)
          | refine o_new rfl rfl rfl ⟨(), trivial⟩ trivial (fun _ _ => ?_)
          | refine o_put rfl rfl rfl trivial trivial ?_
          | refine o_nil ?_
          | refine d_val rfl rfl trivial trivial ?_
          | refine d_new rfl rfl rfl ⟨0, trivial⟩ trivial (fun _ _ => ?_)
          | refine d_new rfl rfl rfl ⟨(), trivial⟩ trivial (fun _ _ => ?_)
          | refine d_put rfl rfl rfl trivial trivial ?_
          | refine d_nil ?_
          | refine s_skip ?_
          | refine s_block ?_
          | refine s_exit ?_
          | refine s_label ?_
          | ((first | refine o_val rfl rfl trivial ?hc ?_ | refine o_new rfl rfl rfl ⟨0, trivial⟩ ?hc (fun _ _ => ?_) | refine o_new rfl rfl rfl ⟨(none, _), Nat.le_refl _⟩ ?hc (fun _ _ => ?_) | refine o_new rfl rfl rfl ⟨(), trivial⟩ ?hc (fun _ _ => ?_) | refine o_put rfl rfl rfl trivial ?hc ?_ | refine d_val rfl rfl trivial ?hc ?_ | refine d_new rfl rfl rfl ⟨0, trivial⟩ ?hc (fun _ _ => ?_) | refine d_new rfl rfl rfl ⟨(none, _), Nat.le_refl _⟩ ?hc (fun _ _ => ?_) | refine d_new rfl rfl rfl ⟨(), trivial⟩ ?hc (fun _ _ => ?_) | refine d_put rfl rfl rfl trivial ?hc ?_); (case hc => (first | ((try simp only [needIf]); (try simp only [need]); (try simp only [imp]); done) | ((try simp only [needIf]); (try simp only [need]); (try simp only [imp]); (try simp only [cutOff]); (repeat' apply And.intro) <;> (first | trivial | rfl | omega | (simp; done) | (simp; omega) | (intros; rfl) | (intros; trivial) | (exact Nat.le_trans (Nat.mul_le_mul_right _ (show _ ≤ 100000000001 by omega)) (by decide)) | (intro hg_; first | exact hg_ | ((try simp only [decide_eq_true_eq] at hg_); (try rw [wi64 (by omega) (by omega)]); (repeat' apply And.intro) <;> (first | trivial | rfl | omega | (intros; rfl) | (intros; trivial))))))))))
        refine s_ret ?_
        exact ⟨_, _, rfl, ⟨trivial, trivial, trivial⟩, rfl, rfl⟩
    · cases h
  · cases h
set_option maxRecDepth 100000 in
theorem thoseN_body : HasBody Try.prog 45 := ⟨_, Try.func45, rfl, by decide⟩

def enterNC (args : List AV) (M : MemF) : Option (Prop × AV) := match args with
  | [t, .v (.int .i64 r)] => match deadOf M t with
    | some c => some (c, .tup (.cons (.v (.slice none 0 0)) (.cons (.v (.int .i64 1)) .nil)))
    | none => none
  | _ => none
set_option maxRecDepth 100000 in
theorem enterN_read : ReadFn Try.prog 19 enterNC := by
  intro args M q res h hq O w0 w hS
  unfold enterNC at h
  split at h
  · rename_i t r
    split at h
    · rename_i c hd
      cases h
      rcases dead_cases hS hd hq with rfl | ⟨b, o, hv, hro⟩
      · refine ro_fn tabs ctN_ok (cr := []) trivial Try.func19 rfl rfl (M := []) rfl trivial trivial ?_
        repeat (first
          | refine s_seq ?_
          | refine s_region ?_
          | refine o_val rfl rfl trivial trivial ?_
          | refine o_new rfl rfl rfl ⟨0, trivial⟩ trivial (fun _ _ => ?_)
          | refine o_new rfl rfl rfl ⟨(), trivial⟩ trivial (fun _ _ => ?_)
          | refine o_put rfl rfl rfl trivial trivial ?_
          | refine o_nil ?_
          | refine d_val rfl rfl trivial trivial ?_
          | refine d_new rfl rfl rfl ⟨0, trivial⟩ trivial (fun _ _ => ?_)
          | refine d_new rfl rfl rfl ⟨(), trivial⟩ trivial (fun _ _ => ?_)
          | refine d_put rfl rfl rfl trivial trivial ?_
          | refine d_nil ?_
          | refine s_skip ?_
          | refine s_block ?_
          | refine s_exit ?_
          | refine s_label ?_
          | ((first | refine o_val rfl rfl trivial ?hc ?_ | refine o_new rfl rfl rfl ⟨0, trivial⟩ ?hc (fun _ _ => ?_) | refine o_new rfl rfl rfl ⟨(none, _), Nat.le_refl _⟩ ?hc (fun _ _ => ?_) | refine o_new rfl rfl rfl ⟨(), trivial⟩ ?hc (fun _ _ => ?_) | refine o_put rfl rfl rfl trivial ?hc ?_ | refine d_val rfl rfl trivial ?hc ?_ | refine d_new rfl rfl rfl ⟨0, trivial⟩ ?hc (fun _ _ => ?_) | refine d_new rfl rfl rfl ⟨(none, _), Nat.le_refl _⟩ ?hc (fun _ _ => ?_) | refine d_new rfl rfl rfl ⟨(), trivial⟩ ?hc (fun _ _ => ?_) | refine d_put rfl rfl rfl trivial ?hc ?_); (case hc => (first | ((try simp only [needIf]); (try simp only [need]); (try simp only [imp]); done) | ((try simp only [needIf]); (try simp only [need]); (try simp only [imp]); (try simp only [cutOff]); (repeat' apply And.intro) <;> (first | trivial | rfl | omega | (simp; done) | (simp; omega) | (intros; rfl) | (intros; trivial) | (exact Nat.le_trans (Nat.mul_le_mul_right _ (show _ ≤ 100000000001 by omega)) (by decide)) | (intro hg_; first | exact hg_ | ((try simp only [decide_eq_true_eq] at hg_); (try rw [wi64 (by omega) (by omega)]); (repeat' apply And.intro) <;> (first | trivial | rfl | omega | (intros; rfl) | (intros; trivial))))))))))
        refine s_cond (b := true) rfl (fun _ => ?_) (fun hh => by cases hh)
        repeat (first
          | refine s_seq ?_
          | refine s_region ?_
          | refine o_val rfl rfl trivial trivial ?_
          | refine o_new rfl rfl rfl ⟨0, trivial⟩ trivial (fun _ _ => ?_)
          | refine o_new rfl rfl rfl ⟨(), trivial⟩ trivial (fun _ _ => ?_)
          | refine o_put rfl rfl rfl trivial trivial ?_
          | refine o_nil ?_
          | refine d_val rfl rfl trivial trivial ?_
          | refine d_new rfl rfl rfl ⟨0, trivial⟩ trivial (fun _ _ => ?_)
          | refine d_new rfl rfl rfl ⟨(), trivial⟩ trivial (fun _ _ => ?_)
          | refine d_put rfl rfl rfl trivial trivial ?_
          | refine d_nil ?_
          | refine s_skip ?_
          | refine s_block ?_
          | refine s_exit ?_
          | refine s_label ?_
          | ((first | refine o_val rfl rfl trivial ?hc ?_ | refine o_new rfl rfl rfl ⟨0, trivial⟩ ?hc (fun _ _ => ?_) | refine o_new rfl rfl rfl ⟨(none, _), Nat.le_refl _⟩ ?hc (fun _ _ => ?_) | refine o_new rfl rfl rfl ⟨(), trivial⟩ ?hc (fun _ _ => ?_) | refine o_put rfl rfl rfl trivial ?hc ?_ | refine d_val rfl rfl trivial ?hc ?_ | refine d_new rfl rfl rfl ⟨0, trivial⟩ ?hc (fun _ _ => ?_) | refine d_new rfl rfl rfl ⟨(none, _), Nat.le_refl _⟩ ?hc (fun _ _ => ?_) | refine d_new rfl rfl rfl ⟨(), trivial⟩ ?hc (fun _ _ => ?_) | refine d_put rfl rfl rfl trivial ?hc ?_); (case hc => (first | ((try simp only [needIf]); (try simp only [need]); (try simp only [imp]); done) | ((try simp only [needIf]); (try simp only [need]); (try simp only [imp]); (try simp only [cutOff]); (repeat' apply And.intro) <;> (first | trivial | rfl | omega | (simp; done) | (simp; omega) | (intros; rfl) | (intros; trivial) | (exact Nat.le_trans (Nat.mul_le_mul_right _ (show _ ≤ 100000000001 by omega)) (by decide)) | (intro hg_; first | exact hg_ | ((try simp only [decide_eq_true_eq] at hg_); (try rw [wi64 (by omega) (by omega)]); (repeat' apply And.intro) <;> (first | trivial | rfl | omega | (intros; rfl) | (intros; trivial))))))))))
        refine s_ret ?_
        exact ⟨_, _, rfl, ⟨trivial, trivial, trivial⟩, rfl, rfl⟩
      · rw [show [t, .v (.int .i64 r)].map AV.val = [roP 901 b o 7, .v (.int .i64 r)].map AV.val by simp only [List.map_cons, List.map_nil, hv]]
        refine ro_fn tabs ctN_ok (cr := []) trivial Try.func19 rfl rfl (M := [(901, roB (some (b, o)) 7 1 fun _ => deadT)]) rfl ⟨roB_noOwn, trivial⟩ ⟨hro, trivial⟩ ?_
        repeat (first
          | refine s_seq ?_
          | refine s_region ?_
          | refine o_val rfl rfl trivial trivial ?_
          | refine o_new rfl rfl rfl ⟨0, trivial⟩ trivial (fun _ _ => ?_)
          | refine o_new rfl rfl rfl ⟨(), trivial⟩ trivial (fun _ _ => ?_)
          | refine o_put rfl rfl rfl trivial trivial ?_
          | refine o_nil ?_
          | refine d_val rfl rfl trivial trivial ?_
          | refine d_new rfl rfl rfl ⟨0, trivial⟩ trivial (fun _ _ => ?_)
          | refine d_new rfl rfl rfl ⟨(), trivial⟩ trivial (fun _ _ => ?_)
          | refine d_put rfl rfl rfl trivial trivial ?_
          | refine d_nil ?_
          | refine s_skip ?_
          | refine s_block ?_
          | refine s_exit ?_
          | refine s_label ?_
          | ((first | refine o_val rfl rfl trivial ?hc ?_ | refine o_new rfl rfl rfl ⟨0, trivial⟩ ?hc (fun _ _ => ?_) | refine o_new rfl rfl rfl ⟨(none, _), Nat.le_refl _⟩ ?hc (fun _ _ => ?_) | refine o_new rfl rfl rfl ⟨(), trivial⟩ ?hc (fun _ _ => ?_) | refine o_put rfl rfl rfl trivial ?hc ?_ | refine d_val rfl rfl trivial ?hc ?_ | refine d_new rfl rfl rfl ⟨0, trivial⟩ ?hc (fun _ _ => ?_) | refine d_new rfl rfl rfl ⟨(none, _), Nat.le_refl _⟩ ?hc (fun _ _ => ?_) | refine d_new rfl rfl rfl ⟨(), trivial⟩ ?hc (fun _ _ => ?_) | refine d_put rfl rfl rfl trivial ?hc ?_); (case hc => (first | ((try simp only [needIf]); (try simp only [need]); (try simp only [imp]); done) | ((try simp only [needIf]); (try simp only [need]); (try simp only [imp]); (try simp only [cutOff]); (repeat' apply And.intro) <;> (first | trivial | rfl | omega | (simp; done) | (simp; omega) | (intros; rfl) | (intros; trivial) | (exact Nat.le_trans (Nat.mul_le_mul_right _ (show _ ≤ 100000000001 by omega)) (by decide)) | (intro hg_; first | exact hg_ | ((try simp only [decide_eq_true_eq] at hg_); (try rw [wi64 (by omega) (by omega)]); (repeat' apply And.intro) <;> (first | trivial | rfl | omega | (intros; rfl) | (intros; trivial))))))))))
        refine s_cond (b := true) rfl (fun _ => ?_) (fun hh => by cases hh)
        repeat (first
          | refine s_seq ?_
          | refine s_region ?_
          | refine o_val rfl rfl trivial trivial ?_
          | refine o_new rfl rfl rfl ⟨0, trivial⟩ trivial (fun _ _ => ?_)
          | refine o_new rfl rfl rfl ⟨(), trivial⟩ trivial (fun _ _ => ?_)
          | refine o_put rfl rfl rfl trivial trivial ?_
          | refine o_nil ?_
          | refine d_val rfl rfl trivial trivial ?_
          | refine d_new rfl rfl rfl ⟨0, trivial⟩ trivial (fun _ _ => ?_)
          | refine d_new rfl rfl rfl ⟨(), trivial⟩ trivial (fun _ _ => ?_)
          | refine d_put rfl rfl rfl trivial trivial ?_
          | refine d_nil ?_
          | refine s_skip ?_
          | refine s_block ?_
          | refine s_exit ?_
          | refine s_label ?_
          | ((first | refine o_val rfl rfl trivial ?hc ?_ | refine o_new rfl rfl rfl ⟨0, trivial⟩ ?hc (fun _ _ => ?_) | refine o_new rfl rfl rfl ⟨(none, _), Nat.le_refl _⟩ ?hc (fun _ _ => ?_) | refine o_new rfl rfl rfl ⟨(), trivial⟩ ?hc (fun _ _ => ?_) | refine o_put rfl rfl rfl trivial ?hc ?_ | refine d_val rfl rfl trivial ?hc ?_ | refine d_new rfl rfl rfl ⟨0, trivial⟩ ?hc (fun _ _ => ?_) | refine d_new rfl rfl rfl ⟨(none, _), Nat.le_refl _⟩ ?hc (fun _ _ => ?_) | refine d_new rfl rfl rfl ⟨(), trivial⟩ ?hc (fun _ _ => ?_) | refine d_put rfl rfl rfl trivial ?hc ?_); (case hc => (first | ((try simp only [needIf]); (try simp only [need]); (try simp only [imp]); done) | ((try simp only [needIf]); (try simp only [need]); (try simp only [imp]); (try simp only [cutOff]); (repeat' apply And.intro) <;> (first | trivial | rfl | omega | (simp; done) | (simp; omega) | (intros; rfl) | (intros; trivial) | (exact Nat.le_trans (Nat.mul_le_mul_right _ (show _ ≤ 100000000001 by omega)) (by decide)) | (intro hg_; first | exact hg_ | ((try simp only [decide_eq_true_eq] at hg_); (try rw [wi64 (by omega) (by omega)]); (repeat' apply And.intro) <;> (first | trivial | rfl | omega | (intros; rfl) | (intros; trivial))))))))))
        refine s_ret ?_
        exact ⟨_, _, rfl, ⟨trivial, trivial, trivial⟩, rfl, rfl⟩
    · cases h
  · cases h
set_option maxRecDepth 100000 in
theorem enterN_body : HasBody Try.prog 19 := ⟨_, Try.func19, rfl, by decide⟩

def skipNC (args : List AV) (M : MemF) : Option (Prop × AV) := match args with
  | [t] => match deadOf M t with
    | some c => some (c, .tup (.cons (.v (.int .i64 0)) (.cons (.v (.bool false)) .nil)))
    | none => none
  | _ => none
set_option maxRecDepth 100000 in
theorem skipN_read : ReadFn Try.prog 14 skipNC := by
  intro args M q res h hq O w0 w hS
  unfold skipNC at h
  split at h
  · rename_i t
    split at h
    · rename_i c hd
      cases h
      rcases dead_cases hS hd hq with rfl | ⟨b, o, hv, hro⟩
      · refine ro_fn tabs ctN_ok (cr := []) trivial Try.func14 rfl rfl (M := []) rfl trivial trivial ?_
        repeat (first
          | refine s_seq ?_
          | refine s_region ?_
          | refine o_val rfl rfl trivial trivial ?_
          | refine o_new rfl rfl rfl ⟨0, trivial⟩ trivial (fun _ _ => ?_)
          | refine o_new rfl rfl rfl ⟨(), trivial⟩ trivial (fun _ _ => ?_)
          | refine o_put rfl rfl rfl trivial trivial ?_
          | refine o_nil ?_
          | refine d_val rfl rfl trivial trivial ?_
          | refine d_new rfl rfl rfl ⟨0, trivial⟩ trivial (fun _ _ => ?_)
          | refine d_new rfl rfl rfl ⟨(), trivial⟩ trivial (fun _ _ => ?_)
          | refine d_put rfl rfl rfl trivial trivial ?_
          | refine d_nil ?_
          | refine s_skip ?_
          | refine s_block ?_
          | refine s_exit ?_
          | refine s_label ?_
          | ((first | refine o_val rfl rfl trivial ?hc ?_ | refine o_new rfl rfl rfl ⟨0, trivial⟩ ?hc (fun _ _ => ?_) | refine o_new rfl rfl rfl ⟨(none, _), Nat.le_refl _⟩ ?hc (fun _ _ => ?_) | refine o_new rfl rfl rfl ⟨(), trivial⟩ ?hc (fun _ _ => ?_) | refine o_put rfl rfl rfl trivial ?hc ?_ | refine d_val rfl rfl trivial ?hc ?_ | refine d_new rfl rfl rfl ⟨0, trivial⟩ ?hc (fun _ _ => ?_) | refine d_new rfl rfl rfl ⟨(none, _), Nat.le_refl _⟩ ?hc (fun _ _ => ?_) | refine d_new rfl rfl rfl ⟨(), trivial⟩ ?hc (fun _ _ => ?_) | refine d_put rfl rfl rfl trivial ?hc ?_); (case hc => (first | ((try simp only [needIf]); (try simp only [need]); (try simp only [imp]); done) | ((try simp only [needIf]); (try simp only [need]); (try simp only [imp]); (try simp only [cutOff]); (repeat' apply And.intro) <;> (first | trivial | rfl | omega | (simp; done) | (simp; omega) | (intros; rfl) | (intros; trivial) | (exact Nat.le_trans (Nat.mul_le_mul_right _ (show _ ≤ 100000000001 by omega)) (by decide)) | (intro hg_; first | exact hg_ | ((try simp only [decide_eq_true_eq] at hg_); (try rw [wi64 (by omega) (by omega)]); (repeat' apply And.intro) <;> (first | trivial | rfl | omega | (intros; rfl) | (intros; trivial))))))))))
        refine s_cond (b := true) rfl (fun _ => ?_) (fun hh => by cases hh)
        repeat (first
          | refine s_seq ?_
          | refine s_region ?_
          | refine o_val rfl rfl trivial trivial ?_
          | refine o_new rfl rfl rfl ⟨0, trivial⟩ trivial (fun _ _ => ?_)
          | refine o_new rfl rfl rfl ⟨(), trivial⟩ trivial (fun _ _ => ?_)
          | refine o_put rfl rfl rfl trivial trivial ?_
          | refine o_nil ?_
          | refine d_val rfl rfl trivial trivial ?_
          | refine d_new rfl rfl rfl ⟨0, trivial⟩ trivial (fun _ _ => ?_)
          | refine d_new rfl rfl rfl ⟨(), trivial⟩ trivial (fun _ _ => ?_)
          | refine d_put rfl rfl rfl trivial trivial ?_
          | refine d_nil ?_
          | refine s_skip ?_
          | refine s_block ?_
          | refine s_exit ?_
          | refine s_label ?_
          | ((first | refine o_val rfl rfl trivial ?hc ?_ | refine o_new rfl rfl rfl ⟨0, trivial⟩ ?hc (fun _ _ => ?_) | refine o_new rfl rfl rfl ⟨(none, _), Nat.le_refl _⟩ ?hc (fun _ _ => ?_) | refine o_new rfl rfl rfl ⟨(), trivial⟩ ?hc (fun _ _ => ?_) | refine o_put rfl rfl rfl trivial ?hc ?_ | refine d_val rfl rfl trivial ?hc ?_ | refine d_new rfl rfl rfl ⟨0, trivial⟩ ?hc (fun _ _ => ?_) | refine d_new rfl rfl rfl ⟨(none, _), Nat.le_refl _⟩ ?hc (fun _ _ => ?_) | refine d_new rfl rfl rfl ⟨(), trivial⟩ ?hc (fun _ _ => ?_) | refine d_put rfl rfl rfl trivial ?hc ?_); (case hc => (first | ((try simp only [needIf]); (try simp only [need]); (try simp only [imp]); done) | ((try simp only [needIf]); (try simp only [need]); (try simp only [imp]); (try simp only [cutOff]); (repeat' apply And.intro) <;> (first | trivial | rfl | omega | (simp; done) | (simp; omega) | (intros; rfl) | (intros; trivial) | (exact Nat.le_trans (Nat.mul_le_mul_right _ (show _ ≤ 100000000001 by omega)) (by decide)) | (intro hg_; first | exact hg_ | ((try simp only [decide_eq_true_eq] at hg_); (try rw [wi64 (by omega) (by omega)]); (repeat' apply And.intro) <;> (first | trivial | rfl | omega | (intros; rfl) | (intros; trivial))))))))))
        refine s_ret ?_
        exact ⟨_, _, rfl, ⟨⟨⟨rfl, rfl, rfl, Nat.zero_lt_one⟩, rfl⟩, ⟨⟨rfl, rfl, rfl, Nat.zero_lt_one⟩, rfl⟩, trivial⟩, rfl, rfl⟩
      · rw [show [t].map AV.val = [roP 901 b o 7].map AV.val by simp only [List.map_cons, List.map_nil, hv]]
        refine ro_fn tabs ctN_ok (cr := []) trivial Try.func14 rfl rfl (M := [(901, roB (some (b, o)) 7 1 fun _ => deadT)]) rfl ⟨roB_noOwn, trivial⟩ ⟨hro, trivial⟩ ?_
        repeat (first
          | refine s_seq ?_
          | refine s_region ?_
          | refine o_val rfl rfl trivial trivial ?_
          | refine o_new rfl rfl rfl ⟨0, trivial⟩ trivial (fun _ _ => ?_)
          | refine o_new rfl rfl rfl ⟨(), trivial⟩ trivial (fun _ _ => ?_)
          | refine o_put rfl rfl rfl trivial trivial ?_
          | refine o_nil ?_
          | refine d_val rfl rfl trivial trivial ?_
          | refine d_new rfl rfl rfl ⟨0, trivial⟩ trivial (fun _ _ => ?_)
          | refine d_new rfl rfl rfl ⟨(), trivial⟩ trivial (fun _ _ => ?_)
          | refine d_put rfl rfl rfl trivial trivial ?_
          | refine d_nil ?_
          | refine s_skip ?_
          | refine s_block ?_
          | refine s_exit ?_
          | refine s_label ?_
          | ((first | refine o_val rfl rfl trivial ?hc ?_ | refine o_new rfl rfl rfl ⟨0, trivial⟩ ?hc (fun _ _ => ?_) | refine o_new rfl rfl rfl ⟨(none, _), Nat.le_refl _⟩ ?hc (fun _ _ => ?_) | refine o_new rfl rfl rfl ⟨(), trivial⟩ ?hc (fun _ _ => ?_) | refine o_put rfl rfl rfl trivial ?hc ?_ | refine d_val rfl rfl trivial ?hc ?_ | refine d_new rfl rfl rfl ⟨0, trivial⟩ ?hc (fun _ _ => ?_) | refine d_new rfl rfl rfl ⟨(none, _), Nat.le_refl _⟩ ?hc (fun _ _ => ?_) | refine d_new rfl rfl rfl ⟨(), trivial⟩ ?hc (fun _ _ => ?_) | refine d_put rfl rfl rfl trivial ?hc ?_); (case hc => (first | ((try simp only [needIf]); (try simp only [need]); (try simp only [imp]); done) | ((try simp only [needIf]); (try simp only [need]); (try simp only [imp]); (try simp only [cutOff]); (repeat' apply And.intro) <;> (first | trivial | rfl | omega | (simp; done) | (simp; omega) | (intros; rfl) | (intros; trivial) | (exact Nat.le_trans (Nat.mul_le_mul_right _ (show _ ≤ 100000000001 by omega)) (by decide)) | (intro hg_; first | exact hg_ | ((try simp only [decide_eq_true_eq] at hg_); (try rw [wi64 (by omega) (by omega)]); (repeat' apply And.intro) <;> (first | trivial | rfl | omega | (intros; rfl) | (intros; trivial))))))))))
        refine s_cond (b := true) rfl (fun _ => ?_) (fun hh => by cases hh)
        repeat (first
          | refine s_seq ?_
          | refine s_region ?_
          | refine o_val rfl rfl trivial trivial ?_
          | refine o_new rfl rfl rfl ⟨0, trivial⟩ trivial (fun _ _ => ?_)
          | refine o_new rfl rfl rfl ⟨(), trivial⟩ trivial (fun _ _ => ?_)
          | refine o_put rfl rfl rfl trivial trivial ?_
          | refine o_nil ?_
          | refine d_val rfl rfl trivial trivial ?_
          | refine d_new rfl rfl rfl ⟨0, trivial⟩ trivial (fun _ _ => ?_)
          | refine d_new rfl rfl rfl ⟨(), trivial⟩ trivial (fun _ _ => ?_)
          | refine d_put rfl rfl rfl trivial trivial ?_
          | refine d_nil ?_
          | refine s_skip ?_
          | refine s_block ?_
          | refine s_exit ?_
          | refine s_label ?_
          | ((first | refine o_val rfl rfl trivial ?hc ?_ | refine o_new rfl rfl rfl ⟨0, trivial⟩ ?hc (fun _ _ => ?_) | refine o_new rfl rfl rfl ⟨(none, _), Nat.le_refl _⟩ ?hc (fun _ _ => ?_) | refine o_new rfl rfl rfl ⟨(), trivial⟩ ?hc (fun _ _ => ?_) | refine o_put rfl rfl rfl trivial ?hc ?_ | refine d_val rfl rfl trivial ?hc ?_ | refine d_new rfl rfl rfl ⟨0, trivial⟩ ?hc (fun _ _ => ?_) | refine d_new rfl rfl rfl ⟨(none, _), Nat.le_refl _⟩ ?hc (fun _ _ => ?_) | refine d_new rfl rfl rfl ⟨(), trivial⟩ ?hc (fun _ _ => ?_) | refine d_put rfl rfl rfl trivial ?hc ?_); (case hc => (first | ((try simp only [needIf]); (try simp only [need]); (try simp only [imp]); done) | ((try simp only [needIf]); (try simp only [need]); (try simp only [imp]); (try simp only [cutOff]); (repeat' apply And.intro) <;> (first | trivial | rfl | omega | (simp; done) | (simp; omega) | (intros; rfl) | (intros; trivial) | (exact Nat.le_trans (Nat.mul_le_mul_right _ (show _ ≤ 100000000001 by omega)) (by decide)) | (intro hg_; first | exact hg_ | ((try simp only [decide_eq_true_eq] at hg_); (try rw [wi64 (by omega) (by omega)]); (repeat' apply And.intro) <;> (first | trivial | rfl | omega | (intros; rfl) | (intros; trivial))))))))))
        refine s_ret ?_
        exact ⟨_, _, rfl, ⟨⟨⟨rfl, rfl, rfl, Nat.zero_lt_one⟩, rfl⟩, ⟨⟨rfl, rfl, rfl, Nat.zero_lt_one⟩, rfl⟩, trivial⟩, rfl, rfl⟩
    · cases h
  · cases h
set_option maxRecDepth 100000 in
theorem skipN_body : HasBody Try.prog 14 := ⟨_, Try.func14, rfl, by decide⟩

def certNC (args : List AV) (M : MemF) : Option (Prop × AV) := match args with
  | [t, .v (.int .i64 r), .ints .u8 32 l] => match deadOf M t with
    | some c => some (c, .tup (.cons row74.zero (.cons (.v (.int .i64 1)) .nil)))
    | none => none
  | _ => none
set_option maxRecDepth 100000 in
theorem certN_read : ReadFn Try.prog 20 certNC := by
  intro args M q res h hq O w0 w hS
  unfold certNC at h
  split at h
  · rename_i t r l
    split at h
    · rename_i c hd
      cases h
      rcases dead_cases hS hd hq with rfl | ⟨b, o, hv, hro⟩
      · refine ro_fn tabs ctN_ok (cr := []) trivial Try.func20 rfl rfl (M := []) rfl trivial trivial ?_
        repeat (first
          | refine s_seq ?_
          | refine s_region ?_
          | refine o_val rfl rfl trivial trivial ?_
          | refine o_new rfl rfl rfl ⟨0, trivial⟩ trivial (fun _ _ => ?_)
          | refine o_new rfl rfl rfl ⟨(), trivial⟩ trivial (fun _ _ => ?_)
          | refine o_put rfl rfl rfl trivial trivial ?_
          | refine o_nil ?_
          | refine d_val rfl rfl trivial trivial ?_
          | refine d_new rfl rfl rfl ⟨0, trivial⟩ trivial (fun _ _ => ?_)
          | refine d_new rfl rfl rfl ⟨(), trivial⟩ trivial (fun _ _ => ?_)
          | refine d_put rfl rfl rfl trivial trivial ?_
          | refine d_nil ?_
          | refine s_skip ?_
          | refine s_block ?_
          | refine s_exit ?_
          | refine s_label ?_
          | ((first | refine o_val rfl rfl trivial ?hc ?_ | refine o_new rfl rfl rfl ⟨0, trivial⟩ ?hc (fun _ _ => ?_) | refine o_new rfl rfl rfl ⟨(none, _), Nat.le_refl _⟩ ?hc (fun _ _ => ?_) | refine o_new rfl rfl rfl ⟨(), trivial⟩ ?hc (fun _ _ => ?_) | refine o_put rfl rfl rfl trivial ?hc ?_ | refine d_val rfl rfl trivial ?hc ?_ | refine d_new rfl rfl rfl ⟨0, trivial⟩ ?hc (fun _ _ => ?_) | refine d_new rfl rfl rfl ⟨(none, _), Nat.le_refl _⟩ ?hc (fun _ _ => ?_) | refine d_new rfl rfl rfl ⟨(), trivial⟩ ?hc (fun _ _ => ?_) | refine d_put rfl rfl rfl trivial ?hc ?_); (case hc => (first | ((try simp only [needIf]); (try simp only [need]); (try simp only [imp]); done) | ((try simp only [needIf]); (try simp only [need]); (try simp only [imp]); (try simp only [cutOff]); (repeat' apply And.intro) <;> (first | trivial | rfl | omega | (simp; done) | (simp; omega) | (intros; rfl) | (intros; trivial) | (exact Nat.le_trans (Nat.mul_le_mul_right _ (show _ ≤ 100000000001 by omega)) (by decide)) | (intro hg_; first | exact hg_ | ((try simp only [decide_eq_true_eq] at hg_); (try rw [wi64 (by omega) (by omega)]); (repeat' apply And.intro) <;> (first | trivial | rfl | omega | (intros; rfl) | (intros; trivial))))))))))
        refine s_cond (b := true) rfl (fun _ => ?_) (fun hh => by cases hh)
        repeat (first
          | refine s_seq ?_
          | refine s_region ?_
          | refine o_val rfl rfl trivial trivial ?_
          | refine o_new rfl rfl rfl ⟨0, trivial⟩ trivial (fun _ _ => ?_)
          | refine o_new rfl rfl rfl ⟨(), trivial⟩ trivial (fun _ _ => ?_)
          | refine o_put rfl rfl rfl trivial trivial ?_
          | refine o_nil ?_
          | refine d_val rfl rfl trivial trivial ?_
          | refine d_new rfl rfl rfl ⟨0, trivial⟩ trivial (fun _ _ => ?_)
          | refine d_new rfl rfl rfl ⟨(), trivial⟩ trivial (fun _ _ => ?_)
          | refine d_put rfl rfl rfl trivial trivial ?_
          | refine d_nil ?_
          | refine s_skip ?_
          | refine s_block ?_
          | refine s_exit ?_
          | refine s_label ?_
          | ((first | refine o_val rfl rfl trivial ?hc ?_ | refine o_new rfl rfl rfl ⟨0, trivial⟩ ?hc (fun _ _ => ?_) | refine o_new rfl rfl rfl ⟨(none, _), Nat.le_refl _⟩ ?hc (fun _ _ => ?_) | refine o_new rfl rfl rfl ⟨(), trivial⟩ ?hc (fun _ _ => ?_) | refine o_put rfl rfl rfl trivial ?hc ?_ | refine d_val rfl rfl trivial ?hc ?_ | refine d_new rfl rfl rfl ⟨0, trivial⟩ ?hc (fun _ _ => ?_) | refine d_new rfl rfl rfl ⟨(none, _), Nat.le_refl _⟩ ?hc (fun _ _ => ?_) | refine d_new rfl rfl rfl ⟨(), trivial⟩ ?hc (fun _ _ => ?_) | refine d_put rfl rfl rfl trivial ?hc ?_); (case hc => (first | ((try simp only [needIf]); (try simp only [need]); (try simp only [imp]); done) | ((try simp only [needIf]); (try simp only [need]); (try simp only [imp]); (try simp only [cutOff]); (repeat' apply And.intro) <;> (first | trivial | rfl | omega | (simp; done) | (simp; omega) | (intros; rfl) | (intros; trivial) | (exact Nat.le_trans (Nat.mul_le_mul_right _ (show _ ≤ 100000000001 by omega)) (by decide)) | (intro hg_; first | exact hg_ | ((try simp only [decide_eq_true_eq] at hg_); (try rw [wi64 (by omega) (by omega)]); (repeat' apply And.intro) <;> (first | trivial | rfl | omega | (intros; rfl) | (intros; trivial))))))))))
        refine s_ret ?_
        exact ⟨_, _, rfl, ⟨⟨⟨rfl, rfl, rfl, Nat.zero_lt_one⟩, rfl⟩, trivial, trivial⟩, rfl, rfl⟩
      · rw [show [t, .v (.int .i64 r), .ints .u8 32 l].map AV.val = [roP 901 b o 7, .v (.int .i64 r), .ints .u8 32 l].map AV.val by simp only [List.map_cons, List.map_nil, hv]]
        refine ro_fn tabs ctN_ok (cr := []) trivial Try.func20 rfl rfl (M := [(901, roB (some (b, o)) 7 1 fun _ => deadT)]) rfl ⟨roB_noOwn, trivial⟩ ⟨hro, trivial⟩ ?_
        repeat (first
          | refine s_seq ?_
          | refine s_region ?_
          | refine o_val rfl rfl trivial trivial ?_
          | refine o_new rfl rfl rfl ⟨0, trivial⟩ trivial (fun _ _ => ?_)
          | refine o_new rfl rfl rfl ⟨(), trivial⟩ trivial (fun _ _ => ?_)
          | refine o_put rfl rfl rfl trivial trivial ?_
          | refine o_nil ?_
          | refine d_val rfl rfl trivial trivial ?_
          | refine d_new rfl rfl rfl ⟨0, trivial⟩ trivial (fun _ _ => ?_)
          | refine d_new rfl rfl rfl ⟨(), trivial⟩ trivial (fun _ _ => ?_)
          | refine d_put rfl rfl rfl trivial trivial ?_
          | refine d_nil ?_
          | refine s_skip ?_
          | refine s_block ?_
          | refine s_exit ?_
          | refine s_label ?_
          | ((first | refine o_val rfl rfl trivial ?hc ?_ | refine o_new rfl rfl rfl ⟨0, trivial⟩ ?hc (fun _ _ => ?_) | refine o_new rfl rfl rfl ⟨(none, _), Nat.le_refl _⟩ ?hc (fun _ _ => ?_) | refine o_new rfl rfl rfl ⟨(), trivial⟩ ?hc (fun _ _ => ?_) | refine o_put rfl rfl rfl trivial ?hc ?_ | refine d_val rfl rfl trivial ?hc ?_ | refine d_new rfl rfl rfl ⟨0, trivial⟩ ?hc (fun _ _ => ?_) | refine d_new rfl rfl rfl ⟨(none, _), Nat.le_refl _⟩ ?hc (fun _ _ => ?_) | refine d_new rfl rfl rfl ⟨(), trivial⟩ ?hc (fun _ _ => ?_) | refine d_put rfl rfl rfl trivial ?hc ?_); (case hc => (first | ((try simp only [needIf]); (try simp only [need]); (try simp only [imp]); done) | ((try simp only [needIf]); (try simp only [need]); (try simp only [imp]); (try simp only [cutOff]); (repeat' apply And.intro) <;> (first | trivial | rfl | omega | (simp; done) | (simp; omega) | (intros; rfl) | (intros; trivial) | (exact Nat.le_trans (Nat.mul_le_mul_right _ (show _ ≤ 100000000001 by omega)) (by decide)) | (intro hg_; first | exact hg_ | ((try simp only [decide_eq_true_eq] at hg_); (try rw [wi64 (by omega) (by omega)]); (repeat' apply And.intro) <;> (first | trivial | rfl | omega | (intros; rfl) | (intros; trivial))))))))))
        refine s_cond (b := true) rfl (fun _ => ?_) (fun hh => by cases hh)
        repeat (first
          | refine s_seq ?_
          | refine s_region ?_
          | refine o_val rfl rfl trivial trivial ?_
          | refine o_new rfl rfl rfl ⟨0, trivial⟩ trivial (fun _ _ => ?_)
          | refine o_new rfl rfl rfl ⟨(), trivial⟩ trivial (fun _ _ => ?_)
          | refine o_put rfl rfl rfl trivial trivial ?_
          | refine o_nil ?_
          | refine d_val rfl rfl trivial trivial ?_
          | refine d_new rfl rfl rfl ⟨0, trivial⟩ trivial (fun _ _ => ?_)
          | refine d_new rfl rfl rfl ⟨(), trivial⟩ trivial (fun _ _ => ?_)
          | refine d_put rfl rfl rfl trivial trivial ?_
          | refine d_nil ?_
          | refine s_skip ?_
          | refine s_block ?_
          | refine s_exit ?_
          | refine s_label ?_
          | ((first | refine o_val rfl rfl trivial ?hc ?_ | refine o_new rfl rfl rfl ⟨0, trivial⟩ ?hc (fun _ _ => ?_) | refine o_new rfl rfl rfl ⟨(none, _), Nat.le_refl _⟩ ?hc (fun _ _ => ?_) | refine o_new rfl rfl rfl ⟨(), trivial⟩ ?hc (fun _ _ => ?_) | refine o_put rfl rfl rfl trivial ?hc ?_ | refine d_val rfl rfl trivial ?hc ?_ | refine d_new rfl rfl rfl ⟨0, trivial⟩ ?hc (fun _ _ => ?_) | refine d_new rfl rfl rfl ⟨(none, _), Nat.le_refl _⟩ ?hc (fun _ _ => ?_) | refine d_new rfl rfl rfl ⟨(), trivial⟩ ?hc (fun _ _ => ?_) | refine d_put rfl rfl rfl trivial ?hc ?_); (case hc => (first | ((try simp only [needIf]); (try simp only [need]); (try simp only [imp]); done) | ((try simp only [needIf]); (try simp only [need]); (try simp only [imp]); (try simp only [cutOff]); (repeat' apply And.intro) <;> (first | trivial | rfl | omega | (simp; done) | (simp; omega) | (intros; rfl) | (intros; trivial) | (exact Nat.le_trans (Nat.mul_le_mul_right _ (show _ ≤ 100000000001 by omega)) (by decide)) | (intro hg_; first | exact hg_ | ((try simp only [decide_eq_true_eq] at hg_); (try rw [wi64 (by omega) (by omega)]); (repeat' apply And.intro) <;> (first | trivial | rfl | omega | (intros; rfl) | (intros; trivial))))))))))
        refine s_ret ?_
        exact ⟨_, _, rfl, ⟨⟨⟨rfl, rfl, rfl, Nat.zero_lt_one⟩, rfl⟩, trivial, trivial⟩, rfl, rfl⟩
    · cases h
  · cases h
set_option maxRecDepth 100000 in
theorem certN_body : HasBody Try.prog 20 := ⟨_, Try.func20, rfl, by decide⟩

def addNC (args : List AV) (M : MemF) : Option (Prop × AV) := match args with
  | [t, v] => match deadOf M t, decV v with
    | some c, some _ => some (c, .tup (.cons row51.zero (.cons (.v (.int .i64 1)) .nil)))
    | _, _ => none
  | _ => none
set_option maxRecDepth 100000 in
theorem addN_read : ReadFn Try.prog 10 addNC := by
  intro args M q res h hq O w0 w hS
  unfold addNC at h
  split at h
  · rename_i t v
    split at h
    · rename_i c x hd hx
      cases h
      have hx := decV_enc hx
      subst hx
      rcases dead_cases hS hd hq with rfl | ⟨b, o, hv, hro⟩
      · refine ro_fn tabs ctN_ok (cr := []) trivial Try.func10 rfl rfl (M := []) rfl trivial trivial ?_
        repeat (first
          | refine s_seq ?_
          | refine s_region ?_
          | refine o_val rfl rfl trivial trivial ?_
          | refine o_new rfl rfl rfl ⟨0, trivial⟩ trivial (fun _ _ => ?_)
          | refine o_new rfl rfl rfl ⟨(), trivial⟩ trivial (fun _ _ => ?_)
          | refine o_put rfl rfl rfl trivial trivial ?_
          | refine o_nil ?_
          | refine d_val rfl rfl trivial trivial ?_
          | refine d_new rfl rfl rfl ⟨0, trivial⟩ trivial (fun _ _ => ?_)
          | refine d_new rfl rfl rfl ⟨(), trivial⟩ trivial (fun _ _ => ?_)
          | refine d_put rfl rfl rfl trivial trivial ?_
          | refine d_nil ?_
          | refine s_skip ?_
          | refine s_block ?_
          | refine s_exit ?_
          | refine s_label ?_
          | ((first | refine o_val rfl rfl trivial ?hc ?_ | refine o_new rfl rfl rfl ⟨0, trivial⟩ ?hc (fun _ _ => ?_) | refine o_new rfl rfl rfl ⟨(none, _), Nat.le_refl _⟩ ?hc (fun _ _ => ?_) | refine o_new rfl rfl rfl ⟨(), trivial⟩ ?hc (fun _ _ => ?_) | refine o_put rfl rfl rfl trivial ?hc ?_ | refine d_val rfl rfl trivial ?hc ?_ | refine d_new rfl rfl rfl ⟨0, trivial⟩ ?hc (fun _ _ => ?_) | refine d_new rfl rfl rfl ⟨(none, _), Nat.le_refl _⟩ ?hc (fun _ _ => ?_) | refine d_new rfl rfl rfl ⟨(), trivial⟩ ?hc (fun _ _ => ?_) | refine d_put rfl rfl rfl trivial ?hc ?_); (case hc => (first | ((try simp only [needIf]); (try simp only [need]); (try simp only [imp]); done) | ((try simp only [needIf]); (try simp only [need]); (try simp only [imp]); (try simp only [cutOff]); (repeat' apply And.intro) <;> (first | trivial | rfl | omega | (simp; done) | (simp; omega) | (intros; rfl) | (intros; trivial) | (exact Nat.le_trans (Nat.mul_le_mul_right _ (show _ ≤ 100000000001 by omega)) (by decide)) | (intro hg_; first | exact hg_ | ((try simp only [decide_eq_true_eq] at hg_); (try rw [wi64 (by omega) (by omega)]); (repeat' apply And.intro) <;> (first | trivial | rfl | omega | (intros; rfl) | (intros; trivial))))))))))
        refine s_cond (b := true) rfl (fun _ => ?_) (fun hh => by cases hh)
        repeat (first
          | refine s_seq ?_
          | refine s_region ?_
          | refine o_val rfl rfl trivial trivial ?_
          | refine o_new rfl rfl rfl ⟨0, trivial⟩ trivial (fun _ _ => ?_)
          | refine o_new rfl rfl rfl ⟨(), trivial⟩ trivial (fun _ _ => ?_)
          | refine o_put rfl rfl rfl trivial trivial ?_
          | refine o_nil ?_
          | refine d_val rfl rfl trivial trivial ?_
          | refine d_new rfl rfl rfl ⟨0, trivial⟩ trivial (fun _ _ => ?_)
          | refine d_new rfl rfl rfl ⟨(), trivial⟩ trivial (fun _ _ => ?_)
          | refine d_put rfl rfl rfl trivial trivial ?_
          | refine d_nil ?_
          | refine s_skip ?_
          | refine s_block ?_
          | refine s_exit ?_
          | refine s_label ?_
          | ((first | refine o_val rfl rfl trivial ?hc ?_ | refine o_new rfl rfl rfl ⟨0, trivial⟩ ?hc (fun _ _ => ?_) | refine o_new rfl rfl rfl ⟨(none, _), Nat.le_refl _⟩ ?hc (fun _ _ => ?_) | refine o_new rfl rfl rfl ⟨(), trivial⟩ ?hc (fun _ _ => ?_) | refine o_put rfl rfl rfl trivial ?hc ?_ | refine d_val rfl rfl trivial ?hc ?_ | refine d_new rfl rfl rfl ⟨0, trivial⟩ ?hc (fun _ _ => ?_) | refine d_new rfl rfl rfl ⟨(none, _), Nat.le_refl _⟩ ?hc (fun _ _ => ?_) | refine d_new rfl rfl rfl ⟨(), trivial⟩ ?hc (fun _ _ => ?_) | refine d_put rfl rfl rfl trivial ?hc ?_); (case hc => (first | ((try simp only [needIf]); (try simp only [need]); (try simp only [imp]); done) | ((try simp only [needIf]); (try simp only [need]); (try simp only [imp]); (try simp only [cutOff]); (repeat' apply And.intro) <;> (first | trivial | rfl | omega | (simp; done) | (simp; omega) | (intros; rfl) | (intros; trivial) | (exact Nat.le_trans (Nat.mul_le_mul_right _ (show _ ≤ 100000000001 by omega)) (by decide)) | (intro hg_; first | exact hg_ | ((try simp only [decide_eq_true_eq] at hg_); (try rw [wi64 (by omega) (by omega)]); (repeat' apply And.intro) <;> (first | trivial | rfl | omega | (intros; rfl) | (intros; trivial))))))))))
        refine s_ret ?_
        exact ⟨_, _, rfl, ⟨⟨⟨rfl, rfl, rfl, Nat.zero_lt_one⟩, rfl⟩, trivial, trivial⟩, rfl, rfl⟩
      · rw [show [t, encV x].map AV.val = [roP 901 b o 7, encV x].map AV.val by simp only [List.map_cons, List.map_nil, hv]]
        refine ro_fn tabs ctN_ok (cr := []) trivial Try.func10 rfl rfl (M := [(901, roB (some (b, o)) 7 1 fun _ => deadT)]) rfl ⟨roB_noOwn, trivial⟩ ⟨hro, trivial⟩ ?_
        repeat (first
          | refine s_seq ?_
          | refine s_region ?_
          | refine o_val rfl rfl trivial trivial ?_
          | refine o_new rfl rfl rfl ⟨0, trivial⟩ trivial (fun _ _ => ?_)
          | refine o_new rfl rfl rfl ⟨(), trivial⟩ trivial (fun _ _ => ?_)
          | refine o_put rfl rfl rfl trivial trivial ?_
          | refine o_nil ?_
          | refine d_val rfl rfl trivial trivial ?_
          | refine d_new rfl rfl rfl ⟨0, trivial⟩ trivial (fun _ _ => ?_)
          | refine d_new rfl rfl rfl ⟨(), trivial⟩ trivial (fun _ _ => ?_)
          | refine d_put rfl rfl rfl trivial trivial ?_
          | refine d_nil ?_
          | refine s_skip ?_
          | refine s_block ?_
          | refine s_exit ?_
          | refine s_label ?_
          | ((first | refine o_val rfl rfl trivial ?hc ?_ | refine o_new rfl rfl rfl ⟨0, trivial⟩ ?hc (fun _ _ => ?_) | refine o_new rfl rfl rfl ⟨(none, _), Nat.le_refl _⟩ ?hc (fun _ _ => ?_) | refine o_new rfl rfl rfl ⟨(), trivial⟩ ?hc (fun _ _ => ?_) | refine o_put rfl rfl rfl trivial ?hc ?_ | refine d_val rfl rfl trivial ?hc ?_ | refine d_new rfl rfl rfl ⟨0, trivial⟩ ?hc (fun _ _ => ?_) | refine d_new rfl rfl rfl ⟨(none, _), Nat.le_refl _⟩ ?hc (fun _ _ => ?_) | refine d_new rfl rfl rfl ⟨(), trivial⟩ ?hc (fun _ _ => ?_) | refine d_put rfl rfl rfl trivial ?hc ?_); (case hc => (first | ((try simp only [needIf]); (try simp only [need]); (try simp only [imp]); done) | ((try simp only [needIf]); (try simp only [need]); (try simp only [imp]); (try simp only [cutOff]); (repeat' apply And.intro) <;> (first | trivial | rfl | omega | (simp; done) | (simp; omega) | (intros; rfl) | (intros; trivial) | (exact Nat.le_trans (Nat.mul_le_mul_right _ (show _ ≤ 100000000001 by omega)) (by decide)) | (intro hg_; first | exact hg_ | ((try simp only [decide_eq_true_eq] at hg_); (try rw [wi64 (by omega) (by omega)]); (repeat' apply And.intro) <;> (first | trivial | rfl | omega | (intros; rfl) | (intros; trivial))))))))))
        refine s_cond (b := true) rfl (fun _ => ?_) (fun hh => by cases hh)
        repeat (first
          | refine s_seq ?_
          | refine s_region ?_
          | refine o_val rfl rfl trivial trivial ?_
          | refine o_new rfl rfl rfl ⟨0, trivial⟩ trivial (fun _ _ => ?_)
          | refine o_new rfl rfl rfl ⟨(), trivial⟩ trivial (fun _ _ => ?_)
          | refine o_put rfl rfl rfl trivial trivial ?_
          | refine o_nil ?_
          | refine d_val rfl rfl trivial trivial ?_
          | refine d_new rfl rfl rfl ⟨0, trivial⟩ trivial (fun _ _ => ?_)
          | refine d_new rfl rfl rfl ⟨(), trivial⟩ trivial (fun _ _ => ?_)
          | refine d_put rfl rfl rfl trivial trivial ?_
          | refine d_nil ?_
          | refine s_skip ?_
          | refine s_block ?_
          | refine s_exit ?_
          | refine s_label ?_
          | ((first | refine o_val rfl rfl trivial ?hc ?_ | refine o_new rfl rfl rfl ⟨0, trivial⟩ ?hc (fun _ _ => ?_) | refine o_new rfl rfl rfl ⟨(none, _), Nat.le_refl _⟩ ?hc (fun _ _ => ?_) | refine o_new rfl rfl rfl ⟨(), trivial⟩ ?hc (fun _ _ => ?_) | refine o_put rfl rfl rfl trivial ?hc ?_ | refine d_val rfl rfl trivial ?hc ?_ | refine d_new rfl rfl rfl ⟨0, trivial⟩ ?hc (fun _ _ => ?_) | refine d_new rfl rfl rfl ⟨(none, _), Nat.le_refl _⟩ ?hc (fun _ _ => ?_) | refine d_new rfl rfl rfl ⟨(), trivial⟩ ?hc (fun _ _ => ?_) | refine d_put rfl rfl rfl trivial ?hc ?_); (case hc => (first | ((try simp only [needIf]); (try simp only [need]); (try simp only [imp]); done) | ((try simp only [needIf]); (try simp only [need]); (try simp only [imp]); (try simp only [cutOff]); (repeat' apply And.intro) <;> (first | trivial | rfl | omega | (simp; done) | (simp; omega) | (intros; rfl) | (intros; trivial) | (exact Nat.le_trans (Nat.mul_le_mul_right _ (show _ ≤ 100000000001 by omega)) (by decide)) | (intro hg_; first | exact hg_ | ((try simp only [decide_eq_true_eq] at hg_); (try rw [wi64 (by omega) (by omega)]); (repeat' apply And.intro) <;> (first | trivial | rfl | omega | (intros; rfl) | (intros; trivial))))))))))
        refine s_ret ?_
        exact ⟨_, _, rfl, ⟨⟨⟨rfl, rfl, rfl, Nat.zero_lt_one⟩, rfl⟩, trivial, trivial⟩, rfl, rfl⟩
    · cases h
  · cases h
set_option maxRecDepth 100000 in
theorem addN_body : HasBody Try.prog 10 := ⟨_, Try.func10, rfl, by decide⟩
def ctT : CtL := [(45, thoseNC)]
set_option maxRecDepth 100000 in
theorem ctT_ok : CtLOk Try.prog ctT := ⟨.fn thoseN_body thoseN_read, trivial⟩

def anyNC (args : List AV) (M : MemF) : Option (Prop × AV) := match args with
  | [t, .v (.int .i64 k), .v (.int .i64 r)] => match deadOf M t with
    | some c => some (c, .v (.int .u64 0))
    | none => none
  | _ => none
set_option maxRecDepth 100000 in
theorem anyN_read : ReadFn Try.prog 17 anyNC := by
  intro args M q res h hq O w0 w hS
  unfold anyNC at h
  split at h
  · rename_i t k r
    split at h
    · rename_i c hd
      cases h
      rcases dead_cases hS hd hq with rfl | ⟨b, o, hv, hro⟩
      · refine ro_fn tabs ctT_ok (cr := []) trivial Try.func17 rfl rfl (M := []) rfl trivial trivial ?_
        repeat (first
          | refine s_seq ?_
          | refine s_region ?_
          | refine o_val rfl rfl trivial trivial ?_
          | refine o_new rfl rfl rfl ⟨0, trivial⟩ trivial (fun _ _ => ?_)
          | refine o_new rfl rfl rfl ⟨(), trivial⟩ trivial (fun _ _ => ?_)
          | refine o_put rfl rfl rfl trivial trivial ?_
          | refine o_nil ?_
          | refine d_val rfl rfl trivial trivial ?_
          | refine d_new rfl rfl rfl ⟨0, trivial⟩ trivial (fun _ _ => ?_)
          | refine d_new rfl rfl rfl ⟨(), trivial⟩ trivial (fun _ _ => ?_)
          | refine d_put rfl rfl rfl trivial trivial ?_
          | refine d_nil ?_
          | refine s_skip ?_
          | refine s_block ?_
          | refine s_exit ?_
          | refine s_label ?_
          | ((first | refine o_val rfl rfl trivial ?hc ?_ | refine o_new rfl rfl rfl ⟨0, trivial⟩ ?hc (fun _ _ => ?_) | refine o_new rfl rfl rfl ⟨(none, _), Nat.le_refl _⟩ ?hc (fun _ _ => ?_) | refine o_new rfl rfl rfl ⟨(), trivial⟩ ?hc (fun _ _ => ?_) | refine o_put rfl rfl rfl trivial ?hc ?_ | refine d_val rfl rfl trivial ?hc ?_ | refine d_new rfl rfl rfl ⟨0, trivial⟩ ?hc (fun _ _ => ?_) | refine d_new rfl rfl rfl ⟨(none, _), Nat.le_refl _⟩ ?hc (fun _ _ => ?_) | refine d_new rfl rfl rfl ⟨(), trivial⟩ ?hc (fun _ _ => ?_) | refine d_put rfl rfl rfl trivial ?hc ?_); (case hc => (first | ((try simp only [needIf]); (try simp only [need]); (try simp only [imp]); done) | ((try simp only [needIf]); (try simp only [need]); (try simp only [imp]); (try simp only [cutOff]); (repeat' apply And.intro) <;> (first | trivial | rfl | omega | (simp; done) | (simp; omega) | (intros; rfl) | (intros; trivial) | (exact Nat.le_trans (Nat.mul_le_mul_right _ (show _ ≤ 100000000001 by omega)) (by decide)) | (intro hg_; first | exact hg_ | ((try simp only [decide_eq_true_eq] at hg_); (try rw [wi64 (by omega) (by omega)]); (repeat' apply And.intro) <;> (first | trivial | rfl | omega | (intros; rfl) | (intros; trivial))))))))))
        refine s_ret ?_
        exact ⟨_, _, rfl, ⟨trivial, trivial⟩, rfl, rfl⟩
      · rw [show [t, .v (.int .i64 k), .v (.int .i64 r)].map AV.val = [roP 901 b o 7, .v (.int .i64 k), .v (.int .i64 r)].map AV.val by simp only [List.map_cons, List.map_nil, hv]]
        refine ro_fn tabs ctT_ok (cr := []) trivial Try.func17 rfl rfl (M := [(901, roB (some (b, o)) 7 1 fun _ => deadT)]) rfl ⟨roB_noOwn, trivial⟩ ⟨hro, trivial⟩ ?_
        repeat (first
          | refine s_seq ?_
          | refine s_region ?_
          | refine o_val rfl rfl trivial trivial ?_
          | refine o_new rfl rfl rfl ⟨0, trivial⟩ trivial (fun _ _ => ?_)
          | refine o_new rfl rfl rfl ⟨(), trivial⟩ trivial (fun _ _ => ?_)
          | refine o_put rfl rfl rfl trivial trivial ?_
          | refine o_nil ?_
          | refine d_val rfl rfl trivial trivial ?_
          | refine d_new rfl rfl rfl ⟨0, trivial⟩ trivial (fun _ _ => ?_)
          | refine d_new rfl rfl rfl ⟨(), trivial⟩ trivial (fun _ _ => ?_)
          | refine d_put rfl rfl rfl trivial trivial ?_
          | refine d_nil ?_
          | refine s_skip ?_
          | refine s_block ?_
          | refine s_exit ?_
          | refine s_label ?_
          | ((first | refine o_val rfl rfl trivial ?hc ?_ | refine o_new rfl rfl rfl ⟨0, trivial⟩ ?hc (fun _ _ => ?_) | refine o_new rfl rfl rfl ⟨(none, _), Nat.le_refl _⟩ ?hc (fun _ _ => ?_) | refine o_new rfl rfl rfl ⟨(), trivial⟩ ?hc (fun _ _ => ?_) | refine o_put rfl rfl rfl trivial ?hc ?_ | refine d_val rfl rfl trivial ?hc ?_ | refine d_new rfl rfl rfl ⟨0, trivial⟩ ?hc (fun _ _ => ?_) | refine d_new rfl rfl rfl ⟨(none, _), Nat.le_refl _⟩ ?hc (fun _ _ => ?_) | refine d_new rfl rfl rfl ⟨(), trivial⟩ ?hc (fun _ _ => ?_) | refine d_put rfl rfl rfl trivial ?hc ?_); (case hc => (first | ((try simp only [needIf]); (try simp only [need]); (try simp only [imp]); done) | ((try simp only [needIf]); (try simp only [need]); (try simp only [imp]); (try simp only [cutOff]); (repeat' apply And.intro) <;> (first | trivial | rfl | omega | (simp; done) | (simp; omega) | (intros; rfl) | (intros; trivial) | (exact Nat.le_trans (Nat.mul_le_mul_right _ (show _ ≤ 100000000001 by omega)) (by decide)) | (intro hg_; first | exact hg_ | ((try simp only [decide_eq_true_eq] at hg_); (try rw [wi64 (by omega) (by omega)]); (repeat' apply And.intro) <;> (first | trivial | rfl | omega | (intros; rfl) | (intros; trivial))))))))))
        refine s_ret ?_
        exact ⟨_, _, rfl, ⟨trivial, trivial⟩, rfl, rfl⟩
    · cases h
  · cases h
set_option maxRecDepth 100000 in
theorem anyN_body : HasBody Try.prog 17 := ⟨_, Try.func17, rfl, by decide⟩

def votesNC (args : List AV) (M : MemF) : Option (Prop × AV) := match args with
  | [t, .v (.int .i64 k), .v (.int .i64 r)] => match deadOf M t with
    | some c => some (c, .v (.slice none 0 0))
    | none => none
  | _ => none
set_option maxRecDepth 100000 in
theorem votesN_read : ReadFn Try.prog 18 votesNC := by
  intro args M q res h hq O w0 w hS
  unfold votesNC at h
  split at h
  · rename_i t k r
    split at h
    · rename_i c hd
      cases h
      rcases dead_cases hS hd hq with rfl | ⟨b, o, hv, hro⟩
      · refine ro_fn tabs ctT_ok (cr := []) trivial Try.func18 rfl rfl (M := []) rfl trivial trivial ?_
        repeat (first
          | refine s_seq ?_
          | refine s_region ?_
          | refine o_val rfl rfl trivial trivial ?_
          | refine o_new rfl rfl rfl ⟨0, trivial⟩ trivial (fun _ _ => ?_)
          | refine o_new rfl rfl rfl ⟨(), trivial⟩ trivial (fun _ _ => ?_)
          | refine o_put rfl rfl rfl trivial trivial ?_
          | refine o_nil ?_
          | refine d_val rfl rfl trivial trivial ?_
          | refine d_new rfl rfl rfl ⟨0, trivial⟩ trivial (fun _ _ => ?_)
          | refine d_new rfl rfl rfl ⟨(), trivial⟩ trivial (fun _ _ => ?_)
          | refine d_put rfl rfl rfl trivial trivial ?_
          | refine d_nil ?_
          | refine s_skip ?_
          | refine s_block ?_
          | refine s_exit ?_
          | refine s_label ?_
          | ((first | refine o_val rfl rfl trivial ?hc ?_ | refine o_new rfl rfl rfl ⟨0, trivial⟩ ?hc (fun _ _ => ?_) | refine o_new rfl rfl rfl ⟨(none, _), Nat.le_refl _⟩ ?hc (fun _ _ => ?_) | refine o_new rfl rfl rfl ⟨(), trivial⟩ ?hc (fun _ _ => ?_) | refine o_put rfl rfl rfl trivial ?hc ?_ | refine d_val rfl rfl trivial ?hc ?_ | refine d_new rfl rfl rfl ⟨0, trivial⟩ ?hc (fun _ _ => ?_) | refine d_new rfl rfl rfl ⟨(none, _), Nat.le_refl _⟩ ?hc (fun _ _ => ?_) | refine d_new rfl rfl rfl ⟨(), trivial⟩ ?hc (fun _ _ => ?_) | refine d_put rfl rfl rfl trivial ?hc ?_); (case hc => (first | ((try simp only [needIf]); (try simp only [need]); (try simp only [imp]); done) | ((try simp only [needIf]); (try simp only [need]); (try simp only [imp]); (try simp only [cutOff]); (repeat' apply And.intro) <;> (first | trivial | rfl | omega | (simp; done) | (simp; omega) | (intros; rfl) | (intros; trivial) | (exact Nat.le_trans (Nat.mul_le_mul_right _ (show _ ≤ 100000000001 by omega)) (by decide)) | (intro hg_; first | exact hg_ | ((try simp only [decide_eq_true_eq] at hg_); (try rw [wi64 (by omega) (by omega)]); (repeat' apply And.intro) <;> (first | trivial | rfl | omega | (intros; rfl) | (intros; trivial))))))))))
        refine s_ret ?_
        exact ⟨_, _, rfl, ⟨trivial, trivial⟩, rfl, rfl⟩
      · rw [show [t, .v (.int .i64 k), .v (.int .i64 r)].map AV.val = [roP 901 b o 7, .v (.int .i64 k), .v (.int .i64 r)].map AV.val by simp only [List.map_cons, List.map_nil, hv]]
        refine ro_fn tabs ctT_ok (cr := []) trivial Try.func18 rfl rfl (M := [(901, roB (some (b, o)) 7 1 fun _ => deadT)]) rfl ⟨roB_noOwn, trivial⟩ ⟨hro, trivial⟩ ?_
        repeat (first
          | refine s_seq ?_
          | refine s_region ?_
          | refine o_val rfl rfl trivial trivial ?_
          | refine o_new rfl rfl rfl ⟨0, trivial⟩ trivial (fun _ _ => ?_)
          | refine o_new rfl rfl rfl ⟨(), trivial⟩ trivial (fun _ _ => ?_)
          | refine o_put rfl rfl rfl trivial trivial ?_
          | refine o_nil ?_
          | refine d_val rfl rfl trivial trivial ?_
          | refine d_new rfl rfl rfl ⟨0, trivial⟩ trivial (fun _ _ => ?_)
          | refine d_new rfl rfl rfl ⟨(), trivial⟩ trivial (fun _ _ => ?_)
          | refine d_put rfl rfl rfl trivial trivial ?_
          | refine d_nil ?_
          | refine s_skip ?_
          | refine s_block ?_
          | refine s_exit ?_
          | refine s_label ?_
          | ((first | refine o_val rfl rfl trivial ?hc ?_ | refine o_new rfl rfl rfl ⟨0, trivial⟩ ?hc (fun _ _ => ?_) | refine o_new rfl rfl rfl ⟨(none, _), Nat.le_refl _⟩ ?hc (fun _ _ => ?_) | refine o_new rfl rfl rfl ⟨(), trivial⟩ ?hc (fun _ _ => ?_) | refine o_put rfl rfl rfl trivial ?hc ?_ | refine d_val rfl rfl trivial ?hc ?_ | refine d_new rfl rfl rfl ⟨0, trivial⟩ ?hc (fun _ _ => ?_) | refine d_new rfl rfl rfl ⟨(none, _), Nat.le_refl _⟩ ?hc (fun _ _ => ?_) | refine d_new rfl rfl rfl ⟨(), trivial⟩ ?hc (fun _ _ => ?_) | refine d_put rfl rfl rfl trivial ?hc ?_); (case hc => (first | ((try simp only [needIf]); (try simp only [need]); (try simp only [imp]); done) | ((try simp only [needIf]); (try simp only [need]); (try simp only [imp]); (try simp only [cutOff]); (repeat' apply And.intro) <;> (first | trivial | rfl | omega | (simp; done) | (simp; omega) | (intros; rfl) | (intros; trivial) | (exact Nat.le_trans (Nat.mul_le_mul_right _ (show _ ≤ 100000000001 by omega)) (by decide)) | (intro hg_; first | exact hg_ | ((try simp only [decide_eq_true_eq] at hg_); (try rw [wi64 (by omega) (by omega)]); (repeat' apply And.intro) <;> (first | trivial | rfl | omega | (intros; rfl) | (intros; trivial))))))))))
        refine s_ret ?_
        exact ⟨_, _, rfl, ⟨trivial, trivial⟩, rfl, rfl⟩
    · cases h
  · cases h
set_option maxRecDepth 100000 in
theorem votesN_body : HasBody Try.prog 18 := ⟨_, Try.func18, rfl, by decide⟩

def quorumNC (args : List AV) (M : MemF) : Option (Prop × AV) := match args with
  | [t, .v (.int .i64 k), .v (.int .i64 r)] => match deadOf M t with
    | some c => some (c, .tup (.cons (.ints .u8 32 (List.replicate 32 0)) (.cons (.v (.bool false)) .nil)))
    | none => none
  | _ => none
set_option maxRecDepth 100000 in
theorem quorumN_read : ReadFn Try.prog 15 quorumNC := by
  intro args M q res h hq O w0 w hS
  unfold quorumNC at h
  split at h
  · rename_i t k r
    split at h
    · rename_i c hd
      cases h
      rcases dead_cases hS hd hq with rfl | ⟨b, o, hv, hro⟩
      · refine ro_fn tabs ctT_ok (cr := []) trivial Try.func15 rfl rfl (M := []) rfl trivial trivial ?_
        repeat (first
          | refine s_seq ?_
          | refine s_region ?_
          | refine o_val rfl rfl trivial trivial ?_
          | refine o_new rfl rfl rfl ⟨0, trivial⟩ trivial (fun _ _ => ?_)
          | refine o_new rfl rfl rfl ⟨(), trivial⟩ trivial (fun _ _ => ?_)
          | refine o_put rfl rfl rfl trivial trivial ?_
          | refine o_nil ?_
          | refine d_val rfl rfl trivial trivial ?_
          | refine d_new rfl rfl rfl ⟨0, trivial⟩ trivial (fun _ _ => ?_)
          | refine d_new rfl rfl rfl ⟨(), trivial⟩ trivial (fun _ _ => ?_)
          | refine d_put rfl rfl rfl trivial trivial ?_
          | refine d_nil ?_
          | refine s_skip ?_
          | refine s_block ?_
          | refine s_exit ?_
          | refine s_label ?_
          | ((first | refine o_val rfl rfl trivial ?hc ?_ | refine o_new rfl rfl rfl ⟨0, trivial⟩ ?hc (fun _ _ => ?_) | refine o_new rfl rfl rfl ⟨(none, _), Nat.le_refl _⟩ ?hc (fun _ _ => ?_) | refine o_new rfl rfl rfl ⟨(), trivial⟩ ?hc (fun _ _ => ?_) | refine o_put rfl rfl rfl trivial ?hc ?_ | refine d_val rfl rfl trivial ?hc ?_ | refine d_new rfl rfl rfl ⟨0, trivial⟩ ?hc (fun _ _ => ?_) | refine d_new rfl rfl rfl ⟨(none, _), Nat.le_refl _⟩ ?hc (fun _ _ => ?_) | refine d_new rfl rfl rfl ⟨(), trivial⟩ ?hc (fun _ _ => ?_) | refine d_put rfl rfl rfl trivial ?hc ?_); (case hc => (first | ((try simp only [needIf]); (try simp only [need]); (try simp only [imp]); done) | ((try simp only [needIf]); (try simp only [need]); (try simp only [imp]); (try simp only [cutOff]); (repeat' apply And.intro) <;> (first | trivial | rfl | omega | (simp; done) | (simp; omega) | (intros; rfl) | (intros; trivial) | (exact Nat.le_trans (Nat.mul_le_mul_right _ (show _ ≤ 100000000001 by omega)) (by decide)) | (intro hg_; first | exact hg_ | ((try simp only [decide_eq_true_eq] at hg_); (try rw [wi64 (by omega) (by omega)]); (repeat' apply And.intro) <;> (first | trivial | rfl | omega | (intros; rfl) | (intros; trivial))))))))))
        refine s_loopW (α := Unit) [21, 22, 23, 24, 25, 26, 27, 28, 29, 30, 31, 32, 33, 34, 35, 36, 37, 38] [] (fun _ => True) (fun _ => [(21, none, .v (.int .i64 0))]) (fun _ => []) (fun _ => 0) () trivial ?_ ?_
        · (refine Le.of ?leT ?leM rfl; (case leT => repeat (first | exact trivial | refine And.intro (by first | exact rfl | (show some (none, AV.v (.int .i64 (IntKind.i64.wrap _))) = _; rw [wi64 (by omega) (by omega)]; rfl)) ?_)); (case leM => repeat (first | exact trivial | refine And.intro ⟨_, rfl, Blk.le_refl _⟩ ?_)))
        · intro _ _
          repeat (first
            | refine s_seq ?_
            | refine s_region ?_
            | refine o_val rfl rfl trivial trivial ?_
            | refine o_new rfl rfl rfl ⟨0, trivial⟩ trivial (fun _ _ => ?_)
            | refine o_new rfl rfl rfl ⟨(), trivial⟩ trivial (fun _ _ => ?_)
            | refine o_put rfl rfl rfl trivial trivial ?_
            | refine o_nil ?_
            | refine d_val rfl rfl trivial trivial ?_
            | refine d_new rfl rfl rfl ⟨0, trivial⟩ trivial (fun _ _ => ?_)
            | refine d_new rfl rfl rfl ⟨(), trivial⟩ trivial (fun _ _ => ?_)
            | refine d_put rfl rfl rfl trivial trivial ?_
            | refine d_nil ?_
            | refine s_skip ?_
            | refine s_block ?_
            | refine s_exit ?_
            | refine s_label ?_
            | ((first | refine o_val rfl rfl trivial ?hc ?_ | refine o_new rfl rfl rfl ⟨0, trivial⟩ ?hc (fun _ _ => ?_) | refine o_new rfl rfl rfl ⟨(none, _), Nat.le_refl _⟩ ?hc (fun _ _ => ?_) | refine o_new rfl rfl rfl ⟨(), trivial⟩ ?hc (fun _ _ => ?_) | refine o_put rfl rfl rfl trivial ?hc ?_ | refine d_val rfl rfl trivial ?hc ?_ | refine d_new rfl rfl rfl ⟨0, trivial⟩ ?hc (fun _ _ => ?_) | refine d_new rfl rfl rfl ⟨(none, _), Nat.le_refl _⟩ ?hc (fun _ _ => ?_) | refine d_new rfl rfl rfl ⟨(), trivial⟩ ?hc (fun _ _ => ?_) | refine d_put rfl rfl rfl trivial ?hc ?_); (case hc => (first | ((try simp only [needIf]); (try simp only [need]); (try simp only [imp]); done) | ((try simp only [needIf]); (try simp only [need]); (try simp only [imp]); (try simp only [cutOff]); (repeat' apply And.intro) <;> (first | trivial | rfl | omega | (simp; done) | (simp; omega) | (intros; rfl) | (intros; trivial) | (exact Nat.le_trans (Nat.mul_le_mul_right _ (show _ ≤ 100000000001 by omega)) (by decide)) | (intro hg_; first | exact hg_ | ((try simp only [decide_eq_true_eq] at hg_); (try rw [wi64 (by omega) (by omega)]); (repeat' apply And.intro) <;> (first | trivial | rfl | omega | (intros; rfl) | (intros; trivial))))))))))
          refine s_cond (b := false) rfl (fun hh => by cases hh) (fun _ => ?_)
          repeat (first
            | refine s_seq ?_
            | refine s_region ?_
            | refine o_val rfl rfl trivial trivial ?_
            | refine o_new rfl rfl rfl ⟨0, trivial⟩ trivial (fun _ _ => ?_)
            | refine o_new rfl rfl rfl ⟨(), trivial⟩ trivial (fun _ _ => ?_)
            | refine o_put rfl rfl rfl trivial trivial ?_
            | refine o_nil ?_
            | refine d_val rfl rfl trivial trivial ?_
            | refine d_new rfl rfl rfl ⟨0, trivial⟩ trivial (fun _ _ => ?_)
            | refine d_new rfl rfl rfl ⟨(), trivial⟩ trivial (fun _ _ => ?_)
            | refine d_put rfl rfl rfl trivial trivial ?_
            | refine d_nil ?_
            | refine s_skip ?_
            | refine s_block ?_
            | refine s_exit ?_
            | refine s_label ?_
            | ((first | refine o_val rfl rfl trivial ?hc ?_ | refine o_new rfl rfl rfl ⟨0, trivial⟩ ?hc (fun _ _ => ?_) | refine o_new rfl rfl rfl ⟨(none, _), Nat.le_refl _⟩ ?hc (fun _ _ => ?_) | refine o_new rfl rfl rfl ⟨(), trivial⟩ ?hc (fun _ _ => ?_) | refine o_put rfl rfl rfl trivial ?hc ?_ | refine d_val rfl rfl trivial ?hc ?_ | refine d_new rfl rfl rfl ⟨0, trivial⟩ ?hc (fun _ _ => ?_) | refine d_new rfl rfl rfl ⟨(none, _), Nat.le_refl _⟩ ?hc (fun _ _ => ?_) | refine d_new rfl rfl rfl ⟨(), trivial⟩ ?hc (fun _ _ => ?_) | refine d_put rfl rfl rfl trivial ?hc ?_); (case hc => (first | ((try simp only [needIf]); (try simp only [need]); (try simp only [imp]); done) | ((try simp only [needIf]); (try simp only [need]); (try simp only [imp]); (try simp only [cutOff]); (repeat' apply And.intro) <;> (first | trivial | rfl | omega | (simp; done) | (simp; omega) | (intros; rfl) | (intros; trivial) | (exact Nat.le_trans (Nat.mul_le_mul_right _ (show _ ≤ 100000000001 by omega)) (by decide)) | (intro hg_; first | exact hg_ | ((try simp only [decide_eq_true_eq] at hg_); (try rw [wi64 (by omega) (by omega)]); (repeat' apply And.intro) <;> (first | trivial | rfl | omega | (intros; rfl) | (intros; trivial))))))))))
          refine s_ret ?_
          exact ⟨_, _, rfl, ⟨⟨⟨rfl, rfl, rfl, Nat.zero_lt_one⟩, rfl⟩, trivial, trivial⟩, rfl, rfl⟩
      · rw [show [t, .v (.int .i64 k), .v (.int .i64 r)].map AV.val = [roP 901 b o 7, .v (.int .i64 k), .v (.int .i64 r)].map AV.val by simp only [List.map_cons, List.map_nil, hv]]
        refine ro_fn tabs ctT_ok (cr := []) trivial Try.func15 rfl rfl (M := [(901, roB (some (b, o)) 7 1 fun _ => deadT)]) rfl ⟨roB_noOwn, trivial⟩ ⟨hro, trivial⟩ ?_
        repeat (first
          | refine s_seq ?_
          | refine s_region ?_
          | refine o_val rfl rfl trivial trivial ?_
          | refine o_new rfl rfl rfl ⟨0, trivial⟩ trivial (fun _ _ => ?_)
          | refine o_new rfl rfl rfl ⟨(), trivial⟩ trivial (fun _ _ => ?_)
          | refine o_put rfl rfl rfl trivial trivial ?_
          | refine o_nil ?_
          | refine d_val rfl rfl trivial trivial ?_
          | refine d_new rfl rfl rfl ⟨0, trivial⟩ trivial (fun _ _ => ?_)
          | refine d_new rfl rfl rfl ⟨(), trivial⟩ trivial (fun _ _ => ?_)
          | refine d_put rfl rfl rfl trivial trivial ?_
          | refine d_nil ?_
          | refine s_skip ?_
          | refine s_block ?_
          | refine s_exit ?_
          | refine s_label ?_
          | ((first | refine o_val rfl rfl trivial ?hc ?_ | refine o_new rfl rfl rfl ⟨0, trivial⟩ ?hc (fun _ _ => ?_) | refine o_new rfl rfl rfl ⟨(none, _), Nat.le_refl _⟩ ?hc (fun _ _ => ?_) | refine o_new rfl rfl rfl ⟨(), trivial⟩ ?hc (fun _ _ => ?_) | refine o_put rfl rfl rfl trivial ?hc ?_ | refine d_val rfl rfl trivial ?hc ?_ | refine d_new rfl rfl rfl ⟨0, trivial⟩ ?hc (fun _ _ => ?_) | refine d_new rfl rfl rfl ⟨(none, _), Nat.le_refl _⟩ ?hc (fun _ _ => ?_) | refine d_new rfl rfl rfl ⟨(), trivial⟩ ?hc (fun _ _ => ?_) | refine d_put rfl rfl rfl trivial ?hc ?_); (case hc => (first | ((try simp only [needIf]); (try simp only [need]); (try simp only [imp]); done) | ((try simp only [needIf]); (try simp only [need]); (try simp only [imp]); (try simp only [cutOff]); (repeat' apply And.intro) <;> (first | trivial | rfl | omega | (simp; done) | (simp; omega) | (intros; rfl) | (intros; trivial) | (exact Nat.le_trans (Nat.mul_le_mul_right _ (show _ ≤ 100000000001 by omega)) (by decide)) | (intro hg_; first | exact hg_ | ((try simp only [decide_eq_true_eq] at hg_); (try rw [wi64 (by omega) (by omega)]); (repeat' apply And.intro) <;> (first | trivial | rfl | omega | (intros; rfl) | (intros; trivial))))))))))
        refine s_loopW (α := Unit) [21, 22, 23, 24, 25, 26, 27, 28, 29, 30, 31, 32, 33, 34, 35, 36, 37, 38] [] (fun _ => True) (fun _ => [(21, none, .v (.int .i64 0))]) (fun _ => []) (fun _ => 0) () trivial ?_ ?_
        · (refine Le.of ?leT ?leM rfl; (case leT => repeat (first | exact trivial | refine And.intro (by first | exact rfl | (show some (none, AV.v (.int .i64 (IntKind.i64.wrap _))) = _; rw [wi64 (by omega) (by omega)]; rfl)) ?_)); (case leM => repeat (first | exact trivial | refine And.intro ⟨_, rfl, Blk.le_refl _⟩ ?_)))
        · intro _ _
          repeat (first
            | refine s_seq ?_
            | refine s_region ?_
            | refine o_val rfl rfl trivial trivial ?_
            | refine o_new rfl rfl rfl ⟨0, trivial⟩ trivial (fun _ _ => ?_)
            | refine o_new rfl rfl rfl ⟨(), trivial⟩ trivial (fun _ _ => ?_)
            | refine o_put rfl rfl rfl trivial trivial ?_
            | refine o_nil ?_
            | refine d_val rfl rfl trivial trivial ?_
            | refine d_new rfl rfl rfl ⟨0, trivial⟩ trivial (fun _ _ => ?_)
            | refine d_new rfl rfl rfl ⟨(), trivial⟩ trivial (fun _ _ => ?_)
            | refine d_put rfl rfl rfl trivial trivial ?_
            | refine d_nil ?_
            | refine s_skip ?_
            | refine s_block ?_
            | refine s_exit ?_
            | refine s_label ?_
            | ((first | refine o_val rfl rfl trivial ?hc ?_ | refine o_new rfl rfl rfl ⟨0, trivial⟩ ?hc (fun _ _ => ?_) | refine o_new rfl rfl rfl ⟨(none, _), Nat.le_refl _⟩ ?hc (fun _ _ => ?_) | refine o_new rfl rfl rfl ⟨(), trivial⟩ ?hc (fun _ _ => ?_) | refine o_put rfl rfl rfl trivial ?hc ?_ | refine d_val rfl rfl trivial ?hc ?_ | refine d_new rfl rfl rfl ⟨0, trivial⟩ ?hc (fun _ _ => ?_) | refine d_new rfl rfl rfl ⟨(none, _), Nat.le_refl _⟩ ?hc (fun _ _ => ?_) | refine d_new rfl rfl rfl ⟨(), trivial⟩ ?hc (fun _ _ => ?_) | refine d_put rfl rfl rfl trivial ?hc ?_); (case hc => (first | ((try simp only [needIf]); (try simp only [need]); (try simp only [imp]); done) | ((try simp only [needIf]); (try simp only [need]); (try simp only [imp]); (try simp only [cutOff]); (repeat' apply And.intro) <;> (first | trivial | rfl | omega | (simp; done) | (simp; omega) | (intros; rfl) | (intros; trivial) | (exact Nat.le_trans (Nat.mul_le_mul_right _ (show _ ≤ 100000000001 by omega)) (by decide)) | (intro hg_; first | exact hg_ | ((try simp only [decide_eq_true_eq] at hg_); (try rw [wi64 (by omega) (by omega)]); (repeat' apply And.intro) <;> (first | trivial | rfl | omega | (intros; rfl) | (intros; trivial))))))))))
          refine s_cond (b := false) rfl (fun hh => by cases hh) (fun _ => ?_)
          repeat (first
            | refine s_seq ?_
            | refine s_region ?_
            | refine o_val rfl rfl trivial trivial ?_
            | refine o_new rfl rfl rfl ⟨0, trivial⟩ trivial (fun _ _ => ?_)
            | refine o_new rfl rfl rfl ⟨(), trivial⟩ trivial (fun _ _ => ?_)
            | refine o_put rfl rfl rfl trivial trivial ?_
            | refine o_nil ?_
            | refine d_val rfl rfl trivial trivial ?_
            | refine d_new rfl rfl rfl ⟨0, trivial⟩ trivial (fun _ _ => ?_)
            | refine d_new rfl rfl rfl ⟨(), trivial⟩ trivial (fun _ _ => ?_)
            | refine d_put rfl rfl rfl trivial trivial ?_
            | refine d_nil ?_
            | refine s_skip ?_
            | refine s_block ?_
            | refine s_exit ?_
            | refine s_label ?_
            | ((first | refine o_val rfl rfl trivial ?hc ?_ | refine o_new rfl rfl rfl ⟨0, trivial⟩ ?hc (fun _ _ => ?_) | refine o_new rfl rfl rfl ⟨(none, _), Nat.le_refl _⟩ ?hc (fun _ _ => ?_) | refine o_new rfl rfl rfl ⟨(), trivial⟩ ?hc (fun _ _ => ?_) | refine o_put rfl rfl rfl trivial ?hc ?_ | refine d_val rfl rfl trivial ?hc ?_ | refine d_new rfl rfl rfl ⟨0, trivial⟩ ?hc (fun _ _ => ?_) | refine d_new rfl rfl rfl ⟨(none, _), Nat.le_refl _⟩ ?hc (fun _ _ => ?_) | refine d_new rfl rfl rfl ⟨(), trivial⟩ ?hc (fun _ _ => ?_) | refine d_put rfl rfl rfl trivial ?hc ?_); (case hc => (first | ((try simp only [needIf]); (try simp only [need]); (try simp only [imp]); done) | ((try simp only [needIf]); (try simp only [need]); (try simp only [imp]); (try simp only [cutOff]); (repeat' apply And.intro) <;> (first | trivial | rfl | omega | (simp; done) | (simp; omega) | (intros; rfl) | (intros; trivial) | (exact Nat.le_trans (Nat.mul_le_mul_right _ (show _ ≤ 100000000001 by omega)) (by decide)) | (intro hg_; first | exact hg_ | ((try simp only [decide_eq_true_eq] at hg_); (try rw [wi64 (by omega) (by omega)]); (repeat' apply And.intro) <;> (first | trivial | rfl | omega | (intros; rfl) | (intros; trivial))))))))))
          refine s_ret ?_
          exact ⟨_, _, rfl, ⟨⟨⟨rfl, rfl, rfl, Nat.zero_lt_one⟩, rfl⟩, trivial, trivial⟩, rfl, rfl⟩
    · cases h
  · cases h
set_option maxRecDepth 100000 in
theorem quorumN_body : HasBody Try.prog 15 := ⟨_, Try.func15, rfl, by decide⟩

/-- forId: a function over a new variable -/
def forIdC (tag : Nat) (args : List AV) (M : MemF) : Option Res := match args with
  | [.ints .u8 32 l] => some ⟨Nat, True, fun _ => True, fun b => .fn 71 (.cons (.ptr ⟨tag, 0, b, 0, 32, 0, 0, 0, false⟩) .nil), [tag], fun b => [.row b 38 32 1 (fun _ => .ints .u8 32 l) 1]⟩
  | _ => none
theorem forId_turn : TurnFn Try.prog 47 forIdC := by
  intro tag args M r h0 hok O w0 w hS
  unfold forIdC at h0
  split at h0
  · rename_i l
    cases h0
    refine turn_fn tabs (ct := []) trivial (cr := []) trivial Try.func47 rfl rfl hS _ [] [] [1] rfl trivial (fun n' B' k hn ho => (by cases hn)) (fun _ _ _ h => (by cases h)) (fun _ _ _ h => (by cases h)) (fun _ _ h => (by cases h)) (by decide) rfl ?_
    repeat (first
      | refine s_seq ?_
      | refine s_region ?_
      | refine o_val rfl rfl trivial trivial ?_
      | refine o_new rfl rfl rfl ⟨0, trivial⟩ trivial (fun _ _ => ?_)
      | refine o_new rfl rfl rfl ⟨(), trivial⟩ trivial (fun _ _ => ?_)
      | refine o_put rfl rfl rfl trivial trivial ?_
      | refine o_nil ?_
      | refine d_val rfl rfl trivial trivial ?_
      | refine d_new rfl rfl rfl ⟨0, trivial⟩ trivial (fun _ _ => ?_)
      | refine d_new rfl rfl rfl ⟨(), trivial⟩ trivial (fun _ _ => ?_)
      | refine d_put rfl rfl rfl trivial trivial ?_
      | refine d_nil ?_
      | refine s_skip ?_
      | refine s_block ?_
      | refine s_exit ?_
      | refine s_label ?_
      | ((first | refine o_val rfl rfl trivial ?hc ?_ | refine o_new rfl rfl rfl ⟨0, trivial⟩ ?hc (fun _ _ => ?_) | refine o_new rfl rfl rfl ⟨(none, _), Nat.le_refl _⟩ ?hc (fun _ _ => ?_) | refine o_new rfl rfl rfl ⟨(), trivial⟩ ?hc (fun _ _ => ?_) | refine o_put rfl rfl rfl trivial ?hc ?_ | refine d_val rfl rfl trivial ?hc ?_ | refine d_new rfl rfl rfl ⟨0, trivial⟩ ?hc (fun _ _ => ?_) | refine d_new rfl rfl rfl ⟨(none, _), Nat.le_refl _⟩ ?hc (fun _ _ => ?_) | refine d_new rfl rfl rfl ⟨(), trivial⟩ ?hc (fun _ _ => ?_) | refine d_put rfl rfl rfl trivial ?hc ?_); (case hc => (first | ((try simp only [needIf]); (try simp only [need]); (try simp only [imp]); done) | ((try simp only [needIf]); (try simp only [need]); (try simp only [imp]); (try simp only [cutOff]); (repeat' apply And.intro) <;> (first | trivial | rfl | omega | (simp; done) | (simp; omega) | (intros; rfl) | (intros; trivial) | (exact Nat.le_trans (Nat.mul_le_mul_right _ (show _ ≤ 100000000001 by omega)) (by decide)) | (intro hg_; first | exact hg_ | ((try simp only [decide_eq_true_eq] at hg_); (try rw [wi64 (by omega) (by omega)]); (repeat' apply And.intro) <;> (first | trivial | rfl | omega | (intros; rfl) | (intros; trivial))))))))))
    rename_i b _
    refine s_ret ?_
    exact ⟨_, _, rfl, ⟨trivial, trivial⟩, rfl, b, trivial, rfl, ⟨⟨_, rfl, Blk.le_refl _⟩, fun _ h => h⟩, trivial⟩
  · cases h0
set_option maxRecDepth 100000 in
theorem forId_body : HasBody Try.prog 47 := ⟨_, Try.func47, rfl, by decide⟩
def crF : CrL := [(47, forIdC)]
set_option maxRecDepth 100000 in
theorem crF_ok : CrLOk Try.prog crF := ⟨⟨forId_body, forId_turn⟩, trivial⟩

def powerNC (args : List AV) (M : MemF) : Option (Prop × AV) := match args with
  | [t, .v (.int .i64 k), .v (.int .i64 r), .ints .u8 32 l] => match deadOf M t with
    | some c => some (c, .v (.int .u64 0))
    | none => none
  | _ => none
set_option maxRecDepth 100000 in
theorem powerN_read : ReadFn Try.prog 16 powerNC := by
  intro args M q res h hq O w0 w hS
  unfold powerNC at h
  split at h
  · rename_i t k r l
    split at h
    · rename_i c hd
      cases h
      rcases dead_cases hS hd hq with rfl | ⟨b, o, hv, hro⟩
      · refine ro_fn tabs ctT_ok crF_ok Try.func16 rfl rfl (M := []) rfl trivial trivial ?_
        repeat (first
          | refine s_seq ?_
          | refine s_region ?_
          | refine o_val rfl rfl trivial trivial ?_
          | refine o_new rfl rfl rfl ⟨0, trivial⟩ trivial (fun _ _ => ?_)
          | refine o_new rfl rfl rfl ⟨(), trivial⟩ trivial (fun _ _ => ?_)
          | refine o_put rfl rfl rfl trivial trivial ?_
          | refine o_nil ?_
          | refine d_val rfl rfl trivial trivial ?_
          | refine d_new rfl rfl rfl ⟨0, trivial⟩ trivial (fun _ _ => ?_)
          | refine d_new rfl rfl rfl ⟨(), trivial⟩ trivial (fun _ _ => ?_)
          | refine d_put rfl rfl rfl trivial trivial ?_
          | refine d_nil ?_
          | refine s_skip ?_
          | refine s_block ?_
          | refine s_exit ?_
          | refine s_label ?_
          | ((first | refine o_val rfl rfl trivial ?hc ?_ | refine o_new rfl rfl rfl ⟨0, trivial⟩ ?hc (fun _ _ => ?_) | refine o_new rfl rfl rfl ⟨(none, _), Nat.le_refl _⟩ ?hc (fun _ _ => ?_) | refine o_new rfl rfl rfl ⟨(), trivial⟩ ?hc (fun _ _ => ?_) | refine o_put rfl rfl rfl trivial ?hc ?_ | refine d_val rfl rfl trivial ?hc ?_ | refine d_new rfl rfl rfl ⟨0, trivial⟩ ?hc (fun _ _ => ?_) | refine d_new rfl rfl rfl ⟨(none, _), Nat.le_refl _⟩ ?hc (fun _ _ => ?_) | refine d_new rfl rfl rfl ⟨(), trivial⟩ ?hc (fun _ _ => ?_) | refine d_put rfl rfl rfl trivial ?hc ?_); (case hc => (first | ((try simp only [needIf]); (try simp only [need]); (try simp only [imp]); done) | ((try simp only [needIf]); (try simp only [need]); (try simp only [imp]); (try simp only [cutOff]); (repeat' apply And.intro) <;> (first | trivial | rfl | omega | (simp; done) | (simp; omega) | (intros; rfl) | (intros; trivial) | (exact Nat.le_trans (Nat.mul_le_mul_right _ (show _ ≤ 100000000001 by omega)) (by decide)) | (intro hg_; first | exact hg_ | ((try simp only [decide_eq_true_eq] at hg_); (try rw [wi64 (by omega) (by omega)]); (repeat' apply And.intro) <;> (first | trivial | rfl | omega | (intros; rfl) | (intros; trivial))))))))))
        refine s_ret ?_
        exact ⟨_, _, rfl, ⟨trivial, trivial⟩, rfl, rfl⟩
      · rw [show [t, .v (.int .i64 k), .v (.int .i64 r), .ints .u8 32 l].map AV.val = [roP 901 b o 7, .v (.int .i64 k), .v (.int .i64 r), .ints .u8 32 l].map AV.val by simp only [List.map_cons, List.map_nil, hv]]
        refine ro_fn tabs ctT_ok crF_ok Try.func16 rfl rfl (M := [(901, roB (some (b, o)) 7 1 fun _ => deadT)]) rfl ⟨roB_noOwn, trivial⟩ ⟨hro, trivial⟩ ?_
        repeat (first
          | refine s_seq ?_
          | refine s_region ?_
          | refine o_val rfl rfl trivial trivial ?_
          | refine o_new rfl rfl rfl ⟨0, trivial⟩ trivial (fun _ _ => ?_)
          | refine o_new rfl rfl rfl ⟨(), trivial⟩ trivial (fun _ _ => ?_)
          | refine o_put rfl rfl rfl trivial trivial ?_
          | refine o_nil ?_
          | refine d_val rfl rfl trivial trivial ?_
          | refine d_new rfl rfl rfl ⟨0, trivial⟩ trivial (fun _ _ => ?_)
          | refine d_new rfl rfl rfl ⟨(), trivial⟩ trivial (fun _ _ => ?_)
          | refine d_put rfl rfl rfl trivial trivial ?_
          | refine d_nil ?_
          | refine s_skip ?_
          | refine s_block ?_
          | refine s_exit ?_
          | refine s_label ?_
          | ((first | refine o_val rfl rfl trivial ?hc ?_ | refine o_new rfl rfl rfl ⟨0, trivial⟩ ?hc (fun _ _ => ?_) | refine o_new rfl rfl rfl ⟨(none, _), Nat.le_refl _⟩ ?hc (fun _ _ => ?_) | refine o_new rfl rfl rfl ⟨(), trivial⟩ ?hc (fun _ _ => ?_) | refine o_put rfl rfl rfl trivial ?hc ?_ | refine d_val rfl rfl trivial ?hc ?_ | refine d_new rfl rfl rfl ⟨0, trivial⟩ ?hc (fun _ _ => ?_) | refine d_new rfl rfl rfl ⟨(none, _), Nat.le_refl _⟩ ?hc (fun _ _ => ?_) | refine d_new rfl rfl rfl ⟨(), trivial⟩ ?hc (fun _ _ => ?_) | refine d_put rfl rfl rfl trivial ?hc ?_); (case hc => (first | ((try simp only [needIf]); (try simp only [need]); (try simp only [imp]); done) | ((try simp only [needIf]); (try simp only [need]); (try simp only [imp]); (try simp only [cutOff]); (repeat' apply And.intro) <;> (first | trivial | rfl | omega | (simp; done) | (simp; omega) | (intros; rfl) | (intros; trivial) | (exact Nat.le_trans (Nat.mul_le_mul_right _ (show _ ≤ 100000000001 by omega)) (by decide)) | (intro hg_; first | exact hg_ | ((try simp only [decide_eq_true_eq] at hg_); (try rw [wi64 (by omega) (by omega)]); (repeat' apply And.intro) <;> (first | trivial | rfl | omega | (intros; rfl) | (intros; trivial))))))))))
        refine s_ret ?_
        exact ⟨_, _, rfl, ⟨trivial, trivial⟩, rfl, rfl⟩
    · cases h
  · cases h
set_option maxRecDepth 100000 in
theorem powerN_body : HasBody Try.prog 16 := ⟨_, Try.func16, rfl, by decide⟩
end Go.Proofs.Ytaohdlepocajcaa.V
