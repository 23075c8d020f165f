import Derived.Test.YtaohdlepocajcaaVF3
/-! Quorum, Third, Index; a slice cloned. -/
namespace Go.Proofs.Ytaohdlepocajcaa.V
open Go Go.RowKit

def shareF (g : Nat → Mb) (n : Nat) (k : Int) : Int :=
  if ((soundF g n).2 != 0) = true then 0 else IntKind.u64.wrap (IntKind.u64.wrap ((IntKind.u64.wrap (k * (soundF g n).1)).tdiv 3) + 1)
def shareC (args : List AV) (M : MemF) : Option (Prop × AV) := match args with
  | [.agg (.cons x .nil), .v (.int .u64 k)] => match mbsOf M x with
    | some (c, n, g) => some (c, .v (.int .u64 (shareF g n k)))
    | none => none
  | _ => none
set_option maxRecDepth 100000 in
theorem share_read : ReadFn Try.prog 57 shareC := by
  intro args M q res h hq O w0 w hS
  unfold shareC at h
  split at h
  · rename_i x k
    split at h
    · rename_i c n g hm
      cases h
      obtain ⟨hn, base, cap, hv, hro⟩ := mbs_ro hS hm hq
      have hpl := mbs_plain hm
      rw [hv] at hpl
      rw [show [AV.agg (.cons x .nil), .v (.int .u64 k)].map AV.val = [AV.agg (.cons (roS 900 base 3 n cap) .nil), .v (.int .u64 k)].map AV.val by simp only [List.map_cons, List.map_nil, agg1_val hpl (roS_cells 900 base 3 n cap)]]
      refine ro_fn tabs ctS2_ok (cr := []) trivial Try.func57 rfl rfl (M := [(900, roB base 3 n fun i => encMb (g i))]) rfl ⟨roB_noOwn, trivial⟩ ⟨hro, trivial⟩ ?_
      repeat (first
        | refine s_seq ?_
        | refine s_region ?_
        | refine o_val rfl rfl trivial trivial ?_
        | refine o_new rfl rfl rfl ⟨0, trivial⟩ trivial (fun _ _ => ?_)
        | refine o_new rfl rfl rfl ⟨(), trivial⟩ trivial (fun _ _ => ?_)
        | refine o_put rfl rfl rfl trivial trivial ?_
        | refine o_nil ?_
        | refine d_val rfl rfl trivial trivial ?_
        | refine d_new rfl rfl rfl ⟨0, trivial⟩ trivial (fun _ _ => ?_)
        | refine d_new rfl rfl rfl ⟨(), trivial⟩ trivial (fun _ _ => ?_)
        | refine d_put rfl rfl rfl trivial trivial ?_
        | refine d_nil ?_
        | refine s_skip ?_
        | refine s_block ?_
        | refine s_exit ?_
        | refine s_label ?_
        | ((first | refine o_val rfl rfl trivial ?hc ?_ | refine o_new rfl rfl rfl ⟨0, trivial⟩ ?hc (fun _ _ => ?_) | refine o_new rfl rfl rfl ⟨(none, _), Nat.le_refl _⟩ ?hc (fun _ _ => ?_) | refine o_new rfl rfl rfl ⟨(), trivial⟩ ?hc (fun _ _ => ?_) | refine o_put rfl rfl rfl trivial ?hc ?_ | refine d_val rfl rfl trivial ?hc ?_ | refine d_new rfl rfl rfl ⟨0, trivial⟩ ?hc (fun _ _ => ?_) | refine d_new rfl rfl rfl ⟨(none, _), Nat.le_refl _⟩ ?hc (fun _ _ => ?_) | refine d_new rfl rfl rfl ⟨(), trivial⟩ ?hc (fun _ _ => ?_) | refine d_put rfl rfl rfl trivial ?hc ?_); (case hc => (first | ((try simp only [needIf]); (try simp only [need]); (try simp only [imp]); done) | ((try simp only [needIf]); (try simp only [need]); (try simp only [imp]); (try simp only [cutOff]); (repeat' apply And.intro) <;> (first | trivial | rfl | omega | (simp; done) | (simp; omega) | (intros; rfl) | (intros; trivial) | (exact Nat.le_trans (Nat.mul_le_mul_right _ (show _ ≤ 100000000001 by omega)) (by decide)) | (intro hg_; first | exact hg_ | ((try simp only [decide_eq_true_eq] at hg_); (try rw [wi64 (by omega) (by omega)]); (repeat' apply And.intro) <;> (first | trivial | rfl | omega | (intros; rfl) | (intros; trivial))))))))))
      refine s_cond (b := ((soundF g n).2 != 0)) rfl (fun h1 => ?_) (fun h1 => ?_)
      · repeat (first
          | refine s_seq ?_
          | refine s_region ?_
          | refine o_val rfl rfl trivial trivial ?_
          | refine o_new rfl rfl rfl ⟨0, trivial⟩ trivial (fun _ _ => ?_)
          | refine o_new rfl rfl rfl ⟨(), trivial⟩ trivial (fun _ _ => ?_)
          | refine o_put rfl rfl rfl trivial trivial ?_
          | refine o_nil ?_
          | refine d_val rfl rfl trivial trivial ?_
          | refine d_new rfl rfl rfl ⟨0, trivial⟩ trivial (fun _ _ => ?_)
          | refine d_new rfl rfl rfl ⟨(), trivial⟩ trivial (fun _ _ => ?_)
          | refine d_put rfl rfl rfl trivial trivial ?_
          | refine d_nil ?_
          | refine s_skip ?_
          | refine s_block ?_
          | refine s_exit ?_
          | refine s_label ?_
          | ((first | refine o_val rfl rfl trivial ?hc ?_ | refine o_new rfl rfl rfl ⟨0, trivial⟩ ?hc (fun _ _ => ?_) | refine o_new rfl rfl rfl ⟨(none, _), Nat.le_refl _⟩ ?hc (fun _ _ => ?_) | refine o_new rfl rfl rfl ⟨(), trivial⟩ ?hc (fun _ _ => ?_) | refine o_put rfl rfl rfl trivial ?hc ?_ | refine d_val rfl rfl trivial ?hc ?_ | refine d_new rfl rfl rfl ⟨0, trivial⟩ ?hc (fun _ _ => ?_) | refine d_new rfl rfl rfl ⟨(none, _), Nat.le_refl _⟩ ?hc (fun _ _ => ?_) | refine d_new rfl rfl rfl ⟨(), trivial⟩ ?hc (fun _ _ => ?_) | refine d_put rfl rfl rfl trivial ?hc ?_); (case hc => (first | ((try simp only [needIf]); (try simp only [need]); (try simp only [imp]); done) | ((try simp only [needIf]); (try simp only [need]); (try simp only [imp]); (try simp only [cutOff]); (repeat' apply And.intro) <;> (first | trivial | rfl | omega | (simp; done) | (simp; omega) | (intros; rfl) | (intros; trivial) | (exact Nat.le_trans (Nat.mul_le_mul_right _ (show _ ≤ 100000000001 by omega)) (by decide)) | (intro hg_; first | exact hg_ | ((try simp only [decide_eq_true_eq] at hg_); (try rw [wi64 (by omega) (by omega)]); (repeat' apply And.intro) <;> (first | trivial | rfl | omega | (intros; rfl) | (intros; trivial))))))))))
        refine s_ret ?_
        exact ⟨_, _, rfl, ⟨trivial, trivial⟩, rfl, by unfold shareF; rw [if_pos h1]; rfl⟩
      repeat (first
        | refine s_seq ?_
        | refine s_region ?_
        | refine o_val rfl rfl trivial trivial ?_
        | refine o_new rfl rfl rfl ⟨0, trivial⟩ trivial (fun _ _ => ?_)
        | refine o_new rfl rfl rfl ⟨(), trivial⟩ trivial (fun _ _ => ?_)
        | refine o_put rfl rfl rfl trivial trivial ?_
        | refine o_nil ?_
        | refine d_val rfl rfl trivial trivial ?_
        | refine d_new rfl rfl rfl ⟨0, trivial⟩ trivial (fun _ _ => ?_)
        | refine d_new rfl rfl rfl ⟨(), trivial⟩ trivial (fun _ _ => ?_)
        | refine d_put rfl rfl rfl trivial trivial ?_
        | refine d_nil ?_
        | refine s_skip ?_
        | refine s_block ?_
        | refine s_exit ?_
        | refine s_label ?_
        | ((first | refine o_val rfl rfl trivial ?hc ?_ | refine o_new rfl rfl rfl ⟨0, trivial⟩ ?hc (fun _ _ => ?_) | refine o_new rfl rfl rfl ⟨(none, _), Nat.le_refl _⟩ ?hc (fun _ _ => ?_) | refine o_new rfl rfl rfl ⟨(), trivial⟩ ?hc (fun _ _ => ?_) | refine o_put rfl rfl rfl trivial ?hc ?_ | refine d_val rfl rfl trivial ?hc ?_ | refine d_new rfl rfl rfl ⟨0, trivial⟩ ?hc (fun _ _ => ?_) | refine d_new rfl rfl rfl ⟨(none, _), Nat.le_refl _⟩ ?hc (fun _ _ => ?_) | refine d_new rfl rfl rfl ⟨(), trivial⟩ ?hc (fun _ _ => ?_) | refine d_put rfl rfl rfl trivial ?hc ?_); (case hc => (first | ((try simp only [needIf]); (try simp only [need]); (try simp only [imp]); done) | ((try simp only [needIf]); (try simp only [need]); (try simp only [imp]); (try simp only [cutOff]); (repeat' apply And.intro) <;> (first | trivial | rfl | omega | (simp; done) | (simp; omega) | (intros; rfl) | (intros; trivial) | (exact Nat.le_trans (Nat.mul_le_mul_right _ (show _ ≤ 100000000001 by omega)) (by decide)) | (intro hg_; first | exact hg_ | ((try simp only [decide_eq_true_eq] at hg_); (try rw [wi64 (by omega) (by omega)]); (repeat' apply And.intro) <;> (first | trivial | rfl | omega | (intros; rfl) | (intros; trivial))))))))))
      refine s_ret ?_
      exact ⟨_, _, rfl, ⟨trivial, trivial⟩, rfl, by unfold shareF; rw [if_neg (by rw [h1]; decide)]; rfl⟩
    · cases h
  · cases h
set_option maxRecDepth 100000 in
theorem share_body : HasBody Try.prog 57 := ⟨_, Try.func57, rfl, by decide⟩
def ctSh : CtL := [(57, shareC)]
set_option maxRecDepth 100000 in
theorem ctSh_ok : CtLOk Try.prog ctSh := ⟨.fn share_body share_read, trivial⟩
def quoC (k : Int) (args : List AV) (M : MemF) : Option (Prop × AV) := match args with
  | [.agg (.cons x .nil)] => match mbsOf M x with
    | some (c, n, g) => some (c, .v (.int .u64 (shareF g n k)))
    | none => none
  | _ => none
set_option maxRecDepth 100000 in
theorem quo_read : ReadFn Try.prog 30 (quoC 2) := by
  intro args M q res h hq O w0 w hS
  unfold quoC at h
  split at h
  · rename_i x
    split at h
    · rename_i c n g hm
      cases h
      obtain ⟨hn, base, cap, hv, hro⟩ := mbs_ro hS hm hq
      have hpl := mbs_plain hm
      rw [hv] at hpl
      rw [show [AV.agg (.cons x .nil)].map AV.val = [AV.agg (.cons (roS 900 base 3 n cap) .nil)].map AV.val by simp only [List.map_cons, List.map_nil, agg1_val hpl (roS_cells 900 base 3 n cap)]]
      refine ro_fn tabs ctSh_ok (cr := []) trivial Try.func30 rfl rfl (M := [(900, roB base 3 n fun i => encMb (g i))]) rfl ⟨roB_noOwn, trivial⟩ ⟨hro, trivial⟩ ?_
      repeat (first
        | refine s_seq ?_
        | refine s_region ?_
        | refine o_val rfl rfl trivial trivial ?_
        | refine o_new rfl rfl rfl ⟨0, trivial⟩ trivial (fun _ _ => ?_)
        | refine o_new rfl rfl rfl ⟨(), trivial⟩ trivial (fun _ _ => ?_)
        | refine o_put rfl rfl rfl trivial trivial ?_
        | refine o_nil ?_
        | refine d_val rfl rfl trivial trivial ?_
        | refine d_new rfl rfl rfl ⟨0, trivial⟩ trivial (fun _ _ => ?_)
        | refine d_new rfl rfl rfl ⟨(), trivial⟩ trivial (fun _ _ => ?_)
        | refine d_put rfl rfl rfl trivial trivial ?_
        | refine d_nil ?_
        | refine s_skip ?_
        | refine s_block ?_
        | refine s_exit ?_
        | refine s_label ?_
        | ((first | refine o_val rfl rfl trivial ?hc ?_ | refine o_new rfl rfl rfl ⟨0, trivial⟩ ?hc (fun _ _ => ?_) | refine o_new rfl rfl rfl ⟨(none, _), Nat.le_refl _⟩ ?hc (fun _ _ => ?_) | refine o_new rfl rfl rfl ⟨(), trivial⟩ ?hc (fun _ _ => ?_) | refine o_put rfl rfl rfl trivial ?hc ?_ | refine d_val rfl rfl trivial ?hc ?_ | refine d_new rfl rfl rfl ⟨0, trivial⟩ ?hc (fun _ _ => ?_) | refine d_new rfl rfl rfl ⟨(none, _), Nat.le_refl _⟩ ?hc (fun _ _ => ?_) | refine d_new rfl rfl rfl ⟨(), trivial⟩ ?hc (fun _ _ => ?_) | refine d_put rfl rfl rfl trivial ?hc ?_); (case hc => (first | ((try simp only [needIf]); (try simp only [need]); (try simp only [imp]); done) | ((try simp only [needIf]); (try simp only [need]); (try simp only [imp]); (try simp only [cutOff]); (repeat' apply And.intro) <;> (first | trivial | rfl | omega | (simp; done) | (simp; omega) | (intros; rfl) | (intros; trivial) | (exact Nat.le_trans (Nat.mul_le_mul_right _ (show _ ≤ 100000000001 by omega)) (by decide)) | (intro hg_; first | exact hg_ | ((try simp only [decide_eq_true_eq] at hg_); (try rw [wi64 (by omega) (by omega)]); (repeat' apply And.intro) <;> (first | trivial | rfl | omega | (intros; rfl) | (intros; trivial))))))))))
      refine s_ret ?_
      exact ⟨_, _, rfl, ⟨trivial, trivial⟩, rfl, rfl⟩
    · cases h
  · cases h
set_option maxRecDepth 100000 in
theorem thi_read : ReadFn Try.prog 31 (quoC 1) := by
  intro args M q res h hq O w0 w hS
  unfold quoC at h
  split at h
  · rename_i x
    split at h
    · rename_i c n g hm
      cases h
      obtain ⟨hn, base, cap, hv, hro⟩ := mbs_ro hS hm hq
      have hpl := mbs_plain hm
      rw [hv] at hpl
      rw [show [AV.agg (.cons x .nil)].map AV.val = [AV.agg (.cons (roS 900 base 3 n cap) .nil)].map AV.val by simp only [List.map_cons, List.map_nil, agg1_val hpl (roS_cells 900 base 3 n cap)]]
      refine ro_fn tabs ctSh_ok (cr := []) trivial Try.func31 rfl rfl (M := [(900, roB base 3 n fun i => encMb (g i))]) rfl ⟨roB_noOwn, trivial⟩ ⟨hro, trivial⟩ ?_
      repeat (first
        | refine s_seq ?_
        | refine s_region ?_
        | refine o_val rfl rfl trivial trivial ?_
        | refine o_new rfl rfl rfl ⟨0, trivial⟩ trivial (fun _ _ => ?_)
        | refine o_new rfl rfl rfl ⟨(), trivial⟩ trivial (fun _ _ => ?_)
        | refine o_put rfl rfl rfl trivial trivial ?_
        | refine o_nil ?_
        | refine d_val rfl rfl trivial trivial ?_
        | refine d_new rfl rfl rfl ⟨0, trivial⟩ trivial (fun _ _ => ?_)
        | refine d_new rfl rfl rfl ⟨(), trivial⟩ trivial (fun _ _ => ?_)
        | refine d_put rfl rfl rfl trivial trivial ?_
        | refine d_nil ?_
        | refine s_skip ?_
        | refine s_block ?_
        | refine s_exit ?_
        | refine s_label ?_
        | ((first | refine o_val rfl rfl trivial ?hc ?_ | refine o_new rfl rfl rfl ⟨0, trivial⟩ ?hc (fun _ _ => ?_) | refine o_new rfl rfl rfl ⟨(none, _), Nat.le_refl _⟩ ?hc (fun _ _ => ?_) | refine o_new rfl rfl rfl ⟨(), trivial⟩ ?hc (fun _ _ => ?_) | refine o_put rfl rfl rfl trivial ?hc ?_ | refine d_val rfl rfl trivial ?hc ?_ | refine d_new rfl rfl rfl ⟨0, trivial⟩ ?hc (fun _ _ => ?_) | refine d_new rfl rfl rfl ⟨(none, _), Nat.le_refl _⟩ ?hc (fun _ _ => ?_) | refine d_new rfl rfl rfl ⟨(), trivial⟩ ?hc (fun _ _ => ?_) | refine d_put rfl rfl rfl trivial ?hc ?_); (case hc => (first | ((try simp only [needIf]); (try simp only [need]); (try simp only [imp]); done) | ((try simp only [needIf]); (try simp only [need]); (try simp only [imp]); (try simp only [cutOff]); (repeat' apply And.intro) <;> (first | trivial | rfl | omega | (simp; done) | (simp; omega) | (intros; rfl) | (intros; trivial) | (exact Nat.le_trans (Nat.mul_le_mul_right _ (show _ ≤ 100000000001 by omega)) (by decide)) | (intro hg_; first | exact hg_ | ((try simp only [decide_eq_true_eq] at hg_); (try rw [wi64 (by omega) (by omega)]); (repeat' apply And.intro) <;> (first | trivial | rfl | omega | (intros; rfl) | (intros; trivial))))))))))
      refine s_ret ?_
      exact ⟨_, _, rfl, ⟨trivial, trivial⟩, rfl, rfl⟩
    · cases h
  · cases h
set_option maxRecDepth 100000 in
theorem quo_body : HasBody Try.prog 30 := ⟨_, Try.func30, rfl, by decide⟩
set_option maxRecDepth 100000 in
theorem thi_body : HasBody Try.prog 31 := ⟨_, Try.func31, rfl, by decide⟩

/-! ### Index -/
def atAddr (a : Int) (m : Mb) : Bool := m.addr == a
theorem idx1_calls {w : World} {b o : Nat} (m : Mb) (a : Int) (hr : Reads w b o 1 1 fun _ => .v (.int .u64 a)) :
    Calls Try.prog 59 #[(encMb m).val, .pointer (some ⟨b, o, none⟩)] w fun e w' => e = .returned (.bool (atAddr a m)) ∧ Below w.heap.size w w' := by
  rw [show #[(encMb m).val, .pointer (some ⟨b, o, none⟩)] = ([encMb m, roP 901 b o 1].map AV.val).toArray by simp only [List.map_cons, List.map_nil, roP_val]]
  refine ro_fn tabs (ct := []) trivial (cr := []) trivial Try.func59 rfl rfl (res := .v (.bool (atAddr a m))) (M := [(901, roB (some (b, o)) 1 1 fun _ => .v (.int .u64 a))]) rfl ⟨roB_noOwn, trivial⟩ ⟨roB_holds fun _ => ⟨b, o, rfl, hr⟩, trivial⟩ ?_
  repeat (first
    | refine s_seq ?_
    | refine s_region ?_
    | refine o_val rfl rfl trivial trivial ?_
    | refine o_new rfl rfl rfl ⟨0, trivial⟩ trivial (fun _ _ => ?_)
    | refine o_new rfl rfl rfl ⟨(), trivial⟩ trivial (fun _ _ => ?_)
    | refine o_put rfl rfl rfl trivial trivial ?_
    | refine o_nil ?_
    | refine d_val rfl rfl trivial trivial ?_
    | refine d_new rfl rfl rfl ⟨0, trivial⟩ trivial (fun _ _ => ?_)
    | refine d_new rfl rfl rfl ⟨(), trivial⟩ trivial (fun _ _ => ?_)
    | refine d_put rfl rfl rfl trivial trivial ?_
    | refine d_nil ?_
    | refine s_skip ?_
    | refine s_block ?_
    | refine s_exit ?_
    | refine s_label ?_
    | ((first | refine o_val rfl rfl trivial ?hc ?_ | refine o_new rfl rfl rfl ⟨0, trivial⟩ ?hc (fun _ _ => ?_) | refine o_new rfl rfl rfl ⟨(none, _), Nat.le_refl _⟩ ?hc (fun _ _ => ?_) | refine o_new rfl rfl rfl ⟨(), trivial⟩ ?hc (fun _ _ => ?_) | refine o_put rfl rfl rfl trivial ?hc ?_ | refine d_val rfl rfl trivial ?hc ?_ | refine d_new rfl rfl rfl ⟨0, trivial⟩ ?hc (fun _ _ => ?_) | refine d_new rfl rfl rfl ⟨(none, _), Nat.le_refl _⟩ ?hc (fun _ _ => ?_) | refine d_new rfl rfl rfl ⟨(), trivial⟩ ?hc (fun _ _ => ?_) | refine d_put rfl rfl rfl trivial ?hc ?_); (case hc => (first | ((try simp only [needIf]); (try simp only [need]); (try simp only [imp]); done) | ((try simp only [needIf]); (try simp only [need]); (try simp only [imp]); (try simp only [cutOff]); (repeat' apply And.intro) <;> (first | trivial | rfl | omega | (simp; done) | (simp; omega) | (intros; rfl) | (intros; trivial) | (exact Nat.le_trans (Nat.mul_le_mul_right _ (show _ ≤ 100000000001 by omega)) (by decide)) | (intro hg_; first | exact hg_ | ((try simp only [decide_eq_true_eq] at hg_); (try rw [wi64 (by omega) (by omega)]); (repeat' apply And.intro) <;> (first | trivial | rfl | omega | (intros; rfl) | (intros; trivial))))))))))
  refine s_ret ?_
  exact ⟨_, _, rfl, ⟨trivial, trivial⟩, rfl, rfl⟩
set_option maxRecDepth 100000 in
theorem idx1_body : HasBody Try.prog 59 := ⟨_, Try.func59, rfl, by decide⟩
def idxF (g : Nat → Mb) (n : Nat) (a : Int) : Int := firstI (fun i => atAddr a (g i)) n 0
def idxC (args : List AV) (M : MemF) : Option (Prop × AV) := match args with
  | [.agg (.cons x .nil), .v (.int .u64 a)] => match mbsOf M x with
    | some (c, n, g) => some (c, .v (.int .i64 (idxF g n a)))
    | none => none
  | _ => none
set_option maxRecDepth 100000 in
theorem idx_read : ReadFn Try.prog 34 idxC := by
  intro args M q res h hq O w0 w hS
  unfold idxC at h
  split at h
  · rename_i x a
    split at h
    · rename_i c n g hm
      cases h
      obtain ⟨hn, base, cap, hv, hro⟩ := mbs_ro hS hm hq
      have hpl := mbs_plain hm
      rw [hv] at hpl
      rw [show [AV.agg (.cons x .nil), .v (.int .u64 a)].map AV.val = [AV.agg (.cons (roS 900 base 3 n cap) .nil), .v (.int .u64 a)].map AV.val by simp only [List.map_cons, List.map_nil, agg1_val hpl (roS_cells 900 base 3 n cap)]]
      refine ro_fn tabs (ct := []) trivial (cr := []) trivial Try.func34 rfl rfl (M := [(900, roB base 3 n fun i => encMb (g i))]) rfl ⟨roB_noOwn, trivial⟩ ⟨hro, trivial⟩ ?_
      repeat (first
        | refine s_seq ?_
        | refine s_region ?_
        | refine o_val rfl rfl trivial trivial ?_
        | refine o_new rfl rfl rfl ⟨0, trivial⟩ trivial (fun _ _ => ?_)
        | refine o_new rfl rfl rfl ⟨(), trivial⟩ trivial (fun _ _ => ?_)
        | refine o_put rfl rfl rfl trivial trivial ?_
        | refine o_nil ?_
        | refine d_val rfl rfl trivial trivial ?_
        | refine d_new rfl rfl rfl ⟨0, trivial⟩ trivial (fun _ _ => ?_)
        | refine d_new rfl rfl rfl ⟨(), trivial⟩ trivial (fun _ _ => ?_)
        | refine d_put rfl rfl rfl trivial trivial ?_
        | refine d_nil ?_
        | refine s_skip ?_
        | refine s_block ?_
        | refine s_exit ?_
        | refine s_label ?_
        | ((first | refine o_val rfl rfl trivial ?hc ?_ | refine o_new rfl rfl rfl ⟨0, trivial⟩ ?hc (fun _ _ => ?_) | refine o_new rfl rfl rfl ⟨(none, _), Nat.le_refl _⟩ ?hc (fun _ _ => ?_) | refine o_new rfl rfl rfl ⟨(), trivial⟩ ?hc (fun _ _ => ?_) | refine o_put rfl rfl rfl trivial ?hc ?_ | refine d_val rfl rfl trivial ?hc ?_ | refine d_new rfl rfl rfl ⟨0, trivial⟩ ?hc (fun _ _ => ?_) | refine d_new rfl rfl rfl ⟨(none, _), Nat.le_refl _⟩ ?hc (fun _ _ => ?_) | refine d_new rfl rfl rfl ⟨(), trivial⟩ ?hc (fun _ _ => ?_) | refine d_put rfl rfl rfl trivial ?hc ?_); (case hc => (first | ((try simp only [needIf]); (try simp only [need]); (try simp only [imp]); done) | ((try simp only [needIf]); (try simp only [need]); (try simp only [imp]); (try simp only [cutOff]); (repeat' apply And.intro) <;> (first | trivial | rfl | omega | (simp; done) | (simp; omega) | (intros; rfl) | (intros; trivial) | (exact Nat.le_trans (Nat.mul_le_mul_right _ (show _ ≤ 100000000001 by omega)) (by decide)) | (intro hg_; first | exact hg_ | ((try simp only [decide_eq_true_eq] at hg_); (try rw [wi64 (by omega) (by omega)]); (repeat' apply And.intro) <;> (first | trivial | rfl | omega | (intros; rfl) | (intros; trivial))))))))))
      rename_i bc _ ba _
      refine o_callf (.v (.int .i64 (idxF g n a))) rfl rfl rfl rfl rfl trivial index47_body (fun w' hS' => ?_) ?_
      · have hr : RowHolds w' ba _ _ _ _ _ := hS'.holds 3 _ rfl
        have := index47 (cap := cap) hn (hS'.holds 900 _ rfl) (fid := 59) (caps := .cons (roP 3 ba 0 1) .nil) idx1_body (fun i => atAddr a (g i)) fun i hi w2 hb2 => by
          have h2 := idx1_calls (g i) a (hr.reads.below hb2)
          refine (show Calls Try.prog 59 ([encMb (g i), roP 3 ba 0 1].map AV.val).toArray w2 _ from ?_)
          simpa only [List.map_cons, List.map_nil, roP_val] using h2
        refine (show Calls Try.prog 58 ([roS 900 base 3 n cap, .fn 59 (.cons (roP 3 ba 0 1) .nil)].map AV.val).toArray w' _ from ?_)
        simpa only [List.map_cons, List.map_nil, roS_val, AV.val_v, idxF] using this
      repeat (first
        | refine s_seq ?_
        | refine s_region ?_
        | refine o_val rfl rfl trivial trivial ?_
        | refine o_new rfl rfl rfl ⟨0, trivial⟩ trivial (fun _ _ => ?_)
        | refine o_new rfl rfl rfl ⟨(), trivial⟩ trivial (fun _ _ => ?_)
        | refine o_put rfl rfl rfl trivial trivial ?_
        | refine o_nil ?_
        | refine d_val rfl rfl trivial trivial ?_
        | refine d_new rfl rfl rfl ⟨0, trivial⟩ trivial (fun _ _ => ?_)
        | refine d_new rfl rfl rfl ⟨(), trivial⟩ trivial (fun _ _ => ?_)
        | refine d_put rfl rfl rfl trivial trivial ?_
        | refine d_nil ?_
        | refine s_skip ?_
        | refine s_block ?_
        | refine s_exit ?_
        | refine s_label ?_
        | ((first | refine o_val rfl rfl trivial ?hc ?_ | refine o_new rfl rfl rfl ⟨0, trivial⟩ ?hc (fun _ _ => ?_) | refine o_new rfl rfl rfl ⟨(none, _), Nat.le_refl _⟩ ?hc (fun _ _ => ?_) | refine o_new rfl rfl rfl ⟨(), trivial⟩ ?hc (fun _ _ => ?_) | refine o_put rfl rfl rfl trivial ?hc ?_ | refine d_val rfl rfl trivial ?hc ?_ | refine d_new rfl rfl rfl ⟨0, trivial⟩ ?hc (fun _ _ => ?_) | refine d_new rfl rfl rfl ⟨(none, _), Nat.le_refl _⟩ ?hc (fun _ _ => ?_) | refine d_new rfl rfl rfl ⟨(), trivial⟩ ?hc (fun _ _ => ?_) | refine d_put rfl rfl rfl trivial ?hc ?_); (case hc => (first | ((try simp only [needIf]); (try simp only [need]); (try simp only [imp]); done) | ((try simp only [needIf]); (try simp only [need]); (try simp only [imp]); (try simp only [cutOff]); (repeat' apply And.intro) <;> (first | trivial | rfl | omega | (simp; done) | (simp; omega) | (intros; rfl) | (intros; trivial) | (exact Nat.le_trans (Nat.mul_le_mul_right _ (show _ ≤ 100000000001 by omega)) (by decide)) | (intro hg_; first | exact hg_ | ((try simp only [decide_eq_true_eq] at hg_); (try rw [wi64 (by omega) (by omega)]); (repeat' apply And.intro) <;> (first | trivial | rfl | omega | (intros; rfl) | (intros; trivial))))))))))
      refine s_ret ?_
      exact ⟨_, _, rfl, ⟨trivial, trivial⟩, rfl, rfl⟩
    · cases h
  · cases h
set_option maxRecDepth 100000 in
theorem idx_body : HasBody Try.prog 34 := ⟨_, Try.func34, rfl, by decide⟩

/-! ### Clone -/
def cloneC (tag : Nat) (args : List AV) (M : MemF) : Option Res := match args with
  | [x] => match mbsOf M x with
    | some (c, n, g) => some ⟨Option Nat × Nat, c ∧ n < 100000000000, fun x => n ≤ x.2, fun x => .gs tag 0 (ownB x.1) 3 0 n x.2, [tag], fun x => [.vrow x.1 88 3 n (fun i => encMb (g i)) x.2]⟩
    | none => none
  | _ => none
set_option maxRecDepth 100000 in
theorem clone_turn : TurnFn Try.prog 29 cloneC := by
  intro tag args M r h0 hok O w0 w hS
  unfold cloneC at h0
  split at h0
  · rename_i x
    split at h0
    · rename_i c n g hm
      cases h0
      obtain ⟨hq, hnn⟩ := hok
      obtain ⟨hn, base, cap, hv, hro⟩ := mbs_ro hS hm hq
      rw [show [x].map AV.val = [roS 900 base 3 n cap].map AV.val by simp only [List.map_cons, List.map_nil, hv, roS_val]]
      cases base with
      | none =>
        have h0 : n = 0 := (hro 0).1 rfl
        subst h0
        refine turn_fn tabs (ct := []) trivial (cr := []) trivial Try.func29 rfl rfl hS _ [(900, .vrow none 88 3 0 (fun _ => .nil) 0)] [] [900] rfl ⟨⟨rfl, rfl⟩, trivial⟩ (fun n' B' k hn ho => ?_) (fun _ _ _ _ _ _ _ _ h => (by cases h)) (fun _ _ _ h => (by cases h)) (fun _ _ h => (by cases h)) (by decide) rfl ?_
        · rw [Mem.get_cons] at hn
          split at hn
          · cases hn; cases ho
          · cases hn
        repeat (first
          | refine s_seq ?_
          | refine s_region ?_
          | refine o_val rfl rfl trivial trivial ?_
          | refine o_new rfl rfl rfl ⟨0, trivial⟩ trivial (fun _ _ => ?_)
          | refine o_new rfl rfl rfl ⟨(), trivial⟩ trivial (fun _ _ => ?_)
          | refine o_put rfl rfl rfl trivial trivial ?_
          | refine o_nil ?_
          | refine d_val rfl rfl trivial trivial ?_
          | refine d_new rfl rfl rfl ⟨0, trivial⟩ trivial (fun _ _ => ?_)
          | refine d_new rfl rfl rfl ⟨(), trivial⟩ trivial (fun _ _ => ?_)
          | refine d_put rfl rfl rfl trivial trivial ?_
          | refine d_nil ?_
          | refine s_skip ?_
          | refine s_block ?_
          | refine s_exit ?_
          | refine s_label ?_
          | ((first | refine o_val rfl rfl trivial ?hc ?_ | refine o_new rfl rfl rfl ⟨0, trivial⟩ ?hc (fun _ _ => ?_) | refine o_new rfl rfl rfl ⟨(none, _), Nat.le_refl _⟩ ?hc (fun _ _ => ?_) | refine o_new rfl rfl rfl ⟨(), trivial⟩ ?hc (fun _ _ => ?_) | refine o_put rfl rfl rfl trivial ?hc ?_ | refine d_val rfl rfl trivial ?hc ?_ | refine d_new rfl rfl rfl ⟨0, trivial⟩ ?hc (fun _ _ => ?_) | refine d_new rfl rfl rfl ⟨(none, _), Nat.le_refl _⟩ ?hc (fun _ _ => ?_) | refine d_new rfl rfl rfl ⟨(), trivial⟩ ?hc (fun _ _ => ?_) | refine d_put rfl rfl rfl trivial ?hc ?_); (case hc => (first | ((try simp only [needIf]); (try simp only [need]); (try simp only [imp]); done) | ((try simp only [needIf]); (try simp only [need]); (try simp only [imp]); (try simp only [cutOff]); (repeat' apply And.intro) <;> (first | trivial | rfl | omega | (simp; done) | (simp; omega) | (intros; rfl) | (intros; trivial) | (exact Nat.le_trans (Nat.mul_le_mul_right _ (show _ ≤ 100000000001 by omega)) (by decide)) | (intro hg_; first | exact hg_ | ((try simp only [decide_eq_true_eq] at hg_); (try rw [wi64 (by omega) (by omega)]); (repeat' apply And.intro) <;> (first | trivial | rfl | omega | (intros; rfl) | (intros; trivial))))))))))
        refine s_cond (b := true) rfl (fun h1 => ?_) (fun h1 => by cases h1)
        repeat (first
          | refine s_seq ?_
          | refine s_region ?_
          | refine o_val rfl rfl trivial trivial ?_
          | refine o_new rfl rfl rfl ⟨0, trivial⟩ trivial (fun _ _ => ?_)
          | refine o_new rfl rfl rfl ⟨(), trivial⟩ trivial (fun _ _ => ?_)
          | refine o_put rfl rfl rfl trivial trivial ?_
          | refine o_nil ?_
          | refine d_val rfl rfl trivial trivial ?_
          | refine d_new rfl rfl rfl ⟨0, trivial⟩ trivial (fun _ _ => ?_)
          | refine d_new rfl rfl rfl ⟨(), trivial⟩ trivial (fun _ _ => ?_)
          | refine d_put rfl rfl rfl trivial trivial ?_
          | refine d_nil ?_
          | refine s_skip ?_
          | refine s_block ?_
          | refine s_exit ?_
          | refine s_label ?_
          | ((first | refine o_val rfl rfl trivial ?hc ?_ | refine o_new rfl rfl rfl ⟨0, trivial⟩ ?hc (fun _ _ => ?_) | refine o_new rfl rfl rfl ⟨(none, _), Nat.le_refl _⟩ ?hc (fun _ _ => ?_) | refine o_new rfl rfl rfl ⟨(), trivial⟩ ?hc (fun _ _ => ?_) | refine o_put rfl rfl rfl trivial ?hc ?_ | refine d_val rfl rfl trivial ?hc ?_ | refine d_new rfl rfl rfl ⟨0, trivial⟩ ?hc (fun _ _ => ?_) | refine d_new rfl rfl rfl ⟨(none, _), Nat.le_refl _⟩ ?hc (fun _ _ => ?_) | refine d_new rfl rfl rfl ⟨(), trivial⟩ ?hc (fun _ _ => ?_) | refine d_put rfl rfl rfl trivial ?hc ?_); (case hc => (first | ((try simp only [needIf]); (try simp only [need]); (try simp only [imp]); done) | ((try simp only [needIf]); (try simp only [need]); (try simp only [imp]); (try simp only [cutOff]); (repeat' apply And.intro) <;> (first | trivial | rfl | omega | (simp; done) | (simp; omega) | (intros; rfl) | (intros; trivial) | (exact Nat.le_trans (Nat.mul_le_mul_right _ (show _ ≤ 100000000001 by omega)) (by decide)) | (intro hg_; first | exact hg_ | ((try simp only [decide_eq_true_eq] at hg_); (try rw [wi64 (by omega) (by omega)]); (repeat' apply And.intro) <;> (first | trivial | rfl | omega | (intros; rfl) | (intros; trivial))))))))))
        refine s_ret ?_
        exact ⟨_, _, rfl, ⟨trivial, trivial⟩, rfl, (none, 0), Nat.le_refl _, rfl, ⟨⟨_, rfl, Blk.le_vrow (Nat.le_refl _) (fun i hi => absurd hi (by omega))⟩, fun _ h => h⟩, trivial⟩
      | some bo =>
        refine turn_fn tabs (ct := []) trivial (cr := []) trivial Try.func29 rfl rfl hS _ [(900, roB (some bo) 3 n fun i => encMb (g i))] [] [5] rfl ⟨hro, trivial⟩ (fun n' B' k hn ho => ?_) (fun _ _ _ _ _ _ _ _ h => (by cases h)) (fun _ _ _ h => (by cases h)) (fun _ _ h => (by cases h)) (by decide) rfl ?_
        · rw [Mem.get_cons] at hn
          split at hn
          · cases hn; exact (roB_noOwn k ho).elim
          · cases hn
        repeat (first
          | refine s_seq ?_
          | refine s_region ?_
          | refine o_val rfl rfl trivial trivial ?_
          | refine o_new rfl rfl rfl ⟨0, trivial⟩ trivial (fun _ _ => ?_)
          | refine o_new rfl rfl rfl ⟨(), trivial⟩ trivial (fun _ _ => ?_)
          | refine o_put rfl rfl rfl trivial trivial ?_
          | refine o_nil ?_
          | refine d_val rfl rfl trivial trivial ?_
          | refine d_new rfl rfl rfl ⟨0, trivial⟩ trivial (fun _ _ => ?_)
          | refine d_new rfl rfl rfl ⟨(), trivial⟩ trivial (fun _ _ => ?_)
          | refine d_put rfl rfl rfl trivial trivial ?_
          | refine d_nil ?_
          | refine s_skip ?_
          | refine s_block ?_
          | refine s_exit ?_
          | refine s_label ?_
          | ((first | refine o_val rfl rfl trivial ?hc ?_ | refine o_new rfl rfl rfl ⟨0, trivial⟩ ?hc (fun _ _ => ?_) | refine o_new rfl rfl rfl ⟨(none, _), Nat.le_refl _⟩ ?hc (fun _ _ => ?_) | refine o_new rfl rfl rfl ⟨(), trivial⟩ ?hc (fun _ _ => ?_) | refine o_put rfl rfl rfl trivial ?hc ?_ | refine d_val rfl rfl trivial ?hc ?_ | refine d_new rfl rfl rfl ⟨0, trivial⟩ ?hc (fun _ _ => ?_) | refine d_new rfl rfl rfl ⟨(none, _), Nat.le_refl _⟩ ?hc (fun _ _ => ?_) | refine d_new rfl rfl rfl ⟨(), trivial⟩ ?hc (fun _ _ => ?_) | refine d_put rfl rfl rfl trivial ?hc ?_); (case hc => (first | ((try simp only [needIf]); (try simp only [need]); (try simp only [imp]); done) | ((try simp only [needIf]); (try simp only [need]); (try simp only [imp]); (try simp only [cutOff]); (repeat' apply And.intro) <;> (first | trivial | rfl | omega | (simp; done) | (simp; omega) | (intros; rfl) | (intros; trivial) | (exact Nat.le_trans (Nat.mul_le_mul_right _ (show _ ≤ 100000000001 by omega)) (by decide)) | (intro hg_; first | exact hg_ | ((try simp only [decide_eq_true_eq] at hg_); (try rw [wi64 (by omega) (by omega)]); (repeat' apply And.intro) <;> (first | trivial | rfl | omega | (intros; rfl) | (intros; trivial))))))))))
        refine s_cond (b := false) rfl (fun h1 => by cases h1) (fun h1 => ?_)
        repeat (first
          | refine s_seq ?_
          | refine s_region ?_
          | refine o_val rfl rfl trivial trivial ?_
          | refine o_new rfl rfl rfl ⟨0, trivial⟩ trivial (fun _ _ => ?_)
          | refine o_new rfl rfl rfl ⟨(), trivial⟩ trivial (fun _ _ => ?_)
          | refine o_put rfl rfl rfl trivial trivial ?_
          | refine o_nil ?_
          | refine d_val rfl rfl trivial trivial ?_
          | refine d_new rfl rfl rfl ⟨0, trivial⟩ trivial (fun _ _ => ?_)
          | refine d_new rfl rfl rfl ⟨(), trivial⟩ trivial (fun _ _ => ?_)
          | refine d_put rfl rfl rfl trivial trivial ?_
          | refine d_nil ?_
          | refine s_skip ?_
          | refine s_block ?_
          | refine s_exit ?_
          | refine s_label ?_
          | ((first | refine o_val rfl rfl trivial ?hc ?_ | refine o_new rfl rfl rfl ⟨0, trivial⟩ ?hc (fun _ _ => ?_) | refine o_new rfl rfl rfl ⟨(none, _), Nat.le_refl _⟩ ?hc (fun _ _ => ?_) | refine o_new rfl rfl rfl ⟨(), trivial⟩ ?hc (fun _ _ => ?_) | refine o_put rfl rfl rfl trivial ?hc ?_ | refine d_val rfl rfl trivial ?hc ?_ | refine d_new rfl rfl rfl ⟨0, trivial⟩ ?hc (fun _ _ => ?_) | refine d_new rfl rfl rfl ⟨(none, _), Nat.le_refl _⟩ ?hc (fun _ _ => ?_) | refine d_new rfl rfl rfl ⟨(), trivial⟩ ?hc (fun _ _ => ?_) | refine d_put rfl rfl rfl trivial ?hc ?_); (case hc => (first | ((try simp only [needIf]); (try simp only [need]); (try simp only [imp]); done) | ((try simp only [needIf]); (try simp only [need]); (try simp only [imp]); (try simp only [cutOff]); (repeat' apply And.intro) <;> (first | trivial | rfl | omega | (simp; done) | (simp; omega) | (intros; rfl) | (intros; trivial) | (exact Nat.le_trans (Nat.mul_le_mul_right _ (show _ ≤ 100000000001 by omega)) (by decide)) | (intro hg_; first | exact hg_ | ((try simp only [decide_eq_true_eq] at hg_); (try rw [wi64 (by omega) (by omega)]); (repeat' apply And.intro) <;> (first | trivial | rfl | omega | (intros; rfl) | (intros; trivial))))))))))
        rename_i b0 g0 y gy
        refine s_ret ?_
        refine ⟨_, _, rfl, ⟨trivial, trivial⟩, rfl, y, by show n ≤ y.2; omega, ?_, ⟨⟨_, rfl, Blk.le_vrow (by omega) fun i hi => (fapp_ge (src := fun i => encMb (g i)) (Nat.zero_le i)).symm⟩, fun _ h => h⟩, trivial⟩
        show (AV.gs 5 0 (ownB y.1) 3 0 (0 + n) y.2).val = (AV.gs tag 0 (ownB y.1) 3 0 n y.2).val
        rw [Nat.zero_add]; rfl
    · cases h0
  · cases h0
set_option maxRecDepth 100000 in
theorem clone_body : HasBody Try.prog 29 := ⟨_, Try.func29, rfl, by decide⟩
end Go.Proofs.Ytaohdlepocajcaa.V
