import Derived.Test.YtaohdlepocajcaaVF1
/-! council.sound, Sound; the document's Sound; blame.Power. -/
namespace Go.Proofs.Ytaohdlepocajcaa.V
open Go Go.RowKit

theorem seq_plain {M : MemF} {x : AV} {r : Prop × Nat × Nat × (Nat → AV)} (h : seqOf M x = some r) : x.cells = [x.val] := by
  cases x <;> first | rfl | (simp [seqOf] at h)
theorem mbs_plain {M : MemF} {x : AV} {r : Prop × Nat × (Nat → Mb)} (h : mbsOf M x = some r) : x.cells = [x.val] := by
  unfold mbsOf at h
  split at h
  · rename_i hs; exact seq_plain hs
  · cases h
theorem roS_cells (n : Nat) (base : Option (Nat × Nat)) (es len cap : Nat) : (roS n base es len cap).cells = [slV base len cap] := by
  rw [← roS_val n base es len cap]; rfl
theorem agg1_val {x y : AV} {v : Value} (hx : x.cells = [v]) (hy : y.cells = [v]) : (AV.agg (.cons x .nil)).val = (AV.agg (.cons y .nil)).val := by
  simp [hx, hy]

def mostOf (t : Int) : Int := IntKind.i64.wrap (7 * IntKind.i64.wrap t)
def soundF (g : Nat → Mb) (n : Nat) : Int × Int :=
  if ((membersF g n).2 != 0) = true then (0, (membersF g n).2) else
  if decide (firstI (fun i => prioBad (mostOf (membersF g n).1) (g i)) n 0 ≥ 0) = true then (0, 2) else ((membersF g n).1, 0)
def soundC (args : List AV) (M : MemF) : Option (Prop × AV) := match args with
  | [.agg (.cons x .nil)] => match mbsOf M x with
    | some (c, n, g) => some (c, pairAV (soundF g n))
    | none => none
  | _ => none
def ctS : CtL := [(72, membersC)]
set_option maxRecDepth 100000 in
theorem ctS_ok : CtLOk Try.prog ctS := ⟨.fn members_body members_read, trivial⟩
theorem sound_read : ReadFn Try.prog 56 soundC := by
  intro args M q res h hq O w0 w hS
  unfold soundC at h
  split at h
  · rename_i x
    split at h
    · rename_i c n g hm
      cases h
      obtain ⟨hn, base, cap, hv, hro⟩ := mbs_ro hS hm hq
      have hpl := mbs_plain hm
      rw [hv] at hpl
      rw [show [AV.agg (.cons x .nil)].map AV.val = [AV.agg (.cons (roS 900 base 3 n cap) .nil)].map AV.val by simp only [List.map_cons, List.map_nil, agg1_val hpl (roS_cells 900 base 3 n cap)]]
      refine ro_fn tabs ctS_ok (cr := []) trivial Try.func56 rfl rfl (M := [(900, roB base 3 n fun i => encMb (g i))]) rfl ⟨roB_noOwn, trivial⟩ ⟨hro, trivial⟩ ?_
      repeat (first
        | refine s_seq ?_
        | refine s_region ?_
        | refine o_val rfl rfl trivial trivial ?_
        | refine o_new rfl rfl rfl ⟨0, trivial⟩ trivial (fun _ _ => ?_)
        | refine o_new rfl rfl rfl ⟨(), trivial⟩ trivial (fun _ _ => ?_)
        | refine o_put rfl rfl rfl trivial trivial ?_
        | refine o_nil ?_
        | refine d_val rfl rfl trivial trivial ?_
        | refine d_new rfl rfl rfl ⟨0, trivial⟩ trivial (fun _ _ => ?_)
        | refine d_new rfl rfl rfl ⟨(), trivial⟩ trivial (fun _ _ => ?_)
        | refine d_put rfl rfl rfl trivial trivial ?_
        | refine d_nil ?_
        | refine s_skip ?_
        | refine s_block ?_
        | refine s_exit ?_
        | refine s_label ?_
        | ((first | refine o_val rfl rfl trivial ?hc ?_ | refine o_new rfl rfl rfl ⟨0, trivial⟩ ?hc (fun _ _ => ?_) | refine o_new rfl rfl rfl ⟨(none, _), Nat.le_refl _⟩ ?hc (fun _ _ => ?_) | refine o_new rfl rfl rfl ⟨(), trivial⟩ ?hc (fun _ _ => ?_) | refine o_put rfl rfl rfl trivial ?hc ?_ | refine d_val rfl rfl trivial ?hc ?_ | refine d_new rfl rfl rfl ⟨0, trivial⟩ ?hc (fun _ _ => ?_) | refine d_new rfl rfl rfl ⟨(none, _), Nat.le_refl _⟩ ?hc (fun _ _ => ?_) | refine d_new rfl rfl rfl ⟨(), trivial⟩ ?hc (fun _ _ => ?_) | refine d_put rfl rfl rfl trivial ?hc ?_); (case hc => (first | ((try simp only [needIf]); (try simp only [need]); (try simp only [imp]); done) | ((try simp only [needIf]); (try simp only [need]); (try simp only [imp]); (try simp only [cutOff]); (repeat' apply And.intro) <;> (first | trivial | rfl | omega | (simp; done) | (simp; omega) | (intros; rfl) | (intros; trivial) | (exact Nat.le_trans (Nat.mul_le_mul_right _ (show _ ≤ 100000000001 by omega)) (by decide)) | (intro hg_; first | exact hg_ | ((try simp only [decide_eq_true_eq] at hg_); (try rw [wi64 (by omega) (by omega)]); (repeat' apply And.intro) <;> (first | trivial | rfl | omega | (intros; rfl) | (intros; trivial))))))))))
      refine s_cond (b := ((membersF g n).2 != 0)) rfl (fun h1 => ?_) (fun h1 => ?_)
      · repeat (first
          | refine s_seq ?_
          | refine s_region ?_
          | refine o_val rfl rfl trivial trivial ?_
          | refine o_new rfl rfl rfl ⟨0, trivial⟩ trivial (fun _ _ => ?_)
          | refine o_new rfl rfl rfl ⟨(), trivial⟩ trivial (fun _ _ => ?_)
          | refine o_put rfl rfl rfl trivial trivial ?_
          | refine o_nil ?_
          | refine d_val rfl rfl trivial trivial ?_
          | refine d_new rfl rfl rfl ⟨0, trivial⟩ trivial (fun _ _ => ?_)
          | refine d_new rfl rfl rfl ⟨(), trivial⟩ trivial (fun _ _ => ?_)
          | refine d_put rfl rfl rfl trivial trivial ?_
          | refine d_nil ?_
          | refine s_skip ?_
          | refine s_block ?_
          | refine s_exit ?_
          | refine s_label ?_
          | ((first | refine o_val rfl rfl trivial ?hc ?_ | refine o_new rfl rfl rfl ⟨0, trivial⟩ ?hc (fun _ _ => ?_) | refine o_new rfl rfl rfl ⟨(none, _), Nat.le_refl _⟩ ?hc (fun _ _ => ?_) | refine o_new rfl rfl rfl ⟨(), trivial⟩ ?hc (fun _ _ => ?_) | refine o_put rfl rfl rfl trivial ?hc ?_ | refine d_val rfl rfl trivial ?hc ?_ | refine d_new rfl rfl rfl ⟨0, trivial⟩ ?hc (fun _ _ => ?_) | refine d_new rfl rfl rfl ⟨(none, _), Nat.le_refl _⟩ ?hc (fun _ _ => ?_) | refine d_new rfl rfl rfl ⟨(), trivial⟩ ?hc (fun _ _ => ?_) | refine d_put rfl rfl rfl trivial ?hc ?_); (case hc => (first | ((try simp only [needIf]); (try simp only [need]); (try simp only [imp]); done) | ((try simp only [needIf]); (try simp only [need]); (try simp only [imp]); (try simp only [cutOff]); (repeat' apply And.intro) <;> (first | trivial | rfl | omega | (simp; done) | (simp; omega) | (intros; rfl) | (intros; trivial) | (exact Nat.le_trans (Nat.mul_le_mul_right _ (show _ ≤ 100000000001 by omega)) (by decide)) | (intro hg_; first | exact hg_ | ((try simp only [decide_eq_true_eq] at hg_); (try rw [wi64 (by omega) (by omega)]); (repeat' apply And.intro) <;> (first | trivial | rfl | omega | (intros; rfl) | (intros; trivial))))))))))
        refine s_ret ?_
        exact ⟨_, _, rfl, ⟨trivial, trivial, trivial⟩, rfl, by unfold soundF; rw [if_pos h1]; rfl⟩
      repeat (first
        | refine s_seq ?_
        | refine s_region ?_
        | refine o_val rfl rfl trivial trivial ?_
        | refine o_new rfl rfl rfl ⟨0, trivial⟩ trivial (fun _ _ => ?_)
        | refine o_new rfl rfl rfl ⟨(), trivial⟩ trivial (fun _ _ => ?_)
        | refine o_put rfl rfl rfl trivial trivial ?_
        | refine o_nil ?_
        | refine d_val rfl rfl trivial trivial ?_
        | refine d_new rfl rfl rfl ⟨0, trivial⟩ trivial (fun _ _ => ?_)
        | refine d_new rfl rfl rfl ⟨(), trivial⟩ trivial (fun _ _ => ?_)
        | refine d_put rfl rfl rfl trivial trivial ?_
        | refine d_nil ?_
        | refine s_skip ?_
        | refine s_block ?_
        | refine s_exit ?_
        | refine s_label ?_
        | ((first | refine o_val rfl rfl trivial ?hc ?_ | refine o_new rfl rfl rfl ⟨0, trivial⟩ ?hc (fun _ _ => ?_) | refine o_new rfl rfl rfl ⟨(none, _), Nat.le_refl _⟩ ?hc (fun _ _ => ?_) | refine o_new rfl rfl rfl ⟨(), trivial⟩ ?hc (fun _ _ => ?_) | refine o_put rfl rfl rfl trivial ?hc ?_ | refine d_val rfl rfl trivial ?hc ?_ | refine d_new rfl rfl rfl ⟨0, trivial⟩ ?hc (fun _ _ => ?_) | refine d_new rfl rfl rfl ⟨(none, _), Nat.le_refl _⟩ ?hc (fun _ _ => ?_) | refine d_new rfl rfl rfl ⟨(), trivial⟩ ?hc (fun _ _ => ?_) | refine d_put rfl rfl rfl trivial ?hc ?_); (case hc => (first | ((try simp only [needIf]); (try simp only [need]); (try simp only [imp]); done) | ((try simp only [needIf]); (try simp only [need]); (try simp only [imp]); (try simp only [cutOff]); (repeat' apply And.intro) <;> (first | trivial | rfl | omega | (simp; done) | (simp; omega) | (intros; rfl) | (intros; trivial) | (exact Nat.le_trans (Nat.mul_le_mul_right _ (show _ ≤ 100000000001 by omega)) (by decide)) | (intro hg_; first | exact hg_ | ((try simp only [decide_eq_true_eq] at hg_); (try rw [wi64 (by omega) (by omega)]); (repeat' apply And.intro) <;> (first | trivial | rfl | omega | (intros; rfl) | (intros; trivial))))))))))
      rename_i bm _
      refine o_callf (.v (.bool (decide (firstI (fun i => prioBad (mostOf (membersF g n).1) (g i)) n 0 ≥ 0)))) rfl rfl rfl rfl rfl trivial contains44_body (fun w' hS' => ?_) ?_
      · have hr : RowHolds w' bm _ _ _ _ _ := hS'.holds 6 _ rfl
        have := contains44 (cap := cap) hn (hS'.holds 900 _ rfl) (fid := 74) (caps := .cons (roP 6 bm 0 1) .nil) sound1_body (fun i => prioBad (mostOf (membersF g n).1) (g i)) fun i hi w2 hb2 => by
          have h2 := sound1_calls (g i) (mostOf (membersF g n).1) (hr.reads.below hb2)
          refine (show Calls Try.prog 74 ([encMb (g i), roP 6 bm 0 1].map AV.val).toArray w2 _ from ?_)
          simpa only [List.map_cons, List.map_nil, roP_val] using h2
        refine (show Calls Try.prog 73 ([roS 900 base 3 n cap, .fn 74 (.cons (roP 6 bm 0 1) .nil)].map AV.val).toArray w' _ from ?_)
        simpa only [List.map_cons, List.map_nil, roS_val, AV.val_v] using this
      repeat (first
        | refine s_seq ?_
        | refine s_region ?_
        | refine o_val rfl rfl trivial trivial ?_
        | refine o_new rfl rfl rfl ⟨0, trivial⟩ trivial (fun _ _ => ?_)
        | refine o_new rfl rfl rfl ⟨(), trivial⟩ trivial (fun _ _ => ?_)
        | refine o_put rfl rfl rfl trivial trivial ?_
        | refine o_nil ?_
        | refine d_val rfl rfl trivial trivial ?_
        | refine d_new rfl rfl rfl ⟨0, trivial⟩ trivial (fun _ _ => ?_)
        | refine d_new rfl rfl rfl ⟨(), trivial⟩ trivial (fun _ _ => ?_)
        | refine d_put rfl rfl rfl trivial trivial ?_
        | refine d_nil ?_
        | refine s_skip ?_
        | refine s_block ?_
        | refine s_exit ?_
        | refine s_label ?_
        | ((first | refine o_val rfl rfl trivial ?hc ?_ | refine o_new rfl rfl rfl ⟨0, trivial⟩ ?hc (fun _ _ => ?_) | refine o_new rfl rfl rfl ⟨(none, _), Nat.le_refl _⟩ ?hc (fun _ _ => ?_) | refine o_new rfl rfl rfl ⟨(), trivial⟩ ?hc (fun _ _ => ?_) | refine o_put rfl rfl rfl trivial ?hc ?_ | refine d_val rfl rfl trivial ?hc ?_ | refine d_new rfl rfl rfl ⟨0, trivial⟩ ?hc (fun _ _ => ?_) | refine d_new rfl rfl rfl ⟨(none, _), Nat.le_refl _⟩ ?hc (fun _ _ => ?_) | refine d_new rfl rfl rfl ⟨(), trivial⟩ ?hc (fun _ _ => ?_) | refine d_put rfl rfl rfl trivial ?hc ?_); (case hc => (first | ((try simp only [needIf]); (try simp only [need]); (try simp only [imp]); done) | ((try simp only [needIf]); (try simp only [need]); (try simp only [imp]); (try simp only [cutOff]); (repeat' apply And.intro) <;> (first | trivial | rfl | omega | (simp; done) | (simp; omega) | (intros; rfl) | (intros; trivial) | (exact Nat.le_trans (Nat.mul_le_mul_right _ (show _ ≤ 100000000001 by omega)) (by decide)) | (intro hg_; first | exact hg_ | ((try simp only [decide_eq_true_eq] at hg_); (try rw [wi64 (by omega) (by omega)]); (repeat' apply And.intro) <;> (first | trivial | rfl | omega | (intros; rfl) | (intros; trivial))))))))))
      refine s_cond rfl (fun h2 => ?_) (fun h2 => ?_)
      all_goals
        repeat (first
          | refine s_seq ?_
          | refine s_region ?_
          | refine o_val rfl rfl trivial trivial ?_
          | refine o_new rfl rfl rfl ⟨0, trivial⟩ trivial (fun _ _ => ?_)
          | refine o_new rfl rfl rfl ⟨(), trivial⟩ trivial (fun _ _ => ?_)
          | refine o_put rfl rfl rfl trivial trivial ?_
          | refine o_nil ?_
          | refine d_val rfl rfl trivial trivial ?_
          | refine d_new rfl rfl rfl ⟨0, trivial⟩ trivial (fun _ _ => ?_)
          | refine d_new rfl rfl rfl ⟨(), trivial⟩ trivial (fun _ _ => ?_)
          | refine d_put rfl rfl rfl trivial trivial ?_
          | refine d_nil ?_
          | refine s_skip ?_
          | refine s_block ?_
          | refine s_exit ?_
          | refine s_label ?_
          | ((first | refine o_val rfl rfl trivial ?hc ?_ | refine o_new rfl rfl rfl ⟨0, trivial⟩ ?hc (fun _ _ => ?_) | refine o_new rfl rfl rfl ⟨(none, _), Nat.le_refl _⟩ ?hc (fun _ _ => ?_) | refine o_new rfl rfl rfl ⟨(), trivial⟩ ?hc (fun _ _ => ?_) | refine o_put rfl rfl rfl trivial ?hc ?_ | refine d_val rfl rfl trivial ?hc ?_ | refine d_new rfl rfl rfl ⟨0, trivial⟩ ?hc (fun _ _ => ?_) | refine d_new rfl rfl rfl ⟨(none, _), Nat.le_refl _⟩ ?hc (fun _ _ => ?_) | refine d_new rfl rfl rfl ⟨(), trivial⟩ ?hc (fun _ _ => ?_) | refine d_put rfl rfl rfl trivial ?hc ?_); (case hc => (first | ((try simp only [needIf]); (try simp only [need]); (try simp only [imp]); done) | ((try simp only [needIf]); (try simp only [need]); (try simp only [imp]); (try simp only [cutOff]); (repeat' apply And.intro) <;> (first | trivial | rfl | omega | (simp; done) | (simp; omega) | (intros; rfl) | (intros; trivial) | (exact Nat.le_trans (Nat.mul_le_mul_right _ (show _ ≤ 100000000001 by omega)) (by decide)) | (intro hg_; first | exact hg_ | ((try simp only [decide_eq_true_eq] at hg_); (try rw [wi64 (by omega) (by omega)]); (repeat' apply And.intro) <;> (first | trivial | rfl | omega | (intros; rfl) | (intros; trivial))))))))))
        refine s_ret ?_
        exact ⟨_, _, rfl, ⟨trivial, trivial, trivial⟩, rfl, by unfold soundF; rw [if_neg (by rw [h1]; decide), h2]; rfl⟩
    · cases h
  · cases h
set_option maxRecDepth 100000 in
theorem sound_body : HasBody Try.prog 56 := ⟨_, Try.func56, rfl, by decide⟩

def SoundC (args : List AV) (M : MemF) : Option (Prop × AV) := match args with
  | [.agg (.cons x .nil)] => match mbsOf M x with
    | some (c, n, g) => some (c, .v (.int .i64 (soundF g n).2))
    | none => none
  | _ => none
def ctS2 : CtL := [(56, soundC)]
set_option maxRecDepth 100000 in
theorem ctS2_ok : CtLOk Try.prog ctS2 := ⟨.fn sound_body sound_read, trivial⟩
theorem Sound_read : ReadFn Try.prog 28 SoundC := by
  intro args M q res h hq O w0 w hS
  unfold SoundC at h
  split at h
  · rename_i x
    split at h
    · rename_i c n g hm
      cases h
      obtain ⟨hn, base, cap, hv, hro⟩ := mbs_ro hS hm hq
      have hpl := mbs_plain hm
      rw [hv] at hpl
      rw [show [AV.agg (.cons x .nil)].map AV.val = [AV.agg (.cons (roS 900 base 3 n cap) .nil)].map AV.val by simp only [List.map_cons, List.map_nil, agg1_val hpl (roS_cells 900 base 3 n cap)]]
      refine ro_fn tabs ctS2_ok (cr := []) trivial Try.func28 rfl rfl (M := [(900, roB base 3 n fun i => encMb (g i))]) rfl ⟨roB_noOwn, trivial⟩ ⟨hro, trivial⟩ ?_
      repeat (first
        | refine s_seq ?_
        | refine s_region ?_
        | refine o_val rfl rfl trivial trivial ?_
        | refine o_new rfl rfl rfl ⟨0, trivial⟩ trivial (fun _ _ => ?_)
        | refine o_new rfl rfl rfl ⟨(), trivial⟩ trivial (fun _ _ => ?_)
        | refine o_put rfl rfl rfl trivial trivial ?_
        | refine o_nil ?_
        | refine d_val rfl rfl trivial trivial ?_
        | refine d_new rfl rfl rfl ⟨0, trivial⟩ trivial (fun _ _ => ?_)
        | refine d_new rfl rfl rfl ⟨(), trivial⟩ trivial (fun _ _ => ?_)
        | refine d_put rfl rfl rfl trivial trivial ?_
        | refine d_nil ?_
        | refine s_skip ?_
        | refine s_block ?_
        | refine s_exit ?_
        | refine s_label ?_
        | ((first | refine o_val rfl rfl trivial ?hc ?_ | refine o_new rfl rfl rfl ⟨0, trivial⟩ ?hc (fun _ _ => ?_) | refine o_new rfl rfl rfl ⟨(none, _), Nat.le_refl _⟩ ?hc (fun _ _ => ?_) | refine o_new rfl rfl rfl ⟨(), trivial⟩ ?hc (fun _ _ => ?_) | refine o_put rfl rfl rfl trivial ?hc ?_ | refine d_val rfl rfl trivial ?hc ?_ | refine d_new rfl rfl rfl ⟨0, trivial⟩ ?hc (fun _ _ => ?_) | refine d_new rfl rfl rfl ⟨(none, _), Nat.le_refl _⟩ ?hc (fun _ _ => ?_) | refine d_new rfl rfl rfl ⟨(), trivial⟩ ?hc (fun _ _ => ?_) | refine d_put rfl rfl rfl trivial ?hc ?_); (case hc => (first | ((try simp only [needIf]); (try simp only [need]); (try simp only [imp]); done) | ((try simp only [needIf]); (try simp only [need]); (try simp only [imp]); (try simp only [cutOff]); (repeat' apply And.intro) <;> (first | trivial | rfl | omega | (simp; done) | (simp; omega) | (intros; rfl) | (intros; trivial) | (exact Nat.le_trans (Nat.mul_le_mul_right _ (show _ ≤ 100000000001 by omega)) (by decide)) | (intro hg_; first | exact hg_ | ((try simp only [decide_eq_true_eq] at hg_); (try rw [wi64 (by omega) (by omega)]); (repeat' apply And.intro) <;> (first | trivial | rfl | omega | (intros; rfl) | (intros; trivial))))))))))
      refine s_ret ?_
      exact ⟨_, _, rfl, ⟨trivial, trivial⟩, rfl, rfl⟩
    · cases h
  · cases h
set_option maxRecDepth 100000 in
theorem Sound_body : HasBody Try.prog 28 := ⟨_, Try.func28, rfl, by decide⟩

end Go.Proofs.Ytaohdlepocajcaa.V
