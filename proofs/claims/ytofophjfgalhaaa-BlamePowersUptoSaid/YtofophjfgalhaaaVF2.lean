import Derived.Test.YtofophjfgalhaaaVF1
/-! council.sound, Sound; the document's Sound; blame.Power. -/
namespace Go.Proofs.Ytofophjfgalhaaa.V
open Go Go.RowKit

theorem seq_plain {M : MemF} {x : AV} {r : Prop × Nat × Nat × (Nat → AV)} (h : seqOf M x = some r) : x.cells = [x.val] := by
  cases x <;> first | rfl | (simp [seqOf] at h)
theorem mbs_plain {M : MemF} {x : AV} {r : Prop × Nat × (Nat → Mb)} (h : mbsOf M x = some r) : x.cells = [x.val] := by
  unfold mbsOf at h
  split at h
  · rename_i hs; exact seq_plain hs
  · cases h
theorem roS_cells (n : Nat) (base : Option (Nat × Nat)) (es len cap : Nat) : (roS n base es len cap).cells = [slV base len cap] := by
  rw [← roS_val n base es len cap]; rfl
theorem agg1_val {x y : AV} {v : Value} (hx : x.cells = [v]) (hy : y.cells = [v]) : (AV.agg (.cons x .nil)).val = (AV.agg (.cons y .nil)).val := by
  simp [hx, hy]

def mostOf (t : Int) : Int := IntKind.i64.wrap (7 * IntKind.i64.wrap t)
def soundF (g : Nat → Mb) (n : Nat) : Int × Int :=
  if ((membersF g n).2 != 0) = true then (0, (membersF g n).2) else
  if decide (firstI (fun i => prioBad (mostOf (membersF g n).1) (g i)) n 0 ≥ 0) = true then (0, 2) else ((membersF g n).1, 0)
def soundC (args : List AV) (M : MemF) : Option (Prop × AV) := match args with
  | [.agg (.cons x .nil)] => match mbsOf M x with
    | some (c, n, g) => some (c, pairAV (soundF g n))
    | none => none
  | _ => none
def ctS : CtL := [(43, membersC)]
theorem ctS_ok : CtLOk Try.prog ctS := ⟨.fn members_body members_read, trivial⟩
theorem sound_read : ReadFn Try.prog 40 soundC := by
  intro args M q res h hq O w0 w hS
  unfold soundC at h
  split at h
  · rename_i x
    split at h
    · rename_i c n g hm
      cases h
      obtain ⟨hn, base, cap, hv, hro⟩ := mbs_ro hS hm hq
      have hpl := mbs_plain hm
      rw [hv] at hpl
      rw [show [AV.agg (.cons x .nil)].map AV.val = [AV.agg (.cons (roS 900 base 3 n cap) .nil)].map AV.val by simp only [List.map_cons, List.map_nil, agg1_val hpl (roS_cells 900 base 3 n cap)]]
      refine ro_fn tabs ctS_ok (cr := []) trivial Try.func40 rfl rfl (M := [(900, roB base 3 n fun i => encMb (g i))]) rfl ⟨roB_noOwn, trivial⟩ ⟨hro, trivial⟩ ?_
      repeat (first
        | refine s_seq ?_
        | refine s_region ?_
        | refine o_val rfl rfl trivial trivial ?_
        | (refine o_val rfl rfl trivial ?hc ?_; (case hc => (first | (simp only [need, imp, needIf]; done) | ((try simp only [need, imp, needIf]); (repeat' apply And.intro) <;> (first | trivial | rfl | omega | (simp; done) | (simp; omega) | (intros; rfl) | (exact Nat.le_trans (Nat.mul_le_mul_right _ (show _ ≤ 100000000001 by omega)) (by decide)) | (intro hg_; first | exact hg_ | ((try simp only [decide_eq_true_eq] at hg_); (try rw [wi64 (by omega) (by omega)]); (repeat' apply And.intro) <;> (first | trivial | rfl | omega | (intros; rfl)))))))))
        | refine o_new rfl rfl rfl ⟨0, trivial⟩ trivial (fun _ _ => ?_)
        | (refine o_new rfl rfl rfl ⟨0, trivial⟩ ?hc (fun _ _ => ?_); (case hc => (first | (simp only [need, imp, needIf]; done) | ((try simp only [need, imp, needIf]); (repeat' apply And.intro) <;> (first | trivial | rfl | omega | (simp; done) | (simp; omega) | (intros; rfl) | (exact Nat.le_trans (Nat.mul_le_mul_right _ (show _ ≤ 100000000001 by omega)) (by decide)) | (intro hg_; first | exact hg_ | ((try simp only [decide_eq_true_eq] at hg_); (try rw [wi64 (by omega) (by omega)]); (repeat' apply And.intro) <;> (first | trivial | rfl | omega | (intros; rfl)))))))))
        | (refine o_new rfl rfl rfl ⟨(none, _), Nat.le_refl _⟩ ?hc (fun _ _ => ?_); (case hc => (first | (simp only [need, imp, needIf]; done) | ((try simp only [need, imp, needIf]); (repeat' apply And.intro) <;> (first | trivial | rfl | omega | (simp; done) | (simp; omega) | (intros; rfl) | (exact Nat.le_trans (Nat.mul_le_mul_right _ (show _ ≤ 100000000001 by omega)) (by decide)) | (intro hg_; first | exact hg_ | ((try simp only [decide_eq_true_eq] at hg_); (try rw [wi64 (by omega) (by omega)]); (repeat' apply And.intro) <;> (first | trivial | rfl | omega | (intros; rfl)))))))))
        | refine o_put rfl rfl rfl trivial trivial ?_
        | (refine o_put rfl rfl rfl trivial ?hc ?_; (case hc => (first | (simp only [need, imp, needIf]; done) | ((try simp only [need, imp, needIf]); (repeat' apply And.intro) <;> (first | trivial | rfl | omega | (simp; done) | (simp; omega) | (intros; rfl) | (exact Nat.le_trans (Nat.mul_le_mul_right _ (show _ ≤ 100000000001 by omega)) (by decide)) | (intro hg_; first | exact hg_ | ((try simp only [decide_eq_true_eq] at hg_); (try rw [wi64 (by omega) (by omega)]); (repeat' apply And.intro) <;> (first | trivial | rfl | omega | (intros; rfl)))))))))
        | refine o_nil ?_
        | refine d_val rfl rfl trivial trivial ?_
        | (refine d_val rfl rfl trivial ?hc ?_; (case hc => (first | (simp only [need, imp, needIf]; done) | ((try simp only [need, imp, needIf]); (repeat' apply And.intro) <;> (first | trivial | rfl | omega | (simp; done) | (simp; omega) | (intros; rfl) | (exact Nat.le_trans (Nat.mul_le_mul_right _ (show _ ≤ 100000000001 by omega)) (by decide)) | (intro hg_; first | exact hg_ | ((try simp only [decide_eq_true_eq] at hg_); (try rw [wi64 (by omega) (by omega)]); (repeat' apply And.intro) <;> (first | trivial | rfl | omega | (intros; rfl)))))))))
        | refine d_new rfl rfl rfl ⟨0, trivial⟩ trivial (fun _ _ => ?_)
        | (refine d_new rfl rfl rfl ⟨0, trivial⟩ ?hc (fun _ _ => ?_); (case hc => (first | (simp only [need, imp, needIf]; done) | ((try simp only [need, imp, needIf]); (repeat' apply And.intro) <;> (first | trivial | rfl | omega | (simp; done) | (simp; omega) | (intros; rfl) | (exact Nat.le_trans (Nat.mul_le_mul_right _ (show _ ≤ 100000000001 by omega)) (by decide)) | (intro hg_; first | exact hg_ | ((try simp only [decide_eq_true_eq] at hg_); (try rw [wi64 (by omega) (by omega)]); (repeat' apply And.intro) <;> (first | trivial | rfl | omega | (intros; rfl)))))))))
        | (refine d_new rfl rfl rfl ⟨(none, _), Nat.le_refl _⟩ ?hc (fun _ _ => ?_); (case hc => (first | (simp only [need, imp, needIf]; done) | ((try simp only [need, imp, needIf]); (repeat' apply And.intro) <;> (first | trivial | rfl | omega | (simp; done) | (simp; omega) | (intros; rfl) | (exact Nat.le_trans (Nat.mul_le_mul_right _ (show _ ≤ 100000000001 by omega)) (by decide)) | (intro hg_; first | exact hg_ | ((try simp only [decide_eq_true_eq] at hg_); (try rw [wi64 (by omega) (by omega)]); (repeat' apply And.intro) <;> (first | trivial | rfl | omega | (intros; rfl)))))))))
        | refine d_put rfl rfl rfl trivial trivial ?_
        | (refine d_put rfl rfl rfl trivial ?hc ?_; (case hc => (first | (simp only [need, imp, needIf]; done) | ((try simp only [need, imp, needIf]); (repeat' apply And.intro) <;> (first | trivial | rfl | omega | (simp; done) | (simp; omega) | (intros; rfl) | (exact Nat.le_trans (Nat.mul_le_mul_right _ (show _ ≤ 100000000001 by omega)) (by decide)) | (intro hg_; first | exact hg_ | ((try simp only [decide_eq_true_eq] at hg_); (try rw [wi64 (by omega) (by omega)]); (repeat' apply And.intro) <;> (first | trivial | rfl | omega | (intros; rfl)))))))))
        | refine d_nil ?_
        | refine s_skip ?_
        | refine s_block ?_
        | refine s_exit ?_
        | refine s_label ?_)
      refine s_cond (b := ((membersF g n).2 != 0)) rfl (fun h1 => ?_) (fun h1 => ?_)
      · repeat (first
          | refine s_seq ?_
          | refine s_region ?_
          | refine o_val rfl rfl trivial trivial ?_
          | (refine o_val rfl rfl trivial ?hc ?_; (case hc => (first | (simp only [need, imp, needIf]; done) | ((try simp only [need, imp, needIf]); (repeat' apply And.intro) <;> (first | trivial | rfl | omega | (simp; done) | (simp; omega) | (intros; rfl) | (exact Nat.le_trans (Nat.mul_le_mul_right _ (show _ ≤ 100000000001 by omega)) (by decide)) | (intro hg_; first | exact hg_ | ((try simp only [decide_eq_true_eq] at hg_); (try rw [wi64 (by omega) (by omega)]); (repeat' apply And.intro) <;> (first | trivial | rfl | omega | (intros; rfl)))))))))
          | refine o_new rfl rfl rfl ⟨0, trivial⟩ trivial (fun _ _ => ?_)
          | (refine o_new rfl rfl rfl ⟨0, trivial⟩ ?hc (fun _ _ => ?_); (case hc => (first | (simp only [need, imp, needIf]; done) | ((try simp only [need, imp, needIf]); (repeat' apply And.intro) <;> (first | trivial | rfl | omega | (simp; done) | (simp; omega) | (intros; rfl) | (exact Nat.le_trans (Nat.mul_le_mul_right _ (show _ ≤ 100000000001 by omega)) (by decide)) | (intro hg_; first | exact hg_ | ((try simp only [decide_eq_true_eq] at hg_); (try rw [wi64 (by omega) (by omega)]); (repeat' apply And.intro) <;> (first | trivial | rfl | omega | (intros; rfl)))))))))
          | (refine o_new rfl rfl rfl ⟨(none, _), Nat.le_refl _⟩ ?hc (fun _ _ => ?_); (case hc => (first | (simp only [need, imp, needIf]; done) | ((try simp only [need, imp, needIf]); (repeat' apply And.intro) <;> (first | trivial | rfl | omega | (simp; done) | (simp; omega) | (intros; rfl) | (exact Nat.le_trans (Nat.mul_le_mul_right _ (show _ ≤ 100000000001 by omega)) (by decide)) | (intro hg_; first | exact hg_ | ((try simp only [decide_eq_true_eq] at hg_); (try rw [wi64 (by omega) (by omega)]); (repeat' apply And.intro) <;> (first | trivial | rfl | omega | (intros; rfl)))))))))
          | refine o_put rfl rfl rfl trivial trivial ?_
          | (refine o_put rfl rfl rfl trivial ?hc ?_; (case hc => (first | (simp only [need, imp, needIf]; done) | ((try simp only [need, imp, needIf]); (repeat' apply And.intro) <;> (first | trivial | rfl | omega | (simp; done) | (simp; omega) | (intros; rfl) | (exact Nat.le_trans (Nat.mul_le_mul_right _ (show _ ≤ 100000000001 by omega)) (by decide)) | (intro hg_; first | exact hg_ | ((try simp only [decide_eq_true_eq] at hg_); (try rw [wi64 (by omega) (by omega)]); (repeat' apply And.intro) <;> (first | trivial | rfl | omega | (intros; rfl)))))))))
          | refine o_nil ?_
          | refine d_val rfl rfl trivial trivial ?_
          | (refine d_val rfl rfl trivial ?hc ?_; (case hc => (first | (simp only [need, imp, needIf]; done) | ((try simp only [need, imp, needIf]); (repeat' apply And.intro) <;> (first | trivial | rfl | omega | (simp; done) | (simp; omega) | (intros; rfl) | (exact Nat.le_trans (Nat.mul_le_mul_right _ (show _ ≤ 100000000001 by omega)) (by decide)) | (intro hg_; first | exact hg_ | ((try simp only [decide_eq_true_eq] at hg_); (try rw [wi64 (by omega) (by omega)]); (repeat' apply And.intro) <;> (first | trivial | rfl | omega | (intros; rfl)))))))))
          | refine d_new rfl rfl rfl ⟨0, trivial⟩ trivial (fun _ _ => ?_)
          | (refine d_new rfl rfl rfl ⟨0, trivial⟩ ?hc (fun _ _ => ?_); (case hc => (first | (simp only [need, imp, needIf]; done) | ((try simp only [need, imp, needIf]); (repeat' apply And.intro) <;> (first | trivial | rfl | omega | (simp; done) | (simp; omega) | (intros; rfl) | (exact Nat.le_trans (Nat.mul_le_mul_right _ (show _ ≤ 100000000001 by omega)) (by decide)) | (intro hg_; first | exact hg_ | ((try simp only [decide_eq_true_eq] at hg_); (try rw [wi64 (by omega) (by omega)]); (repeat' apply And.intro) <;> (first | trivial | rfl | omega | (intros; rfl)))))))))
          | (refine d_new rfl rfl rfl ⟨(none, _), Nat.le_refl _⟩ ?hc (fun _ _ => ?_); (case hc => (first | (simp only [need, imp, needIf]; done) | ((try simp only [need, imp, needIf]); (repeat' apply And.intro) <;> (first | trivial | rfl | omega | (simp; done) | (simp; omega) | (intros; rfl) | (exact Nat.le_trans (Nat.mul_le_mul_right _ (show _ ≤ 100000000001 by omega)) (by decide)) | (intro hg_; first | exact hg_ | ((try simp only [decide_eq_true_eq] at hg_); (try rw [wi64 (by omega) (by omega)]); (repeat' apply And.intro) <;> (first | trivial | rfl | omega | (intros; rfl)))))))))
          | refine d_put rfl rfl rfl trivial trivial ?_
          | (refine d_put rfl rfl rfl trivial ?hc ?_; (case hc => (first | (simp only [need, imp, needIf]; done) | ((try simp only [need, imp, needIf]); (repeat' apply And.intro) <;> (first | trivial | rfl | omega | (simp; done) | (simp; omega) | (intros; rfl) | (exact Nat.le_trans (Nat.mul_le_mul_right _ (show _ ≤ 100000000001 by omega)) (by decide)) | (intro hg_; first | exact hg_ | ((try simp only [decide_eq_true_eq] at hg_); (try rw [wi64 (by omega) (by omega)]); (repeat' apply And.intro) <;> (first | trivial | rfl | omega | (intros; rfl)))))))))
          | refine d_nil ?_
          | refine s_skip ?_
          | refine s_block ?_
          | refine s_exit ?_
          | refine s_label ?_)
        refine s_ret ?_
        exact ⟨_, _, rfl, ⟨trivial, trivial, trivial⟩, rfl, by unfold soundF; rw [if_pos h1]; rfl⟩
      repeat (first
        | refine s_seq ?_
        | refine s_region ?_
        | refine o_val rfl rfl trivial trivial ?_
        | (refine o_val rfl rfl trivial ?hc ?_; (case hc => (first | (simp only [need, imp, needIf]; done) | ((try simp only [need, imp, needIf]); (repeat' apply And.intro) <;> (first | trivial | rfl | omega | (simp; done) | (simp; omega) | (intros; rfl) | (exact Nat.le_trans (Nat.mul_le_mul_right _ (show _ ≤ 100000000001 by omega)) (by decide)) | (intro hg_; first | exact hg_ | ((try simp only [decide_eq_true_eq] at hg_); (try rw [wi64 (by omega) (by omega)]); (repeat' apply And.intro) <;> (first | trivial | rfl | omega | (intros; rfl)))))))))
        | refine o_new rfl rfl rfl ⟨0, trivial⟩ trivial (fun _ _ => ?_)
        | (refine o_new rfl rfl rfl ⟨0, trivial⟩ ?hc (fun _ _ => ?_); (case hc => (first | (simp only [need, imp, needIf]; done) | ((try simp only [need, imp, needIf]); (repeat' apply And.intro) <;> (first | trivial | rfl | omega | (simp; done) | (simp; omega) | (intros; rfl) | (exact Nat.le_trans (Nat.mul_le_mul_right _ (show _ ≤ 100000000001 by omega)) (by decide)) | (intro hg_; first | exact hg_ | ((try simp only [decide_eq_true_eq] at hg_); (try rw [wi64 (by omega) (by omega)]); (repeat' apply And.intro) <;> (first | trivial | rfl | omega | (intros; rfl)))))))))
        | (refine o_new rfl rfl rfl ⟨(none, _), Nat.le_refl _⟩ ?hc (fun _ _ => ?_); (case hc => (first | (simp only [need, imp, needIf]; done) | ((try simp only [need, imp, needIf]); (repeat' apply And.intro) <;> (first | trivial | rfl | omega | (simp; done) | (simp; omega) | (intros; rfl) | (exact Nat.le_trans (Nat.mul_le_mul_right _ (show _ ≤ 100000000001 by omega)) (by decide)) | (intro hg_; first | exact hg_ | ((try simp only [decide_eq_true_eq] at hg_); (try rw [wi64 (by omega) (by omega)]); (repeat' apply And.intro) <;> (first | trivial | rfl | omega | (intros; rfl)))))))))
        | refine o_put rfl rfl rfl trivial trivial ?_
        | (refine o_put rfl rfl rfl trivial ?hc ?_; (case hc => (first | (simp only [need, imp, needIf]; done) | ((try simp only [need, imp, needIf]); (repeat' apply And.intro) <;> (first | trivial | rfl | omega | (simp; done) | (simp; omega) | (intros; rfl) | (exact Nat.le_trans (Nat.mul_le_mul_right _ (show _ ≤ 100000000001 by omega)) (by decide)) | (intro hg_; first | exact hg_ | ((try simp only [decide_eq_true_eq] at hg_); (try rw [wi64 (by omega) (by omega)]); (repeat' apply And.intro) <;> (first | trivial | rfl | omega | (intros; rfl)))))))))
        | refine o_nil ?_
        | refine d_val rfl rfl trivial trivial ?_
        | (refine d_val rfl rfl trivial ?hc ?_; (case hc => (first | (simp only [need, imp, needIf]; done) | ((try simp only [need, imp, needIf]); (repeat' apply And.intro) <;> (first | trivial | rfl | omega | (simp; done) | (simp; omega) | (intros; rfl) | (exact Nat.le_trans (Nat.mul_le_mul_right _ (show _ ≤ 100000000001 by omega)) (by decide)) | (intro hg_; first | exact hg_ | ((try simp only [decide_eq_true_eq] at hg_); (try rw [wi64 (by omega) (by omega)]); (repeat' apply And.intro) <;> (first | trivial | rfl | omega | (intros; rfl)))))))))
        | refine d_new rfl rfl rfl ⟨0, trivial⟩ trivial (fun _ _ => ?_)
        | (refine d_new rfl rfl rfl ⟨0, trivial⟩ ?hc (fun _ _ => ?_); (case hc => (first | (simp only [need, imp, needIf]; done) | ((try simp only [need, imp, needIf]); (repeat' apply And.intro) <;> (first | trivial | rfl | omega | (simp; done) | (simp; omega) | (intros; rfl) | (exact Nat.le_trans (Nat.mul_le_mul_right _ (show _ ≤ 100000000001 by omega)) (by decide)) | (intro hg_; first | exact hg_ | ((try simp only [decide_eq_true_eq] at hg_); (try rw [wi64 (by omega) (by omega)]); (repeat' apply And.intro) <;> (first | trivial | rfl | omega | (intros; rfl)))))))))
        | (refine d_new rfl rfl rfl ⟨(none, _), Nat.le_refl _⟩ ?hc (fun _ _ => ?_); (case hc => (first | (simp only [need, imp, needIf]; done) | ((try simp only [need, imp, needIf]); (repeat' apply And.intro) <;> (first | trivial | rfl | omega | (simp; done) | (simp; omega) | (intros; rfl) | (exact Nat.le_trans (Nat.mul_le_mul_right _ (show _ ≤ 100000000001 by omega)) (by decide)) | (intro hg_; first | exact hg_ | ((try simp only [decide_eq_true_eq] at hg_); (try rw [wi64 (by omega) (by omega)]); (repeat' apply And.intro) <;> (first | trivial | rfl | omega | (intros; rfl)))))))))
        | refine d_put rfl rfl rfl trivial trivial ?_
        | (refine d_put rfl rfl rfl trivial ?hc ?_; (case hc => (first | (simp only [need, imp, needIf]; done) | ((try simp only [need, imp, needIf]); (repeat' apply And.intro) <;> (first | trivial | rfl | omega | (simp; done) | (simp; omega) | (intros; rfl) | (exact Nat.le_trans (Nat.mul_le_mul_right _ (show _ ≤ 100000000001 by omega)) (by decide)) | (intro hg_; first | exact hg_ | ((try simp only [decide_eq_true_eq] at hg_); (try rw [wi64 (by omega) (by omega)]); (repeat' apply And.intro) <;> (first | trivial | rfl | omega | (intros; rfl)))))))))
        | refine d_nil ?_
        | refine s_skip ?_
        | refine s_block ?_
        | refine s_exit ?_
        | refine s_label ?_)
      rename_i bm _
      refine o_callf (.v (.bool (decide (firstI (fun i => prioBad (mostOf (membersF g n).1) (g i)) n 0 ≥ 0)))) rfl rfl rfl rfl rfl trivial contains44_body (fun w' hS' => ?_) ?_
      · have hr : RowHolds w' bm _ _ _ _ _ := hS'.holds 6 _ rfl
        have := contains44 (cap := cap) hn (hS'.holds 900 _ rfl) (fid := 45) (caps := .cons (roP 6 bm 0 1) .nil) sound1_body (fun i => prioBad (mostOf (membersF g n).1) (g i)) fun i hi w2 hb2 => by
          have h2 := sound1_calls (g i) (mostOf (membersF g n).1) (hr.reads.below hb2)
          refine (show Calls Try.prog 45 ([encMb (g i), roP 6 bm 0 1].map AV.val).toArray w2 _ from ?_)
          simpa only [List.map_cons, List.map_nil, roP_val] using h2
        refine (show Calls Try.prog 44 ([roS 900 base 3 n cap, .fn 45 (.cons (roP 6 bm 0 1) .nil)].map AV.val).toArray w' _ from ?_)
        simpa only [List.map_cons, List.map_nil, roS_val, AV.val_v] using this
      repeat (first
        | refine s_seq ?_
        | refine s_region ?_
        | refine o_val rfl rfl trivial trivial ?_
        | (refine o_val rfl rfl trivial ?hc ?_; (case hc => (first | (simp only [need, imp, needIf]; done) | ((try simp only [need, imp, needIf]); (repeat' apply And.intro) <;> (first | trivial | rfl | omega | (simp; done) | (simp; omega) | (intros; rfl) | (exact Nat.le_trans (Nat.mul_le_mul_right _ (show _ ≤ 100000000001 by omega)) (by decide)) | (intro hg_; first | exact hg_ | ((try simp only [decide_eq_true_eq] at hg_); (try rw [wi64 (by omega) (by omega)]); (repeat' apply And.intro) <;> (first | trivial | rfl | omega | (intros; rfl)))))))))
        | refine o_new rfl rfl rfl ⟨0, trivial⟩ trivial (fun _ _ => ?_)
        | (refine o_new rfl rfl rfl ⟨0, trivial⟩ ?hc (fun _ _ => ?_); (case hc => (first | (simp only [need, imp, needIf]; done) | ((try simp only [need, imp, needIf]); (repeat' apply And.intro) <;> (first | trivial | rfl | omega | (simp; done) | (simp; omega) | (intros; rfl) | (exact Nat.le_trans (Nat.mul_le_mul_right _ (show _ ≤ 100000000001 by omega)) (by decide)) | (intro hg_; first | exact hg_ | ((try simp only [decide_eq_true_eq] at hg_); (try rw [wi64 (by omega) (by omega)]); (repeat' apply And.intro) <;> (first | trivial | rfl | omega | (intros; rfl)))))))))
        | (refine o_new rfl rfl rfl ⟨(none, _), Nat.le_refl _⟩ ?hc (fun _ _ => ?_); (case hc => (first | (simp only [need, imp, needIf]; done) | ((try simp only [need, imp, needIf]); (repeat' apply And.intro) <;> (first | trivial | rfl | omega | (simp; done) | (simp; omega) | (intros; rfl) | (exact Nat.le_trans (Nat.mul_le_mul_right _ (show _ ≤ 100000000001 by omega)) (by decide)) | (intro hg_; first | exact hg_ | ((try simp only [decide_eq_true_eq] at hg_); (try rw [wi64 (by omega) (by omega)]); (repeat' apply And.intro) <;> (first | trivial | rfl | omega | (intros; rfl)))))))))
        | refine o_put rfl rfl rfl trivial trivial ?_
        | (refine o_put rfl rfl rfl trivial ?hc ?_; (case hc => (first | (simp only [need, imp, needIf]; done) | ((try simp only [need, imp, needIf]); (repeat' apply And.intro) <;> (first | trivial | rfl | omega | (simp; done) | (simp; omega) | (intros; rfl) | (exact Nat.le_trans (Nat.mul_le_mul_right _ (show _ ≤ 100000000001 by omega)) (by decide)) | (intro hg_; first | exact hg_ | ((try simp only [decide_eq_true_eq] at hg_); (try rw [wi64 (by omega) (by omega)]); (repeat' apply And.intro) <;> (first | trivial | rfl | omega | (intros; rfl)))))))))
        | refine o_nil ?_
        | refine d_val rfl rfl trivial trivial ?_
        | (refine d_val rfl rfl trivial ?hc ?_; (case hc => (first | (simp only [need, imp, needIf]; done) | ((try simp only [need, imp, needIf]); (repeat' apply And.intro) <;> (first | trivial | rfl | omega | (simp; done) | (simp; omega) | (intros; rfl) | (exact Nat.le_trans (Nat.mul_le_mul_right _ (show _ ≤ 100000000001 by omega)) (by decide)) | (intro hg_; first | exact hg_ | ((try simp only [decide_eq_true_eq] at hg_); (try rw [wi64 (by omega) (by omega)]); (repeat' apply And.intro) <;> (first | trivial | rfl | omega | (intros; rfl)))))))))
        | refine d_new rfl rfl rfl ⟨0, trivial⟩ trivial (fun _ _ => ?_)
        | (refine d_new rfl rfl rfl ⟨0, trivial⟩ ?hc (fun _ _ => ?_); (case hc => (first | (simp only [need, imp, needIf]; done) | ((try simp only [need, imp, needIf]); (repeat' apply And.intro) <;> (first | trivial | rfl | omega | (simp; done) | (simp; omega) | (intros; rfl) | (exact Nat.le_trans (Nat.mul_le_mul_right _ (show _ ≤ 100000000001 by omega)) (by decide)) | (intro hg_; first | exact hg_ | ((try simp only [decide_eq_true_eq] at hg_); (try rw [wi64 (by omega) (by omega)]); (repeat' apply And.intro) <;> (first | trivial | rfl | omega | (intros; rfl)))))))))
        | (refine d_new rfl rfl rfl ⟨(none, _), Nat.le_refl _⟩ ?hc (fun _ _ => ?_); (case hc => (first | (simp only [need, imp, needIf]; done) | ((try simp only [need, imp, needIf]); (repeat' apply And.intro) <;> (first | trivial | rfl | omega | (simp; done) | (simp; omega) | (intros; rfl) | (exact Nat.le_trans (Nat.mul_le_mul_right _ (show _ ≤ 100000000001 by omega)) (by decide)) | (intro hg_; first | exact hg_ | ((try simp only [decide_eq_true_eq] at hg_); (try rw [wi64 (by omega) (by omega)]); (repeat' apply And.intro) <;> (first | trivial | rfl | omega | (intros; rfl)))))))))
        | refine d_put rfl rfl rfl trivial trivial ?_
        | (refine d_put rfl rfl rfl trivial ?hc ?_; (case hc => (first | (simp only [need, imp, needIf]; done) | ((try simp only [need, imp, needIf]); (repeat' apply And.intro) <;> (first | trivial | rfl | omega | (simp; done) | (simp; omega) | (intros; rfl) | (exact Nat.le_trans (Nat.mul_le_mul_right _ (show _ ≤ 100000000001 by omega)) (by decide)) | (intro hg_; first | exact hg_ | ((try simp only [decide_eq_true_eq] at hg_); (try rw [wi64 (by omega) (by omega)]); (repeat' apply And.intro) <;> (first | trivial | rfl | omega | (intros; rfl)))))))))
        | refine d_nil ?_
        | refine s_skip ?_
        | refine s_block ?_
        | refine s_exit ?_
        | refine s_label ?_)
      refine s_cond rfl (fun h2 => ?_) (fun h2 => ?_)
      all_goals
        repeat (first
          | refine s_seq ?_
          | refine s_region ?_
          | refine o_val rfl rfl trivial trivial ?_
          | (refine o_val rfl rfl trivial ?hc ?_; (case hc => (first | (simp only [need, imp, needIf]; done) | ((try simp only [need, imp, needIf]); (repeat' apply And.intro) <;> (first | trivial | rfl | omega | (simp; done) | (simp; omega) | (intros; rfl) | (exact Nat.le_trans (Nat.mul_le_mul_right _ (show _ ≤ 100000000001 by omega)) (by decide)) | (intro hg_; first | exact hg_ | ((try simp only [decide_eq_true_eq] at hg_); (try rw [wi64 (by omega) (by omega)]); (repeat' apply And.intro) <;> (first | trivial | rfl | omega | (intros; rfl)))))))))
          | refine o_new rfl rfl rfl ⟨0, trivial⟩ trivial (fun _ _ => ?_)
          | (refine o_new rfl rfl rfl ⟨0, trivial⟩ ?hc (fun _ _ => ?_); (case hc => (first | (simp only [need, imp, needIf]; done) | ((try simp only [need, imp, needIf]); (repeat' apply And.intro) <;> (first | trivial | rfl | omega | (simp; done) | (simp; omega) | (intros; rfl) | (exact Nat.le_trans (Nat.mul_le_mul_right _ (show _ ≤ 100000000001 by omega)) (by decide)) | (intro hg_; first | exact hg_ | ((try simp only [decide_eq_true_eq] at hg_); (try rw [wi64 (by omega) (by omega)]); (repeat' apply And.intro) <;> (first | trivial | rfl | omega | (intros; rfl)))))))))
          | (refine o_new rfl rfl rfl ⟨(none, _), Nat.le_refl _⟩ ?hc (fun _ _ => ?_); (case hc => (first | (simp only [need, imp, needIf]; done) | ((try simp only [need, imp, needIf]); (repeat' apply And.intro) <;> (first | trivial | rfl | omega | (simp; done) | (simp; omega) | (intros; rfl) | (exact Nat.le_trans (Nat.mul_le_mul_right _ (show _ ≤ 100000000001 by omega)) (by decide)) | (intro hg_; first | exact hg_ | ((try simp only [decide_eq_true_eq] at hg_); (try rw [wi64 (by omega) (by omega)]); (repeat' apply And.intro) <;> (first | trivial | rfl | omega | (intros; rfl)))))))))
          | refine o_put rfl rfl rfl trivial trivial ?_
          | (refine o_put rfl rfl rfl trivial ?hc ?_; (case hc => (first | (simp only [need, imp, needIf]; done) | ((try simp only [need, imp, needIf]); (repeat' apply And.intro) <;> (first | trivial | rfl | omega | (simp; done) | (simp; omega) | (intros; rfl) | (exact Nat.le_trans (Nat.mul_le_mul_right _ (show _ ≤ 100000000001 by omega)) (by decide)) | (intro hg_; first | exact hg_ | ((try simp only [decide_eq_true_eq] at hg_); (try rw [wi64 (by omega) (by omega)]); (repeat' apply And.intro) <;> (first | trivial | rfl | omega | (intros; rfl)))))))))
          | refine o_nil ?_
          | refine d_val rfl rfl trivial trivial ?_
          | (refine d_val rfl rfl trivial ?hc ?_; (case hc => (first | (simp only [need, imp, needIf]; done) | ((try simp only [need, imp, needIf]); (repeat' apply And.intro) <;> (first | trivial | rfl | omega | (simp; done) | (simp; omega) | (intros; rfl) | (exact Nat.le_trans (Nat.mul_le_mul_right _ (show _ ≤ 100000000001 by omega)) (by decide)) | (intro hg_; first | exact hg_ | ((try simp only [decide_eq_true_eq] at hg_); (try rw [wi64 (by omega) (by omega)]); (repeat' apply And.intro) <;> (first | trivial | rfl | omega | (intros; rfl)))))))))
          | refine d_new rfl rfl rfl ⟨0, trivial⟩ trivial (fun _ _ => ?_)
          | (refine d_new rfl rfl rfl ⟨0, trivial⟩ ?hc (fun _ _ => ?_); (case hc => (first | (simp only [need, imp, needIf]; done) | ((try simp only [need, imp, needIf]); (repeat' apply And.intro) <;> (first | trivial | rfl | omega | (simp; done) | (simp; omega) | (intros; rfl) | (exact Nat.le_trans (Nat.mul_le_mul_right _ (show _ ≤ 100000000001 by omega)) (by decide)) | (intro hg_; first | exact hg_ | ((try simp only [decide_eq_true_eq] at hg_); (try rw [wi64 (by omega) (by omega)]); (repeat' apply And.intro) <;> (first | trivial | rfl | omega | (intros; rfl)))))))))
          | (refine d_new rfl rfl rfl ⟨(none, _), Nat.le_refl _⟩ ?hc (fun _ _ => ?_); (case hc => (first | (simp only [need, imp, needIf]; done) | ((try simp only [need, imp, needIf]); (repeat' apply And.intro) <;> (first | trivial | rfl | omega | (simp; done) | (simp; omega) | (intros; rfl) | (exact Nat.le_trans (Nat.mul_le_mul_right _ (show _ ≤ 100000000001 by omega)) (by decide)) | (intro hg_; first | exact hg_ | ((try simp only [decide_eq_true_eq] at hg_); (try rw [wi64 (by omega) (by omega)]); (repeat' apply And.intro) <;> (first | trivial | rfl | omega | (intros; rfl)))))))))
          | refine d_put rfl rfl rfl trivial trivial ?_
          | (refine d_put rfl rfl rfl trivial ?hc ?_; (case hc => (first | (simp only [need, imp, needIf]; done) | ((try simp only [need, imp, needIf]); (repeat' apply And.intro) <;> (first | trivial | rfl | omega | (simp; done) | (simp; omega) | (intros; rfl) | (exact Nat.le_trans (Nat.mul_le_mul_right _ (show _ ≤ 100000000001 by omega)) (by decide)) | (intro hg_; first | exact hg_ | ((try simp only [decide_eq_true_eq] at hg_); (try rw [wi64 (by omega) (by omega)]); (repeat' apply And.intro) <;> (first | trivial | rfl | omega | (intros; rfl)))))))))
          | refine d_nil ?_
          | refine s_skip ?_
          | refine s_block ?_
          | refine s_exit ?_
          | refine s_label ?_)
        refine s_ret ?_
        exact ⟨_, _, rfl, ⟨trivial, trivial, trivial⟩, rfl, by unfold soundF; rw [if_neg (by rw [h1]; decide), h2]; rfl⟩
    · cases h
  · cases h
theorem sound_body : HasBody Try.prog 40 := ⟨_, Try.func40, rfl, by decide⟩

def SoundC (args : List AV) (M : MemF) : Option (Prop × AV) := match args with
  | [.agg (.cons x .nil)] => match mbsOf M x with
    | some (c, n, g) => some (c, .v (.int .i64 (soundF g n).2))
    | none => none
  | _ => none
def ctS2 : CtL := [(40, soundC)]
theorem ctS2_ok : CtLOk Try.prog ctS2 := ⟨.fn sound_body sound_read, trivial⟩
theorem Sound_read : ReadFn Try.prog 24 SoundC := by
  intro args M q res h hq O w0 w hS
  unfold SoundC at h
  split at h
  · rename_i x
    split at h
    · rename_i c n g hm
      cases h
      obtain ⟨hn, base, cap, hv, hro⟩ := mbs_ro hS hm hq
      have hpl := mbs_plain hm
      rw [hv] at hpl
      rw [show [AV.agg (.cons x .nil)].map AV.val = [AV.agg (.cons (roS 900 base 3 n cap) .nil)].map AV.val by simp only [List.map_cons, List.map_nil, agg1_val hpl (roS_cells 900 base 3 n cap)]]
      refine ro_fn tabs ctS2_ok (cr := []) trivial Try.func24 rfl rfl (M := [(900, roB base 3 n fun i => encMb (g i))]) rfl ⟨roB_noOwn, trivial⟩ ⟨hro, trivial⟩ ?_
      repeat (first
        | refine s_seq ?_
        | refine s_region ?_
        | refine o_val rfl rfl trivial trivial ?_
        | (refine o_val rfl rfl trivial ?hc ?_; (case hc => (first | (simp only [need, imp, needIf]; done) | ((try simp only [need, imp, needIf]); (repeat' apply And.intro) <;> (first | trivial | rfl | omega | (simp; done) | (simp; omega) | (intros; rfl) | (exact Nat.le_trans (Nat.mul_le_mul_right _ (show _ ≤ 100000000001 by omega)) (by decide)) | (intro hg_; first | exact hg_ | ((try simp only [decide_eq_true_eq] at hg_); (try rw [wi64 (by omega) (by omega)]); (repeat' apply And.intro) <;> (first | trivial | rfl | omega | (intros; rfl)))))))))
        | refine o_new rfl rfl rfl ⟨0, trivial⟩ trivial (fun _ _ => ?_)
        | (refine o_new rfl rfl rfl ⟨0, trivial⟩ ?hc (fun _ _ => ?_); (case hc => (first | (simp only [need, imp, needIf]; done) | ((try simp only [need, imp, needIf]); (repeat' apply And.intro) <;> (first | trivial | rfl | omega | (simp; done) | (simp; omega) | (intros; rfl) | (exact Nat.le_trans (Nat.mul_le_mul_right _ (show _ ≤ 100000000001 by omega)) (by decide)) | (intro hg_; first | exact hg_ | ((try simp only [decide_eq_true_eq] at hg_); (try rw [wi64 (by omega) (by omega)]); (repeat' apply And.intro) <;> (first | trivial | rfl | omega | (intros; rfl)))))))))
        | (refine o_new rfl rfl rfl ⟨(none, _), Nat.le_refl _⟩ ?hc (fun _ _ => ?_); (case hc => (first | (simp only [need, imp, needIf]; done) | ((try simp only [need, imp, needIf]); (repeat' apply And.intro) <;> (first | trivial | rfl | omega | (simp; done) | (simp; omega) | (intros; rfl) | (exact Nat.le_trans (Nat.mul_le_mul_right _ (show _ ≤ 100000000001 by omega)) (by decide)) | (intro hg_; first | exact hg_ | ((try simp only [decide_eq_true_eq] at hg_); (try rw [wi64 (by omega) (by omega)]); (repeat' apply And.intro) <;> (first | trivial | rfl | omega | (intros; rfl)))))))))
        | refine o_put rfl rfl rfl trivial trivial ?_
        | (refine o_put rfl rfl rfl trivial ?hc ?_; (case hc => (first | (simp only [need, imp, needIf]; done) | ((try simp only [need, imp, needIf]); (repeat' apply And.intro) <;> (first | trivial | rfl | omega | (simp; done) | (simp; omega) | (intros; rfl) | (exact Nat.le_trans (Nat.mul_le_mul_right _ (show _ ≤ 100000000001 by omega)) (by decide)) | (intro hg_; first | exact hg_ | ((try simp only [decide_eq_true_eq] at hg_); (try rw [wi64 (by omega) (by omega)]); (repeat' apply And.intro) <;> (first | trivial | rfl | omega | (intros; rfl)))))))))
        | refine o_nil ?_
        | refine d_val rfl rfl trivial trivial ?_
        | (refine d_val rfl rfl trivial ?hc ?_; (case hc => (first | (simp only [need, imp, needIf]; done) | ((try simp only [need, imp, needIf]); (repeat' apply And.intro) <;> (first | trivial | rfl | omega | (simp; done) | (simp; omega) | (intros; rfl) | (exact Nat.le_trans (Nat.mul_le_mul_right _ (show _ ≤ 100000000001 by omega)) (by decide)) | (intro hg_; first | exact hg_ | ((try simp only [decide_eq_true_eq] at hg_); (try rw [wi64 (by omega) (by omega)]); (repeat' apply And.intro) <;> (first | trivial | rfl | omega | (intros; rfl)))))))))
        | refine d_new rfl rfl rfl ⟨0, trivial⟩ trivial (fun _ _ => ?_)
        | (refine d_new rfl rfl rfl ⟨0, trivial⟩ ?hc (fun _ _ => ?_); (case hc => (first | (simp only [need, imp, needIf]; done) | ((try simp only [need, imp, needIf]); (repeat' apply And.intro) <;> (first | trivial | rfl | omega | (simp; done) | (simp; omega) | (intros; rfl) | (exact Nat.le_trans (Nat.mul_le_mul_right _ (show _ ≤ 100000000001 by omega)) (by decide)) | (intro hg_; first | exact hg_ | ((try simp only [decide_eq_true_eq] at hg_); (try rw [wi64 (by omega) (by omega)]); (repeat' apply And.intro) <;> (first | trivial | rfl | omega | (intros; rfl)))))))))
        | (refine d_new rfl rfl rfl ⟨(none, _), Nat.le_refl _⟩ ?hc (fun _ _ => ?_); (case hc => (first | (simp only [need, imp, needIf]; done) | ((try simp only [need, imp, needIf]); (repeat' apply And.intro) <;> (first | trivial | rfl | omega | (simp; done) | (simp; omega) | (intros; rfl) | (exact Nat.le_trans (Nat.mul_le_mul_right _ (show _ ≤ 100000000001 by omega)) (by decide)) | (intro hg_; first | exact hg_ | ((try simp only [decide_eq_true_eq] at hg_); (try rw [wi64 (by omega) (by omega)]); (repeat' apply And.intro) <;> (first | trivial | rfl | omega | (intros; rfl)))))))))
        | refine d_put rfl rfl rfl trivial trivial ?_
        | (refine d_put rfl rfl rfl trivial ?hc ?_; (case hc => (first | (simp only [need, imp, needIf]; done) | ((try simp only [need, imp, needIf]); (repeat' apply And.intro) <;> (first | trivial | rfl | omega | (simp; done) | (simp; omega) | (intros; rfl) | (exact Nat.le_trans (Nat.mul_le_mul_right _ (show _ ≤ 100000000001 by omega)) (by decide)) | (intro hg_; first | exact hg_ | ((try simp only [decide_eq_true_eq] at hg_); (try rw [wi64 (by omega) (by omega)]); (repeat' apply And.intro) <;> (first | trivial | rfl | omega | (intros; rfl)))))))))
        | refine d_nil ?_
        | refine s_skip ?_
        | refine s_block ?_
        | refine s_exit ?_
        | refine s_label ?_)
      refine s_ret ?_
      exact ⟨_, _, rfl, ⟨trivial, trivial⟩, rfl, rfl⟩
    · cases h
  · cases h
theorem Sound_body : HasBody Try.prog 24 := ⟨_, Try.func24, rfl, by decide⟩

/-! ### the document's -/
def totR (g : Nat → Mb) : Nat → Nat → Int → Int
  | 0, _, t => t
  | n + 1, k, t => if (decide (t > 1152921504606846975) || decide ((g k).power > 1152921504606846975)) = true then 1152921504606846976 else totR g n (k + 1) (IntKind.u64.wrap (t + (g k).power))
def totRC (args : List AV) (M : MemF) : Option (Prop × AV) := match args with
  | [x] => match mbsOf M x with
    | some (c, n, g) => some (c, .v (.int .u64 (totR g n 0 0)))
    | none => none
  | _ => none
theorem totR_read : ReadFn Try.prog 42 totRC := by
  intro args M q res h hq O w0 w hS
  unfold totRC at h
  split at h
  · rename_i x
    split at h
    · rename_i c n g hm
      cases h
      obtain ⟨hn, base, cap, hv, hro⟩ := mbs_ro hS hm hq
      rw [show [x].map AV.val = [roS 900 base 3 n cap].map AV.val by simp only [List.map_cons, List.map_nil, hv, roS_val]]
      refine ro_fn tabs (ct := []) trivial (cr := []) trivial Try.func42 rfl rfl (M := [(900, roB base 3 n fun i => encMb (g i))]) rfl ⟨roB_noOwn, trivial⟩ ⟨hro, trivial⟩ ?_
      repeat (first
        | refine s_seq ?_
        | refine s_region ?_
        | refine o_val rfl rfl trivial trivial ?_
        | (refine o_val rfl rfl trivial ?hc ?_; (case hc => (first | (simp only [need, imp, needIf]; done) | ((try simp only [need, imp, needIf]); (repeat' apply And.intro) <;> (first | trivial | rfl | omega | (simp; done) | (simp; omega) | (intros; rfl) | (exact Nat.le_trans (Nat.mul_le_mul_right _ (show _ ≤ 100000000001 by omega)) (by decide)) | (intro hg_; first | exact hg_ | ((try simp only [decide_eq_true_eq] at hg_); (try rw [wi64 (by omega) (by omega)]); (repeat' apply And.intro) <;> (first | trivial | rfl | omega | (intros; rfl)))))))))
        | refine o_new rfl rfl rfl ⟨0, trivial⟩ trivial (fun _ _ => ?_)
        | (refine o_new rfl rfl rfl ⟨0, trivial⟩ ?hc (fun _ _ => ?_); (case hc => (first | (simp only [need, imp, needIf]; done) | ((try simp only [need, imp, needIf]); (repeat' apply And.intro) <;> (first | trivial | rfl | omega | (simp; done) | (simp; omega) | (intros; rfl) | (exact Nat.le_trans (Nat.mul_le_mul_right _ (show _ ≤ 100000000001 by omega)) (by decide)) | (intro hg_; first | exact hg_ | ((try simp only [decide_eq_true_eq] at hg_); (try rw [wi64 (by omega) (by omega)]); (repeat' apply And.intro) <;> (first | trivial | rfl | omega | (intros; rfl)))))))))
        | (refine o_new rfl rfl rfl ⟨(none, _), Nat.le_refl _⟩ ?hc (fun _ _ => ?_); (case hc => (first | (simp only [need, imp, needIf]; done) | ((try simp only [need, imp, needIf]); (repeat' apply And.intro) <;> (first | trivial | rfl | omega | (simp; done) | (simp; omega) | (intros; rfl) | (exact Nat.le_trans (Nat.mul_le_mul_right _ (show _ ≤ 100000000001 by omega)) (by decide)) | (intro hg_; first | exact hg_ | ((try simp only [decide_eq_true_eq] at hg_); (try rw [wi64 (by omega) (by omega)]); (repeat' apply And.intro) <;> (first | trivial | rfl | omega | (intros; rfl)))))))))
        | refine o_put rfl rfl rfl trivial trivial ?_
        | (refine o_put rfl rfl rfl trivial ?hc ?_; (case hc => (first | (simp only [need, imp, needIf]; done) | ((try simp only [need, imp, needIf]); (repeat' apply And.intro) <;> (first | trivial | rfl | omega | (simp; done) | (simp; omega) | (intros; rfl) | (exact Nat.le_trans (Nat.mul_le_mul_right _ (show _ ≤ 100000000001 by omega)) (by decide)) | (intro hg_; first | exact hg_ | ((try simp only [decide_eq_true_eq] at hg_); (try rw [wi64 (by omega) (by omega)]); (repeat' apply And.intro) <;> (first | trivial | rfl | omega | (intros; rfl)))))))))
        | refine o_nil ?_
        | refine d_val rfl rfl trivial trivial ?_
        | (refine d_val rfl rfl trivial ?hc ?_; (case hc => (first | (simp only [need, imp, needIf]; done) | ((try simp only [need, imp, needIf]); (repeat' apply And.intro) <;> (first | trivial | rfl | omega | (simp; done) | (simp; omega) | (intros; rfl) | (exact Nat.le_trans (Nat.mul_le_mul_right _ (show _ ≤ 100000000001 by omega)) (by decide)) | (intro hg_; first | exact hg_ | ((try simp only [decide_eq_true_eq] at hg_); (try rw [wi64 (by omega) (by omega)]); (repeat' apply And.intro) <;> (first | trivial | rfl | omega | (intros; rfl)))))))))
        | refine d_new rfl rfl rfl ⟨0, trivial⟩ trivial (fun _ _ => ?_)
        | (refine d_new rfl rfl rfl ⟨0, trivial⟩ ?hc (fun _ _ => ?_); (case hc => (first | (simp only [need, imp, needIf]; done) | ((try simp only [need, imp, needIf]); (repeat' apply And.intro) <;> (first | trivial | rfl | omega | (simp; done) | (simp; omega) | (intros; rfl) | (exact Nat.le_trans (Nat.mul_le_mul_right _ (show _ ≤ 100000000001 by omega)) (by decide)) | (intro hg_; first | exact hg_ | ((try simp only [decide_eq_true_eq] at hg_); (try rw [wi64 (by omega) (by omega)]); (repeat' apply And.intro) <;> (first | trivial | rfl | omega | (intros; rfl)))))))))
        | (refine d_new rfl rfl rfl ⟨(none, _), Nat.le_refl _⟩ ?hc (fun _ _ => ?_); (case hc => (first | (simp only [need, imp, needIf]; done) | ((try simp only [need, imp, needIf]); (repeat' apply And.intro) <;> (first | trivial | rfl | omega | (simp; done) | (simp; omega) | (intros; rfl) | (exact Nat.le_trans (Nat.mul_le_mul_right _ (show _ ≤ 100000000001 by omega)) (by decide)) | (intro hg_; first | exact hg_ | ((try simp only [decide_eq_true_eq] at hg_); (try rw [wi64 (by omega) (by omega)]); (repeat' apply And.intro) <;> (first | trivial | rfl | omega | (intros; rfl)))))))))
        | refine d_put rfl rfl rfl trivial trivial ?_
        | (refine d_put rfl rfl rfl trivial ?hc ?_; (case hc => (first | (simp only [need, imp, needIf]; done) | ((try simp only [need, imp, needIf]); (repeat' apply And.intro) <;> (first | trivial | rfl | omega | (simp; done) | (simp; omega) | (intros; rfl) | (exact Nat.le_trans (Nat.mul_le_mul_right _ (show _ ≤ 100000000001 by omega)) (by decide)) | (intro hg_; first | exact hg_ | ((try simp only [decide_eq_true_eq] at hg_); (try rw [wi64 (by omega) (by omega)]); (repeat' apply And.intro) <;> (first | trivial | rfl | omega | (intros; rfl)))))))))
        | refine d_nil ?_
        | refine s_skip ?_
        | refine s_block ?_
        | refine s_exit ?_
        | refine s_label ?_)
      refine s_loopW (α := Nat × Int) [3, 4, 5, 6, 7, 8, 9, 10, 11, 12, 13, 14, 15, 16, 17, 18, 19, 20, 21, 22, 23, 24, 25, 26, 27] [] (fun x => x.1 ≤ n ∧ totR g n 0 0 = totR g (n - x.1) x.1 x.2) (fun x => [(4, none, .v (.int .i64 x.1)), (3, none, .v (.int .u64 x.2))]) (fun _ => []) (fun x => n - x.1) (0, 0) ⟨Nat.zero_le _, rfl⟩ ?_ ?_
      · (refine Le.of ?leT ?leM rfl; (case leT => repeat (first | exact trivial | refine And.intro (by first | exact rfl | (show some (none, AV.v (.int .i64 (IntKind.i64.wrap _))) = _; rw [wi64 (by omega) (by omega)]; rfl)) ?_)); (case leM => repeat (first | exact trivial | refine And.intro ⟨_, rfl, Blk.le_refl _⟩ ?_)))
      · intro ⟨k, t⟩ ⟨hk, hz⟩
        dsimp only at hk hz
        repeat (first
          | refine s_seq ?_
          | refine s_region ?_
          | refine o_val rfl rfl trivial trivial ?_
          | (refine o_val rfl rfl trivial ?hc ?_; (case hc => (first | (simp only [need, imp, needIf]; done) | ((try simp only [need, imp, needIf]); (repeat' apply And.intro) <;> (first | trivial | rfl | omega | (simp; done) | (simp; omega) | (intros; rfl) | (exact Nat.le_trans (Nat.mul_le_mul_right _ (show _ ≤ 100000000001 by omega)) (by decide)) | (intro hg_; first | exact hg_ | ((try simp only [decide_eq_true_eq] at hg_); (try rw [wi64 (by omega) (by omega)]); (repeat' apply And.intro) <;> (first | trivial | rfl | omega | (intros; rfl)))))))))
          | refine o_new rfl rfl rfl ⟨0, trivial⟩ trivial (fun _ _ => ?_)
          | (refine o_new rfl rfl rfl ⟨0, trivial⟩ ?hc (fun _ _ => ?_); (case hc => (first | (simp only [need, imp, needIf]; done) | ((try simp only [need, imp, needIf]); (repeat' apply And.intro) <;> (first | trivial | rfl | omega | (simp; done) | (simp; omega) | (intros; rfl) | (exact Nat.le_trans (Nat.mul_le_mul_right _ (show _ ≤ 100000000001 by omega)) (by decide)) | (intro hg_; first | exact hg_ | ((try simp only [decide_eq_true_eq] at hg_); (try rw [wi64 (by omega) (by omega)]); (repeat' apply And.intro) <;> (first | trivial | rfl | omega | (intros; rfl)))))))))
          | (refine o_new rfl rfl rfl ⟨(none, _), Nat.le_refl _⟩ ?hc (fun _ _ => ?_); (case hc => (first | (simp only [need, imp, needIf]; done) | ((try simp only [need, imp, needIf]); (repeat' apply And.intro) <;> (first | trivial | rfl | omega | (simp; done) | (simp; omega) | (intros; rfl) | (exact Nat.le_trans (Nat.mul_le_mul_right _ (show _ ≤ 100000000001 by omega)) (by decide)) | (intro hg_; first | exact hg_ | ((try simp only [decide_eq_true_eq] at hg_); (try rw [wi64 (by omega) (by omega)]); (repeat' apply And.intro) <;> (first | trivial | rfl | omega | (intros; rfl)))))))))
          | refine o_put rfl rfl rfl trivial trivial ?_
          | (refine o_put rfl rfl rfl trivial ?hc ?_; (case hc => (first | (simp only [need, imp, needIf]; done) | ((try simp only [need, imp, needIf]); (repeat' apply And.intro) <;> (first | trivial | rfl | omega | (simp; done) | (simp; omega) | (intros; rfl) | (exact Nat.le_trans (Nat.mul_le_mul_right _ (show _ ≤ 100000000001 by omega)) (by decide)) | (intro hg_; first | exact hg_ | ((try simp only [decide_eq_true_eq] at hg_); (try rw [wi64 (by omega) (by omega)]); (repeat' apply And.intro) <;> (first | trivial | rfl | omega | (intros; rfl)))))))))
          | refine o_nil ?_
          | refine d_val rfl rfl trivial trivial ?_
          | (refine d_val rfl rfl trivial ?hc ?_; (case hc => (first | (simp only [need, imp, needIf]; done) | ((try simp only [need, imp, needIf]); (repeat' apply And.intro) <;> (first | trivial | rfl | omega | (simp; done) | (simp; omega) | (intros; rfl) | (exact Nat.le_trans (Nat.mul_le_mul_right _ (show _ ≤ 100000000001 by omega)) (by decide)) | (intro hg_; first | exact hg_ | ((try simp only [decide_eq_true_eq] at hg_); (try rw [wi64 (by omega) (by omega)]); (repeat' apply And.intro) <;> (first | trivial | rfl | omega | (intros; rfl)))))))))
          | refine d_new rfl rfl rfl ⟨0, trivial⟩ trivial (fun _ _ => ?_)
          | (refine d_new rfl rfl rfl ⟨0, trivial⟩ ?hc (fun _ _ => ?_); (case hc => (first | (simp only [need, imp, needIf]; done) | ((try simp only [need, imp, needIf]); (repeat' apply And.intro) <;> (first | trivial | rfl | omega | (simp; done) | (simp; omega) | (intros; rfl) | (exact Nat.le_trans (Nat.mul_le_mul_right _ (show _ ≤ 100000000001 by omega)) (by decide)) | (intro hg_; first | exact hg_ | ((try simp only [decide_eq_true_eq] at hg_); (try rw [wi64 (by omega) (by omega)]); (repeat' apply And.intro) <;> (first | trivial | rfl | omega | (intros; rfl)))))))))
          | (refine d_new rfl rfl rfl ⟨(none, _), Nat.le_refl _⟩ ?hc (fun _ _ => ?_); (case hc => (first | (simp only [need, imp, needIf]; done) | ((try simp only [need, imp, needIf]); (repeat' apply And.intro) <;> (first | trivial | rfl | omega | (simp; done) | (simp; omega) | (intros; rfl) | (exact Nat.le_trans (Nat.mul_le_mul_right _ (show _ ≤ 100000000001 by omega)) (by decide)) | (intro hg_; first | exact hg_ | ((try simp only [decide_eq_true_eq] at hg_); (try rw [wi64 (by omega) (by omega)]); (repeat' apply And.intro) <;> (first | trivial | rfl | omega | (intros; rfl)))))))))
          | refine d_put rfl rfl rfl trivial trivial ?_
          | (refine d_put rfl rfl rfl trivial ?hc ?_; (case hc => (first | (simp only [need, imp, needIf]; done) | ((try simp only [need, imp, needIf]); (repeat' apply And.intro) <;> (first | trivial | rfl | omega | (simp; done) | (simp; omega) | (intros; rfl) | (exact Nat.le_trans (Nat.mul_le_mul_right _ (show _ ≤ 100000000001 by omega)) (by decide)) | (intro hg_; first | exact hg_ | ((try simp only [decide_eq_true_eq] at hg_); (try rw [wi64 (by omega) (by omega)]); (repeat' apply And.intro) <;> (first | trivial | rfl | omega | (intros; rfl)))))))))
          | refine d_nil ?_
          | refine s_skip ?_
          | refine s_block ?_
          | refine s_exit ?_
          | refine s_label ?_)
        refine s_cond (b := decide ((k : Int) < n)) rfl (fun hb => ?_) (fun hb => ?_)
        · have hlt : k < n := by simpa using hb
          have hs : n - k = (n - (k + 1)) + 1 := by omega
          rw [hs, totR] at hz
          repeat (first
            | refine s_seq ?_
            | refine s_region ?_
            | refine o_val rfl rfl trivial trivial ?_
            | (refine o_val rfl rfl trivial ?hc ?_; (case hc => (first | (simp only [need, imp, needIf]; done) | ((try simp only [need, imp, needIf]); (repeat' apply And.intro) <;> (first | trivial | rfl | omega | (simp; done) | (simp; omega) | (intros; rfl) | (exact Nat.le_trans (Nat.mul_le_mul_right _ (show _ ≤ 100000000001 by omega)) (by decide)) | (intro hg_; first | exact hg_ | ((try simp only [decide_eq_true_eq] at hg_); (try rw [wi64 (by omega) (by omega)]); (repeat' apply And.intro) <;> (first | trivial | rfl | omega | (intros; rfl)))))))))
            | refine o_new rfl rfl rfl ⟨0, trivial⟩ trivial (fun _ _ => ?_)
            | (refine o_new rfl rfl rfl ⟨0, trivial⟩ ?hc (fun _ _ => ?_); (case hc => (first | (simp only [need, imp, needIf]; done) | ((try simp only [need, imp, needIf]); (repeat' apply And.intro) <;> (first | trivial | rfl | omega | (simp; done) | (simp; omega) | (intros; rfl) | (exact Nat.le_trans (Nat.mul_le_mul_right _ (show _ ≤ 100000000001 by omega)) (by decide)) | (intro hg_; first | exact hg_ | ((try simp only [decide_eq_true_eq] at hg_); (try rw [wi64 (by omega) (by omega)]); (repeat' apply And.intro) <;> (first | trivial | rfl | omega | (intros; rfl)))))))))
            | (refine o_new rfl rfl rfl ⟨(none, _), Nat.le_refl _⟩ ?hc (fun _ _ => ?_); (case hc => (first | (simp only [need, imp, needIf]; done) | ((try simp only [need, imp, needIf]); (repeat' apply And.intro) <;> (first | trivial | rfl | omega | (simp; done) | (simp; omega) | (intros; rfl) | (exact Nat.le_trans (Nat.mul_le_mul_right _ (show _ ≤ 100000000001 by omega)) (by decide)) | (intro hg_; first | exact hg_ | ((try simp only [decide_eq_true_eq] at hg_); (try rw [wi64 (by omega) (by omega)]); (repeat' apply And.intro) <;> (first | trivial | rfl | omega | (intros; rfl)))))))))
            | refine o_put rfl rfl rfl trivial trivial ?_
            | (refine o_put rfl rfl rfl trivial ?hc ?_; (case hc => (first | (simp only [need, imp, needIf]; done) | ((try simp only [need, imp, needIf]); (repeat' apply And.intro) <;> (first | trivial | rfl | omega | (simp; done) | (simp; omega) | (intros; rfl) | (exact Nat.le_trans (Nat.mul_le_mul_right _ (show _ ≤ 100000000001 by omega)) (by decide)) | (intro hg_; first | exact hg_ | ((try simp only [decide_eq_true_eq] at hg_); (try rw [wi64 (by omega) (by omega)]); (repeat' apply And.intro) <;> (first | trivial | rfl | omega | (intros; rfl)))))))))
            | refine o_nil ?_
            | refine d_val rfl rfl trivial trivial ?_
            | (refine d_val rfl rfl trivial ?hc ?_; (case hc => (first | (simp only [need, imp, needIf]; done) | ((try simp only [need, imp, needIf]); (repeat' apply And.intro) <;> (first | trivial | rfl | omega | (simp; done) | (simp; omega) | (intros; rfl) | (exact Nat.le_trans (Nat.mul_le_mul_right _ (show _ ≤ 100000000001 by omega)) (by decide)) | (intro hg_; first | exact hg_ | ((try simp only [decide_eq_true_eq] at hg_); (try rw [wi64 (by omega) (by omega)]); (repeat' apply And.intro) <;> (first | trivial | rfl | omega | (intros; rfl)))))))))
            | refine d_new rfl rfl rfl ⟨0, trivial⟩ trivial (fun _ _ => ?_)
            | (refine d_new rfl rfl rfl ⟨0, trivial⟩ ?hc (fun _ _ => ?_); (case hc => (first | (simp only [need, imp, needIf]; done) | ((try simp only [need, imp, needIf]); (repeat' apply And.intro) <;> (first | trivial | rfl | omega | (simp; done) | (simp; omega) | (intros; rfl) | (exact Nat.le_trans (Nat.mul_le_mul_right _ (show _ ≤ 100000000001 by omega)) (by decide)) | (intro hg_; first | exact hg_ | ((try simp only [decide_eq_true_eq] at hg_); (try rw [wi64 (by omega) (by omega)]); (repeat' apply And.intro) <;> (first | trivial | rfl | omega | (intros; rfl)))))))))
            | (refine d_new rfl rfl rfl ⟨(none, _), Nat.le_refl _⟩ ?hc (fun _ _ => ?_); (case hc => (first | (simp only [need, imp, needIf]; done) | ((try simp only [need, imp, needIf]); (repeat' apply And.intro) <;> (first | trivial | rfl | omega | (simp; done) | (simp; omega) | (intros; rfl) | (exact Nat.le_trans (Nat.mul_le_mul_right _ (show _ ≤ 100000000001 by omega)) (by decide)) | (intro hg_; first | exact hg_ | ((try simp only [decide_eq_true_eq] at hg_); (try rw [wi64 (by omega) (by omega)]); (repeat' apply And.intro) <;> (first | trivial | rfl | omega | (intros; rfl)))))))))
            | refine d_put rfl rfl rfl trivial trivial ?_
            | (refine d_put rfl rfl rfl trivial ?hc ?_; (case hc => (first | (simp only [need, imp, needIf]; done) | ((try simp only [need, imp, needIf]); (repeat' apply And.intro) <;> (first | trivial | rfl | omega | (simp; done) | (simp; omega) | (intros; rfl) | (exact Nat.le_trans (Nat.mul_le_mul_right _ (show _ ≤ 100000000001 by omega)) (by decide)) | (intro hg_; first | exact hg_ | ((try simp only [decide_eq_true_eq] at hg_); (try rw [wi64 (by omega) (by omega)]); (repeat' apply And.intro) <;> (first | trivial | rfl | omega | (intros; rfl)))))))))
            | refine d_nil ?_
            | refine s_skip ?_
            | refine s_block ?_
            | refine s_exit ?_
            | refine s_label ?_)
          refine s_cond (b := (decide (t > 1152921504606846975) || decide ((g k).power > 1152921504606846975))) rfl (fun hb2 => ?_) (fun hb2 => ?_)
          · repeat (first
              | refine s_seq ?_
              | refine s_region ?_
              | refine o_val rfl rfl trivial trivial ?_
              | (refine o_val rfl rfl trivial ?hc ?_; (case hc => (first | (simp only [need, imp, needIf]; done) | ((try simp only [need, imp, needIf]); (repeat' apply And.intro) <;> (first | trivial | rfl | omega | (simp; done) | (simp; omega) | (intros; rfl) | (exact Nat.le_trans (Nat.mul_le_mul_right _ (show _ ≤ 100000000001 by omega)) (by decide)) | (intro hg_; first | exact hg_ | ((try simp only [decide_eq_true_eq] at hg_); (try rw [wi64 (by omega) (by omega)]); (repeat' apply And.intro) <;> (first | trivial | rfl | omega | (intros; rfl)))))))))
              | refine o_new rfl rfl rfl ⟨0, trivial⟩ trivial (fun _ _ => ?_)
              | (refine o_new rfl rfl rfl ⟨0, trivial⟩ ?hc (fun _ _ => ?_); (case hc => (first | (simp only [need, imp, needIf]; done) | ((try simp only [need, imp, needIf]); (repeat' apply And.intro) <;> (first | trivial | rfl | omega | (simp; done) | (simp; omega) | (intros; rfl) | (exact Nat.le_trans (Nat.mul_le_mul_right _ (show _ ≤ 100000000001 by omega)) (by decide)) | (intro hg_; first | exact hg_ | ((try simp only [decide_eq_true_eq] at hg_); (try rw [wi64 (by omega) (by omega)]); (repeat' apply And.intro) <;> (first | trivial | rfl | omega | (intros; rfl)))))))))
              | (refine o_new rfl rfl rfl ⟨(none, _), Nat.le_refl _⟩ ?hc (fun _ _ => ?_); (case hc => (first | (simp only [need, imp, needIf]; done) | ((try simp only [need, imp, needIf]); (repeat' apply And.intro) <;> (first | trivial | rfl | omega | (simp; done) | (simp; omega) | (intros; rfl) | (exact Nat.le_trans (Nat.mul_le_mul_right _ (show _ ≤ 100000000001 by omega)) (by decide)) | (intro hg_; first | exact hg_ | ((try simp only [decide_eq_true_eq] at hg_); (try rw [wi64 (by omega) (by omega)]); (repeat' apply And.intro) <;> (first | trivial | rfl | omega | (intros; rfl)))))))))
              | refine o_put rfl rfl rfl trivial trivial ?_
              | (refine o_put rfl rfl rfl trivial ?hc ?_; (case hc => (first | (simp only [need, imp, needIf]; done) | ((try simp only [need, imp, needIf]); (repeat' apply And.intro) <;> (first | trivial | rfl | omega | (simp; done) | (simp; omega) | (intros; rfl) | (exact Nat.le_trans (Nat.mul_le_mul_right _ (show _ ≤ 100000000001 by omega)) (by decide)) | (intro hg_; first | exact hg_ | ((try simp only [decide_eq_true_eq] at hg_); (try rw [wi64 (by omega) (by omega)]); (repeat' apply And.intro) <;> (first | trivial | rfl | omega | (intros; rfl)))))))))
              | refine o_nil ?_
              | refine d_val rfl rfl trivial trivial ?_
              | (refine d_val rfl rfl trivial ?hc ?_; (case hc => (first | (simp only [need, imp, needIf]; done) | ((try simp only [need, imp, needIf]); (repeat' apply And.intro) <;> (first | trivial | rfl | omega | (simp; done) | (simp; omega) | (intros; rfl) | (exact Nat.le_trans (Nat.mul_le_mul_right _ (show _ ≤ 100000000001 by omega)) (by decide)) | (intro hg_; first | exact hg_ | ((try simp only [decide_eq_true_eq] at hg_); (try rw [wi64 (by omega) (by omega)]); (repeat' apply And.intro) <;> (first | trivial | rfl | omega | (intros; rfl)))))))))
              | refine d_new rfl rfl rfl ⟨0, trivial⟩ trivial (fun _ _ => ?_)
              | (refine d_new rfl rfl rfl ⟨0, trivial⟩ ?hc (fun _ _ => ?_); (case hc => (first | (simp only [need, imp, needIf]; done) | ((try simp only [need, imp, needIf]); (repeat' apply And.intro) <;> (first | trivial | rfl | omega | (simp; done) | (simp; omega) | (intros; rfl) | (exact Nat.le_trans (Nat.mul_le_mul_right _ (show _ ≤ 100000000001 by omega)) (by decide)) | (intro hg_; first | exact hg_ | ((try simp only [decide_eq_true_eq] at hg_); (try rw [wi64 (by omega) (by omega)]); (repeat' apply And.intro) <;> (first | trivial | rfl | omega | (intros; rfl)))))))))
              | (refine d_new rfl rfl rfl ⟨(none, _), Nat.le_refl _⟩ ?hc (fun _ _ => ?_); (case hc => (first | (simp only [need, imp, needIf]; done) | ((try simp only [need, imp, needIf]); (repeat' apply And.intro) <;> (first | trivial | rfl | omega | (simp; done) | (simp; omega) | (intros; rfl) | (exact Nat.le_trans (Nat.mul_le_mul_right _ (show _ ≤ 100000000001 by omega)) (by decide)) | (intro hg_; first | exact hg_ | ((try simp only [decide_eq_true_eq] at hg_); (try rw [wi64 (by omega) (by omega)]); (repeat' apply And.intro) <;> (first | trivial | rfl | omega | (intros; rfl)))))))))
              | refine d_put rfl rfl rfl trivial trivial ?_
              | (refine d_put rfl rfl rfl trivial ?hc ?_; (case hc => (first | (simp only [need, imp, needIf]; done) | ((try simp only [need, imp, needIf]); (repeat' apply And.intro) <;> (first | trivial | rfl | omega | (simp; done) | (simp; omega) | (intros; rfl) | (exact Nat.le_trans (Nat.mul_le_mul_right _ (show _ ≤ 100000000001 by omega)) (by decide)) | (intro hg_; first | exact hg_ | ((try simp only [decide_eq_true_eq] at hg_); (try rw [wi64 (by omega) (by omega)]); (repeat' apply And.intro) <;> (first | trivial | rfl | omega | (intros; rfl)))))))))
              | refine d_nil ?_
              | refine s_skip ?_
              | refine s_block ?_
              | refine s_exit ?_
              | refine s_label ?_)
            refine s_ret ?_
            refine ⟨_, _, rfl, ⟨trivial, trivial⟩, rfl, ?_⟩
            rw [hz, if_pos hb2]; rfl
          · rw [if_neg (by rw [hb2]; decide)] at hz
            repeat (first
              | refine s_seq ?_
              | refine s_region ?_
              | refine o_val rfl rfl trivial trivial ?_
              | (refine o_val rfl rfl trivial ?hc ?_; (case hc => (first | (simp only [need, imp, needIf]; done) | ((try simp only [need, imp, needIf]); (repeat' apply And.intro) <;> (first | trivial | rfl | omega | (simp; done) | (simp; omega) | (intros; rfl) | (exact Nat.le_trans (Nat.mul_le_mul_right _ (show _ ≤ 100000000001 by omega)) (by decide)) | (intro hg_; first | exact hg_ | ((try simp only [decide_eq_true_eq] at hg_); (try rw [wi64 (by omega) (by omega)]); (repeat' apply And.intro) <;> (first | trivial | rfl | omega | (intros; rfl)))))))))
              | refine o_new rfl rfl rfl ⟨0, trivial⟩ trivial (fun _ _ => ?_)
              | (refine o_new rfl rfl rfl ⟨0, trivial⟩ ?hc (fun _ _ => ?_); (case hc => (first | (simp only [need, imp, needIf]; done) | ((try simp only [need, imp, needIf]); (repeat' apply And.intro) <;> (first | trivial | rfl | omega | (simp; done) | (simp; omega) | (intros; rfl) | (exact Nat.le_trans (Nat.mul_le_mul_right _ (show _ ≤ 100000000001 by omega)) (by decide)) | (intro hg_; first | exact hg_ | ((try simp only [decide_eq_true_eq] at hg_); (try rw [wi64 (by omega) (by omega)]); (repeat' apply And.intro) <;> (first | trivial | rfl | omega | (intros; rfl)))))))))
              | (refine o_new rfl rfl rfl ⟨(none, _), Nat.le_refl _⟩ ?hc (fun _ _ => ?_); (case hc => (first | (simp only [need, imp, needIf]; done) | ((try simp only [need, imp, needIf]); (repeat' apply And.intro) <;> (first | trivial | rfl | omega | (simp; done) | (simp; omega) | (intros; rfl) | (exact Nat.le_trans (Nat.mul_le_mul_right _ (show _ ≤ 100000000001 by omega)) (by decide)) | (intro hg_; first | exact hg_ | ((try simp only [decide_eq_true_eq] at hg_); (try rw [wi64 (by omega) (by omega)]); (repeat' apply And.intro) <;> (first | trivial | rfl | omega | (intros; rfl)))))))))
              | refine o_put rfl rfl rfl trivial trivial ?_
              | (refine o_put rfl rfl rfl trivial ?hc ?_; (case hc => (first | (simp only [need, imp, needIf]; done) | ((try simp only [need, imp, needIf]); (repeat' apply And.intro) <;> (first | trivial | rfl | omega | (simp; done) | (simp; omega) | (intros; rfl) | (exact Nat.le_trans (Nat.mul_le_mul_right _ (show _ ≤ 100000000001 by omega)) (by decide)) | (intro hg_; first | exact hg_ | ((try simp only [decide_eq_true_eq] at hg_); (try rw [wi64 (by omega) (by omega)]); (repeat' apply And.intro) <;> (first | trivial | rfl | omega | (intros; rfl)))))))))
              | refine o_nil ?_
              | refine d_val rfl rfl trivial trivial ?_
              | (refine d_val rfl rfl trivial ?hc ?_; (case hc => (first | (simp only [need, imp, needIf]; done) | ((try simp only [need, imp, needIf]); (repeat' apply And.intro) <;> (first | trivial | rfl | omega | (simp; done) | (simp; omega) | (intros; rfl) | (exact Nat.le_trans (Nat.mul_le_mul_right _ (show _ ≤ 100000000001 by omega)) (by decide)) | (intro hg_; first | exact hg_ | ((try simp only [decide_eq_true_eq] at hg_); (try rw [wi64 (by omega) (by omega)]); (repeat' apply And.intro) <;> (first | trivial | rfl | omega | (intros; rfl)))))))))
              | refine d_new rfl rfl rfl ⟨0, trivial⟩ trivial (fun _ _ => ?_)
              | (refine d_new rfl rfl rfl ⟨0, trivial⟩ ?hc (fun _ _ => ?_); (case hc => (first | (simp only [need, imp, needIf]; done) | ((try simp only [need, imp, needIf]); (repeat' apply And.intro) <;> (first | trivial | rfl | omega | (simp; done) | (simp; omega) | (intros; rfl) | (exact Nat.le_trans (Nat.mul_le_mul_right _ (show _ ≤ 100000000001 by omega)) (by decide)) | (intro hg_; first | exact hg_ | ((try simp only [decide_eq_true_eq] at hg_); (try rw [wi64 (by omega) (by omega)]); (repeat' apply And.intro) <;> (first | trivial | rfl | omega | (intros; rfl)))))))))
              | (refine d_new rfl rfl rfl ⟨(none, _), Nat.le_refl _⟩ ?hc (fun _ _ => ?_); (case hc => (first | (simp only [need, imp, needIf]; done) | ((try simp only [need, imp, needIf]); (repeat' apply And.intro) <;> (first | trivial | rfl | omega | (simp; done) | (simp; omega) | (intros; rfl) | (exact Nat.le_trans (Nat.mul_le_mul_right _ (show _ ≤ 100000000001 by omega)) (by decide)) | (intro hg_; first | exact hg_ | ((try simp only [decide_eq_true_eq] at hg_); (try rw [wi64 (by omega) (by omega)]); (repeat' apply And.intro) <;> (first | trivial | rfl | omega | (intros; rfl)))))))))
              | refine d_put rfl rfl rfl trivial trivial ?_
              | (refine d_put rfl rfl rfl trivial ?hc ?_; (case hc => (first | (simp only [need, imp, needIf]; done) | ((try simp only [need, imp, needIf]); (repeat' apply And.intro) <;> (first | trivial | rfl | omega | (simp; done) | (simp; omega) | (intros; rfl) | (exact Nat.le_trans (Nat.mul_le_mul_right _ (show _ ≤ 100000000001 by omega)) (by decide)) | (intro hg_; first | exact hg_ | ((try simp only [decide_eq_true_eq] at hg_); (try rw [wi64 (by omega) (by omega)]); (repeat' apply And.intro) <;> (first | trivial | rfl | omega | (intros; rfl)))))))))
              | refine d_nil ?_
              | refine s_skip ?_
              | refine s_block ?_
              | refine s_exit ?_
              | refine s_label ?_)
            refine ⟨(k + 1, IntKind.u64.wrap (t + (g k).power)), ⟨by dsimp only; omega, hz⟩, by dsimp only; omega, ?_⟩
            (refine Le.of ?leT ?leM rfl; (case leT => repeat (first | exact trivial | refine And.intro (by first | exact rfl | (show some (none, AV.v (.int .i64 (IntKind.i64.wrap _))) = _; rw [wi64 (by omega) (by omega)]; rfl)) ?_)); (case leM => repeat (first | exact trivial | refine And.intro ⟨_, rfl, Blk.le_refl _⟩ ?_)))
        · have hge : k = n := by simp at hb; omega
          repeat (first
            | refine s_seq ?_
            | refine s_region ?_
            | refine o_val rfl rfl trivial trivial ?_
            | (refine o_val rfl rfl trivial ?hc ?_; (case hc => (first | (simp only [need, imp, needIf]; done) | ((try simp only [need, imp, needIf]); (repeat' apply And.intro) <;> (first | trivial | rfl | omega | (simp; done) | (simp; omega) | (intros; rfl) | (exact Nat.le_trans (Nat.mul_le_mul_right _ (show _ ≤ 100000000001 by omega)) (by decide)) | (intro hg_; first | exact hg_ | ((try simp only [decide_eq_true_eq] at hg_); (try rw [wi64 (by omega) (by omega)]); (repeat' apply And.intro) <;> (first | trivial | rfl | omega | (intros; rfl)))))))))
            | refine o_new rfl rfl rfl ⟨0, trivial⟩ trivial (fun _ _ => ?_)
            | (refine o_new rfl rfl rfl ⟨0, trivial⟩ ?hc (fun _ _ => ?_); (case hc => (first | (simp only [need, imp, needIf]; done) | ((try simp only [need, imp, needIf]); (repeat' apply And.intro) <;> (first | trivial | rfl | omega | (simp; done) | (simp; omega) | (intros; rfl) | (exact Nat.le_trans (Nat.mul_le_mul_right _ (show _ ≤ 100000000001 by omega)) (by decide)) | (intro hg_; first | exact hg_ | ((try simp only [decide_eq_true_eq] at hg_); (try rw [wi64 (by omega) (by omega)]); (repeat' apply And.intro) <;> (first | trivial | rfl | omega | (intros; rfl)))))))))
            | (refine o_new rfl rfl rfl ⟨(none, _), Nat.le_refl _⟩ ?hc (fun _ _ => ?_); (case hc => (first | (simp only [need, imp, needIf]; done) | ((try simp only [need, imp, needIf]); (repeat' apply And.intro) <;> (first | trivial | rfl | omega | (simp; done) | (simp; omega) | (intros; rfl) | (exact Nat.le_trans (Nat.mul_le_mul_right _ (show _ ≤ 100000000001 by omega)) (by decide)) | (intro hg_; first | exact hg_ | ((try simp only [decide_eq_true_eq] at hg_); (try rw [wi64 (by omega) (by omega)]); (repeat' apply And.intro) <;> (first | trivial | rfl | omega | (intros; rfl)))))))))
            | refine o_put rfl rfl rfl trivial trivial ?_
            | (refine o_put rfl rfl rfl trivial ?hc ?_; (case hc => (first | (simp only [need, imp, needIf]; done) | ((try simp only [need, imp, needIf]); (repeat' apply And.intro) <;> (first | trivial | rfl | omega | (simp; done) | (simp; omega) | (intros; rfl) | (exact Nat.le_trans (Nat.mul_le_mul_right _ (show _ ≤ 100000000001 by omega)) (by decide)) | (intro hg_; first | exact hg_ | ((try simp only [decide_eq_true_eq] at hg_); (try rw [wi64 (by omega) (by omega)]); (repeat' apply And.intro) <;> (first | trivial | rfl | omega | (intros; rfl)))))))))
            | refine o_nil ?_
            | refine d_val rfl rfl trivial trivial ?_
            | (refine d_val rfl rfl trivial ?hc ?_; (case hc => (first | (simp only [need, imp, needIf]; done) | ((try simp only [need, imp, needIf]); (repeat' apply And.intro) <;> (first | trivial | rfl | omega | (simp; done) | (simp; omega) | (intros; rfl) | (exact Nat.le_trans (Nat.mul_le_mul_right _ (show _ ≤ 100000000001 by omega)) (by decide)) | (intro hg_; first | exact hg_ | ((try simp only [decide_eq_true_eq] at hg_); (try rw [wi64 (by omega) (by omega)]); (repeat' apply And.intro) <;> (first | trivial | rfl | omega | (intros; rfl)))))))))
            | refine d_new rfl rfl rfl ⟨0, trivial⟩ trivial (fun _ _ => ?_)
            | (refine d_new rfl rfl rfl ⟨0, trivial⟩ ?hc (fun _ _ => ?_); (case hc => (first | (simp only [need, imp, needIf]; done) | ((try simp only [need, imp, needIf]); (repeat' apply And.intro) <;> (first | trivial | rfl | omega | (simp; done) | (simp; omega) | (intros; rfl) | (exact Nat.le_trans (Nat.mul_le_mul_right _ (show _ ≤ 100000000001 by omega)) (by decide)) | (intro hg_; first | exact hg_ | ((try simp only [decide_eq_true_eq] at hg_); (try rw [wi64 (by omega) (by omega)]); (repeat' apply And.intro) <;> (first | trivial | rfl | omega | (intros; rfl)))))))))
            | (refine d_new rfl rfl rfl ⟨(none, _), Nat.le_refl _⟩ ?hc (fun _ _ => ?_); (case hc => (first | (simp only [need, imp, needIf]; done) | ((try simp only [need, imp, needIf]); (repeat' apply And.intro) <;> (first | trivial | rfl | omega | (simp; done) | (simp; omega) | (intros; rfl) | (exact Nat.le_trans (Nat.mul_le_mul_right _ (show _ ≤ 100000000001 by omega)) (by decide)) | (intro hg_; first | exact hg_ | ((try simp only [decide_eq_true_eq] at hg_); (try rw [wi64 (by omega) (by omega)]); (repeat' apply And.intro) <;> (first | trivial | rfl | omega | (intros; rfl)))))))))
            | refine d_put rfl rfl rfl trivial trivial ?_
            | (refine d_put rfl rfl rfl trivial ?hc ?_; (case hc => (first | (simp only [need, imp, needIf]; done) | ((try simp only [need, imp, needIf]); (repeat' apply And.intro) <;> (first | trivial | rfl | omega | (simp; done) | (simp; omega) | (intros; rfl) | (exact Nat.le_trans (Nat.mul_le_mul_right _ (show _ ≤ 100000000001 by omega)) (by decide)) | (intro hg_; first | exact hg_ | ((try simp only [decide_eq_true_eq] at hg_); (try rw [wi64 (by omega) (by omega)]); (repeat' apply And.intro) <;> (first | trivial | rfl | omega | (intros; rfl)))))))))
            | refine d_nil ?_
            | refine s_skip ?_
            | refine s_block ?_
            | refine s_exit ?_
            | refine s_label ?_)
          refine s_ret ?_
          refine ⟨_, _, rfl, ⟨trivial, trivial⟩, rfl, ?_⟩
          rw [hz, hge, Nat.sub_self]; rfl
    · cases h
  · cases h
theorem totR_body : HasBody Try.prog 42 := ⟨_, Try.func42, rfl, by decide⟩

def prioBadR (t : Int) (m : Mb) : Bool := decide (m.prio < IntKind.i64.wrap (-7 * IntKind.i64.wrap t)) || decide (m.prio > IntKind.i64.wrap (7 * IntKind.i64.wrap t))
def prioR (g : Nat → Mb) (t : Int) : Nat → Nat → Int
  | 0, _ => 0
  | n + 1, k => if prioBadR t (g k) = true then 2 else prioR g t n (k + 1)
def SoundRF (g : Nat → Mb) (n : Nat) : Int :=
  if ((n : Int) == 0) = true then 53 else if decide ((n : Int) > 64) = true then 4 else
  if memG g n 0 ≠ 0 then memG g n 0 else if decide (totR g n 0 0 > 1152921504606846975) = true then 51 else prioR g (totR g n 0 0) n 0
def SoundRC (args : List AV) (M : MemF) : Option (Prop × AV) := match args with
  | [.agg (.cons x .nil)] => match mbsOf M x with
    | some (c, n, g) => some (c, .v (.int .i64 (SoundRF g n)))
    | none => none
  | _ => none
def ctR1 : CtL := [(42, totRC)]
theorem ctR1_ok : CtLOk Try.prog ctR1 := ⟨.fn totR_body totR_read, trivial⟩
set_option maxRecDepth 100000 in
theorem SoundR_read : ReadFn Try.prog 27 SoundRC := by
  intro args M q res h hq O w0 w hS
  unfold SoundRC at h
  split at h
  · rename_i x
    split at h
    · rename_i c n g hm
      cases h
      obtain ⟨hn, base, cap, hv, hro⟩ := mbs_ro hS hm hq
      have hpl := mbs_plain hm
      rw [hv] at hpl
      rw [show [AV.agg (.cons x .nil)].map AV.val = [AV.agg (.cons (roS 900 base 3 n cap) .nil)].map AV.val by simp only [List.map_cons, List.map_nil, agg1_val hpl (roS_cells 900 base 3 n cap)]]
      refine ro_fn tabs ctR1_ok (cr := []) trivial Try.func27 rfl rfl (M := [(900, roB base 3 n fun i => encMb (g i))]) rfl ⟨roB_noOwn, trivial⟩ ⟨hro, trivial⟩ ?_
      repeat (first
        | refine s_seq ?_
        | refine s_region ?_
        | refine o_val rfl rfl trivial trivial ?_
        | (refine o_val rfl rfl trivial ?hc ?_; (case hc => (first | (simp only [need, imp, needIf]; done) | ((try simp only [need, imp, needIf]); (repeat' apply And.intro) <;> (first | trivial | rfl | omega | (simp; done) | (simp; omega) | (intros; rfl) | (exact Nat.le_trans (Nat.mul_le_mul_right _ (show _ ≤ 100000000001 by omega)) (by decide)) | (intro hg_; first | exact hg_ | ((try simp only [decide_eq_true_eq] at hg_); (try rw [wi64 (by omega) (by omega)]); (repeat' apply And.intro) <;> (first | trivial | rfl | omega | (intros; rfl)))))))))
        | refine o_new rfl rfl rfl ⟨0, trivial⟩ trivial (fun _ _ => ?_)
        | (refine o_new rfl rfl rfl ⟨0, trivial⟩ ?hc (fun _ _ => ?_); (case hc => (first | (simp only [need, imp, needIf]; done) | ((try simp only [need, imp, needIf]); (repeat' apply And.intro) <;> (first | trivial | rfl | omega | (simp; done) | (simp; omega) | (intros; rfl) | (exact Nat.le_trans (Nat.mul_le_mul_right _ (show _ ≤ 100000000001 by omega)) (by decide)) | (intro hg_; first | exact hg_ | ((try simp only [decide_eq_true_eq] at hg_); (try rw [wi64 (by omega) (by omega)]); (repeat' apply And.intro) <;> (first | trivial | rfl | omega | (intros; rfl)))))))))
        | (refine o_new rfl rfl rfl ⟨(none, _), Nat.le_refl _⟩ ?hc (fun _ _ => ?_); (case hc => (first | (simp only [need, imp, needIf]; done) | ((try simp only [need, imp, needIf]); (repeat' apply And.intro) <;> (first | trivial | rfl | omega | (simp; done) | (simp; omega) | (intros; rfl) | (exact Nat.le_trans (Nat.mul_le_mul_right _ (show _ ≤ 100000000001 by omega)) (by decide)) | (intro hg_; first | exact hg_ | ((try simp only [decide_eq_true_eq] at hg_); (try rw [wi64 (by omega) (by omega)]); (repeat' apply And.intro) <;> (first | trivial | rfl | omega | (intros; rfl)))))))))
        | refine o_put rfl rfl rfl trivial trivial ?_
        | (refine o_put rfl rfl rfl trivial ?hc ?_; (case hc => (first | (simp only [need, imp, needIf]; done) | ((try simp only [need, imp, needIf]); (repeat' apply And.intro) <;> (first | trivial | rfl | omega | (simp; done) | (simp; omega) | (intros; rfl) | (exact Nat.le_trans (Nat.mul_le_mul_right _ (show _ ≤ 100000000001 by omega)) (by decide)) | (intro hg_; first | exact hg_ | ((try simp only [decide_eq_true_eq] at hg_); (try rw [wi64 (by omega) (by omega)]); (repeat' apply And.intro) <;> (first | trivial | rfl | omega | (intros; rfl)))))))))
        | refine o_nil ?_
        | refine d_val rfl rfl trivial trivial ?_
        | (refine d_val rfl rfl trivial ?hc ?_; (case hc => (first | (simp only [need, imp, needIf]; done) | ((try simp only [need, imp, needIf]); (repeat' apply And.intro) <;> (first | trivial | rfl | omega | (simp; done) | (simp; omega) | (intros; rfl) | (exact Nat.le_trans (Nat.mul_le_mul_right _ (show _ ≤ 100000000001 by omega)) (by decide)) | (intro hg_; first | exact hg_ | ((try simp only [decide_eq_true_eq] at hg_); (try rw [wi64 (by omega) (by omega)]); (repeat' apply And.intro) <;> (first | trivial | rfl | omega | (intros; rfl)))))))))
        | refine d_new rfl rfl rfl ⟨0, trivial⟩ trivial (fun _ _ => ?_)
        | (refine d_new rfl rfl rfl ⟨0, trivial⟩ ?hc (fun _ _ => ?_); (case hc => (first | (simp only [need, imp, needIf]; done) | ((try simp only [need, imp, needIf]); (repeat' apply And.intro) <;> (first | trivial | rfl | omega | (simp; done) | (simp; omega) | (intros; rfl) | (exact Nat.le_trans (Nat.mul_le_mul_right _ (show _ ≤ 100000000001 by omega)) (by decide)) | (intro hg_; first | exact hg_ | ((try simp only [decide_eq_true_eq] at hg_); (try rw [wi64 (by omega) (by omega)]); (repeat' apply And.intro) <;> (first | trivial | rfl | omega | (intros; rfl)))))))))
        | (refine d_new rfl rfl rfl ⟨(none, _), Nat.le_refl _⟩ ?hc (fun _ _ => ?_); (case hc => (first | (simp only [need, imp, needIf]; done) | ((try simp only [need, imp, needIf]); (repeat' apply And.intro) <;> (first | trivial | rfl | omega | (simp; done) | (simp; omega) | (intros; rfl) | (exact Nat.le_trans (Nat.mul_le_mul_right _ (show _ ≤ 100000000001 by omega)) (by decide)) | (intro hg_; first | exact hg_ | ((try simp only [decide_eq_true_eq] at hg_); (try rw [wi64 (by omega) (by omega)]); (repeat' apply And.intro) <;> (first | trivial | rfl | omega | (intros; rfl)))))))))
        | refine d_put rfl rfl rfl trivial trivial ?_
        | (refine d_put rfl rfl rfl trivial ?hc ?_; (case hc => (first | (simp only [need, imp, needIf]; done) | ((try simp only [need, imp, needIf]); (repeat' apply And.intro) <;> (first | trivial | rfl | omega | (simp; done) | (simp; omega) | (intros; rfl) | (exact Nat.le_trans (Nat.mul_le_mul_right _ (show _ ≤ 100000000001 by omega)) (by decide)) | (intro hg_; first | exact hg_ | ((try simp only [decide_eq_true_eq] at hg_); (try rw [wi64 (by omega) (by omega)]); (repeat' apply And.intro) <;> (first | trivial | rfl | omega | (intros; rfl)))))))))
        | refine d_nil ?_
        | refine s_skip ?_
        | refine s_block ?_
        | refine s_exit ?_
        | refine s_label ?_)
      refine s_cond (b := ((n : Int) == 0)) rfl (fun h1 => ?_) (fun h1 => ?_)
      · repeat (first
          | refine s_seq ?_
          | refine s_region ?_
          | refine o_val rfl rfl trivial trivial ?_
          | (refine o_val rfl rfl trivial ?hc ?_; (case hc => (first | (simp only [need, imp, needIf]; done) | ((try simp only [need, imp, needIf]); (repeat' apply And.intro) <;> (first | trivial | rfl | omega | (simp; done) | (simp; omega) | (intros; rfl) | (exact Nat.le_trans (Nat.mul_le_mul_right _ (show _ ≤ 100000000001 by omega)) (by decide)) | (intro hg_; first | exact hg_ | ((try simp only [decide_eq_true_eq] at hg_); (try rw [wi64 (by omega) (by omega)]); (repeat' apply And.intro) <;> (first | trivial | rfl | omega | (intros; rfl)))))))))
          | refine o_new rfl rfl rfl ⟨0, trivial⟩ trivial (fun _ _ => ?_)
          | (refine o_new rfl rfl rfl ⟨0, trivial⟩ ?hc (fun _ _ => ?_); (case hc => (first | (simp only [need, imp, needIf]; done) | ((try simp only [need, imp, needIf]); (repeat' apply And.intro) <;> (first | trivial | rfl | omega | (simp; done) | (simp; omega) | (intros; rfl) | (exact Nat.le_trans (Nat.mul_le_mul_right _ (show _ ≤ 100000000001 by omega)) (by decide)) | (intro hg_; first | exact hg_ | ((try simp only [decide_eq_true_eq] at hg_); (try rw [wi64 (by omega) (by omega)]); (repeat' apply And.intro) <;> (first | trivial | rfl | omega | (intros; rfl)))))))))
          | (refine o_new rfl rfl rfl ⟨(none, _), Nat.le_refl _⟩ ?hc (fun _ _ => ?_); (case hc => (first | (simp only [need, imp, needIf]; done) | ((try simp only [need, imp, needIf]); (repeat' apply And.intro) <;> (first | trivial | rfl | omega | (simp; done) | (simp; omega) | (intros; rfl) | (exact Nat.le_trans (Nat.mul_le_mul_right _ (show _ ≤ 100000000001 by omega)) (by decide)) | (intro hg_; first | exact hg_ | ((try simp only [decide_eq_true_eq] at hg_); (try rw [wi64 (by omega) (by omega)]); (repeat' apply And.intro) <;> (first | trivial | rfl | omega | (intros; rfl)))))))))
          | refine o_put rfl rfl rfl trivial trivial ?_
          | (refine o_put rfl rfl rfl trivial ?hc ?_; (case hc => (first | (simp only [need, imp, needIf]; done) | ((try simp only [need, imp, needIf]); (repeat' apply And.intro) <;> (first | trivial | rfl | omega | (simp; done) | (simp; omega) | (intros; rfl) | (exact Nat.le_trans (Nat.mul_le_mul_right _ (show _ ≤ 100000000001 by omega)) (by decide)) | (intro hg_; first | exact hg_ | ((try simp only [decide_eq_true_eq] at hg_); (try rw [wi64 (by omega) (by omega)]); (repeat' apply And.intro) <;> (first | trivial | rfl | omega | (intros; rfl)))))))))
          | refine o_nil ?_
          | refine d_val rfl rfl trivial trivial ?_
          | (refine d_val rfl rfl trivial ?hc ?_; (case hc => (first | (simp only [need, imp, needIf]; done) | ((try simp only [need, imp, needIf]); (repeat' apply And.intro) <;> (first | trivial | rfl | omega | (simp; done) | (simp; omega) | (intros; rfl) | (exact Nat.le_trans (Nat.mul_le_mul_right _ (show _ ≤ 100000000001 by omega)) (by decide)) | (intro hg_; first | exact hg_ | ((try simp only [decide_eq_true_eq] at hg_); (try rw [wi64 (by omega) (by omega)]); (repeat' apply And.intro) <;> (first | trivial | rfl | omega | (intros; rfl)))))))))
          | refine d_new rfl rfl rfl ⟨0, trivial⟩ trivial (fun _ _ => ?_)
          | (refine d_new rfl rfl rfl ⟨0, trivial⟩ ?hc (fun _ _ => ?_); (case hc => (first | (simp only [need, imp, needIf]; done) | ((try simp only [need, imp, needIf]); (repeat' apply And.intro) <;> (first | trivial | rfl | omega | (simp; done) | (simp; omega) | (intros; rfl) | (exact Nat.le_trans (Nat.mul_le_mul_right _ (show _ ≤ 100000000001 by omega)) (by decide)) | (intro hg_; first | exact hg_ | ((try simp only [decide_eq_true_eq] at hg_); (try rw [wi64 (by omega) (by omega)]); (repeat' apply And.intro) <;> (first | trivial | rfl | omega | (intros; rfl)))))))))
          | (refine d_new rfl rfl rfl ⟨(none, _), Nat.le_refl _⟩ ?hc (fun _ _ => ?_); (case hc => (first | (simp only [need, imp, needIf]; done) | ((try simp only [need, imp, needIf]); (repeat' apply And.intro) <;> (first | trivial | rfl | omega | (simp; done) | (simp; omega) | (intros; rfl) | (exact Nat.le_trans (Nat.mul_le_mul_right _ (show _ ≤ 100000000001 by omega)) (by decide)) | (intro hg_; first | exact hg_ | ((try simp only [decide_eq_true_eq] at hg_); (try rw [wi64 (by omega) (by omega)]); (repeat' apply And.intro) <;> (first | trivial | rfl | omega | (intros; rfl)))))))))
          | refine d_put rfl rfl rfl trivial trivial ?_
          | (refine d_put rfl rfl rfl trivial ?hc ?_; (case hc => (first | (simp only [need, imp, needIf]; done) | ((try simp only [need, imp, needIf]); (repeat' apply And.intro) <;> (first | trivial | rfl | omega | (simp; done) | (simp; omega) | (intros; rfl) | (exact Nat.le_trans (Nat.mul_le_mul_right _ (show _ ≤ 100000000001 by omega)) (by decide)) | (intro hg_; first | exact hg_ | ((try simp only [decide_eq_true_eq] at hg_); (try rw [wi64 (by omega) (by omega)]); (repeat' apply And.intro) <;> (first | trivial | rfl | omega | (intros; rfl)))))))))
          | refine d_nil ?_
          | refine s_skip ?_
          | refine s_block ?_
          | refine s_exit ?_
          | refine s_label ?_)
        refine s_ret ?_
        exact ⟨_, _, rfl, ⟨trivial, trivial⟩, rfl, by unfold SoundRF; rw [if_pos h1]; rfl⟩
      repeat (first
        | refine s_seq ?_
        | refine s_region ?_
        | refine o_val rfl rfl trivial trivial ?_
        | (refine o_val rfl rfl trivial ?hc ?_; (case hc => (first | (simp only [need, imp, needIf]; done) | ((try simp only [need, imp, needIf]); (repeat' apply And.intro) <;> (first | trivial | rfl | omega | (simp; done) | (simp; omega) | (intros; rfl) | (exact Nat.le_trans (Nat.mul_le_mul_right _ (show _ ≤ 100000000001 by omega)) (by decide)) | (intro hg_; first | exact hg_ | ((try simp only [decide_eq_true_eq] at hg_); (try rw [wi64 (by omega) (by omega)]); (repeat' apply And.intro) <;> (first | trivial | rfl | omega | (intros; rfl)))))))))
        | refine o_new rfl rfl rfl ⟨0, trivial⟩ trivial (fun _ _ => ?_)
        | (refine o_new rfl rfl rfl ⟨0, trivial⟩ ?hc (fun _ _ => ?_); (case hc => (first | (simp only [need, imp, needIf]; done) | ((try simp only [need, imp, needIf]); (repeat' apply And.intro) <;> (first | trivial | rfl | omega | (simp; done) | (simp; omega) | (intros; rfl) | (exact Nat.le_trans (Nat.mul_le_mul_right _ (show _ ≤ 100000000001 by omega)) (by decide)) | (intro hg_; first | exact hg_ | ((try simp only [decide_eq_true_eq] at hg_); (try rw [wi64 (by omega) (by omega)]); (repeat' apply And.intro) <;> (first | trivial | rfl | omega | (intros; rfl)))))))))
        | (refine o_new rfl rfl rfl ⟨(none, _), Nat.le_refl _⟩ ?hc (fun _ _ => ?_); (case hc => (first | (simp only [need, imp, needIf]; done) | ((try simp only [need, imp, needIf]); (repeat' apply And.intro) <;> (first | trivial | rfl | omega | (simp; done) | (simp; omega) | (intros; rfl) | (exact Nat.le_trans (Nat.mul_le_mul_right _ (show _ ≤ 100000000001 by omega)) (by decide)) | (intro hg_; first | exact hg_ | ((try simp only [decide_eq_true_eq] at hg_); (try rw [wi64 (by omega) (by omega)]); (repeat' apply And.intro) <;> (first | trivial | rfl | omega | (intros; rfl)))))))))
        | refine o_put rfl rfl rfl trivial trivial ?_
        | (refine o_put rfl rfl rfl trivial ?hc ?_; (case hc => (first | (simp only [need, imp, needIf]; done) | ((try simp only [need, imp, needIf]); (repeat' apply And.intro) <;> (first | trivial | rfl | omega | (simp; done) | (simp; omega) | (intros; rfl) | (exact Nat.le_trans (Nat.mul_le_mul_right _ (show _ ≤ 100000000001 by omega)) (by decide)) | (intro hg_; first | exact hg_ | ((try simp only [decide_eq_true_eq] at hg_); (try rw [wi64 (by omega) (by omega)]); (repeat' apply And.intro) <;> (first | trivial | rfl | omega | (intros; rfl)))))))))
        | refine o_nil ?_
        | refine d_val rfl rfl trivial trivial ?_
        | (refine d_val rfl rfl trivial ?hc ?_; (case hc => (first | (simp only [need, imp, needIf]; done) | ((try simp only [need, imp, needIf]); (repeat' apply And.intro) <;> (first | trivial | rfl | omega | (simp; done) | (simp; omega) | (intros; rfl) | (exact Nat.le_trans (Nat.mul_le_mul_right _ (show _ ≤ 100000000001 by omega)) (by decide)) | (intro hg_; first | exact hg_ | ((try simp only [decide_eq_true_eq] at hg_); (try rw [wi64 (by omega) (by omega)]); (repeat' apply And.intro) <;> (first | trivial | rfl | omega | (intros; rfl)))))))))
        | refine d_new rfl rfl rfl ⟨0, trivial⟩ trivial (fun _ _ => ?_)
        | (refine d_new rfl rfl rfl ⟨0, trivial⟩ ?hc (fun _ _ => ?_); (case hc => (first | (simp only [need, imp, needIf]; done) | ((try simp only [need, imp, needIf]); (repeat' apply And.intro) <;> (first | trivial | rfl | omega | (simp; done) | (simp; omega) | (intros; rfl) | (exact Nat.le_trans (Nat.mul_le_mul_right _ (show _ ≤ 100000000001 by omega)) (by decide)) | (intro hg_; first | exact hg_ | ((try simp only [decide_eq_true_eq] at hg_); (try rw [wi64 (by omega) (by omega)]); (repeat' apply And.intro) <;> (first | trivial | rfl | omega | (intros; rfl)))))))))
        | (refine d_new rfl rfl rfl ⟨(none, _), Nat.le_refl _⟩ ?hc (fun _ _ => ?_); (case hc => (first | (simp only [need, imp, needIf]; done) | ((try simp only [need, imp, needIf]); (repeat' apply And.intro) <;> (first | trivial | rfl | omega | (simp; done) | (simp; omega) | (intros; rfl) | (exact Nat.le_trans (Nat.mul_le_mul_right _ (show _ ≤ 100000000001 by omega)) (by decide)) | (intro hg_; first | exact hg_ | ((try simp only [decide_eq_true_eq] at hg_); (try rw [wi64 (by omega) (by omega)]); (repeat' apply And.intro) <;> (first | trivial | rfl | omega | (intros; rfl)))))))))
        | refine d_put rfl rfl rfl trivial trivial ?_
        | (refine d_put rfl rfl rfl trivial ?hc ?_; (case hc => (first | (simp only [need, imp, needIf]; done) | ((try simp only [need, imp, needIf]); (repeat' apply And.intro) <;> (first | trivial | rfl | omega | (simp; done) | (simp; omega) | (intros; rfl) | (exact Nat.le_trans (Nat.mul_le_mul_right _ (show _ ≤ 100000000001 by omega)) (by decide)) | (intro hg_; first | exact hg_ | ((try simp only [decide_eq_true_eq] at hg_); (try rw [wi64 (by omega) (by omega)]); (repeat' apply And.intro) <;> (first | trivial | rfl | omega | (intros; rfl)))))))))
        | refine d_nil ?_
        | refine s_skip ?_
        | refine s_block ?_
        | refine s_exit ?_
        | refine s_label ?_)
      refine s_cond (b := decide ((n : Int) > 64)) rfl (fun h2 => ?_) (fun h2 => ?_)
      · repeat (first
          | refine s_seq ?_
          | refine s_region ?_
          | refine o_val rfl rfl trivial trivial ?_
          | (refine o_val rfl rfl trivial ?hc ?_; (case hc => (first | (simp only [need, imp, needIf]; done) | ((try simp only [need, imp, needIf]); (repeat' apply And.intro) <;> (first | trivial | rfl | omega | (simp; done) | (simp; omega) | (intros; rfl) | (exact Nat.le_trans (Nat.mul_le_mul_right _ (show _ ≤ 100000000001 by omega)) (by decide)) | (intro hg_; first | exact hg_ | ((try simp only [decide_eq_true_eq] at hg_); (try rw [wi64 (by omega) (by omega)]); (repeat' apply And.intro) <;> (first | trivial | rfl | omega | (intros; rfl)))))))))
          | refine o_new rfl rfl rfl ⟨0, trivial⟩ trivial (fun _ _ => ?_)
          | (refine o_new rfl rfl rfl ⟨0, trivial⟩ ?hc (fun _ _ => ?_); (case hc => (first | (simp only [need, imp, needIf]; done) | ((try simp only [need, imp, needIf]); (repeat' apply And.intro) <;> (first | trivial | rfl | omega | (simp; done) | (simp; omega) | (intros; rfl) | (exact Nat.le_trans (Nat.mul_le_mul_right _ (show _ ≤ 100000000001 by omega)) (by decide)) | (intro hg_; first | exact hg_ | ((try simp only [decide_eq_true_eq] at hg_); (try rw [wi64 (by omega) (by omega)]); (repeat' apply And.intro) <;> (first | trivial | rfl | omega | (intros; rfl)))))))))
          | (refine o_new rfl rfl rfl ⟨(none, _), Nat.le_refl _⟩ ?hc (fun _ _ => ?_); (case hc => (first | (simp only [need, imp, needIf]; done) | ((try simp only [need, imp, needIf]); (repeat' apply And.intro) <;> (first | trivial | rfl | omega | (simp; done) | (simp; omega) | (intros; rfl) | (exact Nat.le_trans (Nat.mul_le_mul_right _ (show _ ≤ 100000000001 by omega)) (by decide)) | (intro hg_; first | exact hg_ | ((try simp only [decide_eq_true_eq] at hg_); (try rw [wi64 (by omega) (by omega)]); (repeat' apply And.intro) <;> (first | trivial | rfl | omega | (intros; rfl)))))))))
          | refine o_put rfl rfl rfl trivial trivial ?_
          | (refine o_put rfl rfl rfl trivial ?hc ?_; (case hc => (first | (simp only [need, imp, needIf]; done) | ((try simp only [need, imp, needIf]); (repeat' apply And.intro) <;> (first | trivial | rfl | omega | (simp; done) | (simp; omega) | (intros; rfl) | (exact Nat.le_trans (Nat.mul_le_mul_right _ (show _ ≤ 100000000001 by omega)) (by decide)) | (intro hg_; first | exact hg_ | ((try simp only [decide_eq_true_eq] at hg_); (try rw [wi64 (by omega) (by omega)]); (repeat' apply And.intro) <;> (first | trivial | rfl | omega | (intros; rfl)))))))))
          | refine o_nil ?_
          | refine d_val rfl rfl trivial trivial ?_
          | (refine d_val rfl rfl trivial ?hc ?_; (case hc => (first | (simp only [need, imp, needIf]; done) | ((try simp only [need, imp, needIf]); (repeat' apply And.intro) <;> (first | trivial | rfl | omega | (simp; done) | (simp; omega) | (intros; rfl) | (exact Nat.le_trans (Nat.mul_le_mul_right _ (show _ ≤ 100000000001 by omega)) (by decide)) | (intro hg_; first | exact hg_ | ((try simp only [decide_eq_true_eq] at hg_); (try rw [wi64 (by omega) (by omega)]); (repeat' apply And.intro) <;> (first | trivial | rfl | omega | (intros; rfl)))))))))
          | refine d_new rfl rfl rfl ⟨0, trivial⟩ trivial (fun _ _ => ?_)
          | (refine d_new rfl rfl rfl ⟨0, trivial⟩ ?hc (fun _ _ => ?_); (case hc => (first | (simp only [need, imp, needIf]; done) | ((try simp only [need, imp, needIf]); (repeat' apply And.intro) <;> (first | trivial | rfl | omega | (simp; done) | (simp; omega) | (intros; rfl) | (exact Nat.le_trans (Nat.mul_le_mul_right _ (show _ ≤ 100000000001 by omega)) (by decide)) | (intro hg_; first | exact hg_ | ((try simp only [decide_eq_true_eq] at hg_); (try rw [wi64 (by omega) (by omega)]); (repeat' apply And.intro) <;> (first | trivial | rfl | omega | (intros; rfl)))))))))
          | (refine d_new rfl rfl rfl ⟨(none, _), Nat.le_refl _⟩ ?hc (fun _ _ => ?_); (case hc => (first | (simp only [need, imp, needIf]; done) | ((try simp only [need, imp, needIf]); (repeat' apply And.intro) <;> (first | trivial | rfl | omega | (simp; done) | (simp; omega) | (intros; rfl) | (exact Nat.le_trans (Nat.mul_le_mul_right _ (show _ ≤ 100000000001 by omega)) (by decide)) | (intro hg_; first | exact hg_ | ((try simp only [decide_eq_true_eq] at hg_); (try rw [wi64 (by omega) (by omega)]); (repeat' apply And.intro) <;> (first | trivial | rfl | omega | (intros; rfl)))))))))
          | refine d_put rfl rfl rfl trivial trivial ?_
          | (refine d_put rfl rfl rfl trivial ?hc ?_; (case hc => (first | (simp only [need, imp, needIf]; done) | ((try simp only [need, imp, needIf]); (repeat' apply And.intro) <;> (first | trivial | rfl | omega | (simp; done) | (simp; omega) | (intros; rfl) | (exact Nat.le_trans (Nat.mul_le_mul_right _ (show _ ≤ 100000000001 by omega)) (by decide)) | (intro hg_; first | exact hg_ | ((try simp only [decide_eq_true_eq] at hg_); (try rw [wi64 (by omega) (by omega)]); (repeat' apply And.intro) <;> (first | trivial | rfl | omega | (intros; rfl)))))))))
          | refine d_nil ?_
          | refine s_skip ?_
          | refine s_block ?_
          | refine s_exit ?_
          | refine s_label ?_)
        refine s_ret ?_
        exact ⟨_, _, rfl, ⟨trivial, trivial⟩, rfl, by unfold SoundRF; rw [if_neg (by rw [h1]; decide), if_pos h2]; rfl⟩
      repeat (first
        | refine s_seq ?_
        | refine s_region ?_
        | refine o_val rfl rfl trivial trivial ?_
        | (refine o_val rfl rfl trivial ?hc ?_; (case hc => (first | (simp only [need, imp, needIf]; done) | ((try simp only [need, imp, needIf]); (repeat' apply And.intro) <;> (first | trivial | rfl | omega | (simp; done) | (simp; omega) | (intros; rfl) | (exact Nat.le_trans (Nat.mul_le_mul_right _ (show _ ≤ 100000000001 by omega)) (by decide)) | (intro hg_; first | exact hg_ | ((try simp only [decide_eq_true_eq] at hg_); (try rw [wi64 (by omega) (by omega)]); (repeat' apply And.intro) <;> (first | trivial | rfl | omega | (intros; rfl)))))))))
        | refine o_new rfl rfl rfl ⟨0, trivial⟩ trivial (fun _ _ => ?_)
        | (refine o_new rfl rfl rfl ⟨0, trivial⟩ ?hc (fun _ _ => ?_); (case hc => (first | (simp only [need, imp, needIf]; done) | ((try simp only [need, imp, needIf]); (repeat' apply And.intro) <;> (first | trivial | rfl | omega | (simp; done) | (simp; omega) | (intros; rfl) | (exact Nat.le_trans (Nat.mul_le_mul_right _ (show _ ≤ 100000000001 by omega)) (by decide)) | (intro hg_; first | exact hg_ | ((try simp only [decide_eq_true_eq] at hg_); (try rw [wi64 (by omega) (by omega)]); (repeat' apply And.intro) <;> (first | trivial | rfl | omega | (intros; rfl)))))))))
        | (refine o_new rfl rfl rfl ⟨(none, _), Nat.le_refl _⟩ ?hc (fun _ _ => ?_); (case hc => (first | (simp only [need, imp, needIf]; done) | ((try simp only [need, imp, needIf]); (repeat' apply And.intro) <;> (first | trivial | rfl | omega | (simp; done) | (simp; omega) | (intros; rfl) | (exact Nat.le_trans (Nat.mul_le_mul_right _ (show _ ≤ 100000000001 by omega)) (by decide)) | (intro hg_; first | exact hg_ | ((try simp only [decide_eq_true_eq] at hg_); (try rw [wi64 (by omega) (by omega)]); (repeat' apply And.intro) <;> (first | trivial | rfl | omega | (intros; rfl)))))))))
        | refine o_put rfl rfl rfl trivial trivial ?_
        | (refine o_put rfl rfl rfl trivial ?hc ?_; (case hc => (first | (simp only [need, imp, needIf]; done) | ((try simp only [need, imp, needIf]); (repeat' apply And.intro) <;> (first | trivial | rfl | omega | (simp; done) | (simp; omega) | (intros; rfl) | (exact Nat.le_trans (Nat.mul_le_mul_right _ (show _ ≤ 100000000001 by omega)) (by decide)) | (intro hg_; first | exact hg_ | ((try simp only [decide_eq_true_eq] at hg_); (try rw [wi64 (by omega) (by omega)]); (repeat' apply And.intro) <;> (first | trivial | rfl | omega | (intros; rfl)))))))))
        | refine o_nil ?_
        | refine d_val rfl rfl trivial trivial ?_
        | (refine d_val rfl rfl trivial ?hc ?_; (case hc => (first | (simp only [need, imp, needIf]; done) | ((try simp only [need, imp, needIf]); (repeat' apply And.intro) <;> (first | trivial | rfl | omega | (simp; done) | (simp; omega) | (intros; rfl) | (exact Nat.le_trans (Nat.mul_le_mul_right _ (show _ ≤ 100000000001 by omega)) (by decide)) | (intro hg_; first | exact hg_ | ((try simp only [decide_eq_true_eq] at hg_); (try rw [wi64 (by omega) (by omega)]); (repeat' apply And.intro) <;> (first | trivial | rfl | omega | (intros; rfl)))))))))
        | refine d_new rfl rfl rfl ⟨0, trivial⟩ trivial (fun _ _ => ?_)
        | (refine d_new rfl rfl rfl ⟨0, trivial⟩ ?hc (fun _ _ => ?_); (case hc => (first | (simp only [need, imp, needIf]; done) | ((try simp only [need, imp, needIf]); (repeat' apply And.intro) <;> (first | trivial | rfl | omega | (simp; done) | (simp; omega) | (intros; rfl) | (exact Nat.le_trans (Nat.mul_le_mul_right _ (show _ ≤ 100000000001 by omega)) (by decide)) | (intro hg_; first | exact hg_ | ((try simp only [decide_eq_true_eq] at hg_); (try rw [wi64 (by omega) (by omega)]); (repeat' apply And.intro) <;> (first | trivial | rfl | omega | (intros; rfl)))))))))
        | (refine d_new rfl rfl rfl ⟨(none, _), Nat.le_refl _⟩ ?hc (fun _ _ => ?_); (case hc => (first | (simp only [need, imp, needIf]; done) | ((try simp only [need, imp, needIf]); (repeat' apply And.intro) <;> (first | trivial | rfl | omega | (simp; done) | (simp; omega) | (intros; rfl) | (exact Nat.le_trans (Nat.mul_le_mul_right _ (show _ ≤ 100000000001 by omega)) (by decide)) | (intro hg_; first | exact hg_ | ((try simp only [decide_eq_true_eq] at hg_); (try rw [wi64 (by omega) (by omega)]); (repeat' apply And.intro) <;> (first | trivial | rfl | omega | (intros; rfl)))))))))
        | refine d_put rfl rfl rfl trivial trivial ?_
        | (refine d_put rfl rfl rfl trivial ?hc ?_; (case hc => (first | (simp only [need, imp, needIf]; done) | ((try simp only [need, imp, needIf]); (repeat' apply And.intro) <;> (first | trivial | rfl | omega | (simp; done) | (simp; omega) | (intros; rfl) | (exact Nat.le_trans (Nat.mul_le_mul_right _ (show _ ≤ 100000000001 by omega)) (by decide)) | (intro hg_; first | exact hg_ | ((try simp only [decide_eq_true_eq] at hg_); (try rw [wi64 (by omega) (by omega)]); (repeat' apply And.intro) <;> (first | trivial | rfl | omega | (intros; rfl)))))))))
        | refine d_nil ?_
        | refine s_skip ?_
        | refine s_block ?_
        | refine s_exit ?_
        | refine s_label ?_)
      have fin : ∀ e : Int, memG g n 0 = e → e ≠ 0 → SoundRF g n = e := fun e he hz => by
        unfold SoundRF; rw [if_neg (by rw [h1]; decide), if_neg (by rw [h2]; decide), if_pos (by rw [he]; exact hz), he]
      refine s_loopW (α := Nat) [4, 15, 16, 17, 18, 19, 20, 21, 22, 23, 24, 25, 26, 27, 28, 29, 30, 31, 32, 33, 34, 35, 36, 37, 38, 39, 40, 41, 42, 43, 44, 45, 46, 47, 48, 49, 50, 51, 52, 53, 54, 55, 56] [] (fun k => k ≤ n ∧ memG g n 0 = memG g (n - k) k) (fun k => [(4, none, .v (.int .i64 k))]) (fun _ => []) (fun k => n - k) 0 ⟨Nat.zero_le _, rfl⟩ ?_ ?_
      · (refine Le.of ?leT ?leM rfl; (case leT => repeat (first | exact trivial | refine And.intro (by first | exact rfl | (show some (none, AV.v (.int .i64 (IntKind.i64.wrap _))) = _; rw [wi64 (by omega) (by omega)]; rfl)) ?_)); (case leM => repeat (first | exact trivial | refine And.intro ⟨_, rfl, Blk.le_refl _⟩ ?_)))
      · intro k ⟨hk, hz⟩
        repeat (first
          | refine s_seq ?_
          | refine s_region ?_
          | refine o_val rfl rfl trivial trivial ?_
          | (refine o_val rfl rfl trivial ?hc ?_; (case hc => (first | (simp only [need, imp, needIf]; done) | ((try simp only [need, imp, needIf]); (repeat' apply And.intro) <;> (first | trivial | rfl | omega | (simp; done) | (simp; omega) | (intros; rfl) | (exact Nat.le_trans (Nat.mul_le_mul_right _ (show _ ≤ 100000000001 by omega)) (by decide)) | (intro hg_; first | exact hg_ | ((try simp only [decide_eq_true_eq] at hg_); (try rw [wi64 (by omega) (by omega)]); (repeat' apply And.intro) <;> (first | trivial | rfl | omega | (intros; rfl)))))))))
          | refine o_new rfl rfl rfl ⟨0, trivial⟩ trivial (fun _ _ => ?_)
          | (refine o_new rfl rfl rfl ⟨0, trivial⟩ ?hc (fun _ _ => ?_); (case hc => (first | (simp only [need, imp, needIf]; done) | ((try simp only [need, imp, needIf]); (repeat' apply And.intro) <;> (first | trivial | rfl | omega | (simp; done) | (simp; omega) | (intros; rfl) | (exact Nat.le_trans (Nat.mul_le_mul_right _ (show _ ≤ 100000000001 by omega)) (by decide)) | (intro hg_; first | exact hg_ | ((try simp only [decide_eq_true_eq] at hg_); (try rw [wi64 (by omega) (by omega)]); (repeat' apply And.intro) <;> (first | trivial | rfl | omega | (intros; rfl)))))))))
          | (refine o_new rfl rfl rfl ⟨(none, _), Nat.le_refl _⟩ ?hc (fun _ _ => ?_); (case hc => (first | (simp only [need, imp, needIf]; done) | ((try simp only [need, imp, needIf]); (repeat' apply And.intro) <;> (first | trivial | rfl | omega | (simp; done) | (simp; omega) | (intros; rfl) | (exact Nat.le_trans (Nat.mul_le_mul_right _ (show _ ≤ 100000000001 by omega)) (by decide)) | (intro hg_; first | exact hg_ | ((try simp only [decide_eq_true_eq] at hg_); (try rw [wi64 (by omega) (by omega)]); (repeat' apply And.intro) <;> (first | trivial | rfl | omega | (intros; rfl)))))))))
          | refine o_put rfl rfl rfl trivial trivial ?_
          | (refine o_put rfl rfl rfl trivial ?hc ?_; (case hc => (first | (simp only [need, imp, needIf]; done) | ((try simp only [need, imp, needIf]); (repeat' apply And.intro) <;> (first | trivial | rfl | omega | (simp; done) | (simp; omega) | (intros; rfl) | (exact Nat.le_trans (Nat.mul_le_mul_right _ (show _ ≤ 100000000001 by omega)) (by decide)) | (intro hg_; first | exact hg_ | ((try simp only [decide_eq_true_eq] at hg_); (try rw [wi64 (by omega) (by omega)]); (repeat' apply And.intro) <;> (first | trivial | rfl | omega | (intros; rfl)))))))))
          | refine o_nil ?_
          | refine d_val rfl rfl trivial trivial ?_
          | (refine d_val rfl rfl trivial ?hc ?_; (case hc => (first | (simp only [need, imp, needIf]; done) | ((try simp only [need, imp, needIf]); (repeat' apply And.intro) <;> (first | trivial | rfl | omega | (simp; done) | (simp; omega) | (intros; rfl) | (exact Nat.le_trans (Nat.mul_le_mul_right _ (show _ ≤ 100000000001 by omega)) (by decide)) | (intro hg_; first | exact hg_ | ((try simp only [decide_eq_true_eq] at hg_); (try rw [wi64 (by omega) (by omega)]); (repeat' apply And.intro) <;> (first | trivial | rfl | omega | (intros; rfl)))))))))
          | refine d_new rfl rfl rfl ⟨0, trivial⟩ trivial (fun _ _ => ?_)
          | (refine d_new rfl rfl rfl ⟨0, trivial⟩ ?hc (fun _ _ => ?_); (case hc => (first | (simp only [need, imp, needIf]; done) | ((try simp only [need, imp, needIf]); (repeat' apply And.intro) <;> (first | trivial | rfl | omega | (simp; done) | (simp; omega) | (intros; rfl) | (exact Nat.le_trans (Nat.mul_le_mul_right _ (show _ ≤ 100000000001 by omega)) (by decide)) | (intro hg_; first | exact hg_ | ((try simp only [decide_eq_true_eq] at hg_); (try rw [wi64 (by omega) (by omega)]); (repeat' apply And.intro) <;> (first | trivial | rfl | omega | (intros; rfl)))))))))
          | (refine d_new rfl rfl rfl ⟨(none, _), Nat.le_refl _⟩ ?hc (fun _ _ => ?_); (case hc => (first | (simp only [need, imp, needIf]; done) | ((try simp only [need, imp, needIf]); (repeat' apply And.intro) <;> (first | trivial | rfl | omega | (simp; done) | (simp; omega) | (intros; rfl) | (exact Nat.le_trans (Nat.mul_le_mul_right _ (show _ ≤ 100000000001 by omega)) (by decide)) | (intro hg_; first | exact hg_ | ((try simp only [decide_eq_true_eq] at hg_); (try rw [wi64 (by omega) (by omega)]); (repeat' apply And.intro) <;> (first | trivial | rfl | omega | (intros; rfl)))))))))
          | refine d_put rfl rfl rfl trivial trivial ?_
          | (refine d_put rfl rfl rfl trivial ?hc ?_; (case hc => (first | (simp only [need, imp, needIf]; done) | ((try simp only [need, imp, needIf]); (repeat' apply And.intro) <;> (first | trivial | rfl | omega | (simp; done) | (simp; omega) | (intros; rfl) | (exact Nat.le_trans (Nat.mul_le_mul_right _ (show _ ≤ 100000000001 by omega)) (by decide)) | (intro hg_; first | exact hg_ | ((try simp only [decide_eq_true_eq] at hg_); (try rw [wi64 (by omega) (by omega)]); (repeat' apply And.intro) <;> (first | trivial | rfl | omega | (intros; rfl)))))))))
          | refine d_nil ?_
          | refine s_skip ?_
          | refine s_block ?_
          | refine s_exit ?_
          | refine s_label ?_)
        refine s_cond (b := decide ((k : Int) < n)) rfl (fun hb => ?_) (fun hb => ?_)
        · have hlt : k < n := by simpa using hb
          have hs : n - k = (n - (k + 1)) + 1 := by omega
          rw [hs, memG] at hz
          repeat (first
            | refine s_seq ?_
            | refine s_region ?_
            | refine o_val rfl rfl trivial trivial ?_
            | (refine o_val rfl rfl trivial ?hc ?_; (case hc => (first | (simp only [need, imp, needIf]; done) | ((try simp only [need, imp, needIf]); (repeat' apply And.intro) <;> (first | trivial | rfl | omega | (simp; done) | (simp; omega) | (intros; rfl) | (exact Nat.le_trans (Nat.mul_le_mul_right _ (show _ ≤ 100000000001 by omega)) (by decide)) | (intro hg_; first | exact hg_ | ((try simp only [decide_eq_true_eq] at hg_); (try rw [wi64 (by omega) (by omega)]); (repeat' apply And.intro) <;> (first | trivial | rfl | omega | (intros; rfl)))))))))
            | refine o_new rfl rfl rfl ⟨0, trivial⟩ trivial (fun _ _ => ?_)
            | (refine o_new rfl rfl rfl ⟨0, trivial⟩ ?hc (fun _ _ => ?_); (case hc => (first | (simp only [need, imp, needIf]; done) | ((try simp only [need, imp, needIf]); (repeat' apply And.intro) <;> (first | trivial | rfl | omega | (simp; done) | (simp; omega) | (intros; rfl) | (exact Nat.le_trans (Nat.mul_le_mul_right _ (show _ ≤ 100000000001 by omega)) (by decide)) | (intro hg_; first | exact hg_ | ((try simp only [decide_eq_true_eq] at hg_); (try rw [wi64 (by omega) (by omega)]); (repeat' apply And.intro) <;> (first | trivial | rfl | omega | (intros; rfl)))))))))
            | (refine o_new rfl rfl rfl ⟨(none, _), Nat.le_refl _⟩ ?hc (fun _ _ => ?_); (case hc => (first | (simp only [need, imp, needIf]; done) | ((try simp only [need, imp, needIf]); (repeat' apply And.intro) <;> (first | trivial | rfl | omega | (simp; done) | (simp; omega) | (intros; rfl) | (exact Nat.le_trans (Nat.mul_le_mul_right _ (show _ ≤ 100000000001 by omega)) (by decide)) | (intro hg_; first | exact hg_ | ((try simp only [decide_eq_true_eq] at hg_); (try rw [wi64 (by omega) (by omega)]); (repeat' apply And.intro) <;> (first | trivial | rfl | omega | (intros; rfl)))))))))
            | refine o_put rfl rfl rfl trivial trivial ?_
            | (refine o_put rfl rfl rfl trivial ?hc ?_; (case hc => (first | (simp only [need, imp, needIf]; done) | ((try simp only [need, imp, needIf]); (repeat' apply And.intro) <;> (first | trivial | rfl | omega | (simp; done) | (simp; omega) | (intros; rfl) | (exact Nat.le_trans (Nat.mul_le_mul_right _ (show _ ≤ 100000000001 by omega)) (by decide)) | (intro hg_; first | exact hg_ | ((try simp only [decide_eq_true_eq] at hg_); (try rw [wi64 (by omega) (by omega)]); (repeat' apply And.intro) <;> (first | trivial | rfl | omega | (intros; rfl)))))))))
            | refine o_nil ?_
            | refine d_val rfl rfl trivial trivial ?_
            | (refine d_val rfl rfl trivial ?hc ?_; (case hc => (first | (simp only [need, imp, needIf]; done) | ((try simp only [need, imp, needIf]); (repeat' apply And.intro) <;> (first | trivial | rfl | omega | (simp; done) | (simp; omega) | (intros; rfl) | (exact Nat.le_trans (Nat.mul_le_mul_right _ (show _ ≤ 100000000001 by omega)) (by decide)) | (intro hg_; first | exact hg_ | ((try simp only [decide_eq_true_eq] at hg_); (try rw [wi64 (by omega) (by omega)]); (repeat' apply And.intro) <;> (first | trivial | rfl | omega | (intros; rfl)))))))))
            | refine d_new rfl rfl rfl ⟨0, trivial⟩ trivial (fun _ _ => ?_)
            | (refine d_new rfl rfl rfl ⟨0, trivial⟩ ?hc (fun _ _ => ?_); (case hc => (first | (simp only [need, imp, needIf]; done) | ((try simp only [need, imp, needIf]); (repeat' apply And.intro) <;> (first | trivial | rfl | omega | (simp; done) | (simp; omega) | (intros; rfl) | (exact Nat.le_trans (Nat.mul_le_mul_right _ (show _ ≤ 100000000001 by omega)) (by decide)) | (intro hg_; first | exact hg_ | ((try simp only [decide_eq_true_eq] at hg_); (try rw [wi64 (by omega) (by omega)]); (repeat' apply And.intro) <;> (first | trivial | rfl | omega | (intros; rfl)))))))))
            | (refine d_new rfl rfl rfl ⟨(none, _), Nat.le_refl _⟩ ?hc (fun _ _ => ?_); (case hc => (first | (simp only [need, imp, needIf]; done) | ((try simp only [need, imp, needIf]); (repeat' apply And.intro) <;> (first | trivial | rfl | omega | (simp; done) | (simp; omega) | (intros; rfl) | (exact Nat.le_trans (Nat.mul_le_mul_right _ (show _ ≤ 100000000001 by omega)) (by decide)) | (intro hg_; first | exact hg_ | ((try simp only [decide_eq_true_eq] at hg_); (try rw [wi64 (by omega) (by omega)]); (repeat' apply And.intro) <;> (first | trivial | rfl | omega | (intros; rfl)))))))))
            | refine d_put rfl rfl rfl trivial trivial ?_
            | (refine d_put rfl rfl rfl trivial ?hc ?_; (case hc => (first | (simp only [need, imp, needIf]; done) | ((try simp only [need, imp, needIf]); (repeat' apply And.intro) <;> (first | trivial | rfl | omega | (simp; done) | (simp; omega) | (intros; rfl) | (exact Nat.le_trans (Nat.mul_le_mul_right _ (show _ ≤ 100000000001 by omega)) (by decide)) | (intro hg_; first | exact hg_ | ((try simp only [decide_eq_true_eq] at hg_); (try rw [wi64 (by omega) (by omega)]); (repeat' apply And.intro) <;> (first | trivial | rfl | omega | (intros; rfl)))))))))
            | refine d_nil ?_
            | refine s_skip ?_
            | refine s_block ?_
            | refine s_exit ?_
            | refine s_label ?_)
          refine s_cond (b := ((g k).addr == 0)) rfl (fun h3 => ?_) (fun h3 => ?_)
          · repeat (first
              | refine s_seq ?_
              | refine s_region ?_
              | refine o_val rfl rfl trivial trivial ?_
              | (refine o_val rfl rfl trivial ?hc ?_; (case hc => (first | (simp only [need, imp, needIf]; done) | ((try simp only [need, imp, needIf]); (repeat' apply And.intro) <;> (first | trivial | rfl | omega | (simp; done) | (simp; omega) | (intros; rfl) | (exact Nat.le_trans (Nat.mul_le_mul_right _ (show _ ≤ 100000000001 by omega)) (by decide)) | (intro hg_; first | exact hg_ | ((try simp only [decide_eq_true_eq] at hg_); (try rw [wi64 (by omega) (by omega)]); (repeat' apply And.intro) <;> (first | trivial | rfl | omega | (intros; rfl)))))))))
              | refine o_new rfl rfl rfl ⟨0, trivial⟩ trivial (fun _ _ => ?_)
              | (refine o_new rfl rfl rfl ⟨0, trivial⟩ ?hc (fun _ _ => ?_); (case hc => (first | (simp only [need, imp, needIf]; done) | ((try simp only [need, imp, needIf]); (repeat' apply And.intro) <;> (first | trivial | rfl | omega | (simp; done) | (simp; omega) | (intros; rfl) | (exact Nat.le_trans (Nat.mul_le_mul_right _ (show _ ≤ 100000000001 by omega)) (by decide)) | (intro hg_; first | exact hg_ | ((try simp only [decide_eq_true_eq] at hg_); (try rw [wi64 (by omega) (by omega)]); (repeat' apply And.intro) <;> (first | trivial | rfl | omega | (intros; rfl)))))))))
              | (refine o_new rfl rfl rfl ⟨(none, _), Nat.le_refl _⟩ ?hc (fun _ _ => ?_); (case hc => (first | (simp only [need, imp, needIf]; done) | ((try simp only [need, imp, needIf]); (repeat' apply And.intro) <;> (first | trivial | rfl | omega | (simp; done) | (simp; omega) | (intros; rfl) | (exact Nat.le_trans (Nat.mul_le_mul_right _ (show _ ≤ 100000000001 by omega)) (by decide)) | (intro hg_; first | exact hg_ | ((try simp only [decide_eq_true_eq] at hg_); (try rw [wi64 (by omega) (by omega)]); (repeat' apply And.intro) <;> (first | trivial | rfl | omega | (intros; rfl)))))))))
              | refine o_put rfl rfl rfl trivial trivial ?_
              | (refine o_put rfl rfl rfl trivial ?hc ?_; (case hc => (first | (simp only [need, imp, needIf]; done) | ((try simp only [need, imp, needIf]); (repeat' apply And.intro) <;> (first | trivial | rfl | omega | (simp; done) | (simp; omega) | (intros; rfl) | (exact Nat.le_trans (Nat.mul_le_mul_right _ (show _ ≤ 100000000001 by omega)) (by decide)) | (intro hg_; first | exact hg_ | ((try simp only [decide_eq_true_eq] at hg_); (try rw [wi64 (by omega) (by omega)]); (repeat' apply And.intro) <;> (first | trivial | rfl | omega | (intros; rfl)))))))))
              | refine o_nil ?_
              | refine d_val rfl rfl trivial trivial ?_
              | (refine d_val rfl rfl trivial ?hc ?_; (case hc => (first | (simp only [need, imp, needIf]; done) | ((try simp only [need, imp, needIf]); (repeat' apply And.intro) <;> (first | trivial | rfl | omega | (simp; done) | (simp; omega) | (intros; rfl) | (exact Nat.le_trans (Nat.mul_le_mul_right _ (show _ ≤ 100000000001 by omega)) (by decide)) | (intro hg_; first | exact hg_ | ((try simp only [decide_eq_true_eq] at hg_); (try rw [wi64 (by omega) (by omega)]); (repeat' apply And.intro) <;> (first | trivial | rfl | omega | (intros; rfl)))))))))
              | refine d_new rfl rfl rfl ⟨0, trivial⟩ trivial (fun _ _ => ?_)
              | (refine d_new rfl rfl rfl ⟨0, trivial⟩ ?hc (fun _ _ => ?_); (case hc => (first | (simp only [need, imp, needIf]; done) | ((try simp only [need, imp, needIf]); (repeat' apply And.intro) <;> (first | trivial | rfl | omega | (simp; done) | (simp; omega) | (intros; rfl) | (exact Nat.le_trans (Nat.mul_le_mul_right _ (show _ ≤ 100000000001 by omega)) (by decide)) | (intro hg_; first | exact hg_ | ((try simp only [decide_eq_true_eq] at hg_); (try rw [wi64 (by omega) (by omega)]); (repeat' apply And.intro) <;> (first | trivial | rfl | omega | (intros; rfl)))))))))
              | (refine d_new rfl rfl rfl ⟨(none, _), Nat.le_refl _⟩ ?hc (fun _ _ => ?_); (case hc => (first | (simp only [need, imp, needIf]; done) | ((try simp only [need, imp, needIf]); (repeat' apply And.intro) <;> (first | trivial | rfl | omega | (simp; done) | (simp; omega) | (intros; rfl) | (exact Nat.le_trans (Nat.mul_le_mul_right _ (show _ ≤ 100000000001 by omega)) (by decide)) | (intro hg_; first | exact hg_ | ((try simp only [decide_eq_true_eq] at hg_); (try rw [wi64 (by omega) (by omega)]); (repeat' apply And.intro) <;> (first | trivial | rfl | omega | (intros; rfl)))))))))
              | refine d_put rfl rfl rfl trivial trivial ?_
              | (refine d_put rfl rfl rfl trivial ?hc ?_; (case hc => (first | (simp only [need, imp, needIf]; done) | ((try simp only [need, imp, needIf]); (repeat' apply And.intro) <;> (first | trivial | rfl | omega | (simp; done) | (simp; omega) | (intros; rfl) | (exact Nat.le_trans (Nat.mul_le_mul_right _ (show _ ≤ 100000000001 by omega)) (by decide)) | (intro hg_; first | exact hg_ | ((try simp only [decide_eq_true_eq] at hg_); (try rw [wi64 (by omega) (by omega)]); (repeat' apply And.intro) <;> (first | trivial | rfl | omega | (intros; rfl)))))))))
              | refine d_nil ?_
              | refine s_skip ?_
              | refine s_block ?_
              | refine s_exit ?_
              | refine s_label ?_)
            refine s_ret ?_
            exact ⟨_, _, rfl, ⟨trivial, trivial⟩, rfl, by rw [if_pos h3] at hz; rw [fin 85 hz (by decide)]; rfl⟩
          rw [if_neg (by rw [h3]; decide)] at hz
          repeat (first
            | refine s_seq ?_
            | refine s_region ?_
            | refine o_val rfl rfl trivial trivial ?_
            | (refine o_val rfl rfl trivial ?hc ?_; (case hc => (first | (simp only [need, imp, needIf]; done) | ((try simp only [need, imp, needIf]); (repeat' apply And.intro) <;> (first | trivial | rfl | omega | (simp; done) | (simp; omega) | (intros; rfl) | (exact Nat.le_trans (Nat.mul_le_mul_right _ (show _ ≤ 100000000001 by omega)) (by decide)) | (intro hg_; first | exact hg_ | ((try simp only [decide_eq_true_eq] at hg_); (try rw [wi64 (by omega) (by omega)]); (repeat' apply And.intro) <;> (first | trivial | rfl | omega | (intros; rfl)))))))))
            | refine o_new rfl rfl rfl ⟨0, trivial⟩ trivial (fun _ _ => ?_)
            | (refine o_new rfl rfl rfl ⟨0, trivial⟩ ?hc (fun _ _ => ?_); (case hc => (first | (simp only [need, imp, needIf]; done) | ((try simp only [need, imp, needIf]); (repeat' apply And.intro) <;> (first | trivial | rfl | omega | (simp; done) | (simp; omega) | (intros; rfl) | (exact Nat.le_trans (Nat.mul_le_mul_right _ (show _ ≤ 100000000001 by omega)) (by decide)) | (intro hg_; first | exact hg_ | ((try simp only [decide_eq_true_eq] at hg_); (try rw [wi64 (by omega) (by omega)]); (repeat' apply And.intro) <;> (first | trivial | rfl | omega | (intros; rfl)))))))))
            | (refine o_new rfl rfl rfl ⟨(none, _), Nat.le_refl _⟩ ?hc (fun _ _ => ?_); (case hc => (first | (simp only [need, imp, needIf]; done) | ((try simp only [need, imp, needIf]); (repeat' apply And.intro) <;> (first | trivial | rfl | omega | (simp; done) | (simp; omega) | (intros; rfl) | (exact Nat.le_trans (Nat.mul_le_mul_right _ (show _ ≤ 100000000001 by omega)) (by decide)) | (intro hg_; first | exact hg_ | ((try simp only [decide_eq_true_eq] at hg_); (try rw [wi64 (by omega) (by omega)]); (repeat' apply And.intro) <;> (first | trivial | rfl | omega | (intros; rfl)))))))))
            | refine o_put rfl rfl rfl trivial trivial ?_
            | (refine o_put rfl rfl rfl trivial ?hc ?_; (case hc => (first | (simp only [need, imp, needIf]; done) | ((try simp only [need, imp, needIf]); (repeat' apply And.intro) <;> (first | trivial | rfl | omega | (simp; done) | (simp; omega) | (intros; rfl) | (exact Nat.le_trans (Nat.mul_le_mul_right _ (show _ ≤ 100000000001 by omega)) (by decide)) | (intro hg_; first | exact hg_ | ((try simp only [decide_eq_true_eq] at hg_); (try rw [wi64 (by omega) (by omega)]); (repeat' apply And.intro) <;> (first | trivial | rfl | omega | (intros; rfl)))))))))
            | refine o_nil ?_
            | refine d_val rfl rfl trivial trivial ?_
            | (refine d_val rfl rfl trivial ?hc ?_; (case hc => (first | (simp only [need, imp, needIf]; done) | ((try simp only [need, imp, needIf]); (repeat' apply And.intro) <;> (first | trivial | rfl | omega | (simp; done) | (simp; omega) | (intros; rfl) | (exact Nat.le_trans (Nat.mul_le_mul_right _ (show _ ≤ 100000000001 by omega)) (by decide)) | (intro hg_; first | exact hg_ | ((try simp only [decide_eq_true_eq] at hg_); (try rw [wi64 (by omega) (by omega)]); (repeat' apply And.intro) <;> (first | trivial | rfl | omega | (intros; rfl)))))))))
            | refine d_new rfl rfl rfl ⟨0, trivial⟩ trivial (fun _ _ => ?_)
            | (refine d_new rfl rfl rfl ⟨0, trivial⟩ ?hc (fun _ _ => ?_); (case hc => (first | (simp only [need, imp, needIf]; done) | ((try simp only [need, imp, needIf]); (repeat' apply And.intro) <;> (first | trivial | rfl | omega | (simp; done) | (simp; omega) | (intros; rfl) | (exact Nat.le_trans (Nat.mul_le_mul_right _ (show _ ≤ 100000000001 by omega)) (by decide)) | (intro hg_; first | exact hg_ | ((try simp only [decide_eq_true_eq] at hg_); (try rw [wi64 (by omega) (by omega)]); (repeat' apply And.intro) <;> (first | trivial | rfl | omega | (intros; rfl)))))))))
            | (refine d_new rfl rfl rfl ⟨(none, _), Nat.le_refl _⟩ ?hc (fun _ _ => ?_); (case hc => (first | (simp only [need, imp, needIf]; done) | ((try simp only [need, imp, needIf]); (repeat' apply And.intro) <;> (first | trivial | rfl | omega | (simp; done) | (simp; omega) | (intros; rfl) | (exact Nat.le_trans (Nat.mul_le_mul_right _ (show _ ≤ 100000000001 by omega)) (by decide)) | (intro hg_; first | exact hg_ | ((try simp only [decide_eq_true_eq] at hg_); (try rw [wi64 (by omega) (by omega)]); (repeat' apply And.intro) <;> (first | trivial | rfl | omega | (intros; rfl)))))))))
            | refine d_put rfl rfl rfl trivial trivial ?_
            | (refine d_put rfl rfl rfl trivial ?hc ?_; (case hc => (first | (simp only [need, imp, needIf]; done) | ((try simp only [need, imp, needIf]); (repeat' apply And.intro) <;> (first | trivial | rfl | omega | (simp; done) | (simp; omega) | (intros; rfl) | (exact Nat.le_trans (Nat.mul_le_mul_right _ (show _ ≤ 100000000001 by omega)) (by decide)) | (intro hg_; first | exact hg_ | ((try simp only [decide_eq_true_eq] at hg_); (try rw [wi64 (by omega) (by omega)]); (repeat' apply And.intro) <;> (first | trivial | rfl | omega | (intros; rfl)))))))))
            | refine d_nil ?_
            | refine s_skip ?_
            | refine s_block ?_
            | refine s_exit ?_
            | refine s_label ?_)
          refine s_draw rD27_11 rM27_11 rX27_11 rN27_11 rfl rfl ?_
          repeat (first
            | refine s_seq ?_
            | refine s_region ?_
            | refine o_val rfl rfl trivial trivial ?_
            | (refine o_val rfl rfl trivial ?hc ?_; (case hc => (first | (simp only [need, imp, needIf]; done) | ((try simp only [need, imp, needIf]); (repeat' apply And.intro) <;> (first | trivial | rfl | omega | (simp; done) | (simp; omega) | (intros; rfl) | (exact Nat.le_trans (Nat.mul_le_mul_right _ (show _ ≤ 100000000001 by omega)) (by decide)) | (intro hg_; first | exact hg_ | ((try simp only [decide_eq_true_eq] at hg_); (try rw [wi64 (by omega) (by omega)]); (repeat' apply And.intro) <;> (first | trivial | rfl | omega | (intros; rfl)))))))))
            | refine o_new rfl rfl rfl ⟨0, trivial⟩ trivial (fun _ _ => ?_)
            | (refine o_new rfl rfl rfl ⟨0, trivial⟩ ?hc (fun _ _ => ?_); (case hc => (first | (simp only [need, imp, needIf]; done) | ((try simp only [need, imp, needIf]); (repeat' apply And.intro) <;> (first | trivial | rfl | omega | (simp; done) | (simp; omega) | (intros; rfl) | (exact Nat.le_trans (Nat.mul_le_mul_right _ (show _ ≤ 100000000001 by omega)) (by decide)) | (intro hg_; first | exact hg_ | ((try simp only [decide_eq_true_eq] at hg_); (try rw [wi64 (by omega) (by omega)]); (repeat' apply And.intro) <;> (first | trivial | rfl | omega | (intros; rfl)))))))))
            | (refine o_new rfl rfl rfl ⟨(none, _), Nat.le_refl _⟩ ?hc (fun _ _ => ?_); (case hc => (first | (simp only [need, imp, needIf]; done) | ((try simp only [need, imp, needIf]); (repeat' apply And.intro) <;> (first | trivial | rfl | omega | (simp; done) | (simp; omega) | (intros; rfl) | (exact Nat.le_trans (Nat.mul_le_mul_right _ (show _ ≤ 100000000001 by omega)) (by decide)) | (intro hg_; first | exact hg_ | ((try simp only [decide_eq_true_eq] at hg_); (try rw [wi64 (by omega) (by omega)]); (repeat' apply And.intro) <;> (first | trivial | rfl | omega | (intros; rfl)))))))))
            | refine o_put rfl rfl rfl trivial trivial ?_
            | (refine o_put rfl rfl rfl trivial ?hc ?_; (case hc => (first | (simp only [need, imp, needIf]; done) | ((try simp only [need, imp, needIf]); (repeat' apply And.intro) <;> (first | trivial | rfl | omega | (simp; done) | (simp; omega) | (intros; rfl) | (exact Nat.le_trans (Nat.mul_le_mul_right _ (show _ ≤ 100000000001 by omega)) (by decide)) | (intro hg_; first | exact hg_ | ((try simp only [decide_eq_true_eq] at hg_); (try rw [wi64 (by omega) (by omega)]); (repeat' apply And.intro) <;> (first | trivial | rfl | omega | (intros; rfl)))))))))
            | refine o_nil ?_
            | refine d_val rfl rfl trivial trivial ?_
            | (refine d_val rfl rfl trivial ?hc ?_; (case hc => (first | (simp only [need, imp, needIf]; done) | ((try simp only [need, imp, needIf]); (repeat' apply And.intro) <;> (first | trivial | rfl | omega | (simp; done) | (simp; omega) | (intros; rfl) | (exact Nat.le_trans (Nat.mul_le_mul_right _ (show _ ≤ 100000000001 by omega)) (by decide)) | (intro hg_; first | exact hg_ | ((try simp only [decide_eq_true_eq] at hg_); (try rw [wi64 (by omega) (by omega)]); (repeat' apply And.intro) <;> (first | trivial | rfl | omega | (intros; rfl)))))))))
            | refine d_new rfl rfl rfl ⟨0, trivial⟩ trivial (fun _ _ => ?_)
            | (refine d_new rfl rfl rfl ⟨0, trivial⟩ ?hc (fun _ _ => ?_); (case hc => (first | (simp only [need, imp, needIf]; done) | ((try simp only [need, imp, needIf]); (repeat' apply And.intro) <;> (first | trivial | rfl | omega | (simp; done) | (simp; omega) | (intros; rfl) | (exact Nat.le_trans (Nat.mul_le_mul_right _ (show _ ≤ 100000000001 by omega)) (by decide)) | (intro hg_; first | exact hg_ | ((try simp only [decide_eq_true_eq] at hg_); (try rw [wi64 (by omega) (by omega)]); (repeat' apply And.intro) <;> (first | trivial | rfl | omega | (intros; rfl)))))))))
            | (refine d_new rfl rfl rfl ⟨(none, _), Nat.le_refl _⟩ ?hc (fun _ _ => ?_); (case hc => (first | (simp only [need, imp, needIf]; done) | ((try simp only [need, imp, needIf]); (repeat' apply And.intro) <;> (first | trivial | rfl | omega | (simp; done) | (simp; omega) | (intros; rfl) | (exact Nat.le_trans (Nat.mul_le_mul_right _ (show _ ≤ 100000000001 by omega)) (by decide)) | (intro hg_; first | exact hg_ | ((try simp only [decide_eq_true_eq] at hg_); (try rw [wi64 (by omega) (by omega)]); (repeat' apply And.intro) <;> (first | trivial | rfl | omega | (intros; rfl)))))))))
            | refine d_put rfl rfl rfl trivial trivial ?_
            | (refine d_put rfl rfl rfl trivial ?hc ?_; (case hc => (first | (simp only [need, imp, needIf]; done) | ((try simp only [need, imp, needIf]); (repeat' apply And.intro) <;> (first | trivial | rfl | omega | (simp; done) | (simp; omega) | (intros; rfl) | (exact Nat.le_trans (Nat.mul_le_mul_right _ (show _ ≤ 100000000001 by omega)) (by decide)) | (intro hg_; first | exact hg_ | ((try simp only [decide_eq_true_eq] at hg_); (try rw [wi64 (by omega) (by omega)]); (repeat' apply And.intro) <;> (first | trivial | rfl | omega | (intros; rfl)))))))))
            | refine d_nil ?_
            | refine s_skip ?_
            | refine s_block ?_
            | refine s_exit ?_
            | refine s_label ?_)
          refine s_cond (b := ordBad g k) rfl (fun h4 => ?_) (fun h4 => ?_)
          · repeat (first
              | refine s_seq ?_
              | refine s_region ?_
              | refine o_val rfl rfl trivial trivial ?_
              | (refine o_val rfl rfl trivial ?hc ?_; (case hc => (first | (simp only [need, imp, needIf]; done) | ((try simp only [need, imp, needIf]); (repeat' apply And.intro) <;> (first | trivial | rfl | omega | (simp; done) | (simp; omega) | (intros; rfl) | (exact Nat.le_trans (Nat.mul_le_mul_right _ (show _ ≤ 100000000001 by omega)) (by decide)) | (intro hg_; first | exact hg_ | ((try simp only [decide_eq_true_eq] at hg_); (try rw [wi64 (by omega) (by omega)]); (repeat' apply And.intro) <;> (first | trivial | rfl | omega | (intros; rfl)))))))))
              | refine o_new rfl rfl rfl ⟨0, trivial⟩ trivial (fun _ _ => ?_)
              | (refine o_new rfl rfl rfl ⟨0, trivial⟩ ?hc (fun _ _ => ?_); (case hc => (first | (simp only [need, imp, needIf]; done) | ((try simp only [need, imp, needIf]); (repeat' apply And.intro) <;> (first | trivial | rfl | omega | (simp; done) | (simp; omega) | (intros; rfl) | (exact Nat.le_trans (Nat.mul_le_mul_right _ (show _ ≤ 100000000001 by omega)) (by decide)) | (intro hg_; first | exact hg_ | ((try simp only [decide_eq_true_eq] at hg_); (try rw [wi64 (by omega) (by omega)]); (repeat' apply And.intro) <;> (first | trivial | rfl | omega | (intros; rfl)))))))))
              | (refine o_new rfl rfl rfl ⟨(none, _), Nat.le_refl _⟩ ?hc (fun _ _ => ?_); (case hc => (first | (simp only [need, imp, needIf]; done) | ((try simp only [need, imp, needIf]); (repeat' apply And.intro) <;> (first | trivial | rfl | omega | (simp; done) | (simp; omega) | (intros; rfl) | (exact Nat.le_trans (Nat.mul_le_mul_right _ (show _ ≤ 100000000001 by omega)) (by decide)) | (intro hg_; first | exact hg_ | ((try simp only [decide_eq_true_eq] at hg_); (try rw [wi64 (by omega) (by omega)]); (repeat' apply And.intro) <;> (first | trivial | rfl | omega | (intros; rfl)))))))))
              | refine o_put rfl rfl rfl trivial trivial ?_
              | (refine o_put rfl rfl rfl trivial ?hc ?_; (case hc => (first | (simp only [need, imp, needIf]; done) | ((try simp only [need, imp, needIf]); (repeat' apply And.intro) <;> (first | trivial | rfl | omega | (simp; done) | (simp; omega) | (intros; rfl) | (exact Nat.le_trans (Nat.mul_le_mul_right _ (show _ ≤ 100000000001 by omega)) (by decide)) | (intro hg_; first | exact hg_ | ((try simp only [decide_eq_true_eq] at hg_); (try rw [wi64 (by omega) (by omega)]); (repeat' apply And.intro) <;> (first | trivial | rfl | omega | (intros; rfl)))))))))
              | refine o_nil ?_
              | refine d_val rfl rfl trivial trivial ?_
              | (refine d_val rfl rfl trivial ?hc ?_; (case hc => (first | (simp only [need, imp, needIf]; done) | ((try simp only [need, imp, needIf]); (repeat' apply And.intro) <;> (first | trivial | rfl | omega | (simp; done) | (simp; omega) | (intros; rfl) | (exact Nat.le_trans (Nat.mul_le_mul_right _ (show _ ≤ 100000000001 by omega)) (by decide)) | (intro hg_; first | exact hg_ | ((try simp only [decide_eq_true_eq] at hg_); (try rw [wi64 (by omega) (by omega)]); (repeat' apply And.intro) <;> (first | trivial | rfl | omega | (intros; rfl)))))))))
              | refine d_new rfl rfl rfl ⟨0, trivial⟩ trivial (fun _ _ => ?_)
              | (refine d_new rfl rfl rfl ⟨0, trivial⟩ ?hc (fun _ _ => ?_); (case hc => (first | (simp only [need, imp, needIf]; done) | ((try simp only [need, imp, needIf]); (repeat' apply And.intro) <;> (first | trivial | rfl | omega | (simp; done) | (simp; omega) | (intros; rfl) | (exact Nat.le_trans (Nat.mul_le_mul_right _ (show _ ≤ 100000000001 by omega)) (by decide)) | (intro hg_; first | exact hg_ | ((try simp only [decide_eq_true_eq] at hg_); (try rw [wi64 (by omega) (by omega)]); (repeat' apply And.intro) <;> (first | trivial | rfl | omega | (intros; rfl)))))))))
              | (refine d_new rfl rfl rfl ⟨(none, _), Nat.le_refl _⟩ ?hc (fun _ _ => ?_); (case hc => (first | (simp only [need, imp, needIf]; done) | ((try simp only [need, imp, needIf]); (repeat' apply And.intro) <;> (first | trivial | rfl | omega | (simp; done) | (simp; omega) | (intros; rfl) | (exact Nat.le_trans (Nat.mul_le_mul_right _ (show _ ≤ 100000000001 by omega)) (by decide)) | (intro hg_; first | exact hg_ | ((try simp only [decide_eq_true_eq] at hg_); (try rw [wi64 (by omega) (by omega)]); (repeat' apply And.intro) <;> (first | trivial | rfl | omega | (intros; rfl)))))))))
              | refine d_put rfl rfl rfl trivial trivial ?_
              | (refine d_put rfl rfl rfl trivial ?hc ?_; (case hc => (first | (simp only [need, imp, needIf]; done) | ((try simp only [need, imp, needIf]); (repeat' apply And.intro) <;> (first | trivial | rfl | omega | (simp; done) | (simp; omega) | (intros; rfl) | (exact Nat.le_trans (Nat.mul_le_mul_right _ (show _ ≤ 100000000001 by omega)) (by decide)) | (intro hg_; first | exact hg_ | ((try simp only [decide_eq_true_eq] at hg_); (try rw [wi64 (by omega) (by omega)]); (repeat' apply And.intro) <;> (first | trivial | rfl | omega | (intros; rfl)))))))))
              | refine d_nil ?_
              | refine s_skip ?_
              | refine s_block ?_
              | refine s_exit ?_
              | refine s_label ?_)
            refine s_ret ?_
            exact ⟨_, _, rfl, ⟨trivial, trivial⟩, rfl, by rw [if_pos h4] at hz; rw [fin 52 hz (by decide)]; rfl⟩
          rw [if_neg (by rw [h4]; decide)] at hz
          repeat (first
            | refine s_seq ?_
            | refine s_region ?_
            | refine o_val rfl rfl trivial trivial ?_
            | (refine o_val rfl rfl trivial ?hc ?_; (case hc => (first | (simp only [need, imp, needIf]; done) | ((try simp only [need, imp, needIf]); (repeat' apply And.intro) <;> (first | trivial | rfl | omega | (simp; done) | (simp; omega) | (intros; rfl) | (exact Nat.le_trans (Nat.mul_le_mul_right _ (show _ ≤ 100000000001 by omega)) (by decide)) | (intro hg_; first | exact hg_ | ((try simp only [decide_eq_true_eq] at hg_); (try rw [wi64 (by omega) (by omega)]); (repeat' apply And.intro) <;> (first | trivial | rfl | omega | (intros; rfl)))))))))
            | refine o_new rfl rfl rfl ⟨0, trivial⟩ trivial (fun _ _ => ?_)
            | (refine o_new rfl rfl rfl ⟨0, trivial⟩ ?hc (fun _ _ => ?_); (case hc => (first | (simp only [need, imp, needIf]; done) | ((try simp only [need, imp, needIf]); (repeat' apply And.intro) <;> (first | trivial | rfl | omega | (simp; done) | (simp; omega) | (intros; rfl) | (exact Nat.le_trans (Nat.mul_le_mul_right _ (show _ ≤ 100000000001 by omega)) (by decide)) | (intro hg_; first | exact hg_ | ((try simp only [decide_eq_true_eq] at hg_); (try rw [wi64 (by omega) (by omega)]); (repeat' apply And.intro) <;> (first | trivial | rfl | omega | (intros; rfl)))))))))
            | (refine o_new rfl rfl rfl ⟨(none, _), Nat.le_refl _⟩ ?hc (fun _ _ => ?_); (case hc => (first | (simp only [need, imp, needIf]; done) | ((try simp only [need, imp, needIf]); (repeat' apply And.intro) <;> (first | trivial | rfl | omega | (simp; done) | (simp; omega) | (intros; rfl) | (exact Nat.le_trans (Nat.mul_le_mul_right _ (show _ ≤ 100000000001 by omega)) (by decide)) | (intro hg_; first | exact hg_ | ((try simp only [decide_eq_true_eq] at hg_); (try rw [wi64 (by omega) (by omega)]); (repeat' apply And.intro) <;> (first | trivial | rfl | omega | (intros; rfl)))))))))
            | refine o_put rfl rfl rfl trivial trivial ?_
            | (refine o_put rfl rfl rfl trivial ?hc ?_; (case hc => (first | (simp only [need, imp, needIf]; done) | ((try simp only [need, imp, needIf]); (repeat' apply And.intro) <;> (first | trivial | rfl | omega | (simp; done) | (simp; omega) | (intros; rfl) | (exact Nat.le_trans (Nat.mul_le_mul_right _ (show _ ≤ 100000000001 by omega)) (by decide)) | (intro hg_; first | exact hg_ | ((try simp only [decide_eq_true_eq] at hg_); (try rw [wi64 (by omega) (by omega)]); (repeat' apply And.intro) <;> (first | trivial | rfl | omega | (intros; rfl)))))))))
            | refine o_nil ?_
            | refine d_val rfl rfl trivial trivial ?_
            | (refine d_val rfl rfl trivial ?hc ?_; (case hc => (first | (simp only [need, imp, needIf]; done) | ((try simp only [need, imp, needIf]); (repeat' apply And.intro) <;> (first | trivial | rfl | omega | (simp; done) | (simp; omega) | (intros; rfl) | (exact Nat.le_trans (Nat.mul_le_mul_right _ (show _ ≤ 100000000001 by omega)) (by decide)) | (intro hg_; first | exact hg_ | ((try simp only [decide_eq_true_eq] at hg_); (try rw [wi64 (by omega) (by omega)]); (repeat' apply And.intro) <;> (first | trivial | rfl | omega | (intros; rfl)))))))))
            | refine d_new rfl rfl rfl ⟨0, trivial⟩ trivial (fun _ _ => ?_)
            | (refine d_new rfl rfl rfl ⟨0, trivial⟩ ?hc (fun _ _ => ?_); (case hc => (first | (simp only [need, imp, needIf]; done) | ((try simp only [need, imp, needIf]); (repeat' apply And.intro) <;> (first | trivial | rfl | omega | (simp; done) | (simp; omega) | (intros; rfl) | (exact Nat.le_trans (Nat.mul_le_mul_right _ (show _ ≤ 100000000001 by omega)) (by decide)) | (intro hg_; first | exact hg_ | ((try simp only [decide_eq_true_eq] at hg_); (try rw [wi64 (by omega) (by omega)]); (repeat' apply And.intro) <;> (first | trivial | rfl | omega | (intros; rfl)))))))))
            | (refine d_new rfl rfl rfl ⟨(none, _), Nat.le_refl _⟩ ?hc (fun _ _ => ?_); (case hc => (first | (simp only [need, imp, needIf]; done) | ((try simp only [need, imp, needIf]); (repeat' apply And.intro) <;> (first | trivial | rfl | omega | (simp; done) | (simp; omega) | (intros; rfl) | (exact Nat.le_trans (Nat.mul_le_mul_right _ (show _ ≤ 100000000001 by omega)) (by decide)) | (intro hg_; first | exact hg_ | ((try simp only [decide_eq_true_eq] at hg_); (try rw [wi64 (by omega) (by omega)]); (repeat' apply And.intro) <;> (first | trivial | rfl | omega | (intros; rfl)))))))))
            | refine d_put rfl rfl rfl trivial trivial ?_
            | (refine d_put rfl rfl rfl trivial ?hc ?_; (case hc => (first | (simp only [need, imp, needIf]; done) | ((try simp only [need, imp, needIf]); (repeat' apply And.intro) <;> (first | trivial | rfl | omega | (simp; done) | (simp; omega) | (intros; rfl) | (exact Nat.le_trans (Nat.mul_le_mul_right _ (show _ ≤ 100000000001 by omega)) (by decide)) | (intro hg_; first | exact hg_ | ((try simp only [decide_eq_true_eq] at hg_); (try rw [wi64 (by omega) (by omega)]); (repeat' apply And.intro) <;> (first | trivial | rfl | omega | (intros; rfl)))))))))
            | refine d_nil ?_
            | refine s_skip ?_
            | refine s_block ?_
            | refine s_exit ?_
            | refine s_label ?_)
          refine s_cond (b := powBad (g k)) rfl (fun h5 => ?_) (fun h5 => ?_)
          · repeat (first
              | refine s_seq ?_
              | refine s_region ?_
              | refine o_val rfl rfl trivial trivial ?_
              | (refine o_val rfl rfl trivial ?hc ?_; (case hc => (first | (simp only [need, imp, needIf]; done) | ((try simp only [need, imp, needIf]); (repeat' apply And.intro) <;> (first | trivial | rfl | omega | (simp; done) | (simp; omega) | (intros; rfl) | (exact Nat.le_trans (Nat.mul_le_mul_right _ (show _ ≤ 100000000001 by omega)) (by decide)) | (intro hg_; first | exact hg_ | ((try simp only [decide_eq_true_eq] at hg_); (try rw [wi64 (by omega) (by omega)]); (repeat' apply And.intro) <;> (first | trivial | rfl | omega | (intros; rfl)))))))))
              | refine o_new rfl rfl rfl ⟨0, trivial⟩ trivial (fun _ _ => ?_)
              | (refine o_new rfl rfl rfl ⟨0, trivial⟩ ?hc (fun _ _ => ?_); (case hc => (first | (simp only [need, imp, needIf]; done) | ((try simp only [need, imp, needIf]); (repeat' apply And.intro) <;> (first | trivial | rfl | omega | (simp; done) | (simp; omega) | (intros; rfl) | (exact Nat.le_trans (Nat.mul_le_mul_right _ (show _ ≤ 100000000001 by omega)) (by decide)) | (intro hg_; first | exact hg_ | ((try simp only [decide_eq_true_eq] at hg_); (try rw [wi64 (by omega) (by omega)]); (repeat' apply And.intro) <;> (first | trivial | rfl | omega | (intros; rfl)))))))))
              | (refine o_new rfl rfl rfl ⟨(none, _), Nat.le_refl _⟩ ?hc (fun _ _ => ?_); (case hc => (first | (simp only [need, imp, needIf]; done) | ((try simp only [need, imp, needIf]); (repeat' apply And.intro) <;> (first | trivial | rfl | omega | (simp; done) | (simp; omega) | (intros; rfl) | (exact Nat.le_trans (Nat.mul_le_mul_right _ (show _ ≤ 100000000001 by omega)) (by decide)) | (intro hg_; first | exact hg_ | ((try simp only [decide_eq_true_eq] at hg_); (try rw [wi64 (by omega) (by omega)]); (repeat' apply And.intro) <;> (first | trivial | rfl | omega | (intros; rfl)))))))))
              | refine o_put rfl rfl rfl trivial trivial ?_
              | (refine o_put rfl rfl rfl trivial ?hc ?_; (case hc => (first | (simp only [need, imp, needIf]; done) | ((try simp only [need, imp, needIf]); (repeat' apply And.intro) <;> (first | trivial | rfl | omega | (simp; done) | (simp; omega) | (intros; rfl) | (exact Nat.le_trans (Nat.mul_le_mul_right _ (show _ ≤ 100000000001 by omega)) (by decide)) | (intro hg_; first | exact hg_ | ((try simp only [decide_eq_true_eq] at hg_); (try rw [wi64 (by omega) (by omega)]); (repeat' apply And.intro) <;> (first | trivial | rfl | omega | (intros; rfl)))))))))
              | refine o_nil ?_
              | refine d_val rfl rfl trivial trivial ?_
              | (refine d_val rfl rfl trivial ?hc ?_; (case hc => (first | (simp only [need, imp, needIf]; done) | ((try simp only [need, imp, needIf]); (repeat' apply And.intro) <;> (first | trivial | rfl | omega | (simp; done) | (simp; omega) | (intros; rfl) | (exact Nat.le_trans (Nat.mul_le_mul_right _ (show _ ≤ 100000000001 by omega)) (by decide)) | (intro hg_; first | exact hg_ | ((try simp only [decide_eq_true_eq] at hg_); (try rw [wi64 (by omega) (by omega)]); (repeat' apply And.intro) <;> (first | trivial | rfl | omega | (intros; rfl)))))))))
              | refine d_new rfl rfl rfl ⟨0, trivial⟩ trivial (fun _ _ => ?_)
              | (refine d_new rfl rfl rfl ⟨0, trivial⟩ ?hc (fun _ _ => ?_); (case hc => (first | (simp only [need, imp, needIf]; done) | ((try simp only [need, imp, needIf]); (repeat' apply And.intro) <;> (first | trivial | rfl | omega | (simp; done) | (simp; omega) | (intros; rfl) | (exact Nat.le_trans (Nat.mul_le_mul_right _ (show _ ≤ 100000000001 by omega)) (by decide)) | (intro hg_; first | exact hg_ | ((try simp only [decide_eq_true_eq] at hg_); (try rw [wi64 (by omega) (by omega)]); (repeat' apply And.intro) <;> (first | trivial | rfl | omega | (intros; rfl)))))))))
              | (refine d_new rfl rfl rfl ⟨(none, _), Nat.le_refl _⟩ ?hc (fun _ _ => ?_); (case hc => (first | (simp only [need, imp, needIf]; done) | ((try simp only [need, imp, needIf]); (repeat' apply And.intro) <;> (first | trivial | rfl | omega | (simp; done) | (simp; omega) | (intros; rfl) | (exact Nat.le_trans (Nat.mul_le_mul_right _ (show _ ≤ 100000000001 by omega)) (by decide)) | (intro hg_; first | exact hg_ | ((try simp only [decide_eq_true_eq] at hg_); (try rw [wi64 (by omega) (by omega)]); (repeat' apply And.intro) <;> (first | trivial | rfl | omega | (intros; rfl)))))))))
              | refine d_put rfl rfl rfl trivial trivial ?_
              | (refine d_put rfl rfl rfl trivial ?hc ?_; (case hc => (first | (simp only [need, imp, needIf]; done) | ((try simp only [need, imp, needIf]); (repeat' apply And.intro) <;> (first | trivial | rfl | omega | (simp; done) | (simp; omega) | (intros; rfl) | (exact Nat.le_trans (Nat.mul_le_mul_right _ (show _ ≤ 100000000001 by omega)) (by decide)) | (intro hg_; first | exact hg_ | ((try simp only [decide_eq_true_eq] at hg_); (try rw [wi64 (by omega) (by omega)]); (repeat' apply And.intro) <;> (first | trivial | rfl | omega | (intros; rfl)))))))))
              | refine d_nil ?_
              | refine s_skip ?_
              | refine s_block ?_
              | refine s_exit ?_
              | refine s_label ?_)
            refine s_ret ?_
            exact ⟨_, _, rfl, ⟨trivial, trivial⟩, rfl, by rw [if_pos h5] at hz; rw [fin 50 hz (by decide)]; rfl⟩
          rw [if_neg (by rw [h5]; decide)] at hz
          repeat (first
            | refine s_seq ?_
            | refine s_region ?_
            | refine o_val rfl rfl trivial trivial ?_
            | (refine o_val rfl rfl trivial ?hc ?_; (case hc => (first | (simp only [need, imp, needIf]; done) | ((try simp only [need, imp, needIf]); (repeat' apply And.intro) <;> (first | trivial | rfl | omega | (simp; done) | (simp; omega) | (intros; rfl) | (exact Nat.le_trans (Nat.mul_le_mul_right _ (show _ ≤ 100000000001 by omega)) (by decide)) | (intro hg_; first | exact hg_ | ((try simp only [decide_eq_true_eq] at hg_); (try rw [wi64 (by omega) (by omega)]); (repeat' apply And.intro) <;> (first | trivial | rfl | omega | (intros; rfl)))))))))
            | refine o_new rfl rfl rfl ⟨0, trivial⟩ trivial (fun _ _ => ?_)
            | (refine o_new rfl rfl rfl ⟨0, trivial⟩ ?hc (fun _ _ => ?_); (case hc => (first | (simp only [need, imp, needIf]; done) | ((try simp only [need, imp, needIf]); (repeat' apply And.intro) <;> (first | trivial | rfl | omega | (simp; done) | (simp; omega) | (intros; rfl) | (exact Nat.le_trans (Nat.mul_le_mul_right _ (show _ ≤ 100000000001 by omega)) (by decide)) | (intro hg_; first | exact hg_ | ((try simp only [decide_eq_true_eq] at hg_); (try rw [wi64 (by omega) (by omega)]); (repeat' apply And.intro) <;> (first | trivial | rfl | omega | (intros; rfl)))))))))
            | (refine o_new rfl rfl rfl ⟨(none, _), Nat.le_refl _⟩ ?hc (fun _ _ => ?_); (case hc => (first | (simp only [need, imp, needIf]; done) | ((try simp only [need, imp, needIf]); (repeat' apply And.intro) <;> (first | trivial | rfl | omega | (simp; done) | (simp; omega) | (intros; rfl) | (exact Nat.le_trans (Nat.mul_le_mul_right _ (show _ ≤ 100000000001 by omega)) (by decide)) | (intro hg_; first | exact hg_ | ((try simp only [decide_eq_true_eq] at hg_); (try rw [wi64 (by omega) (by omega)]); (repeat' apply And.intro) <;> (first | trivial | rfl | omega | (intros; rfl)))))))))
            | refine o_put rfl rfl rfl trivial trivial ?_
            | (refine o_put rfl rfl rfl trivial ?hc ?_; (case hc => (first | (simp only [need, imp, needIf]; done) | ((try simp only [need, imp, needIf]); (repeat' apply And.intro) <;> (first | trivial | rfl | omega | (simp; done) | (simp; omega) | (intros; rfl) | (exact Nat.le_trans (Nat.mul_le_mul_right _ (show _ ≤ 100000000001 by omega)) (by decide)) | (intro hg_; first | exact hg_ | ((try simp only [decide_eq_true_eq] at hg_); (try rw [wi64 (by omega) (by omega)]); (repeat' apply And.intro) <;> (first | trivial | rfl | omega | (intros; rfl)))))))))
            | refine o_nil ?_
            | refine d_val rfl rfl trivial trivial ?_
            | (refine d_val rfl rfl trivial ?hc ?_; (case hc => (first | (simp only [need, imp, needIf]; done) | ((try simp only [need, imp, needIf]); (repeat' apply And.intro) <;> (first | trivial | rfl | omega | (simp; done) | (simp; omega) | (intros; rfl) | (exact Nat.le_trans (Nat.mul_le_mul_right _ (show _ ≤ 100000000001 by omega)) (by decide)) | (intro hg_; first | exact hg_ | ((try simp only [decide_eq_true_eq] at hg_); (try rw [wi64 (by omega) (by omega)]); (repeat' apply And.intro) <;> (first | trivial | rfl | omega | (intros; rfl)))))))))
            | refine d_new rfl rfl rfl ⟨0, trivial⟩ trivial (fun _ _ => ?_)
            | (refine d_new rfl rfl rfl ⟨0, trivial⟩ ?hc (fun _ _ => ?_); (case hc => (first | (simp only [need, imp, needIf]; done) | ((try simp only [need, imp, needIf]); (repeat' apply And.intro) <;> (first | trivial | rfl | omega | (simp; done) | (simp; omega) | (intros; rfl) | (exact Nat.le_trans (Nat.mul_le_mul_right _ (show _ ≤ 100000000001 by omega)) (by decide)) | (intro hg_; first | exact hg_ | ((try simp only [decide_eq_true_eq] at hg_); (try rw [wi64 (by omega) (by omega)]); (repeat' apply And.intro) <;> (first | trivial | rfl | omega | (intros; rfl)))))))))
            | (refine d_new rfl rfl rfl ⟨(none, _), Nat.le_refl _⟩ ?hc (fun _ _ => ?_); (case hc => (first | (simp only [need, imp, needIf]; done) | ((try simp only [need, imp, needIf]); (repeat' apply And.intro) <;> (first | trivial | rfl | omega | (simp; done) | (simp; omega) | (intros; rfl) | (exact Nat.le_trans (Nat.mul_le_mul_right _ (show _ ≤ 100000000001 by omega)) (by decide)) | (intro hg_; first | exact hg_ | ((try simp only [decide_eq_true_eq] at hg_); (try rw [wi64 (by omega) (by omega)]); (repeat' apply And.intro) <;> (first | trivial | rfl | omega | (intros; rfl)))))))))
            | refine d_put rfl rfl rfl trivial trivial ?_
            | (refine d_put rfl rfl rfl trivial ?hc ?_; (case hc => (first | (simp only [need, imp, needIf]; done) | ((try simp only [need, imp, needIf]); (repeat' apply And.intro) <;> (first | trivial | rfl | omega | (simp; done) | (simp; omega) | (intros; rfl) | (exact Nat.le_trans (Nat.mul_le_mul_right _ (show _ ≤ 100000000001 by omega)) (by decide)) | (intro hg_; first | exact hg_ | ((try simp only [decide_eq_true_eq] at hg_); (try rw [wi64 (by omega) (by omega)]); (repeat' apply And.intro) <;> (first | trivial | rfl | omega | (intros; rfl)))))))))
            | refine d_nil ?_
            | refine s_skip ?_
            | refine s_block ?_
            | refine s_exit ?_
            | refine s_label ?_)
          refine ⟨k + 1, ⟨by omega, hz⟩, by omega, ?_⟩
          (refine Le.of ?leT ?leM rfl; (case leT => repeat (first | exact trivial | refine And.intro (by first | exact rfl | (show some (none, AV.v (.int .i64 (IntKind.i64.wrap _))) = _; rw [wi64 (by omega) (by omega)]; rfl)) ?_)); (case leM => repeat (first | exact trivial | refine And.intro ⟨_, rfl, Blk.le_refl _⟩ ?_)))
        · have hge : k = n := by simp at hb; omega
          have hz0 : memG g n 0 = 0 := by rw [hz, hge, Nat.sub_self]; rfl
          repeat (first
            | refine s_seq ?_
            | refine s_region ?_
            | refine o_val rfl rfl trivial trivial ?_
            | (refine o_val rfl rfl trivial ?hc ?_; (case hc => (first | (simp only [need, imp, needIf]; done) | ((try simp only [need, imp, needIf]); (repeat' apply And.intro) <;> (first | trivial | rfl | omega | (simp; done) | (simp; omega) | (intros; rfl) | (exact Nat.le_trans (Nat.mul_le_mul_right _ (show _ ≤ 100000000001 by omega)) (by decide)) | (intro hg_; first | exact hg_ | ((try simp only [decide_eq_true_eq] at hg_); (try rw [wi64 (by omega) (by omega)]); (repeat' apply And.intro) <;> (first | trivial | rfl | omega | (intros; rfl)))))))))
            | refine o_new rfl rfl rfl ⟨0, trivial⟩ trivial (fun _ _ => ?_)
            | (refine o_new rfl rfl rfl ⟨0, trivial⟩ ?hc (fun _ _ => ?_); (case hc => (first | (simp only [need, imp, needIf]; done) | ((try simp only [need, imp, needIf]); (repeat' apply And.intro) <;> (first | trivial | rfl | omega | (simp; done) | (simp; omega) | (intros; rfl) | (exact Nat.le_trans (Nat.mul_le_mul_right _ (show _ ≤ 100000000001 by omega)) (by decide)) | (intro hg_; first | exact hg_ | ((try simp only [decide_eq_true_eq] at hg_); (try rw [wi64 (by omega) (by omega)]); (repeat' apply And.intro) <;> (first | trivial | rfl | omega | (intros; rfl)))))))))
            | (refine o_new rfl rfl rfl ⟨(none, _), Nat.le_refl _⟩ ?hc (fun _ _ => ?_); (case hc => (first | (simp only [need, imp, needIf]; done) | ((try simp only [need, imp, needIf]); (repeat' apply And.intro) <;> (first | trivial | rfl | omega | (simp; done) | (simp; omega) | (intros; rfl) | (exact Nat.le_trans (Nat.mul_le_mul_right _ (show _ ≤ 100000000001 by omega)) (by decide)) | (intro hg_; first | exact hg_ | ((try simp only [decide_eq_true_eq] at hg_); (try rw [wi64 (by omega) (by omega)]); (repeat' apply And.intro) <;> (first | trivial | rfl | omega | (intros; rfl)))))))))
            | refine o_put rfl rfl rfl trivial trivial ?_
            | (refine o_put rfl rfl rfl trivial ?hc ?_; (case hc => (first | (simp only [need, imp, needIf]; done) | ((try simp only [need, imp, needIf]); (repeat' apply And.intro) <;> (first | trivial | rfl | omega | (simp; done) | (simp; omega) | (intros; rfl) | (exact Nat.le_trans (Nat.mul_le_mul_right _ (show _ ≤ 100000000001 by omega)) (by decide)) | (intro hg_; first | exact hg_ | ((try simp only [decide_eq_true_eq] at hg_); (try rw [wi64 (by omega) (by omega)]); (repeat' apply And.intro) <;> (first | trivial | rfl | omega | (intros; rfl)))))))))
            | refine o_nil ?_
            | refine d_val rfl rfl trivial trivial ?_
            | (refine d_val rfl rfl trivial ?hc ?_; (case hc => (first | (simp only [need, imp, needIf]; done) | ((try simp only [need, imp, needIf]); (repeat' apply And.intro) <;> (first | trivial | rfl | omega | (simp; done) | (simp; omega) | (intros; rfl) | (exact Nat.le_trans (Nat.mul_le_mul_right _ (show _ ≤ 100000000001 by omega)) (by decide)) | (intro hg_; first | exact hg_ | ((try simp only [decide_eq_true_eq] at hg_); (try rw [wi64 (by omega) (by omega)]); (repeat' apply And.intro) <;> (first | trivial | rfl | omega | (intros; rfl)))))))))
            | refine d_new rfl rfl rfl ⟨0, trivial⟩ trivial (fun _ _ => ?_)
            | (refine d_new rfl rfl rfl ⟨0, trivial⟩ ?hc (fun _ _ => ?_); (case hc => (first | (simp only [need, imp, needIf]; done) | ((try simp only [need, imp, needIf]); (repeat' apply And.intro) <;> (first | trivial | rfl | omega | (simp; done) | (simp; omega) | (intros; rfl) | (exact Nat.le_trans (Nat.mul_le_mul_right _ (show _ ≤ 100000000001 by omega)) (by decide)) | (intro hg_; first | exact hg_ | ((try simp only [decide_eq_true_eq] at hg_); (try rw [wi64 (by omega) (by omega)]); (repeat' apply And.intro) <;> (first | trivial | rfl | omega | (intros; rfl)))))))))
            | (refine d_new rfl rfl rfl ⟨(none, _), Nat.le_refl _⟩ ?hc (fun _ _ => ?_); (case hc => (first | (simp only [need, imp, needIf]; done) | ((try simp only [need, imp, needIf]); (repeat' apply And.intro) <;> (first | trivial | rfl | omega | (simp; done) | (simp; omega) | (intros; rfl) | (exact Nat.le_trans (Nat.mul_le_mul_right _ (show _ ≤ 100000000001 by omega)) (by decide)) | (intro hg_; first | exact hg_ | ((try simp only [decide_eq_true_eq] at hg_); (try rw [wi64 (by omega) (by omega)]); (repeat' apply And.intro) <;> (first | trivial | rfl | omega | (intros; rfl)))))))))
            | refine d_put rfl rfl rfl trivial trivial ?_
            | (refine d_put rfl rfl rfl trivial ?hc ?_; (case hc => (first | (simp only [need, imp, needIf]; done) | ((try simp only [need, imp, needIf]); (repeat' apply And.intro) <;> (first | trivial | rfl | omega | (simp; done) | (simp; omega) | (intros; rfl) | (exact Nat.le_trans (Nat.mul_le_mul_right _ (show _ ≤ 100000000001 by omega)) (by decide)) | (intro hg_; first | exact hg_ | ((try simp only [decide_eq_true_eq] at hg_); (try rw [wi64 (by omega) (by omega)]); (repeat' apply And.intro) <;> (first | trivial | rfl | omega | (intros; rfl)))))))))
            | refine d_nil ?_
            | refine s_skip ?_
            | refine s_block ?_
            | refine s_exit ?_
            | refine s_label ?_)
          refine s_cond (b := decide (totR g n 0 0 > 1152921504606846975)) rfl (fun h6 => ?_) (fun h6 => ?_)
          · repeat (first
              | refine s_seq ?_
              | refine s_region ?_
              | refine o_val rfl rfl trivial trivial ?_
              | (refine o_val rfl rfl trivial ?hc ?_; (case hc => (first | (simp only [need, imp, needIf]; done) | ((try simp only [need, imp, needIf]); (repeat' apply And.intro) <;> (first | trivial | rfl | omega | (simp; done) | (simp; omega) | (intros; rfl) | (exact Nat.le_trans (Nat.mul_le_mul_right _ (show _ ≤ 100000000001 by omega)) (by decide)) | (intro hg_; first | exact hg_ | ((try simp only [decide_eq_true_eq] at hg_); (try rw [wi64 (by omega) (by omega)]); (repeat' apply And.intro) <;> (first | trivial | rfl | omega | (intros; rfl)))))))))
              | refine o_new rfl rfl rfl ⟨0, trivial⟩ trivial (fun _ _ => ?_)
              | (refine o_new rfl rfl rfl ⟨0, trivial⟩ ?hc (fun _ _ => ?_); (case hc => (first | (simp only [need, imp, needIf]; done) | ((try simp only [need, imp, needIf]); (repeat' apply And.intro) <;> (first | trivial | rfl | omega | (simp; done) | (simp; omega) | (intros; rfl) | (exact Nat.le_trans (Nat.mul_le_mul_right _ (show _ ≤ 100000000001 by omega)) (by decide)) | (intro hg_; first | exact hg_ | ((try simp only [decide_eq_true_eq] at hg_); (try rw [wi64 (by omega) (by omega)]); (repeat' apply And.intro) <;> (first | trivial | rfl | omega | (intros; rfl)))))))))
              | (refine o_new rfl rfl rfl ⟨(none, _), Nat.le_refl _⟩ ?hc (fun _ _ => ?_); (case hc => (first | (simp only [need, imp, needIf]; done) | ((try simp only [need, imp, needIf]); (repeat' apply And.intro) <;> (first | trivial | rfl | omega | (simp; done) | (simp; omega) | (intros; rfl) | (exact Nat.le_trans (Nat.mul_le_mul_right _ (show _ ≤ 100000000001 by omega)) (by decide)) | (intro hg_; first | exact hg_ | ((try simp only [decide_eq_true_eq] at hg_); (try rw [wi64 (by omega) (by omega)]); (repeat' apply And.intro) <;> (first | trivial | rfl | omega | (intros; rfl)))))))))
              | refine o_put rfl rfl rfl trivial trivial ?_
              | (refine o_put rfl rfl rfl trivial ?hc ?_; (case hc => (first | (simp only [need, imp, needIf]; done) | ((try simp only [need, imp, needIf]); (repeat' apply And.intro) <;> (first | trivial | rfl | omega | (simp; done) | (simp; omega) | (intros; rfl) | (exact Nat.le_trans (Nat.mul_le_mul_right _ (show _ ≤ 100000000001 by omega)) (by decide)) | (intro hg_; first | exact hg_ | ((try simp only [decide_eq_true_eq] at hg_); (try rw [wi64 (by omega) (by omega)]); (repeat' apply And.intro) <;> (first | trivial | rfl | omega | (intros; rfl)))))))))
              | refine o_nil ?_
              | refine d_val rfl rfl trivial trivial ?_
              | (refine d_val rfl rfl trivial ?hc ?_; (case hc => (first | (simp only [need, imp, needIf]; done) | ((try simp only [need, imp, needIf]); (repeat' apply And.intro) <;> (first | trivial | rfl | omega | (simp; done) | (simp; omega) | (intros; rfl) | (exact Nat.le_trans (Nat.mul_le_mul_right _ (show _ ≤ 100000000001 by omega)) (by decide)) | (intro hg_; first | exact hg_ | ((try simp only [decide_eq_true_eq] at hg_); (try rw [wi64 (by omega) (by omega)]); (repeat' apply And.intro) <;> (first | trivial | rfl | omega | (intros; rfl)))))))))
              | refine d_new rfl rfl rfl ⟨0, trivial⟩ trivial (fun _ _ => ?_)
              | (refine d_new rfl rfl rfl ⟨0, trivial⟩ ?hc (fun _ _ => ?_); (case hc => (first | (simp only [need, imp, needIf]; done) | ((try simp only [need, imp, needIf]); (repeat' apply And.intro) <;> (first | trivial | rfl | omega | (simp; done) | (simp; omega) | (intros; rfl) | (exact Nat.le_trans (Nat.mul_le_mul_right _ (show _ ≤ 100000000001 by omega)) (by decide)) | (intro hg_; first | exact hg_ | ((try simp only [decide_eq_true_eq] at hg_); (try rw [wi64 (by omega) (by omega)]); (repeat' apply And.intro) <;> (first | trivial | rfl | omega | (intros; rfl)))))))))
              | (refine d_new rfl rfl rfl ⟨(none, _), Nat.le_refl _⟩ ?hc (fun _ _ => ?_); (case hc => (first | (simp only [need, imp, needIf]; done) | ((try simp only [need, imp, needIf]); (repeat' apply And.intro) <;> (first | trivial | rfl | omega | (simp; done) | (simp; omega) | (intros; rfl) | (exact Nat.le_trans (Nat.mul_le_mul_right _ (show _ ≤ 100000000001 by omega)) (by decide)) | (intro hg_; first | exact hg_ | ((try simp only [decide_eq_true_eq] at hg_); (try rw [wi64 (by omega) (by omega)]); (repeat' apply And.intro) <;> (first | trivial | rfl | omega | (intros; rfl)))))))))
              | refine d_put rfl rfl rfl trivial trivial ?_
              | (refine d_put rfl rfl rfl trivial ?hc ?_; (case hc => (first | (simp only [need, imp, needIf]; done) | ((try simp only [need, imp, needIf]); (repeat' apply And.intro) <;> (first | trivial | rfl | omega | (simp; done) | (simp; omega) | (intros; rfl) | (exact Nat.le_trans (Nat.mul_le_mul_right _ (show _ ≤ 100000000001 by omega)) (by decide)) | (intro hg_; first | exact hg_ | ((try simp only [decide_eq_true_eq] at hg_); (try rw [wi64 (by omega) (by omega)]); (repeat' apply And.intro) <;> (first | trivial | rfl | omega | (intros; rfl)))))))))
              | refine d_nil ?_
              | refine s_skip ?_
              | refine s_block ?_
              | refine s_exit ?_
              | refine s_label ?_)
            refine s_ret ?_
            exact ⟨_, _, rfl, ⟨trivial, trivial⟩, rfl, by unfold SoundRF; rw [if_neg (by rw [h1]; decide), if_neg (by rw [h2]; decide), if_neg (by rw [hz0]; decide), h6]; rfl⟩
          have fin2 : SoundRF g n = prioR g (totR g n 0 0) n 0 := by unfold SoundRF; rw [if_neg (by rw [h1]; decide), if_neg (by rw [h2]; decide), if_neg (by rw [hz0]; decide), if_neg (by rw [h6]; decide)]
          repeat (first
            | refine s_seq ?_
            | refine s_region ?_
            | refine o_val rfl rfl trivial trivial ?_
            | (refine o_val rfl rfl trivial ?hc ?_; (case hc => (first | (simp only [need, imp, needIf]; done) | ((try simp only [need, imp, needIf]); (repeat' apply And.intro) <;> (first | trivial | rfl | omega | (simp; done) | (simp; omega) | (intros; rfl) | (exact Nat.le_trans (Nat.mul_le_mul_right _ (show _ ≤ 100000000001 by omega)) (by decide)) | (intro hg_; first | exact hg_ | ((try simp only [decide_eq_true_eq] at hg_); (try rw [wi64 (by omega) (by omega)]); (repeat' apply And.intro) <;> (first | trivial | rfl | omega | (intros; rfl)))))))))
            | refine o_new rfl rfl rfl ⟨0, trivial⟩ trivial (fun _ _ => ?_)
            | (refine o_new rfl rfl rfl ⟨0, trivial⟩ ?hc (fun _ _ => ?_); (case hc => (first | (simp only [need, imp, needIf]; done) | ((try simp only [need, imp, needIf]); (repeat' apply And.intro) <;> (first | trivial | rfl | omega | (simp; done) | (simp; omega) | (intros; rfl) | (exact Nat.le_trans (Nat.mul_le_mul_right _ (show _ ≤ 100000000001 by omega)) (by decide)) | (intro hg_; first | exact hg_ | ((try simp only [decide_eq_true_eq] at hg_); (try rw [wi64 (by omega) (by omega)]); (repeat' apply And.intro) <;> (first | trivial | rfl | omega | (intros; rfl)))))))))
            | (refine o_new rfl rfl rfl ⟨(none, _), Nat.le_refl _⟩ ?hc (fun _ _ => ?_); (case hc => (first | (simp only [need, imp, needIf]; done) | ((try simp only [need, imp, needIf]); (repeat' apply And.intro) <;> (first | trivial | rfl | omega | (simp; done) | (simp; omega) | (intros; rfl) | (exact Nat.le_trans (Nat.mul_le_mul_right _ (show _ ≤ 100000000001 by omega)) (by decide)) | (intro hg_; first | exact hg_ | ((try simp only [decide_eq_true_eq] at hg_); (try rw [wi64 (by omega) (by omega)]); (repeat' apply And.intro) <;> (first | trivial | rfl | omega | (intros; rfl)))))))))
            | refine o_put rfl rfl rfl trivial trivial ?_
            | (refine o_put rfl rfl rfl trivial ?hc ?_; (case hc => (first | (simp only [need, imp, needIf]; done) | ((try simp only [need, imp, needIf]); (repeat' apply And.intro) <;> (first | trivial | rfl | omega | (simp; done) | (simp; omega) | (intros; rfl) | (exact Nat.le_trans (Nat.mul_le_mul_right _ (show _ ≤ 100000000001 by omega)) (by decide)) | (intro hg_; first | exact hg_ | ((try simp only [decide_eq_true_eq] at hg_); (try rw [wi64 (by omega) (by omega)]); (repeat' apply And.intro) <;> (first | trivial | rfl | omega | (intros; rfl)))))))))
            | refine o_nil ?_
            | refine d_val rfl rfl trivial trivial ?_
            | (refine d_val rfl rfl trivial ?hc ?_; (case hc => (first | (simp only [need, imp, needIf]; done) | ((try simp only [need, imp, needIf]); (repeat' apply And.intro) <;> (first | trivial | rfl | omega | (simp; done) | (simp; omega) | (intros; rfl) | (exact Nat.le_trans (Nat.mul_le_mul_right _ (show _ ≤ 100000000001 by omega)) (by decide)) | (intro hg_; first | exact hg_ | ((try simp only [decide_eq_true_eq] at hg_); (try rw [wi64 (by omega) (by omega)]); (repeat' apply And.intro) <;> (first | trivial | rfl | omega | (intros; rfl)))))))))
            | refine d_new rfl rfl rfl ⟨0, trivial⟩ trivial (fun _ _ => ?_)
            | (refine d_new rfl rfl rfl ⟨0, trivial⟩ ?hc (fun _ _ => ?_); (case hc => (first | (simp only [need, imp, needIf]; done) | ((try simp only [need, imp, needIf]); (repeat' apply And.intro) <;> (first | trivial | rfl | omega | (simp; done) | (simp; omega) | (intros; rfl) | (exact Nat.le_trans (Nat.mul_le_mul_right _ (show _ ≤ 100000000001 by omega)) (by decide)) | (intro hg_; first | exact hg_ | ((try simp only [decide_eq_true_eq] at hg_); (try rw [wi64 (by omega) (by omega)]); (repeat' apply And.intro) <;> (first | trivial | rfl | omega | (intros; rfl)))))))))
            | (refine d_new rfl rfl rfl ⟨(none, _), Nat.le_refl _⟩ ?hc (fun _ _ => ?_); (case hc => (first | (simp only [need, imp, needIf]; done) | ((try simp only [need, imp, needIf]); (repeat' apply And.intro) <;> (first | trivial | rfl | omega | (simp; done) | (simp; omega) | (intros; rfl) | (exact Nat.le_trans (Nat.mul_le_mul_right _ (show _ ≤ 100000000001 by omega)) (by decide)) | (intro hg_; first | exact hg_ | ((try simp only [decide_eq_true_eq] at hg_); (try rw [wi64 (by omega) (by omega)]); (repeat' apply And.intro) <;> (first | trivial | rfl | omega | (intros; rfl)))))))))
            | refine d_put rfl rfl rfl trivial trivial ?_
            | (refine d_put rfl rfl rfl trivial ?hc ?_; (case hc => (first | (simp only [need, imp, needIf]; done) | ((try simp only [need, imp, needIf]); (repeat' apply And.intro) <;> (first | trivial | rfl | omega | (simp; done) | (simp; omega) | (intros; rfl) | (exact Nat.le_trans (Nat.mul_le_mul_right _ (show _ ≤ 100000000001 by omega)) (by decide)) | (intro hg_; first | exact hg_ | ((try simp only [decide_eq_true_eq] at hg_); (try rw [wi64 (by omega) (by omega)]); (repeat' apply And.intro) <;> (first | trivial | rfl | omega | (intros; rfl)))))))))
            | refine d_nil ?_
            | refine s_skip ?_
            | refine s_block ?_
            | refine s_exit ?_
            | refine s_label ?_)
          refine s_loopW (α := Nat) [6, 61, 62, 63, 64, 65, 66, 67, 68, 69, 70, 71, 72, 73, 74, 75, 76, 77, 78, 79, 80, 81, 82, 83, 84, 85, 86] [] (fun k => k ≤ n ∧ prioR g (totR g n 0 0) n 0 = prioR g (totR g n 0 0) (n - k) k) (fun k => [(6, none, .v (.int .i64 k))]) (fun _ => []) (fun k => n - k) 0 ⟨Nat.zero_le _, rfl⟩ ?_ ?_
          · (refine Le.of ?leT ?leM rfl; (case leT => repeat (first | exact trivial | refine And.intro (by first | exact rfl | (show some (none, AV.v (.int .i64 (IntKind.i64.wrap _))) = _; rw [wi64 (by omega) (by omega)]; rfl)) ?_)); (case leM => repeat (first | exact trivial | refine And.intro ⟨_, rfl, Blk.le_refl _⟩ ?_)))
          · intro k ⟨hk, hz⟩
            repeat (first
              | refine s_seq ?_
              | refine s_region ?_
              | refine o_val rfl rfl trivial trivial ?_
              | (refine o_val rfl rfl trivial ?hc ?_; (case hc => (first | (simp only [need, imp, needIf]; done) | ((try simp only [need, imp, needIf]); (repeat' apply And.intro) <;> (first | trivial | rfl | omega | (simp; done) | (simp; omega) | (intros; rfl) | (exact Nat.le_trans (Nat.mul_le_mul_right _ (show _ ≤ 100000000001 by omega)) (by decide)) | (intro hg_; first | exact hg_ | ((try simp only [decide_eq_true_eq] at hg_); (try rw [wi64 (by omega) (by omega)]); (repeat' apply And.intro) <;> (first | trivial | rfl | omega | (intros; rfl)))))))))
              | refine o_new rfl rfl rfl ⟨0, trivial⟩ trivial (fun _ _ => ?_)
              | (refine o_new rfl rfl rfl ⟨0, trivial⟩ ?hc (fun _ _ => ?_); (case hc => (first | (simp only [need, imp, needIf]; done) | ((try simp only [need, imp, needIf]); (repeat' apply And.intro) <;> (first | trivial | rfl | omega | (simp; done) | (simp; omega) | (intros; rfl) | (exact Nat.le_trans (Nat.mul_le_mul_right _ (show _ ≤ 100000000001 by omega)) (by decide)) | (intro hg_; first | exact hg_ | ((try simp only [decide_eq_true_eq] at hg_); (try rw [wi64 (by omega) (by omega)]); (repeat' apply And.intro) <;> (first | trivial | rfl | omega | (intros; rfl)))))))))
              | (refine o_new rfl rfl rfl ⟨(none, _), Nat.le_refl _⟩ ?hc (fun _ _ => ?_); (case hc => (first | (simp only [need, imp, needIf]; done) | ((try simp only [need, imp, needIf]); (repeat' apply And.intro) <;> (first | trivial | rfl | omega | (simp; done) | (simp; omega) | (intros; rfl) | (exact Nat.le_trans (Nat.mul_le_mul_right _ (show _ ≤ 100000000001 by omega)) (by decide)) | (intro hg_; first | exact hg_ | ((try simp only [decide_eq_true_eq] at hg_); (try rw [wi64 (by omega) (by omega)]); (repeat' apply And.intro) <;> (first | trivial | rfl | omega | (intros; rfl)))))))))
              | refine o_put rfl rfl rfl trivial trivial ?_
              | (refine o_put rfl rfl rfl trivial ?hc ?_; (case hc => (first | (simp only [need, imp, needIf]; done) | ((try simp only [need, imp, needIf]); (repeat' apply And.intro) <;> (first | trivial | rfl | omega | (simp; done) | (simp; omega) | (intros; rfl) | (exact Nat.le_trans (Nat.mul_le_mul_right _ (show _ ≤ 100000000001 by omega)) (by decide)) | (intro hg_; first | exact hg_ | ((try simp only [decide_eq_true_eq] at hg_); (try rw [wi64 (by omega) (by omega)]); (repeat' apply And.intro) <;> (first | trivial | rfl | omega | (intros; rfl)))))))))
              | refine o_nil ?_
              | refine d_val rfl rfl trivial trivial ?_
              | (refine d_val rfl rfl trivial ?hc ?_; (case hc => (first | (simp only [need, imp, needIf]; done) | ((try simp only [need, imp, needIf]); (repeat' apply And.intro) <;> (first | trivial | rfl | omega | (simp; done) | (simp; omega) | (intros; rfl) | (exact Nat.le_trans (Nat.mul_le_mul_right _ (show _ ≤ 100000000001 by omega)) (by decide)) | (intro hg_; first | exact hg_ | ((try simp only [decide_eq_true_eq] at hg_); (try rw [wi64 (by omega) (by omega)]); (repeat' apply And.intro) <;> (first | trivial | rfl | omega | (intros; rfl)))))))))
              | refine d_new rfl rfl rfl ⟨0, trivial⟩ trivial (fun _ _ => ?_)
              | (refine d_new rfl rfl rfl ⟨0, trivial⟩ ?hc (fun _ _ => ?_); (case hc => (first | (simp only [need, imp, needIf]; done) | ((try simp only [need, imp, needIf]); (repeat' apply And.intro) <;> (first | trivial | rfl | omega | (simp; done) | (simp; omega) | (intros; rfl) | (exact Nat.le_trans (Nat.mul_le_mul_right _ (show _ ≤ 100000000001 by omega)) (by decide)) | (intro hg_; first | exact hg_ | ((try simp only [decide_eq_true_eq] at hg_); (try rw [wi64 (by omega) (by omega)]); (repeat' apply And.intro) <;> (first | trivial | rfl | omega | (intros; rfl)))))))))
              | (refine d_new rfl rfl rfl ⟨(none, _), Nat.le_refl _⟩ ?hc (fun _ _ => ?_); (case hc => (first | (simp only [need, imp, needIf]; done) | ((try simp only [need, imp, needIf]); (repeat' apply And.intro) <;> (first | trivial | rfl | omega | (simp; done) | (simp; omega) | (intros; rfl) | (exact Nat.le_trans (Nat.mul_le_mul_right _ (show _ ≤ 100000000001 by omega)) (by decide)) | (intro hg_; first | exact hg_ | ((try simp only [decide_eq_true_eq] at hg_); (try rw [wi64 (by omega) (by omega)]); (repeat' apply And.intro) <;> (first | trivial | rfl | omega | (intros; rfl)))))))))
              | refine d_put rfl rfl rfl trivial trivial ?_
              | (refine d_put rfl rfl rfl trivial ?hc ?_; (case hc => (first | (simp only [need, imp, needIf]; done) | ((try simp only [need, imp, needIf]); (repeat' apply And.intro) <;> (first | trivial | rfl | omega | (simp; done) | (simp; omega) | (intros; rfl) | (exact Nat.le_trans (Nat.mul_le_mul_right _ (show _ ≤ 100000000001 by omega)) (by decide)) | (intro hg_; first | exact hg_ | ((try simp only [decide_eq_true_eq] at hg_); (try rw [wi64 (by omega) (by omega)]); (repeat' apply And.intro) <;> (first | trivial | rfl | omega | (intros; rfl)))))))))
              | refine d_nil ?_
              | refine s_skip ?_
              | refine s_block ?_
              | refine s_exit ?_
              | refine s_label ?_)
            refine s_cond (b := decide ((k : Int) < n)) rfl (fun hb => ?_) (fun hb => ?_)
            · have hlt : k < n := by simpa using hb
              have hs : n - k = (n - (k + 1)) + 1 := by omega
              rw [hs, prioR] at hz
              repeat (first
                | refine s_seq ?_
                | refine s_region ?_
                | refine o_val rfl rfl trivial trivial ?_
                | (refine o_val rfl rfl trivial ?hc ?_; (case hc => (first | (simp only [need, imp, needIf]; done) | ((try simp only [need, imp, needIf]); (repeat' apply And.intro) <;> (first | trivial | rfl | omega | (simp; done) | (simp; omega) | (intros; rfl) | (exact Nat.le_trans (Nat.mul_le_mul_right _ (show _ ≤ 100000000001 by omega)) (by decide)) | (intro hg_; first | exact hg_ | ((try simp only [decide_eq_true_eq] at hg_); (try rw [wi64 (by omega) (by omega)]); (repeat' apply And.intro) <;> (first | trivial | rfl | omega | (intros; rfl)))))))))
                | refine o_new rfl rfl rfl ⟨0, trivial⟩ trivial (fun _ _ => ?_)
                | (refine o_new rfl rfl rfl ⟨0, trivial⟩ ?hc (fun _ _ => ?_); (case hc => (first | (simp only [need, imp, needIf]; done) | ((try simp only [need, imp, needIf]); (repeat' apply And.intro) <;> (first | trivial | rfl | omega | (simp; done) | (simp; omega) | (intros; rfl) | (exact Nat.le_trans (Nat.mul_le_mul_right _ (show _ ≤ 100000000001 by omega)) (by decide)) | (intro hg_; first | exact hg_ | ((try simp only [decide_eq_true_eq] at hg_); (try rw [wi64 (by omega) (by omega)]); (repeat' apply And.intro) <;> (first | trivial | rfl | omega | (intros; rfl)))))))))
                | (refine o_new rfl rfl rfl ⟨(none, _), Nat.le_refl _⟩ ?hc (fun _ _ => ?_); (case hc => (first | (simp only [need, imp, needIf]; done) | ((try simp only [need, imp, needIf]); (repeat' apply And.intro) <;> (first | trivial | rfl | omega | (simp; done) | (simp; omega) | (intros; rfl) | (exact Nat.le_trans (Nat.mul_le_mul_right _ (show _ ≤ 100000000001 by omega)) (by decide)) | (intro hg_; first | exact hg_ | ((try simp only [decide_eq_true_eq] at hg_); (try rw [wi64 (by omega) (by omega)]); (repeat' apply And.intro) <;> (first | trivial | rfl | omega | (intros; rfl)))))))))
                | refine o_put rfl rfl rfl trivial trivial ?_
                | (refine o_put rfl rfl rfl trivial ?hc ?_; (case hc => (first | (simp only [need, imp, needIf]; done) | ((try simp only [need, imp, needIf]); (repeat' apply And.intro) <;> (first | trivial | rfl | omega | (simp; done) | (simp; omega) | (intros; rfl) | (exact Nat.le_trans (Nat.mul_le_mul_right _ (show _ ≤ 100000000001 by omega)) (by decide)) | (intro hg_; first | exact hg_ | ((try simp only [decide_eq_true_eq] at hg_); (try rw [wi64 (by omega) (by omega)]); (repeat' apply And.intro) <;> (first | trivial | rfl | omega | (intros; rfl)))))))))
                | refine o_nil ?_
                | refine d_val rfl rfl trivial trivial ?_
                | (refine d_val rfl rfl trivial ?hc ?_; (case hc => (first | (simp only [need, imp, needIf]; done) | ((try simp only [need, imp, needIf]); (repeat' apply And.intro) <;> (first | trivial | rfl | omega | (simp; done) | (simp; omega) | (intros; rfl) | (exact Nat.le_trans (Nat.mul_le_mul_right _ (show _ ≤ 100000000001 by omega)) (by decide)) | (intro hg_; first | exact hg_ | ((try simp only [decide_eq_true_eq] at hg_); (try rw [wi64 (by omega) (by omega)]); (repeat' apply And.intro) <;> (first | trivial | rfl | omega | (intros; rfl)))))))))
                | refine d_new rfl rfl rfl ⟨0, trivial⟩ trivial (fun _ _ => ?_)
                | (refine d_new rfl rfl rfl ⟨0, trivial⟩ ?hc (fun _ _ => ?_); (case hc => (first | (simp only [need, imp, needIf]; done) | ((try simp only [need, imp, needIf]); (repeat' apply And.intro) <;> (first | trivial | rfl | omega | (simp; done) | (simp; omega) | (intros; rfl) | (exact Nat.le_trans (Nat.mul_le_mul_right _ (show _ ≤ 100000000001 by omega)) (by decide)) | (intro hg_; first | exact hg_ | ((try simp only [decide_eq_true_eq] at hg_); (try rw [wi64 (by omega) (by omega)]); (repeat' apply And.intro) <;> (first | trivial | rfl | omega | (intros; rfl)))))))))
                | (refine d_new rfl rfl rfl ⟨(none, _), Nat.le_refl _⟩ ?hc (fun _ _ => ?_); (case hc => (first | (simp only [need, imp, needIf]; done) | ((try simp only [need, imp, needIf]); (repeat' apply And.intro) <;> (first | trivial | rfl | omega | (simp; done) | (simp; omega) | (intros; rfl) | (exact Nat.le_trans (Nat.mul_le_mul_right _ (show _ ≤ 100000000001 by omega)) (by decide)) | (intro hg_; first | exact hg_ | ((try simp only [decide_eq_true_eq] at hg_); (try rw [wi64 (by omega) (by omega)]); (repeat' apply And.intro) <;> (first | trivial | rfl | omega | (intros; rfl)))))))))
                | refine d_put rfl rfl rfl trivial trivial ?_
                | (refine d_put rfl rfl rfl trivial ?hc ?_; (case hc => (first | (simp only [need, imp, needIf]; done) | ((try simp only [need, imp, needIf]); (repeat' apply And.intro) <;> (first | trivial | rfl | omega | (simp; done) | (simp; omega) | (intros; rfl) | (exact Nat.le_trans (Nat.mul_le_mul_right _ (show _ ≤ 100000000001 by omega)) (by decide)) | (intro hg_; first | exact hg_ | ((try simp only [decide_eq_true_eq] at hg_); (try rw [wi64 (by omega) (by omega)]); (repeat' apply And.intro) <;> (first | trivial | rfl | omega | (intros; rfl)))))))))
                | refine d_nil ?_
                | refine s_skip ?_
                | refine s_block ?_
                | refine s_exit ?_
                | refine s_label ?_)
              refine s_cond (b := prioBadR (totR g n 0 0) (g k)) rfl (fun h7 => ?_) (fun h7 => ?_)
              · repeat (first
                  | refine s_seq ?_
                  | refine s_region ?_
                  | refine o_val rfl rfl trivial trivial ?_
                  | (refine o_val rfl rfl trivial ?hc ?_; (case hc => (first | (simp only [need, imp, needIf]; done) | ((try simp only [need, imp, needIf]); (repeat' apply And.intro) <;> (first | trivial | rfl | omega | (simp; done) | (simp; omega) | (intros; rfl) | (exact Nat.le_trans (Nat.mul_le_mul_right _ (show _ ≤ 100000000001 by omega)) (by decide)) | (intro hg_; first | exact hg_ | ((try simp only [decide_eq_true_eq] at hg_); (try rw [wi64 (by omega) (by omega)]); (repeat' apply And.intro) <;> (first | trivial | rfl | omega | (intros; rfl)))))))))
                  | refine o_new rfl rfl rfl ⟨0, trivial⟩ trivial (fun _ _ => ?_)
                  | (refine o_new rfl rfl rfl ⟨0, trivial⟩ ?hc (fun _ _ => ?_); (case hc => (first | (simp only [need, imp, needIf]; done) | ((try simp only [need, imp, needIf]); (repeat' apply And.intro) <;> (first | trivial | rfl | omega | (simp; done) | (simp; omega) | (intros; rfl) | (exact Nat.le_trans (Nat.mul_le_mul_right _ (show _ ≤ 100000000001 by omega)) (by decide)) | (intro hg_; first | exact hg_ | ((try simp only [decide_eq_true_eq] at hg_); (try rw [wi64 (by omega) (by omega)]); (repeat' apply And.intro) <;> (first | trivial | rfl | omega | (intros; rfl)))))))))
                  | (refine o_new rfl rfl rfl ⟨(none, _), Nat.le_refl _⟩ ?hc (fun _ _ => ?_); (case hc => (first | (simp only [need, imp, needIf]; done) | ((try simp only [need, imp, needIf]); (repeat' apply And.intro) <;> (first | trivial | rfl | omega | (simp; done) | (simp; omega) | (intros; rfl) | (exact Nat.le_trans (Nat.mul_le_mul_right _ (show _ ≤ 100000000001 by omega)) (by decide)) | (intro hg_; first | exact hg_ | ((try simp only [decide_eq_true_eq] at hg_); (try rw [wi64 (by omega) (by omega)]); (repeat' apply And.intro) <;> (first | trivial | rfl | omega | (intros; rfl)))))))))
                  | refine o_put rfl rfl rfl trivial trivial ?_
                  | (refine o_put rfl rfl rfl trivial ?hc ?_; (case hc => (first | (simp only [need, imp, needIf]; done) | ((try simp only [need, imp, needIf]); (repeat' apply And.intro) <;> (first | trivial | rfl | omega | (simp; done) | (simp; omega) | (intros; rfl) | (exact Nat.le_trans (Nat.mul_le_mul_right _ (show _ ≤ 100000000001 by omega)) (by decide)) | (intro hg_; first | exact hg_ | ((try simp only [decide_eq_true_eq] at hg_); (try rw [wi64 (by omega) (by omega)]); (repeat' apply And.intro) <;> (first | trivial | rfl | omega | (intros; rfl)))))))))
                  | refine o_nil ?_
                  | refine d_val rfl rfl trivial trivial ?_
                  | (refine d_val rfl rfl trivial ?hc ?_; (case hc => (first | (simp only [need, imp, needIf]; done) | ((try simp only [need, imp, needIf]); (repeat' apply And.intro) <;> (first | trivial | rfl | omega | (simp; done) | (simp; omega) | (intros; rfl) | (exact Nat.le_trans (Nat.mul_le_mul_right _ (show _ ≤ 100000000001 by omega)) (by decide)) | (intro hg_; first | exact hg_ | ((try simp only [decide_eq_true_eq] at hg_); (try rw [wi64 (by omega) (by omega)]); (repeat' apply And.intro) <;> (first | trivial | rfl | omega | (intros; rfl)))))))))
                  | refine d_new rfl rfl rfl ⟨0, trivial⟩ trivial (fun _ _ => ?_)
                  | (refine d_new rfl rfl rfl ⟨0, trivial⟩ ?hc (fun _ _ => ?_); (case hc => (first | (simp only [need, imp, needIf]; done) | ((try simp only [need, imp, needIf]); (repeat' apply And.intro) <;> (first | trivial | rfl | omega | (simp; done) | (simp; omega) | (intros; rfl) | (exact Nat.le_trans (Nat.mul_le_mul_right _ (show _ ≤ 100000000001 by omega)) (by decide)) | (intro hg_; first | exact hg_ | ((try simp only [decide_eq_true_eq] at hg_); (try rw [wi64 (by omega) (by omega)]); (repeat' apply And.intro) <;> (first | trivial | rfl | omega | (intros; rfl)))))))))
                  | (refine d_new rfl rfl rfl ⟨(none, _), Nat.le_refl _⟩ ?hc (fun _ _ => ?_); (case hc => (first | (simp only [need, imp, needIf]; done) | ((try simp only [need, imp, needIf]); (repeat' apply And.intro) <;> (first | trivial | rfl | omega | (simp; done) | (simp; omega) | (intros; rfl) | (exact Nat.le_trans (Nat.mul_le_mul_right _ (show _ ≤ 100000000001 by omega)) (by decide)) | (intro hg_; first | exact hg_ | ((try simp only [decide_eq_true_eq] at hg_); (try rw [wi64 (by omega) (by omega)]); (repeat' apply And.intro) <;> (first | trivial | rfl | omega | (intros; rfl)))))))))
                  | refine d_put rfl rfl rfl trivial trivial ?_
                  | (refine d_put rfl rfl rfl trivial ?hc ?_; (case hc => (first | (simp only [need, imp, needIf]; done) | ((try simp only [need, imp, needIf]); (repeat' apply And.intro) <;> (first | trivial | rfl | omega | (simp; done) | (simp; omega) | (intros; rfl) | (exact Nat.le_trans (Nat.mul_le_mul_right _ (show _ ≤ 100000000001 by omega)) (by decide)) | (intro hg_; first | exact hg_ | ((try simp only [decide_eq_true_eq] at hg_); (try rw [wi64 (by omega) (by omega)]); (repeat' apply And.intro) <;> (first | trivial | rfl | omega | (intros; rfl)))))))))
                  | refine d_nil ?_
                  | refine s_skip ?_
                  | refine s_block ?_
                  | refine s_exit ?_
                  | refine s_label ?_)
                refine s_ret ?_
                exact ⟨_, _, rfl, ⟨trivial, trivial⟩, rfl, by rw [if_pos h7] at hz; rw [fin2, hz]; rfl⟩
              rw [if_neg (by rw [h7]; decide)] at hz
              repeat (first
                | refine s_seq ?_
                | refine s_region ?_
                | refine o_val rfl rfl trivial trivial ?_
                | (refine o_val rfl rfl trivial ?hc ?_; (case hc => (first | (simp only [need, imp, needIf]; done) | ((try simp only [need, imp, needIf]); (repeat' apply And.intro) <;> (first | trivial | rfl | omega | (simp; done) | (simp; omega) | (intros; rfl) | (exact Nat.le_trans (Nat.mul_le_mul_right _ (show _ ≤ 100000000001 by omega)) (by decide)) | (intro hg_; first | exact hg_ | ((try simp only [decide_eq_true_eq] at hg_); (try rw [wi64 (by omega) (by omega)]); (repeat' apply And.intro) <;> (first | trivial | rfl | omega | (intros; rfl)))))))))
                | refine o_new rfl rfl rfl ⟨0, trivial⟩ trivial (fun _ _ => ?_)
                | (refine o_new rfl rfl rfl ⟨0, trivial⟩ ?hc (fun _ _ => ?_); (case hc => (first | (simp only [need, imp, needIf]; done) | ((try simp only [need, imp, needIf]); (repeat' apply And.intro) <;> (first | trivial | rfl | omega | (simp; done) | (simp; omega) | (intros; rfl) | (exact Nat.le_trans (Nat.mul_le_mul_right _ (show _ ≤ 100000000001 by omega)) (by decide)) | (intro hg_; first | exact hg_ | ((try simp only [decide_eq_true_eq] at hg_); (try rw [wi64 (by omega) (by omega)]); (repeat' apply And.intro) <;> (first | trivial | rfl | omega | (intros; rfl)))))))))
                | (refine o_new rfl rfl rfl ⟨(none, _), Nat.le_refl _⟩ ?hc (fun _ _ => ?_); (case hc => (first | (simp only [need, imp, needIf]; done) | ((try simp only [need, imp, needIf]); (repeat' apply And.intro) <;> (first | trivial | rfl | omega | (simp; done) | (simp; omega) | (intros; rfl) | (exact Nat.le_trans (Nat.mul_le_mul_right _ (show _ ≤ 100000000001 by omega)) (by decide)) | (intro hg_; first | exact hg_ | ((try simp only [decide_eq_true_eq] at hg_); (try rw [wi64 (by omega) (by omega)]); (repeat' apply And.intro) <;> (first | trivial | rfl | omega | (intros; rfl)))))))))
                | refine o_put rfl rfl rfl trivial trivial ?_
                | (refine o_put rfl rfl rfl trivial ?hc ?_; (case hc => (first | (simp only [need, imp, needIf]; done) | ((try simp only [need, imp, needIf]); (repeat' apply And.intro) <;> (first | trivial | rfl | omega | (simp; done) | (simp; omega) | (intros; rfl) | (exact Nat.le_trans (Nat.mul_le_mul_right _ (show _ ≤ 100000000001 by omega)) (by decide)) | (intro hg_; first | exact hg_ | ((try simp only [decide_eq_true_eq] at hg_); (try rw [wi64 (by omega) (by omega)]); (repeat' apply And.intro) <;> (first | trivial | rfl | omega | (intros; rfl)))))))))
                | refine o_nil ?_
                | refine d_val rfl rfl trivial trivial ?_
                | (refine d_val rfl rfl trivial ?hc ?_; (case hc => (first | (simp only [need, imp, needIf]; done) | ((try simp only [need, imp, needIf]); (repeat' apply And.intro) <;> (first | trivial | rfl | omega | (simp; done) | (simp; omega) | (intros; rfl) | (exact Nat.le_trans (Nat.mul_le_mul_right _ (show _ ≤ 100000000001 by omega)) (by decide)) | (intro hg_; first | exact hg_ | ((try simp only [decide_eq_true_eq] at hg_); (try rw [wi64 (by omega) (by omega)]); (repeat' apply And.intro) <;> (first | trivial | rfl | omega | (intros; rfl)))))))))
                | refine d_new rfl rfl rfl ⟨0, trivial⟩ trivial (fun _ _ => ?_)
                | (refine d_new rfl rfl rfl ⟨0, trivial⟩ ?hc (fun _ _ => ?_); (case hc => (first | (simp only [need, imp, needIf]; done) | ((try simp only [need, imp, needIf]); (repeat' apply And.intro) <;> (first | trivial | rfl | omega | (simp; done) | (simp; omega) | (intros; rfl) | (exact Nat.le_trans (Nat.mul_le_mul_right _ (show _ ≤ 100000000001 by omega)) (by decide)) | (intro hg_; first | exact hg_ | ((try simp only [decide_eq_true_eq] at hg_); (try rw [wi64 (by omega) (by omega)]); (repeat' apply And.intro) <;> (first | trivial | rfl | omega | (intros; rfl)))))))))
                | (refine d_new rfl rfl rfl ⟨(none, _), Nat.le_refl _⟩ ?hc (fun _ _ => ?_); (case hc => (first | (simp only [need, imp, needIf]; done) | ((try simp only [need, imp, needIf]); (repeat' apply And.intro) <;> (first | trivial | rfl | omega | (simp; done) | (simp; omega) | (intros; rfl) | (exact Nat.le_trans (Nat.mul_le_mul_right _ (show _ ≤ 100000000001 by omega)) (by decide)) | (intro hg_; first | exact hg_ | ((try simp only [decide_eq_true_eq] at hg_); (try rw [wi64 (by omega) (by omega)]); (repeat' apply And.intro) <;> (first | trivial | rfl | omega | (intros; rfl)))))))))
                | refine d_put rfl rfl rfl trivial trivial ?_
                | (refine d_put rfl rfl rfl trivial ?hc ?_; (case hc => (first | (simp only [need, imp, needIf]; done) | ((try simp only [need, imp, needIf]); (repeat' apply And.intro) <;> (first | trivial | rfl | omega | (simp; done) | (simp; omega) | (intros; rfl) | (exact Nat.le_trans (Nat.mul_le_mul_right _ (show _ ≤ 100000000001 by omega)) (by decide)) | (intro hg_; first | exact hg_ | ((try simp only [decide_eq_true_eq] at hg_); (try rw [wi64 (by omega) (by omega)]); (repeat' apply And.intro) <;> (first | trivial | rfl | omega | (intros; rfl)))))))))
                | refine d_nil ?_
                | refine s_skip ?_
                | refine s_block ?_
                | refine s_exit ?_
                | refine s_label ?_)
              refine ⟨k + 1, ⟨by omega, hz⟩, by omega, ?_⟩
              (refine Le.of ?leT ?leM rfl; (case leT => repeat (first | exact trivial | refine And.intro (by first | exact rfl | (show some (none, AV.v (.int .i64 (IntKind.i64.wrap _))) = _; rw [wi64 (by omega) (by omega)]; rfl)) ?_)); (case leM => repeat (first | exact trivial | refine And.intro ⟨_, rfl, Blk.le_refl _⟩ ?_)))
            · have hge : k = n := by simp at hb; omega
              repeat (first
                | refine s_seq ?_
                | refine s_region ?_
                | refine o_val rfl rfl trivial trivial ?_
                | (refine o_val rfl rfl trivial ?hc ?_; (case hc => (first | (simp only [need, imp, needIf]; done) | ((try simp only [need, imp, needIf]); (repeat' apply And.intro) <;> (first | trivial | rfl | omega | (simp; done) | (simp; omega) | (intros; rfl) | (exact Nat.le_trans (Nat.mul_le_mul_right _ (show _ ≤ 100000000001 by omega)) (by decide)) | (intro hg_; first | exact hg_ | ((try simp only [decide_eq_true_eq] at hg_); (try rw [wi64 (by omega) (by omega)]); (repeat' apply And.intro) <;> (first | trivial | rfl | omega | (intros; rfl)))))))))
                | refine o_new rfl rfl rfl ⟨0, trivial⟩ trivial (fun _ _ => ?_)
                | (refine o_new rfl rfl rfl ⟨0, trivial⟩ ?hc (fun _ _ => ?_); (case hc => (first | (simp only [need, imp, needIf]; done) | ((try simp only [need, imp, needIf]); (repeat' apply And.intro) <;> (first | trivial | rfl | omega | (simp; done) | (simp; omega) | (intros; rfl) | (exact Nat.le_trans (Nat.mul_le_mul_right _ (show _ ≤ 100000000001 by omega)) (by decide)) | (intro hg_; first | exact hg_ | ((try simp only [decide_eq_true_eq] at hg_); (try rw [wi64 (by omega) (by omega)]); (repeat' apply And.intro) <;> (first | trivial | rfl | omega | (intros; rfl)))))))))
                | (refine o_new rfl rfl rfl ⟨(none, _), Nat.le_refl _⟩ ?hc (fun _ _ => ?_); (case hc => (first | (simp only [need, imp, needIf]; done) | ((try simp only [need, imp, needIf]); (repeat' apply And.intro) <;> (first | trivial | rfl | omega | (simp; done) | (simp; omega) | (intros; rfl) | (exact Nat.le_trans (Nat.mul_le_mul_right _ (show _ ≤ 100000000001 by omega)) (by decide)) | (intro hg_; first | exact hg_ | ((try simp only [decide_eq_true_eq] at hg_); (try rw [wi64 (by omega) (by omega)]); (repeat' apply And.intro) <;> (first | trivial | rfl | omega | (intros; rfl)))))))))
                | refine o_put rfl rfl rfl trivial trivial ?_
                | (refine o_put rfl rfl rfl trivial ?hc ?_; (case hc => (first | (simp only [need, imp, needIf]; done) | ((try simp only [need, imp, needIf]); (repeat' apply And.intro) <;> (first | trivial | rfl | omega | (simp; done) | (simp; omega) | (intros; rfl) | (exact Nat.le_trans (Nat.mul_le_mul_right _ (show _ ≤ 100000000001 by omega)) (by decide)) | (intro hg_; first | exact hg_ | ((try simp only [decide_eq_true_eq] at hg_); (try rw [wi64 (by omega) (by omega)]); (repeat' apply And.intro) <;> (first | trivial | rfl | omega | (intros; rfl)))))))))
                | refine o_nil ?_
                | refine d_val rfl rfl trivial trivial ?_
                | (refine d_val rfl rfl trivial ?hc ?_; (case hc => (first | (simp only [need, imp, needIf]; done) | ((try simp only [need, imp, needIf]); (repeat' apply And.intro) <;> (first | trivial | rfl | omega | (simp; done) | (simp; omega) | (intros; rfl) | (exact Nat.le_trans (Nat.mul_le_mul_right _ (show _ ≤ 100000000001 by omega)) (by decide)) | (intro hg_; first | exact hg_ | ((try simp only [decide_eq_true_eq] at hg_); (try rw [wi64 (by omega) (by omega)]); (repeat' apply And.intro) <;> (first | trivial | rfl | omega | (intros; rfl)))))))))
                | refine d_new rfl rfl rfl ⟨0, trivial⟩ trivial (fun _ _ => ?_)
                | (refine d_new rfl rfl rfl ⟨0, trivial⟩ ?hc (fun _ _ => ?_); (case hc => (first | (simp only [need, imp, needIf]; done) | ((try simp only [need, imp, needIf]); (repeat' apply And.intro) <;> (first | trivial | rfl | omega | (simp; done) | (simp; omega) | (intros; rfl) | (exact Nat.le_trans (Nat.mul_le_mul_right _ (show _ ≤ 100000000001 by omega)) (by decide)) | (intro hg_; first | exact hg_ | ((try simp only [decide_eq_true_eq] at hg_); (try rw [wi64 (by omega) (by omega)]); (repeat' apply And.intro) <;> (first | trivial | rfl | omega | (intros; rfl)))))))))
                | (refine d_new rfl rfl rfl ⟨(none, _), Nat.le_refl _⟩ ?hc (fun _ _ => ?_); (case hc => (first | (simp only [need, imp, needIf]; done) | ((try simp only [need, imp, needIf]); (repeat' apply And.intro) <;> (first | trivial | rfl | omega | (simp; done) | (simp; omega) | (intros; rfl) | (exact Nat.le_trans (Nat.mul_le_mul_right _ (show _ ≤ 100000000001 by omega)) (by decide)) | (intro hg_; first | exact hg_ | ((try simp only [decide_eq_true_eq] at hg_); (try rw [wi64 (by omega) (by omega)]); (repeat' apply And.intro) <;> (first | trivial | rfl | omega | (intros; rfl)))))))))
                | refine d_put rfl rfl rfl trivial trivial ?_
                | (refine d_put rfl rfl rfl trivial ?hc ?_; (case hc => (first | (simp only [need, imp, needIf]; done) | ((try simp only [need, imp, needIf]); (repeat' apply And.intro) <;> (first | trivial | rfl | omega | (simp; done) | (simp; omega) | (intros; rfl) | (exact Nat.le_trans (Nat.mul_le_mul_right _ (show _ ≤ 100000000001 by omega)) (by decide)) | (intro hg_; first | exact hg_ | ((try simp only [decide_eq_true_eq] at hg_); (try rw [wi64 (by omega) (by omega)]); (repeat' apply And.intro) <;> (first | trivial | rfl | omega | (intros; rfl)))))))))
                | refine d_nil ?_
                | refine s_skip ?_
                | refine s_block ?_
                | refine s_exit ?_
                | refine s_label ?_)
              refine s_ret ?_
              exact ⟨_, _, rfl, ⟨trivial, trivial⟩, rfl, by rw [fin2, hz, hge, Nat.sub_self]; rfl⟩
    · cases h
  · cases h
theorem SoundR_body : HasBody Try.prog 27 := ⟨_, Try.func27, rfl, by decide⟩
end Go.Proofs.Ytofophjfgalhaaa.V
