import Derived.Test.YtofophjfgalhaaaVL7
/-! The law BlamePowers, walked. -/
namespace Go.Proofs.Ytofophjfgalhaaa.V
open Go Go.RowKit

def ctL : CtL := [(14, PowerC), (15, PowerRC), (16, sameC), (17, untouchedC)]
theorem ctL_ok : CtLOk Try.prog ctL := ⟨.fn Power_body Power_read, .fn PowerR_body PowerR_read, .fn same_body same_read, .fn untouched_body untouched_read, trivial⟩
def crL : CrL := [(13, copiedC)]
theorem crL_ok : CrLOk Try.prog crL := ⟨⟨copied_body, copied_turn⟩, trivial⟩
def k0 : Nat → Mk := fun _ => mkOf .nil
def v0 : Nat → Vote := fun _ => (decV .nil).getD zeroV

set_option maxRecDepth 100000 in
set_option maxHeartbeats 4000000 in
theorem law_calls {w : World} {g : Nat → Mb} {h : Nat → Gt} {n m : Nat} (hn : n < 10000000000) (hm : m < 10000000000) {base base' : Option (Nat × Nat)} {cap cap' : Nat} (hro : (roB base 3 n fun i => encMb (g i)).holds w) (hro' : (roB base' 108 m fun i => encG (h i)).holds w)
    (hg : ∀ i, i < n → okMb (g i)) :
    Calls Try.prog 7 ([AV.agg (.cons (roS 900 base 3 n cap) .nil), roS 901 base' 108 m cap'].map AV.val).toArray w fun e w' => e = .returned (.bool true) ∧ Below w.heap.size w w' := by
  refine ro_fn tabs ctL_ok crL_ok Try.func7 rfl rfl (res := .v (.bool true)) (M := [(900, roB base 3 n fun i => encMb (g i)), (901, roB base' 108 m fun i => encG (h i))]) rfl ⟨roB_noOwn, roB_noOwn, trivial⟩ ⟨hro, hro', trivial⟩ ?_
  repeat (first
    | refine s_seq ?_
    | refine s_region ?_
    | refine o_val rfl rfl trivial trivial ?_
    | (refine o_val rfl rfl trivial ?hc ?_; (case hc => (first | (simp only [need, imp, needIf]; done) | ((try simp only [need, imp, needIf, cutOff]); (repeat' apply And.intro) <;> (first | trivial | rfl | omega | (simp; done) | (simp; omega) | (intros; rfl) | (intros; trivial) | (exact Nat.le_trans (Nat.mul_le_mul_right _ (show _ ≤ 100000000001 by omega)) (by decide)) | (intro hg_; first | exact hg_ | ((try simp only [decide_eq_true_eq] at hg_); (try rw [wi64 (by omega) (by omega)]); (repeat' apply And.intro) <;> (first | trivial | rfl | omega | (intros; rfl) | (intros; trivial)))))))))
    | refine o_new rfl rfl rfl ⟨0, trivial⟩ trivial (fun _ _ => ?_)
    | (refine o_new rfl rfl rfl ⟨0, trivial⟩ ?hc (fun _ _ => ?_); (case hc => (first | (simp only [need, imp, needIf]; done) | ((try simp only [need, imp, needIf, cutOff]); (repeat' apply And.intro) <;> (first | trivial | rfl | omega | (simp; done) | (simp; omega) | (intros; rfl) | (intros; trivial) | (exact Nat.le_trans (Nat.mul_le_mul_right _ (show _ ≤ 100000000001 by omega)) (by decide)) | (intro hg_; first | exact hg_ | ((try simp only [decide_eq_true_eq] at hg_); (try rw [wi64 (by omega) (by omega)]); (repeat' apply And.intro) <;> (first | trivial | rfl | omega | (intros; rfl) | (intros; trivial)))))))))
    | (refine o_new rfl rfl rfl ⟨(none, _), Nat.le_refl _⟩ ?hc (fun _ _ => ?_); (case hc => (first | (simp only [need, imp, needIf]; done) | ((try simp only [need, imp, needIf, cutOff]); (repeat' apply And.intro) <;> (first | trivial | rfl | omega | (simp; done) | (simp; omega) | (intros; rfl) | (intros; trivial) | (exact Nat.le_trans (Nat.mul_le_mul_right _ (show _ ≤ 100000000001 by omega)) (by decide)) | (intro hg_; first | exact hg_ | ((try simp only [decide_eq_true_eq] at hg_); (try rw [wi64 (by omega) (by omega)]); (repeat' apply And.intro) <;> (first | trivial | rfl | omega | (intros; rfl) | (intros; trivial)))))))))
    | refine o_put rfl rfl rfl trivial trivial ?_
    | (refine o_put rfl rfl rfl trivial ?hc ?_; (case hc => (first | (simp only [need, imp, needIf]; done) | ((try simp only [need, imp, needIf, cutOff]); (repeat' apply And.intro) <;> (first | trivial | rfl | omega | (simp; done) | (simp; omega) | (intros; rfl) | (intros; trivial) | (exact Nat.le_trans (Nat.mul_le_mul_right _ (show _ ≤ 100000000001 by omega)) (by decide)) | (intro hg_; first | exact hg_ | ((try simp only [decide_eq_true_eq] at hg_); (try rw [wi64 (by omega) (by omega)]); (repeat' apply And.intro) <;> (first | trivial | rfl | omega | (intros; rfl) | (intros; trivial)))))))))
    | refine o_nil ?_
    | refine d_val rfl rfl trivial trivial ?_
    | (refine d_val rfl rfl trivial ?hc ?_; (case hc => (first | (simp only [need, imp, needIf]; done) | ((try simp only [need, imp, needIf, cutOff]); (repeat' apply And.intro) <;> (first | trivial | rfl | omega | (simp; done) | (simp; omega) | (intros; rfl) | (intros; trivial) | (exact Nat.le_trans (Nat.mul_le_mul_right _ (show _ ≤ 100000000001 by omega)) (by decide)) | (intro hg_; first | exact hg_ | ((try simp only [decide_eq_true_eq] at hg_); (try rw [wi64 (by omega) (by omega)]); (repeat' apply And.intro) <;> (first | trivial | rfl | omega | (intros; rfl) | (intros; trivial)))))))))
    | refine d_new rfl rfl rfl ⟨0, trivial⟩ trivial (fun _ _ => ?_)
    | (refine d_new rfl rfl rfl ⟨0, trivial⟩ ?hc (fun _ _ => ?_); (case hc => (first | (simp only [need, imp, needIf]; done) | ((try simp only [need, imp, needIf, cutOff]); (repeat' apply And.intro) <;> (first | trivial | rfl | omega | (simp; done) | (simp; omega) | (intros; rfl) | (intros; trivial) | (exact Nat.le_trans (Nat.mul_le_mul_right _ (show _ ≤ 100000000001 by omega)) (by decide)) | (intro hg_; first | exact hg_ | ((try simp only [decide_eq_true_eq] at hg_); (try rw [wi64 (by omega) (by omega)]); (repeat' apply And.intro) <;> (first | trivial | rfl | omega | (intros; rfl) | (intros; trivial)))))))))
    | (refine d_new rfl rfl rfl ⟨(none, _), Nat.le_refl _⟩ ?hc (fun _ _ => ?_); (case hc => (first | (simp only [need, imp, needIf]; done) | ((try simp only [need, imp, needIf, cutOff]); (repeat' apply And.intro) <;> (first | trivial | rfl | omega | (simp; done) | (simp; omega) | (intros; rfl) | (intros; trivial) | (exact Nat.le_trans (Nat.mul_le_mul_right _ (show _ ≤ 100000000001 by omega)) (by decide)) | (intro hg_; first | exact hg_ | ((try simp only [decide_eq_true_eq] at hg_); (try rw [wi64 (by omega) (by omega)]); (repeat' apply And.intro) <;> (first | trivial | rfl | omega | (intros; rfl) | (intros; trivial)))))))))
    | refine d_put rfl rfl rfl trivial trivial ?_
    | (refine d_put rfl rfl rfl trivial ?hc ?_; (case hc => (first | (simp only [need, imp, needIf]; done) | ((try simp only [need, imp, needIf, cutOff]); (repeat' apply And.intro) <;> (first | trivial | rfl | omega | (simp; done) | (simp; omega) | (intros; rfl) | (intros; trivial) | (exact Nat.le_trans (Nat.mul_le_mul_right _ (show _ ≤ 100000000001 by omega)) (by decide)) | (intro hg_; first | exact hg_ | ((try simp only [decide_eq_true_eq] at hg_); (try rw [wi64 (by omega) (by omega)]); (repeat' apply And.intro) <;> (first | trivial | rfl | omega | (intros; rfl) | (intros; trivial)))))))))
    | refine d_nil ?_
    | refine s_skip ?_
    | refine s_block ?_
    | refine s_exit ?_
    | refine s_label ?_)
  refine o_res rfl ?hc ⟨((none, n + 1), (none, 0 + 1), (none, 0 + 1), (none, 0 + 1)), ⟨Nat.le_refl _, Nat.le_refl _, Nat.le_refl _, Nat.le_refl _⟩⟩ rfl (fun x hx => ?_)
  case hc =>
    (first | (simp only [need, imp, needIf]; done) | ((try simp only [need, imp, needIf, cutOff]); (repeat' apply And.intro) <;> (first | trivial | rfl | omega | (simp; done) | (simp; omega) | (intros; rfl) | (intros; trivial) | (exact Nat.le_trans (Nat.mul_le_mul_right _ (show _ ≤ 100000000001 by omega)) (by decide)) | (intro hg_; first | exact hg_ | ((try simp only [decide_eq_true_eq] at hg_); (try rw [wi64 (by omega) (by omega)]); (repeat' apply And.intro) <;> (first | trivial | rfl | omega | (intros; rfl) | (intros; trivial)))))))
  obtain ⟨⟨a1, z1⟩, ⟨a2, z2⟩, ⟨a3, z3⟩, ⟨a4, z4⟩⟩ := x
  obtain ⟨hx1, hx2, hx3, hx4⟩ := hx
  repeat (first
    | refine s_seq ?_
    | refine s_region ?_
    | refine o_val rfl rfl trivial trivial ?_
    | (refine o_val rfl rfl trivial ?hc ?_; (case hc => (first | (simp only [need, imp, needIf]; done) | ((try simp only [need, imp, needIf, cutOff]); (repeat' apply And.intro) <;> (first | trivial | rfl | omega | (simp; done) | (simp; omega) | (intros; rfl) | (intros; trivial) | (exact Nat.le_trans (Nat.mul_le_mul_right _ (show _ ≤ 100000000001 by omega)) (by decide)) | (intro hg_; first | exact hg_ | ((try simp only [decide_eq_true_eq] at hg_); (try rw [wi64 (by omega) (by omega)]); (repeat' apply And.intro) <;> (first | trivial | rfl | omega | (intros; rfl) | (intros; trivial)))))))))
    | refine o_new rfl rfl rfl ⟨0, trivial⟩ trivial (fun _ _ => ?_)
    | (refine o_new rfl rfl rfl ⟨0, trivial⟩ ?hc (fun _ _ => ?_); (case hc => (first | (simp only [need, imp, needIf]; done) | ((try simp only [need, imp, needIf, cutOff]); (repeat' apply And.intro) <;> (first | trivial | rfl | omega | (simp; done) | (simp; omega) | (intros; rfl) | (intros; trivial) | (exact Nat.le_trans (Nat.mul_le_mul_right _ (show _ ≤ 100000000001 by omega)) (by decide)) | (intro hg_; first | exact hg_ | ((try simp only [decide_eq_true_eq] at hg_); (try rw [wi64 (by omega) (by omega)]); (repeat' apply And.intro) <;> (first | trivial | rfl | omega | (intros; rfl) | (intros; trivial)))))))))
    | (refine o_new rfl rfl rfl ⟨(none, _), Nat.le_refl _⟩ ?hc (fun _ _ => ?_); (case hc => (first | (simp only [need, imp, needIf]; done) | ((try simp only [need, imp, needIf, cutOff]); (repeat' apply And.intro) <;> (first | trivial | rfl | omega | (simp; done) | (simp; omega) | (intros; rfl) | (intros; trivial) | (exact Nat.le_trans (Nat.mul_le_mul_right _ (show _ ≤ 100000000001 by omega)) (by decide)) | (intro hg_; first | exact hg_ | ((try simp only [decide_eq_true_eq] at hg_); (try rw [wi64 (by omega) (by omega)]); (repeat' apply And.intro) <;> (first | trivial | rfl | omega | (intros; rfl) | (intros; trivial)))))))))
    | refine o_put rfl rfl rfl trivial trivial ?_
    | (refine o_put rfl rfl rfl trivial ?hc ?_; (case hc => (first | (simp only [need, imp, needIf]; done) | ((try simp only [need, imp, needIf, cutOff]); (repeat' apply And.intro) <;> (first | trivial | rfl | omega | (simp; done) | (simp; omega) | (intros; rfl) | (intros; trivial) | (exact Nat.le_trans (Nat.mul_le_mul_right _ (show _ ≤ 100000000001 by omega)) (by decide)) | (intro hg_; first | exact hg_ | ((try simp only [decide_eq_true_eq] at hg_); (try rw [wi64 (by omega) (by omega)]); (repeat' apply And.intro) <;> (first | trivial | rfl | omega | (intros; rfl) | (intros; trivial)))))))))
    | refine o_nil ?_
    | refine d_val rfl rfl trivial trivial ?_
    | (refine d_val rfl rfl trivial ?hc ?_; (case hc => (first | (simp only [need, imp, needIf]; done) | ((try simp only [need, imp, needIf, cutOff]); (repeat' apply And.intro) <;> (first | trivial | rfl | omega | (simp; done) | (simp; omega) | (intros; rfl) | (intros; trivial) | (exact Nat.le_trans (Nat.mul_le_mul_right _ (show _ ≤ 100000000001 by omega)) (by decide)) | (intro hg_; first | exact hg_ | ((try simp only [decide_eq_true_eq] at hg_); (try rw [wi64 (by omega) (by omega)]); (repeat' apply And.intro) <;> (first | trivial | rfl | omega | (intros; rfl) | (intros; trivial)))))))))
    | refine d_new rfl rfl rfl ⟨0, trivial⟩ trivial (fun _ _ => ?_)
    | (refine d_new rfl rfl rfl ⟨0, trivial⟩ ?hc (fun _ _ => ?_); (case hc => (first | (simp only [need, imp, needIf]; done) | ((try simp only [need, imp, needIf, cutOff]); (repeat' apply And.intro) <;> (first | trivial | rfl | omega | (simp; done) | (simp; omega) | (intros; rfl) | (intros; trivial) | (exact Nat.le_trans (Nat.mul_le_mul_right _ (show _ ≤ 100000000001 by omega)) (by decide)) | (intro hg_; first | exact hg_ | ((try simp only [decide_eq_true_eq] at hg_); (try rw [wi64 (by omega) (by omega)]); (repeat' apply And.intro) <;> (first | trivial | rfl | omega | (intros; rfl) | (intros; trivial)))))))))
    | (refine d_new rfl rfl rfl ⟨(none, _), Nat.le_refl _⟩ ?hc (fun _ _ => ?_); (case hc => (first | (simp only [need, imp, needIf]; done) | ((try simp only [need, imp, needIf, cutOff]); (repeat' apply And.intro) <;> (first | trivial | rfl | omega | (simp; done) | (simp; omega) | (intros; rfl) | (intros; trivial) | (exact Nat.le_trans (Nat.mul_le_mul_right _ (show _ ≤ 100000000001 by omega)) (by decide)) | (intro hg_; first | exact hg_ | ((try simp only [decide_eq_true_eq] at hg_); (try rw [wi64 (by omega) (by omega)]); (repeat' apply And.intro) <;> (first | trivial | rfl | omega | (intros; rfl) | (intros; trivial)))))))))
    | refine d_put rfl rfl rfl trivial trivial ?_
    | (refine d_put rfl rfl rfl trivial ?hc ?_; (case hc => (first | (simp only [need, imp, needIf]; done) | ((try simp only [need, imp, needIf, cutOff]); (repeat' apply And.intro) <;> (first | trivial | rfl | omega | (simp; done) | (simp; omega) | (intros; rfl) | (intros; trivial) | (exact Nat.le_trans (Nat.mul_le_mul_right _ (show _ ≤ 100000000001 by omega)) (by decide)) | (intro hg_; first | exact hg_ | ((try simp only [decide_eq_true_eq] at hg_); (try rw [wi64 (by omega) (by omega)]); (repeat' apply And.intro) <;> (first | trivial | rfl | omega | (intros; rfl) | (intros; trivial)))))))))
    | refine d_nil ?_
    | refine s_skip ?_
    | refine s_block ?_
    | refine s_exit ?_
    | refine s_label ?_)
  rename_i b2 _ b5 _ b13 _ a5 g5 b17 _ a6 g6
  refine s_le (tm' := [(5, none, .ptr ⟨5, 0, b5, 0, row48.zero.size, 0, 0, 0, false⟩), (6, none, .gs 13 0 (ownB a6.1) row51.size 0 (0 + m + 1) a6.2), (7, none, .v (.int .i64 m)), (1, none, roS 901 base' 108 m cap'), (2, none, .ptr ⟨2, 0, b2, 0, 1, 0, 0, 0, false⟩)])
    (M' := [(5, .row b5 48 75 1 (fun _ => caseAV ⟨#[]⟩ ⟨#[]⟩ (.gs 12 0 (ownB a1) 3 0 n z1) (certAV 0 0 (List.replicate 32 0) (.gs 10012 0 (ownB a2) 18 0 0 z2)) (certAV 0 0 (List.replicate 32 0) (.gs 20012 0 (ownB a3) 18 0 0 z3)) (.gs 30012 0 (ownB a4) 53 0 0 z4) (.v (.slice none 0 0))) 1),
      (2, .row b2 40 1 1 (fun _ => .agg (.cons (roS 900 base 3 n cap) .nil)) 1),
      (12, .vrow a1 66 3 (n + 1) (fun i => encMb (ext n g mbX i)) z1), (10012, .vrow a2 68 18 (0 + 1) (fun i => encMk (ext 0 k0 mkX i)) z2), (20012, .vrow a3 68 18 (0 + 1) (fun i => encMk (ext 0 k0 mkX i)) z3), (30012, .vrow a4 32 53 (0 + 1) (fun i => encV (ext 0 v0 vX i)) z4),
      (13, .vrow a6.1 51 108 (m + 1) (fun i => encG (ext m h gtX i)) a6.2), (900, roB base 3 n fun i => encMb (g i)), (901, roB base' 108 m fun i => encG (h i))]) (Le.of ⟨rfl, rfl, rfl, rfl, rfl, trivial⟩ ⟨⟨_, rfl, Blk.le_refl _⟩, ⟨_, rfl, Blk.le_refl _⟩, ⟨_, rfl, Blk.le_vrow (Nat.le_refl _) fun i hi => (ext_fapp encMb (fun _ _ => rfl) i hi).symm⟩,
        ⟨_, rfl, Blk.le_vrow (Nat.le_refl _) fun i hi => (ext_fapp encMk (f := fun _ => .nil) (fun i hi => by omega) i hi).symm⟩, ⟨_, rfl, Blk.le_vrow (Nat.le_refl _) fun i hi => (ext_fapp encMk (f := fun _ => .nil) (fun i hi => by omega) i hi).symm⟩, ⟨_, rfl, Blk.le_vrow (Nat.le_refl _) fun i hi => (ext_fapp encV (f := fun _ => .nil) (fun i hi => by omega) i hi).symm⟩,
        ⟨_, rfl, Blk.le_vrow (by omega) fun i hi => (ext_fapp encG (f := fun i => encG (h i)) (fun _ _ => rfl) i hi).symm.trans (fapp2 (e := encG gtX) rfl i hi)⟩, ⟨_, rfl, Blk.le_refl _⟩, ⟨_, rfl, Blk.le_refl _⟩, trivial⟩ rfl) ?_
  refine s_draw rD7_4 rM7_4 rX7_4 rN7_4 rfl rfl ?_
  repeat (first
    | refine s_seq ?_
    | refine s_region ?_
    | refine o_val rfl rfl trivial trivial ?_
    | (refine o_val rfl rfl trivial ?hc ?_; (case hc => (first | (simp only [need, imp, needIf]; done) | ((try simp only [need, imp, needIf, cutOff]); (repeat' apply And.intro) <;> (first | trivial | rfl | omega | (simp; done) | (simp; omega) | (intros; rfl) | (intros; trivial) | (exact Nat.le_trans (Nat.mul_le_mul_right _ (show _ ≤ 100000000001 by omega)) (by decide)) | (intro hg_; first | exact hg_ | ((try simp only [decide_eq_true_eq] at hg_); (try rw [wi64 (by omega) (by omega)]); (repeat' apply And.intro) <;> (first | trivial | rfl | omega | (intros; rfl) | (intros; trivial)))))))))
    | refine o_new rfl rfl rfl ⟨0, trivial⟩ trivial (fun _ _ => ?_)
    | (refine o_new rfl rfl rfl ⟨0, trivial⟩ ?hc (fun _ _ => ?_); (case hc => (first | (simp only [need, imp, needIf]; done) | ((try simp only [need, imp, needIf, cutOff]); (repeat' apply And.intro) <;> (first | trivial | rfl | omega | (simp; done) | (simp; omega) | (intros; rfl) | (intros; trivial) | (exact Nat.le_trans (Nat.mul_le_mul_right _ (show _ ≤ 100000000001 by omega)) (by decide)) | (intro hg_; first | exact hg_ | ((try simp only [decide_eq_true_eq] at hg_); (try rw [wi64 (by omega) (by omega)]); (repeat' apply And.intro) <;> (first | trivial | rfl | omega | (intros; rfl) | (intros; trivial)))))))))
    | (refine o_new rfl rfl rfl ⟨(none, _), Nat.le_refl _⟩ ?hc (fun _ _ => ?_); (case hc => (first | (simp only [need, imp, needIf]; done) | ((try simp only [need, imp, needIf, cutOff]); (repeat' apply And.intro) <;> (first | trivial | rfl | omega | (simp; done) | (simp; omega) | (intros; rfl) | (intros; trivial) | (exact Nat.le_trans (Nat.mul_le_mul_right _ (show _ ≤ 100000000001 by omega)) (by decide)) | (intro hg_; first | exact hg_ | ((try simp only [decide_eq_true_eq] at hg_); (try rw [wi64 (by omega) (by omega)]); (repeat' apply And.intro) <;> (first | trivial | rfl | omega | (intros; rfl) | (intros; trivial)))))))))
    | refine o_put rfl rfl rfl trivial trivial ?_
    | (refine o_put rfl rfl rfl trivial ?hc ?_; (case hc => (first | (simp only [need, imp, needIf]; done) | ((try simp only [need, imp, needIf, cutOff]); (repeat' apply And.intro) <;> (first | trivial | rfl | omega | (simp; done) | (simp; omega) | (intros; rfl) | (intros; trivial) | (exact Nat.le_trans (Nat.mul_le_mul_right _ (show _ ≤ 100000000001 by omega)) (by decide)) | (intro hg_; first | exact hg_ | ((try simp only [decide_eq_true_eq] at hg_); (try rw [wi64 (by omega) (by omega)]); (repeat' apply And.intro) <;> (first | trivial | rfl | omega | (intros; rfl) | (intros; trivial)))))))))
    | refine o_nil ?_
    | refine d_val rfl rfl trivial trivial ?_
    | (refine d_val rfl rfl trivial ?hc ?_; (case hc => (first | (simp only [need, imp, needIf]; done) | ((try simp only [need, imp, needIf, cutOff]); (repeat' apply And.intro) <;> (first | trivial | rfl | omega | (simp; done) | (simp; omega) | (intros; rfl) | (intros; trivial) | (exact Nat.le_trans (Nat.mul_le_mul_right _ (show _ ≤ 100000000001 by omega)) (by decide)) | (intro hg_; first | exact hg_ | ((try simp only [decide_eq_true_eq] at hg_); (try rw [wi64 (by omega) (by omega)]); (repeat' apply And.intro) <;> (first | trivial | rfl | omega | (intros; rfl) | (intros; trivial)))))))))
    | refine d_new rfl rfl rfl ⟨0, trivial⟩ trivial (fun _ _ => ?_)
    | (refine d_new rfl rfl rfl ⟨0, trivial⟩ ?hc (fun _ _ => ?_); (case hc => (first | (simp only [need, imp, needIf]; done) | ((try simp only [need, imp, needIf, cutOff]); (repeat' apply And.intro) <;> (first | trivial | rfl | omega | (simp; done) | (simp; omega) | (intros; rfl) | (intros; trivial) | (exact Nat.le_trans (Nat.mul_le_mul_right _ (show _ ≤ 100000000001 by omega)) (by decide)) | (intro hg_; first | exact hg_ | ((try simp only [decide_eq_true_eq] at hg_); (try rw [wi64 (by omega) (by omega)]); (repeat' apply And.intro) <;> (first | trivial | rfl | omega | (intros; rfl) | (intros; trivial)))))))))
    | (refine d_new rfl rfl rfl ⟨(none, _), Nat.le_refl _⟩ ?hc (fun _ _ => ?_); (case hc => (first | (simp only [need, imp, needIf]; done) | ((try simp only [need, imp, needIf, cutOff]); (repeat' apply And.intro) <;> (first | trivial | rfl | omega | (simp; done) | (simp; omega) | (intros; rfl) | (intros; trivial) | (exact Nat.le_trans (Nat.mul_le_mul_right _ (show _ ≤ 100000000001 by omega)) (by decide)) | (intro hg_; first | exact hg_ | ((try simp only [decide_eq_true_eq] at hg_); (try rw [wi64 (by omega) (by omega)]); (repeat' apply And.intro) <;> (first | trivial | rfl | omega | (intros; rfl) | (intros; trivial)))))))))
    | refine d_put rfl rfl rfl trivial trivial ?_
    | (refine d_put rfl rfl rfl trivial ?hc ?_; (case hc => (first | (simp only [need, imp, needIf]; done) | ((try simp only [need, imp, needIf, cutOff]); (repeat' apply And.intro) <;> (first | trivial | rfl | omega | (simp; done) | (simp; omega) | (intros; rfl) | (intros; trivial) | (exact Nat.le_trans (Nat.mul_le_mul_right _ (show _ ≤ 100000000001 by omega)) (by decide)) | (intro hg_; first | exact hg_ | ((try simp only [decide_eq_true_eq] at hg_); (try rw [wi64 (by omega) (by omega)]); (repeat' apply And.intro) <;> (first | trivial | rfl | omega | (intros; rfl) | (intros; trivial)))))))))
    | refine d_nil ?_
    | refine s_skip ?_
    | refine s_block ?_
    | refine s_exit ?_
    | refine s_label ?_)
  refine s_ret ?_
  refine ⟨_, _, rfl, ⟨trivial, trivial⟩, rfl, ?_⟩
  show (AV.v (.bool ((((PowerF (ext n g mbX) n (ext m h gtX) m == PowerRF g n h m) && sameR (ext m h gtX) m h m) && gtEq (ext m h gtX m) gtX) && true))).val = _
  rw [law_agree (by omega) hg, sameR_refl (fun i hi => ext_lt hi), ext_self, gtEq_refl, beq_self_eq_true]; rfl
end Go.Proofs.Ytofophjfgalhaaa.V
