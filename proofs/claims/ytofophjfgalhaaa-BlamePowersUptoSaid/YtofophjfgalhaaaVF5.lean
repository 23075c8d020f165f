import Derived.Test.YtofophjfgalhaaaVF4
/-! copied: a case with its lists in memory of their own. -/
namespace Go.Proofs.Ytofophjfgalhaaa.V
open Go Go.RowKit

def certAV (h r : Int) (id : List Int) (m : AV) : AV := .agg (.cons (.v (.int .u64 h)) (.cons (.v (.int .i64 r)) (.cons (.ints .u8 32 id) (.cons m .nil))))
def caseAV (s1 s2 : ByteArray) (cm : AV) (ca cb : AV) (vs bare : AV) : AV :=
  .agg (.cons (.v (.string s1)) (.cons (.v (.string s2)) (.cons (.agg (.cons cm .nil)) (.cons ca (.cons cb (.cons vs (.cons bare .nil)))))))
def mbX : Mb := ⟨71, 0, 0⟩
def mkX : Mk := ⟨-71, 0, List.replicate 16 0⟩
def vX : Vote := ⟨0, 0, -71, List.replicate 32 0, 0, 0, List.replicate 16 0⟩
def gtX : Gt := ⟨0, -71, zeroV, zeroV⟩

abbrev Ch := Option Nat × Nat
def copiedC (tag : Nat) (args : List AV) (M : MemF) : Option Res := match args with
  | [.agg (.cons (.v (.string s1)) (.cons (.v (.string s2)) (.cons (.agg (.cons cm .nil)) (.cons (.agg (.cons (.v (.int .u64 h1)) (.cons (.v (.int .i64 r1)) (.cons (.ints .u8 32 id1) (.cons ma .nil)))))
      (.cons (.agg (.cons (.v (.int .u64 h2)) (.cons (.v (.int .i64 r2)) (.cons (.ints .u8 32 id2) (.cons mb .nil))))) (.cons vs (.cons (.v (.slice ba bn bc)) .nil)))))))] =>
    match seqOf M cm, seqOf M ma, seqOf M mb, seqOf M vs with
    | some (c1, e1, n1, f1), some (c2, e2, n2, f2), some (c3, e3, n3, f3), some (c4, e4, n4, f4) => some ⟨Ch × Ch × Ch × Ch,
        (c1 ∧ (n1 ≠ 0 → e1 = 3) ∧ n1 < 100000000000) ∧ (c2 ∧ (n2 ≠ 0 → e2 = 18) ∧ n2 < 100000000000) ∧ (c3 ∧ (n3 ≠ 0 → e3 = 18) ∧ n3 < 100000000000) ∧ (c4 ∧ (n4 ≠ 0 → e4 = 53) ∧ n4 < 100000000000),
        fun x => n1 + 1 ≤ x.1.2 ∧ n2 + 1 ≤ x.2.1.2 ∧ n3 + 1 ≤ x.2.2.1.2 ∧ n4 + 1 ≤ x.2.2.2.2,
        fun x => caseAV s1 s2 (.gs tag 0 (ownB x.1.1) 3 0 n1 x.1.2) (certAV h1 r1 id1 (.gs (tag + 10000) 0 (ownB x.2.1.1) 18 0 n2 x.2.1.2)) (certAV h2 r2 id2 (.gs (tag + 20000) 0 (ownB x.2.2.1.1) 18 0 n3 x.2.2.1.2)) (.gs (tag + 30000) 0 (ownB x.2.2.2.1) 53 0 n4 x.2.2.2.2) (.v (.slice ba bn bc)),
        [tag, tag + 10000, tag + 20000, tag + 30000],
        fun x => [.vrow x.1.1 66 3 (n1 + 1) (fapp n1 f1 fun _ => encMb mbX) x.1.2, .vrow x.2.1.1 68 18 (n2 + 1) (fapp n2 f2 fun _ => encMk mkX) x.2.1.2, .vrow x.2.2.1.1 68 18 (n3 + 1) (fapp n3 f3 fun _ => encMk mkX) x.2.2.1.2, .vrow x.2.2.2.1 32 53 (n4 + 1) (fapp n4 f4 fun _ => encV vX) x.2.2.2.2]⟩
    | _, _, _, _ => none
  | _ => none

theorem seq_ro {O : Nat → Prop} {w0 w : World} {M : MemF} (hS : Sat O w0 M w) {x : AV} {c : Prop} {es n E : Nat} {f : Nat → AV} (h : seqOf M x = some (c, es, n, f)) (hc : c) (he : n ≠ 0 → es = E) :
    ∃ base cap, x.cells = [slV base n cap] ∧ (roB base E n f).holds w := by
  obtain ⟨base, cap, hv, hr⟩ := seqOf_spec hS h hc
  refine ⟨base, cap, by rw [seq_plain h, hv], roB_holds fun h0 => ?_⟩
  obtain ⟨b, o, hb, hR⟩ := hr h0
  rw [he h0] at hR
  exact ⟨b, o, hb, hR⟩

theorem case_val {s1 s2 : ByteArray} {h1 r1 h2 r2 : Int} {id1 id2 : List Int} {cm ma mb vs bare cm' ma' mb' vs' : AV} {v1 v2 v3 v4 : Value} (e1 : cm.cells = [v1]) (e1' : cm'.cells = [v1]) (e2 : ma.cells = [v2]) (e2' : ma'.cells = [v2]) (e3 : mb.cells = [v3]) (e3' : mb'.cells = [v3]) (e4 : vs.cells = [v4]) (e4' : vs'.cells = [v4]) :
    (caseAV s1 s2 cm (certAV h1 r1 id1 ma) (certAV h2 r2 id2 mb) vs bare).val = (caseAV s1 s2 cm' (certAV h1 r1 id1 ma') (certAV h2 r2 id2 mb') vs' bare).val := by
  simp [caseAV, certAV, e1, e1', e2, e2', e3, e3', e4, e4']

theorem vals1 {x y : AV} (h : x.val = y.val) : [x].map AV.val = [y].map AV.val := by simp [h]
theorem fapp2 {n : Nat} {f f0 src : Nat → AV} {e : AV} (h : src 0 = e) : ∀ i, i < n + 1 → fapp n f (fun _ => e) i = fapp (0 + n) (fapp 0 f0 f) src i := by
  intro i hi
  rw [Nat.zero_add]
  rcases Nat.lt_or_ge i n with h1 | h1
  · rw [fapp_lt h1, fapp_lt h1, fapp_ge (Nat.zero_le _), Nat.sub_zero]
  · have : i = n := by omega
    subst this
    rw [fapp_ge (Nat.le_refl _), fapp_ge (Nat.le_refl _), Nat.sub_self, h]

set_option maxRecDepth 100000 in
set_option maxHeartbeats 4000000 in
theorem copied_turn : TurnFn Try.prog 13 copiedC := by
  intro tag args M r h0 hok O w0 w hS
  unfold copiedC at h0
  split at h0
  · rename_i s1 s2 cm h1 r1 id1 ma h2 r2 id2 mb vs ba bn bc
    split at h0
    · rename_i c1 e1 n1 f1 c2 e2 n2 f2 c3 e3 n3 f3 c4 e4 n4 f4 q1 q2 q3 q4
      cases h0
      obtain ⟨⟨p1, p2, p3⟩, ⟨p4, p5, p6⟩, ⟨p7, p8, p9⟩, ⟨p10, p11, p12⟩⟩ := hok
      obtain ⟨b1, k1, v1, ro1⟩ := seq_ro hS q1 p1 p2
      obtain ⟨b2, k2, v2, ro2⟩ := seq_ro hS q2 p4 p5
      obtain ⟨b3, k3, v3, ro3⟩ := seq_ro hS q3 p7 p8
      obtain ⟨b4, k4, v4, ro4⟩ := seq_ro hS q4 p10 p11
      have hv := case_val (s1 := s1) (s2 := s2) (h1 := h1) (r1 := r1) (h2 := h2) (r2 := r2) (id1 := id1) (id2 := id2) (bare := .v (.slice ba bn bc)) v1 (roS_cells 900 b1 3 n1 k1) v2 (roS_cells 901 b2 18 n2 k2) v3 (roS_cells 902 b3 18 n3 k3) v4 (roS_cells 903 b4 53 n4 k4)
      refine (show Calls Try.prog 13 ([caseAV s1 s2 cm (certAV h1 r1 id1 ma) (certAV h2 r2 id2 mb) vs (.v (.slice ba bn bc))].map AV.val).toArray w _ from ?_)
      rw [vals1 hv]
      refine turn_fn tabs (ct := []) trivial (cr := []) trivial Try.func13 rfl rfl hS _ [(900, roB b1 3 n1 f1), (901, roB b2 18 n2 f2), (902, roB b3 18 n3 f3), (903, roB b4 53 n4 f4)] [] [5, 20, 35, 50] rfl ⟨ro1, ro2, ro3, ro4, trivial⟩ (fun n' B' k hn ho => (noOwn_get (M := [(900, roB b1 3 n1 f1), (901, roB b2 18 n2 f2), (902, roB b3 18 n3 f3), (903, roB b4 53 n4 f4)]) ⟨roB_noOwn, roB_noOwn, roB_noOwn, roB_noOwn, trivial⟩ _ _ _ hn ho).elim) (fun _ _ _ _ _ _ _ _ h => (by cases h)) (fun _ _ _ h => (by cases h)) (fun _ _ h => (by cases h)) (by decide) rfl ?_
      repeat (first
        | refine s_seq ?_
        | refine s_region ?_
        | refine o_val rfl rfl trivial trivial ?_
        | (refine o_val rfl rfl trivial ?hc ?_; (case hc => (first | (simp only [need, imp, needIf]; done) | ((try simp only [need, imp, needIf]); (repeat' apply And.intro) <;> (first | trivial | rfl | omega | (simp; done) | (simp; omega) | (intros; rfl) | (exact Nat.le_trans (Nat.mul_le_mul_right _ (show _ ≤ 100000000001 by omega)) (by decide)) | (intro hg_; first | exact hg_ | ((try simp only [decide_eq_true_eq] at hg_); (try rw [wi64 (by omega) (by omega)]); (repeat' apply And.intro) <;> (first | trivial | rfl | omega | (intros; rfl)))))))))
        | refine o_new rfl rfl rfl ⟨0, trivial⟩ trivial (fun _ _ => ?_)
        | (refine o_new rfl rfl rfl ⟨0, trivial⟩ ?hc (fun _ _ => ?_); (case hc => (first | (simp only [need, imp, needIf]; done) | ((try simp only [need, imp, needIf]); (repeat' apply And.intro) <;> (first | trivial | rfl | omega | (simp; done) | (simp; omega) | (intros; rfl) | (exact Nat.le_trans (Nat.mul_le_mul_right _ (show _ ≤ 100000000001 by omega)) (by decide)) | (intro hg_; first | exact hg_ | ((try simp only [decide_eq_true_eq] at hg_); (try rw [wi64 (by omega) (by omega)]); (repeat' apply And.intro) <;> (first | trivial | rfl | omega | (intros; rfl)))))))))
        | (refine o_new rfl rfl rfl ⟨(none, _), Nat.le_refl _⟩ ?hc (fun _ _ => ?_); (case hc => (first | (simp only [need, imp, needIf]; done) | ((try simp only [need, imp, needIf]); (repeat' apply And.intro) <;> (first | trivial | rfl | omega | (simp; done) | (simp; omega) | (intros; rfl) | (exact Nat.le_trans (Nat.mul_le_mul_right _ (show _ ≤ 100000000001 by omega)) (by decide)) | (intro hg_; first | exact hg_ | ((try simp only [decide_eq_true_eq] at hg_); (try rw [wi64 (by omega) (by omega)]); (repeat' apply And.intro) <;> (first | trivial | rfl | omega | (intros; rfl)))))))))
        | refine o_put rfl rfl rfl trivial trivial ?_
        | (refine o_put rfl rfl rfl trivial ?hc ?_; (case hc => (first | (simp only [need, imp, needIf]; done) | ((try simp only [need, imp, needIf]); (repeat' apply And.intro) <;> (first | trivial | rfl | omega | (simp; done) | (simp; omega) | (intros; rfl) | (exact Nat.le_trans (Nat.mul_le_mul_right _ (show _ ≤ 100000000001 by omega)) (by decide)) | (intro hg_; first | exact hg_ | ((try simp only [decide_eq_true_eq] at hg_); (try rw [wi64 (by omega) (by omega)]); (repeat' apply And.intro) <;> (first | trivial | rfl | omega | (intros; rfl)))))))))
        | refine o_nil ?_
        | refine d_val rfl rfl trivial trivial ?_
        | (refine d_val rfl rfl trivial ?hc ?_; (case hc => (first | (simp only [need, imp, needIf]; done) | ((try simp only [need, imp, needIf]); (repeat' apply And.intro) <;> (first | trivial | rfl | omega | (simp; done) | (simp; omega) | (intros; rfl) | (exact Nat.le_trans (Nat.mul_le_mul_right _ (show _ ≤ 100000000001 by omega)) (by decide)) | (intro hg_; first | exact hg_ | ((try simp only [decide_eq_true_eq] at hg_); (try rw [wi64 (by omega) (by omega)]); (repeat' apply And.intro) <;> (first | trivial | rfl | omega | (intros; rfl)))))))))
        | refine d_new rfl rfl rfl ⟨0, trivial⟩ trivial (fun _ _ => ?_)
        | (refine d_new rfl rfl rfl ⟨0, trivial⟩ ?hc (fun _ _ => ?_); (case hc => (first | (simp only [need, imp, needIf]; done) | ((try simp only [need, imp, needIf]); (repeat' apply And.intro) <;> (first | trivial | rfl | omega | (simp; done) | (simp; omega) | (intros; rfl) | (exact Nat.le_trans (Nat.mul_le_mul_right _ (show _ ≤ 100000000001 by omega)) (by decide)) | (intro hg_; first | exact hg_ | ((try simp only [decide_eq_true_eq] at hg_); (try rw [wi64 (by omega) (by omega)]); (repeat' apply And.intro) <;> (first | trivial | rfl | omega | (intros; rfl)))))))))
        | (refine d_new rfl rfl rfl ⟨(none, _), Nat.le_refl _⟩ ?hc (fun _ _ => ?_); (case hc => (first | (simp only [need, imp, needIf]; done) | ((try simp only [need, imp, needIf]); (repeat' apply And.intro) <;> (first | trivial | rfl | omega | (simp; done) | (simp; omega) | (intros; rfl) | (exact Nat.le_trans (Nat.mul_le_mul_right _ (show _ ≤ 100000000001 by omega)) (by decide)) | (intro hg_; first | exact hg_ | ((try simp only [decide_eq_true_eq] at hg_); (try rw [wi64 (by omega) (by omega)]); (repeat' apply And.intro) <;> (first | trivial | rfl | omega | (intros; rfl)))))))))
        | refine d_put rfl rfl rfl trivial trivial ?_
        | (refine d_put rfl rfl rfl trivial ?hc ?_; (case hc => (first | (simp only [need, imp, needIf]; done) | ((try simp only [need, imp, needIf]); (repeat' apply And.intro) <;> (first | trivial | rfl | omega | (simp; done) | (simp; omega) | (intros; rfl) | (exact Nat.le_trans (Nat.mul_le_mul_right _ (show _ ≤ 100000000001 by omega)) (by decide)) | (intro hg_; first | exact hg_ | ((try simp only [decide_eq_true_eq] at hg_); (try rw [wi64 (by omega) (by omega)]); (repeat' apply And.intro) <;> (first | trivial | rfl | omega | (intros; rfl)))))))))
        | refine d_nil ?_
        | refine s_skip ?_
        | refine s_block ?_
        | refine s_exit ?_
        | refine s_label ?_)
      refine s_draw rD13_2 rM13_2 rX13_2 rN13_2 rfl rfl ?_
      repeat (first
        | refine s_seq ?_
        | refine s_region ?_
        | refine o_val rfl rfl trivial trivial ?_
        | (refine o_val rfl rfl trivial ?hc ?_; (case hc => (first | (simp only [need, imp, needIf]; done) | ((try simp only [need, imp, needIf]); (repeat' apply And.intro) <;> (first | trivial | rfl | omega | (simp; done) | (simp; omega) | (intros; rfl) | (exact Nat.le_trans (Nat.mul_le_mul_right _ (show _ ≤ 100000000001 by omega)) (by decide)) | (intro hg_; first | exact hg_ | ((try simp only [decide_eq_true_eq] at hg_); (try rw [wi64 (by omega) (by omega)]); (repeat' apply And.intro) <;> (first | trivial | rfl | omega | (intros; rfl)))))))))
        | refine o_new rfl rfl rfl ⟨0, trivial⟩ trivial (fun _ _ => ?_)
        | (refine o_new rfl rfl rfl ⟨0, trivial⟩ ?hc (fun _ _ => ?_); (case hc => (first | (simp only [need, imp, needIf]; done) | ((try simp only [need, imp, needIf]); (repeat' apply And.intro) <;> (first | trivial | rfl | omega | (simp; done) | (simp; omega) | (intros; rfl) | (exact Nat.le_trans (Nat.mul_le_mul_right _ (show _ ≤ 100000000001 by omega)) (by decide)) | (intro hg_; first | exact hg_ | ((try simp only [decide_eq_true_eq] at hg_); (try rw [wi64 (by omega) (by omega)]); (repeat' apply And.intro) <;> (first | trivial | rfl | omega | (intros; rfl)))))))))
        | (refine o_new rfl rfl rfl ⟨(none, _), Nat.le_refl _⟩ ?hc (fun _ _ => ?_); (case hc => (first | (simp only [need, imp, needIf]; done) | ((try simp only [need, imp, needIf]); (repeat' apply And.intro) <;> (first | trivial | rfl | omega | (simp; done) | (simp; omega) | (intros; rfl) | (exact Nat.le_trans (Nat.mul_le_mul_right _ (show _ ≤ 100000000001 by omega)) (by decide)) | (intro hg_; first | exact hg_ | ((try simp only [decide_eq_true_eq] at hg_); (try rw [wi64 (by omega) (by omega)]); (repeat' apply And.intro) <;> (first | trivial | rfl | omega | (intros; rfl)))))))))
        | refine o_put rfl rfl rfl trivial trivial ?_
        | (refine o_put rfl rfl rfl trivial ?hc ?_; (case hc => (first | (simp only [need, imp, needIf]; done) | ((try simp only [need, imp, needIf]); (repeat' apply And.intro) <;> (first | trivial | rfl | omega | (simp; done) | (simp; omega) | (intros; rfl) | (exact Nat.le_trans (Nat.mul_le_mul_right _ (show _ ≤ 100000000001 by omega)) (by decide)) | (intro hg_; first | exact hg_ | ((try simp only [decide_eq_true_eq] at hg_); (try rw [wi64 (by omega) (by omega)]); (repeat' apply And.intro) <;> (first | trivial | rfl | omega | (intros; rfl)))))))))
        | refine o_nil ?_
        | refine d_val rfl rfl trivial trivial ?_
        | (refine d_val rfl rfl trivial ?hc ?_; (case hc => (first | (simp only [need, imp, needIf]; done) | ((try simp only [need, imp, needIf]); (repeat' apply And.intro) <;> (first | trivial | rfl | omega | (simp; done) | (simp; omega) | (intros; rfl) | (exact Nat.le_trans (Nat.mul_le_mul_right _ (show _ ≤ 100000000001 by omega)) (by decide)) | (intro hg_; first | exact hg_ | ((try simp only [decide_eq_true_eq] at hg_); (try rw [wi64 (by omega) (by omega)]); (repeat' apply And.intro) <;> (first | trivial | rfl | omega | (intros; rfl)))))))))
        | refine d_new rfl rfl rfl ⟨0, trivial⟩ trivial (fun _ _ => ?_)
        | (refine d_new rfl rfl rfl ⟨0, trivial⟩ ?hc (fun _ _ => ?_); (case hc => (first | (simp only [need, imp, needIf]; done) | ((try simp only [need, imp, needIf]); (repeat' apply And.intro) <;> (first | trivial | rfl | omega | (simp; done) | (simp; omega) | (intros; rfl) | (exact Nat.le_trans (Nat.mul_le_mul_right _ (show _ ≤ 100000000001 by omega)) (by decide)) | (intro hg_; first | exact hg_ | ((try simp only [decide_eq_true_eq] at hg_); (try rw [wi64 (by omega) (by omega)]); (repeat' apply And.intro) <;> (first | trivial | rfl | omega | (intros; rfl)))))))))
        | (refine d_new rfl rfl rfl ⟨(none, _), Nat.le_refl _⟩ ?hc (fun _ _ => ?_); (case hc => (first | (simp only [need, imp, needIf]; done) | ((try simp only [need, imp, needIf]); (repeat' apply And.intro) <;> (first | trivial | rfl | omega | (simp; done) | (simp; omega) | (intros; rfl) | (exact Nat.le_trans (Nat.mul_le_mul_right _ (show _ ≤ 100000000001 by omega)) (by decide)) | (intro hg_; first | exact hg_ | ((try simp only [decide_eq_true_eq] at hg_); (try rw [wi64 (by omega) (by omega)]); (repeat' apply And.intro) <;> (first | trivial | rfl | omega | (intros; rfl)))))))))
        | refine d_put rfl rfl rfl trivial trivial ?_
        | (refine d_put rfl rfl rfl trivial ?hc ?_; (case hc => (first | (simp only [need, imp, needIf]; done) | ((try simp only [need, imp, needIf]); (repeat' apply And.intro) <;> (first | trivial | rfl | omega | (simp; done) | (simp; omega) | (intros; rfl) | (exact Nat.le_trans (Nat.mul_le_mul_right _ (show _ ≤ 100000000001 by omega)) (by decide)) | (intro hg_; first | exact hg_ | ((try simp only [decide_eq_true_eq] at hg_); (try rw [wi64 (by omega) (by omega)]); (repeat' apply And.intro) <;> (first | trivial | rfl | omega | (intros; rfl)))))))))
        | refine d_nil ?_
        | refine s_skip ?_
        | refine s_block ?_
        | refine s_exit ?_
        | refine s_label ?_)
      refine s_draw rD13_3 rM13_3 rX13_3 rN13_3 rfl rfl ?_
      repeat (first
        | refine s_seq ?_
        | refine s_region ?_
        | refine o_val rfl rfl trivial trivial ?_
        | (refine o_val rfl rfl trivial ?hc ?_; (case hc => (first | (simp only [need, imp, needIf]; done) | ((try simp only [need, imp, needIf]); (repeat' apply And.intro) <;> (first | trivial | rfl | omega | (simp; done) | (simp; omega) | (intros; rfl) | (exact Nat.le_trans (Nat.mul_le_mul_right _ (show _ ≤ 100000000001 by omega)) (by decide)) | (intro hg_; first | exact hg_ | ((try simp only [decide_eq_true_eq] at hg_); (try rw [wi64 (by omega) (by omega)]); (repeat' apply And.intro) <;> (first | trivial | rfl | omega | (intros; rfl)))))))))
        | refine o_new rfl rfl rfl ⟨0, trivial⟩ trivial (fun _ _ => ?_)
        | (refine o_new rfl rfl rfl ⟨0, trivial⟩ ?hc (fun _ _ => ?_); (case hc => (first | (simp only [need, imp, needIf]; done) | ((try simp only [need, imp, needIf]); (repeat' apply And.intro) <;> (first | trivial | rfl | omega | (simp; done) | (simp; omega) | (intros; rfl) | (exact Nat.le_trans (Nat.mul_le_mul_right _ (show _ ≤ 100000000001 by omega)) (by decide)) | (intro hg_; first | exact hg_ | ((try simp only [decide_eq_true_eq] at hg_); (try rw [wi64 (by omega) (by omega)]); (repeat' apply And.intro) <;> (first | trivial | rfl | omega | (intros; rfl)))))))))
        | (refine o_new rfl rfl rfl ⟨(none, _), Nat.le_refl _⟩ ?hc (fun _ _ => ?_); (case hc => (first | (simp only [need, imp, needIf]; done) | ((try simp only [need, imp, needIf]); (repeat' apply And.intro) <;> (first | trivial | rfl | omega | (simp; done) | (simp; omega) | (intros; rfl) | (exact Nat.le_trans (Nat.mul_le_mul_right _ (show _ ≤ 100000000001 by omega)) (by decide)) | (intro hg_; first | exact hg_ | ((try simp only [decide_eq_true_eq] at hg_); (try rw [wi64 (by omega) (by omega)]); (repeat' apply And.intro) <;> (first | trivial | rfl | omega | (intros; rfl)))))))))
        | refine o_put rfl rfl rfl trivial trivial ?_
        | (refine o_put rfl rfl rfl trivial ?hc ?_; (case hc => (first | (simp only [need, imp, needIf]; done) | ((try simp only [need, imp, needIf]); (repeat' apply And.intro) <;> (first | trivial | rfl | omega | (simp; done) | (simp; omega) | (intros; rfl) | (exact Nat.le_trans (Nat.mul_le_mul_right _ (show _ ≤ 100000000001 by omega)) (by decide)) | (intro hg_; first | exact hg_ | ((try simp only [decide_eq_true_eq] at hg_); (try rw [wi64 (by omega) (by omega)]); (repeat' apply And.intro) <;> (first | trivial | rfl | omega | (intros; rfl)))))))))
        | refine o_nil ?_
        | refine d_val rfl rfl trivial trivial ?_
        | (refine d_val rfl rfl trivial ?hc ?_; (case hc => (first | (simp only [need, imp, needIf]; done) | ((try simp only [need, imp, needIf]); (repeat' apply And.intro) <;> (first | trivial | rfl | omega | (simp; done) | (simp; omega) | (intros; rfl) | (exact Nat.le_trans (Nat.mul_le_mul_right _ (show _ ≤ 100000000001 by omega)) (by decide)) | (intro hg_; first | exact hg_ | ((try simp only [decide_eq_true_eq] at hg_); (try rw [wi64 (by omega) (by omega)]); (repeat' apply And.intro) <;> (first | trivial | rfl | omega | (intros; rfl)))))))))
        | refine d_new rfl rfl rfl ⟨0, trivial⟩ trivial (fun _ _ => ?_)
        | (refine d_new rfl rfl rfl ⟨0, trivial⟩ ?hc (fun _ _ => ?_); (case hc => (first | (simp only [need, imp, needIf]; done) | ((try simp only [need, imp, needIf]); (repeat' apply And.intro) <;> (first | trivial | rfl | omega | (simp; done) | (simp; omega) | (intros; rfl) | (exact Nat.le_trans (Nat.mul_le_mul_right _ (show _ ≤ 100000000001 by omega)) (by decide)) | (intro hg_; first | exact hg_ | ((try simp only [decide_eq_true_eq] at hg_); (try rw [wi64 (by omega) (by omega)]); (repeat' apply And.intro) <;> (first | trivial | rfl | omega | (intros; rfl)))))))))
        | (refine d_new rfl rfl rfl ⟨(none, _), Nat.le_refl _⟩ ?hc (fun _ _ => ?_); (case hc => (first | (simp only [need, imp, needIf]; done) | ((try simp only [need, imp, needIf]); (repeat' apply And.intro) <;> (first | trivial | rfl | omega | (simp; done) | (simp; omega) | (intros; rfl) | (exact Nat.le_trans (Nat.mul_le_mul_right _ (show _ ≤ 100000000001 by omega)) (by decide)) | (intro hg_; first | exact hg_ | ((try simp only [decide_eq_true_eq] at hg_); (try rw [wi64 (by omega) (by omega)]); (repeat' apply And.intro) <;> (first | trivial | rfl | omega | (intros; rfl)))))))))
        | refine d_put rfl rfl rfl trivial trivial ?_
        | (refine d_put rfl rfl rfl trivial ?hc ?_; (case hc => (first | (simp only [need, imp, needIf]; done) | ((try simp only [need, imp, needIf]); (repeat' apply And.intro) <;> (first | trivial | rfl | omega | (simp; done) | (simp; omega) | (intros; rfl) | (exact Nat.le_trans (Nat.mul_le_mul_right _ (show _ ≤ 100000000001 by omega)) (by decide)) | (intro hg_; first | exact hg_ | ((try simp only [decide_eq_true_eq] at hg_); (try rw [wi64 (by omega) (by omega)]); (repeat' apply And.intro) <;> (first | trivial | rfl | omega | (intros; rfl)))))))))
        | refine d_nil ?_
        | refine s_skip ?_
        | refine s_block ?_
        | refine s_exit ?_
        | refine s_label ?_)
      refine s_draw rD13_4 rM13_4 rX13_4 rN13_4 rfl rfl ?_
      repeat (first
        | refine s_seq ?_
        | refine s_region ?_
        | refine o_val rfl rfl trivial trivial ?_
        | (refine o_val rfl rfl trivial ?hc ?_; (case hc => (first | (simp only [need, imp, needIf]; done) | ((try simp only [need, imp, needIf]); (repeat' apply And.intro) <;> (first | trivial | rfl | omega | (simp; done) | (simp; omega) | (intros; rfl) | (exact Nat.le_trans (Nat.mul_le_mul_right _ (show _ ≤ 100000000001 by omega)) (by decide)) | (intro hg_; first | exact hg_ | ((try simp only [decide_eq_true_eq] at hg_); (try rw [wi64 (by omega) (by omega)]); (repeat' apply And.intro) <;> (first | trivial | rfl | omega | (intros; rfl)))))))))
        | refine o_new rfl rfl rfl ⟨0, trivial⟩ trivial (fun _ _ => ?_)
        | (refine o_new rfl rfl rfl ⟨0, trivial⟩ ?hc (fun _ _ => ?_); (case hc => (first | (simp only [need, imp, needIf]; done) | ((try simp only [need, imp, needIf]); (repeat' apply And.intro) <;> (first | trivial | rfl | omega | (simp; done) | (simp; omega) | (intros; rfl) | (exact Nat.le_trans (Nat.mul_le_mul_right _ (show _ ≤ 100000000001 by omega)) (by decide)) | (intro hg_; first | exact hg_ | ((try simp only [decide_eq_true_eq] at hg_); (try rw [wi64 (by omega) (by omega)]); (repeat' apply And.intro) <;> (first | trivial | rfl | omega | (intros; rfl)))))))))
        | (refine o_new rfl rfl rfl ⟨(none, _), Nat.le_refl _⟩ ?hc (fun _ _ => ?_); (case hc => (first | (simp only [need, imp, needIf]; done) | ((try simp only [need, imp, needIf]); (repeat' apply And.intro) <;> (first | trivial | rfl | omega | (simp; done) | (simp; omega) | (intros; rfl) | (exact Nat.le_trans (Nat.mul_le_mul_right _ (show _ ≤ 100000000001 by omega)) (by decide)) | (intro hg_; first | exact hg_ | ((try simp only [decide_eq_true_eq] at hg_); (try rw [wi64 (by omega) (by omega)]); (repeat' apply And.intro) <;> (first | trivial | rfl | omega | (intros; rfl)))))))))
        | refine o_put rfl rfl rfl trivial trivial ?_
        | (refine o_put rfl rfl rfl trivial ?hc ?_; (case hc => (first | (simp only [need, imp, needIf]; done) | ((try simp only [need, imp, needIf]); (repeat' apply And.intro) <;> (first | trivial | rfl | omega | (simp; done) | (simp; omega) | (intros; rfl) | (exact Nat.le_trans (Nat.mul_le_mul_right _ (show _ ≤ 100000000001 by omega)) (by decide)) | (intro hg_; first | exact hg_ | ((try simp only [decide_eq_true_eq] at hg_); (try rw [wi64 (by omega) (by omega)]); (repeat' apply And.intro) <;> (first | trivial | rfl | omega | (intros; rfl)))))))))
        | refine o_nil ?_
        | refine d_val rfl rfl trivial trivial ?_
        | (refine d_val rfl rfl trivial ?hc ?_; (case hc => (first | (simp only [need, imp, needIf]; done) | ((try simp only [need, imp, needIf]); (repeat' apply And.intro) <;> (first | trivial | rfl | omega | (simp; done) | (simp; omega) | (intros; rfl) | (exact Nat.le_trans (Nat.mul_le_mul_right _ (show _ ≤ 100000000001 by omega)) (by decide)) | (intro hg_; first | exact hg_ | ((try simp only [decide_eq_true_eq] at hg_); (try rw [wi64 (by omega) (by omega)]); (repeat' apply And.intro) <;> (first | trivial | rfl | omega | (intros; rfl)))))))))
        | refine d_new rfl rfl rfl ⟨0, trivial⟩ trivial (fun _ _ => ?_)
        | (refine d_new rfl rfl rfl ⟨0, trivial⟩ ?hc (fun _ _ => ?_); (case hc => (first | (simp only [need, imp, needIf]; done) | ((try simp only [need, imp, needIf]); (repeat' apply And.intro) <;> (first | trivial | rfl | omega | (simp; done) | (simp; omega) | (intros; rfl) | (exact Nat.le_trans (Nat.mul_le_mul_right _ (show _ ≤ 100000000001 by omega)) (by decide)) | (intro hg_; first | exact hg_ | ((try simp only [decide_eq_true_eq] at hg_); (try rw [wi64 (by omega) (by omega)]); (repeat' apply And.intro) <;> (first | trivial | rfl | omega | (intros; rfl)))))))))
        | (refine d_new rfl rfl rfl ⟨(none, _), Nat.le_refl _⟩ ?hc (fun _ _ => ?_); (case hc => (first | (simp only [need, imp, needIf]; done) | ((try simp only [need, imp, needIf]); (repeat' apply And.intro) <;> (first | trivial | rfl | omega | (simp; done) | (simp; omega) | (intros; rfl) | (exact Nat.le_trans (Nat.mul_le_mul_right _ (show _ ≤ 100000000001 by omega)) (by decide)) | (intro hg_; first | exact hg_ | ((try simp only [decide_eq_true_eq] at hg_); (try rw [wi64 (by omega) (by omega)]); (repeat' apply And.intro) <;> (first | trivial | rfl | omega | (intros; rfl)))))))))
        | refine d_put rfl rfl rfl trivial trivial ?_
        | (refine d_put rfl rfl rfl trivial ?hc ?_; (case hc => (first | (simp only [need, imp, needIf]; done) | ((try simp only [need, imp, needIf]); (repeat' apply And.intro) <;> (first | trivial | rfl | omega | (simp; done) | (simp; omega) | (intros; rfl) | (exact Nat.le_trans (Nat.mul_le_mul_right _ (show _ ≤ 100000000001 by omega)) (by decide)) | (intro hg_; first | exact hg_ | ((try simp only [decide_eq_true_eq] at hg_); (try rw [wi64 (by omega) (by omega)]); (repeat' apply And.intro) <;> (first | trivial | rfl | omega | (intros; rfl)))))))))
        | refine d_nil ?_
        | refine s_skip ?_
        | refine s_block ?_
        | refine s_exit ?_
        | refine s_label ?_)
      refine s_draw rD13_5 rM13_5 rX13_5 rN13_5 rfl rfl ?_
      repeat (first
        | refine s_seq ?_
        | refine s_region ?_
        | refine o_val rfl rfl trivial trivial ?_
        | (refine o_val rfl rfl trivial ?hc ?_; (case hc => (first | (simp only [need, imp, needIf]; done) | ((try simp only [need, imp, needIf]); (repeat' apply And.intro) <;> (first | trivial | rfl | omega | (simp; done) | (simp; omega) | (intros; rfl) | (exact Nat.le_trans (Nat.mul_le_mul_right _ (show _ ≤ 100000000001 by omega)) (by decide)) | (intro hg_; first | exact hg_ | ((try simp only [decide_eq_true_eq] at hg_); (try rw [wi64 (by omega) (by omega)]); (repeat' apply And.intro) <;> (first | trivial | rfl | omega | (intros; rfl)))))))))
        | refine o_new rfl rfl rfl ⟨0, trivial⟩ trivial (fun _ _ => ?_)
        | (refine o_new rfl rfl rfl ⟨0, trivial⟩ ?hc (fun _ _ => ?_); (case hc => (first | (simp only [need, imp, needIf]; done) | ((try simp only [need, imp, needIf]); (repeat' apply And.intro) <;> (first | trivial | rfl | omega | (simp; done) | (simp; omega) | (intros; rfl) | (exact Nat.le_trans (Nat.mul_le_mul_right _ (show _ ≤ 100000000001 by omega)) (by decide)) | (intro hg_; first | exact hg_ | ((try simp only [decide_eq_true_eq] at hg_); (try rw [wi64 (by omega) (by omega)]); (repeat' apply And.intro) <;> (first | trivial | rfl | omega | (intros; rfl)))))))))
        | (refine o_new rfl rfl rfl ⟨(none, _), Nat.le_refl _⟩ ?hc (fun _ _ => ?_); (case hc => (first | (simp only [need, imp, needIf]; done) | ((try simp only [need, imp, needIf]); (repeat' apply And.intro) <;> (first | trivial | rfl | omega | (simp; done) | (simp; omega) | (intros; rfl) | (exact Nat.le_trans (Nat.mul_le_mul_right _ (show _ ≤ 100000000001 by omega)) (by decide)) | (intro hg_; first | exact hg_ | ((try simp only [decide_eq_true_eq] at hg_); (try rw [wi64 (by omega) (by omega)]); (repeat' apply And.intro) <;> (first | trivial | rfl | omega | (intros; rfl)))))))))
        | refine o_put rfl rfl rfl trivial trivial ?_
        | (refine o_put rfl rfl rfl trivial ?hc ?_; (case hc => (first | (simp only [need, imp, needIf]; done) | ((try simp only [need, imp, needIf]); (repeat' apply And.intro) <;> (first | trivial | rfl | omega | (simp; done) | (simp; omega) | (intros; rfl) | (exact Nat.le_trans (Nat.mul_le_mul_right _ (show _ ≤ 100000000001 by omega)) (by decide)) | (intro hg_; first | exact hg_ | ((try simp only [decide_eq_true_eq] at hg_); (try rw [wi64 (by omega) (by omega)]); (repeat' apply And.intro) <;> (first | trivial | rfl | omega | (intros; rfl)))))))))
        | refine o_nil ?_
        | refine d_val rfl rfl trivial trivial ?_
        | (refine d_val rfl rfl trivial ?hc ?_; (case hc => (first | (simp only [need, imp, needIf]; done) | ((try simp only [need, imp, needIf]); (repeat' apply And.intro) <;> (first | trivial | rfl | omega | (simp; done) | (simp; omega) | (intros; rfl) | (exact Nat.le_trans (Nat.mul_le_mul_right _ (show _ ≤ 100000000001 by omega)) (by decide)) | (intro hg_; first | exact hg_ | ((try simp only [decide_eq_true_eq] at hg_); (try rw [wi64 (by omega) (by omega)]); (repeat' apply And.intro) <;> (first | trivial | rfl | omega | (intros; rfl)))))))))
        | refine d_new rfl rfl rfl ⟨0, trivial⟩ trivial (fun _ _ => ?_)
        | (refine d_new rfl rfl rfl ⟨0, trivial⟩ ?hc (fun _ _ => ?_); (case hc => (first | (simp only [need, imp, needIf]; done) | ((try simp only [need, imp, needIf]); (repeat' apply And.intro) <;> (first | trivial | rfl | omega | (simp; done) | (simp; omega) | (intros; rfl) | (exact Nat.le_trans (Nat.mul_le_mul_right _ (show _ ≤ 100000000001 by omega)) (by decide)) | (intro hg_; first | exact hg_ | ((try simp only [decide_eq_true_eq] at hg_); (try rw [wi64 (by omega) (by omega)]); (repeat' apply And.intro) <;> (first | trivial | rfl | omega | (intros; rfl)))))))))
        | (refine d_new rfl rfl rfl ⟨(none, _), Nat.le_refl _⟩ ?hc (fun _ _ => ?_); (case hc => (first | (simp only [need, imp, needIf]; done) | ((try simp only [need, imp, needIf]); (repeat' apply And.intro) <;> (first | trivial | rfl | omega | (simp; done) | (simp; omega) | (intros; rfl) | (exact Nat.le_trans (Nat.mul_le_mul_right _ (show _ ≤ 100000000001 by omega)) (by decide)) | (intro hg_; first | exact hg_ | ((try simp only [decide_eq_true_eq] at hg_); (try rw [wi64 (by omega) (by omega)]); (repeat' apply And.intro) <;> (first | trivial | rfl | omega | (intros; rfl)))))))))
        | refine d_put rfl rfl rfl trivial trivial ?_
        | (refine d_put rfl rfl rfl trivial ?hc ?_; (case hc => (first | (simp only [need, imp, needIf]; done) | ((try simp only [need, imp, needIf]); (repeat' apply And.intro) <;> (first | trivial | rfl | omega | (simp; done) | (simp; omega) | (intros; rfl) | (exact Nat.le_trans (Nat.mul_le_mul_right _ (show _ ≤ 100000000001 by omega)) (by decide)) | (intro hg_; first | exact hg_ | ((try simp only [decide_eq_true_eq] at hg_); (try rw [wi64 (by omega) (by omega)]); (repeat' apply And.intro) <;> (first | trivial | rfl | omega | (intros; rfl)))))))))
        | refine d_nil ?_
        | refine s_skip ?_
        | refine s_block ?_
        | refine s_exit ?_
        | refine s_label ?_)
      rename_i a1 g1 _ _ a2 g2 _ _ a3 g3 _ _ a4 g4 _ _ a5 g5 _ _ a6 g6 _ _ a7 g7 _ _ a8 g8
      refine s_ret ?_
      refine ⟨_, _, rfl, ⟨⟨⟨rfl, rfl, rfl, Nat.zero_lt_one⟩, rfl⟩, trivial⟩, rfl, (a2, a4, a6, a8), ⟨?_, ?_, ?_, ?_⟩, rfl, ?_⟩
      · show n1 + 1 ≤ a2.2; omega
      · show n2 + 1 ≤ a4.2; omega
      · show n3 + 1 ≤ a6.2; omega
      · show n4 + 1 ≤ a8.2; omega
      · refine ⟨⟨⟨_, rfl, Blk.le_vrow ?_ (fapp2 rfl)⟩, fun _ h => h⟩, ⟨⟨_, rfl, Blk.le_vrow ?_ (fapp2 rfl)⟩, fun _ h => h⟩, ⟨⟨_, rfl, Blk.le_vrow ?_ (fapp2 rfl)⟩, fun _ h => h⟩, ⟨⟨_, rfl, Blk.le_vrow ?_ (fapp2 rfl)⟩, fun _ h => h⟩, trivial⟩
        all_goals omega
    · cases h0
  · cases h0
theorem copied_body : HasBody Try.prog 13 := ⟨_, Try.func13, rfl, by decide⟩
end Go.Proofs.Ytofophjfgalhaaa.V
