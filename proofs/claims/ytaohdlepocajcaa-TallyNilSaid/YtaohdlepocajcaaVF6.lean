import Derived.Test.YtaohdlepocajcaaVF5
/-! A vote that comes into an empty map of a tally; a made tally's methods. -/
namespace Go.Proofs.Ytaohdlepocajcaa.V
open Go Go.RowKit

def plAV (k r m : Int) : AV := .agg (.cons (.v (.int .i64 k)) (.cons (.v (.int .i64 r)) (.cons (.v (.int .i64 m)) .nil)))
def zeroEv : AV := .agg (.cons row43.zero (.cons row43.zero .nil))
def newAdd : AV := .agg (.cons (.v (.bool true)) (.cons (.v (.bool false)) (.cons (.v (.bool false)) (.cons (.v (.bool false)) (.cons zeroEv .nil)))))
def meetC (_tag : Nat) (args : List AV) (M : MemF) : Option Res := match args with
  | [.mp n b, .agg (.cons (.v (.int .i64 k)) (.cons (.v (.int .i64 r)) (.cons (.v (.int .i64 m)) .nil))), V] => match M n, decV V with
    | some (.mp true b' [] clk), some x => some ⟨Unit, b' = b, fun _ => True, fun _ => newAdd, [n], fun _ => [.mp true b [(plAV k r m, encV x, clk)] (clk + 1)]⟩
    | _, _ => none
  | _ => none
set_option maxRecDepth 100000 in
theorem meet_turn : TurnFn Try.prog 36 meetC := by
  intro tag args M r h0 hok O w0 w hS
  unfold meetC at h0
  split at h0
  · rename_i n b k r m V
    split at h0
    · rename_i b' clk x hM hx
      cases h0
      have hx := decV_enc hx
      subst hx
      have hok : b' = b := hok
      subst hok
      have hh := hS.holds _ _ hM
      refine (show Calls Try.prog 36 ([AV.mp 900 b', plAV k r m, encV x].map AV.val).toArray w _ from ?_)
      refine turn_fn tabs (ct := []) trivial (cr := []) trivial Try.func36 rfl rfl hS _ [(900, .mp true b' [] clk)] [(900, n)] [900] rfl ⟨hh, trivial⟩ (fun n' B' k hn ho => ?_) (fun n' B' k hn hr => ?_) (fun a c n h1 h2 => ?_) (fun a n h => ?_) (by decide) rfl ?_
      · rw [Mem.get_cons] at hn
        split at hn
        · rename_i e; cases hn; subst e; exact ⟨n, _, .head _, hM, ho⟩
        · cases hn
      · rw [Mem.get_cons] at hn
        split at hn
        · cases hn; cases hr
        · cases hn
      · simp at h1 h2; rw [h1.1, h2.1]
      · simp at h; rw [h.2]; exact .head _
      repeat (first
        | refine s_seq ?_
        | refine s_region ?_
        | refine o_val rfl rfl trivial trivial ?_
        | refine o_new rfl rfl rfl ⟨0, trivial⟩ trivial (fun _ _ => ?_)
        | refine o_new rfl rfl rfl ⟨(), trivial⟩ trivial (fun _ _ => ?_)
        | refine o_put rfl rfl rfl trivial trivial ?_
        | refine o_nil ?_
        | refine d_val rfl rfl trivial trivial ?_
        | refine d_new rfl rfl rfl ⟨0, trivial⟩ trivial (fun _ _ => ?_)
        | refine d_new rfl rfl rfl ⟨(), trivial⟩ trivial (fun _ _ => ?_)
        | refine d_put rfl rfl rfl trivial trivial ?_
        | refine d_nil ?_
        | refine s_skip ?_
        | refine s_block ?_
        | refine s_exit ?_
        | refine s_label ?_
        | ((first | refine o_val rfl rfl trivial ?hc ?_ | refine o_new rfl rfl rfl ⟨0, trivial⟩ ?hc (fun _ _ => ?_) | refine o_new rfl rfl rfl ⟨(none, _), Nat.le_refl _⟩ ?hc (fun _ _ => ?_) | refine o_new rfl rfl rfl ⟨(), trivial⟩ ?hc (fun _ _ => ?_) | refine o_put rfl rfl rfl trivial ?hc ?_ | refine d_val rfl rfl trivial ?hc ?_ | refine d_new rfl rfl rfl ⟨0, trivial⟩ ?hc (fun _ _ => ?_) | refine d_new rfl rfl rfl ⟨(none, _), Nat.le_refl _⟩ ?hc (fun _ _ => ?_) | refine d_new rfl rfl rfl ⟨(), trivial⟩ ?hc (fun _ _ => ?_) | refine d_put rfl rfl rfl trivial ?hc ?_); (case hc => (first | ((try simp only [needIf]); (try simp only [need]); (try simp only [imp]); done) | ((try simp only [needIf]); (try simp only [need]); (try simp only [imp]); (try simp only [cutOff]); (repeat' apply And.intro) <;> (first | trivial | rfl | omega | (simp; done) | (simp; omega) | (intros; rfl) | (intros; trivial) | (exact Nat.le_trans (Nat.mul_le_mul_right _ (show _ ≤ 100000000001 by omega)) (by decide)) | (intro hg_; first | exact hg_ | ((try simp only [decide_eq_true_eq] at hg_); (try rw [wi64 (by omega) (by omega)]); (repeat' apply And.intro) <;> (first | trivial | rfl | omega | (intros; rfl) | (intros; trivial))))))))))
      refine s_cond (b := true) rfl (fun _ => ?_) (fun h1 => by cases h1)
      repeat (first
        | refine s_seq ?_
        | refine s_region ?_
        | refine o_val rfl rfl trivial trivial ?_
        | refine o_new rfl rfl rfl ⟨0, trivial⟩ trivial (fun _ _ => ?_)
        | refine o_new rfl rfl rfl ⟨(), trivial⟩ trivial (fun _ _ => ?_)
        | refine o_put rfl rfl rfl trivial trivial ?_
        | refine o_nil ?_
        | refine d_val rfl rfl trivial trivial ?_
        | refine d_new rfl rfl rfl ⟨0, trivial⟩ trivial (fun _ _ => ?_)
        | refine d_new rfl rfl rfl ⟨(), trivial⟩ trivial (fun _ _ => ?_)
        | refine d_put rfl rfl rfl trivial trivial ?_
        | refine d_nil ?_
        | refine s_skip ?_
        | refine s_block ?_
        | refine s_exit ?_
        | refine s_label ?_
        | ((first | refine o_val rfl rfl trivial ?hc ?_ | refine o_new rfl rfl rfl ⟨0, trivial⟩ ?hc (fun _ _ => ?_) | refine o_new rfl rfl rfl ⟨(none, _), Nat.le_refl _⟩ ?hc (fun _ _ => ?_) | refine o_new rfl rfl rfl ⟨(), trivial⟩ ?hc (fun _ _ => ?_) | refine o_put rfl rfl rfl trivial ?hc ?_ | refine d_val rfl rfl trivial ?hc ?_ | refine d_new rfl rfl rfl ⟨0, trivial⟩ ?hc (fun _ _ => ?_) | refine d_new rfl rfl rfl ⟨(none, _), Nat.le_refl _⟩ ?hc (fun _ _ => ?_) | refine d_new rfl rfl rfl ⟨(), trivial⟩ ?hc (fun _ _ => ?_) | refine d_put rfl rfl rfl trivial ?hc ?_); (case hc => (first | ((try simp only [needIf]); (try simp only [need]); (try simp only [imp]); done) | ((try simp only [needIf]); (try simp only [need]); (try simp only [imp]); (try simp only [cutOff]); (repeat' apply And.intro) <;> (first | trivial | rfl | omega | (simp; done) | (simp; omega) | (intros; rfl) | (intros; trivial) | (exact Nat.le_trans (Nat.mul_le_mul_right _ (show _ ≤ 100000000001 by omega)) (by decide)) | (intro hg_; first | exact hg_ | ((try simp only [decide_eq_true_eq] at hg_); (try rw [wi64 (by omega) (by omega)]); (repeat' apply And.intro) <;> (first | trivial | rfl | omega | (intros; rfl) | (intros; trivial))))))))))
      refine s_ret ?_
      exact ⟨_, _, rfl, ⟨⟨⟨rfl, rfl, rfl, Nat.zero_lt_one⟩, rfl⟩, trivial⟩, rfl, (), trivial, rfl, ⟨⟨_, rfl, Blk.le_refl _⟩, fun _ h => h⟩, trivial⟩
    · cases h0
  · cases h0
set_option maxRecDepth 100000 in
theorem meet_body : HasBody Try.prog 36 := ⟨_, Try.func36, rfl, by decide⟩

/-- a made tally -/
def madeOf (M : MemF) : AV → Option (Prop × Int × AV × Int × Int × Int × AV × AV)
  | .ptr p => match ptrOf M p true 7 with
    | some (c, .agg (.cons (.v (.int .u64 h)) (.cons (.agg (.cons cs .nil)) (.cons (.v (.int .u64 q)) (.cons (.v (.int .u64 t)) (.cons (.v (.int .i64 pr)) (.cons (.mp nv bv) (.cons (.mp na ba) .nil)))))))) => match seqOf M cs with
      | some (c2, _) => some (c ∧ c2, h, cs, q, t, pr, .mp nv bv, .mp na ba)
      | none => none
    | _ => none
  | _ => none
theorem made_spec {O : Nat → Prop} {w0 w : World} {M : MemF} (hS : Sat O w0 M w) {x : AV} {c : Prop} {h : Int} {cs : AV} {q t pr : Int} {vs asd : AV} (hm : madeOf M x = some (c, h, cs, q, t, pr, vs, asd)) (hc : c) :
    ∃ p es f base n cap c2, x = .ptr p ∧ seqOf M cs = some (c2, es, n, f) ∧ c2 ∧ cs.cells = [slV base n cap] ∧ ∃ nv bv na ba, vs = .mp nv bv ∧ asd = .mp na ba ∧
      ∀ t1 t2 E, (roB (some (p.b, p.cell)) 7 1 fun _ => talAV h (roS 902 base E n cap) q t pr (.mp t1 bv) (.mp t2 ba)).holds w := by
  unfold madeOf at hm
  split at hm
  · rename_i p
    split at hm
    · rename_i c0 h0 cs0 q0 t0 pr0 nv bv na ba hp
      split at hm
      · rename_i c2 r hs
        cases hm
        obtain ⟨hc1, hc2⟩ := hc
        obtain ⟨es, n, f⟩ := r
        obtain ⟨base, cap, hv, _⟩ := seqOf_spec hS hs hc2
        have hpl := seq_plain hs
        rw [hv] at hpl
        refine ⟨p, es, f, base, n, cap, c2, rfl, hs, hc2, hpl, nv, bv, na, ba, rfl, rfl, fun t1 t2 E => roB_holds fun _ => ⟨p.b, p.cell, rfl, ?_⟩⟩
        have hR := ptrOf_spec hS hp hc1
        intro i hi
        obtain ⟨h1, h2, h3⟩ := hR i hi
        refine ⟨rfl, rfl, fun k hk => ?_⟩
        rw [h3 k hk]
        simp only [talAV, AV.cells_agg, AV.cells_cons, hpl, roS_cells]; rfl
      · cases hm
    · cases hm
  · cases hm
end Go.Proofs.Ytaohdlepocajcaa.V
