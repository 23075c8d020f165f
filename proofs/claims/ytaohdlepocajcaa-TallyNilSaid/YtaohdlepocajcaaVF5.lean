import Derived.Test.YtaohdlepocajcaaVF4
/-! tally.New, and what a made tally's methods answer. -/
namespace Go.Proofs.Ytaohdlepocajcaa.V
open Go Go.RowKit

theorem RowHolds.cells_eq {w : World} {b T es len cap : Nat} {f f' : Nat → AV} (h : RowHolds w b T es len f cap) (he : ∀ i, (f' i).size = (f i).size ∧ (f' i).one = (f i).one ∧ (f' i).cells = (f i).cells) : RowHolds w b T es len f' cap := by
  obtain ⟨c, h1, h2, h3, h4⟩ := h
  refine ⟨c, h1, h2, h3, fun i hi => ?_⟩
  obtain ⟨e1, e2, e3⟩ := he i
  obtain ⟨g1, g2, g3⟩ := h4 i hi
  exact ⟨e1.trans g1, e2.trans g2, fun k hk => by rw [e3]; exact g3 k hk⟩
theorem Blk.le_cells {b T es len cap : Nat} {f f' : Nat → AV} (he : ∀ i, (f' i).size = (f i).size ∧ (f' i).one = (f i).one ∧ (f' i).cells = (f i).cells) : (Blk.row b T es len f cap).le (.row b T es len f' cap) :=
  ⟨fun _ h => h, fun _ h => h, fun _ h => RowHolds.cells_eq h he⟩

def talAV (h : Int) (cs : AV) (q t p : Int) (vs asd : AV) : AV :=
  .agg (.cons (.v (.int .u64 h)) (.cons (.agg (.cons cs .nil)) (.cons (.v (.int .u64 q)) (.cons (.v (.int .u64 t)) (.cons (.v (.int .i64 p)) (.cons vs (.cons asd .nil)))))))
abbrev ChN := Nat × Nat × Nat × Option Nat × Nat
def newC (tag : Nat) (args : List AV) (M : MemF) : Option Res := match args with
  | [.v (.int .u64 h), .agg (.cons x .nil)] => match mbsOf M x with
    | some (c, n, g) => some ⟨ChN, c ∧ n < 100000000000 ∧ ((h == 0) || decide (h > 1099511627776)) = false ∧ ((soundF g n).2 != 0) = false, fun x => n ≤ x.2.2.2.2,
        fun x => .tup (.cons (.ptr ⟨tag, 0, x.1, 0, 7, 0, 0, 0, false⟩) (.cons (.v (.int .i64 0)) .nil)), [tag, tag + 10000, tag + 20000, tag + 30000],
        fun x => [.row x.1 67 7 1 (fun _ => talAV h (.gs (tag + 30000) 0 (ownB x.2.2.2.1) 3 0 n x.2.2.2.2) (shareF g n 2) (shareF g n 1) 0 (.mp (tag + 10000) x.2.1) (.mp (tag + 20000) x.2.2.1)) 1,
          .mp true x.2.1 [] 0, .mp true x.2.2.1 [] 0, .vrow x.2.2.2.1 88 3 n (fun i => encMb (g i)) x.2.2.2.2]⟩
    | none => none
  | _ => none
def SoundC2 := SoundC
def ctNew : CtL := [(28, SoundC), (30, quoC 2), (31, quoC 1)]
set_option maxRecDepth 100000 in
theorem ctNew_ok : CtLOk Try.prog ctNew := ⟨.fn Sound_body Sound_read, .fn quo_body quo_read, .fn thi_body thi_read, trivial⟩
def crNew : CrL := [(29, cloneC)]
set_option maxRecDepth 100000 in
theorem crNew_ok : CrLOk Try.prog crNew := ⟨⟨clone_body, clone_turn⟩, trivial⟩
set_option maxRecDepth 100000 in
set_option maxHeartbeats 4000000 in
theorem new_turn : TurnFn Try.prog 7 newC := by
  intro tag args M r h0 hok O w0 w hS
  unfold newC at h0
  split at h0
  · rename_i h x
    split at h0
    · rename_i c n g hm
      cases h0
      obtain ⟨hq, hnn, hh, hs⟩ := hok
      obtain ⟨hn, base, cap, hv, hro⟩ := mbs_ro hS hm hq
      have hpl := mbs_plain hm
      rw [hv] at hpl
      rw [show [.v (.int .u64 h), AV.agg (.cons x .nil)].map AV.val = [.v (.int .u64 h), AV.agg (.cons (roS 900 base 3 n cap) .nil)].map AV.val by simp only [List.map_cons, List.map_nil, agg1_val hpl (roS_cells 900 base 3 n cap)]]
      refine turn_fn tabs ctNew_ok crNew_ok Try.func7 rfl rfl hS _ [(900, roB base 3 n fun i => encMb (g i))] [] [30, 27, 28, 21] rfl ⟨hro, trivial⟩ (fun n' B' k hn ho => ?_) (fun _ _ _ _ _ _ _ _ h => (by cases h)) (fun _ _ _ h => (by cases h)) (fun _ _ h => (by cases h)) (by decide) rfl ?_
      · rw [Mem.get_cons] at hn
        split at hn
        · cases hn; exact (roB_noOwn k ho).elim
        · cases hn
      repeat (first
        | refine s_seq ?_
        | refine s_region ?_
        | refine o_val rfl rfl trivial trivial ?_
        | refine o_new rfl rfl rfl ⟨0, trivial⟩ trivial (fun _ _ => ?_)
        | refine o_new rfl rfl rfl ⟨(), trivial⟩ trivial (fun _ _ => ?_)
        | refine o_put rfl rfl rfl trivial trivial ?_
        | refine o_nil ?_
        | refine d_val rfl rfl trivial trivial ?_
        | refine d_new rfl rfl rfl ⟨0, trivial⟩ trivial (fun _ _ => ?_)
        | refine d_new rfl rfl rfl ⟨(), trivial⟩ trivial (fun _ _ => ?_)
        | refine d_put rfl rfl rfl trivial trivial ?_
        | refine d_nil ?_
        | refine s_skip ?_
        | refine s_block ?_
        | refine s_exit ?_
        | refine s_label ?_
        | ((first | refine o_val rfl rfl trivial ?hc ?_ | refine o_new rfl rfl rfl ⟨0, trivial⟩ ?hc (fun _ _ => ?_) | refine o_new rfl rfl rfl ⟨(none, _), Nat.le_refl _⟩ ?hc (fun _ _ => ?_) | refine o_new rfl rfl rfl ⟨(), trivial⟩ ?hc (fun _ _ => ?_) | refine o_put rfl rfl rfl trivial ?hc ?_ | refine d_val rfl rfl trivial ?hc ?_ | refine d_new rfl rfl rfl ⟨0, trivial⟩ ?hc (fun _ _ => ?_) | refine d_new rfl rfl rfl ⟨(none, _), Nat.le_refl _⟩ ?hc (fun _ _ => ?_) | refine d_new rfl rfl rfl ⟨(), trivial⟩ ?hc (fun _ _ => ?_) | refine d_put rfl rfl rfl trivial ?hc ?_); (case hc => (first | ((try simp only [needIf]); (try simp only [need]); (try simp only [imp]); done) | ((try simp only [needIf]); (try simp only [need]); (try simp only [imp]); (try simp only [cutOff]); (repeat' apply And.intro) <;> (first | trivial | rfl | omega | (simp; done) | (simp; omega) | (intros; rfl) | (intros; trivial) | (exact Nat.le_trans (Nat.mul_le_mul_right _ (show _ ≤ 100000000001 by omega)) (by decide)) | (intro hg_; first | exact hg_ | ((try simp only [decide_eq_true_eq] at hg_); (try rw [wi64 (by omega) (by omega)]); (repeat' apply And.intro) <;> (first | trivial | rfl | omega | (intros; rfl) | (intros; trivial))))))))))
      refine s_cond (b := (h == 0) || decide (h > 1099511627776)) rfl (fun h1 => by rw [hh] at h1; cases h1) (fun _ => ?_)
      repeat (first
        | refine s_seq ?_
        | refine s_region ?_
        | refine o_val rfl rfl trivial trivial ?_
        | refine o_new rfl rfl rfl ⟨0, trivial⟩ trivial (fun _ _ => ?_)
        | refine o_new rfl rfl rfl ⟨(), trivial⟩ trivial (fun _ _ => ?_)
        | refine o_put rfl rfl rfl trivial trivial ?_
        | refine o_nil ?_
        | refine d_val rfl rfl trivial trivial ?_
        | refine d_new rfl rfl rfl ⟨0, trivial⟩ trivial (fun _ _ => ?_)
        | refine d_new rfl rfl rfl ⟨(), trivial⟩ trivial (fun _ _ => ?_)
        | refine d_put rfl rfl rfl trivial trivial ?_
        | refine d_nil ?_
        | refine s_skip ?_
        | refine s_block ?_
        | refine s_exit ?_
        | refine s_label ?_
        | ((first | refine o_val rfl rfl trivial ?hc ?_ | refine o_new rfl rfl rfl ⟨0, trivial⟩ ?hc (fun _ _ => ?_) | refine o_new rfl rfl rfl ⟨(none, _), Nat.le_refl _⟩ ?hc (fun _ _ => ?_) | refine o_new rfl rfl rfl ⟨(), trivial⟩ ?hc (fun _ _ => ?_) | refine o_put rfl rfl rfl trivial ?hc ?_ | refine d_val rfl rfl trivial ?hc ?_ | refine d_new rfl rfl rfl ⟨0, trivial⟩ ?hc (fun _ _ => ?_) | refine d_new rfl rfl rfl ⟨(none, _), Nat.le_refl _⟩ ?hc (fun _ _ => ?_) | refine d_new rfl rfl rfl ⟨(), trivial⟩ ?hc (fun _ _ => ?_) | refine d_put rfl rfl rfl trivial ?hc ?_); (case hc => (first | ((try simp only [needIf]); (try simp only [need]); (try simp only [imp]); done) | ((try simp only [needIf]); (try simp only [need]); (try simp only [imp]); (try simp only [cutOff]); (repeat' apply And.intro) <;> (first | trivial | rfl | omega | (simp; done) | (simp; omega) | (intros; rfl) | (intros; trivial) | (exact Nat.le_trans (Nat.mul_le_mul_right _ (show _ ≤ 100000000001 by omega)) (by decide)) | (intro hg_; first | exact hg_ | ((try simp only [decide_eq_true_eq] at hg_); (try rw [wi64 (by omega) (by omega)]); (repeat' apply And.intro) <;> (first | trivial | rfl | omega | (intros; rfl) | (intros; trivial))))))))))
      refine s_cond (b := ((soundF g n).2 != 0)) rfl (fun h1 => by rw [hs] at h1; cases h1) (fun _ => ?_)
      repeat (first
        | refine s_seq ?_
        | refine s_region ?_
        | refine o_val rfl rfl trivial trivial ?_
        | refine o_new rfl rfl rfl ⟨0, trivial⟩ trivial (fun _ _ => ?_)
        | refine o_new rfl rfl rfl ⟨(), trivial⟩ trivial (fun _ _ => ?_)
        | refine o_put rfl rfl rfl trivial trivial ?_
        | refine o_nil ?_
        | refine d_val rfl rfl trivial trivial ?_
        | refine d_new rfl rfl rfl ⟨0, trivial⟩ trivial (fun _ _ => ?_)
        | refine d_new rfl rfl rfl ⟨(), trivial⟩ trivial (fun _ _ => ?_)
        | refine d_put rfl rfl rfl trivial trivial ?_
        | refine d_nil ?_
        | refine s_skip ?_
        | refine s_block ?_
        | refine s_exit ?_
        | refine s_label ?_
        | ((first | refine o_val rfl rfl trivial ?hc ?_ | refine o_new rfl rfl rfl ⟨0, trivial⟩ ?hc (fun _ _ => ?_) | refine o_new rfl rfl rfl ⟨(none, _), Nat.le_refl _⟩ ?hc (fun _ _ => ?_) | refine o_new rfl rfl rfl ⟨(), trivial⟩ ?hc (fun _ _ => ?_) | refine o_put rfl rfl rfl trivial ?hc ?_ | refine d_val rfl rfl trivial ?hc ?_ | refine d_new rfl rfl rfl ⟨0, trivial⟩ ?hc (fun _ _ => ?_) | refine d_new rfl rfl rfl ⟨(none, _), Nat.le_refl _⟩ ?hc (fun _ _ => ?_) | refine d_new rfl rfl rfl ⟨(), trivial⟩ ?hc (fun _ _ => ?_) | refine d_put rfl rfl rfl trivial ?hc ?_); (case hc => (first | ((try simp only [needIf]); (try simp only [need]); (try simp only [imp]); done) | ((try simp only [needIf]); (try simp only [need]); (try simp only [imp]); (try simp only [cutOff]); (repeat' apply And.intro) <;> (first | trivial | rfl | omega | (simp; done) | (simp; omega) | (intros; rfl) | (intros; trivial) | (exact Nat.le_trans (Nat.mul_le_mul_right _ (show _ ≤ 100000000001 by omega)) (by decide)) | (intro hg_; first | exact hg_ | ((try simp only [decide_eq_true_eq] at hg_); (try rw [wi64 (by omega) (by omega)]); (repeat' apply And.intro) <;> (first | trivial | rfl | omega | (intros; rfl) | (intros; trivial))))))))))
      refine s_draw rD7_6 rM7_6 rX7_6 rN7_6 rfl rfl ?_
      repeat (first
        | refine s_seq ?_
        | refine s_region ?_
        | refine o_val rfl rfl trivial trivial ?_
        | refine o_new rfl rfl rfl ⟨0, trivial⟩ trivial (fun _ _ => ?_)
        | refine o_new rfl rfl rfl ⟨(), trivial⟩ trivial (fun _ _ => ?_)
        | refine o_put rfl rfl rfl trivial trivial ?_
        | refine o_nil ?_
        | refine d_val rfl rfl trivial trivial ?_
        | refine d_new rfl rfl rfl ⟨0, trivial⟩ trivial (fun _ _ => ?_)
        | refine d_new rfl rfl rfl ⟨(), trivial⟩ trivial (fun _ _ => ?_)
        | refine d_put rfl rfl rfl trivial trivial ?_
        | refine d_nil ?_
        | refine s_skip ?_
        | refine s_block ?_
        | refine s_exit ?_
        | refine s_label ?_
        | ((first | refine o_val rfl rfl trivial ?hc ?_ | refine o_new rfl rfl rfl ⟨0, trivial⟩ ?hc (fun _ _ => ?_) | refine o_new rfl rfl rfl ⟨(none, _), Nat.le_refl _⟩ ?hc (fun _ _ => ?_) | refine o_new rfl rfl rfl ⟨(), trivial⟩ ?hc (fun _ _ => ?_) | refine o_put rfl rfl rfl trivial ?hc ?_ | refine d_val rfl rfl trivial ?hc ?_ | refine d_new rfl rfl rfl ⟨0, trivial⟩ ?hc (fun _ _ => ?_) | refine d_new rfl rfl rfl ⟨(none, _), Nat.le_refl _⟩ ?hc (fun _ _ => ?_) | refine d_new rfl rfl rfl ⟨(), trivial⟩ ?hc (fun _ _ => ?_) | refine d_put rfl rfl rfl trivial ?hc ?_); (case hc => (first | ((try simp only [needIf]); (try simp only [need]); (try simp only [imp]); done) | ((try simp only [needIf]); (try simp only [need]); (try simp only [imp]); (try simp only [cutOff]); (repeat' apply And.intro) <;> (first | trivial | rfl | omega | (simp; done) | (simp; omega) | (intros; rfl) | (intros; trivial) | (exact Nat.le_trans (Nat.mul_le_mul_right _ (show _ ≤ 100000000001 by omega)) (by decide)) | (intro hg_; first | exact hg_ | ((try simp only [decide_eq_true_eq] at hg_); (try rw [wi64 (by omega) (by omega)]); (repeat' apply And.intro) <;> (first | trivial | rfl | omega | (intros; rfl) | (intros; trivial))))))))))
      rename_i y hy bv _ ba _ bt _
      refine s_ret ?_
      exact ⟨_, _, rfl, ⟨trivial, trivial, trivial⟩, rfl, (bt, bv, ba, y), hy, rfl,
        ⟨⟨_, rfl, Blk.le_cells fun _ => ⟨rfl, rfl, rfl⟩⟩, fun _ h => h⟩, ⟨⟨_, rfl, Blk.le_refl _⟩, fun _ h => h⟩, ⟨⟨_, rfl, Blk.le_refl _⟩, fun _ h => h⟩, ⟨⟨_, rfl, Blk.le_vrow (Nat.le_refl _) fun i _ => rfl⟩, fun _ h => h⟩, trivial⟩
    · cases h0
  · cases h0
set_option maxRecDepth 100000 in
theorem new_body : HasBody Try.prog 7 := ⟨_, Try.func7, rfl, by decide⟩
end Go.Proofs.Ytaohdlepocajcaa.V
