import Derived.Test.YtaohdlepocajcaaVF6
/-! Add to a tally that holds nothing yet. -/
namespace Go.Proofs.Ytaohdlepocajcaa.V
open Go Go.RowKit

theorem mp_ne {w : World} {mine : Bool} {b : Nat} {l : List (AV × AV × Nat)} {clk : Nat} (hm : (Blk.mp mine b l clk).holds w) {base : Option (Nat × Nat)} {es len : Nat} {f : Nat → AV} (hr : (roB base es len f).holds w) {k : Nat} (hk : (roB base es len f).reads k) : k ≠ b := by
  obtain ⟨h0, ix, o, hl, hb⟩ := hk
  obtain ⟨h1, _, h2⟩ := (hr ix).2 k o hb 0 hl
  obtain ⟨es', hh, _⟩ := hm
  have h3 := h2 0 h0
  rw [List.getElem?_eq_getElem (by rw [AV.size_cells]; omega)] at h3
  intro e
  subst e
  unfold World.cell? at h3
  simp [hh] at h3

theorem slV_inj {b1 b2 : Option (Nat × Nat)} {n1 c1 n2 c2 : Nat} (h : slV b1 n1 c1 = slV b2 n2 c2) : b1 = b2 ∧ n1 = n2 ∧ c1 = c2 := by
  unfold slV at h
  injection h with h1 h2 h3
  refine ⟨?_, h2, h3⟩
  cases b1 with
  | none => cases b2 with
    | none => rfl
    | some y => cases h1
  | some x => cases b2 with
    | none => cases h1
    | some y =>
      injection h1 with h1
      injection h1 with h1 h4
      exact congrArg some (Prod.ext h1 h4)
def noneMC (args : List AV) (M : MemF) : Option (Prop × AV) := match args with
  | [t] => match madeOf M t with
    | some (c, _) => some (c, .v (.bool false))
    | none => none
  | _ => none
set_option maxRecDepth 100000 in
theorem noneM_read : ReadFn Try.prog 33 noneMC := by
  intro args M q res h hq O w0 w hS
  unfold noneMC at h
  split at h
  · rename_i t
    split at h
    · rename_i c r hm
      cases h
      obtain ⟨hh, cs, qq, tt, pr, vs, asd⟩ := r
      obtain ⟨p, es, f, base, n, cap, c2, rfl, h1, h2, h3, nv, bv, na, ba, rfl, rfl, hro⟩ := made_spec hS hm hq
      rw [show [AV.ptr p].map AV.val = [roP 901 p.b p.cell 7].map AV.val by simp only [List.map_cons, List.map_nil, ptr_val, roP_val]]
      refine ro_fn tabs (ct := []) trivial (cr := []) trivial Try.func33 rfl rfl (M := [(901, roB (some (p.b, p.cell)) 7 1 fun _ => talAV hh (roS 902 base es n cap) qq tt pr (.mp 903 bv) (.mp 904 ba))]) rfl ⟨roB_noOwn, trivial⟩ ⟨hro _ _ _, trivial⟩ ?_
      repeat (first
        | refine s_seq ?_
        | refine s_region ?_
        | refine o_val rfl rfl trivial trivial ?_
        | refine o_new rfl rfl rfl ⟨0, trivial⟩ trivial (fun _ _ => ?_)
        | refine o_new rfl rfl rfl ⟨(), trivial⟩ trivial (fun _ _ => ?_)
        | refine o_put rfl rfl rfl trivial trivial ?_
        | refine o_nil ?_
        | refine d_val rfl rfl trivial trivial ?_
        | refine d_new rfl rfl rfl ⟨0, trivial⟩ trivial (fun _ _ => ?_)
        | refine d_new rfl rfl rfl ⟨(), trivial⟩ trivial (fun _ _ => ?_)
        | refine d_put rfl rfl rfl trivial trivial ?_
        | refine d_nil ?_
        | refine s_skip ?_
        | refine s_block ?_
        | refine s_exit ?_
        | refine s_label ?_
        | ((first | refine o_val rfl rfl trivial ?hc ?_ | refine o_new rfl rfl rfl ⟨0, trivial⟩ ?hc (fun _ _ => ?_) | refine o_new rfl rfl rfl ⟨(none, _), Nat.le_refl _⟩ ?hc (fun _ _ => ?_) | refine o_new rfl rfl rfl ⟨(), trivial⟩ ?hc (fun _ _ => ?_) | refine o_put rfl rfl rfl trivial ?hc ?_ | refine d_val rfl rfl trivial ?hc ?_ | refine d_new rfl rfl rfl ⟨0, trivial⟩ ?hc (fun _ _ => ?_) | refine d_new rfl rfl rfl ⟨(none, _), Nat.le_refl _⟩ ?hc (fun _ _ => ?_) | refine d_new rfl rfl rfl ⟨(), trivial⟩ ?hc (fun _ _ => ?_) | refine d_put rfl rfl rfl trivial ?hc ?_); (case hc => (first | ((try simp only [needIf]); (try simp only [need]); (try simp only [imp]); done) | ((try simp only [needIf]); (try simp only [need]); (try simp only [imp]); (try simp only [cutOff]); (repeat' apply And.intro) <;> (first | trivial | rfl | omega | (simp; done) | (simp; omega) | (intros; rfl) | (intros; trivial) | (exact Nat.le_trans (Nat.mul_le_mul_right _ (show _ ≤ 100000000001 by omega)) (by decide)) | (intro hg_; first | exact hg_ | ((try simp only [decide_eq_true_eq] at hg_); (try rw [wi64 (by omega) (by omega)]); (repeat' apply And.intro) <;> (first | trivial | rfl | omega | (intros; rfl) | (intros; trivial))))))))))
      refine s_ret ?_
      exact ⟨_, _, rfl, ⟨trivial, trivial⟩, rfl, rfl⟩
    · cases h
  · cases h
set_option maxRecDepth 100000 in
theorem noneM_body : HasBody Try.prog 33 := ⟨_, Try.func33, rfl, by decide⟩

def winF (pr r : Int) : Bool := ((decide (r ≥ 0) && decide (r ≤ 65535)) && decide (r ≥ IntKind.i64.wrap (pr - 3))) && decide (r ≤ IntKind.i64.wrap (pr + 3))
def winMC (args : List AV) (M : MemF) : Option (Prop × AV) := match args with
  | [t, .v (.int .i64 r)] => match madeOf M t with
    | some (c, _, _, _, _, pr, _) => some (c, .v (.bool (winF pr r)))
    | none => none
  | _ => none
set_option maxRecDepth 100000 in
theorem winM_read : ReadFn Try.prog 35 winMC := by
  intro args M q res h hq O w0 w hS
  unfold winMC at h
  split at h
  · rename_i t r
    split at h
    · rename_i c hh cs qq tt pr rr hm
      cases h
      obtain ⟨vs, asd⟩ := rr
      obtain ⟨p, es, f, base, n, cap, c2, rfl, h1, h2, h3, nv, bv, na, ba, rfl, rfl, hro⟩ := made_spec hS hm hq
      rw [show [AV.ptr p, .v (.int .i64 r)].map AV.val = [roP 901 p.b p.cell 7, .v (.int .i64 r)].map AV.val by simp only [List.map_cons, List.map_nil, ptr_val, roP_val]]
      refine ro_fn tabs (ct := []) trivial (cr := []) trivial Try.func35 rfl rfl (M := [(901, roB (some (p.b, p.cell)) 7 1 fun _ => talAV hh (roS 902 base es n cap) qq tt pr (.mp 903 bv) (.mp 904 ba))]) rfl ⟨roB_noOwn, trivial⟩ ⟨hro _ _ _, trivial⟩ ?_
      repeat (first
        | refine s_seq ?_
        | refine s_region ?_
        | refine o_val rfl rfl trivial trivial ?_
        | refine o_new rfl rfl rfl ⟨0, trivial⟩ trivial (fun _ _ => ?_)
        | refine o_new rfl rfl rfl ⟨(), trivial⟩ trivial (fun _ _ => ?_)
        | refine o_put rfl rfl rfl trivial trivial ?_
        | refine o_nil ?_
        | refine d_val rfl rfl trivial trivial ?_
        | refine d_new rfl rfl rfl ⟨0, trivial⟩ trivial (fun _ _ => ?_)
        | refine d_new rfl rfl rfl ⟨(), trivial⟩ trivial (fun _ _ => ?_)
        | refine d_put rfl rfl rfl trivial trivial ?_
        | refine d_nil ?_
        | refine s_skip ?_
        | refine s_block ?_
        | refine s_exit ?_
        | refine s_label ?_
        | ((first | refine o_val rfl rfl trivial ?hc ?_ | refine o_new rfl rfl rfl ⟨0, trivial⟩ ?hc (fun _ _ => ?_) | refine o_new rfl rfl rfl ⟨(none, _), Nat.le_refl _⟩ ?hc (fun _ _ => ?_) | refine o_new rfl rfl rfl ⟨(), trivial⟩ ?hc (fun _ _ => ?_) | refine o_put rfl rfl rfl trivial ?hc ?_ | refine d_val rfl rfl trivial ?hc ?_ | refine d_new rfl rfl rfl ⟨0, trivial⟩ ?hc (fun _ _ => ?_) | refine d_new rfl rfl rfl ⟨(none, _), Nat.le_refl _⟩ ?hc (fun _ _ => ?_) | refine d_new rfl rfl rfl ⟨(), trivial⟩ ?hc (fun _ _ => ?_) | refine d_put rfl rfl rfl trivial ?hc ?_); (case hc => (first | ((try simp only [needIf]); (try simp only [need]); (try simp only [imp]); done) | ((try simp only [needIf]); (try simp only [need]); (try simp only [imp]); (try simp only [cutOff]); (repeat' apply And.intro) <;> (first | trivial | rfl | omega | (simp; done) | (simp; omega) | (intros; rfl) | (intros; trivial) | (exact Nat.le_trans (Nat.mul_le_mul_right _ (show _ ≤ 100000000001 by omega)) (by decide)) | (intro hg_; first | exact hg_ | ((try simp only [decide_eq_true_eq] at hg_); (try rw [wi64 (by omega) (by omega)]); (repeat' apply And.intro) <;> (first | trivial | rfl | omega | (intros; rfl) | (intros; trivial))))))))))
      refine s_ret ?_
      exact ⟨_, _, rfl, ⟨trivial, trivial⟩, rfl, rfl⟩
    · cases h
  · cases h
set_option maxRecDepth 100000 in
theorem winM_body : HasBody Try.prog 35 := ⟨_, Try.func35, rfl, by decide⟩

/-- the first vote of a fresh tally -/
def badV (x : Vote) : Bool := (((x.kind != 1) && (x.kind != 2)) || decide (x.round < 0)) || decide (x.round > 65535)
def addMC (_tag : Nat) (args : List AV) (M : MemF) : Option Res := match args with
  | [t, V] => match madeOf M t, decV V with
    | some (c, h, cs, _, _, pr, .mp nv bv, _), some x => match mbsOf M cs, M nv with
      | some (c2, n, g), some (.mp true b' [] clk) => some ⟨Unit, c ∧ c2 ∧ b' = bv ∧ badV x = false ∧ (x.height != h) = false ∧ decide (idxF g n x.from_ < 0) = false ∧ winF pr x.round = true, fun _ => True,
          fun _ => .tup (.cons newAdd (.cons (.v (.int .i64 0)) .nil)), [nv], fun _ => [.mp true bv [(plAV x.kind x.round (idxF g n x.from_), encV x, clk)] (clk + 1)]⟩
      | _, _ => none
    | _, _ => none
  | _ => none
def ctAdd : CtL := [(33, noneMC), (34, idxC), (35, winMC)]
set_option maxRecDepth 100000 in
theorem ctAdd_ok : CtLOk Try.prog ctAdd := ⟨.fn noneM_body noneM_read, .fn idx_body idx_read, .fn winM_body winM_read, trivial⟩
def crAdd : CrL := [(36, meetC)]
set_option maxRecDepth 100000 in
theorem crAdd_ok : CrLOk Try.prog crAdd := ⟨⟨meet_body, meet_turn⟩, trivial⟩
set_option maxRecDepth 100000 in
set_option maxHeartbeats 4000000 in
theorem addM_turn : TurnFn Try.prog 10 addMC := by
  intro tag args M r h0 hok O w0 w hS
  unfold addMC at h0
  split at h0
  · rename_i t V
    split at h0
    · rename_i c hh cs qq tt pr nv bv asd x hm hx
      split at h0
      · rename_i c2 n g b' clk hmb hM
        cases h0
        have hx := decV_enc hx
        subst hx
        obtain ⟨k1, k2, k3, k4, k5, k6, k7⟩ := hok
        subst k3
        have hmp := hS.holds _ _ hM
        obtain ⟨p, es, f, base, n', cap, c3, rfl, e1, e2, e3, nv', bv', na, ba, hvs, rfl, hro⟩ := made_spec hS hm k1
        cases hvs
        obtain ⟨hn, base', cap', hv', hro'⟩ := mbs_ro hS hmb k2
        have e4 := mbs_plain hmb
        rw [hv', e3] at e4
        obtain ⟨rfl, rfl, rfl⟩ := slV_inj (List.cons.inj e4).1
        rw [show [AV.ptr p, encV x].map AV.val = [roP 901 p.b p.cell 7, encV x].map AV.val by simp only [List.map_cons, List.map_nil, ptr_val, roP_val]]
        have hT := hro 900 904 3
        refine turn_fn tabs ctAdd_ok crAdd_ok Try.func10 rfl rfl hS _ [(900, .mp true b' [] clk), (901, roB (some (p.b, p.cell)) 7 1 fun _ => talAV hh (roS 902 base 3 n' cap) qq tt pr (.mp 900 b') (.mp 904 ba)), (902, roB base 3 n' fun i => encMb (g i))] [(900, nv)] [900] rfl ⟨hmp, hT, hro', trivial⟩ (fun n' B' k hn ho => ?_) (fun n' B' k hn hr => ?_) (fun a c n h1 h2 => ?_) (fun a n h => ?_) (by decide) rfl ?_
        · rw [Mem.get_cons] at hn
          split at hn
          · rename_i e; cases hn; subst e; exact ⟨nv, _, .head _, hM, ho⟩
          · rw [Mem.get_cons] at hn
            split at hn
            · cases hn; exact (roB_noOwn k ho).elim
            · rw [Mem.get_cons] at hn
              split at hn
              · cases hn; exact (roB_noOwn k ho).elim
              · cases hn
        · intro n2 B2 n3 hin hM2 ho2
          simp at hin
          obtain ⟨_, rfl⟩ := hin
          rw [hM] at hM2
          cases hM2
          have ho2 : k = b' := (show b' = k from ho2).symm
          rw [Mem.get_cons] at hn
          split at hn
          · cases hn; cases hr
          · rw [Mem.get_cons] at hn
            split at hn
            · cases hn; exact mp_ne hmp hT hr ho2
            · rw [Mem.get_cons] at hn
              split at hn
              · cases hn; exact mp_ne hmp hro' hr ho2
              · cases hn
        · simp at h1 h2; rw [h1.1, h2.1]
        · simp at h; rw [h.2]; exact .head _
        repeat (first
          | refine s_seq ?_
          | refine s_region ?_
          | refine o_val rfl rfl trivial trivial ?_
          | refine o_new rfl rfl rfl ⟨0, trivial⟩ trivial (fun _ _ => ?_)
          | refine o_new rfl rfl rfl ⟨(), trivial⟩ trivial (fun _ _ => ?_)
          | refine o_put rfl rfl rfl trivial trivial ?_
          | refine o_nil ?_
          | refine d_val rfl rfl trivial trivial ?_
          | refine d_new rfl rfl rfl ⟨0, trivial⟩ trivial (fun _ _ => ?_)
          | refine d_new rfl rfl rfl ⟨(), trivial⟩ trivial (fun _ _ => ?_)
          | refine d_put rfl rfl rfl trivial trivial ?_
          | refine d_nil ?_
          | refine s_skip ?_
          | refine s_block ?_
          | refine s_exit ?_
          | refine s_label ?_
          | ((first | refine o_val rfl rfl trivial ?hc ?_ | refine o_new rfl rfl rfl ⟨0, trivial⟩ ?hc (fun _ _ => ?_) | refine o_new rfl rfl rfl ⟨(none, _), Nat.le_refl _⟩ ?hc (fun _ _ => ?_) | refine o_new rfl rfl rfl ⟨(), trivial⟩ ?hc (fun _ _ => ?_) | refine o_put rfl rfl rfl trivial ?hc ?_ | refine d_val rfl rfl trivial ?hc ?_ | refine d_new rfl rfl rfl ⟨0, trivial⟩ ?hc (fun _ _ => ?_) | refine d_new rfl rfl rfl ⟨(none, _), Nat.le_refl _⟩ ?hc (fun _ _ => ?_) | refine d_new rfl rfl rfl ⟨(), trivial⟩ ?hc (fun _ _ => ?_) | refine d_put rfl rfl rfl trivial ?hc ?_); (case hc => (first | ((try simp only [needIf]); (try simp only [need]); (try simp only [imp]); done) | ((try simp only [needIf]); (try simp only [need]); (try simp only [imp]); (try simp only [cutOff]); (repeat' apply And.intro) <;> (first | trivial | rfl | omega | (simp; done) | (simp; omega) | (intros; rfl) | (intros; trivial) | (exact Nat.le_trans (Nat.mul_le_mul_right _ (show _ ≤ 100000000001 by omega)) (by decide)) | (intro hg_; first | exact hg_ | ((try simp only [decide_eq_true_eq] at hg_); (try rw [wi64 (by omega) (by omega)]); (repeat' apply And.intro) <;> (first | trivial | rfl | omega | (intros; rfl) | (intros; trivial))))))))))
        refine s_cond (b := false) rfl (fun h1 => by cases h1) (fun _ => ?_)
        repeat (first
          | refine s_seq ?_
          | refine s_region ?_
          | refine o_val rfl rfl trivial trivial ?_
          | refine o_new rfl rfl rfl ⟨0, trivial⟩ trivial (fun _ _ => ?_)
          | refine o_new rfl rfl rfl ⟨(), trivial⟩ trivial (fun _ _ => ?_)
          | refine o_put rfl rfl rfl trivial trivial ?_
          | refine o_nil ?_
          | refine d_val rfl rfl trivial trivial ?_
          | refine d_new rfl rfl rfl ⟨0, trivial⟩ trivial (fun _ _ => ?_)
          | refine d_new rfl rfl rfl ⟨(), trivial⟩ trivial (fun _ _ => ?_)
          | refine d_put rfl rfl rfl trivial trivial ?_
          | refine d_nil ?_
          | refine s_skip ?_
          | refine s_block ?_
          | refine s_exit ?_
          | refine s_label ?_
          | ((first | refine o_val rfl rfl trivial ?hc ?_ | refine o_new rfl rfl rfl ⟨0, trivial⟩ ?hc (fun _ _ => ?_) | refine o_new rfl rfl rfl ⟨(none, _), Nat.le_refl _⟩ ?hc (fun _ _ => ?_) | refine o_new rfl rfl rfl ⟨(), trivial⟩ ?hc (fun _ _ => ?_) | refine o_put rfl rfl rfl trivial ?hc ?_ | refine d_val rfl rfl trivial ?hc ?_ | refine d_new rfl rfl rfl ⟨0, trivial⟩ ?hc (fun _ _ => ?_) | refine d_new rfl rfl rfl ⟨(none, _), Nat.le_refl _⟩ ?hc (fun _ _ => ?_) | refine d_new rfl rfl rfl ⟨(), trivial⟩ ?hc (fun _ _ => ?_) | refine d_put rfl rfl rfl trivial ?hc ?_); (case hc => (first | ((try simp only [needIf]); (try simp only [need]); (try simp only [imp]); done) | ((try simp only [needIf]); (try simp only [need]); (try simp only [imp]); (try simp only [cutOff]); (repeat' apply And.intro) <;> (first | trivial | rfl | omega | (simp; done) | (simp; omega) | (intros; rfl) | (intros; trivial) | (exact Nat.le_trans (Nat.mul_le_mul_right _ (show _ ≤ 100000000001 by omega)) (by decide)) | (intro hg_; first | exact hg_ | ((try simp only [decide_eq_true_eq] at hg_); (try rw [wi64 (by omega) (by omega)]); (repeat' apply And.intro) <;> (first | trivial | rfl | omega | (intros; rfl) | (intros; trivial))))))))))
        refine s_cond (b := badV x) rfl (fun h1 => by rw [k4] at h1; cases h1) (fun _ => ?_)
        repeat (first
          | refine s_seq ?_
          | refine s_region ?_
          | refine o_val rfl rfl trivial trivial ?_
          | refine o_new rfl rfl rfl ⟨0, trivial⟩ trivial (fun _ _ => ?_)
          | refine o_new rfl rfl rfl ⟨(), trivial⟩ trivial (fun _ _ => ?_)
          | refine o_put rfl rfl rfl trivial trivial ?_
          | refine o_nil ?_
          | refine d_val rfl rfl trivial trivial ?_
          | refine d_new rfl rfl rfl ⟨0, trivial⟩ trivial (fun _ _ => ?_)
          | refine d_new rfl rfl rfl ⟨(), trivial⟩ trivial (fun _ _ => ?_)
          | refine d_put rfl rfl rfl trivial trivial ?_
          | refine d_nil ?_
          | refine s_skip ?_
          | refine s_block ?_
          | refine s_exit ?_
          | refine s_label ?_
          | ((first | refine o_val rfl rfl trivial ?hc ?_ | refine o_new rfl rfl rfl ⟨0, trivial⟩ ?hc (fun _ _ => ?_) | refine o_new rfl rfl rfl ⟨(none, _), Nat.le_refl _⟩ ?hc (fun _ _ => ?_) | refine o_new rfl rfl rfl ⟨(), trivial⟩ ?hc (fun _ _ => ?_) | refine o_put rfl rfl rfl trivial ?hc ?_ | refine d_val rfl rfl trivial ?hc ?_ | refine d_new rfl rfl rfl ⟨0, trivial⟩ ?hc (fun _ _ => ?_) | refine d_new rfl rfl rfl ⟨(none, _), Nat.le_refl _⟩ ?hc (fun _ _ => ?_) | refine d_new rfl rfl rfl ⟨(), trivial⟩ ?hc (fun _ _ => ?_) | refine d_put rfl rfl rfl trivial ?hc ?_); (case hc => (first | ((try simp only [needIf]); (try simp only [need]); (try simp only [imp]); done) | ((try simp only [needIf]); (try simp only [need]); (try simp only [imp]); (try simp only [cutOff]); (repeat' apply And.intro) <;> (first | trivial | rfl | omega | (simp; done) | (simp; omega) | (intros; rfl) | (intros; trivial) | (exact Nat.le_trans (Nat.mul_le_mul_right _ (show _ ≤ 100000000001 by omega)) (by decide)) | (intro hg_; first | exact hg_ | ((try simp only [decide_eq_true_eq] at hg_); (try rw [wi64 (by omega) (by omega)]); (repeat' apply And.intro) <;> (first | trivial | rfl | omega | (intros; rfl) | (intros; trivial))))))))))
        refine s_draw rD10_5 rM10_5 rX10_5 rN10_5 rfl rfl ?_
        repeat (first
          | refine s_seq ?_
          | refine s_region ?_
          | refine o_val rfl rfl trivial trivial ?_
          | refine o_new rfl rfl rfl ⟨0, trivial⟩ trivial (fun _ _ => ?_)
          | refine o_new rfl rfl rfl ⟨(), trivial⟩ trivial (fun _ _ => ?_)
          | refine o_put rfl rfl rfl trivial trivial ?_
          | refine o_nil ?_
          | refine d_val rfl rfl trivial trivial ?_
          | refine d_new rfl rfl rfl ⟨0, trivial⟩ trivial (fun _ _ => ?_)
          | refine d_new rfl rfl rfl ⟨(), trivial⟩ trivial (fun _ _ => ?_)
          | refine d_put rfl rfl rfl trivial trivial ?_
          | refine d_nil ?_
          | refine s_skip ?_
          | refine s_block ?_
          | refine s_exit ?_
          | refine s_label ?_
          | ((first | refine o_val rfl rfl trivial ?hc ?_ | refine o_new rfl rfl rfl ⟨0, trivial⟩ ?hc (fun _ _ => ?_) | refine o_new rfl rfl rfl ⟨(none, _), Nat.le_refl _⟩ ?hc (fun _ _ => ?_) | refine o_new rfl rfl rfl ⟨(), trivial⟩ ?hc (fun _ _ => ?_) | refine o_put rfl rfl rfl trivial ?hc ?_ | refine d_val rfl rfl trivial ?hc ?_ | refine d_new rfl rfl rfl ⟨0, trivial⟩ ?hc (fun _ _ => ?_) | refine d_new rfl rfl rfl ⟨(none, _), Nat.le_refl _⟩ ?hc (fun _ _ => ?_) | refine d_new rfl rfl rfl ⟨(), trivial⟩ ?hc (fun _ _ => ?_) | refine d_put rfl rfl rfl trivial ?hc ?_); (case hc => (first | ((try simp only [needIf]); (try simp only [need]); (try simp only [imp]); done) | ((try simp only [needIf]); (try simp only [need]); (try simp only [imp]); (try simp only [cutOff]); (repeat' apply And.intro) <;> (first | trivial | rfl | omega | (simp; done) | (simp; omega) | (intros; rfl) | (intros; trivial) | (exact Nat.le_trans (Nat.mul_le_mul_right _ (show _ ≤ 100000000001 by omega)) (by decide)) | (intro hg_; first | exact hg_ | ((try simp only [decide_eq_true_eq] at hg_); (try rw [wi64 (by omega) (by omega)]); (repeat' apply And.intro) <;> (first | trivial | rfl | omega | (intros; rfl) | (intros; trivial))))))))))
        refine s_cond (b := (x.height != hh)) rfl (fun h1 => by rw [k5] at h1; cases h1) (fun _ => ?_)
        repeat (first
          | refine s_seq ?_
          | refine s_region ?_
          | refine o_val rfl rfl trivial trivial ?_
          | refine o_new rfl rfl rfl ⟨0, trivial⟩ trivial (fun _ _ => ?_)
          | refine o_new rfl rfl rfl ⟨(), trivial⟩ trivial (fun _ _ => ?_)
          | refine o_put rfl rfl rfl trivial trivial ?_
          | refine o_nil ?_
          | refine d_val rfl rfl trivial trivial ?_
          | refine d_new rfl rfl rfl ⟨0, trivial⟩ trivial (fun _ _ => ?_)
          | refine d_new rfl rfl rfl ⟨(), trivial⟩ trivial (fun _ _ => ?_)
          | refine d_put rfl rfl rfl trivial trivial ?_
          | refine d_nil ?_
          | refine s_skip ?_
          | refine s_block ?_
          | refine s_exit ?_
          | refine s_label ?_
          | ((first | refine o_val rfl rfl trivial ?hc ?_ | refine o_new rfl rfl rfl ⟨0, trivial⟩ ?hc (fun _ _ => ?_) | refine o_new rfl rfl rfl ⟨(none, _), Nat.le_refl _⟩ ?hc (fun _ _ => ?_) | refine o_new rfl rfl rfl ⟨(), trivial⟩ ?hc (fun _ _ => ?_) | refine o_put rfl rfl rfl trivial ?hc ?_ | refine d_val rfl rfl trivial ?hc ?_ | refine d_new rfl rfl rfl ⟨0, trivial⟩ ?hc (fun _ _ => ?_) | refine d_new rfl rfl rfl ⟨(none, _), Nat.le_refl _⟩ ?hc (fun _ _ => ?_) | refine d_new rfl rfl rfl ⟨(), trivial⟩ ?hc (fun _ _ => ?_) | refine d_put rfl rfl rfl trivial ?hc ?_); (case hc => (first | ((try simp only [needIf]); (try simp only [need]); (try simp only [imp]); done) | ((try simp only [needIf]); (try simp only [need]); (try simp only [imp]); (try simp only [cutOff]); (repeat' apply And.intro) <;> (first | trivial | rfl | omega | (simp; done) | (simp; omega) | (intros; rfl) | (intros; trivial) | (exact Nat.le_trans (Nat.mul_le_mul_right _ (show _ ≤ 100000000001 by omega)) (by decide)) | (intro hg_; first | exact hg_ | ((try simp only [decide_eq_true_eq] at hg_); (try rw [wi64 (by omega) (by omega)]); (repeat' apply And.intro) <;> (first | trivial | rfl | omega | (intros; rfl) | (intros; trivial))))))))))
        refine s_draw rD10_7 rM10_7 rX10_7 rN10_7 rfl rfl ?_
        repeat (first
          | refine s_seq ?_
          | refine s_region ?_
          | refine o_val rfl rfl trivial trivial ?_
          | refine o_new rfl rfl rfl ⟨0, trivial⟩ trivial (fun _ _ => ?_)
          | refine o_new rfl rfl rfl ⟨(), trivial⟩ trivial (fun _ _ => ?_)
          | refine o_put rfl rfl rfl trivial trivial ?_
          | refine o_nil ?_
          | refine d_val rfl rfl trivial trivial ?_
          | refine d_new rfl rfl rfl ⟨0, trivial⟩ trivial (fun _ _ => ?_)
          | refine d_new rfl rfl rfl ⟨(), trivial⟩ trivial (fun _ _ => ?_)
          | refine d_put rfl rfl rfl trivial trivial ?_
          | refine d_nil ?_
          | refine s_skip ?_
          | refine s_block ?_
          | refine s_exit ?_
          | refine s_label ?_
          | ((first | refine o_val rfl rfl trivial ?hc ?_ | refine o_new rfl rfl rfl ⟨0, trivial⟩ ?hc (fun _ _ => ?_) | refine o_new rfl rfl rfl ⟨(none, _), Nat.le_refl _⟩ ?hc (fun _ _ => ?_) | refine o_new rfl rfl rfl ⟨(), trivial⟩ ?hc (fun _ _ => ?_) | refine o_put rfl rfl rfl trivial ?hc ?_ | refine d_val rfl rfl trivial ?hc ?_ | refine d_new rfl rfl rfl ⟨0, trivial⟩ ?hc (fun _ _ => ?_) | refine d_new rfl rfl rfl ⟨(none, _), Nat.le_refl _⟩ ?hc (fun _ _ => ?_) | refine d_new rfl rfl rfl ⟨(), trivial⟩ ?hc (fun _ _ => ?_) | refine d_put rfl rfl rfl trivial ?hc ?_); (case hc => (first | ((try simp only [needIf]); (try simp only [need]); (try simp only [imp]); done) | ((try simp only [needIf]); (try simp only [need]); (try simp only [imp]); (try simp only [cutOff]); (repeat' apply And.intro) <;> (first | trivial | rfl | omega | (simp; done) | (simp; omega) | (intros; rfl) | (intros; trivial) | (exact Nat.le_trans (Nat.mul_le_mul_right _ (show _ ≤ 100000000001 by omega)) (by decide)) | (intro hg_; first | exact hg_ | ((try simp only [decide_eq_true_eq] at hg_); (try rw [wi64 (by omega) (by omega)]); (repeat' apply And.intro) <;> (first | trivial | rfl | omega | (intros; rfl) | (intros; trivial))))))))))
        refine s_cond (b := decide (idxF g n' x.from_ < 0)) rfl (fun h1 => by rw [k6] at h1; cases h1) (fun _ => ?_)
        repeat (first
          | refine s_seq ?_
          | refine s_region ?_
          | refine o_val rfl rfl trivial trivial ?_
          | refine o_new rfl rfl rfl ⟨0, trivial⟩ trivial (fun _ _ => ?_)
          | refine o_new rfl rfl rfl ⟨(), trivial⟩ trivial (fun _ _ => ?_)
          | refine o_put rfl rfl rfl trivial trivial ?_
          | refine o_nil ?_
          | refine d_val rfl rfl trivial trivial ?_
          | refine d_new rfl rfl rfl ⟨0, trivial⟩ trivial (fun _ _ => ?_)
          | refine d_new rfl rfl rfl ⟨(), trivial⟩ trivial (fun _ _ => ?_)
          | refine d_put rfl rfl rfl trivial trivial ?_
          | refine d_nil ?_
          | refine s_skip ?_
          | refine s_block ?_
          | refine s_exit ?_
          | refine s_label ?_
          | ((first | refine o_val rfl rfl trivial ?hc ?_ | refine o_new rfl rfl rfl ⟨0, trivial⟩ ?hc (fun _ _ => ?_) | refine o_new rfl rfl rfl ⟨(none, _), Nat.le_refl _⟩ ?hc (fun _ _ => ?_) | refine o_new rfl rfl rfl ⟨(), trivial⟩ ?hc (fun _ _ => ?_) | refine o_put rfl rfl rfl trivial ?hc ?_ | refine d_val rfl rfl trivial ?hc ?_ | refine d_new rfl rfl rfl ⟨0, trivial⟩ ?hc (fun _ _ => ?_) | refine d_new rfl rfl rfl ⟨(none, _), Nat.le_refl _⟩ ?hc (fun _ _ => ?_) | refine d_new rfl rfl rfl ⟨(), trivial⟩ ?hc (fun _ _ => ?_) | refine d_put rfl rfl rfl trivial ?hc ?_); (case hc => (first | ((try simp only [needIf]); (try simp only [need]); (try simp only [imp]); done) | ((try simp only [needIf]); (try simp only [need]); (try simp only [imp]); (try simp only [cutOff]); (repeat' apply And.intro) <;> (first | trivial | rfl | omega | (simp; done) | (simp; omega) | (intros; rfl) | (intros; trivial) | (exact Nat.le_trans (Nat.mul_le_mul_right _ (show _ ≤ 100000000001 by omega)) (by decide)) | (intro hg_; first | exact hg_ | ((try simp only [decide_eq_true_eq] at hg_); (try rw [wi64 (by omega) (by omega)]); (repeat' apply And.intro) <;> (first | trivial | rfl | omega | (intros; rfl) | (intros; trivial))))))))))
        refine s_cond (b := winF pr x.round) rfl (fun _ => ?_) (fun h1 => by rw [k7] at h1; cases h1)
        repeat (first
          | refine s_seq ?_
          | refine s_region ?_
          | refine o_val rfl rfl trivial trivial ?_
          | refine o_new rfl rfl rfl ⟨0, trivial⟩ trivial (fun _ _ => ?_)
          | refine o_new rfl rfl rfl ⟨(), trivial⟩ trivial (fun _ _ => ?_)
          | refine o_put rfl rfl rfl trivial trivial ?_
          | refine o_nil ?_
          | refine d_val rfl rfl trivial trivial ?_
          | refine d_new rfl rfl rfl ⟨0, trivial⟩ trivial (fun _ _ => ?_)
          | refine d_new rfl rfl rfl ⟨(), trivial⟩ trivial (fun _ _ => ?_)
          | refine d_put rfl rfl rfl trivial trivial ?_
          | refine d_nil ?_
          | refine s_skip ?_
          | refine s_block ?_
          | refine s_exit ?_
          | refine s_label ?_
          | ((first | refine o_val rfl rfl trivial ?hc ?_ | refine o_new rfl rfl rfl ⟨0, trivial⟩ ?hc (fun _ _ => ?_) | refine o_new rfl rfl rfl ⟨(none, _), Nat.le_refl _⟩ ?hc (fun _ _ => ?_) | refine o_new rfl rfl rfl ⟨(), trivial⟩ ?hc (fun _ _ => ?_) | refine o_put rfl rfl rfl trivial ?hc ?_ | refine d_val rfl rfl trivial ?hc ?_ | refine d_new rfl rfl rfl ⟨0, trivial⟩ ?hc (fun _ _ => ?_) | refine d_new rfl rfl rfl ⟨(none, _), Nat.le_refl _⟩ ?hc (fun _ _ => ?_) | refine d_new rfl rfl rfl ⟨(), trivial⟩ ?hc (fun _ _ => ?_) | refine d_put rfl rfl rfl trivial ?hc ?_); (case hc => (first | ((try simp only [needIf]); (try simp only [need]); (try simp only [imp]); done) | ((try simp only [needIf]); (try simp only [need]); (try simp only [imp]); (try simp only [cutOff]); (repeat' apply And.intro) <;> (first | trivial | rfl | omega | (simp; done) | (simp; omega) | (intros; rfl) | (intros; trivial) | (exact Nat.le_trans (Nat.mul_le_mul_right _ (show _ ≤ 100000000001 by omega)) (by decide)) | (intro hg_; first | exact hg_ | ((try simp only [decide_eq_true_eq] at hg_); (try rw [wi64 (by omega) (by omega)]); (repeat' apply And.intro) <;> (first | trivial | rfl | omega | (intros; rfl) | (intros; trivial))))))))))
        refine s_draw rD10_11 rM10_11 [(4, [7]), (900, [6])] rN10_11 rfl rfl ?_
        repeat (first
          | refine s_seq ?_
          | refine s_region ?_
          | refine o_val rfl rfl trivial trivial ?_
          | refine o_new rfl rfl rfl ⟨0, trivial⟩ trivial (fun _ _ => ?_)
          | refine o_new rfl rfl rfl ⟨(), trivial⟩ trivial (fun _ _ => ?_)
          | refine o_put rfl rfl rfl trivial trivial ?_
          | refine o_nil ?_
          | refine d_val rfl rfl trivial trivial ?_
          | refine d_new rfl rfl rfl ⟨0, trivial⟩ trivial (fun _ _ => ?_)
          | refine d_new rfl rfl rfl ⟨(), trivial⟩ trivial (fun _ _ => ?_)
          | refine d_put rfl rfl rfl trivial trivial ?_
          | refine d_nil ?_
          | refine s_skip ?_
          | refine s_block ?_
          | refine s_exit ?_
          | refine s_label ?_
          | ((first | refine o_val rfl rfl trivial ?hc ?_ | refine o_new rfl rfl rfl ⟨0, trivial⟩ ?hc (fun _ _ => ?_) | refine o_new rfl rfl rfl ⟨(none, _), Nat.le_refl _⟩ ?hc (fun _ _ => ?_) | refine o_new rfl rfl rfl ⟨(), trivial⟩ ?hc (fun _ _ => ?_) | refine o_put rfl rfl rfl trivial ?hc ?_ | refine d_val rfl rfl trivial ?hc ?_ | refine d_new rfl rfl rfl ⟨0, trivial⟩ ?hc (fun _ _ => ?_) | refine d_new rfl rfl rfl ⟨(none, _), Nat.le_refl _⟩ ?hc (fun _ _ => ?_) | refine d_new rfl rfl rfl ⟨(), trivial⟩ ?hc (fun _ _ => ?_) | refine d_put rfl rfl rfl trivial ?hc ?_); (case hc => (first | ((try simp only [needIf]); (try simp only [need]); (try simp only [imp]); done) | ((try simp only [needIf]); (try simp only [need]); (try simp only [imp]); (try simp only [cutOff]); (repeat' apply And.intro) <;> (first | trivial | rfl | omega | (simp; done) | (simp; omega) | (intros; rfl) | (intros; trivial) | (exact Nat.le_trans (Nat.mul_le_mul_right _ (show _ ≤ 100000000001 by omega)) (by decide)) | (intro hg_; first | exact hg_ | ((try simp only [decide_eq_true_eq] at hg_); (try rw [wi64 (by omega) (by omega)]); (repeat' apply And.intro) <;> (first | trivial | rfl | omega | (intros; rfl) | (intros; trivial))))))))))
        refine s_ret ?_
        exact ⟨_, _, rfl, ⟨⟨⟨rfl, rfl, rfl, Nat.zero_lt_one⟩, rfl⟩, trivial, trivial⟩, rfl, (), trivial, rfl, ⟨⟨_, rfl, Blk.le_refl _⟩, fun _ h => h⟩, trivial⟩
      · cases h0
    · cases h0
  · cases h0
set_option maxRecDepth 100000 in
theorem addM_body : HasBody Try.prog 10 := ⟨_, Try.func10, rfl, by decide⟩
end Go.Proofs.Ytaohdlepocajcaa.V
