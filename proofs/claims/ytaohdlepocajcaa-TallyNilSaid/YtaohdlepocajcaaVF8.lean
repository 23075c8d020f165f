import Derived.Test.YtaohdlepocajcaaVF7
/-! What has voted for an id, in a tally of one member and one vote. -/
namespace Go.Proofs.Ytaohdlepocajcaa.V
open Go Go.RowKit

def forId1C (args : List AV) (M : MemF) : Option (Prop × AV) := match args with
  | [V, .ptr p] => match decV V, ptrOf M p true 32 with
    | some x, some (c, .ints .u8 32 l) => some (c, .v (.bool (intsEq 32 x.id l)))
    | _, _ => none
  | _ => none
set_option maxRecDepth 100000 in
theorem forId1_read : ReadFn Try.prog 71 forId1C := by
  intro args M q res h hq O w0 w hS
  unfold forId1C at h
  split at h
  · rename_i V p
    split at h
    · rename_i x c l hx hp
      cases h
      have hx := decV_enc hx
      subst hx
      have hR := ptrOf_spec hS hp hq
      rw [show [encV x, AV.ptr p].map AV.val = [encV x, roP 901 p.b p.cell 32].map AV.val by simp only [List.map_cons, List.map_nil, ptr_val, roP_val]]
      refine ro_fn tabs (ct := []) trivial (cr := []) trivial Try.func71 rfl rfl (M := [(901, roB (some (p.b, p.cell)) 32 1 fun _ => .ints .u8 32 l)]) rfl ⟨roB_noOwn, trivial⟩ ⟨roB_holds fun _ => ⟨p.b, p.cell, rfl, hR⟩, trivial⟩ ?_
      repeat (first
        | refine s_seq ?_
        | refine s_region ?_
        | refine o_val rfl rfl trivial trivial ?_
        | refine o_new rfl rfl rfl ⟨0, trivial⟩ trivial (fun _ _ => ?_)
        | refine o_new rfl rfl rfl ⟨(), trivial⟩ trivial (fun _ _ => ?_)
        | refine o_put rfl rfl rfl trivial trivial ?_
        | refine o_nil ?_
        | refine d_val rfl rfl trivial trivial ?_
        | refine d_new rfl rfl rfl ⟨0, trivial⟩ trivial (fun _ _ => ?_)
        | refine d_new rfl rfl rfl ⟨(), trivial⟩ trivial (fun _ _ => ?_)
        | refine d_put rfl rfl rfl trivial trivial ?_
        | refine d_nil ?_
        | refine s_skip ?_
        | refine s_block ?_
        | refine s_exit ?_
        | refine s_label ?_
        | ((first | refine o_val rfl rfl trivial ?hc ?_ | refine o_new rfl rfl rfl ⟨0, trivial⟩ ?hc (fun _ _ => ?_) | refine o_new rfl rfl rfl ⟨(none, _), Nat.le_refl _⟩ ?hc (fun _ _ => ?_) | refine o_new rfl rfl rfl ⟨(), trivial⟩ ?hc (fun _ _ => ?_) | refine o_put rfl rfl rfl trivial ?hc ?_ | refine d_val rfl rfl trivial ?hc ?_ | refine d_new rfl rfl rfl ⟨0, trivial⟩ ?hc (fun _ _ => ?_) | refine d_new rfl rfl rfl ⟨(none, _), Nat.le_refl _⟩ ?hc (fun _ _ => ?_) | refine d_new rfl rfl rfl ⟨(), trivial⟩ ?hc (fun _ _ => ?_) | refine d_put rfl rfl rfl trivial ?hc ?_); (case hc => (first | ((try simp only [needIf]); (try simp only [need]); (try simp only [imp]); done) | ((try simp only [needIf]); (try simp only [need]); (try simp only [imp]); (try simp only [cutOff]); (repeat' apply And.intro) <;> (first | trivial | rfl | omega | (simp; done) | (simp; omega) | (intros; rfl) | (intros; trivial) | (exact Nat.le_trans (Nat.mul_le_mul_right _ (show _ ≤ 100000000001 by omega)) (by decide)) | (intro hg_; first | exact hg_ | ((try simp only [decide_eq_true_eq] at hg_); (try rw [wi64 (by omega) (by omega)]); (repeat' apply And.intro) <;> (first | trivial | rfl | omega | (intros; rfl) | (intros; trivial))))))))))
      refine s_ret ?_
      exact ⟨_, _, rfl, ⟨trivial, trivial⟩, rfl, rfl⟩
    · cases h
  · cases h
set_option maxRecDepth 100000 in
theorem forId1_body : HasBody Try.prog 71 := ⟨_, Try.func71, rfl, by decide⟩

/-- one member, one vote of its, by place (1, 0, 0) -/
def oneOf (M : MemF) (t : AV) (idp : Pt) : Option (Prop × Int × (Nat → Mb) × Vote × List Int) := match madeOf M t with
  | some (c, _, cs, _, _, pr, .mp nv bv, _) => match mbsOf M cs, M nv, ptrOf M idp true 32 with
    | some (c2, 1, g), some (.mp _ b' [(.agg (.cons (.v (.int .i64 1)) (.cons (.v (.int .i64 0)) (.cons (.v (.int .i64 0)) .nil))), V, _)] _), some (c3, .ints .u8 32 l) => match decV V with
      | some x => some ((c ∧ c2 ∧ c3 ∧ b' = bv) ∧ winF pr 0 = true ∧ intsEq 32 x.id l = true, pr, g, x, l)
      | none => none
    | _, _, _ => none
  | _ => none
theorem one_spec {O : Nat → Prop} {w0 w : World} {M : MemF} (hS : Sat O w0 M w) {t : AV} {idp : Pt} {c : Prop} {pr : Int} {g : Nat → Mb} {x : Vote} {l : List Int} (h : oneOf M t idp = some (c, pr, g, x, l)) (hc : c) :
    winF pr 0 = true ∧ intsEq 32 x.id l = true ∧ ∃ p hh base cap q tt bv ba s clk, t = .ptr p ∧ (∀ t1 t2 E, (roB (some (p.b, p.cell)) 7 1 fun _ => talAV hh (roS 902 base E 1 cap) q tt pr (.mp t1 bv) (.mp t2 ba)).holds w) ∧ (roB base 3 1 fun i => encMb (g i)).holds w ∧
      (Blk.mp false bv [(plAV 1 0 0, encV x, s)] clk).holds w ∧ (roB (some (idp.b, idp.cell)) 32 1 fun _ => .ints .u8 32 l).holds w := by
  unfold oneOf at h
  split at h
  · rename_i c0 hh cs q tt pr0 nv bv asd hm
    split at h
    · rename_i c2 g0 b b' V s clk c3 l0 hmb hM hp
      split at h
      · rename_i x0 hx
        cases h
        obtain ⟨⟨k1, k2, k3, k4⟩, k5, k6⟩ := hc
        have hx := decV_enc hx
        subst hx k4
        obtain ⟨p, es, f, base, n', cap, c4, rfl, e1, e2, e3, nv', bv', na, ba, hvs, rfl, hro⟩ := made_spec hS hm k1
        cases hvs
        obtain ⟨hn, base', cap', hv', hro'⟩ := mbs_ro hS hmb k2
        have e4 := mbs_plain hmb
        rw [hv', e3] at e4
        obtain ⟨rfl, rfl, rfl⟩ := slV_inj (List.cons.inj e4).1
        have hmp := hS.holds _ _ hM
        exact ⟨k5, k6, p, hh, base, cap, q, tt, _, ba, s, clk, rfl, hro, hro', hmp, roB_holds fun _ => ⟨idp.b, idp.cell, rfl, ptrOf_spec hS hp k3⟩⟩
      · cases h
    · cases h
  · cases h

def thoseMC (tag : Nat) (args : List AV) (M : MemF) : Option Res := match args with
  | [t, .v (.int .i64 1), .v (.int .i64 0), .fn 71 (.cons (.ptr idp) .nil)] => match oneOf M t idp with
    | some (c, _, g, x, _) => some ⟨Option Nat × Nat, c, fun y => 1 ≤ y.2, fun y => .tup (.cons (.gs tag 0 (ownB y.1) 53 0 1 y.2) (.cons (.v (.int .u64 (IntKind.u64.wrap (0 + (g 0).power)))) .nil)), [tag], fun y => [.vrow y.1 43 53 1 (fun _ => encV x) y.2]⟩
    | none => none
  | _ => none
def ctThose : CtL := [(33, noneMC), (35, winMC), (71, forId1C)]
set_option maxRecDepth 100000 in
theorem ctThose_ok : CtLOk Try.prog ctThose := ⟨.fn noneM_body noneM_read, .fn winM_body winM_read, .fn forId1_body forId1_read, trivial⟩
set_option maxRecDepth 100000 in
set_option maxHeartbeats 4000000 in
theorem thoseM_turn : TurnFn Try.prog 45 thoseMC := by
  intro tag args M r h0 hok O w0 w hS
  unfold thoseMC at h0
  split at h0
  · rename_i t idp
    split at h0
    · rename_i c pr g x l ho
      cases h0
      obtain ⟨kw, ki, p, hh, base, cap, q, tt, bv, ba, s, clk, rfl, hro, hro', hmp, hid⟩ := one_spec hS ho hok
      rw [show [AV.ptr p, .v (.int .i64 1), .v (.int .i64 0), .fn 71 (.cons (.ptr idp) .nil)].map AV.val = [roP 901 p.b p.cell 7, .v (.int .i64 1), .v (.int .i64 0), .fn 71 (.cons (roP 903 idp.b idp.cell 32) .nil)].map AV.val by rfl]
      refine turn_fn tabs ctThose_ok (cr := []) trivial Try.func45 rfl rfl hS _ [(900, .mp false bv [(plAV 1 0 0, encV x, s)] clk), (901, roB (some (p.b, p.cell)) 7 1 fun _ => talAV hh (roS 902 base 3 1 cap) q tt pr (.mp 900 bv) (.mp 904 ba)), (902, roB base 3 1 fun i => encMb (g i)), (903, roB (some (idp.b, idp.cell)) 32 1 fun _ => .ints .u8 32 l)] [] [56] rfl ⟨hmp, hro 900 904 3, hro', hid, trivial⟩ (fun n' B' k hn ho => (noOwn_get (M := [(900, .mp false bv [(plAV 1 0 0, encV x, s)] clk), (901, roB (some (p.b, p.cell)) 7 1 fun _ => talAV hh (roS 902 base 3 1 cap) q tt pr (.mp 900 bv) (.mp 904 ba)), (902, roB base 3 1 fun i => encMb (g i)), (903, roB (some (idp.b, idp.cell)) 32 1 fun _ => .ints .u8 32 l)]) ⟨fun _ h => h, roB_noOwn, roB_noOwn, roB_noOwn, trivial⟩ _ _ _ hn ho).elim) (fun _ _ _ _ _ _ _ _ h => (by cases h)) (fun _ _ _ h => (by cases h)) (fun _ _ h => (by cases h)) (by decide) rfl ?_
      repeat (first
        | refine s_seq ?_
        | refine s_region ?_
        | refine o_val rfl rfl trivial trivial ?_
        | refine o_new rfl rfl rfl ⟨0, trivial⟩ trivial (fun _ _ => ?_)
        | refine o_new rfl rfl rfl ⟨(), trivial⟩ trivial (fun _ _ => ?_)
        | refine o_put rfl rfl rfl trivial trivial ?_
        | refine o_nil ?_
        | refine d_val rfl rfl trivial trivial ?_
        | refine d_new rfl rfl rfl ⟨0, trivial⟩ trivial (fun _ _ => ?_)
        | refine d_new rfl rfl rfl ⟨(), trivial⟩ trivial (fun _ _ => ?_)
        | refine d_put rfl rfl rfl trivial trivial ?_
        | refine d_nil ?_
        | refine s_skip ?_
        | refine s_block ?_
        | refine s_exit ?_
        | refine s_label ?_
        | ((first | refine o_val rfl rfl trivial ?hc ?_ | refine o_new rfl rfl rfl ⟨0, trivial⟩ ?hc (fun _ _ => ?_) | refine o_new rfl rfl rfl ⟨(none, _), Nat.le_refl _⟩ ?hc (fun _ _ => ?_) | refine o_new rfl rfl rfl ⟨(), trivial⟩ ?hc (fun _ _ => ?_) | refine o_put rfl rfl rfl trivial ?hc ?_ | refine d_val rfl rfl trivial ?hc ?_ | refine d_new rfl rfl rfl ⟨0, trivial⟩ ?hc (fun _ _ => ?_) | refine d_new rfl rfl rfl ⟨(none, _), Nat.le_refl _⟩ ?hc (fun _ _ => ?_) | refine d_new rfl rfl rfl ⟨(), trivial⟩ ?hc (fun _ _ => ?_) | refine d_put rfl rfl rfl trivial ?hc ?_); (case hc => (first | ((try simp only [needIf]); (try simp only [need]); (try simp only [imp]); done) | ((try simp only [needIf]); (try simp only [need]); (try simp only [imp]); (try simp only [cutOff]); (repeat' apply And.intro) <;> (first | trivial | rfl | omega | (simp; done) | (simp; omega) | (intros; rfl) | (intros; trivial) | (exact Nat.le_trans (Nat.mul_le_mul_right _ (show _ ≤ 100000000001 by omega)) (by decide)) | (intro hg_; first | exact hg_ | ((try simp only [decide_eq_true_eq] at hg_); (try rw [wi64 (by omega) (by omega)]); (repeat' apply And.intro) <;> (first | trivial | rfl | omega | (intros; rfl) | (intros; trivial))))))))))
      refine s_cond (b := !(winF pr 0)) rfl (fun h1 => by rw [kw] at h1; cases h1) (fun _ => ?_)
      repeat (first
        | refine s_seq ?_
        | refine s_region ?_
        | refine o_val rfl rfl trivial trivial ?_
        | refine o_new rfl rfl rfl ⟨0, trivial⟩ trivial (fun _ _ => ?_)
        | refine o_new rfl rfl rfl ⟨(), trivial⟩ trivial (fun _ _ => ?_)
        | refine o_put rfl rfl rfl trivial trivial ?_
        | refine o_nil ?_
        | refine d_val rfl rfl trivial trivial ?_
        | refine d_new rfl rfl rfl ⟨0, trivial⟩ trivial (fun _ _ => ?_)
        | refine d_new rfl rfl rfl ⟨(), trivial⟩ trivial (fun _ _ => ?_)
        | refine d_put rfl rfl rfl trivial trivial ?_
        | refine d_nil ?_
        | refine s_skip ?_
        | refine s_block ?_
        | refine s_exit ?_
        | refine s_label ?_
        | ((first | refine o_val rfl rfl trivial ?hc ?_ | refine o_new rfl rfl rfl ⟨0, trivial⟩ ?hc (fun _ _ => ?_) | refine o_new rfl rfl rfl ⟨(none, _), Nat.le_refl _⟩ ?hc (fun _ _ => ?_) | refine o_new rfl rfl rfl ⟨(), trivial⟩ ?hc (fun _ _ => ?_) | refine o_put rfl rfl rfl trivial ?hc ?_ | refine d_val rfl rfl trivial ?hc ?_ | refine d_new rfl rfl rfl ⟨0, trivial⟩ ?hc (fun _ _ => ?_) | refine d_new rfl rfl rfl ⟨(none, _), Nat.le_refl _⟩ ?hc (fun _ _ => ?_) | refine d_new rfl rfl rfl ⟨(), trivial⟩ ?hc (fun _ _ => ?_) | refine d_put rfl rfl rfl trivial ?hc ?_); (case hc => (first | ((try simp only [needIf]); (try simp only [need]); (try simp only [imp]); done) | ((try simp only [needIf]); (try simp only [need]); (try simp only [imp]); (try simp only [cutOff]); (repeat' apply And.intro) <;> (first | trivial | rfl | omega | (simp; done) | (simp; omega) | (intros; rfl) | (intros; trivial) | (exact Nat.le_trans (Nat.mul_le_mul_right _ (show _ ≤ 100000000001 by omega)) (by decide)) | (intro hg_; first | exact hg_ | ((try simp only [decide_eq_true_eq] at hg_); (try rw [wi64 (by omega) (by omega)]); (repeat' apply And.intro) <;> (first | trivial | rfl | omega | (intros; rfl) | (intros; trivial))))))))))
      refine s_loopW (α := Option (Option Nat × Nat)) [10, 11, 12, 13, 14, 15, 30, 31, 32, 33, 34, 35, 36, 37, 38, 39, 40, 41, 42, 43, 44, 45, 46, 47, 48, 49, 50, 51, 52, 53, 54, 55, 56, 57, 58, 59, 60, 61] [13, 14, 55, 56] (fun y => match y with | none => True | some y => 1 ≤ y.2)
        (fun y => match y with
          | none => [(30, none, .v (.int .i64 0)), (10, none, .v (.slice none 0 0)), (11, none, .v (.int .u64 0))]
          | some y => [(30, none, .v (.int .i64 1)), (10, none, .gs 56 0 (ownB y.1) 53 0 1 y.2), (11, none, .v (.int .u64 (IntKind.u64.wrap (0 + (g 0).power))))])
        (fun y => match y with | none => [] | some y => [(56, .vrow y.1 43 53 1 (fun _ => encV x) y.2)]) (fun y => match y with | none => 1 | some _ => 0) none trivial ?_ ?_
      · (refine Le.of ?leT ?leM rfl; (case leT => repeat (first | exact trivial | refine And.intro (by first | exact rfl | (show some (none, AV.v (.int .i64 (IntKind.i64.wrap _))) = _; rw [wi64 (by omega) (by omega)]; rfl)) ?_)); (case leM => repeat (first | exact trivial | refine And.intro ⟨_, rfl, Blk.le_refl _⟩ ?_)))
      · intro y hy
        cases y with
        | none =>
          repeat (first
            | refine s_seq ?_
            | refine s_region ?_
            | refine o_val rfl rfl trivial trivial ?_
            | refine o_new rfl rfl rfl ⟨0, trivial⟩ trivial (fun _ _ => ?_)
            | refine o_new rfl rfl rfl ⟨(), trivial⟩ trivial (fun _ _ => ?_)
            | refine o_put rfl rfl rfl trivial trivial ?_
            | refine o_nil ?_
            | refine d_val rfl rfl trivial trivial ?_
            | refine d_new rfl rfl rfl ⟨0, trivial⟩ trivial (fun _ _ => ?_)
            | refine d_new rfl rfl rfl ⟨(), trivial⟩ trivial (fun _ _ => ?_)
            | refine d_put rfl rfl rfl trivial trivial ?_
            | refine d_nil ?_
            | refine s_skip ?_
            | refine s_block ?_
            | refine s_exit ?_
            | refine s_label ?_
            | ((first | refine o_val rfl rfl trivial ?hc ?_ | refine o_new rfl rfl rfl ⟨0, trivial⟩ ?hc (fun _ _ => ?_) | refine o_new rfl rfl rfl ⟨(none, _), Nat.le_refl _⟩ ?hc (fun _ _ => ?_) | refine o_new rfl rfl rfl ⟨(), trivial⟩ ?hc (fun _ _ => ?_) | refine o_put rfl rfl rfl trivial ?hc ?_ | refine d_val rfl rfl trivial ?hc ?_ | refine d_new rfl rfl rfl ⟨0, trivial⟩ ?hc (fun _ _ => ?_) | refine d_new rfl rfl rfl ⟨(none, _), Nat.le_refl _⟩ ?hc (fun _ _ => ?_) | refine d_new rfl rfl rfl ⟨(), trivial⟩ ?hc (fun _ _ => ?_) | refine d_put rfl rfl rfl trivial ?hc ?_); (case hc => (first | ((try simp only [needIf]); (try simp only [need]); (try simp only [imp]); done) | ((try simp only [needIf]); (try simp only [need]); (try simp only [imp]); (try simp only [cutOff]); (repeat' apply And.intro) <;> (first | trivial | rfl | omega | (simp; done) | (simp; omega) | (intros; rfl) | (intros; trivial) | (exact Nat.le_trans (Nat.mul_le_mul_right _ (show _ ≤ 100000000001 by omega)) (by decide)) | (intro hg_; first | exact hg_ | ((try simp only [decide_eq_true_eq] at hg_); (try rw [wi64 (by omega) (by omega)]); (repeat' apply And.intro) <;> (first | trivial | rfl | omega | (intros; rfl) | (intros; trivial))))))))))
          refine s_cond (b := true) rfl (fun _ => ?_) (fun h1 => by cases h1)
          repeat (first
            | refine s_seq ?_
            | refine s_region ?_
            | refine o_val rfl rfl trivial trivial ?_
            | refine o_new rfl rfl rfl ⟨0, trivial⟩ trivial (fun _ _ => ?_)
            | refine o_new rfl rfl rfl ⟨(), trivial⟩ trivial (fun _ _ => ?_)
            | refine o_put rfl rfl rfl trivial trivial ?_
            | refine o_nil ?_
            | refine d_val rfl rfl trivial trivial ?_
            | refine d_new rfl rfl rfl ⟨0, trivial⟩ trivial (fun _ _ => ?_)
            | refine d_new rfl rfl rfl ⟨(), trivial⟩ trivial (fun _ _ => ?_)
            | refine d_put rfl rfl rfl trivial trivial ?_
            | refine d_nil ?_
            | refine s_skip ?_
            | refine s_block ?_
            | refine s_exit ?_
            | refine s_label ?_
            | ((first | refine o_val rfl rfl trivial ?hc ?_ | refine o_new rfl rfl rfl ⟨0, trivial⟩ ?hc (fun _ _ => ?_) | refine o_new rfl rfl rfl ⟨(none, _), Nat.le_refl _⟩ ?hc (fun _ _ => ?_) | refine o_new rfl rfl rfl ⟨(), trivial⟩ ?hc (fun _ _ => ?_) | refine o_put rfl rfl rfl trivial ?hc ?_ | refine d_val rfl rfl trivial ?hc ?_ | refine d_new rfl rfl rfl ⟨0, trivial⟩ ?hc (fun _ _ => ?_) | refine d_new rfl rfl rfl ⟨(none, _), Nat.le_refl _⟩ ?hc (fun _ _ => ?_) | refine d_new rfl rfl rfl ⟨(), trivial⟩ ?hc (fun _ _ => ?_) | refine d_put rfl rfl rfl trivial ?hc ?_); (case hc => (first | ((try simp only [needIf]); (try simp only [need]); (try simp only [imp]); done) | ((try simp only [needIf]); (try simp only [need]); (try simp only [imp]); (try simp only [cutOff]); (repeat' apply And.intro) <;> (first | trivial | rfl | omega | (simp; done) | (simp; omega) | (intros; rfl) | (intros; trivial) | (exact Nat.le_trans (Nat.mul_le_mul_right _ (show _ ≤ 100000000001 by omega)) (by decide)) | (intro hg_; first | exact hg_ | ((try simp only [decide_eq_true_eq] at hg_); (try rw [wi64 (by omega) (by omega)]); (repeat' apply And.intro) <;> (first | trivial | rfl | omega | (intros; rfl) | (intros; trivial))))))))))
          refine s_cond (b := intsEq 32 x.id l) rfl (fun _ => ?_) (fun h1 => by rw [ki] at h1; cases h1)
          repeat (first
            | refine s_seq ?_
            | refine s_region ?_
            | refine o_val rfl rfl trivial trivial ?_
            | refine o_new rfl rfl rfl ⟨0, trivial⟩ trivial (fun _ _ => ?_)
            | refine o_new rfl rfl rfl ⟨(), trivial⟩ trivial (fun _ _ => ?_)
            | refine o_put rfl rfl rfl trivial trivial ?_
            | refine o_nil ?_
            | refine d_val rfl rfl trivial trivial ?_
            | refine d_new rfl rfl rfl ⟨0, trivial⟩ trivial (fun _ _ => ?_)
            | refine d_new rfl rfl rfl ⟨(), trivial⟩ trivial (fun _ _ => ?_)
            | refine d_put rfl rfl rfl trivial trivial ?_
            | refine d_nil ?_
            | refine s_skip ?_
            | refine s_block ?_
            | refine s_exit ?_
            | refine s_label ?_
            | ((first | refine o_val rfl rfl trivial ?hc ?_ | refine o_new rfl rfl rfl ⟨0, trivial⟩ ?hc (fun _ _ => ?_) | refine o_new rfl rfl rfl ⟨(none, _), Nat.le_refl _⟩ ?hc (fun _ _ => ?_) | refine o_new rfl rfl rfl ⟨(), trivial⟩ ?hc (fun _ _ => ?_) | refine o_put rfl rfl rfl trivial ?hc ?_ | refine d_val rfl rfl trivial ?hc ?_ | refine d_new rfl rfl rfl ⟨0, trivial⟩ ?hc (fun _ _ => ?_) | refine d_new rfl rfl rfl ⟨(none, _), Nat.le_refl _⟩ ?hc (fun _ _ => ?_) | refine d_new rfl rfl rfl ⟨(), trivial⟩ ?hc (fun _ _ => ?_) | refine d_put rfl rfl rfl trivial ?hc ?_); (case hc => (first | ((try simp only [needIf]); (try simp only [need]); (try simp only [imp]); done) | ((try simp only [needIf]); (try simp only [need]); (try simp only [imp]); (try simp only [cutOff]); (repeat' apply And.intro) <;> (first | trivial | rfl | omega | (simp; done) | (simp; omega) | (intros; rfl) | (intros; trivial) | (exact Nat.le_trans (Nat.mul_le_mul_right _ (show _ ≤ 100000000001 by omega)) (by decide)) | (intro hg_; first | exact hg_ | ((try simp only [decide_eq_true_eq] at hg_); (try rw [wi64 (by omega) (by omega)]); (repeat' apply And.intro) <;> (first | trivial | rfl | omega | (intros; rfl) | (intros; trivial))))))))))
          rename_i y gy
          refine ⟨some y, gy, Nat.zero_lt_one, Le.of ?leT ⟨⟨_, rfl, Blk.le_vrow (Nat.le_refl _) ?le⟩, ?leM⟩ rfl⟩
          case leT => repeat (first | exact trivial | refine And.intro (by exact rfl) ?_)
          case leM => repeat (first | exact trivial | refine And.intro ⟨_, rfl, Blk.le_refl _⟩ ?_)
          case le =>
            intro i hi
            have : i = 0 := by omega
            subst this
            rfl
        | some y =>
          repeat (first
            | refine s_seq ?_
            | refine s_region ?_
            | refine o_val rfl rfl trivial trivial ?_
            | refine o_new rfl rfl rfl ⟨0, trivial⟩ trivial (fun _ _ => ?_)
            | refine o_new rfl rfl rfl ⟨(), trivial⟩ trivial (fun _ _ => ?_)
            | refine o_put rfl rfl rfl trivial trivial ?_
            | refine o_nil ?_
            | refine d_val rfl rfl trivial trivial ?_
            | refine d_new rfl rfl rfl ⟨0, trivial⟩ trivial (fun _ _ => ?_)
            | refine d_new rfl rfl rfl ⟨(), trivial⟩ trivial (fun _ _ => ?_)
            | refine d_put rfl rfl rfl trivial trivial ?_
            | refine d_nil ?_
            | refine s_skip ?_
            | refine s_block ?_
            | refine s_exit ?_
            | refine s_label ?_
            | ((first | refine o_val rfl rfl trivial ?hc ?_ | refine o_new rfl rfl rfl ⟨0, trivial⟩ ?hc (fun _ _ => ?_) | refine o_new rfl rfl rfl ⟨(none, _), Nat.le_refl _⟩ ?hc (fun _ _ => ?_) | refine o_new rfl rfl rfl ⟨(), trivial⟩ ?hc (fun _ _ => ?_) | refine o_put rfl rfl rfl trivial ?hc ?_ | refine d_val rfl rfl trivial ?hc ?_ | refine d_new rfl rfl rfl ⟨0, trivial⟩ ?hc (fun _ _ => ?_) | refine d_new rfl rfl rfl ⟨(none, _), Nat.le_refl _⟩ ?hc (fun _ _ => ?_) | refine d_new rfl rfl rfl ⟨(), trivial⟩ ?hc (fun _ _ => ?_) | refine d_put rfl rfl rfl trivial ?hc ?_); (case hc => (first | ((try simp only [needIf]); (try simp only [need]); (try simp only [imp]); done) | ((try simp only [needIf]); (try simp only [need]); (try simp only [imp]); (try simp only [cutOff]); (repeat' apply And.intro) <;> (first | trivial | rfl | omega | (simp; done) | (simp; omega) | (intros; rfl) | (intros; trivial) | (exact Nat.le_trans (Nat.mul_le_mul_right _ (show _ ≤ 100000000001 by omega)) (by decide)) | (intro hg_; first | exact hg_ | ((try simp only [decide_eq_true_eq] at hg_); (try rw [wi64 (by omega) (by omega)]); (repeat' apply And.intro) <;> (first | trivial | rfl | omega | (intros; rfl) | (intros; trivial))))))))))
          refine s_cond (b := false) rfl (fun h1 => by cases h1) (fun _ => ?_)
          repeat (first
            | refine s_seq ?_
            | refine s_region ?_
            | refine o_val rfl rfl trivial trivial ?_
            | refine o_new rfl rfl rfl ⟨0, trivial⟩ trivial (fun _ _ => ?_)
            | refine o_new rfl rfl rfl ⟨(), trivial⟩ trivial (fun _ _ => ?_)
            | refine o_put rfl rfl rfl trivial trivial ?_
            | refine o_nil ?_
            | refine d_val rfl rfl trivial trivial ?_
            | refine d_new rfl rfl rfl ⟨0, trivial⟩ trivial (fun _ _ => ?_)
            | refine d_new rfl rfl rfl ⟨(), trivial⟩ trivial (fun _ _ => ?_)
            | refine d_put rfl rfl rfl trivial trivial ?_
            | refine d_nil ?_
            | refine s_skip ?_
            | refine s_block ?_
            | refine s_exit ?_
            | refine s_label ?_
            | ((first | refine o_val rfl rfl trivial ?hc ?_ | refine o_new rfl rfl rfl ⟨0, trivial⟩ ?hc (fun _ _ => ?_) | refine o_new rfl rfl rfl ⟨(none, _), Nat.le_refl _⟩ ?hc (fun _ _ => ?_) | refine o_new rfl rfl rfl ⟨(), trivial⟩ ?hc (fun _ _ => ?_) | refine o_put rfl rfl rfl trivial ?hc ?_ | refine d_val rfl rfl trivial ?hc ?_ | refine d_new rfl rfl rfl ⟨0, trivial⟩ ?hc (fun _ _ => ?_) | refine d_new rfl rfl rfl ⟨(none, _), Nat.le_refl _⟩ ?hc (fun _ _ => ?_) | refine d_new rfl rfl rfl ⟨(), trivial⟩ ?hc (fun _ _ => ?_) | refine d_put rfl rfl rfl trivial ?hc ?_); (case hc => (first | ((try simp only [needIf]); (try simp only [need]); (try simp only [imp]); done) | ((try simp only [needIf]); (try simp only [need]); (try simp only [imp]); (try simp only [cutOff]); (repeat' apply And.intro) <;> (first | trivial | rfl | omega | (simp; done) | (simp; omega) | (intros; rfl) | (intros; trivial) | (exact Nat.le_trans (Nat.mul_le_mul_right _ (show _ ≤ 100000000001 by omega)) (by decide)) | (intro hg_; first | exact hg_ | ((try simp only [decide_eq_true_eq] at hg_); (try rw [wi64 (by omega) (by omega)]); (repeat' apply And.intro) <;> (first | trivial | rfl | omega | (intros; rfl) | (intros; trivial))))))))))
          refine s_ret ?_
          exact ⟨_, _, rfl, ⟨trivial, trivial, trivial⟩, rfl, y, hy, rfl, ⟨⟨_, rfl, Blk.le_refl _⟩, fun _ h => h⟩, trivial⟩
    · cases h0
  · cases h0
set_option maxRecDepth 100000 in
theorem thoseM_body : HasBody Try.prog 45 := ⟨_, Try.func45, rfl, by decide⟩

def powerMC (args : List AV) (M : MemF) : Option (Prop × AV) := match args with
  | [t, .v (.int .i64 1), .v (.int .i64 0), .ints .u8 32 l] => match madeOf M t with
    | some (c, _, cs, _, _, pr, .mp nv bv, _) => match mbsOf M cs, M nv with
      | some (c2, 1, g), some (.mp _ b' [(.agg (.cons (.v (.int .i64 1)) (.cons (.v (.int .i64 0)) (.cons (.v (.int .i64 0)) .nil))), V, _)] _) => match decV V with
        | some x => some ((c ∧ c2 ∧ b' = bv) ∧ winF pr 0 = true ∧ intsEq 32 x.id l = true, .v (.int .u64 (IntKind.u64.wrap (0 + (g 0).power))))
        | none => none
      | _, _ => none
    | _ => none
  | _ => none
def crPow : CrL := [(47, forIdC), (45, thoseMC)]
set_option maxRecDepth 100000 in
theorem crPow_ok : CrLOk Try.prog crPow := ⟨⟨forId_body, forId_turn⟩, ⟨thoseM_body, thoseM_turn⟩, trivial⟩
set_option maxRecDepth 100000 in
set_option maxHeartbeats 4000000 in
theorem powerM_read : ReadFn Try.prog 16 powerMC := by
  intro args M q res h hq O w0 w hS
  unfold powerMC at h
  split at h
  · rename_i t l
    split at h
    · rename_i c hh cs q' tt pr nv bv asd hm
      split at h
      · rename_i c2 g b b' V s clk hmb hM
        split at h
        · rename_i x hx
          cases h
          obtain ⟨⟨k1, k2, k4⟩, k5, k6⟩ := hq
          have hx := decV_enc hx
          subst hx k4
          obtain ⟨p, es, f, base, n', cap, c4, rfl, e1, e2, e3, nv', bv', na, ba, hvs, rfl, hro⟩ := made_spec hS hm k1
          cases hvs
          obtain ⟨hn, base', cap', hv', hro'⟩ := mbs_ro hS hmb k2
          have e4 := mbs_plain hmb
          rw [hv', e3] at e4
          obtain ⟨rfl, rfl, rfl⟩ := slV_inj (List.cons.inj e4).1
          have hmp := hS.holds _ _ hM
          rw [show [AV.ptr p, .v (.int .i64 1), .v (.int .i64 0), .ints .u8 32 l].map AV.val = [roP 901 p.b p.cell 7, .v (.int .i64 1), .v (.int .i64 0), .ints .u8 32 l].map AV.val by rfl]
          refine ro_fn tabs (ct := []) trivial crPow_ok Try.func16 rfl rfl (M := [(900, .mp false b' [(plAV 1 0 0, encV x, s)] clk), (901, roB (some (p.b, p.cell)) 7 1 fun _ => talAV hh (roS 902 base 3 1 cap) q' tt pr (.mp 900 b') (.mp 904 ba)), (902, roB base 3 1 fun i => encMb (g i))]) rfl ⟨fun _ h => h, roB_noOwn, roB_noOwn, trivial⟩ ⟨hmp, hro 900 904 3, hro', trivial⟩ ?_
          repeat (first
            | refine s_seq ?_
            | refine s_region ?_
            | refine o_val rfl rfl trivial trivial ?_
            | refine o_new rfl rfl rfl ⟨0, trivial⟩ trivial (fun _ _ => ?_)
            | refine o_new rfl rfl rfl ⟨(), trivial⟩ trivial (fun _ _ => ?_)
            | refine o_put rfl rfl rfl trivial trivial ?_
            | refine o_nil ?_
            | refine d_val rfl rfl trivial trivial ?_
            | refine d_new rfl rfl rfl ⟨0, trivial⟩ trivial (fun _ _ => ?_)
            | refine d_new rfl rfl rfl ⟨(), trivial⟩ trivial (fun _ _ => ?_)
            | refine d_put rfl rfl rfl trivial trivial ?_
            | refine d_nil ?_
            | refine s_skip ?_
            | refine s_block ?_
            | refine s_exit ?_
            | refine s_label ?_
            | ((first | refine o_val rfl rfl trivial ?hc ?_ | refine o_new rfl rfl rfl ⟨0, trivial⟩ ?hc (fun _ _ => ?_) | refine o_new rfl rfl rfl ⟨(none, _), Nat.le_refl _⟩ ?hc (fun _ _ => ?_) | refine o_new rfl rfl rfl ⟨(), trivial⟩ ?hc (fun _ _ => ?_) | refine o_put rfl rfl rfl trivial ?hc ?_ | refine d_val rfl rfl trivial ?hc ?_ | refine d_new rfl rfl rfl ⟨0, trivial⟩ ?hc (fun _ _ => ?_) | refine d_new rfl rfl rfl ⟨(none, _), Nat.le_refl _⟩ ?hc (fun _ _ => ?_) | refine d_new rfl rfl rfl ⟨(), trivial⟩ ?hc (fun _ _ => ?_) | refine d_put rfl rfl rfl trivial ?hc ?_); (case hc => (first | ((try simp only [needIf]); (try simp only [need]); (try simp only [imp]); done) | ((try simp only [needIf]); (try simp only [need]); (try simp only [imp]); (try simp only [cutOff]); (repeat' apply And.intro) <;> (first | trivial | rfl | omega | (simp; done) | (simp; omega) | (intros; rfl) | (intros; trivial) | (exact Nat.le_trans (Nat.mul_le_mul_right _ (show _ ≤ 100000000001 by omega)) (by decide)) | (intro hg_; first | exact hg_ | ((try simp only [decide_eq_true_eq] at hg_); (try rw [wi64 (by omega) (by omega)]); (repeat' apply And.intro) <;> (first | trivial | rfl | omega | (intros; rfl) | (intros; trivial))))))))))
          refine s_ret ?_
          exact ⟨_, _, rfl, ⟨trivial, trivial⟩, rfl, rfl⟩
        · cases h
      · cases h
    · cases h
  · cases h
set_option maxRecDepth 100000 in
theorem powerM_body : HasBody Try.prog 16 := ⟨_, Try.func16, rfl, by decide⟩
end Go.Proofs.Ytaohdlepocajcaa.V
