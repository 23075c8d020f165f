import Derived.Test.YtofophjfgalhaaaVF2
/-! Guilts; blame.Power and the document's. -/
namespace Go.Proofs.Ytofophjfgalhaaa.V
open Go Go.RowKit

structure Vote where
  kind : Int
  height : Int
  round : Int
  id : List Int
  time : Int
  from_ : Int
  sig : List Int
def encV (x : Vote) : AV := .agg (.cons (.v (.int .i64 x.kind)) (.cons (.v (.int .u64 x.height)) (.cons (.v (.int .i64 x.round)) (.cons (.ints .u8 32 x.id) (.cons (.v (.int .u64 x.time)) (.cons (.v (.int .u64 x.from_)) (.cons (.ints .u8 16 x.sig) .nil)))))))
structure Gt where
  addr : Int
  kind : Int
  a : Vote
  b : Vote
def encG (x : Gt) : AV := .agg (.cons (.v (.int .u64 x.addr)) (.cons (.v (.int .i64 x.kind)) (.cons (encV x.a) (.cons (encV x.b) .nil))))
def zeroL (n : Nat) : List Int := List.replicate n 0
def zeroV : Vote := ⟨0, 0, 0, List.replicate 32 0, 0, 0, List.replicate 16 0⟩
def decV : AV → Option Vote
  | .agg (.cons (.v (.int .i64 k)) (.cons (.v (.int .u64 h)) (.cons (.v (.int .i64 r)) (.cons (.ints .u8 32 i) (.cons (.v (.int .u64 t)) (.cons (.v (.int .u64 f)) (.cons (.ints .u8 16 s) .nil))))))) => some ⟨k, h, r, i, t, f, s⟩
  | _ => none
theorem decV_enc {a : AV} {x : Vote} (h : decV a = some x) : a = encV x := by
  unfold decV at h
  split at h
  · cases h; rfl
  · cases h
def decG : AV → Option Gt
  | .agg (.cons (.v (.int .u64 a)) (.cons (.v (.int .i64 k)) (.cons x (.cons y .nil)))) => match decV x, decV y with
    | some x, some y => some ⟨a, k, x, y⟩
    | _, _ => none
  | _ => none
theorem decG_enc {a : AV} {x : Gt} (h : decG a = some x) : a = encG x := by
  unfold decG at h
  split at h
  · split at h
    · rename_i h1 h2
      cases h
      rw [decV_enc h1, decV_enc h2]; rfl
    · cases h
  · cases h
def gtOf (a : AV) : Gt := (decG a).getD ⟨0, 0, zeroV, zeroV⟩
theorem gtOf_eq {a : AV} (h : (decG a).isSome = true) : a = encG (gtOf a) := by
  obtain ⟨x, hx⟩ := Option.isSome_iff_exists.1 h
  unfold gtOf
  rw [hx]; exact decG_enc hx

/-- a slice of guilts -/
def gtsOf (M : MemF) (x : AV) : Option (Prop × Nat × (Nat → Gt)) := match seqOf M x with
  | some (c, es, n, f) => some (c ∧ (n ≠ 0 → es = 108) ∧ n < 4611686018427387904 ∧ ∀ i, i < n → (decG (f i)).isSome = true, n, fun i => gtOf (f i))
  | none => none
theorem gts_ro {O : Nat → Prop} {w0 w : World} {M : MemF} (hS : Sat O w0 M w) {x : AV} {c : Prop} {n : Nat} {g : Nat → Gt} (h : gtsOf M x = some (c, n, g)) (hc : c) :
    n < 4611686018427387904 ∧ ∃ base cap, x.val = slV base n cap ∧ (roB base 108 n fun i => encG (g i)).holds w := by
  unfold gtsOf at h
  split at h
  · rename_i c0 es n0 f hs
    cases h
    obtain ⟨h1, h2, h3, h4⟩ := hc
    refine ⟨h3, ?_⟩
    obtain ⟨base, cap, hv, hr⟩ := seqOf_spec hS hs h1
    refine ⟨base, cap, hv, roB_holds fun h0 => ?_⟩
    obtain ⟨b, o, hb, hR⟩ := hr h0
    have := h2 h0
    subst this
    exact ⟨b, o, hb, hR.congr fun i hi => gtOf_eq (h4 i hi)⟩
  · cases h

theorem index41 {w : World} {n : Nat} (hn : n < 4611686018427387904) {base : Option (Nat × Nat)} {cap : Nat} {g : Nat → Gt} (hro : (roB base 108 n fun i => encG (g i)).holds w) {fid : FuncId} {caps : AV} (hfb : HasBody Try.prog fid) (p : Nat → Bool)
    (hc : ∀ i, i < n → ∀ w', Below w.heap.size w w' → Calls Try.prog fid ((encG (g i) :: caps.toL).map AV.val).toArray w' fun e w'' => e = .returned (.bool (p i)) ∧ Below w'.heap.size w' w'') :
    Calls Try.prog 41 #[slV base n cap, (AV.fn fid caps).val] w fun e w' => e = .returned (.int .i64 (firstI p n 0)) ∧ Below w.heap.size w w' := by
  rw [show #[slV base n cap, (AV.fn fid caps).val] = ([roS 900 base 108 n cap, .fn fid caps].map AV.val).toArray by simp only [List.map_cons, List.map_nil, roS_val]]
  refine ro_fn tabs (ct := []) trivial (cr := []) trivial Try.func41 rfl rfl (res := .v (.int .i64 (firstI p n 0))) (M := [(900, roB base 108 n fun i => encG (g i))]) rfl ⟨roB_noOwn, trivial⟩ ⟨hro, trivial⟩ ?_
  repeat (first
    | refine s_seq ?_
    | refine s_region ?_
    | refine o_val rfl rfl trivial trivial ?_
    | (refine o_val rfl rfl trivial ?hc ?_; (case hc => (first | (simp only [need, imp, needIf]; done) | ((try simp only [need, imp, needIf]); (repeat' apply And.intro) <;> (first | trivial | rfl | omega | (simp; done) | (simp; omega) | (intros; rfl) | (exact Nat.le_trans (Nat.mul_le_mul_right _ (show _ ≤ 100000000001 by omega)) (by decide)) | (intro hg_; first | exact hg_ | ((try simp only [decide_eq_true_eq] at hg_); (try rw [wi64 (by omega) (by omega)]); (repeat' apply And.intro) <;> (first | trivial | rfl | omega | (intros; rfl)))))))))
    | refine o_new rfl rfl rfl ⟨0, trivial⟩ trivial (fun _ _ => ?_)
    | (refine o_new rfl rfl rfl ⟨0, trivial⟩ ?hc (fun _ _ => ?_); (case hc => (first | (simp only [need, imp, needIf]; done) | ((try simp only [need, imp, needIf]); (repeat' apply And.intro) <;> (first | trivial | rfl | omega | (simp; done) | (simp; omega) | (intros; rfl) | (exact Nat.le_trans (Nat.mul_le_mul_right _ (show _ ≤ 100000000001 by omega)) (by decide)) | (intro hg_; first | exact hg_ | ((try simp only [decide_eq_true_eq] at hg_); (try rw [wi64 (by omega) (by omega)]); (repeat' apply And.intro) <;> (first | trivial | rfl | omega | (intros; rfl)))))))))
    | (refine o_new rfl rfl rfl ⟨(none, _), Nat.le_refl _⟩ ?hc (fun _ _ => ?_); (case hc => (first | (simp only [need, imp, needIf]; done) | ((try simp only [need, imp, needIf]); (repeat' apply And.intro) <;> (first | trivial | rfl | omega | (simp; done) | (simp; omega) | (intros; rfl) | (exact Nat.le_trans (Nat.mul_le_mul_right _ (show _ ≤ 100000000001 by omega)) (by decide)) | (intro hg_; first | exact hg_ | ((try simp only [decide_eq_true_eq] at hg_); (try rw [wi64 (by omega) (by omega)]); (repeat' apply And.intro) <;> (first | trivial | rfl | omega | (intros; rfl)))))))))
    | refine o_put rfl rfl rfl trivial trivial ?_
    | (refine o_put rfl rfl rfl trivial ?hc ?_; (case hc => (first | (simp only [need, imp, needIf]; done) | ((try simp only [need, imp, needIf]); (repeat' apply And.intro) <;> (first | trivial | rfl | omega | (simp; done) | (simp; omega) | (intros; rfl) | (exact Nat.le_trans (Nat.mul_le_mul_right _ (show _ ≤ 100000000001 by omega)) (by decide)) | (intro hg_; first | exact hg_ | ((try simp only [decide_eq_true_eq] at hg_); (try rw [wi64 (by omega) (by omega)]); (repeat' apply And.intro) <;> (first | trivial | rfl | omega | (intros; rfl)))))))))
    | refine o_nil ?_
    | refine d_val rfl rfl trivial trivial ?_
    | (refine d_val rfl rfl trivial ?hc ?_; (case hc => (first | (simp only [need, imp, needIf]; done) | ((try simp only [need, imp, needIf]); (repeat' apply And.intro) <;> (first | trivial | rfl | omega | (simp; done) | (simp; omega) | (intros; rfl) | (exact Nat.le_trans (Nat.mul_le_mul_right _ (show _ ≤ 100000000001 by omega)) (by decide)) | (intro hg_; first | exact hg_ | ((try simp only [decide_eq_true_eq] at hg_); (try rw [wi64 (by omega) (by omega)]); (repeat' apply And.intro) <;> (first | trivial | rfl | omega | (intros; rfl)))))))))
    | refine d_new rfl rfl rfl ⟨0, trivial⟩ trivial (fun _ _ => ?_)
    | (refine d_new rfl rfl rfl ⟨0, trivial⟩ ?hc (fun _ _ => ?_); (case hc => (first | (simp only [need, imp, needIf]; done) | ((try simp only [need, imp, needIf]); (repeat' apply And.intro) <;> (first | trivial | rfl | omega | (simp; done) | (simp; omega) | (intros; rfl) | (exact Nat.le_trans (Nat.mul_le_mul_right _ (show _ ≤ 100000000001 by omega)) (by decide)) | (intro hg_; first | exact hg_ | ((try simp only [decide_eq_true_eq] at hg_); (try rw [wi64 (by omega) (by omega)]); (repeat' apply And.intro) <;> (first | trivial | rfl | omega | (intros; rfl)))))))))
    | (refine d_new rfl rfl rfl ⟨(none, _), Nat.le_refl _⟩ ?hc (fun _ _ => ?_); (case hc => (first | (simp only [need, imp, needIf]; done) | ((try simp only [need, imp, needIf]); (repeat' apply And.intro) <;> (first | trivial | rfl | omega | (simp; done) | (simp; omega) | (intros; rfl) | (exact Nat.le_trans (Nat.mul_le_mul_right _ (show _ ≤ 100000000001 by omega)) (by decide)) | (intro hg_; first | exact hg_ | ((try simp only [decide_eq_true_eq] at hg_); (try rw [wi64 (by omega) (by omega)]); (repeat' apply And.intro) <;> (first | trivial | rfl | omega | (intros; rfl)))))))))
    | refine d_put rfl rfl rfl trivial trivial ?_
    | (refine d_put rfl rfl rfl trivial ?hc ?_; (case hc => (first | (simp only [need, imp, needIf]; done) | ((try simp only [need, imp, needIf]); (repeat' apply And.intro) <;> (first | trivial | rfl | omega | (simp; done) | (simp; omega) | (intros; rfl) | (exact Nat.le_trans (Nat.mul_le_mul_right _ (show _ ≤ 100000000001 by omega)) (by decide)) | (intro hg_; first | exact hg_ | ((try simp only [decide_eq_true_eq] at hg_); (try rw [wi64 (by omega) (by omega)]); (repeat' apply And.intro) <;> (first | trivial | rfl | omega | (intros; rfl)))))))))
    | refine d_nil ?_
    | refine s_skip ?_
    | refine s_block ?_
    | refine s_exit ?_
    | refine s_label ?_)
  refine s_loopW (α := Nat) [5, 8, 9, 10, 11, 12, 13, 14, 15, 16, 17, 18] [] (fun k => k ≤ n ∧ firstI p n 0 = firstI p (n - k) k) (fun k => [(8, none, .v (.int .i64 k))]) (fun _ => []) (fun k => n - k) 0 ⟨Nat.zero_le _, rfl⟩ ?_ ?_
  · (refine Le.of ?leT ?leM rfl; (case leT => repeat (first | exact trivial | refine And.intro (by first | exact rfl | (show some (none, AV.v (.int .i64 (IntKind.i64.wrap _))) = _; rw [wi64 (by omega) (by omega)]; rfl)) ?_)); (case leM => repeat (first | exact trivial | refine And.intro ⟨_, rfl, Blk.le_refl _⟩ ?_)))
  · intro k ⟨hk, hz⟩
    repeat (first
      | refine s_seq ?_
      | refine s_region ?_
      | refine o_val rfl rfl trivial trivial ?_
      | (refine o_val rfl rfl trivial ?hc ?_; (case hc => (first | (simp only [need, imp, needIf]; done) | ((try simp only [need, imp, needIf]); (repeat' apply And.intro) <;> (first | trivial | rfl | omega | (simp; done) | (simp; omega) | (intros; rfl) | (exact Nat.le_trans (Nat.mul_le_mul_right _ (show _ ≤ 100000000001 by omega)) (by decide)) | (intro hg_; first | exact hg_ | ((try simp only [decide_eq_true_eq] at hg_); (try rw [wi64 (by omega) (by omega)]); (repeat' apply And.intro) <;> (first | trivial | rfl | omega | (intros; rfl)))))))))
      | refine o_new rfl rfl rfl ⟨0, trivial⟩ trivial (fun _ _ => ?_)
      | (refine o_new rfl rfl rfl ⟨0, trivial⟩ ?hc (fun _ _ => ?_); (case hc => (first | (simp only [need, imp, needIf]; done) | ((try simp only [need, imp, needIf]); (repeat' apply And.intro) <;> (first | trivial | rfl | omega | (simp; done) | (simp; omega) | (intros; rfl) | (exact Nat.le_trans (Nat.mul_le_mul_right _ (show _ ≤ 100000000001 by omega)) (by decide)) | (intro hg_; first | exact hg_ | ((try simp only [decide_eq_true_eq] at hg_); (try rw [wi64 (by omega) (by omega)]); (repeat' apply And.intro) <;> (first | trivial | rfl | omega | (intros; rfl)))))))))
      | (refine o_new rfl rfl rfl ⟨(none, _), Nat.le_refl _⟩ ?hc (fun _ _ => ?_); (case hc => (first | (simp only [need, imp, needIf]; done) | ((try simp only [need, imp, needIf]); (repeat' apply And.intro) <;> (first | trivial | rfl | omega | (simp; done) | (simp; omega) | (intros; rfl) | (exact Nat.le_trans (Nat.mul_le_mul_right _ (show _ ≤ 100000000001 by omega)) (by decide)) | (intro hg_; first | exact hg_ | ((try simp only [decide_eq_true_eq] at hg_); (try rw [wi64 (by omega) (by omega)]); (repeat' apply And.intro) <;> (first | trivial | rfl | omega | (intros; rfl)))))))))
      | refine o_put rfl rfl rfl trivial trivial ?_
      | (refine o_put rfl rfl rfl trivial ?hc ?_; (case hc => (first | (simp only [need, imp, needIf]; done) | ((try simp only [need, imp, needIf]); (repeat' apply And.intro) <;> (first | trivial | rfl | omega | (simp; done) | (simp; omega) | (intros; rfl) | (exact Nat.le_trans (Nat.mul_le_mul_right _ (show _ ≤ 100000000001 by omega)) (by decide)) | (intro hg_; first | exact hg_ | ((try simp only [decide_eq_true_eq] at hg_); (try rw [wi64 (by omega) (by omega)]); (repeat' apply And.intro) <;> (first | trivial | rfl | omega | (intros; rfl)))))))))
      | refine o_nil ?_
      | refine d_val rfl rfl trivial trivial ?_
      | (refine d_val rfl rfl trivial ?hc ?_; (case hc => (first | (simp only [need, imp, needIf]; done) | ((try simp only [need, imp, needIf]); (repeat' apply And.intro) <;> (first | trivial | rfl | omega | (simp; done) | (simp; omega) | (intros; rfl) | (exact Nat.le_trans (Nat.mul_le_mul_right _ (show _ ≤ 100000000001 by omega)) (by decide)) | (intro hg_; first | exact hg_ | ((try simp only [decide_eq_true_eq] at hg_); (try rw [wi64 (by omega) (by omega)]); (repeat' apply And.intro) <;> (first | trivial | rfl | omega | (intros; rfl)))))))))
      | refine d_new rfl rfl rfl ⟨0, trivial⟩ trivial (fun _ _ => ?_)
      | (refine d_new rfl rfl rfl ⟨0, trivial⟩ ?hc (fun _ _ => ?_); (case hc => (first | (simp only [need, imp, needIf]; done) | ((try simp only [need, imp, needIf]); (repeat' apply And.intro) <;> (first | trivial | rfl | omega | (simp; done) | (simp; omega) | (intros; rfl) | (exact Nat.le_trans (Nat.mul_le_mul_right _ (show _ ≤ 100000000001 by omega)) (by decide)) | (intro hg_; first | exact hg_ | ((try simp only [decide_eq_true_eq] at hg_); (try rw [wi64 (by omega) (by omega)]); (repeat' apply And.intro) <;> (first | trivial | rfl | omega | (intros; rfl)))))))))
      | (refine d_new rfl rfl rfl ⟨(none, _), Nat.le_refl _⟩ ?hc (fun _ _ => ?_); (case hc => (first | (simp only [need, imp, needIf]; done) | ((try simp only [need, imp, needIf]); (repeat' apply And.intro) <;> (first | trivial | rfl | omega | (simp; done) | (simp; omega) | (intros; rfl) | (exact Nat.le_trans (Nat.mul_le_mul_right _ (show _ ≤ 100000000001 by omega)) (by decide)) | (intro hg_; first | exact hg_ | ((try simp only [decide_eq_true_eq] at hg_); (try rw [wi64 (by omega) (by omega)]); (repeat' apply And.intro) <;> (first | trivial | rfl | omega | (intros; rfl)))))))))
      | refine d_put rfl rfl rfl trivial trivial ?_
      | (refine d_put rfl rfl rfl trivial ?hc ?_; (case hc => (first | (simp only [need, imp, needIf]; done) | ((try simp only [need, imp, needIf]); (repeat' apply And.intro) <;> (first | trivial | rfl | omega | (simp; done) | (simp; omega) | (intros; rfl) | (exact Nat.le_trans (Nat.mul_le_mul_right _ (show _ ≤ 100000000001 by omega)) (by decide)) | (intro hg_; first | exact hg_ | ((try simp only [decide_eq_true_eq] at hg_); (try rw [wi64 (by omega) (by omega)]); (repeat' apply And.intro) <;> (first | trivial | rfl | omega | (intros; rfl)))))))))
      | refine d_nil ?_
      | refine s_skip ?_
      | refine s_block ?_
      | refine s_exit ?_
      | refine s_label ?_)
    refine s_cond (b := decide ((k : Int) < n)) rfl (fun hb => ?_) (fun hb => ?_)
    · have hlt : k < n := by simpa using hb
      have hs : n - k = (n - (k + 1)) + 1 := by omega
      repeat (first
        | refine s_seq ?_
        | refine s_region ?_
        | refine o_val rfl rfl trivial trivial ?_
        | (refine o_val rfl rfl trivial ?hc ?_; (case hc => (first | (simp only [need, imp, needIf]; done) | ((try simp only [need, imp, needIf]); (repeat' apply And.intro) <;> (first | trivial | rfl | omega | (simp; done) | (simp; omega) | (intros; rfl) | (exact Nat.le_trans (Nat.mul_le_mul_right _ (show _ ≤ 100000000001 by omega)) (by decide)) | (intro hg_; first | exact hg_ | ((try simp only [decide_eq_true_eq] at hg_); (try rw [wi64 (by omega) (by omega)]); (repeat' apply And.intro) <;> (first | trivial | rfl | omega | (intros; rfl)))))))))
        | refine o_new rfl rfl rfl ⟨0, trivial⟩ trivial (fun _ _ => ?_)
        | (refine o_new rfl rfl rfl ⟨0, trivial⟩ ?hc (fun _ _ => ?_); (case hc => (first | (simp only [need, imp, needIf]; done) | ((try simp only [need, imp, needIf]); (repeat' apply And.intro) <;> (first | trivial | rfl | omega | (simp; done) | (simp; omega) | (intros; rfl) | (exact Nat.le_trans (Nat.mul_le_mul_right _ (show _ ≤ 100000000001 by omega)) (by decide)) | (intro hg_; first | exact hg_ | ((try simp only [decide_eq_true_eq] at hg_); (try rw [wi64 (by omega) (by omega)]); (repeat' apply And.intro) <;> (first | trivial | rfl | omega | (intros; rfl)))))))))
        | (refine o_new rfl rfl rfl ⟨(none, _), Nat.le_refl _⟩ ?hc (fun _ _ => ?_); (case hc => (first | (simp only [need, imp, needIf]; done) | ((try simp only [need, imp, needIf]); (repeat' apply And.intro) <;> (first | trivial | rfl | omega | (simp; done) | (simp; omega) | (intros; rfl) | (exact Nat.le_trans (Nat.mul_le_mul_right _ (show _ ≤ 100000000001 by omega)) (by decide)) | (intro hg_; first | exact hg_ | ((try simp only [decide_eq_true_eq] at hg_); (try rw [wi64 (by omega) (by omega)]); (repeat' apply And.intro) <;> (first | trivial | rfl | omega | (intros; rfl)))))))))
        | refine o_put rfl rfl rfl trivial trivial ?_
        | (refine o_put rfl rfl rfl trivial ?hc ?_; (case hc => (first | (simp only [need, imp, needIf]; done) | ((try simp only [need, imp, needIf]); (repeat' apply And.intro) <;> (first | trivial | rfl | omega | (simp; done) | (simp; omega) | (intros; rfl) | (exact Nat.le_trans (Nat.mul_le_mul_right _ (show _ ≤ 100000000001 by omega)) (by decide)) | (intro hg_; first | exact hg_ | ((try simp only [decide_eq_true_eq] at hg_); (try rw [wi64 (by omega) (by omega)]); (repeat' apply And.intro) <;> (first | trivial | rfl | omega | (intros; rfl)))))))))
        | refine o_nil ?_
        | refine d_val rfl rfl trivial trivial ?_
        | (refine d_val rfl rfl trivial ?hc ?_; (case hc => (first | (simp only [need, imp, needIf]; done) | ((try simp only [need, imp, needIf]); (repeat' apply And.intro) <;> (first | trivial | rfl | omega | (simp; done) | (simp; omega) | (intros; rfl) | (exact Nat.le_trans (Nat.mul_le_mul_right _ (show _ ≤ 100000000001 by omega)) (by decide)) | (intro hg_; first | exact hg_ | ((try simp only [decide_eq_true_eq] at hg_); (try rw [wi64 (by omega) (by omega)]); (repeat' apply And.intro) <;> (first | trivial | rfl | omega | (intros; rfl)))))))))
        | refine d_new rfl rfl rfl ⟨0, trivial⟩ trivial (fun _ _ => ?_)
        | (refine d_new rfl rfl rfl ⟨0, trivial⟩ ?hc (fun _ _ => ?_); (case hc => (first | (simp only [need, imp, needIf]; done) | ((try simp only [need, imp, needIf]); (repeat' apply And.intro) <;> (first | trivial | rfl | omega | (simp; done) | (simp; omega) | (intros; rfl) | (exact Nat.le_trans (Nat.mul_le_mul_right _ (show _ ≤ 100000000001 by omega)) (by decide)) | (intro hg_; first | exact hg_ | ((try simp only [decide_eq_true_eq] at hg_); (try rw [wi64 (by omega) (by omega)]); (repeat' apply And.intro) <;> (first | trivial | rfl | omega | (intros; rfl)))))))))
        | (refine d_new rfl rfl rfl ⟨(none, _), Nat.le_refl _⟩ ?hc (fun _ _ => ?_); (case hc => (first | (simp only [need, imp, needIf]; done) | ((try simp only [need, imp, needIf]); (repeat' apply And.intro) <;> (first | trivial | rfl | omega | (simp; done) | (simp; omega) | (intros; rfl) | (exact Nat.le_trans (Nat.mul_le_mul_right _ (show _ ≤ 100000000001 by omega)) (by decide)) | (intro hg_; first | exact hg_ | ((try simp only [decide_eq_true_eq] at hg_); (try rw [wi64 (by omega) (by omega)]); (repeat' apply And.intro) <;> (first | trivial | rfl | omega | (intros; rfl)))))))))
        | refine d_put rfl rfl rfl trivial trivial ?_
        | (refine d_put rfl rfl rfl trivial ?hc ?_; (case hc => (first | (simp only [need, imp, needIf]; done) | ((try simp only [need, imp, needIf]); (repeat' apply And.intro) <;> (first | trivial | rfl | omega | (simp; done) | (simp; omega) | (intros; rfl) | (exact Nat.le_trans (Nat.mul_le_mul_right _ (show _ ≤ 100000000001 by omega)) (by decide)) | (intro hg_; first | exact hg_ | ((try simp only [decide_eq_true_eq] at hg_); (try rw [wi64 (by omega) (by omega)]); (repeat' apply And.intro) <;> (first | trivial | rfl | omega | (intros; rfl)))))))))
        | refine d_nil ?_
        | refine s_skip ?_
        | refine s_block ?_
        | refine s_exit ?_
        | refine s_label ?_)
      refine o_calls (.v (.bool (p k))) rfl rfl rfl rfl rfl rfl trivial hfb (fun w' hS' => hc k hlt w' hS'.below0) ?_
      repeat (first
        | refine s_seq ?_
        | refine s_region ?_
        | refine o_val rfl rfl trivial trivial ?_
        | (refine o_val rfl rfl trivial ?hc ?_; (case hc => (first | (simp only [need, imp, needIf]; done) | ((try simp only [need, imp, needIf]); (repeat' apply And.intro) <;> (first | trivial | rfl | omega | (simp; done) | (simp; omega) | (intros; rfl) | (exact Nat.le_trans (Nat.mul_le_mul_right _ (show _ ≤ 100000000001 by omega)) (by decide)) | (intro hg_; first | exact hg_ | ((try simp only [decide_eq_true_eq] at hg_); (try rw [wi64 (by omega) (by omega)]); (repeat' apply And.intro) <;> (first | trivial | rfl | omega | (intros; rfl)))))))))
        | refine o_new rfl rfl rfl ⟨0, trivial⟩ trivial (fun _ _ => ?_)
        | (refine o_new rfl rfl rfl ⟨0, trivial⟩ ?hc (fun _ _ => ?_); (case hc => (first | (simp only [need, imp, needIf]; done) | ((try simp only [need, imp, needIf]); (repeat' apply And.intro) <;> (first | trivial | rfl | omega | (simp; done) | (simp; omega) | (intros; rfl) | (exact Nat.le_trans (Nat.mul_le_mul_right _ (show _ ≤ 100000000001 by omega)) (by decide)) | (intro hg_; first | exact hg_ | ((try simp only [decide_eq_true_eq] at hg_); (try rw [wi64 (by omega) (by omega)]); (repeat' apply And.intro) <;> (first | trivial | rfl | omega | (intros; rfl)))))))))
        | (refine o_new rfl rfl rfl ⟨(none, _), Nat.le_refl _⟩ ?hc (fun _ _ => ?_); (case hc => (first | (simp only [need, imp, needIf]; done) | ((try simp only [need, imp, needIf]); (repeat' apply And.intro) <;> (first | trivial | rfl | omega | (simp; done) | (simp; omega) | (intros; rfl) | (exact Nat.le_trans (Nat.mul_le_mul_right _ (show _ ≤ 100000000001 by omega)) (by decide)) | (intro hg_; first | exact hg_ | ((try simp only [decide_eq_true_eq] at hg_); (try rw [wi64 (by omega) (by omega)]); (repeat' apply And.intro) <;> (first | trivial | rfl | omega | (intros; rfl)))))))))
        | refine o_put rfl rfl rfl trivial trivial ?_
        | (refine o_put rfl rfl rfl trivial ?hc ?_; (case hc => (first | (simp only [need, imp, needIf]; done) | ((try simp only [need, imp, needIf]); (repeat' apply And.intro) <;> (first | trivial | rfl | omega | (simp; done) | (simp; omega) | (intros; rfl) | (exact Nat.le_trans (Nat.mul_le_mul_right _ (show _ ≤ 100000000001 by omega)) (by decide)) | (intro hg_; first | exact hg_ | ((try simp only [decide_eq_true_eq] at hg_); (try rw [wi64 (by omega) (by omega)]); (repeat' apply And.intro) <;> (first | trivial | rfl | omega | (intros; rfl)))))))))
        | refine o_nil ?_
        | refine d_val rfl rfl trivial trivial ?_
        | (refine d_val rfl rfl trivial ?hc ?_; (case hc => (first | (simp only [need, imp, needIf]; done) | ((try simp only [need, imp, needIf]); (repeat' apply And.intro) <;> (first | trivial | rfl | omega | (simp; done) | (simp; omega) | (intros; rfl) | (exact Nat.le_trans (Nat.mul_le_mul_right _ (show _ ≤ 100000000001 by omega)) (by decide)) | (intro hg_; first | exact hg_ | ((try simp only [decide_eq_true_eq] at hg_); (try rw [wi64 (by omega) (by omega)]); (repeat' apply And.intro) <;> (first | trivial | rfl | omega | (intros; rfl)))))))))
        | refine d_new rfl rfl rfl ⟨0, trivial⟩ trivial (fun _ _ => ?_)
        | (refine d_new rfl rfl rfl ⟨0, trivial⟩ ?hc (fun _ _ => ?_); (case hc => (first | (simp only [need, imp, needIf]; done) | ((try simp only [need, imp, needIf]); (repeat' apply And.intro) <;> (first | trivial | rfl | omega | (simp; done) | (simp; omega) | (intros; rfl) | (exact Nat.le_trans (Nat.mul_le_mul_right _ (show _ ≤ 100000000001 by omega)) (by decide)) | (intro hg_; first | exact hg_ | ((try simp only [decide_eq_true_eq] at hg_); (try rw [wi64 (by omega) (by omega)]); (repeat' apply And.intro) <;> (first | trivial | rfl | omega | (intros; rfl)))))))))
        | (refine d_new rfl rfl rfl ⟨(none, _), Nat.le_refl _⟩ ?hc (fun _ _ => ?_); (case hc => (first | (simp only [need, imp, needIf]; done) | ((try simp only [need, imp, needIf]); (repeat' apply And.intro) <;> (first | trivial | rfl | omega | (simp; done) | (simp; omega) | (intros; rfl) | (exact Nat.le_trans (Nat.mul_le_mul_right _ (show _ ≤ 100000000001 by omega)) (by decide)) | (intro hg_; first | exact hg_ | ((try simp only [decide_eq_true_eq] at hg_); (try rw [wi64 (by omega) (by omega)]); (repeat' apply And.intro) <;> (first | trivial | rfl | omega | (intros; rfl)))))))))
        | refine d_put rfl rfl rfl trivial trivial ?_
        | (refine d_put rfl rfl rfl trivial ?hc ?_; (case hc => (first | (simp only [need, imp, needIf]; done) | ((try simp only [need, imp, needIf]); (repeat' apply And.intro) <;> (first | trivial | rfl | omega | (simp; done) | (simp; omega) | (intros; rfl) | (exact Nat.le_trans (Nat.mul_le_mul_right _ (show _ ≤ 100000000001 by omega)) (by decide)) | (intro hg_; first | exact hg_ | ((try simp only [decide_eq_true_eq] at hg_); (try rw [wi64 (by omega) (by omega)]); (repeat' apply And.intro) <;> (first | trivial | rfl | omega | (intros; rfl)))))))))
        | refine d_nil ?_
        | refine s_skip ?_
        | refine s_block ?_
        | refine s_exit ?_
        | refine s_label ?_)
      refine s_cond rfl (fun hb2 => ?_) (fun hb2 => ?_)
      · repeat (first
          | refine s_seq ?_
          | refine s_region ?_
          | refine o_val rfl rfl trivial trivial ?_
          | (refine o_val rfl rfl trivial ?hc ?_; (case hc => (first | (simp only [need, imp, needIf]; done) | ((try simp only [need, imp, needIf]); (repeat' apply And.intro) <;> (first | trivial | rfl | omega | (simp; done) | (simp; omega) | (intros; rfl) | (exact Nat.le_trans (Nat.mul_le_mul_right _ (show _ ≤ 100000000001 by omega)) (by decide)) | (intro hg_; first | exact hg_ | ((try simp only [decide_eq_true_eq] at hg_); (try rw [wi64 (by omega) (by omega)]); (repeat' apply And.intro) <;> (first | trivial | rfl | omega | (intros; rfl)))))))))
          | refine o_new rfl rfl rfl ⟨0, trivial⟩ trivial (fun _ _ => ?_)
          | (refine o_new rfl rfl rfl ⟨0, trivial⟩ ?hc (fun _ _ => ?_); (case hc => (first | (simp only [need, imp, needIf]; done) | ((try simp only [need, imp, needIf]); (repeat' apply And.intro) <;> (first | trivial | rfl | omega | (simp; done) | (simp; omega) | (intros; rfl) | (exact Nat.le_trans (Nat.mul_le_mul_right _ (show _ ≤ 100000000001 by omega)) (by decide)) | (intro hg_; first | exact hg_ | ((try simp only [decide_eq_true_eq] at hg_); (try rw [wi64 (by omega) (by omega)]); (repeat' apply And.intro) <;> (first | trivial | rfl | omega | (intros; rfl)))))))))
          | (refine o_new rfl rfl rfl ⟨(none, _), Nat.le_refl _⟩ ?hc (fun _ _ => ?_); (case hc => (first | (simp only [need, imp, needIf]; done) | ((try simp only [need, imp, needIf]); (repeat' apply And.intro) <;> (first | trivial | rfl | omega | (simp; done) | (simp; omega) | (intros; rfl) | (exact Nat.le_trans (Nat.mul_le_mul_right _ (show _ ≤ 100000000001 by omega)) (by decide)) | (intro hg_; first | exact hg_ | ((try simp only [decide_eq_true_eq] at hg_); (try rw [wi64 (by omega) (by omega)]); (repeat' apply And.intro) <;> (first | trivial | rfl | omega | (intros; rfl)))))))))
          | refine o_put rfl rfl rfl trivial trivial ?_
          | (refine o_put rfl rfl rfl trivial ?hc ?_; (case hc => (first | (simp only [need, imp, needIf]; done) | ((try simp only [need, imp, needIf]); (repeat' apply And.intro) <;> (first | trivial | rfl | omega | (simp; done) | (simp; omega) | (intros; rfl) | (exact Nat.le_trans (Nat.mul_le_mul_right _ (show _ ≤ 100000000001 by omega)) (by decide)) | (intro hg_; first | exact hg_ | ((try simp only [decide_eq_true_eq] at hg_); (try rw [wi64 (by omega) (by omega)]); (repeat' apply And.intro) <;> (first | trivial | rfl | omega | (intros; rfl)))))))))
          | refine o_nil ?_
          | refine d_val rfl rfl trivial trivial ?_
          | (refine d_val rfl rfl trivial ?hc ?_; (case hc => (first | (simp only [need, imp, needIf]; done) | ((try simp only [need, imp, needIf]); (repeat' apply And.intro) <;> (first | trivial | rfl | omega | (simp; done) | (simp; omega) | (intros; rfl) | (exact Nat.le_trans (Nat.mul_le_mul_right _ (show _ ≤ 100000000001 by omega)) (by decide)) | (intro hg_; first | exact hg_ | ((try simp only [decide_eq_true_eq] at hg_); (try rw [wi64 (by omega) (by omega)]); (repeat' apply And.intro) <;> (first | trivial | rfl | omega | (intros; rfl)))))))))
          | refine d_new rfl rfl rfl ⟨0, trivial⟩ trivial (fun _ _ => ?_)
          | (refine d_new rfl rfl rfl ⟨0, trivial⟩ ?hc (fun _ _ => ?_); (case hc => (first | (simp only [need, imp, needIf]; done) | ((try simp only [need, imp, needIf]); (repeat' apply And.intro) <;> (first | trivial | rfl | omega | (simp; done) | (simp; omega) | (intros; rfl) | (exact Nat.le_trans (Nat.mul_le_mul_right _ (show _ ≤ 100000000001 by omega)) (by decide)) | (intro hg_; first | exact hg_ | ((try simp only [decide_eq_true_eq] at hg_); (try rw [wi64 (by omega) (by omega)]); (repeat' apply And.intro) <;> (first | trivial | rfl | omega | (intros; rfl)))))))))
          | (refine d_new rfl rfl rfl ⟨(none, _), Nat.le_refl _⟩ ?hc (fun _ _ => ?_); (case hc => (first | (simp only [need, imp, needIf]; done) | ((try simp only [need, imp, needIf]); (repeat' apply And.intro) <;> (first | trivial | rfl | omega | (simp; done) | (simp; omega) | (intros; rfl) | (exact Nat.le_trans (Nat.mul_le_mul_right _ (show _ ≤ 100000000001 by omega)) (by decide)) | (intro hg_; first | exact hg_ | ((try simp only [decide_eq_true_eq] at hg_); (try rw [wi64 (by omega) (by omega)]); (repeat' apply And.intro) <;> (first | trivial | rfl | omega | (intros; rfl)))))))))
          | refine d_put rfl rfl rfl trivial trivial ?_
          | (refine d_put rfl rfl rfl trivial ?hc ?_; (case hc => (first | (simp only [need, imp, needIf]; done) | ((try simp only [need, imp, needIf]); (repeat' apply And.intro) <;> (first | trivial | rfl | omega | (simp; done) | (simp; omega) | (intros; rfl) | (exact Nat.le_trans (Nat.mul_le_mul_right _ (show _ ≤ 100000000001 by omega)) (by decide)) | (intro hg_; first | exact hg_ | ((try simp only [decide_eq_true_eq] at hg_); (try rw [wi64 (by omega) (by omega)]); (repeat' apply And.intro) <;> (first | trivial | rfl | omega | (intros; rfl)))))))))
          | refine d_nil ?_
          | refine s_skip ?_
          | refine s_block ?_
          | refine s_exit ?_
          | refine s_label ?_)
        refine s_ret ?_
        refine ⟨_, _, rfl, ⟨trivial, trivial⟩, rfl, ?_⟩
        rw [hz, hs, firstI, if_pos hb2]; rfl
      · repeat (first
          | refine s_seq ?_
          | refine s_region ?_
          | refine o_val rfl rfl trivial trivial ?_
          | (refine o_val rfl rfl trivial ?hc ?_; (case hc => (first | (simp only [need, imp, needIf]; done) | ((try simp only [need, imp, needIf]); (repeat' apply And.intro) <;> (first | trivial | rfl | omega | (simp; done) | (simp; omega) | (intros; rfl) | (exact Nat.le_trans (Nat.mul_le_mul_right _ (show _ ≤ 100000000001 by omega)) (by decide)) | (intro hg_; first | exact hg_ | ((try simp only [decide_eq_true_eq] at hg_); (try rw [wi64 (by omega) (by omega)]); (repeat' apply And.intro) <;> (first | trivial | rfl | omega | (intros; rfl)))))))))
          | refine o_new rfl rfl rfl ⟨0, trivial⟩ trivial (fun _ _ => ?_)
          | (refine o_new rfl rfl rfl ⟨0, trivial⟩ ?hc (fun _ _ => ?_); (case hc => (first | (simp only [need, imp, needIf]; done) | ((try simp only [need, imp, needIf]); (repeat' apply And.intro) <;> (first | trivial | rfl | omega | (simp; done) | (simp; omega) | (intros; rfl) | (exact Nat.le_trans (Nat.mul_le_mul_right _ (show _ ≤ 100000000001 by omega)) (by decide)) | (intro hg_; first | exact hg_ | ((try simp only [decide_eq_true_eq] at hg_); (try rw [wi64 (by omega) (by omega)]); (repeat' apply And.intro) <;> (first | trivial | rfl | omega | (intros; rfl)))))))))
          | (refine o_new rfl rfl rfl ⟨(none, _), Nat.le_refl _⟩ ?hc (fun _ _ => ?_); (case hc => (first | (simp only [need, imp, needIf]; done) | ((try simp only [need, imp, needIf]); (repeat' apply And.intro) <;> (first | trivial | rfl | omega | (simp; done) | (simp; omega) | (intros; rfl) | (exact Nat.le_trans (Nat.mul_le_mul_right _ (show _ ≤ 100000000001 by omega)) (by decide)) | (intro hg_; first | exact hg_ | ((try simp only [decide_eq_true_eq] at hg_); (try rw [wi64 (by omega) (by omega)]); (repeat' apply And.intro) <;> (first | trivial | rfl | omega | (intros; rfl)))))))))
          | refine o_put rfl rfl rfl trivial trivial ?_
          | (refine o_put rfl rfl rfl trivial ?hc ?_; (case hc => (first | (simp only [need, imp, needIf]; done) | ((try simp only [need, imp, needIf]); (repeat' apply And.intro) <;> (first | trivial | rfl | omega | (simp; done) | (simp; omega) | (intros; rfl) | (exact Nat.le_trans (Nat.mul_le_mul_right _ (show _ ≤ 100000000001 by omega)) (by decide)) | (intro hg_; first | exact hg_ | ((try simp only [decide_eq_true_eq] at hg_); (try rw [wi64 (by omega) (by omega)]); (repeat' apply And.intro) <;> (first | trivial | rfl | omega | (intros; rfl)))))))))
          | refine o_nil ?_
          | refine d_val rfl rfl trivial trivial ?_
          | (refine d_val rfl rfl trivial ?hc ?_; (case hc => (first | (simp only [need, imp, needIf]; done) | ((try simp only [need, imp, needIf]); (repeat' apply And.intro) <;> (first | trivial | rfl | omega | (simp; done) | (simp; omega) | (intros; rfl) | (exact Nat.le_trans (Nat.mul_le_mul_right _ (show _ ≤ 100000000001 by omega)) (by decide)) | (intro hg_; first | exact hg_ | ((try simp only [decide_eq_true_eq] at hg_); (try rw [wi64 (by omega) (by omega)]); (repeat' apply And.intro) <;> (first | trivial | rfl | omega | (intros; rfl)))))))))
          | refine d_new rfl rfl rfl ⟨0, trivial⟩ trivial (fun _ _ => ?_)
          | (refine d_new rfl rfl rfl ⟨0, trivial⟩ ?hc (fun _ _ => ?_); (case hc => (first | (simp only [need, imp, needIf]; done) | ((try simp only [need, imp, needIf]); (repeat' apply And.intro) <;> (first | trivial | rfl | omega | (simp; done) | (simp; omega) | (intros; rfl) | (exact Nat.le_trans (Nat.mul_le_mul_right _ (show _ ≤ 100000000001 by omega)) (by decide)) | (intro hg_; first | exact hg_ | ((try simp only [decide_eq_true_eq] at hg_); (try rw [wi64 (by omega) (by omega)]); (repeat' apply And.intro) <;> (first | trivial | rfl | omega | (intros; rfl)))))))))
          | (refine d_new rfl rfl rfl ⟨(none, _), Nat.le_refl _⟩ ?hc (fun _ _ => ?_); (case hc => (first | (simp only [need, imp, needIf]; done) | ((try simp only [need, imp, needIf]); (repeat' apply And.intro) <;> (first | trivial | rfl | omega | (simp; done) | (simp; omega) | (intros; rfl) | (exact Nat.le_trans (Nat.mul_le_mul_right _ (show _ ≤ 100000000001 by omega)) (by decide)) | (intro hg_; first | exact hg_ | ((try simp only [decide_eq_true_eq] at hg_); (try rw [wi64 (by omega) (by omega)]); (repeat' apply And.intro) <;> (first | trivial | rfl | omega | (intros; rfl)))))))))
          | refine d_put rfl rfl rfl trivial trivial ?_
          | (refine d_put rfl rfl rfl trivial ?hc ?_; (case hc => (first | (simp only [need, imp, needIf]; done) | ((try simp only [need, imp, needIf]); (repeat' apply And.intro) <;> (first | trivial | rfl | omega | (simp; done) | (simp; omega) | (intros; rfl) | (exact Nat.le_trans (Nat.mul_le_mul_right _ (show _ ≤ 100000000001 by omega)) (by decide)) | (intro hg_; first | exact hg_ | ((try simp only [decide_eq_true_eq] at hg_); (try rw [wi64 (by omega) (by omega)]); (repeat' apply And.intro) <;> (first | trivial | rfl | omega | (intros; rfl)))))))))
          | refine d_nil ?_
          | refine s_skip ?_
          | refine s_block ?_
          | refine s_exit ?_
          | refine s_label ?_)
        refine ⟨k + 1, ⟨by omega, ?_⟩, by omega, ?_⟩
        · rw [hz, hs, firstI, if_neg (by rw [hb2]; decide)]
        · (refine Le.of ?leT ?leM rfl; (case leT => repeat (first | exact trivial | refine And.intro (by first | exact rfl | (show some (none, AV.v (.int .i64 (IntKind.i64.wrap _))) = _; rw [wi64 (by omega) (by omega)]; rfl)) ?_)); (case leM => repeat (first | exact trivial | refine And.intro ⟨_, rfl, Blk.le_refl _⟩ ?_)))
    · have hge : k = n := by simp at hb; omega
      repeat (first
        | refine s_seq ?_
        | refine s_region ?_
        | refine o_val rfl rfl trivial trivial ?_
        | (refine o_val rfl rfl trivial ?hc ?_; (case hc => (first | (simp only [need, imp, needIf]; done) | ((try simp only [need, imp, needIf]); (repeat' apply And.intro) <;> (first | trivial | rfl | omega | (simp; done) | (simp; omega) | (intros; rfl) | (exact Nat.le_trans (Nat.mul_le_mul_right _ (show _ ≤ 100000000001 by omega)) (by decide)) | (intro hg_; first | exact hg_ | ((try simp only [decide_eq_true_eq] at hg_); (try rw [wi64 (by omega) (by omega)]); (repeat' apply And.intro) <;> (first | trivial | rfl | omega | (intros; rfl)))))))))
        | refine o_new rfl rfl rfl ⟨0, trivial⟩ trivial (fun _ _ => ?_)
        | (refine o_new rfl rfl rfl ⟨0, trivial⟩ ?hc (fun _ _ => ?_); (case hc => (first | (simp only [need, imp, needIf]; done) | ((try simp only [need, imp, needIf]); (repeat' apply And.intro) <;> (first | trivial | rfl | omega | (simp; done) | (simp; omega) | (intros; rfl) | (exact Nat.le_trans (Nat.mul_le_mul_right _ (show _ ≤ 100000000001 by omega)) (by decide)) | (intro hg_; first | exact hg_ | ((try simp only [decide_eq_true_eq] at hg_); (try rw [wi64 (by omega) (by omega)]); (repeat' apply And.intro) <;> (first | trivial | rfl | omega | (intros; rfl)))))))))
        | (refine o_new rfl rfl rfl ⟨(none, _), Nat.le_refl _⟩ ?hc (fun _ _ => ?_); (case hc => (first | (simp only [need, imp, needIf]; done) | ((try simp only [need, imp, needIf]); (repeat' apply And.intro) <;> (first | trivial | rfl | omega | (simp; done) | (simp; omega) | (intros; rfl) | (exact Nat.le_trans (Nat.mul_le_mul_right _ (show _ ≤ 100000000001 by omega)) (by decide)) | (intro hg_; first | exact hg_ | ((try simp only [decide_eq_true_eq] at hg_); (try rw [wi64 (by omega) (by omega)]); (repeat' apply And.intro) <;> (first | trivial | rfl | omega | (intros; rfl)))))))))
        | refine o_put rfl rfl rfl trivial trivial ?_
        | (refine o_put rfl rfl rfl trivial ?hc ?_; (case hc => (first | (simp only [need, imp, needIf]; done) | ((try simp only [need, imp, needIf]); (repeat' apply And.intro) <;> (first | trivial | rfl | omega | (simp; done) | (simp; omega) | (intros; rfl) | (exact Nat.le_trans (Nat.mul_le_mul_right _ (show _ ≤ 100000000001 by omega)) (by decide)) | (intro hg_; first | exact hg_ | ((try simp only [decide_eq_true_eq] at hg_); (try rw [wi64 (by omega) (by omega)]); (repeat' apply And.intro) <;> (first | trivial | rfl | omega | (intros; rfl)))))))))
        | refine o_nil ?_
        | refine d_val rfl rfl trivial trivial ?_
        | (refine d_val rfl rfl trivial ?hc ?_; (case hc => (first | (simp only [need, imp, needIf]; done) | ((try simp only [need, imp, needIf]); (repeat' apply And.intro) <;> (first | trivial | rfl | omega | (simp; done) | (simp; omega) | (intros; rfl) | (exact Nat.le_trans (Nat.mul_le_mul_right _ (show _ ≤ 100000000001 by omega)) (by decide)) | (intro hg_; first | exact hg_ | ((try simp only [decide_eq_true_eq] at hg_); (try rw [wi64 (by omega) (by omega)]); (repeat' apply And.intro) <;> (first | trivial | rfl | omega | (intros; rfl)))))))))
        | refine d_new rfl rfl rfl ⟨0, trivial⟩ trivial (fun _ _ => ?_)
        | (refine d_new rfl rfl rfl ⟨0, trivial⟩ ?hc (fun _ _ => ?_); (case hc => (first | (simp only [need, imp, needIf]; done) | ((try simp only [need, imp, needIf]); (repeat' apply And.intro) <;> (first | trivial | rfl | omega | (simp; done) | (simp; omega) | (intros; rfl) | (exact Nat.le_trans (Nat.mul_le_mul_right _ (show _ ≤ 100000000001 by omega)) (by decide)) | (intro hg_; first | exact hg_ | ((try simp only [decide_eq_true_eq] at hg_); (try rw [wi64 (by omega) (by omega)]); (repeat' apply And.intro) <;> (first | trivial | rfl | omega | (intros; rfl)))))))))
        | (refine d_new rfl rfl rfl ⟨(none, _), Nat.le_refl _⟩ ?hc (fun _ _ => ?_); (case hc => (first | (simp only [need, imp, needIf]; done) | ((try simp only [need, imp, needIf]); (repeat' apply And.intro) <;> (first | trivial | rfl | omega | (simp; done) | (simp; omega) | (intros; rfl) | (exact Nat.le_trans (Nat.mul_le_mul_right _ (show _ ≤ 100000000001 by omega)) (by decide)) | (intro hg_; first | exact hg_ | ((try simp only [decide_eq_true_eq] at hg_); (try rw [wi64 (by omega) (by omega)]); (repeat' apply And.intro) <;> (first | trivial | rfl | omega | (intros; rfl)))))))))
        | refine d_put rfl rfl rfl trivial trivial ?_
        | (refine d_put rfl rfl rfl trivial ?hc ?_; (case hc => (first | (simp only [need, imp, needIf]; done) | ((try simp only [need, imp, needIf]); (repeat' apply And.intro) <;> (first | trivial | rfl | omega | (simp; done) | (simp; omega) | (intros; rfl) | (exact Nat.le_trans (Nat.mul_le_mul_right _ (show _ ≤ 100000000001 by omega)) (by decide)) | (intro hg_; first | exact hg_ | ((try simp only [decide_eq_true_eq] at hg_); (try rw [wi64 (by omega) (by omega)]); (repeat' apply And.intro) <;> (first | trivial | rfl | omega | (intros; rfl)))))))))
        | refine d_nil ?_
        | refine s_skip ?_
        | refine s_block ?_
        | refine s_exit ?_
        | refine s_label ?_)
      refine s_ret ?_
      refine ⟨_, _, rfl, ⟨trivial, trivial⟩, rfl, ?_⟩
      rw [hz, hge, Nat.sub_self]; rfl
theorem index41_body : HasBody Try.prog 41 := ⟨_, Try.func41, rfl, by decide⟩

theorem contains25 {w : World} {n : Nat} (hn : n < 4611686018427387904) {base : Option (Nat × Nat)} {cap : Nat} {g : Nat → Gt} (hro : (roB base 108 n fun i => encG (g i)).holds w) {fid : FuncId} {caps : AV} (hfb : HasBody Try.prog fid) (p : Nat → Bool)
    (hc : ∀ i, i < n → ∀ w', Below w.heap.size w w' → Calls Try.prog fid ((encG (g i) :: caps.toL).map AV.val).toArray w' fun e w'' => e = .returned (.bool (p i)) ∧ Below w'.heap.size w' w'') :
    Calls Try.prog 25 #[slV base n cap, (AV.fn fid caps).val] w fun e w' => e = .returned (.bool (decide (firstI p n 0 ≥ 0))) ∧ Below w.heap.size w w' := by
  rw [show #[slV base n cap, (AV.fn fid caps).val] = ([roS 900 base 108 n cap, .fn fid caps].map AV.val).toArray by simp only [List.map_cons, List.map_nil, roS_val]]
  refine ro_fn tabs (ct := []) trivial (cr := []) trivial Try.func25 rfl rfl (res := .v (.bool (decide (firstI p n 0 ≥ 0)))) (M := [(900, roB base 108 n fun i => encG (g i))]) rfl ⟨roB_noOwn, trivial⟩ ⟨hro, trivial⟩ ?_
  repeat (first
    | refine s_seq ?_
    | refine s_region ?_
    | refine o_val rfl rfl trivial trivial ?_
    | (refine o_val rfl rfl trivial ?hc ?_; (case hc => (first | (simp only [need, imp, needIf]; done) | ((try simp only [need, imp, needIf]); (repeat' apply And.intro) <;> (first | trivial | rfl | omega | (simp; done) | (simp; omega) | (intros; rfl) | (exact Nat.le_trans (Nat.mul_le_mul_right _ (show _ ≤ 100000000001 by omega)) (by decide)) | (intro hg_; first | exact hg_ | ((try simp only [decide_eq_true_eq] at hg_); (try rw [wi64 (by omega) (by omega)]); (repeat' apply And.intro) <;> (first | trivial | rfl | omega | (intros; rfl)))))))))
    | refine o_new rfl rfl rfl ⟨0, trivial⟩ trivial (fun _ _ => ?_)
    | (refine o_new rfl rfl rfl ⟨0, trivial⟩ ?hc (fun _ _ => ?_); (case hc => (first | (simp only [need, imp, needIf]; done) | ((try simp only [need, imp, needIf]); (repeat' apply And.intro) <;> (first | trivial | rfl | omega | (simp; done) | (simp; omega) | (intros; rfl) | (exact Nat.le_trans (Nat.mul_le_mul_right _ (show _ ≤ 100000000001 by omega)) (by decide)) | (intro hg_; first | exact hg_ | ((try simp only [decide_eq_true_eq] at hg_); (try rw [wi64 (by omega) (by omega)]); (repeat' apply And.intro) <;> (first | trivial | rfl | omega | (intros; rfl)))))))))
    | (refine o_new rfl rfl rfl ⟨(none, _), Nat.le_refl _⟩ ?hc (fun _ _ => ?_); (case hc => (first | (simp only [need, imp, needIf]; done) | ((try simp only [need, imp, needIf]); (repeat' apply And.intro) <;> (first | trivial | rfl | omega | (simp; done) | (simp; omega) | (intros; rfl) | (exact Nat.le_trans (Nat.mul_le_mul_right _ (show _ ≤ 100000000001 by omega)) (by decide)) | (intro hg_; first | exact hg_ | ((try simp only [decide_eq_true_eq] at hg_); (try rw [wi64 (by omega) (by omega)]); (repeat' apply And.intro) <;> (first | trivial | rfl | omega | (intros; rfl)))))))))
    | refine o_put rfl rfl rfl trivial trivial ?_
    | (refine o_put rfl rfl rfl trivial ?hc ?_; (case hc => (first | (simp only [need, imp, needIf]; done) | ((try simp only [need, imp, needIf]); (repeat' apply And.intro) <;> (first | trivial | rfl | omega | (simp; done) | (simp; omega) | (intros; rfl) | (exact Nat.le_trans (Nat.mul_le_mul_right _ (show _ ≤ 100000000001 by omega)) (by decide)) | (intro hg_; first | exact hg_ | ((try simp only [decide_eq_true_eq] at hg_); (try rw [wi64 (by omega) (by omega)]); (repeat' apply And.intro) <;> (first | trivial | rfl | omega | (intros; rfl)))))))))
    | refine o_nil ?_
    | refine d_val rfl rfl trivial trivial ?_
    | (refine d_val rfl rfl trivial ?hc ?_; (case hc => (first | (simp only [need, imp, needIf]; done) | ((try simp only [need, imp, needIf]); (repeat' apply And.intro) <;> (first | trivial | rfl | omega | (simp; done) | (simp; omega) | (intros; rfl) | (exact Nat.le_trans (Nat.mul_le_mul_right _ (show _ ≤ 100000000001 by omega)) (by decide)) | (intro hg_; first | exact hg_ | ((try simp only [decide_eq_true_eq] at hg_); (try rw [wi64 (by omega) (by omega)]); (repeat' apply And.intro) <;> (first | trivial | rfl | omega | (intros; rfl)))))))))
    | refine d_new rfl rfl rfl ⟨0, trivial⟩ trivial (fun _ _ => ?_)
    | (refine d_new rfl rfl rfl ⟨0, trivial⟩ ?hc (fun _ _ => ?_); (case hc => (first | (simp only [need, imp, needIf]; done) | ((try simp only [need, imp, needIf]); (repeat' apply And.intro) <;> (first | trivial | rfl | omega | (simp; done) | (simp; omega) | (intros; rfl) | (exact Nat.le_trans (Nat.mul_le_mul_right _ (show _ ≤ 100000000001 by omega)) (by decide)) | (intro hg_; first | exact hg_ | ((try simp only [decide_eq_true_eq] at hg_); (try rw [wi64 (by omega) (by omega)]); (repeat' apply And.intro) <;> (first | trivial | rfl | omega | (intros; rfl)))))))))
    | (refine d_new rfl rfl rfl ⟨(none, _), Nat.le_refl _⟩ ?hc (fun _ _ => ?_); (case hc => (first | (simp only [need, imp, needIf]; done) | ((try simp only [need, imp, needIf]); (repeat' apply And.intro) <;> (first | trivial | rfl | omega | (simp; done) | (simp; omega) | (intros; rfl) | (exact Nat.le_trans (Nat.mul_le_mul_right _ (show _ ≤ 100000000001 by omega)) (by decide)) | (intro hg_; first | exact hg_ | ((try simp only [decide_eq_true_eq] at hg_); (try rw [wi64 (by omega) (by omega)]); (repeat' apply And.intro) <;> (first | trivial | rfl | omega | (intros; rfl)))))))))
    | refine d_put rfl rfl rfl trivial trivial ?_
    | (refine d_put rfl rfl rfl trivial ?hc ?_; (case hc => (first | (simp only [need, imp, needIf]; done) | ((try simp only [need, imp, needIf]); (repeat' apply And.intro) <;> (first | trivial | rfl | omega | (simp; done) | (simp; omega) | (intros; rfl) | (exact Nat.le_trans (Nat.mul_le_mul_right _ (show _ ≤ 100000000001 by omega)) (by decide)) | (intro hg_; first | exact hg_ | ((try simp only [decide_eq_true_eq] at hg_); (try rw [wi64 (by omega) (by omega)]); (repeat' apply And.intro) <;> (first | trivial | rfl | omega | (intros; rfl)))))))))
    | refine d_nil ?_
    | refine s_skip ?_
    | refine s_block ?_
    | refine s_exit ?_
    | refine s_label ?_)
  refine o_callf (.v (.int .i64 (firstI p n 0))) rfl rfl rfl rfl rfl trivial index41_body (fun w' hS' => ?_) ?_
  · have := index41 (cap := cap) hn (hS'.holds 900 _ rfl) hfb p fun i hi w2 hb2 => hc i hi w2 (hS'.below0.trans (hb2.mono hS'.below0.size))
    refine (show Calls Try.prog 41 ([roS 900 base 108 n cap, .fn fid caps].map AV.val).toArray w' _ from ?_)
    simpa only [List.map_cons, List.map_nil, roS_val, AV.val_v] using this
  repeat (first
    | refine s_seq ?_
    | refine s_region ?_
    | refine o_val rfl rfl trivial trivial ?_
    | (refine o_val rfl rfl trivial ?hc ?_; (case hc => (first | (simp only [need, imp, needIf]; done) | ((try simp only [need, imp, needIf]); (repeat' apply And.intro) <;> (first | trivial | rfl | omega | (simp; done) | (simp; omega) | (intros; rfl) | (exact Nat.le_trans (Nat.mul_le_mul_right _ (show _ ≤ 100000000001 by omega)) (by decide)) | (intro hg_; first | exact hg_ | ((try simp only [decide_eq_true_eq] at hg_); (try rw [wi64 (by omega) (by omega)]); (repeat' apply And.intro) <;> (first | trivial | rfl | omega | (intros; rfl)))))))))
    | refine o_new rfl rfl rfl ⟨0, trivial⟩ trivial (fun _ _ => ?_)
    | (refine o_new rfl rfl rfl ⟨0, trivial⟩ ?hc (fun _ _ => ?_); (case hc => (first | (simp only [need, imp, needIf]; done) | ((try simp only [need, imp, needIf]); (repeat' apply And.intro) <;> (first | trivial | rfl | omega | (simp; done) | (simp; omega) | (intros; rfl) | (exact Nat.le_trans (Nat.mul_le_mul_right _ (show _ ≤ 100000000001 by omega)) (by decide)) | (intro hg_; first | exact hg_ | ((try simp only [decide_eq_true_eq] at hg_); (try rw [wi64 (by omega) (by omega)]); (repeat' apply And.intro) <;> (first | trivial | rfl | omega | (intros; rfl)))))))))
    | (refine o_new rfl rfl rfl ⟨(none, _), Nat.le_refl _⟩ ?hc (fun _ _ => ?_); (case hc => (first | (simp only [need, imp, needIf]; done) | ((try simp only [need, imp, needIf]); (repeat' apply And.intro) <;> (first | trivial | rfl | omega | (simp; done) | (simp; omega) | (intros; rfl) | (exact Nat.le_trans (Nat.mul_le_mul_right _ (show _ ≤ 100000000001 by omega)) (by decide)) | (intro hg_; first | exact hg_ | ((try simp only [decide_eq_true_eq] at hg_); (try rw [wi64 (by omega) (by omega)]); (repeat' apply And.intro) <;> (first | trivial | rfl | omega | (intros; rfl)))))))))
    | refine o_put rfl rfl rfl trivial trivial ?_
    | (refine o_put rfl rfl rfl trivial ?hc ?_; (case hc => (first | (simp only [need, imp, needIf]; done) | ((try simp only [need, imp, needIf]); (repeat' apply And.intro) <;> (first | trivial | rfl | omega | (simp; done) | (simp; omega) | (intros; rfl) | (exact Nat.le_trans (Nat.mul_le_mul_right _ (show _ ≤ 100000000001 by omega)) (by decide)) | (intro hg_; first | exact hg_ | ((try simp only [decide_eq_true_eq] at hg_); (try rw [wi64 (by omega) (by omega)]); (repeat' apply And.intro) <;> (first | trivial | rfl | omega | (intros; rfl)))))))))
    | refine o_nil ?_
    | refine d_val rfl rfl trivial trivial ?_
    | (refine d_val rfl rfl trivial ?hc ?_; (case hc => (first | (simp only [need, imp, needIf]; done) | ((try simp only [need, imp, needIf]); (repeat' apply And.intro) <;> (first | trivial | rfl | omega | (simp; done) | (simp; omega) | (intros; rfl) | (exact Nat.le_trans (Nat.mul_le_mul_right _ (show _ ≤ 100000000001 by omega)) (by decide)) | (intro hg_; first | exact hg_ | ((try simp only [decide_eq_true_eq] at hg_); (try rw [wi64 (by omega) (by omega)]); (repeat' apply And.intro) <;> (first | trivial | rfl | omega | (intros; rfl)))))))))
    | refine d_new rfl rfl rfl ⟨0, trivial⟩ trivial (fun _ _ => ?_)
    | (refine d_new rfl rfl rfl ⟨0, trivial⟩ ?hc (fun _ _ => ?_); (case hc => (first | (simp only [need, imp, needIf]; done) | ((try simp only [need, imp, needIf]); (repeat' apply And.intro) <;> (first | trivial | rfl | omega | (simp; done) | (simp; omega) | (intros; rfl) | (exact Nat.le_trans (Nat.mul_le_mul_right _ (show _ ≤ 100000000001 by omega)) (by decide)) | (intro hg_; first | exact hg_ | ((try simp only [decide_eq_true_eq] at hg_); (try rw [wi64 (by omega) (by omega)]); (repeat' apply And.intro) <;> (first | trivial | rfl | omega | (intros; rfl)))))))))
    | (refine d_new rfl rfl rfl ⟨(none, _), Nat.le_refl _⟩ ?hc (fun _ _ => ?_); (case hc => (first | (simp only [need, imp, needIf]; done) | ((try simp only [need, imp, needIf]); (repeat' apply And.intro) <;> (first | trivial | rfl | omega | (simp; done) | (simp; omega) | (intros; rfl) | (exact Nat.le_trans (Nat.mul_le_mul_right _ (show _ ≤ 100000000001 by omega)) (by decide)) | (intro hg_; first | exact hg_ | ((try simp only [decide_eq_true_eq] at hg_); (try rw [wi64 (by omega) (by omega)]); (repeat' apply And.intro) <;> (first | trivial | rfl | omega | (intros; rfl)))))))))
    | refine d_put rfl rfl rfl trivial trivial ?_
    | (refine d_put rfl rfl rfl trivial ?hc ?_; (case hc => (first | (simp only [need, imp, needIf]; done) | ((try simp only [need, imp, needIf]); (repeat' apply And.intro) <;> (first | trivial | rfl | omega | (simp; done) | (simp; omega) | (intros; rfl) | (exact Nat.le_trans (Nat.mul_le_mul_right _ (show _ ≤ 100000000001 by omega)) (by decide)) | (intro hg_; first | exact hg_ | ((try simp only [decide_eq_true_eq] at hg_); (try rw [wi64 (by omega) (by omega)]); (repeat' apply And.intro) <;> (first | trivial | rfl | omega | (intros; rfl)))))))))
    | refine d_nil ?_
    | refine s_skip ?_
    | refine s_block ?_
    | refine s_exit ?_
    | refine s_label ?_)
  refine s_ret ?_
  exact ⟨_, _, rfl, ⟨trivial, trivial⟩, rfl, rfl⟩
theorem contains25_body : HasBody Try.prog 25 := ⟨_, Try.func25, rfl, by decide⟩


def isAddr (a : Int) (x : Gt) : Bool := x.addr == a
theorem power1_calls {w : World} {b o : Nat} (x : Gt) (m : Mb) (hr : Reads w b o 3 1 fun _ => encMb m) :
    Calls Try.prog 26 #[(encG x).val, .pointer (some ⟨b, o, none⟩)] w fun e w' => e = .returned (.bool (isAddr m.addr x)) ∧ Below w.heap.size w w' := by
  rw [show #[(encG x).val, .pointer (some ⟨b, o, none⟩)] = ([encG x, roP 901 b o 3].map AV.val).toArray by simp only [List.map_cons, List.map_nil, roP_val]]
  refine ro_fn tabs (ct := []) trivial (cr := []) trivial Try.func26 rfl rfl (res := .v (.bool (isAddr m.addr x))) (M := [(901, roB (some (b, o)) 3 1 fun _ => encMb m)]) rfl ⟨roB_noOwn, trivial⟩ ⟨roB_holds fun _ => ⟨b, o, rfl, hr⟩, trivial⟩ ?_
  repeat (first
    | refine s_seq ?_
    | refine s_region ?_
    | refine o_val rfl rfl trivial trivial ?_
    | (refine o_val rfl rfl trivial ?hc ?_; (case hc => (first | (simp only [need, imp, needIf]; done) | ((try simp only [need, imp, needIf]); (repeat' apply And.intro) <;> (first | trivial | rfl | omega | (simp; done) | (simp; omega) | (intros; rfl) | (exact Nat.le_trans (Nat.mul_le_mul_right _ (show _ ≤ 100000000001 by omega)) (by decide)) | (intro hg_; first | exact hg_ | ((try simp only [decide_eq_true_eq] at hg_); (try rw [wi64 (by omega) (by omega)]); (repeat' apply And.intro) <;> (first | trivial | rfl | omega | (intros; rfl)))))))))
    | refine o_new rfl rfl rfl ⟨0, trivial⟩ trivial (fun _ _ => ?_)
    | (refine o_new rfl rfl rfl ⟨0, trivial⟩ ?hc (fun _ _ => ?_); (case hc => (first | (simp only [need, imp, needIf]; done) | ((try simp only [need, imp, needIf]); (repeat' apply And.intro) <;> (first | trivial | rfl | omega | (simp; done) | (simp; omega) | (intros; rfl) | (exact Nat.le_trans (Nat.mul_le_mul_right _ (show _ ≤ 100000000001 by omega)) (by decide)) | (intro hg_; first | exact hg_ | ((try simp only [decide_eq_true_eq] at hg_); (try rw [wi64 (by omega) (by omega)]); (repeat' apply And.intro) <;> (first | trivial | rfl | omega | (intros; rfl)))))))))
    | (refine o_new rfl rfl rfl ⟨(none, _), Nat.le_refl _⟩ ?hc (fun _ _ => ?_); (case hc => (first | (simp only [need, imp, needIf]; done) | ((try simp only [need, imp, needIf]); (repeat' apply And.intro) <;> (first | trivial | rfl | omega | (simp; done) | (simp; omega) | (intros; rfl) | (exact Nat.le_trans (Nat.mul_le_mul_right _ (show _ ≤ 100000000001 by omega)) (by decide)) | (intro hg_; first | exact hg_ | ((try simp only [decide_eq_true_eq] at hg_); (try rw [wi64 (by omega) (by omega)]); (repeat' apply And.intro) <;> (first | trivial | rfl | omega | (intros; rfl)))))))))
    | refine o_put rfl rfl rfl trivial trivial ?_
    | (refine o_put rfl rfl rfl trivial ?hc ?_; (case hc => (first | (simp only [need, imp, needIf]; done) | ((try simp only [need, imp, needIf]); (repeat' apply And.intro) <;> (first | trivial | rfl | omega | (simp; done) | (simp; omega) | (intros; rfl) | (exact Nat.le_trans (Nat.mul_le_mul_right _ (show _ ≤ 100000000001 by omega)) (by decide)) | (intro hg_; first | exact hg_ | ((try simp only [decide_eq_true_eq] at hg_); (try rw [wi64 (by omega) (by omega)]); (repeat' apply And.intro) <;> (first | trivial | rfl | omega | (intros; rfl)))))))))
    | refine o_nil ?_
    | refine d_val rfl rfl trivial trivial ?_
    | (refine d_val rfl rfl trivial ?hc ?_; (case hc => (first | (simp only [need, imp, needIf]; done) | ((try simp only [need, imp, needIf]); (repeat' apply And.intro) <;> (first | trivial | rfl | omega | (simp; done) | (simp; omega) | (intros; rfl) | (exact Nat.le_trans (Nat.mul_le_mul_right _ (show _ ≤ 100000000001 by omega)) (by decide)) | (intro hg_; first | exact hg_ | ((try simp only [decide_eq_true_eq] at hg_); (try rw [wi64 (by omega) (by omega)]); (repeat' apply And.intro) <;> (first | trivial | rfl | omega | (intros; rfl)))))))))
    | refine d_new rfl rfl rfl ⟨0, trivial⟩ trivial (fun _ _ => ?_)
    | (refine d_new rfl rfl rfl ⟨0, trivial⟩ ?hc (fun _ _ => ?_); (case hc => (first | (simp only [need, imp, needIf]; done) | ((try simp only [need, imp, needIf]); (repeat' apply And.intro) <;> (first | trivial | rfl | omega | (simp; done) | (simp; omega) | (intros; rfl) | (exact Nat.le_trans (Nat.mul_le_mul_right _ (show _ ≤ 100000000001 by omega)) (by decide)) | (intro hg_; first | exact hg_ | ((try simp only [decide_eq_true_eq] at hg_); (try rw [wi64 (by omega) (by omega)]); (repeat' apply And.intro) <;> (first | trivial | rfl | omega | (intros; rfl)))))))))
    | (refine d_new rfl rfl rfl ⟨(none, _), Nat.le_refl _⟩ ?hc (fun _ _ => ?_); (case hc => (first | (simp only [need, imp, needIf]; done) | ((try simp only [need, imp, needIf]); (repeat' apply And.intro) <;> (first | trivial | rfl | omega | (simp; done) | (simp; omega) | (intros; rfl) | (exact Nat.le_trans (Nat.mul_le_mul_right _ (show _ ≤ 100000000001 by omega)) (by decide)) | (intro hg_; first | exact hg_ | ((try simp only [decide_eq_true_eq] at hg_); (try rw [wi64 (by omega) (by omega)]); (repeat' apply And.intro) <;> (first | trivial | rfl | omega | (intros; rfl)))))))))
    | refine d_put rfl rfl rfl trivial trivial ?_
    | (refine d_put rfl rfl rfl trivial ?hc ?_; (case hc => (first | (simp only [need, imp, needIf]; done) | ((try simp only [need, imp, needIf]); (repeat' apply And.intro) <;> (first | trivial | rfl | omega | (simp; done) | (simp; omega) | (intros; rfl) | (exact Nat.le_trans (Nat.mul_le_mul_right _ (show _ ≤ 100000000001 by omega)) (by decide)) | (intro hg_; first | exact hg_ | ((try simp only [decide_eq_true_eq] at hg_); (try rw [wi64 (by omega) (by omega)]); (repeat' apply And.intro) <;> (first | trivial | rfl | omega | (intros; rfl)))))))))
    | refine d_nil ?_
    | refine s_skip ?_
    | refine s_block ?_
    | refine s_exit ?_
    | refine s_label ?_)
  refine s_ret ?_
  exact ⟨_, _, rfl, ⟨trivial, trivial⟩, rfl, rfl⟩
theorem power1_body : HasBody Try.prog 26 := ⟨_, Try.func26, rfl, by decide⟩

/-- the power of those of the members at which p -/
def powG (g : Nat → Mb) (p : Nat → Bool) : Nat → Nat → Int → Int
  | 0, _, t => t
  | n + 1, k, t => powG g p n (k + 1) (if p k = true then IntKind.u64.wrap (t + (g k).power) else t)
def named (g : Nat → Mb) (h : Nat → Gt) (m k : Nat) : Bool := decide (firstI (fun i => isAddr (g k).addr (h i)) m 0 ≥ 0)
def PowerF (g : Nat → Mb) (n : Nat) (h : Nat → Gt) (m : Nat) : Int := if ((soundF g n).2 != 0) = true then 0 else powG g (named g h m) n 0 0
def PowerC (args : List AV) (M : MemF) : Option (Prop × AV) := match args with
  | [.agg (.cons x .nil), y] => match mbsOf M x, gtsOf M y with
    | some (c, n, g), some (c', m, h) => some (c ∧ c', .v (.int .u64 (PowerF g n h m)))
    | _, _ => none
  | _ => none
def ctP : CtL := [(24, SoundC)]
theorem ctP_ok : CtLOk Try.prog ctP := ⟨.fn Sound_body Sound_read, trivial⟩
theorem Power_read : ReadFn Try.prog 14 PowerC := by
  intro args M q res h0 hq O w0 w hS
  unfold PowerC at h0
  split at h0
  · rename_i x y
    split at h0
    · rename_i c n g c' m h hm hm'
      cases h0
      obtain ⟨hq1, hq2⟩ := hq
      obtain ⟨hn, base, cap, hv, hro⟩ := mbs_ro hS hm hq1
      obtain ⟨hn', base', cap', hv', hro'⟩ := gts_ro hS hm' hq2
      have hpl := mbs_plain hm
      rw [hv] at hpl
      rw [show [AV.agg (.cons x .nil), y].map AV.val = [AV.agg (.cons (roS 900 base 3 n cap) .nil), roS 901 base' 108 m cap'].map AV.val by simp only [List.map_cons, List.map_nil, agg1_val hpl (roS_cells 900 base 3 n cap), hv', roS_val]]
      refine ro_fn tabs ctP_ok (cr := []) trivial Try.func14 rfl rfl (M := [(900, roB base 3 n fun i => encMb (g i)), (901, roB base' 108 m fun i => encG (h i))]) rfl ⟨roB_noOwn, roB_noOwn, trivial⟩ ⟨hro, hro', trivial⟩ ?_
      repeat (first
        | refine s_seq ?_
        | refine s_region ?_
        | refine o_val rfl rfl trivial trivial ?_
        | (refine o_val rfl rfl trivial ?hc ?_; (case hc => (first | (simp only [need, imp, needIf]; done) | ((try simp only [need, imp, needIf]); (repeat' apply And.intro) <;> (first | trivial | rfl | omega | (simp; done) | (simp; omega) | (intros; rfl) | (exact Nat.le_trans (Nat.mul_le_mul_right _ (show _ ≤ 100000000001 by omega)) (by decide)) | (intro hg_; first | exact hg_ | ((try simp only [decide_eq_true_eq] at hg_); (try rw [wi64 (by omega) (by omega)]); (repeat' apply And.intro) <;> (first | trivial | rfl | omega | (intros; rfl)))))))))
        | refine o_new rfl rfl rfl ⟨0, trivial⟩ trivial (fun _ _ => ?_)
        | (refine o_new rfl rfl rfl ⟨0, trivial⟩ ?hc (fun _ _ => ?_); (case hc => (first | (simp only [need, imp, needIf]; done) | ((try simp only [need, imp, needIf]); (repeat' apply And.intro) <;> (first | trivial | rfl | omega | (simp; done) | (simp; omega) | (intros; rfl) | (exact Nat.le_trans (Nat.mul_le_mul_right _ (show _ ≤ 100000000001 by omega)) (by decide)) | (intro hg_; first | exact hg_ | ((try simp only [decide_eq_true_eq] at hg_); (try rw [wi64 (by omega) (by omega)]); (repeat' apply And.intro) <;> (first | trivial | rfl | omega | (intros; rfl)))))))))
        | (refine o_new rfl rfl rfl ⟨(none, _), Nat.le_refl _⟩ ?hc (fun _ _ => ?_); (case hc => (first | (simp only [need, imp, needIf]; done) | ((try simp only [need, imp, needIf]); (repeat' apply And.intro) <;> (first | trivial | rfl | omega | (simp; done) | (simp; omega) | (intros; rfl) | (exact Nat.le_trans (Nat.mul_le_mul_right _ (show _ ≤ 100000000001 by omega)) (by decide)) | (intro hg_; first | exact hg_ | ((try simp only [decide_eq_true_eq] at hg_); (try rw [wi64 (by omega) (by omega)]); (repeat' apply And.intro) <;> (first | trivial | rfl | omega | (intros; rfl)))))))))
        | refine o_put rfl rfl rfl trivial trivial ?_
        | (refine o_put rfl rfl rfl trivial ?hc ?_; (case hc => (first | (simp only [need, imp, needIf]; done) | ((try simp only [need, imp, needIf]); (repeat' apply And.intro) <;> (first | trivial | rfl | omega | (simp; done) | (simp; omega) | (intros; rfl) | (exact Nat.le_trans (Nat.mul_le_mul_right _ (show _ ≤ 100000000001 by omega)) (by decide)) | (intro hg_; first | exact hg_ | ((try simp only [decide_eq_true_eq] at hg_); (try rw [wi64 (by omega) (by omega)]); (repeat' apply And.intro) <;> (first | trivial | rfl | omega | (intros; rfl)))))))))
        | refine o_nil ?_
        | refine d_val rfl rfl trivial trivial ?_
        | (refine d_val rfl rfl trivial ?hc ?_; (case hc => (first | (simp only [need, imp, needIf]; done) | ((try simp only [need, imp, needIf]); (repeat' apply And.intro) <;> (first | trivial | rfl | omega | (simp; done) | (simp; omega) | (intros; rfl) | (exact Nat.le_trans (Nat.mul_le_mul_right _ (show _ ≤ 100000000001 by omega)) (by decide)) | (intro hg_; first | exact hg_ | ((try simp only [decide_eq_true_eq] at hg_); (try rw [wi64 (by omega) (by omega)]); (repeat' apply And.intro) <;> (first | trivial | rfl | omega | (intros; rfl)))))))))
        | refine d_new rfl rfl rfl ⟨0, trivial⟩ trivial (fun _ _ => ?_)
        | (refine d_new rfl rfl rfl ⟨0, trivial⟩ ?hc (fun _ _ => ?_); (case hc => (first | (simp only [need, imp, needIf]; done) | ((try simp only [need, imp, needIf]); (repeat' apply And.intro) <;> (first | trivial | rfl | omega | (simp; done) | (simp; omega) | (intros; rfl) | (exact Nat.le_trans (Nat.mul_le_mul_right _ (show _ ≤ 100000000001 by omega)) (by decide)) | (intro hg_; first | exact hg_ | ((try simp only [decide_eq_true_eq] at hg_); (try rw [wi64 (by omega) (by omega)]); (repeat' apply And.intro) <;> (first | trivial | rfl | omega | (intros; rfl)))))))))
        | (refine d_new rfl rfl rfl ⟨(none, _), Nat.le_refl _⟩ ?hc (fun _ _ => ?_); (case hc => (first | (simp only [need, imp, needIf]; done) | ((try simp only [need, imp, needIf]); (repeat' apply And.intro) <;> (first | trivial | rfl | omega | (simp; done) | (simp; omega) | (intros; rfl) | (exact Nat.le_trans (Nat.mul_le_mul_right _ (show _ ≤ 100000000001 by omega)) (by decide)) | (intro hg_; first | exact hg_ | ((try simp only [decide_eq_true_eq] at hg_); (try rw [wi64 (by omega) (by omega)]); (repeat' apply And.intro) <;> (first | trivial | rfl | omega | (intros; rfl)))))))))
        | refine d_put rfl rfl rfl trivial trivial ?_
        | (refine d_put rfl rfl rfl trivial ?hc ?_; (case hc => (first | (simp only [need, imp, needIf]; done) | ((try simp only [need, imp, needIf]); (repeat' apply And.intro) <;> (first | trivial | rfl | omega | (simp; done) | (simp; omega) | (intros; rfl) | (exact Nat.le_trans (Nat.mul_le_mul_right _ (show _ ≤ 100000000001 by omega)) (by decide)) | (intro hg_; first | exact hg_ | ((try simp only [decide_eq_true_eq] at hg_); (try rw [wi64 (by omega) (by omega)]); (repeat' apply And.intro) <;> (first | trivial | rfl | omega | (intros; rfl)))))))))
        | refine d_nil ?_
        | refine s_skip ?_
        | refine s_block ?_
        | refine s_exit ?_
        | refine s_label ?_)
      refine s_cond (b := ((soundF g n).2 != 0)) rfl (fun h1 => ?_) (fun h1 => ?_)
      · repeat (first
          | refine s_seq ?_
          | refine s_region ?_
          | refine o_val rfl rfl trivial trivial ?_
          | (refine o_val rfl rfl trivial ?hc ?_; (case hc => (first | (simp only [need, imp, needIf]; done) | ((try simp only [need, imp, needIf]); (repeat' apply And.intro) <;> (first | trivial | rfl | omega | (simp; done) | (simp; omega) | (intros; rfl) | (exact Nat.le_trans (Nat.mul_le_mul_right _ (show _ ≤ 100000000001 by omega)) (by decide)) | (intro hg_; first | exact hg_ | ((try simp only [decide_eq_true_eq] at hg_); (try rw [wi64 (by omega) (by omega)]); (repeat' apply And.intro) <;> (first | trivial | rfl | omega | (intros; rfl)))))))))
          | refine o_new rfl rfl rfl ⟨0, trivial⟩ trivial (fun _ _ => ?_)
          | (refine o_new rfl rfl rfl ⟨0, trivial⟩ ?hc (fun _ _ => ?_); (case hc => (first | (simp only [need, imp, needIf]; done) | ((try simp only [need, imp, needIf]); (repeat' apply And.intro) <;> (first | trivial | rfl | omega | (simp; done) | (simp; omega) | (intros; rfl) | (exact Nat.le_trans (Nat.mul_le_mul_right _ (show _ ≤ 100000000001 by omega)) (by decide)) | (intro hg_; first | exact hg_ | ((try simp only [decide_eq_true_eq] at hg_); (try rw [wi64 (by omega) (by omega)]); (repeat' apply And.intro) <;> (first | trivial | rfl | omega | (intros; rfl)))))))))
          | (refine o_new rfl rfl rfl ⟨(none, _), Nat.le_refl _⟩ ?hc (fun _ _ => ?_); (case hc => (first | (simp only [need, imp, needIf]; done) | ((try simp only [need, imp, needIf]); (repeat' apply And.intro) <;> (first | trivial | rfl | omega | (simp; done) | (simp; omega) | (intros; rfl) | (exact Nat.le_trans (Nat.mul_le_mul_right _ (show _ ≤ 100000000001 by omega)) (by decide)) | (intro hg_; first | exact hg_ | ((try simp only [decide_eq_true_eq] at hg_); (try rw [wi64 (by omega) (by omega)]); (repeat' apply And.intro) <;> (first | trivial | rfl | omega | (intros; rfl)))))))))
          | refine o_put rfl rfl rfl trivial trivial ?_
          | (refine o_put rfl rfl rfl trivial ?hc ?_; (case hc => (first | (simp only [need, imp, needIf]; done) | ((try simp only [need, imp, needIf]); (repeat' apply And.intro) <;> (first | trivial | rfl | omega | (simp; done) | (simp; omega) | (intros; rfl) | (exact Nat.le_trans (Nat.mul_le_mul_right _ (show _ ≤ 100000000001 by omega)) (by decide)) | (intro hg_; first | exact hg_ | ((try simp only [decide_eq_true_eq] at hg_); (try rw [wi64 (by omega) (by omega)]); (repeat' apply And.intro) <;> (first | trivial | rfl | omega | (intros; rfl)))))))))
          | refine o_nil ?_
          | refine d_val rfl rfl trivial trivial ?_
          | (refine d_val rfl rfl trivial ?hc ?_; (case hc => (first | (simp only [need, imp, needIf]; done) | ((try simp only [need, imp, needIf]); (repeat' apply And.intro) <;> (first | trivial | rfl | omega | (simp; done) | (simp; omega) | (intros; rfl) | (exact Nat.le_trans (Nat.mul_le_mul_right _ (show _ ≤ 100000000001 by omega)) (by decide)) | (intro hg_; first | exact hg_ | ((try simp only [decide_eq_true_eq] at hg_); (try rw [wi64 (by omega) (by omega)]); (repeat' apply And.intro) <;> (first | trivial | rfl | omega | (intros; rfl)))))))))
          | refine d_new rfl rfl rfl ⟨0, trivial⟩ trivial (fun _ _ => ?_)
          | (refine d_new rfl rfl rfl ⟨0, trivial⟩ ?hc (fun _ _ => ?_); (case hc => (first | (simp only [need, imp, needIf]; done) | ((try simp only [need, imp, needIf]); (repeat' apply And.intro) <;> (first | trivial | rfl | omega | (simp; done) | (simp; omega) | (intros; rfl) | (exact Nat.le_trans (Nat.mul_le_mul_right _ (show _ ≤ 100000000001 by omega)) (by decide)) | (intro hg_; first | exact hg_ | ((try simp only [decide_eq_true_eq] at hg_); (try rw [wi64 (by omega) (by omega)]); (repeat' apply And.intro) <;> (first | trivial | rfl | omega | (intros; rfl)))))))))
          | (refine d_new rfl rfl rfl ⟨(none, _), Nat.le_refl _⟩ ?hc (fun _ _ => ?_); (case hc => (first | (simp only [need, imp, needIf]; done) | ((try simp only [need, imp, needIf]); (repeat' apply And.intro) <;> (first | trivial | rfl | omega | (simp; done) | (simp; omega) | (intros; rfl) | (exact Nat.le_trans (Nat.mul_le_mul_right _ (show _ ≤ 100000000001 by omega)) (by decide)) | (intro hg_; first | exact hg_ | ((try simp only [decide_eq_true_eq] at hg_); (try rw [wi64 (by omega) (by omega)]); (repeat' apply And.intro) <;> (first | trivial | rfl | omega | (intros; rfl)))))))))
          | refine d_put rfl rfl rfl trivial trivial ?_
          | (refine d_put rfl rfl rfl trivial ?hc ?_; (case hc => (first | (simp only [need, imp, needIf]; done) | ((try simp only [need, imp, needIf]); (repeat' apply And.intro) <;> (first | trivial | rfl | omega | (simp; done) | (simp; omega) | (intros; rfl) | (exact Nat.le_trans (Nat.mul_le_mul_right _ (show _ ≤ 100000000001 by omega)) (by decide)) | (intro hg_; first | exact hg_ | ((try simp only [decide_eq_true_eq] at hg_); (try rw [wi64 (by omega) (by omega)]); (repeat' apply And.intro) <;> (first | trivial | rfl | omega | (intros; rfl)))))))))
          | refine d_nil ?_
          | refine s_skip ?_
          | refine s_block ?_
          | refine s_exit ?_
          | refine s_label ?_)
        refine s_ret ?_
        exact ⟨_, _, rfl, ⟨trivial, trivial⟩, rfl, by unfold PowerF; rw [if_pos h1]; rfl⟩
      repeat (first
        | refine s_seq ?_
        | refine s_region ?_
        | refine o_val rfl rfl trivial trivial ?_
        | (refine o_val rfl rfl trivial ?hc ?_; (case hc => (first | (simp only [need, imp, needIf]; done) | ((try simp only [need, imp, needIf]); (repeat' apply And.intro) <;> (first | trivial | rfl | omega | (simp; done) | (simp; omega) | (intros; rfl) | (exact Nat.le_trans (Nat.mul_le_mul_right _ (show _ ≤ 100000000001 by omega)) (by decide)) | (intro hg_; first | exact hg_ | ((try simp only [decide_eq_true_eq] at hg_); (try rw [wi64 (by omega) (by omega)]); (repeat' apply And.intro) <;> (first | trivial | rfl | omega | (intros; rfl)))))))))
        | refine o_new rfl rfl rfl ⟨0, trivial⟩ trivial (fun _ _ => ?_)
        | (refine o_new rfl rfl rfl ⟨0, trivial⟩ ?hc (fun _ _ => ?_); (case hc => (first | (simp only [need, imp, needIf]; done) | ((try simp only [need, imp, needIf]); (repeat' apply And.intro) <;> (first | trivial | rfl | omega | (simp; done) | (simp; omega) | (intros; rfl) | (exact Nat.le_trans (Nat.mul_le_mul_right _ (show _ ≤ 100000000001 by omega)) (by decide)) | (intro hg_; first | exact hg_ | ((try simp only [decide_eq_true_eq] at hg_); (try rw [wi64 (by omega) (by omega)]); (repeat' apply And.intro) <;> (first | trivial | rfl | omega | (intros; rfl)))))))))
        | (refine o_new rfl rfl rfl ⟨(none, _), Nat.le_refl _⟩ ?hc (fun _ _ => ?_); (case hc => (first | (simp only [need, imp, needIf]; done) | ((try simp only [need, imp, needIf]); (repeat' apply And.intro) <;> (first | trivial | rfl | omega | (simp; done) | (simp; omega) | (intros; rfl) | (exact Nat.le_trans (Nat.mul_le_mul_right _ (show _ ≤ 100000000001 by omega)) (by decide)) | (intro hg_; first | exact hg_ | ((try simp only [decide_eq_true_eq] at hg_); (try rw [wi64 (by omega) (by omega)]); (repeat' apply And.intro) <;> (first | trivial | rfl | omega | (intros; rfl)))))))))
        | refine o_put rfl rfl rfl trivial trivial ?_
        | (refine o_put rfl rfl rfl trivial ?hc ?_; (case hc => (first | (simp only [need, imp, needIf]; done) | ((try simp only [need, imp, needIf]); (repeat' apply And.intro) <;> (first | trivial | rfl | omega | (simp; done) | (simp; omega) | (intros; rfl) | (exact Nat.le_trans (Nat.mul_le_mul_right _ (show _ ≤ 100000000001 by omega)) (by decide)) | (intro hg_; first | exact hg_ | ((try simp only [decide_eq_true_eq] at hg_); (try rw [wi64 (by omega) (by omega)]); (repeat' apply And.intro) <;> (first | trivial | rfl | omega | (intros; rfl)))))))))
        | refine o_nil ?_
        | refine d_val rfl rfl trivial trivial ?_
        | (refine d_val rfl rfl trivial ?hc ?_; (case hc => (first | (simp only [need, imp, needIf]; done) | ((try simp only [need, imp, needIf]); (repeat' apply And.intro) <;> (first | trivial | rfl | omega | (simp; done) | (simp; omega) | (intros; rfl) | (exact Nat.le_trans (Nat.mul_le_mul_right _ (show _ ≤ 100000000001 by omega)) (by decide)) | (intro hg_; first | exact hg_ | ((try simp only [decide_eq_true_eq] at hg_); (try rw [wi64 (by omega) (by omega)]); (repeat' apply And.intro) <;> (first | trivial | rfl | omega | (intros; rfl)))))))))
        | refine d_new rfl rfl rfl ⟨0, trivial⟩ trivial (fun _ _ => ?_)
        | (refine d_new rfl rfl rfl ⟨0, trivial⟩ ?hc (fun _ _ => ?_); (case hc => (first | (simp only [need, imp, needIf]; done) | ((try simp only [need, imp, needIf]); (repeat' apply And.intro) <;> (first | trivial | rfl | omega | (simp; done) | (simp; omega) | (intros; rfl) | (exact Nat.le_trans (Nat.mul_le_mul_right _ (show _ ≤ 100000000001 by omega)) (by decide)) | (intro hg_; first | exact hg_ | ((try simp only [decide_eq_true_eq] at hg_); (try rw [wi64 (by omega) (by omega)]); (repeat' apply And.intro) <;> (first | trivial | rfl | omega | (intros; rfl)))))))))
        | (refine d_new rfl rfl rfl ⟨(none, _), Nat.le_refl _⟩ ?hc (fun _ _ => ?_); (case hc => (first | (simp only [need, imp, needIf]; done) | ((try simp only [need, imp, needIf]); (repeat' apply And.intro) <;> (first | trivial | rfl | omega | (simp; done) | (simp; omega) | (intros; rfl) | (exact Nat.le_trans (Nat.mul_le_mul_right _ (show _ ≤ 100000000001 by omega)) (by decide)) | (intro hg_; first | exact hg_ | ((try simp only [decide_eq_true_eq] at hg_); (try rw [wi64 (by omega) (by omega)]); (repeat' apply And.intro) <;> (first | trivial | rfl | omega | (intros; rfl)))))))))
        | refine d_put rfl rfl rfl trivial trivial ?_
        | (refine d_put rfl rfl rfl trivial ?hc ?_; (case hc => (first | (simp only [need, imp, needIf]; done) | ((try simp only [need, imp, needIf]); (repeat' apply And.intro) <;> (first | trivial | rfl | omega | (simp; done) | (simp; omega) | (intros; rfl) | (exact Nat.le_trans (Nat.mul_le_mul_right _ (show _ ≤ 100000000001 by omega)) (by decide)) | (intro hg_; first | exact hg_ | ((try simp only [decide_eq_true_eq] at hg_); (try rw [wi64 (by omega) (by omega)]); (repeat' apply And.intro) <;> (first | trivial | rfl | omega | (intros; rfl)))))))))
        | refine d_nil ?_
        | refine s_skip ?_
        | refine s_block ?_
        | refine s_exit ?_
        | refine s_label ?_)
      have fin : PowerF g n h m = powG g (named g h m) n 0 0 := by unfold PowerF; rw [if_neg (by rw [h1]; decide)]
      refine s_loopW (α := Nat × Int) [5, 7, 14, 15, 16, 17, 18, 19, 20, 21, 22, 23, 24, 25] [7] (fun x => x.1 ≤ n ∧ powG g (named g h m) n 0 0 = powG g (named g h m) (n - x.1) x.1 x.2) (fun x => [(14, none, .v (.int .i64 x.1)), (5, none, .v (.int .u64 x.2))]) (fun _ => []) (fun x => n - x.1) (0, 0) ⟨Nat.zero_le _, rfl⟩ ?_ ?_
      · (refine Le.of ?leT ?leM rfl; (case leT => repeat (first | exact trivial | refine And.intro (by first | exact rfl | (show some (none, AV.v (.int .i64 (IntKind.i64.wrap _))) = _; rw [wi64 (by omega) (by omega)]; rfl)) ?_)); (case leM => repeat (first | exact trivial | refine And.intro ⟨_, rfl, Blk.le_refl _⟩ ?_)))
      · intro ⟨k, t⟩ ⟨hk, hz⟩
        dsimp only at hk hz
        repeat (first
          | refine s_seq ?_
          | refine s_region ?_
          | refine o_val rfl rfl trivial trivial ?_
          | (refine o_val rfl rfl trivial ?hc ?_; (case hc => (first | (simp only [need, imp, needIf]; done) | ((try simp only [need, imp, needIf]); (repeat' apply And.intro) <;> (first | trivial | rfl | omega | (simp; done) | (simp; omega) | (intros; rfl) | (exact Nat.le_trans (Nat.mul_le_mul_right _ (show _ ≤ 100000000001 by omega)) (by decide)) | (intro hg_; first | exact hg_ | ((try simp only [decide_eq_true_eq] at hg_); (try rw [wi64 (by omega) (by omega)]); (repeat' apply And.intro) <;> (first | trivial | rfl | omega | (intros; rfl)))))))))
          | refine o_new rfl rfl rfl ⟨0, trivial⟩ trivial (fun _ _ => ?_)
          | (refine o_new rfl rfl rfl ⟨0, trivial⟩ ?hc (fun _ _ => ?_); (case hc => (first | (simp only [need, imp, needIf]; done) | ((try simp only [need, imp, needIf]); (repeat' apply And.intro) <;> (first | trivial | rfl | omega | (simp; done) | (simp; omega) | (intros; rfl) | (exact Nat.le_trans (Nat.mul_le_mul_right _ (show _ ≤ 100000000001 by omega)) (by decide)) | (intro hg_; first | exact hg_ | ((try simp only [decide_eq_true_eq] at hg_); (try rw [wi64 (by omega) (by omega)]); (repeat' apply And.intro) <;> (first | trivial | rfl | omega | (intros; rfl)))))))))
          | (refine o_new rfl rfl rfl ⟨(none, _), Nat.le_refl _⟩ ?hc (fun _ _ => ?_); (case hc => (first | (simp only [need, imp, needIf]; done) | ((try simp only [need, imp, needIf]); (repeat' apply And.intro) <;> (first | trivial | rfl | omega | (simp; done) | (simp; omega) | (intros; rfl) | (exact Nat.le_trans (Nat.mul_le_mul_right _ (show _ ≤ 100000000001 by omega)) (by decide)) | (intro hg_; first | exact hg_ | ((try simp only [decide_eq_true_eq] at hg_); (try rw [wi64 (by omega) (by omega)]); (repeat' apply And.intro) <;> (first | trivial | rfl | omega | (intros; rfl)))))))))
          | refine o_put rfl rfl rfl trivial trivial ?_
          | (refine o_put rfl rfl rfl trivial ?hc ?_; (case hc => (first | (simp only [need, imp, needIf]; done) | ((try simp only [need, imp, needIf]); (repeat' apply And.intro) <;> (first | trivial | rfl | omega | (simp; done) | (simp; omega) | (intros; rfl) | (exact Nat.le_trans (Nat.mul_le_mul_right _ (show _ ≤ 100000000001 by omega)) (by decide)) | (intro hg_; first | exact hg_ | ((try simp only [decide_eq_true_eq] at hg_); (try rw [wi64 (by omega) (by omega)]); (repeat' apply And.intro) <;> (first | trivial | rfl | omega | (intros; rfl)))))))))
          | refine o_nil ?_
          | refine d_val rfl rfl trivial trivial ?_
          | (refine d_val rfl rfl trivial ?hc ?_; (case hc => (first | (simp only [need, imp, needIf]; done) | ((try simp only [need, imp, needIf]); (repeat' apply And.intro) <;> (first | trivial | rfl | omega | (simp; done) | (simp; omega) | (intros; rfl) | (exact Nat.le_trans (Nat.mul_le_mul_right _ (show _ ≤ 100000000001 by omega)) (by decide)) | (intro hg_; first | exact hg_ | ((try simp only [decide_eq_true_eq] at hg_); (try rw [wi64 (by omega) (by omega)]); (repeat' apply And.intro) <;> (first | trivial | rfl | omega | (intros; rfl)))))))))
          | refine d_new rfl rfl rfl ⟨0, trivial⟩ trivial (fun _ _ => ?_)
          | (refine d_new rfl rfl rfl ⟨0, trivial⟩ ?hc (fun _ _ => ?_); (case hc => (first | (simp only [need, imp, needIf]; done) | ((try simp only [need, imp, needIf]); (repeat' apply And.intro) <;> (first | trivial | rfl | omega | (simp; done) | (simp; omega) | (intros; rfl) | (exact Nat.le_trans (Nat.mul_le_mul_right _ (show _ ≤ 100000000001 by omega)) (by decide)) | (intro hg_; first | exact hg_ | ((try simp only [decide_eq_true_eq] at hg_); (try rw [wi64 (by omega) (by omega)]); (repeat' apply And.intro) <;> (first | trivial | rfl | omega | (intros; rfl)))))))))
          | (refine d_new rfl rfl rfl ⟨(none, _), Nat.le_refl _⟩ ?hc (fun _ _ => ?_); (case hc => (first | (simp only [need, imp, needIf]; done) | ((try simp only [need, imp, needIf]); (repeat' apply And.intro) <;> (first | trivial | rfl | omega | (simp; done) | (simp; omega) | (intros; rfl) | (exact Nat.le_trans (Nat.mul_le_mul_right _ (show _ ≤ 100000000001 by omega)) (by decide)) | (intro hg_; first | exact hg_ | ((try simp only [decide_eq_true_eq] at hg_); (try rw [wi64 (by omega) (by omega)]); (repeat' apply And.intro) <;> (first | trivial | rfl | omega | (intros; rfl)))))))))
          | refine d_put rfl rfl rfl trivial trivial ?_
          | (refine d_put rfl rfl rfl trivial ?hc ?_; (case hc => (first | (simp only [need, imp, needIf]; done) | ((try simp only [need, imp, needIf]); (repeat' apply And.intro) <;> (first | trivial | rfl | omega | (simp; done) | (simp; omega) | (intros; rfl) | (exact Nat.le_trans (Nat.mul_le_mul_right _ (show _ ≤ 100000000001 by omega)) (by decide)) | (intro hg_; first | exact hg_ | ((try simp only [decide_eq_true_eq] at hg_); (try rw [wi64 (by omega) (by omega)]); (repeat' apply And.intro) <;> (first | trivial | rfl | omega | (intros; rfl)))))))))
          | refine d_nil ?_
          | refine s_skip ?_
          | refine s_block ?_
          | refine s_exit ?_
          | refine s_label ?_)
        refine s_cond (b := decide ((k : Int) < n)) rfl (fun hb => ?_) (fun hb => ?_)
        · have hlt : k < n := by simpa using hb
          have hs : n - k = (n - (k + 1)) + 1 := by omega
          rw [hs, powG] at hz
          repeat (first
            | refine s_seq ?_
            | refine s_region ?_
            | refine o_val rfl rfl trivial trivial ?_
            | (refine o_val rfl rfl trivial ?hc ?_; (case hc => (first | (simp only [need, imp, needIf]; done) | ((try simp only [need, imp, needIf]); (repeat' apply And.intro) <;> (first | trivial | rfl | omega | (simp; done) | (simp; omega) | (intros; rfl) | (exact Nat.le_trans (Nat.mul_le_mul_right _ (show _ ≤ 100000000001 by omega)) (by decide)) | (intro hg_; first | exact hg_ | ((try simp only [decide_eq_true_eq] at hg_); (try rw [wi64 (by omega) (by omega)]); (repeat' apply And.intro) <;> (first | trivial | rfl | omega | (intros; rfl)))))))))
            | refine o_new rfl rfl rfl ⟨0, trivial⟩ trivial (fun _ _ => ?_)
            | (refine o_new rfl rfl rfl ⟨0, trivial⟩ ?hc (fun _ _ => ?_); (case hc => (first | (simp only [need, imp, needIf]; done) | ((try simp only [need, imp, needIf]); (repeat' apply And.intro) <;> (first | trivial | rfl | omega | (simp; done) | (simp; omega) | (intros; rfl) | (exact Nat.le_trans (Nat.mul_le_mul_right _ (show _ ≤ 100000000001 by omega)) (by decide)) | (intro hg_; first | exact hg_ | ((try simp only [decide_eq_true_eq] at hg_); (try rw [wi64 (by omega) (by omega)]); (repeat' apply And.intro) <;> (first | trivial | rfl | omega | (intros; rfl)))))))))
            | (refine o_new rfl rfl rfl ⟨(none, _), Nat.le_refl _⟩ ?hc (fun _ _ => ?_); (case hc => (first | (simp only [need, imp, needIf]; done) | ((try simp only [need, imp, needIf]); (repeat' apply And.intro) <;> (first | trivial | rfl | omega | (simp; done) | (simp; omega) | (intros; rfl) | (exact Nat.le_trans (Nat.mul_le_mul_right _ (show _ ≤ 100000000001 by omega)) (by decide)) | (intro hg_; first | exact hg_ | ((try simp only [decide_eq_true_eq] at hg_); (try rw [wi64 (by omega) (by omega)]); (repeat' apply And.intro) <;> (first | trivial | rfl | omega | (intros; rfl)))))))))
            | refine o_put rfl rfl rfl trivial trivial ?_
            | (refine o_put rfl rfl rfl trivial ?hc ?_; (case hc => (first | (simp only [need, imp, needIf]; done) | ((try simp only [need, imp, needIf]); (repeat' apply And.intro) <;> (first | trivial | rfl | omega | (simp; done) | (simp; omega) | (intros; rfl) | (exact Nat.le_trans (Nat.mul_le_mul_right _ (show _ ≤ 100000000001 by omega)) (by decide)) | (intro hg_; first | exact hg_ | ((try simp only [decide_eq_true_eq] at hg_); (try rw [wi64 (by omega) (by omega)]); (repeat' apply And.intro) <;> (first | trivial | rfl | omega | (intros; rfl)))))))))
            | refine o_nil ?_
            | refine d_val rfl rfl trivial trivial ?_
            | (refine d_val rfl rfl trivial ?hc ?_; (case hc => (first | (simp only [need, imp, needIf]; done) | ((try simp only [need, imp, needIf]); (repeat' apply And.intro) <;> (first | trivial | rfl | omega | (simp; done) | (simp; omega) | (intros; rfl) | (exact Nat.le_trans (Nat.mul_le_mul_right _ (show _ ≤ 100000000001 by omega)) (by decide)) | (intro hg_; first | exact hg_ | ((try simp only [decide_eq_true_eq] at hg_); (try rw [wi64 (by omega) (by omega)]); (repeat' apply And.intro) <;> (first | trivial | rfl | omega | (intros; rfl)))))))))
            | refine d_new rfl rfl rfl ⟨0, trivial⟩ trivial (fun _ _ => ?_)
            | (refine d_new rfl rfl rfl ⟨0, trivial⟩ ?hc (fun _ _ => ?_); (case hc => (first | (simp only [need, imp, needIf]; done) | ((try simp only [need, imp, needIf]); (repeat' apply And.intro) <;> (first | trivial | rfl | omega | (simp; done) | (simp; omega) | (intros; rfl) | (exact Nat.le_trans (Nat.mul_le_mul_right _ (show _ ≤ 100000000001 by omega)) (by decide)) | (intro hg_; first | exact hg_ | ((try simp only [decide_eq_true_eq] at hg_); (try rw [wi64 (by omega) (by omega)]); (repeat' apply And.intro) <;> (first | trivial | rfl | omega | (intros; rfl)))))))))
            | (refine d_new rfl rfl rfl ⟨(none, _), Nat.le_refl _⟩ ?hc (fun _ _ => ?_); (case hc => (first | (simp only [need, imp, needIf]; done) | ((try simp only [need, imp, needIf]); (repeat' apply And.intro) <;> (first | trivial | rfl | omega | (simp; done) | (simp; omega) | (intros; rfl) | (exact Nat.le_trans (Nat.mul_le_mul_right _ (show _ ≤ 100000000001 by omega)) (by decide)) | (intro hg_; first | exact hg_ | ((try simp only [decide_eq_true_eq] at hg_); (try rw [wi64 (by omega) (by omega)]); (repeat' apply And.intro) <;> (first | trivial | rfl | omega | (intros; rfl)))))))))
            | refine d_put rfl rfl rfl trivial trivial ?_
            | (refine d_put rfl rfl rfl trivial ?hc ?_; (case hc => (first | (simp only [need, imp, needIf]; done) | ((try simp only [need, imp, needIf]); (repeat' apply And.intro) <;> (first | trivial | rfl | omega | (simp; done) | (simp; omega) | (intros; rfl) | (exact Nat.le_trans (Nat.mul_le_mul_right _ (show _ ≤ 100000000001 by omega)) (by decide)) | (intro hg_; first | exact hg_ | ((try simp only [decide_eq_true_eq] at hg_); (try rw [wi64 (by omega) (by omega)]); (repeat' apply And.intro) <;> (first | trivial | rfl | omega | (intros; rfl)))))))))
            | refine d_nil ?_
            | refine s_skip ?_
            | refine s_block ?_
            | refine s_exit ?_
            | refine s_label ?_)
          rename_i bm _
          refine o_callf (.v (.bool (named g h m k))) rfl rfl rfl rfl rfl trivial contains25_body (fun w' hS' => ?_) ?_
          · have hr : RowHolds w' bm _ _ _ _ _ := hS'.holds 7 _ rfl
            have hr' : Reads w' bm 0 3 1 (fun _ => encMb (g k)) := hr.reads
            have := contains25 (cap := cap') hn' (hS'.holds 901 _ rfl) (fid := 26) (caps := .cons (roP 7 bm 0 3) .nil) power1_body (fun i => isAddr (g k).addr (h i)) fun i hi w2 hb2 => by
              have h2 := power1_calls (h i) (g k) (hr'.below hb2)
              refine (show Calls Try.prog 26 ([encG (h i), roP 7 bm 0 3].map AV.val).toArray w2 _ from ?_)
              simpa only [List.map_cons, List.map_nil, roP_val] using h2
            refine (show Calls Try.prog 25 ([roS 901 base' 108 m cap', .fn 26 (.cons (roP 7 bm 0 3) .nil)].map AV.val).toArray w' _ from ?_)
            simpa only [List.map_cons, List.map_nil, roS_val, AV.val_v, named] using this
          repeat (first
            | refine s_seq ?_
            | refine s_region ?_
            | refine o_val rfl rfl trivial trivial ?_
            | (refine o_val rfl rfl trivial ?hc ?_; (case hc => (first | (simp only [need, imp, needIf]; done) | ((try simp only [need, imp, needIf]); (repeat' apply And.intro) <;> (first | trivial | rfl | omega | (simp; done) | (simp; omega) | (intros; rfl) | (exact Nat.le_trans (Nat.mul_le_mul_right _ (show _ ≤ 100000000001 by omega)) (by decide)) | (intro hg_; first | exact hg_ | ((try simp only [decide_eq_true_eq] at hg_); (try rw [wi64 (by omega) (by omega)]); (repeat' apply And.intro) <;> (first | trivial | rfl | omega | (intros; rfl)))))))))
            | refine o_new rfl rfl rfl ⟨0, trivial⟩ trivial (fun _ _ => ?_)
            | (refine o_new rfl rfl rfl ⟨0, trivial⟩ ?hc (fun _ _ => ?_); (case hc => (first | (simp only [need, imp, needIf]; done) | ((try simp only [need, imp, needIf]); (repeat' apply And.intro) <;> (first | trivial | rfl | omega | (simp; done) | (simp; omega) | (intros; rfl) | (exact Nat.le_trans (Nat.mul_le_mul_right _ (show _ ≤ 100000000001 by omega)) (by decide)) | (intro hg_; first | exact hg_ | ((try simp only [decide_eq_true_eq] at hg_); (try rw [wi64 (by omega) (by omega)]); (repeat' apply And.intro) <;> (first | trivial | rfl | omega | (intros; rfl)))))))))
            | (refine o_new rfl rfl rfl ⟨(none, _), Nat.le_refl _⟩ ?hc (fun _ _ => ?_); (case hc => (first | (simp only [need, imp, needIf]; done) | ((try simp only [need, imp, needIf]); (repeat' apply And.intro) <;> (first | trivial | rfl | omega | (simp; done) | (simp; omega) | (intros; rfl) | (exact Nat.le_trans (Nat.mul_le_mul_right _ (show _ ≤ 100000000001 by omega)) (by decide)) | (intro hg_; first | exact hg_ | ((try simp only [decide_eq_true_eq] at hg_); (try rw [wi64 (by omega) (by omega)]); (repeat' apply And.intro) <;> (first | trivial | rfl | omega | (intros; rfl)))))))))
            | refine o_put rfl rfl rfl trivial trivial ?_
            | (refine o_put rfl rfl rfl trivial ?hc ?_; (case hc => (first | (simp only [need, imp, needIf]; done) | ((try simp only [need, imp, needIf]); (repeat' apply And.intro) <;> (first | trivial | rfl | omega | (simp; done) | (simp; omega) | (intros; rfl) | (exact Nat.le_trans (Nat.mul_le_mul_right _ (show _ ≤ 100000000001 by omega)) (by decide)) | (intro hg_; first | exact hg_ | ((try simp only [decide_eq_true_eq] at hg_); (try rw [wi64 (by omega) (by omega)]); (repeat' apply And.intro) <;> (first | trivial | rfl | omega | (intros; rfl)))))))))
            | refine o_nil ?_
            | refine d_val rfl rfl trivial trivial ?_
            | (refine d_val rfl rfl trivial ?hc ?_; (case hc => (first | (simp only [need, imp, needIf]; done) | ((try simp only [need, imp, needIf]); (repeat' apply And.intro) <;> (first | trivial | rfl | omega | (simp; done) | (simp; omega) | (intros; rfl) | (exact Nat.le_trans (Nat.mul_le_mul_right _ (show _ ≤ 100000000001 by omega)) (by decide)) | (intro hg_; first | exact hg_ | ((try simp only [decide_eq_true_eq] at hg_); (try rw [wi64 (by omega) (by omega)]); (repeat' apply And.intro) <;> (first | trivial | rfl | omega | (intros; rfl)))))))))
            | refine d_new rfl rfl rfl ⟨0, trivial⟩ trivial (fun _ _ => ?_)
            | (refine d_new rfl rfl rfl ⟨0, trivial⟩ ?hc (fun _ _ => ?_); (case hc => (first | (simp only [need, imp, needIf]; done) | ((try simp only [need, imp, needIf]); (repeat' apply And.intro) <;> (first | trivial | rfl | omega | (simp; done) | (simp; omega) | (intros; rfl) | (exact Nat.le_trans (Nat.mul_le_mul_right _ (show _ ≤ 100000000001 by omega)) (by decide)) | (intro hg_; first | exact hg_ | ((try simp only [decide_eq_true_eq] at hg_); (try rw [wi64 (by omega) (by omega)]); (repeat' apply And.intro) <;> (first | trivial | rfl | omega | (intros; rfl)))))))))
            | (refine d_new rfl rfl rfl ⟨(none, _), Nat.le_refl _⟩ ?hc (fun _ _ => ?_); (case hc => (first | (simp only [need, imp, needIf]; done) | ((try simp only [need, imp, needIf]); (repeat' apply And.intro) <;> (first | trivial | rfl | omega | (simp; done) | (simp; omega) | (intros; rfl) | (exact Nat.le_trans (Nat.mul_le_mul_right _ (show _ ≤ 100000000001 by omega)) (by decide)) | (intro hg_; first | exact hg_ | ((try simp only [decide_eq_true_eq] at hg_); (try rw [wi64 (by omega) (by omega)]); (repeat' apply And.intro) <;> (first | trivial | rfl | omega | (intros; rfl)))))))))
            | refine d_put rfl rfl rfl trivial trivial ?_
            | (refine d_put rfl rfl rfl trivial ?hc ?_; (case hc => (first | (simp only [need, imp, needIf]; done) | ((try simp only [need, imp, needIf]); (repeat' apply And.intro) <;> (first | trivial | rfl | omega | (simp; done) | (simp; omega) | (intros; rfl) | (exact Nat.le_trans (Nat.mul_le_mul_right _ (show _ ≤ 100000000001 by omega)) (by decide)) | (intro hg_; first | exact hg_ | ((try simp only [decide_eq_true_eq] at hg_); (try rw [wi64 (by omega) (by omega)]); (repeat' apply And.intro) <;> (first | trivial | rfl | omega | (intros; rfl)))))))))
            | refine d_nil ?_
            | refine s_skip ?_
            | refine s_block ?_
            | refine s_exit ?_
            | refine s_label ?_)
          refine s_cond rfl (fun h2 => ?_) (fun h2 => ?_)
          · rw [if_pos h2] at hz
            repeat (first
              | refine s_seq ?_
              | refine s_region ?_
              | refine o_val rfl rfl trivial trivial ?_
              | (refine o_val rfl rfl trivial ?hc ?_; (case hc => (first | (simp only [need, imp, needIf]; done) | ((try simp only [need, imp, needIf]); (repeat' apply And.intro) <;> (first | trivial | rfl | omega | (simp; done) | (simp; omega) | (intros; rfl) | (exact Nat.le_trans (Nat.mul_le_mul_right _ (show _ ≤ 100000000001 by omega)) (by decide)) | (intro hg_; first | exact hg_ | ((try simp only [decide_eq_true_eq] at hg_); (try rw [wi64 (by omega) (by omega)]); (repeat' apply And.intro) <;> (first | trivial | rfl | omega | (intros; rfl)))))))))
              | refine o_new rfl rfl rfl ⟨0, trivial⟩ trivial (fun _ _ => ?_)
              | (refine o_new rfl rfl rfl ⟨0, trivial⟩ ?hc (fun _ _ => ?_); (case hc => (first | (simp only [need, imp, needIf]; done) | ((try simp only [need, imp, needIf]); (repeat' apply And.intro) <;> (first | trivial | rfl | omega | (simp; done) | (simp; omega) | (intros; rfl) | (exact Nat.le_trans (Nat.mul_le_mul_right _ (show _ ≤ 100000000001 by omega)) (by decide)) | (intro hg_; first | exact hg_ | ((try simp only [decide_eq_true_eq] at hg_); (try rw [wi64 (by omega) (by omega)]); (repeat' apply And.intro) <;> (first | trivial | rfl | omega | (intros; rfl)))))))))
              | (refine o_new rfl rfl rfl ⟨(none, _), Nat.le_refl _⟩ ?hc (fun _ _ => ?_); (case hc => (first | (simp only [need, imp, needIf]; done) | ((try simp only [need, imp, needIf]); (repeat' apply And.intro) <;> (first | trivial | rfl | omega | (simp; done) | (simp; omega) | (intros; rfl) | (exact Nat.le_trans (Nat.mul_le_mul_right _ (show _ ≤ 100000000001 by omega)) (by decide)) | (intro hg_; first | exact hg_ | ((try simp only [decide_eq_true_eq] at hg_); (try rw [wi64 (by omega) (by omega)]); (repeat' apply And.intro) <;> (first | trivial | rfl | omega | (intros; rfl)))))))))
              | refine o_put rfl rfl rfl trivial trivial ?_
              | (refine o_put rfl rfl rfl trivial ?hc ?_; (case hc => (first | (simp only [need, imp, needIf]; done) | ((try simp only [need, imp, needIf]); (repeat' apply And.intro) <;> (first | trivial | rfl | omega | (simp; done) | (simp; omega) | (intros; rfl) | (exact Nat.le_trans (Nat.mul_le_mul_right _ (show _ ≤ 100000000001 by omega)) (by decide)) | (intro hg_; first | exact hg_ | ((try simp only [decide_eq_true_eq] at hg_); (try rw [wi64 (by omega) (by omega)]); (repeat' apply And.intro) <;> (first | trivial | rfl | omega | (intros; rfl)))))))))
              | refine o_nil ?_
              | refine d_val rfl rfl trivial trivial ?_
              | (refine d_val rfl rfl trivial ?hc ?_; (case hc => (first | (simp only [need, imp, needIf]; done) | ((try simp only [need, imp, needIf]); (repeat' apply And.intro) <;> (first | trivial | rfl | omega | (simp; done) | (simp; omega) | (intros; rfl) | (exact Nat.le_trans (Nat.mul_le_mul_right _ (show _ ≤ 100000000001 by omega)) (by decide)) | (intro hg_; first | exact hg_ | ((try simp only [decide_eq_true_eq] at hg_); (try rw [wi64 (by omega) (by omega)]); (repeat' apply And.intro) <;> (first | trivial | rfl | omega | (intros; rfl)))))))))
              | refine d_new rfl rfl rfl ⟨0, trivial⟩ trivial (fun _ _ => ?_)
              | (refine d_new rfl rfl rfl ⟨0, trivial⟩ ?hc (fun _ _ => ?_); (case hc => (first | (simp only [need, imp, needIf]; done) | ((try simp only [need, imp, needIf]); (repeat' apply And.intro) <;> (first | trivial | rfl | omega | (simp; done) | (simp; omega) | (intros; rfl) | (exact Nat.le_trans (Nat.mul_le_mul_right _ (show _ ≤ 100000000001 by omega)) (by decide)) | (intro hg_; first | exact hg_ | ((try simp only [decide_eq_true_eq] at hg_); (try rw [wi64 (by omega) (by omega)]); (repeat' apply And.intro) <;> (first | trivial | rfl | omega | (intros; rfl)))))))))
              | (refine d_new rfl rfl rfl ⟨(none, _), Nat.le_refl _⟩ ?hc (fun _ _ => ?_); (case hc => (first | (simp only [need, imp, needIf]; done) | ((try simp only [need, imp, needIf]); (repeat' apply And.intro) <;> (first | trivial | rfl | omega | (simp; done) | (simp; omega) | (intros; rfl) | (exact Nat.le_trans (Nat.mul_le_mul_right _ (show _ ≤ 100000000001 by omega)) (by decide)) | (intro hg_; first | exact hg_ | ((try simp only [decide_eq_true_eq] at hg_); (try rw [wi64 (by omega) (by omega)]); (repeat' apply And.intro) <;> (first | trivial | rfl | omega | (intros; rfl)))))))))
              | refine d_put rfl rfl rfl trivial trivial ?_
              | (refine d_put rfl rfl rfl trivial ?hc ?_; (case hc => (first | (simp only [need, imp, needIf]; done) | ((try simp only [need, imp, needIf]); (repeat' apply And.intro) <;> (first | trivial | rfl | omega | (simp; done) | (simp; omega) | (intros; rfl) | (exact Nat.le_trans (Nat.mul_le_mul_right _ (show _ ≤ 100000000001 by omega)) (by decide)) | (intro hg_; first | exact hg_ | ((try simp only [decide_eq_true_eq] at hg_); (try rw [wi64 (by omega) (by omega)]); (repeat' apply And.intro) <;> (first | trivial | rfl | omega | (intros; rfl)))))))))
              | refine d_nil ?_
              | refine s_skip ?_
              | refine s_block ?_
              | refine s_exit ?_
              | refine s_label ?_)
            refine ⟨(k + 1, IntKind.u64.wrap (t + (g k).power)), ⟨by dsimp only; omega, hz⟩, by dsimp only; omega, ?_⟩
            (refine Le.of ?leT ?leM rfl; (case leT => repeat (first | exact trivial | refine And.intro (by first | exact rfl | (show some (none, AV.v (.int .i64 (IntKind.i64.wrap _))) = _; rw [wi64 (by omega) (by omega)]; rfl)) ?_)); (case leM => repeat (first | exact trivial | refine And.intro ⟨_, rfl, Blk.le_refl _⟩ ?_)))
          · rw [if_neg (by rw [h2]; decide)] at hz
            repeat (first
              | refine s_seq ?_
              | refine s_region ?_
              | refine o_val rfl rfl trivial trivial ?_
              | (refine o_val rfl rfl trivial ?hc ?_; (case hc => (first | (simp only [need, imp, needIf]; done) | ((try simp only [need, imp, needIf]); (repeat' apply And.intro) <;> (first | trivial | rfl | omega | (simp; done) | (simp; omega) | (intros; rfl) | (exact Nat.le_trans (Nat.mul_le_mul_right _ (show _ ≤ 100000000001 by omega)) (by decide)) | (intro hg_; first | exact hg_ | ((try simp only [decide_eq_true_eq] at hg_); (try rw [wi64 (by omega) (by omega)]); (repeat' apply And.intro) <;> (first | trivial | rfl | omega | (intros; rfl)))))))))
              | refine o_new rfl rfl rfl ⟨0, trivial⟩ trivial (fun _ _ => ?_)
              | (refine o_new rfl rfl rfl ⟨0, trivial⟩ ?hc (fun _ _ => ?_); (case hc => (first | (simp only [need, imp, needIf]; done) | ((try simp only [need, imp, needIf]); (repeat' apply And.intro) <;> (first | trivial | rfl | omega | (simp; done) | (simp; omega) | (intros; rfl) | (exact Nat.le_trans (Nat.mul_le_mul_right _ (show _ ≤ 100000000001 by omega)) (by decide)) | (intro hg_; first | exact hg_ | ((try simp only [decide_eq_true_eq] at hg_); (try rw [wi64 (by omega) (by omega)]); (repeat' apply And.intro) <;> (first | trivial | rfl | omega | (intros; rfl)))))))))
              | (refine o_new rfl rfl rfl ⟨(none, _), Nat.le_refl _⟩ ?hc (fun _ _ => ?_); (case hc => (first | (simp only [need, imp, needIf]; done) | ((try simp only [need, imp, needIf]); (repeat' apply And.intro) <;> (first | trivial | rfl | omega | (simp; done) | (simp; omega) | (intros; rfl) | (exact Nat.le_trans (Nat.mul_le_mul_right _ (show _ ≤ 100000000001 by omega)) (by decide)) | (intro hg_; first | exact hg_ | ((try simp only [decide_eq_true_eq] at hg_); (try rw [wi64 (by omega) (by omega)]); (repeat' apply And.intro) <;> (first | trivial | rfl | omega | (intros; rfl)))))))))
              | refine o_put rfl rfl rfl trivial trivial ?_
              | (refine o_put rfl rfl rfl trivial ?hc ?_; (case hc => (first | (simp only [need, imp, needIf]; done) | ((try simp only [need, imp, needIf]); (repeat' apply And.intro) <;> (first | trivial | rfl | omega | (simp; done) | (simp; omega) | (intros; rfl) | (exact Nat.le_trans (Nat.mul_le_mul_right _ (show _ ≤ 100000000001 by omega)) (by decide)) | (intro hg_; first | exact hg_ | ((try simp only [decide_eq_true_eq] at hg_); (try rw [wi64 (by omega) (by omega)]); (repeat' apply And.intro) <;> (first | trivial | rfl | omega | (intros; rfl)))))))))
              | refine o_nil ?_
              | refine d_val rfl rfl trivial trivial ?_
              | (refine d_val rfl rfl trivial ?hc ?_; (case hc => (first | (simp only [need, imp, needIf]; done) | ((try simp only [need, imp, needIf]); (repeat' apply And.intro) <;> (first | trivial | rfl | omega | (simp; done) | (simp; omega) | (intros; rfl) | (exact Nat.le_trans (Nat.mul_le_mul_right _ (show _ ≤ 100000000001 by omega)) (by decide)) | (intro hg_; first | exact hg_ | ((try simp only [decide_eq_true_eq] at hg_); (try rw [wi64 (by omega) (by omega)]); (repeat' apply And.intro) <;> (first | trivial | rfl | omega | (intros; rfl)))))))))
              | refine d_new rfl rfl rfl ⟨0, trivial⟩ trivial (fun _ _ => ?_)
              | (refine d_new rfl rfl rfl ⟨0, trivial⟩ ?hc (fun _ _ => ?_); (case hc => (first | (simp only [need, imp, needIf]; done) | ((try simp only [need, imp, needIf]); (repeat' apply And.intro) <;> (first | trivial | rfl | omega | (simp; done) | (simp; omega) | (intros; rfl) | (exact Nat.le_trans (Nat.mul_le_mul_right _ (show _ ≤ 100000000001 by omega)) (by decide)) | (intro hg_; first | exact hg_ | ((try simp only [decide_eq_true_eq] at hg_); (try rw [wi64 (by omega) (by omega)]); (repeat' apply And.intro) <;> (first | trivial | rfl | omega | (intros; rfl)))))))))
              | (refine d_new rfl rfl rfl ⟨(none, _), Nat.le_refl _⟩ ?hc (fun _ _ => ?_); (case hc => (first | (simp only [need, imp, needIf]; done) | ((try simp only [need, imp, needIf]); (repeat' apply And.intro) <;> (first | trivial | rfl | omega | (simp; done) | (simp; omega) | (intros; rfl) | (exact Nat.le_trans (Nat.mul_le_mul_right _ (show _ ≤ 100000000001 by omega)) (by decide)) | (intro hg_; first | exact hg_ | ((try simp only [decide_eq_true_eq] at hg_); (try rw [wi64 (by omega) (by omega)]); (repeat' apply And.intro) <;> (first | trivial | rfl | omega | (intros; rfl)))))))))
              | refine d_put rfl rfl rfl trivial trivial ?_
              | (refine d_put rfl rfl rfl trivial ?hc ?_; (case hc => (first | (simp only [need, imp, needIf]; done) | ((try simp only [need, imp, needIf]); (repeat' apply And.intro) <;> (first | trivial | rfl | omega | (simp; done) | (simp; omega) | (intros; rfl) | (exact Nat.le_trans (Nat.mul_le_mul_right _ (show _ ≤ 100000000001 by omega)) (by decide)) | (intro hg_; first | exact hg_ | ((try simp only [decide_eq_true_eq] at hg_); (try rw [wi64 (by omega) (by omega)]); (repeat' apply And.intro) <;> (first | trivial | rfl | omega | (intros; rfl)))))))))
              | refine d_nil ?_
              | refine s_skip ?_
              | refine s_block ?_
              | refine s_exit ?_
              | refine s_label ?_)
            refine ⟨(k + 1, t), ⟨by dsimp only; omega, hz⟩, by dsimp only; omega, ?_⟩
            (refine Le.of ?leT ?leM rfl; (case leT => repeat (first | exact trivial | refine And.intro (by first | exact rfl | (show some (none, AV.v (.int .i64 (IntKind.i64.wrap _))) = _; rw [wi64 (by omega) (by omega)]; rfl)) ?_)); (case leM => repeat (first | exact trivial | refine And.intro ⟨_, rfl, Blk.le_refl _⟩ ?_)))
        · have hge : k = n := by simp at hb; omega
          repeat (first
            | refine s_seq ?_
            | refine s_region ?_
            | refine o_val rfl rfl trivial trivial ?_
            | (refine o_val rfl rfl trivial ?hc ?_; (case hc => (first | (simp only [need, imp, needIf]; done) | ((try simp only [need, imp, needIf]); (repeat' apply And.intro) <;> (first | trivial | rfl | omega | (simp; done) | (simp; omega) | (intros; rfl) | (exact Nat.le_trans (Nat.mul_le_mul_right _ (show _ ≤ 100000000001 by omega)) (by decide)) | (intro hg_; first | exact hg_ | ((try simp only [decide_eq_true_eq] at hg_); (try rw [wi64 (by omega) (by omega)]); (repeat' apply And.intro) <;> (first | trivial | rfl | omega | (intros; rfl)))))))))
            | refine o_new rfl rfl rfl ⟨0, trivial⟩ trivial (fun _ _ => ?_)
            | (refine o_new rfl rfl rfl ⟨0, trivial⟩ ?hc (fun _ _ => ?_); (case hc => (first | (simp only [need, imp, needIf]; done) | ((try simp only [need, imp, needIf]); (repeat' apply And.intro) <;> (first | trivial | rfl | omega | (simp; done) | (simp; omega) | (intros; rfl) | (exact Nat.le_trans (Nat.mul_le_mul_right _ (show _ ≤ 100000000001 by omega)) (by decide)) | (intro hg_; first | exact hg_ | ((try simp only [decide_eq_true_eq] at hg_); (try rw [wi64 (by omega) (by omega)]); (repeat' apply And.intro) <;> (first | trivial | rfl | omega | (intros; rfl)))))))))
            | (refine o_new rfl rfl rfl ⟨(none, _), Nat.le_refl _⟩ ?hc (fun _ _ => ?_); (case hc => (first | (simp only [need, imp, needIf]; done) | ((try simp only [need, imp, needIf]); (repeat' apply And.intro) <;> (first | trivial | rfl | omega | (simp; done) | (simp; omega) | (intros; rfl) | (exact Nat.le_trans (Nat.mul_le_mul_right _ (show _ ≤ 100000000001 by omega)) (by decide)) | (intro hg_; first | exact hg_ | ((try simp only [decide_eq_true_eq] at hg_); (try rw [wi64 (by omega) (by omega)]); (repeat' apply And.intro) <;> (first | trivial | rfl | omega | (intros; rfl)))))))))
            | refine o_put rfl rfl rfl trivial trivial ?_
            | (refine o_put rfl rfl rfl trivial ?hc ?_; (case hc => (first | (simp only [need, imp, needIf]; done) | ((try simp only [need, imp, needIf]); (repeat' apply And.intro) <;> (first | trivial | rfl | omega | (simp; done) | (simp; omega) | (intros; rfl) | (exact Nat.le_trans (Nat.mul_le_mul_right _ (show _ ≤ 100000000001 by omega)) (by decide)) | (intro hg_; first | exact hg_ | ((try simp only [decide_eq_true_eq] at hg_); (try rw [wi64 (by omega) (by omega)]); (repeat' apply And.intro) <;> (first | trivial | rfl | omega | (intros; rfl)))))))))
            | refine o_nil ?_
            | refine d_val rfl rfl trivial trivial ?_
            | (refine d_val rfl rfl trivial ?hc ?_; (case hc => (first | (simp only [need, imp, needIf]; done) | ((try simp only [need, imp, needIf]); (repeat' apply And.intro) <;> (first | trivial | rfl | omega | (simp; done) | (simp; omega) | (intros; rfl) | (exact Nat.le_trans (Nat.mul_le_mul_right _ (show _ ≤ 100000000001 by omega)) (by decide)) | (intro hg_; first | exact hg_ | ((try simp only [decide_eq_true_eq] at hg_); (try rw [wi64 (by omega) (by omega)]); (repeat' apply And.intro) <;> (first | trivial | rfl | omega | (intros; rfl)))))))))
            | refine d_new rfl rfl rfl ⟨0, trivial⟩ trivial (fun _ _ => ?_)
            | (refine d_new rfl rfl rfl ⟨0, trivial⟩ ?hc (fun _ _ => ?_); (case hc => (first | (simp only [need, imp, needIf]; done) | ((try simp only [need, imp, needIf]); (repeat' apply And.intro) <;> (first | trivial | rfl | omega | (simp; done) | (simp; omega) | (intros; rfl) | (exact Nat.le_trans (Nat.mul_le_mul_right _ (show _ ≤ 100000000001 by omega)) (by decide)) | (intro hg_; first | exact hg_ | ((try simp only [decide_eq_true_eq] at hg_); (try rw [wi64 (by omega) (by omega)]); (repeat' apply And.intro) <;> (first | trivial | rfl | omega | (intros; rfl)))))))))
            | (refine d_new rfl rfl rfl ⟨(none, _), Nat.le_refl _⟩ ?hc (fun _ _ => ?_); (case hc => (first | (simp only [need, imp, needIf]; done) | ((try simp only [need, imp, needIf]); (repeat' apply And.intro) <;> (first | trivial | rfl | omega | (simp; done) | (simp; omega) | (intros; rfl) | (exact Nat.le_trans (Nat.mul_le_mul_right _ (show _ ≤ 100000000001 by omega)) (by decide)) | (intro hg_; first | exact hg_ | ((try simp only [decide_eq_true_eq] at hg_); (try rw [wi64 (by omega) (by omega)]); (repeat' apply And.intro) <;> (first | trivial | rfl | omega | (intros; rfl)))))))))
            | refine d_put rfl rfl rfl trivial trivial ?_
            | (refine d_put rfl rfl rfl trivial ?hc ?_; (case hc => (first | (simp only [need, imp, needIf]; done) | ((try simp only [need, imp, needIf]); (repeat' apply And.intro) <;> (first | trivial | rfl | omega | (simp; done) | (simp; omega) | (intros; rfl) | (exact Nat.le_trans (Nat.mul_le_mul_right _ (show _ ≤ 100000000001 by omega)) (by decide)) | (intro hg_; first | exact hg_ | ((try simp only [decide_eq_true_eq] at hg_); (try rw [wi64 (by omega) (by omega)]); (repeat' apply And.intro) <;> (first | trivial | rfl | omega | (intros; rfl)))))))))
            | refine d_nil ?_
            | refine s_skip ?_
            | refine s_block ?_
            | refine s_exit ?_
            | refine s_label ?_)
          refine s_ret ?_
          refine ⟨_, _, rfl, ⟨trivial, trivial⟩, rfl, ?_⟩
          rw [fin, hz, hge, Nat.sub_self]; rfl
    · cases h0
  · cases h0
theorem Power_body : HasBody Try.prog 14 := ⟨_, Try.func14, rfl, by decide⟩

/-! ### the document's Power -/
def anyR (p : Nat → Bool) : Nat → Nat → Bool → Bool
  | 0, _, f => f
  | n + 1, k, f => anyR p n (k + 1) (f || p k)
def namedR (g : Nat → Mb) (h : Nat → Gt) (m k : Nat) : Bool := anyR (fun i => isAddr (g k).addr (h i)) m 0 false
def PowerRF (g : Nat → Mb) (n : Nat) (h : Nat → Gt) (m : Nat) : Int := if (SoundRF g n != 0) = true then 0 else powG g (namedR g h m) n 0 0
def PowerRC (args : List AV) (M : MemF) : Option (Prop × AV) := match args with
  | [.agg (.cons x .nil), y] => match mbsOf M x, gtsOf M y with
    | some (c, n, g), some (c', m, h) => some (c ∧ c', .v (.int .u64 (PowerRF g n h m)))
    | _, _ => none
  | _ => none
def ctPR : CtL := [(27, SoundRC)]
theorem ctPR_ok : CtLOk Try.prog ctPR := ⟨.fn SoundR_body SoundR_read, trivial⟩
set_option maxRecDepth 100000 in
theorem PowerR_read : ReadFn Try.prog 15 PowerRC := by
  intro args M q res h0 hq O w0 w hS
  unfold PowerRC at h0
  split at h0
  · rename_i x y
    split at h0
    · rename_i c n g c' m h hm hm'
      cases h0
      obtain ⟨hq1, hq2⟩ := hq
      obtain ⟨hn, base, cap, hv, hro⟩ := mbs_ro hS hm hq1
      obtain ⟨hn', base', cap', hv', hro'⟩ := gts_ro hS hm' hq2
      have hpl := mbs_plain hm
      rw [hv] at hpl
      rw [show [AV.agg (.cons x .nil), y].map AV.val = [AV.agg (.cons (roS 900 base 3 n cap) .nil), roS 901 base' 108 m cap'].map AV.val by simp only [List.map_cons, List.map_nil, agg1_val hpl (roS_cells 900 base 3 n cap), hv', roS_val]]
      refine ro_fn tabs ctPR_ok (cr := []) trivial Try.func15 rfl rfl (M := [(900, roB base 3 n fun i => encMb (g i)), (901, roB base' 108 m fun i => encG (h i))]) rfl ⟨roB_noOwn, roB_noOwn, trivial⟩ ⟨hro, hro', trivial⟩ ?_
      repeat (first
        | refine s_seq ?_
        | refine s_region ?_
        | refine o_val rfl rfl trivial trivial ?_
        | (refine o_val rfl rfl trivial ?hc ?_; (case hc => (first | (simp only [need, imp, needIf]; done) | ((try simp only [need, imp, needIf]); (repeat' apply And.intro) <;> (first | trivial | rfl | omega | (simp; done) | (simp; omega) | (intros; rfl) | (exact Nat.le_trans (Nat.mul_le_mul_right _ (show _ ≤ 100000000001 by omega)) (by decide)) | (intro hg_; first | exact hg_ | ((try simp only [decide_eq_true_eq] at hg_); (try rw [wi64 (by omega) (by omega)]); (repeat' apply And.intro) <;> (first | trivial | rfl | omega | (intros; rfl)))))))))
        | refine o_new rfl rfl rfl ⟨0, trivial⟩ trivial (fun _ _ => ?_)
        | (refine o_new rfl rfl rfl ⟨0, trivial⟩ ?hc (fun _ _ => ?_); (case hc => (first | (simp only [need, imp, needIf]; done) | ((try simp only [need, imp, needIf]); (repeat' apply And.intro) <;> (first | trivial | rfl | omega | (simp; done) | (simp; omega) | (intros; rfl) | (exact Nat.le_trans (Nat.mul_le_mul_right _ (show _ ≤ 100000000001 by omega)) (by decide)) | (intro hg_; first | exact hg_ | ((try simp only [decide_eq_true_eq] at hg_); (try rw [wi64 (by omega) (by omega)]); (repeat' apply And.intro) <;> (first | trivial | rfl | omega | (intros; rfl)))))))))
        | (refine o_new rfl rfl rfl ⟨(none, _), Nat.le_refl _⟩ ?hc (fun _ _ => ?_); (case hc => (first | (simp only [need, imp, needIf]; done) | ((try simp only [need, imp, needIf]); (repeat' apply And.intro) <;> (first | trivial | rfl | omega | (simp; done) | (simp; omega) | (intros; rfl) | (exact Nat.le_trans (Nat.mul_le_mul_right _ (show _ ≤ 100000000001 by omega)) (by decide)) | (intro hg_; first | exact hg_ | ((try simp only [decide_eq_true_eq] at hg_); (try rw [wi64 (by omega) (by omega)]); (repeat' apply And.intro) <;> (first | trivial | rfl | omega | (intros; rfl)))))))))
        | refine o_put rfl rfl rfl trivial trivial ?_
        | (refine o_put rfl rfl rfl trivial ?hc ?_; (case hc => (first | (simp only [need, imp, needIf]; done) | ((try simp only [need, imp, needIf]); (repeat' apply And.intro) <;> (first | trivial | rfl | omega | (simp; done) | (simp; omega) | (intros; rfl) | (exact Nat.le_trans (Nat.mul_le_mul_right _ (show _ ≤ 100000000001 by omega)) (by decide)) | (intro hg_; first | exact hg_ | ((try simp only [decide_eq_true_eq] at hg_); (try rw [wi64 (by omega) (by omega)]); (repeat' apply And.intro) <;> (first | trivial | rfl | omega | (intros; rfl)))))))))
        | refine o_nil ?_
        | refine d_val rfl rfl trivial trivial ?_
        | (refine d_val rfl rfl trivial ?hc ?_; (case hc => (first | (simp only [need, imp, needIf]; done) | ((try simp only [need, imp, needIf]); (repeat' apply And.intro) <;> (first | trivial | rfl | omega | (simp; done) | (simp; omega) | (intros; rfl) | (exact Nat.le_trans (Nat.mul_le_mul_right _ (show _ ≤ 100000000001 by omega)) (by decide)) | (intro hg_; first | exact hg_ | ((try simp only [decide_eq_true_eq] at hg_); (try rw [wi64 (by omega) (by omega)]); (repeat' apply And.intro) <;> (first | trivial | rfl | omega | (intros; rfl)))))))))
        | refine d_new rfl rfl rfl ⟨0, trivial⟩ trivial (fun _ _ => ?_)
        | (refine d_new rfl rfl rfl ⟨0, trivial⟩ ?hc (fun _ _ => ?_); (case hc => (first | (simp only [need, imp, needIf]; done) | ((try simp only [need, imp, needIf]); (repeat' apply And.intro) <;> (first | trivial | rfl | omega | (simp; done) | (simp; omega) | (intros; rfl) | (exact Nat.le_trans (Nat.mul_le_mul_right _ (show _ ≤ 100000000001 by omega)) (by decide)) | (intro hg_; first | exact hg_ | ((try simp only [decide_eq_true_eq] at hg_); (try rw [wi64 (by omega) (by omega)]); (repeat' apply And.intro) <;> (first | trivial | rfl | omega | (intros; rfl)))))))))
        | (refine d_new rfl rfl rfl ⟨(none, _), Nat.le_refl _⟩ ?hc (fun _ _ => ?_); (case hc => (first | (simp only [need, imp, needIf]; done) | ((try simp only [need, imp, needIf]); (repeat' apply And.intro) <;> (first | trivial | rfl | omega | (simp; done) | (simp; omega) | (intros; rfl) | (exact Nat.le_trans (Nat.mul_le_mul_right _ (show _ ≤ 100000000001 by omega)) (by decide)) | (intro hg_; first | exact hg_ | ((try simp only [decide_eq_true_eq] at hg_); (try rw [wi64 (by omega) (by omega)]); (repeat' apply And.intro) <;> (first | trivial | rfl | omega | (intros; rfl)))))))))
        | refine d_put rfl rfl rfl trivial trivial ?_
        | (refine d_put rfl rfl rfl trivial ?hc ?_; (case hc => (first | (simp only [need, imp, needIf]; done) | ((try simp only [need, imp, needIf]); (repeat' apply And.intro) <;> (first | trivial | rfl | omega | (simp; done) | (simp; omega) | (intros; rfl) | (exact Nat.le_trans (Nat.mul_le_mul_right _ (show _ ≤ 100000000001 by omega)) (by decide)) | (intro hg_; first | exact hg_ | ((try simp only [decide_eq_true_eq] at hg_); (try rw [wi64 (by omega) (by omega)]); (repeat' apply And.intro) <;> (first | trivial | rfl | omega | (intros; rfl)))))))))
        | refine d_nil ?_
        | refine s_skip ?_
        | refine s_block ?_
        | refine s_exit ?_
        | refine s_label ?_)
      refine s_cond (b := (SoundRF g n != 0)) rfl (fun h1 => ?_) (fun h1 => ?_)
      · repeat (first
          | refine s_seq ?_
          | refine s_region ?_
          | refine o_val rfl rfl trivial trivial ?_
          | (refine o_val rfl rfl trivial ?hc ?_; (case hc => (first | (simp only [need, imp, needIf]; done) | ((try simp only [need, imp, needIf]); (repeat' apply And.intro) <;> (first | trivial | rfl | omega | (simp; done) | (simp; omega) | (intros; rfl) | (exact Nat.le_trans (Nat.mul_le_mul_right _ (show _ ≤ 100000000001 by omega)) (by decide)) | (intro hg_; first | exact hg_ | ((try simp only [decide_eq_true_eq] at hg_); (try rw [wi64 (by omega) (by omega)]); (repeat' apply And.intro) <;> (first | trivial | rfl | omega | (intros; rfl)))))))))
          | refine o_new rfl rfl rfl ⟨0, trivial⟩ trivial (fun _ _ => ?_)
          | (refine o_new rfl rfl rfl ⟨0, trivial⟩ ?hc (fun _ _ => ?_); (case hc => (first | (simp only [need, imp, needIf]; done) | ((try simp only [need, imp, needIf]); (repeat' apply And.intro) <;> (first | trivial | rfl | omega | (simp; done) | (simp; omega) | (intros; rfl) | (exact Nat.le_trans (Nat.mul_le_mul_right _ (show _ ≤ 100000000001 by omega)) (by decide)) | (intro hg_; first | exact hg_ | ((try simp only [decide_eq_true_eq] at hg_); (try rw [wi64 (by omega) (by omega)]); (repeat' apply And.intro) <;> (first | trivial | rfl | omega | (intros; rfl)))))))))
          | (refine o_new rfl rfl rfl ⟨(none, _), Nat.le_refl _⟩ ?hc (fun _ _ => ?_); (case hc => (first | (simp only [need, imp, needIf]; done) | ((try simp only [need, imp, needIf]); (repeat' apply And.intro) <;> (first | trivial | rfl | omega | (simp; done) | (simp; omega) | (intros; rfl) | (exact Nat.le_trans (Nat.mul_le_mul_right _ (show _ ≤ 100000000001 by omega)) (by decide)) | (intro hg_; first | exact hg_ | ((try simp only [decide_eq_true_eq] at hg_); (try rw [wi64 (by omega) (by omega)]); (repeat' apply And.intro) <;> (first | trivial | rfl | omega | (intros; rfl)))))))))
          | refine o_put rfl rfl rfl trivial trivial ?_
          | (refine o_put rfl rfl rfl trivial ?hc ?_; (case hc => (first | (simp only [need, imp, needIf]; done) | ((try simp only [need, imp, needIf]); (repeat' apply And.intro) <;> (first | trivial | rfl | omega | (simp; done) | (simp; omega) | (intros; rfl) | (exact Nat.le_trans (Nat.mul_le_mul_right _ (show _ ≤ 100000000001 by omega)) (by decide)) | (intro hg_; first | exact hg_ | ((try simp only [decide_eq_true_eq] at hg_); (try rw [wi64 (by omega) (by omega)]); (repeat' apply And.intro) <;> (first | trivial | rfl | omega | (intros; rfl)))))))))
          | refine o_nil ?_
          | refine d_val rfl rfl trivial trivial ?_
          | (refine d_val rfl rfl trivial ?hc ?_; (case hc => (first | (simp only [need, imp, needIf]; done) | ((try simp only [need, imp, needIf]); (repeat' apply And.intro) <;> (first | trivial | rfl | omega | (simp; done) | (simp; omega) | (intros; rfl) | (exact Nat.le_trans (Nat.mul_le_mul_right _ (show _ ≤ 100000000001 by omega)) (by decide)) | (intro hg_; first | exact hg_ | ((try simp only [decide_eq_true_eq] at hg_); (try rw [wi64 (by omega) (by omega)]); (repeat' apply And.intro) <;> (first | trivial | rfl | omega | (intros; rfl)))))))))
          | refine d_new rfl rfl rfl ⟨0, trivial⟩ trivial (fun _ _ => ?_)
          | (refine d_new rfl rfl rfl ⟨0, trivial⟩ ?hc (fun _ _ => ?_); (case hc => (first | (simp only [need, imp, needIf]; done) | ((try simp only [need, imp, needIf]); (repeat' apply And.intro) <;> (first | trivial | rfl | omega | (simp; done) | (simp; omega) | (intros; rfl) | (exact Nat.le_trans (Nat.mul_le_mul_right _ (show _ ≤ 100000000001 by omega)) (by decide)) | (intro hg_; first | exact hg_ | ((try simp only [decide_eq_true_eq] at hg_); (try rw [wi64 (by omega) (by omega)]); (repeat' apply And.intro) <;> (first | trivial | rfl | omega | (intros; rfl)))))))))
          | (refine d_new rfl rfl rfl ⟨(none, _), Nat.le_refl _⟩ ?hc (fun _ _ => ?_); (case hc => (first | (simp only [need, imp, needIf]; done) | ((try simp only [need, imp, needIf]); (repeat' apply And.intro) <;> (first | trivial | rfl | omega | (simp; done) | (simp; omega) | (intros; rfl) | (exact Nat.le_trans (Nat.mul_le_mul_right _ (show _ ≤ 100000000001 by omega)) (by decide)) | (intro hg_; first | exact hg_ | ((try simp only [decide_eq_true_eq] at hg_); (try rw [wi64 (by omega) (by omega)]); (repeat' apply And.intro) <;> (first | trivial | rfl | omega | (intros; rfl)))))))))
          | refine d_put rfl rfl rfl trivial trivial ?_
          | (refine d_put rfl rfl rfl trivial ?hc ?_; (case hc => (first | (simp only [need, imp, needIf]; done) | ((try simp only [need, imp, needIf]); (repeat' apply And.intro) <;> (first | trivial | rfl | omega | (simp; done) | (simp; omega) | (intros; rfl) | (exact Nat.le_trans (Nat.mul_le_mul_right _ (show _ ≤ 100000000001 by omega)) (by decide)) | (intro hg_; first | exact hg_ | ((try simp only [decide_eq_true_eq] at hg_); (try rw [wi64 (by omega) (by omega)]); (repeat' apply And.intro) <;> (first | trivial | rfl | omega | (intros; rfl)))))))))
          | refine d_nil ?_
          | refine s_skip ?_
          | refine s_block ?_
          | refine s_exit ?_
          | refine s_label ?_)
        refine s_ret ?_
        exact ⟨_, _, rfl, ⟨trivial, trivial⟩, rfl, by unfold PowerRF; rw [if_pos h1]; rfl⟩
      repeat (first
        | refine s_seq ?_
        | refine s_region ?_
        | refine o_val rfl rfl trivial trivial ?_
        | (refine o_val rfl rfl trivial ?hc ?_; (case hc => (first | (simp only [need, imp, needIf]; done) | ((try simp only [need, imp, needIf]); (repeat' apply And.intro) <;> (first | trivial | rfl | omega | (simp; done) | (simp; omega) | (intros; rfl) | (exact Nat.le_trans (Nat.mul_le_mul_right _ (show _ ≤ 100000000001 by omega)) (by decide)) | (intro hg_; first | exact hg_ | ((try simp only [decide_eq_true_eq] at hg_); (try rw [wi64 (by omega) (by omega)]); (repeat' apply And.intro) <;> (first | trivial | rfl | omega | (intros; rfl)))))))))
        | refine o_new rfl rfl rfl ⟨0, trivial⟩ trivial (fun _ _ => ?_)
        | (refine o_new rfl rfl rfl ⟨0, trivial⟩ ?hc (fun _ _ => ?_); (case hc => (first | (simp only [need, imp, needIf]; done) | ((try simp only [need, imp, needIf]); (repeat' apply And.intro) <;> (first | trivial | rfl | omega | (simp; done) | (simp; omega) | (intros; rfl) | (exact Nat.le_trans (Nat.mul_le_mul_right _ (show _ ≤ 100000000001 by omega)) (by decide)) | (intro hg_; first | exact hg_ | ((try simp only [decide_eq_true_eq] at hg_); (try rw [wi64 (by omega) (by omega)]); (repeat' apply And.intro) <;> (first | trivial | rfl | omega | (intros; rfl)))))))))
        | (refine o_new rfl rfl rfl ⟨(none, _), Nat.le_refl _⟩ ?hc (fun _ _ => ?_); (case hc => (first | (simp only [need, imp, needIf]; done) | ((try simp only [need, imp, needIf]); (repeat' apply And.intro) <;> (first | trivial | rfl | omega | (simp; done) | (simp; omega) | (intros; rfl) | (exact Nat.le_trans (Nat.mul_le_mul_right _ (show _ ≤ 100000000001 by omega)) (by decide)) | (intro hg_; first | exact hg_ | ((try simp only [decide_eq_true_eq] at hg_); (try rw [wi64 (by omega) (by omega)]); (repeat' apply And.intro) <;> (first | trivial | rfl | omega | (intros; rfl)))))))))
        | refine o_put rfl rfl rfl trivial trivial ?_
        | (refine o_put rfl rfl rfl trivial ?hc ?_; (case hc => (first | (simp only [need, imp, needIf]; done) | ((try simp only [need, imp, needIf]); (repeat' apply And.intro) <;> (first | trivial | rfl | omega | (simp; done) | (simp; omega) | (intros; rfl) | (exact Nat.le_trans (Nat.mul_le_mul_right _ (show _ ≤ 100000000001 by omega)) (by decide)) | (intro hg_; first | exact hg_ | ((try simp only [decide_eq_true_eq] at hg_); (try rw [wi64 (by omega) (by omega)]); (repeat' apply And.intro) <;> (first | trivial | rfl | omega | (intros; rfl)))))))))
        | refine o_nil ?_
        | refine d_val rfl rfl trivial trivial ?_
        | (refine d_val rfl rfl trivial ?hc ?_; (case hc => (first | (simp only [need, imp, needIf]; done) | ((try simp only [need, imp, needIf]); (repeat' apply And.intro) <;> (first | trivial | rfl | omega | (simp; done) | (simp; omega) | (intros; rfl) | (exact Nat.le_trans (Nat.mul_le_mul_right _ (show _ ≤ 100000000001 by omega)) (by decide)) | (intro hg_; first | exact hg_ | ((try simp only [decide_eq_true_eq] at hg_); (try rw [wi64 (by omega) (by omega)]); (repeat' apply And.intro) <;> (first | trivial | rfl | omega | (intros; rfl)))))))))
        | refine d_new rfl rfl rfl ⟨0, trivial⟩ trivial (fun _ _ => ?_)
        | (refine d_new rfl rfl rfl ⟨0, trivial⟩ ?hc (fun _ _ => ?_); (case hc => (first | (simp only [need, imp, needIf]; done) | ((try simp only [need, imp, needIf]); (repeat' apply And.intro) <;> (first | trivial | rfl | omega | (simp; done) | (simp; omega) | (intros; rfl) | (exact Nat.le_trans (Nat.mul_le_mul_right _ (show _ ≤ 100000000001 by omega)) (by decide)) | (intro hg_; first | exact hg_ | ((try simp only [decide_eq_true_eq] at hg_); (try rw [wi64 (by omega) (by omega)]); (repeat' apply And.intro) <;> (first | trivial | rfl | omega | (intros; rfl)))))))))
        | (refine d_new rfl rfl rfl ⟨(none, _), Nat.le_refl _⟩ ?hc (fun _ _ => ?_); (case hc => (first | (simp only [need, imp, needIf]; done) | ((try simp only [need, imp, needIf]); (repeat' apply And.intro) <;> (first | trivial | rfl | omega | (simp; done) | (simp; omega) | (intros; rfl) | (exact Nat.le_trans (Nat.mul_le_mul_right _ (show _ ≤ 100000000001 by omega)) (by decide)) | (intro hg_; first | exact hg_ | ((try simp only [decide_eq_true_eq] at hg_); (try rw [wi64 (by omega) (by omega)]); (repeat' apply And.intro) <;> (first | trivial | rfl | omega | (intros; rfl)))))))))
        | refine d_put rfl rfl rfl trivial trivial ?_
        | (refine d_put rfl rfl rfl trivial ?hc ?_; (case hc => (first | (simp only [need, imp, needIf]; done) | ((try simp only [need, imp, needIf]); (repeat' apply And.intro) <;> (first | trivial | rfl | omega | (simp; done) | (simp; omega) | (intros; rfl) | (exact Nat.le_trans (Nat.mul_le_mul_right _ (show _ ≤ 100000000001 by omega)) (by decide)) | (intro hg_; first | exact hg_ | ((try simp only [decide_eq_true_eq] at hg_); (try rw [wi64 (by omega) (by omega)]); (repeat' apply And.intro) <;> (first | trivial | rfl | omega | (intros; rfl)))))))))
        | refine d_nil ?_
        | refine s_skip ?_
        | refine s_block ?_
        | refine s_exit ?_
        | refine s_label ?_)
      have fin : PowerRF g n h m = powG g (namedR g h m) n 0 0 := by unfold PowerRF; rw [if_neg (by rw [h1]; decide)]
      refine s_loopW (α := Nat × Int) [5, 6, 7, 8, 12, 13, 14, 15, 16, 17, 18, 19, 20, 21, 22, 23, 24, 25, 26, 27, 28, 29, 30, 31, 32, 33, 34, 35, 36, 37, 38, 39, 40, 41, 42, 43, 44, 45, 46, 47, 48] [] (fun x => x.1 ≤ n ∧ powG g (namedR g h m) n 0 0 = powG g (namedR g h m) (n - x.1) x.1 x.2) (fun x => [(6, none, .v (.int .i64 x.1)), (5, none, .v (.int .u64 x.2))]) (fun _ => []) (fun x => n - x.1) (0, 0) ⟨Nat.zero_le _, rfl⟩ ?_ ?_
      · (refine Le.of ?leT ?leM rfl; (case leT => repeat (first | exact trivial | refine And.intro (by first | exact rfl | (show some (none, AV.v (.int .i64 (IntKind.i64.wrap _))) = _; rw [wi64 (by omega) (by omega)]; rfl)) ?_)); (case leM => repeat (first | exact trivial | refine And.intro ⟨_, rfl, Blk.le_refl _⟩ ?_)))
      · intro ⟨k, t⟩ ⟨hk, hz⟩
        dsimp only at hk hz
        repeat (first
          | refine s_seq ?_
          | refine s_region ?_
          | refine o_val rfl rfl trivial trivial ?_
          | (refine o_val rfl rfl trivial ?hc ?_; (case hc => (first | (simp only [need, imp, needIf]; done) | ((try simp only [need, imp, needIf]); (repeat' apply And.intro) <;> (first | trivial | rfl | omega | (simp; done) | (simp; omega) | (intros; rfl) | (exact Nat.le_trans (Nat.mul_le_mul_right _ (show _ ≤ 100000000001 by omega)) (by decide)) | (intro hg_; first | exact hg_ | ((try simp only [decide_eq_true_eq] at hg_); (try rw [wi64 (by omega) (by omega)]); (repeat' apply And.intro) <;> (first | trivial | rfl | omega | (intros; rfl)))))))))
          | refine o_new rfl rfl rfl ⟨0, trivial⟩ trivial (fun _ _ => ?_)
          | (refine o_new rfl rfl rfl ⟨0, trivial⟩ ?hc (fun _ _ => ?_); (case hc => (first | (simp only [need, imp, needIf]; done) | ((try simp only [need, imp, needIf]); (repeat' apply And.intro) <;> (first | trivial | rfl | omega | (simp; done) | (simp; omega) | (intros; rfl) | (exact Nat.le_trans (Nat.mul_le_mul_right _ (show _ ≤ 100000000001 by omega)) (by decide)) | (intro hg_; first | exact hg_ | ((try simp only [decide_eq_true_eq] at hg_); (try rw [wi64 (by omega) (by omega)]); (repeat' apply And.intro) <;> (first | trivial | rfl | omega | (intros; rfl)))))))))
          | (refine o_new rfl rfl rfl ⟨(none, _), Nat.le_refl _⟩ ?hc (fun _ _ => ?_); (case hc => (first | (simp only [need, imp, needIf]; done) | ((try simp only [need, imp, needIf]); (repeat' apply And.intro) <;> (first | trivial | rfl | omega | (simp; done) | (simp; omega) | (intros; rfl) | (exact Nat.le_trans (Nat.mul_le_mul_right _ (show _ ≤ 100000000001 by omega)) (by decide)) | (intro hg_; first | exact hg_ | ((try simp only [decide_eq_true_eq] at hg_); (try rw [wi64 (by omega) (by omega)]); (repeat' apply And.intro) <;> (first | trivial | rfl | omega | (intros; rfl)))))))))
          | refine o_put rfl rfl rfl trivial trivial ?_
          | (refine o_put rfl rfl rfl trivial ?hc ?_; (case hc => (first | (simp only [need, imp, needIf]; done) | ((try simp only [need, imp, needIf]); (repeat' apply And.intro) <;> (first | trivial | rfl | omega | (simp; done) | (simp; omega) | (intros; rfl) | (exact Nat.le_trans (Nat.mul_le_mul_right _ (show _ ≤ 100000000001 by omega)) (by decide)) | (intro hg_; first | exact hg_ | ((try simp only [decide_eq_true_eq] at hg_); (try rw [wi64 (by omega) (by omega)]); (repeat' apply And.intro) <;> (first | trivial | rfl | omega | (intros; rfl)))))))))
          | refine o_nil ?_
          | refine d_val rfl rfl trivial trivial ?_
          | (refine d_val rfl rfl trivial ?hc ?_; (case hc => (first | (simp only [need, imp, needIf]; done) | ((try simp only [need, imp, needIf]); (repeat' apply And.intro) <;> (first | trivial | rfl | omega | (simp; done) | (simp; omega) | (intros; rfl) | (exact Nat.le_trans (Nat.mul_le_mul_right _ (show _ ≤ 100000000001 by omega)) (by decide)) | (intro hg_; first | exact hg_ | ((try simp only [decide_eq_true_eq] at hg_); (try rw [wi64 (by omega) (by omega)]); (repeat' apply And.intro) <;> (first | trivial | rfl | omega | (intros; rfl)))))))))
          | refine d_new rfl rfl rfl ⟨0, trivial⟩ trivial (fun _ _ => ?_)
          | (refine d_new rfl rfl rfl ⟨0, trivial⟩ ?hc (fun _ _ => ?_); (case hc => (first | (simp only [need, imp, needIf]; done) | ((try simp only [need, imp, needIf]); (repeat' apply And.intro) <;> (first | trivial | rfl | omega | (simp; done) | (simp; omega) | (intros; rfl) | (exact Nat.le_trans (Nat.mul_le_mul_right _ (show _ ≤ 100000000001 by omega)) (by decide)) | (intro hg_; first | exact hg_ | ((try simp only [decide_eq_true_eq] at hg_); (try rw [wi64 (by omega) (by omega)]); (repeat' apply And.intro) <;> (first | trivial | rfl | omega | (intros; rfl)))))))))
          | (refine d_new rfl rfl rfl ⟨(none, _), Nat.le_refl _⟩ ?hc (fun _ _ => ?_); (case hc => (first | (simp only [need, imp, needIf]; done) | ((try simp only [need, imp, needIf]); (repeat' apply And.intro) <;> (first | trivial | rfl | omega | (simp; done) | (simp; omega) | (intros; rfl) | (exact Nat.le_trans (Nat.mul_le_mul_right _ (show _ ≤ 100000000001 by omega)) (by decide)) | (intro hg_; first | exact hg_ | ((try simp only [decide_eq_true_eq] at hg_); (try rw [wi64 (by omega) (by omega)]); (repeat' apply And.intro) <;> (first | trivial | rfl | omega | (intros; rfl)))))))))
          | refine d_put rfl rfl rfl trivial trivial ?_
          | (refine d_put rfl rfl rfl trivial ?hc ?_; (case hc => (first | (simp only [need, imp, needIf]; done) | ((try simp only [need, imp, needIf]); (repeat' apply And.intro) <;> (first | trivial | rfl | omega | (simp; done) | (simp; omega) | (intros; rfl) | (exact Nat.le_trans (Nat.mul_le_mul_right _ (show _ ≤ 100000000001 by omega)) (by decide)) | (intro hg_; first | exact hg_ | ((try simp only [decide_eq_true_eq] at hg_); (try rw [wi64 (by omega) (by omega)]); (repeat' apply And.intro) <;> (first | trivial | rfl | omega | (intros; rfl)))))))))
          | refine d_nil ?_
          | refine s_skip ?_
          | refine s_block ?_
          | refine s_exit ?_
          | refine s_label ?_)
        refine s_cond (b := decide ((k : Int) < n)) rfl (fun hb => ?_) (fun hb => ?_)
        · have hlt : k < n := by simpa using hb
          have hs : n - k = (n - (k + 1)) + 1 := by omega
          rw [hs, powG] at hz
          repeat (first
            | refine s_seq ?_
            | refine s_region ?_
            | refine o_val rfl rfl trivial trivial ?_
            | (refine o_val rfl rfl trivial ?hc ?_; (case hc => (first | (simp only [need, imp, needIf]; done) | ((try simp only [need, imp, needIf]); (repeat' apply And.intro) <;> (first | trivial | rfl | omega | (simp; done) | (simp; omega) | (intros; rfl) | (exact Nat.le_trans (Nat.mul_le_mul_right _ (show _ ≤ 100000000001 by omega)) (by decide)) | (intro hg_; first | exact hg_ | ((try simp only [decide_eq_true_eq] at hg_); (try rw [wi64 (by omega) (by omega)]); (repeat' apply And.intro) <;> (first | trivial | rfl | omega | (intros; rfl)))))))))
            | refine o_new rfl rfl rfl ⟨0, trivial⟩ trivial (fun _ _ => ?_)
            | (refine o_new rfl rfl rfl ⟨0, trivial⟩ ?hc (fun _ _ => ?_); (case hc => (first | (simp only [need, imp, needIf]; done) | ((try simp only [need, imp, needIf]); (repeat' apply And.intro) <;> (first | trivial | rfl | omega | (simp; done) | (simp; omega) | (intros; rfl) | (exact Nat.le_trans (Nat.mul_le_mul_right _ (show _ ≤ 100000000001 by omega)) (by decide)) | (intro hg_; first | exact hg_ | ((try simp only [decide_eq_true_eq] at hg_); (try rw [wi64 (by omega) (by omega)]); (repeat' apply And.intro) <;> (first | trivial | rfl | omega | (intros; rfl)))))))))
            | (refine o_new rfl rfl rfl ⟨(none, _), Nat.le_refl _⟩ ?hc (fun _ _ => ?_); (case hc => (first | (simp only [need, imp, needIf]; done) | ((try simp only [need, imp, needIf]); (repeat' apply And.intro) <;> (first | trivial | rfl | omega | (simp; done) | (simp; omega) | (intros; rfl) | (exact Nat.le_trans (Nat.mul_le_mul_right _ (show _ ≤ 100000000001 by omega)) (by decide)) | (intro hg_; first | exact hg_ | ((try simp only [decide_eq_true_eq] at hg_); (try rw [wi64 (by omega) (by omega)]); (repeat' apply And.intro) <;> (first | trivial | rfl | omega | (intros; rfl)))))))))
            | refine o_put rfl rfl rfl trivial trivial ?_
            | (refine o_put rfl rfl rfl trivial ?hc ?_; (case hc => (first | (simp only [need, imp, needIf]; done) | ((try simp only [need, imp, needIf]); (repeat' apply And.intro) <;> (first | trivial | rfl | omega | (simp; done) | (simp; omega) | (intros; rfl) | (exact Nat.le_trans (Nat.mul_le_mul_right _ (show _ ≤ 100000000001 by omega)) (by decide)) | (intro hg_; first | exact hg_ | ((try simp only [decide_eq_true_eq] at hg_); (try rw [wi64 (by omega) (by omega)]); (repeat' apply And.intro) <;> (first | trivial | rfl | omega | (intros; rfl)))))))))
            | refine o_nil ?_
            | refine d_val rfl rfl trivial trivial ?_
            | (refine d_val rfl rfl trivial ?hc ?_; (case hc => (first | (simp only [need, imp, needIf]; done) | ((try simp only [need, imp, needIf]); (repeat' apply And.intro) <;> (first | trivial | rfl | omega | (simp; done) | (simp; omega) | (intros; rfl) | (exact Nat.le_trans (Nat.mul_le_mul_right _ (show _ ≤ 100000000001 by omega)) (by decide)) | (intro hg_; first | exact hg_ | ((try simp only [decide_eq_true_eq] at hg_); (try rw [wi64 (by omega) (by omega)]); (repeat' apply And.intro) <;> (first | trivial | rfl | omega | (intros; rfl)))))))))
            | refine d_new rfl rfl rfl ⟨0, trivial⟩ trivial (fun _ _ => ?_)
            | (refine d_new rfl rfl rfl ⟨0, trivial⟩ ?hc (fun _ _ => ?_); (case hc => (first | (simp only [need, imp, needIf]; done) | ((try simp only [need, imp, needIf]); (repeat' apply And.intro) <;> (first | trivial | rfl | omega | (simp; done) | (simp; omega) | (intros; rfl) | (exact Nat.le_trans (Nat.mul_le_mul_right _ (show _ ≤ 100000000001 by omega)) (by decide)) | (intro hg_; first | exact hg_ | ((try simp only [decide_eq_true_eq] at hg_); (try rw [wi64 (by omega) (by omega)]); (repeat' apply And.intro) <;> (first | trivial | rfl | omega | (intros; rfl)))))))))
            | (refine d_new rfl rfl rfl ⟨(none, _), Nat.le_refl _⟩ ?hc (fun _ _ => ?_); (case hc => (first | (simp only [need, imp, needIf]; done) | ((try simp only [need, imp, needIf]); (repeat' apply And.intro) <;> (first | trivial | rfl | omega | (simp; done) | (simp; omega) | (intros; rfl) | (exact Nat.le_trans (Nat.mul_le_mul_right _ (show _ ≤ 100000000001 by omega)) (by decide)) | (intro hg_; first | exact hg_ | ((try simp only [decide_eq_true_eq] at hg_); (try rw [wi64 (by omega) (by omega)]); (repeat' apply And.intro) <;> (first | trivial | rfl | omega | (intros; rfl)))))))))
            | refine d_put rfl rfl rfl trivial trivial ?_
            | (refine d_put rfl rfl rfl trivial ?hc ?_; (case hc => (first | (simp only [need, imp, needIf]; done) | ((try simp only [need, imp, needIf]); (repeat' apply And.intro) <;> (first | trivial | rfl | omega | (simp; done) | (simp; omega) | (intros; rfl) | (exact Nat.le_trans (Nat.mul_le_mul_right _ (show _ ≤ 100000000001 by omega)) (by decide)) | (intro hg_; first | exact hg_ | ((try simp only [decide_eq_true_eq] at hg_); (try rw [wi64 (by omega) (by omega)]); (repeat' apply And.intro) <;> (first | trivial | rfl | omega | (intros; rfl)))))))))
            | refine d_nil ?_
            | refine s_skip ?_
            | refine s_block ?_
            | refine s_exit ?_
            | refine s_label ?_)
          refine s_loopW (α := Nat × Bool) [7, 8, 19, 20, 21, 22, 23, 24, 25, 26, 27, 28, 29, 30, 31, 32, 33, 34, 35, 36, 37, 38, 39] [] (fun x => x.1 ≤ m ∧ namedR g h m k = anyR (fun i => isAddr (g k).addr (h i)) (m - x.1) x.1 x.2) (fun x => [(8, none, .v (.int .i64 x.1)), (7, none, .v (.bool x.2))]) (fun _ => []) (fun x => m - x.1) (0, false) ⟨Nat.zero_le _, rfl⟩ ?_ ?_
          · (refine Le.of ?leT ?leM rfl; (case leT => repeat (first | exact trivial | refine And.intro (by first | exact rfl | (show some (none, AV.v (.int .i64 (IntKind.i64.wrap _))) = _; rw [wi64 (by omega) (by omega)]; rfl)) ?_)); (case leM => repeat (first | exact trivial | refine And.intro ⟨_, rfl, Blk.le_refl _⟩ ?_)))
          · intro ⟨j, f⟩ ⟨hj, hy⟩
            dsimp only at hj hy
            repeat (first
              | refine s_seq ?_
              | refine s_region ?_
              | refine o_val rfl rfl trivial trivial ?_
              | (refine o_val rfl rfl trivial ?hc ?_; (case hc => (first | (simp only [need, imp, needIf]; done) | ((try simp only [need, imp, needIf]); (repeat' apply And.intro) <;> (first | trivial | rfl | omega | (simp; done) | (simp; omega) | (intros; rfl) | (exact Nat.le_trans (Nat.mul_le_mul_right _ (show _ ≤ 100000000001 by omega)) (by decide)) | (intro hg_; first | exact hg_ | ((try simp only [decide_eq_true_eq] at hg_); (try rw [wi64 (by omega) (by omega)]); (repeat' apply And.intro) <;> (first | trivial | rfl | omega | (intros; rfl)))))))))
              | refine o_new rfl rfl rfl ⟨0, trivial⟩ trivial (fun _ _ => ?_)
              | (refine o_new rfl rfl rfl ⟨0, trivial⟩ ?hc (fun _ _ => ?_); (case hc => (first | (simp only [need, imp, needIf]; done) | ((try simp only [need, imp, needIf]); (repeat' apply And.intro) <;> (first | trivial | rfl | omega | (simp; done) | (simp; omega) | (intros; rfl) | (exact Nat.le_trans (Nat.mul_le_mul_right _ (show _ ≤ 100000000001 by omega)) (by decide)) | (intro hg_; first | exact hg_ | ((try simp only [decide_eq_true_eq] at hg_); (try rw [wi64 (by omega) (by omega)]); (repeat' apply And.intro) <;> (first | trivial | rfl | omega | (intros; rfl)))))))))
              | (refine o_new rfl rfl rfl ⟨(none, _), Nat.le_refl _⟩ ?hc (fun _ _ => ?_); (case hc => (first | (simp only [need, imp, needIf]; done) | ((try simp only [need, imp, needIf]); (repeat' apply And.intro) <;> (first | trivial | rfl | omega | (simp; done) | (simp; omega) | (intros; rfl) | (exact Nat.le_trans (Nat.mul_le_mul_right _ (show _ ≤ 100000000001 by omega)) (by decide)) | (intro hg_; first | exact hg_ | ((try simp only [decide_eq_true_eq] at hg_); (try rw [wi64 (by omega) (by omega)]); (repeat' apply And.intro) <;> (first | trivial | rfl | omega | (intros; rfl)))))))))
              | refine o_put rfl rfl rfl trivial trivial ?_
              | (refine o_put rfl rfl rfl trivial ?hc ?_; (case hc => (first | (simp only [need, imp, needIf]; done) | ((try simp only [need, imp, needIf]); (repeat' apply And.intro) <;> (first | trivial | rfl | omega | (simp; done) | (simp; omega) | (intros; rfl) | (exact Nat.le_trans (Nat.mul_le_mul_right _ (show _ ≤ 100000000001 by omega)) (by decide)) | (intro hg_; first | exact hg_ | ((try simp only [decide_eq_true_eq] at hg_); (try rw [wi64 (by omega) (by omega)]); (repeat' apply And.intro) <;> (first | trivial | rfl | omega | (intros; rfl)))))))))
              | refine o_nil ?_
              | refine d_val rfl rfl trivial trivial ?_
              | (refine d_val rfl rfl trivial ?hc ?_; (case hc => (first | (simp only [need, imp, needIf]; done) | ((try simp only [need, imp, needIf]); (repeat' apply And.intro) <;> (first | trivial | rfl | omega | (simp; done) | (simp; omega) | (intros; rfl) | (exact Nat.le_trans (Nat.mul_le_mul_right _ (show _ ≤ 100000000001 by omega)) (by decide)) | (intro hg_; first | exact hg_ | ((try simp only [decide_eq_true_eq] at hg_); (try rw [wi64 (by omega) (by omega)]); (repeat' apply And.intro) <;> (first | trivial | rfl | omega | (intros; rfl)))))))))
              | refine d_new rfl rfl rfl ⟨0, trivial⟩ trivial (fun _ _ => ?_)
              | (refine d_new rfl rfl rfl ⟨0, trivial⟩ ?hc (fun _ _ => ?_); (case hc => (first | (simp only [need, imp, needIf]; done) | ((try simp only [need, imp, needIf]); (repeat' apply And.intro) <;> (first | trivial | rfl | omega | (simp; done) | (simp; omega) | (intros; rfl) | (exact Nat.le_trans (Nat.mul_le_mul_right _ (show _ ≤ 100000000001 by omega)) (by decide)) | (intro hg_; first | exact hg_ | ((try simp only [decide_eq_true_eq] at hg_); (try rw [wi64 (by omega) (by omega)]); (repeat' apply And.intro) <;> (first | trivial | rfl | omega | (intros; rfl)))))))))
              | (refine d_new rfl rfl rfl ⟨(none, _), Nat.le_refl _⟩ ?hc (fun _ _ => ?_); (case hc => (first | (simp only [need, imp, needIf]; done) | ((try simp only [need, imp, needIf]); (repeat' apply And.intro) <;> (first | trivial | rfl | omega | (simp; done) | (simp; omega) | (intros; rfl) | (exact Nat.le_trans (Nat.mul_le_mul_right _ (show _ ≤ 100000000001 by omega)) (by decide)) | (intro hg_; first | exact hg_ | ((try simp only [decide_eq_true_eq] at hg_); (try rw [wi64 (by omega) (by omega)]); (repeat' apply And.intro) <;> (first | trivial | rfl | omega | (intros; rfl)))))))))
              | refine d_put rfl rfl rfl trivial trivial ?_
              | (refine d_put rfl rfl rfl trivial ?hc ?_; (case hc => (first | (simp only [need, imp, needIf]; done) | ((try simp only [need, imp, needIf]); (repeat' apply And.intro) <;> (first | trivial | rfl | omega | (simp; done) | (simp; omega) | (intros; rfl) | (exact Nat.le_trans (Nat.mul_le_mul_right _ (show _ ≤ 100000000001 by omega)) (by decide)) | (intro hg_; first | exact hg_ | ((try simp only [decide_eq_true_eq] at hg_); (try rw [wi64 (by omega) (by omega)]); (repeat' apply And.intro) <;> (first | trivial | rfl | omega | (intros; rfl)))))))))
              | refine d_nil ?_
              | refine s_skip ?_
              | refine s_block ?_
              | refine s_exit ?_
              | refine s_label ?_)
            refine s_cond (b := decide ((j : Int) < m)) rfl (fun hb3 => ?_) (fun hb3 => ?_)
            · have hlt3 : j < m := by simpa using hb3
              have hs3 : m - j = (m - (j + 1)) + 1 := by omega
              rw [hs3, anyR] at hy
              repeat (first
                | refine s_seq ?_
                | refine s_region ?_
                | refine o_val rfl rfl trivial trivial ?_
                | (refine o_val rfl rfl trivial ?hc ?_; (case hc => (first | (simp only [need, imp, needIf]; done) | ((try simp only [need, imp, needIf]); (repeat' apply And.intro) <;> (first | trivial | rfl | omega | (simp; done) | (simp; omega) | (intros; rfl) | (exact Nat.le_trans (Nat.mul_le_mul_right _ (show _ ≤ 100000000001 by omega)) (by decide)) | (intro hg_; first | exact hg_ | ((try simp only [decide_eq_true_eq] at hg_); (try rw [wi64 (by omega) (by omega)]); (repeat' apply And.intro) <;> (first | trivial | rfl | omega | (intros; rfl)))))))))
                | refine o_new rfl rfl rfl ⟨0, trivial⟩ trivial (fun _ _ => ?_)
                | (refine o_new rfl rfl rfl ⟨0, trivial⟩ ?hc (fun _ _ => ?_); (case hc => (first | (simp only [need, imp, needIf]; done) | ((try simp only [need, imp, needIf]); (repeat' apply And.intro) <;> (first | trivial | rfl | omega | (simp; done) | (simp; omega) | (intros; rfl) | (exact Nat.le_trans (Nat.mul_le_mul_right _ (show _ ≤ 100000000001 by omega)) (by decide)) | (intro hg_; first | exact hg_ | ((try simp only [decide_eq_true_eq] at hg_); (try rw [wi64 (by omega) (by omega)]); (repeat' apply And.intro) <;> (first | trivial | rfl | omega | (intros; rfl)))))))))
                | (refine o_new rfl rfl rfl ⟨(none, _), Nat.le_refl _⟩ ?hc (fun _ _ => ?_); (case hc => (first | (simp only [need, imp, needIf]; done) | ((try simp only [need, imp, needIf]); (repeat' apply And.intro) <;> (first | trivial | rfl | omega | (simp; done) | (simp; omega) | (intros; rfl) | (exact Nat.le_trans (Nat.mul_le_mul_right _ (show _ ≤ 100000000001 by omega)) (by decide)) | (intro hg_; first | exact hg_ | ((try simp only [decide_eq_true_eq] at hg_); (try rw [wi64 (by omega) (by omega)]); (repeat' apply And.intro) <;> (first | trivial | rfl | omega | (intros; rfl)))))))))
                | refine o_put rfl rfl rfl trivial trivial ?_
                | (refine o_put rfl rfl rfl trivial ?hc ?_; (case hc => (first | (simp only [need, imp, needIf]; done) | ((try simp only [need, imp, needIf]); (repeat' apply And.intro) <;> (first | trivial | rfl | omega | (simp; done) | (simp; omega) | (intros; rfl) | (exact Nat.le_trans (Nat.mul_le_mul_right _ (show _ ≤ 100000000001 by omega)) (by decide)) | (intro hg_; first | exact hg_ | ((try simp only [decide_eq_true_eq] at hg_); (try rw [wi64 (by omega) (by omega)]); (repeat' apply And.intro) <;> (first | trivial | rfl | omega | (intros; rfl)))))))))
                | refine o_nil ?_
                | refine d_val rfl rfl trivial trivial ?_
                | (refine d_val rfl rfl trivial ?hc ?_; (case hc => (first | (simp only [need, imp, needIf]; done) | ((try simp only [need, imp, needIf]); (repeat' apply And.intro) <;> (first | trivial | rfl | omega | (simp; done) | (simp; omega) | (intros; rfl) | (exact Nat.le_trans (Nat.mul_le_mul_right _ (show _ ≤ 100000000001 by omega)) (by decide)) | (intro hg_; first | exact hg_ | ((try simp only [decide_eq_true_eq] at hg_); (try rw [wi64 (by omega) (by omega)]); (repeat' apply And.intro) <;> (first | trivial | rfl | omega | (intros; rfl)))))))))
                | refine d_new rfl rfl rfl ⟨0, trivial⟩ trivial (fun _ _ => ?_)
                | (refine d_new rfl rfl rfl ⟨0, trivial⟩ ?hc (fun _ _ => ?_); (case hc => (first | (simp only [need, imp, needIf]; done) | ((try simp only [need, imp, needIf]); (repeat' apply And.intro) <;> (first | trivial | rfl | omega | (simp; done) | (simp; omega) | (intros; rfl) | (exact Nat.le_trans (Nat.mul_le_mul_right _ (show _ ≤ 100000000001 by omega)) (by decide)) | (intro hg_; first | exact hg_ | ((try simp only [decide_eq_true_eq] at hg_); (try rw [wi64 (by omega) (by omega)]); (repeat' apply And.intro) <;> (first | trivial | rfl | omega | (intros; rfl)))))))))
                | (refine d_new rfl rfl rfl ⟨(none, _), Nat.le_refl _⟩ ?hc (fun _ _ => ?_); (case hc => (first | (simp only [need, imp, needIf]; done) | ((try simp only [need, imp, needIf]); (repeat' apply And.intro) <;> (first | trivial | rfl | omega | (simp; done) | (simp; omega) | (intros; rfl) | (exact Nat.le_trans (Nat.mul_le_mul_right _ (show _ ≤ 100000000001 by omega)) (by decide)) | (intro hg_; first | exact hg_ | ((try simp only [decide_eq_true_eq] at hg_); (try rw [wi64 (by omega) (by omega)]); (repeat' apply And.intro) <;> (first | trivial | rfl | omega | (intros; rfl)))))))))
                | refine d_put rfl rfl rfl trivial trivial ?_
                | (refine d_put rfl rfl rfl trivial ?hc ?_; (case hc => (first | (simp only [need, imp, needIf]; done) | ((try simp only [need, imp, needIf]); (repeat' apply And.intro) <;> (first | trivial | rfl | omega | (simp; done) | (simp; omega) | (intros; rfl) | (exact Nat.le_trans (Nat.mul_le_mul_right _ (show _ ≤ 100000000001 by omega)) (by decide)) | (intro hg_; first | exact hg_ | ((try simp only [decide_eq_true_eq] at hg_); (try rw [wi64 (by omega) (by omega)]); (repeat' apply And.intro) <;> (first | trivial | rfl | omega | (intros; rfl)))))))))
                | refine d_nil ?_
                | refine s_skip ?_
                | refine s_block ?_
                | refine s_exit ?_
                | refine s_label ?_)
              refine s_draw rD15_11 rM15_11 rX15_11 rN15_11 rfl rfl ?_
              repeat (first
                | refine s_seq ?_
                | refine s_region ?_
                | refine o_val rfl rfl trivial trivial ?_
                | (refine o_val rfl rfl trivial ?hc ?_; (case hc => (first | (simp only [need, imp, needIf]; done) | ((try simp only [need, imp, needIf]); (repeat' apply And.intro) <;> (first | trivial | rfl | omega | (simp; done) | (simp; omega) | (intros; rfl) | (exact Nat.le_trans (Nat.mul_le_mul_right _ (show _ ≤ 100000000001 by omega)) (by decide)) | (intro hg_; first | exact hg_ | ((try simp only [decide_eq_true_eq] at hg_); (try rw [wi64 (by omega) (by omega)]); (repeat' apply And.intro) <;> (first | trivial | rfl | omega | (intros; rfl)))))))))
                | refine o_new rfl rfl rfl ⟨0, trivial⟩ trivial (fun _ _ => ?_)
                | (refine o_new rfl rfl rfl ⟨0, trivial⟩ ?hc (fun _ _ => ?_); (case hc => (first | (simp only [need, imp, needIf]; done) | ((try simp only [need, imp, needIf]); (repeat' apply And.intro) <;> (first | trivial | rfl | omega | (simp; done) | (simp; omega) | (intros; rfl) | (exact Nat.le_trans (Nat.mul_le_mul_right _ (show _ ≤ 100000000001 by omega)) (by decide)) | (intro hg_; first | exact hg_ | ((try simp only [decide_eq_true_eq] at hg_); (try rw [wi64 (by omega) (by omega)]); (repeat' apply And.intro) <;> (first | trivial | rfl | omega | (intros; rfl)))))))))
                | (refine o_new rfl rfl rfl ⟨(none, _), Nat.le_refl _⟩ ?hc (fun _ _ => ?_); (case hc => (first | (simp only [need, imp, needIf]; done) | ((try simp only [need, imp, needIf]); (repeat' apply And.intro) <;> (first | trivial | rfl | omega | (simp; done) | (simp; omega) | (intros; rfl) | (exact Nat.le_trans (Nat.mul_le_mul_right _ (show _ ≤ 100000000001 by omega)) (by decide)) | (intro hg_; first | exact hg_ | ((try simp only [decide_eq_true_eq] at hg_); (try rw [wi64 (by omega) (by omega)]); (repeat' apply And.intro) <;> (first | trivial | rfl | omega | (intros; rfl)))))))))
                | refine o_put rfl rfl rfl trivial trivial ?_
                | (refine o_put rfl rfl rfl trivial ?hc ?_; (case hc => (first | (simp only [need, imp, needIf]; done) | ((try simp only [need, imp, needIf]); (repeat' apply And.intro) <;> (first | trivial | rfl | omega | (simp; done) | (simp; omega) | (intros; rfl) | (exact Nat.le_trans (Nat.mul_le_mul_right _ (show _ ≤ 100000000001 by omega)) (by decide)) | (intro hg_; first | exact hg_ | ((try simp only [decide_eq_true_eq] at hg_); (try rw [wi64 (by omega) (by omega)]); (repeat' apply And.intro) <;> (first | trivial | rfl | omega | (intros; rfl)))))))))
                | refine o_nil ?_
                | refine d_val rfl rfl trivial trivial ?_
                | (refine d_val rfl rfl trivial ?hc ?_; (case hc => (first | (simp only [need, imp, needIf]; done) | ((try simp only [need, imp, needIf]); (repeat' apply And.intro) <;> (first | trivial | rfl | omega | (simp; done) | (simp; omega) | (intros; rfl) | (exact Nat.le_trans (Nat.mul_le_mul_right _ (show _ ≤ 100000000001 by omega)) (by decide)) | (intro hg_; first | exact hg_ | ((try simp only [decide_eq_true_eq] at hg_); (try rw [wi64 (by omega) (by omega)]); (repeat' apply And.intro) <;> (first | trivial | rfl | omega | (intros; rfl)))))))))
                | refine d_new rfl rfl rfl ⟨0, trivial⟩ trivial (fun _ _ => ?_)
                | (refine d_new rfl rfl rfl ⟨0, trivial⟩ ?hc (fun _ _ => ?_); (case hc => (first | (simp only [need, imp, needIf]; done) | ((try simp only [need, imp, needIf]); (repeat' apply And.intro) <;> (first | trivial | rfl | omega | (simp; done) | (simp; omega) | (intros; rfl) | (exact Nat.le_trans (Nat.mul_le_mul_right _ (show _ ≤ 100000000001 by omega)) (by decide)) | (intro hg_; first | exact hg_ | ((try simp only [decide_eq_true_eq] at hg_); (try rw [wi64 (by omega) (by omega)]); (repeat' apply And.intro) <;> (first | trivial | rfl | omega | (intros; rfl)))))))))
                | (refine d_new rfl rfl rfl ⟨(none, _), Nat.le_refl _⟩ ?hc (fun _ _ => ?_); (case hc => (first | (simp only [need, imp, needIf]; done) | ((try simp only [need, imp, needIf]); (repeat' apply And.intro) <;> (first | trivial | rfl | omega | (simp; done) | (simp; omega) | (intros; rfl) | (exact Nat.le_trans (Nat.mul_le_mul_right _ (show _ ≤ 100000000001 by omega)) (by decide)) | (intro hg_; first | exact hg_ | ((try simp only [decide_eq_true_eq] at hg_); (try rw [wi64 (by omega) (by omega)]); (repeat' apply And.intro) <;> (first | trivial | rfl | omega | (intros; rfl)))))))))
                | refine d_put rfl rfl rfl trivial trivial ?_
                | (refine d_put rfl rfl rfl trivial ?hc ?_; (case hc => (first | (simp only [need, imp, needIf]; done) | ((try simp only [need, imp, needIf]); (repeat' apply And.intro) <;> (first | trivial | rfl | omega | (simp; done) | (simp; omega) | (intros; rfl) | (exact Nat.le_trans (Nat.mul_le_mul_right _ (show _ ≤ 100000000001 by omega)) (by decide)) | (intro hg_; first | exact hg_ | ((try simp only [decide_eq_true_eq] at hg_); (try rw [wi64 (by omega) (by omega)]); (repeat' apply And.intro) <;> (first | trivial | rfl | omega | (intros; rfl)))))))))
                | refine d_nil ?_
                | refine s_skip ?_
                | refine s_block ?_
                | refine s_exit ?_
                | refine s_label ?_)
              refine ⟨(j + 1, f || isAddr (g k).addr (h j)), ⟨by dsimp only; omega, hy⟩, by dsimp only; omega, ?_⟩
              (refine Le.of ?leT ?leM rfl; (case leT => repeat (first | exact trivial | refine And.intro (by first | exact rfl | (show some (none, AV.v (.int .i64 (IntKind.i64.wrap _))) = _; rw [wi64 (by omega) (by omega)]; rfl)) ?_)); (case leM => repeat (first | exact trivial | refine And.intro ⟨_, rfl, Blk.le_refl _⟩ ?_)))
            · have hge3 : j = m := by simp at hb3; omega
              have hy2 : f = namedR g h m k := by rw [hy, hge3, Nat.sub_self]; rfl
              subst hy2
              repeat (first
                | refine s_seq ?_
                | refine s_region ?_
                | refine o_val rfl rfl trivial trivial ?_
                | (refine o_val rfl rfl trivial ?hc ?_; (case hc => (first | (simp only [need, imp, needIf]; done) | ((try simp only [need, imp, needIf]); (repeat' apply And.intro) <;> (first | trivial | rfl | omega | (simp; done) | (simp; omega) | (intros; rfl) | (exact Nat.le_trans (Nat.mul_le_mul_right _ (show _ ≤ 100000000001 by omega)) (by decide)) | (intro hg_; first | exact hg_ | ((try simp only [decide_eq_true_eq] at hg_); (try rw [wi64 (by omega) (by omega)]); (repeat' apply And.intro) <;> (first | trivial | rfl | omega | (intros; rfl)))))))))
                | refine o_new rfl rfl rfl ⟨0, trivial⟩ trivial (fun _ _ => ?_)
                | (refine o_new rfl rfl rfl ⟨0, trivial⟩ ?hc (fun _ _ => ?_); (case hc => (first | (simp only [need, imp, needIf]; done) | ((try simp only [need, imp, needIf]); (repeat' apply And.intro) <;> (first | trivial | rfl | omega | (simp; done) | (simp; omega) | (intros; rfl) | (exact Nat.le_trans (Nat.mul_le_mul_right _ (show _ ≤ 100000000001 by omega)) (by decide)) | (intro hg_; first | exact hg_ | ((try simp only [decide_eq_true_eq] at hg_); (try rw [wi64 (by omega) (by omega)]); (repeat' apply And.intro) <;> (first | trivial | rfl | omega | (intros; rfl)))))))))
                | (refine o_new rfl rfl rfl ⟨(none, _), Nat.le_refl _⟩ ?hc (fun _ _ => ?_); (case hc => (first | (simp only [need, imp, needIf]; done) | ((try simp only [need, imp, needIf]); (repeat' apply And.intro) <;> (first | trivial | rfl | omega | (simp; done) | (simp; omega) | (intros; rfl) | (exact Nat.le_trans (Nat.mul_le_mul_right _ (show _ ≤ 100000000001 by omega)) (by decide)) | (intro hg_; first | exact hg_ | ((try simp only [decide_eq_true_eq] at hg_); (try rw [wi64 (by omega) (by omega)]); (repeat' apply And.intro) <;> (first | trivial | rfl | omega | (intros; rfl)))))))))
                | refine o_put rfl rfl rfl trivial trivial ?_
                | (refine o_put rfl rfl rfl trivial ?hc ?_; (case hc => (first | (simp only [need, imp, needIf]; done) | ((try simp only [need, imp, needIf]); (repeat' apply And.intro) <;> (first | trivial | rfl | omega | (simp; done) | (simp; omega) | (intros; rfl) | (exact Nat.le_trans (Nat.mul_le_mul_right _ (show _ ≤ 100000000001 by omega)) (by decide)) | (intro hg_; first | exact hg_ | ((try simp only [decide_eq_true_eq] at hg_); (try rw [wi64 (by omega) (by omega)]); (repeat' apply And.intro) <;> (first | trivial | rfl | omega | (intros; rfl)))))))))
                | refine o_nil ?_
                | refine d_val rfl rfl trivial trivial ?_
                | (refine d_val rfl rfl trivial ?hc ?_; (case hc => (first | (simp only [need, imp, needIf]; done) | ((try simp only [need, imp, needIf]); (repeat' apply And.intro) <;> (first | trivial | rfl | omega | (simp; done) | (simp; omega) | (intros; rfl) | (exact Nat.le_trans (Nat.mul_le_mul_right _ (show _ ≤ 100000000001 by omega)) (by decide)) | (intro hg_; first | exact hg_ | ((try simp only [decide_eq_true_eq] at hg_); (try rw [wi64 (by omega) (by omega)]); (repeat' apply And.intro) <;> (first | trivial | rfl | omega | (intros; rfl)))))))))
                | refine d_new rfl rfl rfl ⟨0, trivial⟩ trivial (fun _ _ => ?_)
                | (refine d_new rfl rfl rfl ⟨0, trivial⟩ ?hc (fun _ _ => ?_); (case hc => (first | (simp only [need, imp, needIf]; done) | ((try simp only [need, imp, needIf]); (repeat' apply And.intro) <;> (first | trivial | rfl | omega | (simp; done) | (simp; omega) | (intros; rfl) | (exact Nat.le_trans (Nat.mul_le_mul_right _ (show _ ≤ 100000000001 by omega)) (by decide)) | (intro hg_; first | exact hg_ | ((try simp only [decide_eq_true_eq] at hg_); (try rw [wi64 (by omega) (by omega)]); (repeat' apply And.intro) <;> (first | trivial | rfl | omega | (intros; rfl)))))))))
                | (refine d_new rfl rfl rfl ⟨(none, _), Nat.le_refl _⟩ ?hc (fun _ _ => ?_); (case hc => (first | (simp only [need, imp, needIf]; done) | ((try simp only [need, imp, needIf]); (repeat' apply And.intro) <;> (first | trivial | rfl | omega | (simp; done) | (simp; omega) | (intros; rfl) | (exact Nat.le_trans (Nat.mul_le_mul_right _ (show _ ≤ 100000000001 by omega)) (by decide)) | (intro hg_; first | exact hg_ | ((try simp only [decide_eq_true_eq] at hg_); (try rw [wi64 (by omega) (by omega)]); (repeat' apply And.intro) <;> (first | trivial | rfl | omega | (intros; rfl)))))))))
                | refine d_put rfl rfl rfl trivial trivial ?_
                | (refine d_put rfl rfl rfl trivial ?hc ?_; (case hc => (first | (simp only [need, imp, needIf]; done) | ((try simp only [need, imp, needIf]); (repeat' apply And.intro) <;> (first | trivial | rfl | omega | (simp; done) | (simp; omega) | (intros; rfl) | (exact Nat.le_trans (Nat.mul_le_mul_right _ (show _ ≤ 100000000001 by omega)) (by decide)) | (intro hg_; first | exact hg_ | ((try simp only [decide_eq_true_eq] at hg_); (try rw [wi64 (by omega) (by omega)]); (repeat' apply And.intro) <;> (first | trivial | rfl | omega | (intros; rfl)))))))))
                | refine d_nil ?_
                | refine s_skip ?_
                | refine s_block ?_
                | refine s_exit ?_
                | refine s_label ?_)
              refine s_cond (b := namedR g h m k) rfl (fun h2 => ?_) (fun h2 => ?_)
              · rw [if_pos h2] at hz
                repeat (first
                  | refine s_seq ?_
                  | refine s_region ?_
                  | refine o_val rfl rfl trivial trivial ?_
                  | (refine o_val rfl rfl trivial ?hc ?_; (case hc => (first | (simp only [need, imp, needIf]; done) | ((try simp only [need, imp, needIf]); (repeat' apply And.intro) <;> (first | trivial | rfl | omega | (simp; done) | (simp; omega) | (intros; rfl) | (exact Nat.le_trans (Nat.mul_le_mul_right _ (show _ ≤ 100000000001 by omega)) (by decide)) | (intro hg_; first | exact hg_ | ((try simp only [decide_eq_true_eq] at hg_); (try rw [wi64 (by omega) (by omega)]); (repeat' apply And.intro) <;> (first | trivial | rfl | omega | (intros; rfl)))))))))
                  | refine o_new rfl rfl rfl ⟨0, trivial⟩ trivial (fun _ _ => ?_)
                  | (refine o_new rfl rfl rfl ⟨0, trivial⟩ ?hc (fun _ _ => ?_); (case hc => (first | (simp only [need, imp, needIf]; done) | ((try simp only [need, imp, needIf]); (repeat' apply And.intro) <;> (first | trivial | rfl | omega | (simp; done) | (simp; omega) | (intros; rfl) | (exact Nat.le_trans (Nat.mul_le_mul_right _ (show _ ≤ 100000000001 by omega)) (by decide)) | (intro hg_; first | exact hg_ | ((try simp only [decide_eq_true_eq] at hg_); (try rw [wi64 (by omega) (by omega)]); (repeat' apply And.intro) <;> (first | trivial | rfl | omega | (intros; rfl)))))))))
                  | (refine o_new rfl rfl rfl ⟨(none, _), Nat.le_refl _⟩ ?hc (fun _ _ => ?_); (case hc => (first | (simp only [need, imp, needIf]; done) | ((try simp only [need, imp, needIf]); (repeat' apply And.intro) <;> (first | trivial | rfl | omega | (simp; done) | (simp; omega) | (intros; rfl) | (exact Nat.le_trans (Nat.mul_le_mul_right _ (show _ ≤ 100000000001 by omega)) (by decide)) | (intro hg_; first | exact hg_ | ((try simp only [decide_eq_true_eq] at hg_); (try rw [wi64 (by omega) (by omega)]); (repeat' apply And.intro) <;> (first | trivial | rfl | omega | (intros; rfl)))))))))
                  | refine o_put rfl rfl rfl trivial trivial ?_
                  | (refine o_put rfl rfl rfl trivial ?hc ?_; (case hc => (first | (simp only [need, imp, needIf]; done) | ((try simp only [need, imp, needIf]); (repeat' apply And.intro) <;> (first | trivial | rfl | omega | (simp; done) | (simp; omega) | (intros; rfl) | (exact Nat.le_trans (Nat.mul_le_mul_right _ (show _ ≤ 100000000001 by omega)) (by decide)) | (intro hg_; first | exact hg_ | ((try simp only [decide_eq_true_eq] at hg_); (try rw [wi64 (by omega) (by omega)]); (repeat' apply And.intro) <;> (first | trivial | rfl | omega | (intros; rfl)))))))))
                  | refine o_nil ?_
                  | refine d_val rfl rfl trivial trivial ?_
                  | (refine d_val rfl rfl trivial ?hc ?_; (case hc => (first | (simp only [need, imp, needIf]; done) | ((try simp only [need, imp, needIf]); (repeat' apply And.intro) <;> (first | trivial | rfl | omega | (simp; done) | (simp; omega) | (intros; rfl) | (exact Nat.le_trans (Nat.mul_le_mul_right _ (show _ ≤ 100000000001 by omega)) (by decide)) | (intro hg_; first | exact hg_ | ((try simp only [decide_eq_true_eq] at hg_); (try rw [wi64 (by omega) (by omega)]); (repeat' apply And.intro) <;> (first | trivial | rfl | omega | (intros; rfl)))))))))
                  | refine d_new rfl rfl rfl ⟨0, trivial⟩ trivial (fun _ _ => ?_)
                  | (refine d_new rfl rfl rfl ⟨0, trivial⟩ ?hc (fun _ _ => ?_); (case hc => (first | (simp only [need, imp, needIf]; done) | ((try simp only [need, imp, needIf]); (repeat' apply And.intro) <;> (first | trivial | rfl | omega | (simp; done) | (simp; omega) | (intros; rfl) | (exact Nat.le_trans (Nat.mul_le_mul_right _ (show _ ≤ 100000000001 by omega)) (by decide)) | (intro hg_; first | exact hg_ | ((try simp only [decide_eq_true_eq] at hg_); (try rw [wi64 (by omega) (by omega)]); (repeat' apply And.intro) <;> (first | trivial | rfl | omega | (intros; rfl)))))))))
                  | (refine d_new rfl rfl rfl ⟨(none, _), Nat.le_refl _⟩ ?hc (fun _ _ => ?_); (case hc => (first | (simp only [need, imp, needIf]; done) | ((try simp only [need, imp, needIf]); (repeat' apply And.intro) <;> (first | trivial | rfl | omega | (simp; done) | (simp; omega) | (intros; rfl) | (exact Nat.le_trans (Nat.mul_le_mul_right _ (show _ ≤ 100000000001 by omega)) (by decide)) | (intro hg_; first | exact hg_ | ((try simp only [decide_eq_true_eq] at hg_); (try rw [wi64 (by omega) (by omega)]); (repeat' apply And.intro) <;> (first | trivial | rfl | omega | (intros; rfl)))))))))
                  | refine d_put rfl rfl rfl trivial trivial ?_
                  | (refine d_put rfl rfl rfl trivial ?hc ?_; (case hc => (first | (simp only [need, imp, needIf]; done) | ((try simp only [need, imp, needIf]); (repeat' apply And.intro) <;> (first | trivial | rfl | omega | (simp; done) | (simp; omega) | (intros; rfl) | (exact Nat.le_trans (Nat.mul_le_mul_right _ (show _ ≤ 100000000001 by omega)) (by decide)) | (intro hg_; first | exact hg_ | ((try simp only [decide_eq_true_eq] at hg_); (try rw [wi64 (by omega) (by omega)]); (repeat' apply And.intro) <;> (first | trivial | rfl | omega | (intros; rfl)))))))))
                  | refine d_nil ?_
                  | refine s_skip ?_
                  | refine s_block ?_
                  | refine s_exit ?_
                  | refine s_label ?_)
                refine ⟨(k + 1, IntKind.u64.wrap (t + (g k).power)), ⟨by dsimp only; omega, hz⟩, by dsimp only; omega, ?_⟩
                (refine Le.of ?leT ?leM rfl; (case leT => repeat (first | exact trivial | refine And.intro (by first | exact rfl | (show some (none, AV.v (.int .i64 (IntKind.i64.wrap _))) = _; rw [wi64 (by omega) (by omega)]; rfl)) ?_)); (case leM => repeat (first | exact trivial | refine And.intro ⟨_, rfl, Blk.le_refl _⟩ ?_)))
              · rw [if_neg (by rw [h2]; decide)] at hz
                repeat (first
                  | refine s_seq ?_
                  | refine s_region ?_
                  | refine o_val rfl rfl trivial trivial ?_
                  | (refine o_val rfl rfl trivial ?hc ?_; (case hc => (first | (simp only [need, imp, needIf]; done) | ((try simp only [need, imp, needIf]); (repeat' apply And.intro) <;> (first | trivial | rfl | omega | (simp; done) | (simp; omega) | (intros; rfl) | (exact Nat.le_trans (Nat.mul_le_mul_right _ (show _ ≤ 100000000001 by omega)) (by decide)) | (intro hg_; first | exact hg_ | ((try simp only [decide_eq_true_eq] at hg_); (try rw [wi64 (by omega) (by omega)]); (repeat' apply And.intro) <;> (first | trivial | rfl | omega | (intros; rfl)))))))))
                  | refine o_new rfl rfl rfl ⟨0, trivial⟩ trivial (fun _ _ => ?_)
                  | (refine o_new rfl rfl rfl ⟨0, trivial⟩ ?hc (fun _ _ => ?_); (case hc => (first | (simp only [need, imp, needIf]; done) | ((try simp only [need, imp, needIf]); (repeat' apply And.intro) <;> (first | trivial | rfl | omega | (simp; done) | (simp; omega) | (intros; rfl) | (exact Nat.le_trans (Nat.mul_le_mul_right _ (show _ ≤ 100000000001 by omega)) (by decide)) | (intro hg_; first | exact hg_ | ((try simp only [decide_eq_true_eq] at hg_); (try rw [wi64 (by omega) (by omega)]); (repeat' apply And.intro) <;> (first | trivial | rfl | omega | (intros; rfl)))))))))
                  | (refine o_new rfl rfl rfl ⟨(none, _), Nat.le_refl _⟩ ?hc (fun _ _ => ?_); (case hc => (first | (simp only [need, imp, needIf]; done) | ((try simp only [need, imp, needIf]); (repeat' apply And.intro) <;> (first | trivial | rfl | omega | (simp; done) | (simp; omega) | (intros; rfl) | (exact Nat.le_trans (Nat.mul_le_mul_right _ (show _ ≤ 100000000001 by omega)) (by decide)) | (intro hg_; first | exact hg_ | ((try simp only [decide_eq_true_eq] at hg_); (try rw [wi64 (by omega) (by omega)]); (repeat' apply And.intro) <;> (first | trivial | rfl | omega | (intros; rfl)))))))))
                  | refine o_put rfl rfl rfl trivial trivial ?_
                  | (refine o_put rfl rfl rfl trivial ?hc ?_; (case hc => (first | (simp only [need, imp, needIf]; done) | ((try simp only [need, imp, needIf]); (repeat' apply And.intro) <;> (first | trivial | rfl | omega | (simp; done) | (simp; omega) | (intros; rfl) | (exact Nat.le_trans (Nat.mul_le_mul_right _ (show _ ≤ 100000000001 by omega)) (by decide)) | (intro hg_; first | exact hg_ | ((try simp only [decide_eq_true_eq] at hg_); (try rw [wi64 (by omega) (by omega)]); (repeat' apply And.intro) <;> (first | trivial | rfl | omega | (intros; rfl)))))))))
                  | refine o_nil ?_
                  | refine d_val rfl rfl trivial trivial ?_
                  | (refine d_val rfl rfl trivial ?hc ?_; (case hc => (first | (simp only [need, imp, needIf]; done) | ((try simp only [need, imp, needIf]); (repeat' apply And.intro) <;> (first | trivial | rfl | omega | (simp; done) | (simp; omega) | (intros; rfl) | (exact Nat.le_trans (Nat.mul_le_mul_right _ (show _ ≤ 100000000001 by omega)) (by decide)) | (intro hg_; first | exact hg_ | ((try simp only [decide_eq_true_eq] at hg_); (try rw [wi64 (by omega) (by omega)]); (repeat' apply And.intro) <;> (first | trivial | rfl | omega | (intros; rfl)))))))))
                  | refine d_new rfl rfl rfl ⟨0, trivial⟩ trivial (fun _ _ => ?_)
                  | (refine d_new rfl rfl rfl ⟨0, trivial⟩ ?hc (fun _ _ => ?_); (case hc => (first | (simp only [need, imp, needIf]; done) | ((try simp only [need, imp, needIf]); (repeat' apply And.intro) <;> (first | trivial | rfl | omega | (simp; done) | (simp; omega) | (intros; rfl) | (exact Nat.le_trans (Nat.mul_le_mul_right _ (show _ ≤ 100000000001 by omega)) (by decide)) | (intro hg_; first | exact hg_ | ((try simp only [decide_eq_true_eq] at hg_); (try rw [wi64 (by omega) (by omega)]); (repeat' apply And.intro) <;> (first | trivial | rfl | omega | (intros; rfl)))))))))
                  | (refine d_new rfl rfl rfl ⟨(none, _), Nat.le_refl _⟩ ?hc (fun _ _ => ?_); (case hc => (first | (simp only [need, imp, needIf]; done) | ((try simp only [need, imp, needIf]); (repeat' apply And.intro) <;> (first | trivial | rfl | omega | (simp; done) | (simp; omega) | (intros; rfl) | (exact Nat.le_trans (Nat.mul_le_mul_right _ (show _ ≤ 100000000001 by omega)) (by decide)) | (intro hg_; first | exact hg_ | ((try simp only [decide_eq_true_eq] at hg_); (try rw [wi64 (by omega) (by omega)]); (repeat' apply And.intro) <;> (first | trivial | rfl | omega | (intros; rfl)))))))))
                  | refine d_put rfl rfl rfl trivial trivial ?_
                  | (refine d_put rfl rfl rfl trivial ?hc ?_; (case hc => (first | (simp only [need, imp, needIf]; done) | ((try simp only [need, imp, needIf]); (repeat' apply And.intro) <;> (first | trivial | rfl | omega | (simp; done) | (simp; omega) | (intros; rfl) | (exact Nat.le_trans (Nat.mul_le_mul_right _ (show _ ≤ 100000000001 by omega)) (by decide)) | (intro hg_; first | exact hg_ | ((try simp only [decide_eq_true_eq] at hg_); (try rw [wi64 (by omega) (by omega)]); (repeat' apply And.intro) <;> (first | trivial | rfl | omega | (intros; rfl)))))))))
                  | refine d_nil ?_
                  | refine s_skip ?_
                  | refine s_block ?_
                  | refine s_exit ?_
                  | refine s_label ?_)
                refine ⟨(k + 1, t), ⟨by dsimp only; omega, hz⟩, by dsimp only; omega, ?_⟩
                (refine Le.of ?leT ?leM rfl; (case leT => repeat (first | exact trivial | refine And.intro (by first | exact rfl | (show some (none, AV.v (.int .i64 (IntKind.i64.wrap _))) = _; rw [wi64 (by omega) (by omega)]; rfl)) ?_)); (case leM => repeat (first | exact trivial | refine And.intro ⟨_, rfl, Blk.le_refl _⟩ ?_)))
        · have hge : k = n := by simp at hb; omega
          repeat (first
            | refine s_seq ?_
            | refine s_region ?_
            | refine o_val rfl rfl trivial trivial ?_
            | (refine o_val rfl rfl trivial ?hc ?_; (case hc => (first | (simp only [need, imp, needIf]; done) | ((try simp only [need, imp, needIf]); (repeat' apply And.intro) <;> (first | trivial | rfl | omega | (simp; done) | (simp; omega) | (intros; rfl) | (exact Nat.le_trans (Nat.mul_le_mul_right _ (show _ ≤ 100000000001 by omega)) (by decide)) | (intro hg_; first | exact hg_ | ((try simp only [decide_eq_true_eq] at hg_); (try rw [wi64 (by omega) (by omega)]); (repeat' apply And.intro) <;> (first | trivial | rfl | omega | (intros; rfl)))))))))
            | refine o_new rfl rfl rfl ⟨0, trivial⟩ trivial (fun _ _ => ?_)
            | (refine o_new rfl rfl rfl ⟨0, trivial⟩ ?hc (fun _ _ => ?_); (case hc => (first | (simp only [need, imp, needIf]; done) | ((try simp only [need, imp, needIf]); (repeat' apply And.intro) <;> (first | trivial | rfl | omega | (simp; done) | (simp; omega) | (intros; rfl) | (exact Nat.le_trans (Nat.mul_le_mul_right _ (show _ ≤ 100000000001 by omega)) (by decide)) | (intro hg_; first | exact hg_ | ((try simp only [decide_eq_true_eq] at hg_); (try rw [wi64 (by omega) (by omega)]); (repeat' apply And.intro) <;> (first | trivial | rfl | omega | (intros; rfl)))))))))
            | (refine o_new rfl rfl rfl ⟨(none, _), Nat.le_refl _⟩ ?hc (fun _ _ => ?_); (case hc => (first | (simp only [need, imp, needIf]; done) | ((try simp only [need, imp, needIf]); (repeat' apply And.intro) <;> (first | trivial | rfl | omega | (simp; done) | (simp; omega) | (intros; rfl) | (exact Nat.le_trans (Nat.mul_le_mul_right _ (show _ ≤ 100000000001 by omega)) (by decide)) | (intro hg_; first | exact hg_ | ((try simp only [decide_eq_true_eq] at hg_); (try rw [wi64 (by omega) (by omega)]); (repeat' apply And.intro) <;> (first | trivial | rfl | omega | (intros; rfl)))))))))
            | refine o_put rfl rfl rfl trivial trivial ?_
            | (refine o_put rfl rfl rfl trivial ?hc ?_; (case hc => (first | (simp only [need, imp, needIf]; done) | ((try simp only [need, imp, needIf]); (repeat' apply And.intro) <;> (first | trivial | rfl | omega | (simp; done) | (simp; omega) | (intros; rfl) | (exact Nat.le_trans (Nat.mul_le_mul_right _ (show _ ≤ 100000000001 by omega)) (by decide)) | (intro hg_; first | exact hg_ | ((try simp only [decide_eq_true_eq] at hg_); (try rw [wi64 (by omega) (by omega)]); (repeat' apply And.intro) <;> (first | trivial | rfl | omega | (intros; rfl)))))))))
            | refine o_nil ?_
            | refine d_val rfl rfl trivial trivial ?_
            | (refine d_val rfl rfl trivial ?hc ?_; (case hc => (first | (simp only [need, imp, needIf]; done) | ((try simp only [need, imp, needIf]); (repeat' apply And.intro) <;> (first | trivial | rfl | omega | (simp; done) | (simp; omega) | (intros; rfl) | (exact Nat.le_trans (Nat.mul_le_mul_right _ (show _ ≤ 100000000001 by omega)) (by decide)) | (intro hg_; first | exact hg_ | ((try simp only [decide_eq_true_eq] at hg_); (try rw [wi64 (by omega) (by omega)]); (repeat' apply And.intro) <;> (first | trivial | rfl | omega | (intros; rfl)))))))))
            | refine d_new rfl rfl rfl ⟨0, trivial⟩ trivial (fun _ _ => ?_)
            | (refine d_new rfl rfl rfl ⟨0, trivial⟩ ?hc (fun _ _ => ?_); (case hc => (first | (simp only [need, imp, needIf]; done) | ((try simp only [need, imp, needIf]); (repeat' apply And.intro) <;> (first | trivial | rfl | omega | (simp; done) | (simp; omega) | (intros; rfl) | (exact Nat.le_trans (Nat.mul_le_mul_right _ (show _ ≤ 100000000001 by omega)) (by decide)) | (intro hg_; first | exact hg_ | ((try simp only [decide_eq_true_eq] at hg_); (try rw [wi64 (by omega) (by omega)]); (repeat' apply And.intro) <;> (first | trivial | rfl | omega | (intros; rfl)))))))))
            | (refine d_new rfl rfl rfl ⟨(none, _), Nat.le_refl _⟩ ?hc (fun _ _ => ?_); (case hc => (first | (simp only [need, imp, needIf]; done) | ((try simp only [need, imp, needIf]); (repeat' apply And.intro) <;> (first | trivial | rfl | omega | (simp; done) | (simp; omega) | (intros; rfl) | (exact Nat.le_trans (Nat.mul_le_mul_right _ (show _ ≤ 100000000001 by omega)) (by decide)) | (intro hg_; first | exact hg_ | ((try simp only [decide_eq_true_eq] at hg_); (try rw [wi64 (by omega) (by omega)]); (repeat' apply And.intro) <;> (first | trivial | rfl | omega | (intros; rfl)))))))))
            | refine d_put rfl rfl rfl trivial trivial ?_
            | (refine d_put rfl rfl rfl trivial ?hc ?_; (case hc => (first | (simp only [need, imp, needIf]; done) | ((try simp only [need, imp, needIf]); (repeat' apply And.intro) <;> (first | trivial | rfl | omega | (simp; done) | (simp; omega) | (intros; rfl) | (exact Nat.le_trans (Nat.mul_le_mul_right _ (show _ ≤ 100000000001 by omega)) (by decide)) | (intro hg_; first | exact hg_ | ((try simp only [decide_eq_true_eq] at hg_); (try rw [wi64 (by omega) (by omega)]); (repeat' apply And.intro) <;> (first | trivial | rfl | omega | (intros; rfl)))))))))
            | refine d_nil ?_
            | refine s_skip ?_
            | refine s_block ?_
            | refine s_exit ?_
            | refine s_label ?_)
          refine s_ret ?_
          refine ⟨_, _, rfl, ⟨trivial, trivial⟩, rfl, ?_⟩
          rw [fin, hz, hge, Nat.sub_self]; rfl
    · cases h0
  · cases h0
theorem PowerR_body : HasBody Try.prog 15 := ⟨_, Try.func15, rfl, by decide⟩
end Go.Proofs.Ytofophjfgalhaaa.V
