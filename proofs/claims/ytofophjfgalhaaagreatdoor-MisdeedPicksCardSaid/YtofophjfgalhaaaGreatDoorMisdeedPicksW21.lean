import Derived.Test.YtofophjfgalhaaaGreatDoorMisdeedPicksW20
set_option linter.unusedVariables false
set_option linter.unusedSimpArgs false
/-! (*Hasher).Write, walked. -/
namespace Go.Proofs.YtofophjfgalhaaaGreatDoor.V
open Go Go.RowKit

/-- a slice's length is within its capacity -/
def capGe : AV → Prop
  | .gs _ _ _ _ _ len cap => len ≤ cap
  | .sl _ len cap => len ≤ cap
  | .v _ => True
  | _ => False
theorem cap_of {M : MemF} {X : AV} {c : Prop} {es n : Nat} {f : Nat → AV} (h : seqOf M X = some (c, es, n, f)) (hc : c) {base : Option (Nat × Nat)} {cap : Nat} (hv : X.val = slV base n cap) (hg : capGe X) : n ≤ cap := by
  unfold seqOf at h
  split at h
  · rw [gs_val] at hv
    unfold slV at hv
    injection hv with _ h2 h3
    have hg := hg
    unfold capGe at hg
    omega
  · rename_i p len cap0
    have hv : Value.slice (some p.addr) len cap0 = slV base n cap := hv
    unfold slV at hv
    injection hv with _ h2 h3
    have hg : len ≤ cap0 := hg
    omega
  · cases h; exact Nat.zero_le _
  · cases h
def writeC (_tag : Nat) (args : List AV) (M : MemF) : Option Res := match args with
  | [.ptr p, X] => match M p.n, seqOf M X, M 100004 with
    | some (.row b 342 75 1 f 1), some (c, es, n, fx), some (.var 4 (.ints .u32 64 K)) => match f 0 with
      | .agg (.cons (.v (.bool true)) (.cons (.ints .u32 8 ws) (.cons (.ints .u8 64 pt) (.cons (.v (.int .i64 (.ofNat h))) (.cons (.v (.int .u64 tk)) .nil))))) =>
        some ⟨Unit, (p.b = b ∧ p.o0 = 0 ∧ p.es = 75 ∧ p.idx = 0 ∧ p.off = 0 ∧ p.j = 0) ∧ (c ∧ (n ≠ 0 → es = 1) ∧ n < 4611686018427387904 ∧ ∀ i, i < n → fx i = .v (.int .u8 (fx i).int1)) ∧ h < 64 ∧ tagNe p.n X = true ∧ capGe X, fun _ => True, fun _ => .tup .nil, [p.n],
          fun _ => [.row b 342 75 1 (fun _ => hsAV true (ab K (fun i => (fx i).int1) n 0 ⟨ws, pt, h⟩).ws (ab K (fun i => (fx i).int1) n 0 ⟨ws, pt, h⟩).pt (ab K (fun i => (fx i).int1) n 0 ⟨ws, pt, h⟩).held (IntKind.u64.wrap (tk + IntKind.u64.wrap n))) 1]⟩
      | _ => none
    | _, _, _ => none
  | _ => none
def ctWr : CtL := [(216, goodC), (217, mixC)]
set_option maxRecDepth 100000 in
theorem ctWr_ok : CtLOk Tryz.prog ctWr := ⟨.fn good_body good_read, .fn mix_body mix_read, trivial⟩
set_option maxRecDepth 100000 in
set_option maxHeartbeats 16000000 in
theorem write_turn : TurnFn Tryz.prog 212 writeC := by
  intro tag args M r h0 hok O w0 w hS
  unfold writeC at h0
  split at h0
  · rename_i p X
    split at h0
    · rename_i bb f c es n fx K hM hsq hMK
      split at h0
      · rename_i ws pt h tk hf0
        cases h0
        obtain ⟨⟨p1, p2, p3, p4, p5, p6⟩, ⟨q1, q2, q3, q4⟩, hlt, htag, hcg⟩ := hok
        obtain ⟨base, cap, hv, hro⟩ := bytes_ro hS hsq q1 q2 q4
        obtain ⟨b, hb0⟩ : ∃ b, b = fun i => (fx i).int1 := ⟨_, rfl⟩
        rw [← hb0]
        have hro : (roB base 1 n fun i => .v (.int .u8 (b i))).holds w := by rw [hb0]; exact hro
        have hK := hS.holds _ _ hMK
        have hrow : RowHolds w bb 342 75 1 (fun _ => hsAV true ws pt h tk) 1 := RowHolds.weaken (hS.holds _ _ hM : RowHolds w bb 342 75 1 f 1) (Nat.le_refl _) (fun i hi => by
          have : i = 0 := by omega
          subst this; exact hf0.symm)
        have hpa : p = ⟨p.n, p.ix, bb, 0, 75, 0, 0, 0, p.lf⟩ := by
          obtain ⟨a1, a2, a3, a4, a5, a6, a7, a8, a9⟩ := p
          simp only at p1 p2 p3 p4 p5 p6
          subst p1 p2 p3 p4 p5 p6; rfl
        have hpv : (AV.ptr p).val = (AV.ptr ⟨900, 0, bb, 0, 75, 0, 0, 0, false⟩).val := by rw [hpa]; rfl
        rw [show [AV.ptr p, X].map AV.val = [AV.ptr ⟨900, 0, bb, 0, 75, 0, 0, 0, false⟩, roS 901 base 1 n cap].map AV.val by simp only [List.map_cons, List.map_nil, hpv, hv, roS_val]]
        refine turn_fn tabs ctWr_ok (cr := []) trivial Tryz.func212 rfl rfl hS _ [(900, .row bb 342 75 1 (fun _ => hsAV true ws pt h tk) 1), (901, roB base 1 n fun i => .v (.int .u8 (b i))), (100004, .var 4 (.ints .u32 64 K))] [(900, p.n)] [900] rfl ⟨hrow, hro, hK, trivial⟩ (fun n' B' k hn ho => ?_) (fun n' B' k hn hr => ?_) (fun a c n h1 h2 => ?_) (fun a n h => ?_) (by decide) rfl ?_
        · rw [Mem.get_cons] at hn
          split at hn
          · rename_i e; cases hn; subst e; exact ⟨p.n, _, .head _, hM, ho⟩
          · rw [Mem.get_cons] at hn
            split at hn
            · cases hn; exact (roB_noOwn k ho).elim
            · rw [Mem.get_cons] at hn
              split at hn
              · cases hn; cases ho
              · cases hn
        · intro n2 B2 n3 hin hM2 ho2
          simp at hin
          obtain ⟨_, rfl⟩ := hin
          rw [Mem.get_cons] at hn
          split at hn
          · cases hn; cases hr
          · rw [Mem.get_cons] at hn
            split at hn
            · cases hn
              obtain ⟨_, ix, o, hl, hbb⟩ := hr
              exact seq_apart hS hsq q1 (fun h => by rw [q2 h]; decide) hM2 htag hv (fun h0 => by have hl : 0 < n := hl; omega) hbb ho2
            · rw [Mem.get_cons] at hn
              split at hn
              · cases hn; exact hS.roapart _ _ _ _ _ hM2 hMK ho2 hr
              · cases hn
        · simp at h1 h2; rw [h1.1, h2.1]
        · simp at h; rw [h.2]; exact .head _
        repeat (first | refine s_seq ?_ | refine s_region ?_ | refine o_nil ?_ | refine d_nil ?_ | refine oA rfl rfl trivial ?_ | refine oB rfl rfl rfl (fun _ _ => ?_) | refine oC rfl rfl rfl trivial ?_ | refine dA rfl rfl trivial ?_ | refine dB rfl rfl rfl (fun _ _ => ?_) | refine dC rfl rfl rfl trivial ?_ | refine s_skip ?_ | refine s_block ?_ | refine s_exit ?_ | refine s_label ?_)
        refine s_cond (b := false) rfl (fun h1 => by cases h1) (fun _ => ?_)
        repeat (first | refine s_seq ?_ | refine s_region ?_ | refine o_nil ?_ | refine d_nil ?_ | refine oA rfl rfl trivial ?_ | refine oB rfl rfl rfl (fun _ _ => ?_) | refine oC rfl rfl rfl trivial ?_ | refine dA rfl rfl trivial ?_ | refine dB rfl rfl rfl (fun _ _ => ?_) | refine dC rfl rfl rfl trivial ?_ | refine s_skip ?_ | refine s_block ?_ | refine s_exit ?_ | refine s_label ?_)
        refine s_loopW (α := Hs × Nat × Nat × Nat) [1, 4, 5, 6, 7, 8, 9, 10, 11, 12, 13, 14, 15, 16, 17, 18, 19, 20, 21, 22, 23, 24, 25, 26, 27, 28, 29, 30, 31, 32, 33, 34, 35, 36, 37, 38, 39, 40, 41, 42, 43, 44, 45, 46, 47, 48, 49, 50, 51, 52, 53, 54, 55, 56, 57, 58, 59, 60, 61] [900] (fun x => x.1.held < 64 ∧ (x.2.2.1 ≠ 0 → x.2.1 + x.2.2.1 = n) ∧ x.2.2.1 ≤ x.2.2.2 ∧ x.2.2.1 ≤ n ∧ ab K b n 0 ⟨ws, pt, h⟩ = ab K b x.2.2.1 x.2.1 x.1) (fun x => [(1, none, .gs 901 0 base 1 x.2.1 x.2.2.1 x.2.2.2)])
          (fun x => [(900, .row bb 342 75 1 (fun _ => hsAV true x.1.ws x.1.pt x.1.held (IntKind.u64.wrap (tk + IntKind.u64.wrap n))) 1)]) (fun x => x.2.2.1) (⟨ws, pt, h⟩, 0, n, cap) ⟨hlt, fun _ => by dsimp only; omega, ?_, Nat.le_refl _, rfl⟩ ?_ ?_
        · exact cap_of hsq q1 hv hcg
        · (refine Le.of ?leT ?leM (by first | exact dfs_nil rfl rfl | exact rfl); (case leT => repeat (first | exact trivial | refine And.intro (by first | exact rfl | (show some (none, AV.v (.int .i64 (IntKind.i64.wrap _))) = _; rw [wi64 (by omega) (by omega)]; rfl)) ?_)); (case leM => repeat (first | exact trivial | refine And.intro ⟨_, rfl, Blk.le_refl _⟩ ?_)))
        · intro ⟨⟨ws2, pt2, h2⟩, i2, n2, c2⟩ ⟨v1, v2, v3, v4, v5⟩
          dsimp only at v1 v2 v3 v4 v5
          repeat (first | refine s_seq ?_ | refine s_region ?_ | refine o_nil ?_ | refine d_nil ?_ | refine oA rfl rfl trivial ?_ | refine oB rfl rfl rfl (fun _ _ => ?_) | refine oC rfl rfl rfl trivial ?_ | refine dA rfl rfl trivial ?_ | refine dB rfl rfl rfl (fun _ _ => ?_) | refine dC rfl rfl rfl trivial ?_ | refine s_skip ?_ | refine s_block ?_ | refine s_exit ?_ | refine s_label ?_)
          refine s_cond (b := decide ((n2 : Int) > 0)) rfl (fun hb2 => ?_) (fun hb2 => ?_)
          · have hn2 : 0 < n2 := by simp at hb2; omega
            have v2 := v2 (by omega)
            repeat (first | refine s_seq ?_ | refine s_region ?_ | refine o_nil ?_ | refine d_nil ?_ | refine oA rfl rfl trivial ?_ | refine oB rfl rfl rfl (fun _ _ => ?_) | refine oC rfl rfl rfl trivial ?_ | refine dA rfl rfl trivial ?_ | refine dB rfl rfl rfl (fun _ _ => ?_) | refine dC rfl rfl rfl trivial ?_ | refine s_skip ?_ | refine s_block ?_ | refine s_exit ?_ | refine s_label ?_)
            refine s_draw rD212_3 rM212_3 [(900, [9])] rN212_3 rfl rfl ?_
            repeat (first | refine s_seq ?_ | refine s_region ?_ | refine o_nil ?_ | refine d_nil ?_ | refine oA rfl rfl trivial ?_ | refine oB rfl rfl rfl (fun _ _ => ?_) | refine oC rfl rfl rfl trivial ?_ | refine dA rfl rfl trivial ?_ | refine dB rfl rfl rfl (fun _ _ => ?_) | refine dC rfl rfl rfl trivial ?_ | refine s_skip ?_ | refine s_block ?_ | refine s_exit ?_ | refine s_label ?_)
            obtain ⟨cc, hcc⟩ : ∃ cc, cc = Nat.min n2 (64 - h2) := ⟨_, rfl⟩
            have hc1 : cc ≤ n2 := by rw [hcc]; exact Nat.min_le_left _ _
            have hc2 : cc ≤ 64 - h2 := by rw [hcc]; exact Nat.min_le_right _ _
            have hc3 : 1 ≤ cc := by rw [hcc]; exact Nat.le_min.2 ⟨hn2, by omega⟩
            have hcut : 0 + cutOff (some (h2 : Int)) 64 h2 = h2 := by unfold cutOff; simp only; rw [if_neg (by omega)]; omega
            refine d_new rfl rfl rfl ⟨(), trivial⟩ ?hc (fun _ _ => ?_)
            case hc =>
              refine ⟨⟨rfl, rfl, rfl, Nat.zero_lt_one⟩, ?_, ⟨rfl, rfl, ?_⟩, fun _ => rfl, fun _ _ => rfl⟩
              · show 0 + cutOff (some (h2 : Int)) 64 h2 + (64 - h2) ≤ 64
                rw [hcut]; omega
              · show i2 + n2 ≤ n
                omega
            repeat (first | refine s_seq ?_ | refine s_region ?_ | refine o_nil ?_ | refine d_nil ?_ | refine oA rfl rfl trivial ?_ | refine oB rfl rfl rfl (fun _ _ => ?_) | refine oC rfl rfl rfl trivial ?_ | refine dA rfl rfl trivial ?_ | refine dB rfl rfl rfl (fun _ _ => ?_) | refine dC rfl rfl rfl trivial ?_ | refine s_skip ?_ | refine s_block ?_ | refine s_exit ?_ | refine s_label ?_)
            have hw : IntKind.i64.wrap ((h2 : Int) + ((Nat.min n2 (64 - h2) : Nat) : Int)) = ((h2 + cc : Nat) : Int) := by
              rw [← hcc, wi64 (by omega) (by omega)]; omega
            have hle : ∀ {tm0 : Tm} {M0 : Mem} {X0 : Cx}, tm0.get 0 = some (none, AV.ptr ⟨900, 0, bb, 0, 75, 0, 0, 0, false⟩) → tm0.get 1 = some (none, AV.gs 901 0 base 1 (cutOff (some ((Nat.min n2 (64 - h2) : Nat) : Int)) c2 (Nat.min n2 (64 - h2)) + i2) (n2 - Nat.min n2 (64 - h2)) (c2 - Nat.min n2 (64 - h2))) →
                M0.get 900 = some (.row bb 342 75 1 (fun _ => hsAV true ws2 (lcopy 64 pt2 (0 + cutOff (some (h2 : Int)) 64 h2) (Nat.min n2 (64 - h2)) fun j => b (j + i2)) (IntKind.i64.wrap ((h2 : Int) + ((Nat.min n2 (64 - h2) : Nat) : Int))) (IntKind.u64.wrap (tk + IntKind.u64.wrap n))) 1) →
                M0.get 901 = some (roB base 1 n fun i => .v (.int .u8 (b i))) → M0.get 100004 = some (.var 4 (.ints .u32 64 K)) → M0.dfs = [] →
                Le X0 tm0 M0 [(0, none, AV.ptr ⟨900, 0, bb, 0, 75, 0, 0, 0, false⟩), (1, none, AV.gs 901 0 base 1 (cutOff (some (cc : Int)) c2 cc + i2) (n2 - cc) (c2 - cc))]
                  [(900, .row bb 342 75 1 (fun _ => hsAV true ws2 (lcopy 64 pt2 h2 cc fun j => b (j + i2)) ((h2 + cc : Nat) : Int) (IntKind.u64.wrap (tk + IntKind.u64.wrap n))) 1), (901, roB base 1 n fun i => .v (.int .u8 (b i))), (100004, .var 4 (.ints .u32 64 K))] := by
              intro tm0 M0 X0 e0 e1 e2 e3 e4 e5
              rw [← hcc] at e1
              rw [hw, hcut, ← hcc] at e2
              exact Le.of ⟨e0, e1, trivial⟩ ⟨⟨_, e2, Blk.le_refl _⟩, ⟨_, e3, Blk.le_refl _⟩, ⟨_, e4, Blk.le_refl _⟩, trivial⟩ (by rw [e5]; rfl)
            have hbool : (IntKind.i64.wrap ((h2 : Int) + ((Nat.min n2 (64 - h2) : Nat) : Int)) == 64) = decide (h2 + cc = 64) := by
              rw [hw]
              by_cases e : h2 + cc = 64
              · rw [e]; rfl
              · rw [decide_eq_false e]
                simp
                omega
            have hoff : n2 - cc ≠ 0 → cutOff (some (cc : Int)) c2 cc + i2 + (n2 - cc) = n := fun h0 => by
              unfold cutOff; simp only; rw [if_neg (by omega)]; omega
            have hnext : ab K b n 0 ⟨ws, pt, h⟩ = ab K b (n2 - cc) (cutOff (some (cc : Int)) c2 cc + i2) (full K ws2 (lcopy 64 pt2 h2 cc fun j => b (j + i2)) (h2 + cc)) := by
              have e1 := ab_chunk K b (cc - 1) (n2 - cc) i2 ws2 pt2 h2 (by omega)
              rw [show cc - 1 + 1 = cc by omega, show n2 - cc + cc = n2 by omega] at e1
              rw [v5, e1]
              rcases Nat.eq_zero_or_pos (n2 - cc) with h0 | h0
              · rw [h0]; rfl
              · have : cutOff (some (cc : Int)) c2 cc + i2 = i2 + cc := by unfold cutOff; simp only; rw [if_neg (by omega)]; omega
                rw [this]
            refine s_cond (b := decide (h2 + cc = 64)) (by rw [← hbool]; rfl) (fun hb3 => ?_) (fun hb3 => ?_)
            · refine s_le (hle rfl rfl rfl rfl rfl rfl) ?_
              repeat (first | refine s_seq ?_ | refine s_region ?_ | refine o_nil ?_ | refine d_nil ?_ | refine oA rfl rfl trivial ?_ | refine oB rfl rfl rfl (fun _ _ => ?_) | refine oC rfl rfl rfl trivial ?_ | refine dA rfl rfl trivial ?_ | refine dB rfl rfl rfl (fun _ _ => ?_) | refine dC rfl rfl rfl trivial ?_ | refine s_skip ?_ | refine s_block ?_ | refine s_exit ?_ | refine s_label ?_)
              refine s_draw rD212_7 rM212_7 [(900, [13, 16])] rN212_7 rfl rfl ?_
              repeat (first | refine s_seq ?_ | refine s_region ?_ | refine o_nil ?_ | refine d_nil ?_ | refine oA rfl rfl trivial ?_ | refine oB rfl rfl rfl (fun _ _ => ?_) | refine oC rfl rfl rfl trivial ?_ | refine dA rfl rfl trivial ?_ | refine dB rfl rfl rfl (fun _ _ => ?_) | refine dC rfl rfl rfl trivial ?_ | refine s_skip ?_ | refine s_block ?_ | refine s_exit ?_ | refine s_label ?_)
              have hfull : full K ws2 (lcopy 64 pt2 h2 cc fun j => b (j + i2)) (h2 + cc) = ⟨mixF K ws2 (lcopy 64 pt2 h2 cc fun j => b (j + i2)), lcopy 64 pt2 h2 cc fun j => b (j + i2), 0⟩ := by
                unfold full; rw [if_pos (by simpa using hb3)]
              rw [hfull] at hnext
              refine ⟨(⟨mixF K ws2 (lcopy 64 pt2 h2 cc fun j => b (j + i2)), lcopy 64 pt2 h2 cc fun j => b (j + i2), 0⟩, cutOff (some (cc : Int)) c2 cc + i2, n2 - cc, c2 - cc), ⟨by dsimp only; omega, hoff, by dsimp only; omega, by dsimp only; omega, hnext⟩, by dsimp only; omega, ?_⟩
              (refine Le.of ?leT ?leM (by first | exact dfs_nil rfl rfl | exact rfl); (case leT => repeat (first | exact trivial | refine And.intro (by first | exact rfl | (show some (none, AV.v (.int .i64 (IntKind.i64.wrap _))) = _; rw [wi64 (by omega) (by omega)]; rfl)) ?_)); (case leM => repeat (first | exact trivial | refine And.intro ⟨_, rfl, Blk.le_refl _⟩ ?_)))
            · refine s_le (hle rfl rfl rfl rfl rfl rfl) ?_
              have hfull : full K ws2 (lcopy 64 pt2 h2 cc fun j => b (j + i2)) (h2 + cc) = ⟨ws2, lcopy 64 pt2 h2 cc fun j => b (j + i2), h2 + cc⟩ := by
                unfold full; rw [if_neg (by simpa using hb3)]
              rw [hfull] at hnext
              have hne64 : h2 + cc ≠ 64 := by simpa using hb3
              repeat (first | refine s_seq ?_ | refine s_region ?_ | refine o_nil ?_ | refine d_nil ?_ | refine oA rfl rfl trivial ?_ | refine oB rfl rfl rfl (fun _ _ => ?_) | refine oC rfl rfl rfl trivial ?_ | refine dA rfl rfl trivial ?_ | refine dB rfl rfl rfl (fun _ _ => ?_) | refine dC rfl rfl rfl trivial ?_ | refine s_skip ?_ | refine s_block ?_ | refine s_exit ?_ | refine s_label ?_)
              refine ⟨(⟨ws2, lcopy 64 pt2 h2 cc fun j => b (j + i2), h2 + cc⟩, cutOff (some (cc : Int)) c2 cc + i2, n2 - cc, c2 - cc), ⟨by dsimp only; omega, hoff, by dsimp only; omega, by dsimp only; omega, hnext⟩, by dsimp only; omega, ?_⟩
              (refine Le.of ?leT ?leM (by first | exact dfs_nil rfl rfl | exact rfl); (case leT => repeat (first | exact trivial | refine And.intro (by first | exact rfl | (show some (none, AV.v (.int .i64 (IntKind.i64.wrap _))) = _; rw [wi64 (by omega) (by omega)]; rfl)) ?_)); (case leM => repeat (first | exact trivial | refine And.intro ⟨_, rfl, Blk.le_refl _⟩ ?_)))
          · have hn2 : n2 = 0 := by simp at hb2; omega
            subst hn2
            repeat (first | refine s_seq ?_ | refine s_region ?_ | refine o_nil ?_ | refine d_nil ?_ | refine oA rfl rfl trivial ?_ | refine oB rfl rfl rfl (fun _ _ => ?_) | refine oC rfl rfl rfl trivial ?_ | refine dA rfl rfl trivial ?_ | refine dB rfl rfl rfl (fun _ _ => ?_) | refine dC rfl rfl rfl trivial ?_ | refine s_skip ?_ | refine s_block ?_ | refine s_exit ?_ | refine s_label ?_)
            refine ⟨_, _, rfl, trivial, rfl, (), trivial, rfl, ⟨⟨_, rfl, ?_⟩, fun _ h => h⟩, trivial⟩
            rw [v5]
            exact Blk.le_refl _
      · cases h0
    · cases h0
  · cases h0
end Go.Proofs.YtofophjfgalhaaaGreatDoor.V
/-! What Sum comes to. -/
namespace Go.Proofs.YtofophjfgalhaaaGreatDoor.V
open Go Go.RowKit

def zN (h : Nat) : Nat := (120 - h) % 64
def tailB (nb : Int) (i : Int) : Int := IntKind.u8.wrap (nb.fdiv (2 ^ min (i64 (56 - i64 (8 * i))).toNat 64))
def tl (nb : Int) : Nat → Nat → List Int → List Int
  | 0, _, l => l
  | n + 1, k, l => tl nb n (k + 1) (pI 8 l k (tailB nb k))
def outB (w k : Int) : Int := IntKind.u8.wrap (w.fdiv (2 ^ min (i64 (24 - i64 (8 * k))).toNat 32))
def out4 (w i : Int) : Nat → Nat → List Int → List Int
  | 0, _, l => l
  | n + 1, k, l => out4 w i n (k + 1) (pI 32 l (i64 (i64 (4 * i) + k)) (outB w k))
def out8 (ws : List Int) : Nat → Nat → List Int → List Int
  | 0, _, l => l
  | n + 1, k, l => out8 ws n (k + 1) (out4 (ws.getD k 0) k 4 0 l)
def tailL (tk : Int) : List Int := tl (IntKind.u64.wrap (tk * 8)) 8 0 (zs 8)
def pad1 (K : List Int) (s : Hs) : Hs := ab K (fun _ => 0) (zN (stp K s 128).held) 0 (stp K s 128)
def pad2 (K : List Int) (s : Hs) (tk : Int) : Hs := ab K (fun i => (tailL tk).getD i 0) 8 0 (pad1 K s)
def sumF (K : List Int) (s : Hs) (tk : Int) : List Int := out8 (pad2 K s tk).ws 8 0 (zs 32)

theorem stp_held (K : List Int) (s : Hs) (x : Int) (h : s.held < 64) : (stp K s x).held = (s.held + 1) % 64 := by
  unfold stp full
  split
  · rename_i e; rw [e]
  · show s.held + 1 = _; omega
theorem stp_lt (K : List Int) (s : Hs) (x : Int) (h : s.held < 64) : (stp K s x).held < 64 := by rw [stp_held K s x h]; omega
theorem ab_lt (K : List Int) (b : Nat → Int) : ∀ (n i : Nat) (s : Hs), s.held < 64 → (ab K b n i s).held < 64
  | 0, _, _, h => h
  | n + 1, i, s, h => ab_lt K b n (i + 1) _ (stp_lt K s _ h)

theorem ab_const (K : List Int) (z : Int) : ∀ (n i j : Nat) (s : Hs), ab K (fun _ => z) n i s = ab K (fun _ => z) n j s
  | 0, _, _, _ => rfl
  | n + 1, i, j, s => ab_const K z n (i + 1) (j + 1) _
theorem zN_stp (K : List Int) (s : Hs) (h : s.held < 64) (hne : s.held ≠ 56) : zN s.held = zN (stp K s 0).held + 1 := by
  rw [stp_held K s 0 h]
  unfold zN
  omega
theorem sh_ok {k : Nat} (h : k < 4) : (0 : Int) ≤ IntKind.i64.wrap (24 - IntKind.i64.wrap (8 * (k : Int))) := by
  rw [wi64 (n := 8 * (k : Int)) (by omega) (by omega), wi64 (by omega) (by omega)]; omega
theorem ix_ok {k j : Nat} (h : k < 8) (h2 : j < 4) : (0 : Int) ≤ IntKind.i64.wrap (IntKind.i64.wrap (4 * (k : Int)) + (j : Int)) ∧ IntKind.i64.wrap (IntKind.i64.wrap (4 * (k : Int)) + (j : Int)) < 32 := by
  rw [wi64 (n := 4 * (k : Int)) (by omega) (by omega), wi64 (by omega) (by omega)]; omega
def digF (K B0 : List Int) (b : Nat → Int) (n : Nat) : List Int := sumF K (ab K b n 0 ⟨B0, zs 64, 0⟩) (IntKind.u64.wrap (0 + IntKind.u64.wrap n))
end Go.Proofs.YtofophjfgalhaaaGreatDoor.V
