import Derived.Test.YtofophjfgalhaaaGreatDoorMisdeedPoolsW08
import Derived.Test.YtofophjfgalhaaaGreatDoorMisdeedPoolsW09
import Derived.Test.YtofophjfgalhaaaGreatDoorMisdeedPoolsW17
import Derived.Test.YtofophjfgalhaaaGreatDoorMisdeedPoolsW18
import Derived.Test.YtofophjfgalhaaaGreatDoorMisdeedPoolsW19
import Derived.Test.YtofophjfgalhaaaGreatDoorMisdeedPoolsW22
import Derived.KernelRfl
set_option linter.unusedVariables false
set_option linter.unusedSimpArgs false
set_option maxRecDepth 100000
set_option maxHeartbeats 8000000
namespace Go.Proofs.YtofophjfgalhaaaGreatDoor.V
open Go Go.RowKit
def hdP (a : Int) (k : Nat) : List Int := (List.range k).map fun (i : Nat) => tailB a i
theorem hdP_length (a : Int) (k : Nat) : (hdP a k).length = k := by unfold hdP; simp
theorem hdP_succ (a : Int) (k : Nat) : hdP a (k + 1) = hdP a k ++ [tailB a k] := by unfold hdP; rw [List.range_succ, List.map_append]; rfl
def lof (b : Nat → Int) (n : Nat) : List Int := (List.range n).map b
@[simp] theorem lof_length (b : Nat → Int) (n : Nat) : (lof b n).length = n := by unfold lof; simp
theorem lof_get (b : Nat → Int) {n i : Nat} (h : i < n) : lb (lof b n) i = b i := by
 unfold lb lof; rw [List.getD_eq_getElem?_getD, List.getElem?_map, List.getElem?_range h]; rfl
def sealL (a : Int) (b : Nat → Int) (n : Nat) : List Int := hdP a 8 ++ lof b n
def seaF (K B0 : List Int) (a : Int) (b : Nat → Int) (n : Nat) : List Int := lcopy 16 (zs 16) 0 16 fun i => (digF K B0 (lb (sealL a b n)) (8 + n)).getD i 0
def seaC (args : List AV) (M : MemF) : Option (Prop × AV) := match args, M 100003, M 100004 with
 | [.v (.int .u64 a), X], some (.var 3 (.ints .u32 8 B0)), some (.var 4 (.ints .u32 64 K)) => match seqOf M X with
  | some (c2, es2, n2, fx) => some (c2 ∧ (n2 ≠ 0 → es2 = 1) ∧ n2 ≤ 2000000 ∧ ∀ i, i < n2 → fx i = .v (.int .u8 (fx i).int1), .ints .u8 16 (seaF K B0 a (fun i => (fx i).int1) n2))
  | none => none
 | _, _, _ => none
def ctSe : CtL := [(158, dsumC)]
theorem ctSe_ok : CtLOk Tryz.prog ctSe := ⟨.fn dsum_body dsum_read, trivial⟩
theorem sea_read : ReadFn Tryz.prog 113 seaC := by
 intro args M q res h0 hq O w0 w hS
 unfold seaC at h0
 split at h0
 ·
  rename_i a X B0 K hM3 hM4
  split at h0
  ·
   rename_i c2 es2 n fx hsx
   cases h0
   obtain ⟨q1, q2, q3, q4⟩ := hq
   obtain ⟨base, cap, hv, hro⟩ := bytes_ro hS hsx q1 q2 q4
   obtain ⟨b, hb0⟩ : ∃ b, b = fun i => (fx i).int1 := ⟨_, rfl⟩
   rw [← hb0]
   have hro : (roB base 1 n fun i => .v (.int .u8 (b i))).holds w := by rw [hb0]; exact hro
   have hB := hS.holds _ _ hM3
   have hK := hS.holds _ _ hM4
   have hw8 : IntKind.i64.wrap (8 + (n : Int)) = ((8 + n : Nat) : Int) := by rw [wi64 (by omega) (by omega)]; omega
   rw [show [.v (.int .u64 a), X].map AV.val = [.v (.int .u64 a), roS 901 base 1 n cap].map AV.val by simp only [List.map_cons, List.map_nil, hv, roS_val]]
   refine ro_fn tabs ctSe_ok (cr := []) trivial Tryz.func113 rfl rfl (M := [(901, roB base 1 n fun i => .v (.int .u8 (b i))), (100003, .var 3 (.ints .u32 8 B0)), (100004, .var 4 (.ints .u32 64 K))]) rfl ⟨roB_noOwn, fun _ h => h, fun _ h => h, trivial⟩ ⟨hro, hB, hK, trivial⟩ ?_
   repeat (first | refine qs_ ?_ | refine qa_ ?_ | refine qo_ ?_ | refine qd_ ?_ | refine za ?_ | refine zb fun _ _ => ?_ | refine zc ?_ | refine ya ?_ | refine yb fun _ _ => ?_ | refine yc ?_ | refine qk_ ?_ | refine qb_ ?_ | refine qx_ ?_)
   rename_i b4 _
   refine o_new rfl rfl rfl ⟨0, trivial⟩ ?hc (fun b11 _ => ?_)
   case hc =>
    refine ⟨Int.le_refl _, ?_, ?_, ?_⟩
    ·
     rw [hw8]; omega
    ·
     show (1 : Int) * _ ≤ _
     rw [hw8]; omega
    ·
     rw [hw8]; omega
   repeat (first | refine qs_ ?_ | refine qa_ ?_ | refine qo_ ?_ | refine qd_ ?_ | refine za ?_ | refine zb fun _ _ => ?_ | refine zc ?_ | refine ya ?_ | refine yb fun _ _ => ?_ | refine yc ?_ | refine qk_ ?_ | refine qb_ ?_ | refine qx_ ?_)
   refine s_loopW (α := Nat × Option Nat × Nat) [5, 6, 12, 13, 14, 15, 16, 17, 18, 19, 20, 21, 22, 23, 24] [11] (fun x => x.1 ≤ 8) (fun x => [(5, none, .gs 11 0 (ownB x.2.1) 1 0 x.1 x.2.2), (12, none, .v (.int .i64 x.1))]) (fun x => [(11, .vrow x.2.1 5 1 x.1 (vl (hdP a x.1)) x.2.2)]) (fun x => 8 - x.1) (0, some b11, (IntKind.i64.wrap (8 + (n : Int))).toNat) (Nat.zero_le _) ?_ ?_
   ·
    refine Le.of ?leT ?leM (dfs_nil rfl rfl)
    case leT => repeat (first | exact trivial | refine And.intro (by exact rfl) ?_)
    case leM => (refine And.intro ⟨_, rfl, Blk.le_vrow (Nat.le_refl _) fun i hi => (by cases hi)⟩ ?_); repeat (first | exact trivial | refine And.intro ⟨_, rfl, Blk.le_refl _⟩ ?_)
   ·
    intro ⟨k, a1, cp⟩ hk
    dsimp only at hk
    repeat (first | refine qs_ ?_ | refine qa_ ?_ | refine qo_ ?_ | refine qd_ ?_ | refine za ?_ | refine zb fun _ _ => ?_ | refine zc ?_ | refine ya ?_ | refine yb fun _ _ => ?_ | refine yc ?_ | refine qk_ ?_ | refine qb_ ?_ | refine qx_ ?_)
    refine s_cond (b := decide ((k : Int) < 8)) rfl (fun hb2 => ?_) (fun hb2 => ?_)
    ·
     have hk8 : k < 8 := by have := of_decide_eq_true hb2; omega
     repeat (first | refine qs_ ?_ | refine qa_ ?_ | refine qo_ ?_ | refine qd_ ?_ | refine za ?_ | refine zb fun _ _ => ?_ | refine zc ?_ | refine ya ?_ | refine yb fun _ _ => ?_ | refine yc ?_ | refine qk_ ?_ | refine qb_ ?_ | refine qx_ ?_)
     rename_i _ _ y hy
     have hfx : ∀ i, i < k + 1 → fapp k (vl (hdP a k)) (fun i => (AV.cons (.v (.int .u8 (tailB a k))) .nil).nthA (i + 0)) i = vl (hdP a (k + 1)) i := by
      intro i hi
      rw [hdP_succ]
      have := fapp_vl (l := hdP a k) (m := [tailB a k]) (f := vl (hdP a k)) (fun _ _ => rfl) (one_vl (tailB a k) .nil) i (by rw [List.length_append, hdP_length]; exact hi)
      rw [hdP_length] at this
      exact this
     refine ⟨(k + 1, y.1, y.2), by dsimp only; omega, by dsimp only; omega, ?_⟩
     refine Le.of ?leT ?leM (dfs_nil rfl rfl)
     case leT => repeat (first | exact trivial | refine And.intro (by first | exact rfl | (show some (none, AV.v (.int .i64 (IntKind.i64.wrap _))) = _; rw [wi64 (by omega) (by omega)]; rfl)) ?_)
     case leM => (refine And.intro ⟨_, rfl, Blk.le_vrow (Nat.le_refl _) fun i hi => (hfx i hi).symm⟩ ?_); repeat (first | exact trivial | refine And.intro ⟨_, rfl, Blk.le_refl _⟩ ?_)
    ·
     have hk8 : k = 8 := by have := of_decide_eq_false hb2; omega
     subst hk8
     repeat (first | refine qs_ ?_ | refine qa_ ?_ | refine qo_ ?_ | refine qd_ ?_ | refine za ?_ | refine zb fun _ _ => ?_ | refine zc ?_ | refine ya ?_ | refine yb fun _ _ => ?_ | refine yc ?_ | refine qk_ ?_ | refine qb_ ?_ | refine qx_ ?_)
     rename_i y hy
     have hy : 8 + n ≤ y.2 := hy
     have hfx : ∀ i, i < 8 + n → fapp 8 (vl (hdP a 8)) (fun i => .v (.int .u8 (b (i + 0)))) i = vl (sealL a b n) i := by
      intro i hi
      have := fapp_vl (l := hdP a 8) (m := lof b n) (f := vl (hdP a 8)) (src := fun i => .v (.int .u8 (b (i + 0)))) (fun _ _ => rfl) (fun i hi => by
       unfold vl; rw [lof_get b (by rw [lof_length] at hi; exact hi)]; rfl) i (by rw [List.length_append, hdP_length, lof_length]; exact hi)
      rw [hdP_length] at this
      exact this
     refine o_le (tm' := [(4, none, .ptr ⟨4, 0, b4, 0, 16, 0, 0, 0, false⟩), (27, none, .gs 11 0 (ownB y.1) 1 0 (8 + n) y.2)]) (M' := [(11, .vrow y.1 5 1 (8 + n) (vl (sealL a b n)) y.2), (4, .row b4 41 16 1 (fun _ => .ints .u8 16 (zs 16)) 1), (100003, .var 3 (.ints .u32 8 B0)), (100004, .var 4 (.ints .u32 64 K))]) ?_ ?_
     ·
      refine Le.of ?leT ?leM (dfs_nil rfl rfl)
      case leT => repeat (first | exact trivial | refine And.intro (by exact rfl) ?_)
      case leM => (refine And.intro ⟨_, rfl, Blk.le_vrow (Nat.le_refl _) fun i hi => (hfx i hi).symm⟩ ?_); repeat (first | exact trivial | refine And.intro ⟨_, rfl, Blk.le_refl _⟩ ?_)
     repeat (first | refine qs_ ?_ | refine qa_ ?_ | refine qo_ ?_ | refine qd_ ?_ | refine za ?_ | refine zb fun _ _ => ?_ | refine zc ?_ | refine ya ?_ | refine yb fun _ _ => ?_ | refine yc ?_ | refine qk_ ?_ | refine qb_ ?_ | refine qx_ ?_)
     refine s_draw rD113_8 rM113_8 [(4, [2])] rN113_8 rfl rfl ?_
     repeat (first | refine qs_ ?_ | refine qa_ ?_ | refine qo_ ?_ | refine qd_ ?_ | refine za ?_ | refine zb fun _ _ => ?_ | refine zc ?_ | refine ya ?_ | refine yb fun _ _ => ?_ | refine yc ?_ | refine qk_ ?_ | refine qb_ ?_ | refine qx_ ?_)
     refine s_ret ?_
     exact ⟨_, _, rfl, ⟨⟨⟨rfl, rfl, rfl, Nat.zero_lt_one⟩, rfl⟩, trivial⟩, rfl, rfl⟩
  ·
   cases h0
 ·
  cases h0
theorem sea_body : HasBody Tryz.prog 113 := ⟨_, Tryz.func113, rfl, by decide⟩
def of16 (h : List Int) : Nat → Nat → List Int → List Int
 | 0, _, l => l
 | n + 1, i, l => of16 h n (i + 1) (pI 16 l i (aI h i))
def ofF (K B0 : List Int) (a : Int) (b : Nat → Int) (n : Nat) : List Int := of16 (refF K B0 (lb (sealL a b n)) (8 + n)) 16 0 (zs 16)
def ofC (args : List AV) (M : MemF) : Option (Prop × AV) := match args, M 100002 with
 | [.v (.int .u64 a), X], some (.var 2 (.ints .u32 64 K)) => match seqOf M X with
  | some (c2, es2, n2, fx) => some (c2 ∧ (n2 ≠ 0 → es2 = 1) ∧ n2 ≤ 2000000 ∧ ∀ i, i < n2 → fx i = .v (.int .u8 (fx i).int1), .ints .u8 16 (ofF K b0L a (fun i => (fx i).int1) n2))
  | none => none
 | _, _ => none
def ctOf_ : CtL := [(167, rsumC)]
theorem ctOf_ok : CtLOk Tryz.prog ctOf_ := ⟨.fn rsum_body rsum_read, trivial⟩
theorem of_read : ReadFn Tryz.prog 127 ofC := by
 intro args M q res h0 hq O w0 w hS
 unfold ofC at h0
 split at h0
 ·
  rename_i a X K hM2
  split at h0
  ·
   rename_i c2 es2 n fx hsx
   cases h0
   obtain ⟨q1, q2, q3, q4⟩ := hq
   obtain ⟨base, cap, hv, hro⟩ := bytes_ro hS hsx q1 q2 q4
   obtain ⟨b, hb0⟩ : ∃ b, b = fun i => (fx i).int1 := ⟨_, rfl⟩
   rw [← hb0]
   have hro : (roB base 1 n fun i => .v (.int .u8 (b i))).holds w := by rw [hb0]; exact hro
   have hK := hS.holds _ _ hM2
   rw [show [.v (.int .u64 a), X].map AV.val = [.v (.int .u64 a), roS 901 base 1 n cap].map AV.val by simp only [List.map_cons, List.map_nil, hv, roS_val]]
   refine ro_fn tabs ctOf_ok (cr := []) trivial Tryz.func127 rfl rfl (M := [(901, roB base 1 n fun i => .v (.int .u8 (b i))), (100002, .var 2 (.ints .u32 64 K))]) rfl ⟨roB_noOwn, fun _ h => h, trivial⟩ ⟨hro, hK, trivial⟩ ?_
   repeat (first | refine qs_ ?_ | refine qa_ ?_ | refine qo_ ?_ | refine qd_ ?_ | refine za ?_ | refine zb fun _ _ => ?_ | refine zc ?_ | refine ya ?_ | refine yb fun _ _ => ?_ | refine yc ?_ | refine qk_ ?_ | refine qb_ ?_ | refine qx_ ?_)
   rename_i b4 _
   refine s_le (le_nil (t := 5) (n := 22) 5 1 (vl []) rfl rfl) ?_
   refine s_loopW (α := Nat × List Int × Option Nat × Nat) [5, 6, 10, 11, 12, 13, 14, 15, 16, 17, 18, 19, 20, 21, 22] [22] (fun x => x.1 ≤ 8 ∧ tailsR a x.1 x.2.1 = tailsR a 8 [] ∧ x.2.1.length ≤ x.2.2.2) (fun x => [(5, none, .gs 22 0 (ownB x.2.2.1) 1 0 x.2.1.length x.2.2.2), (6, none, .v (.int .i64 ((x.1 : Int) - 1)))]) (fun x => [(22, .vrow x.2.2.1 5 1 x.2.1.length (vl x.2.1) x.2.2.2)]) (fun x => x.1) (8, [], none, 0) ⟨Nat.le_refl _, rfl, Nat.le_refl _⟩ ?_ ?_
   ·
    exact leQ
   ·
    intro ⟨k, l2, a2, cp2⟩ ⟨hk, hz3, hcp2⟩
    dsimp only at hk hz3 hcp2
    have hll2 : l2.length + k = 8 := by
     have h1 := tailsR_length a k l2
     rw [hz3, tailsR_length] at h1
     simpa using h1.symm
    repeat (first | refine qs_ ?_ | refine qa_ ?_ | refine qo_ ?_ | refine qd_ ?_ | refine za ?_ | refine zb fun _ _ => ?_ | refine zc ?_ | refine ya ?_ | refine yb fun _ _ => ?_ | refine yc ?_ | refine qk_ ?_ | refine qb_ ?_ | refine qx_ ?_)
    refine s_cond (b := decide ((k : Int) - 1 ≥ 0)) rfl (fun hb3 => ?_) (fun hb3 => ?_)
    ·
     obtain ⟨k, rfl⟩ : ∃ k', k = k' + 1 := ⟨k - 1, by have := of_decide_eq_true hb3; omega⟩
     repeat (first | refine qs_ ?_ | refine qa_ ?_ | refine qo_ ?_ | refine qd_ ?_ | refine za ?_ | refine zb fun _ _ => ?_ | refine zc ?_ | refine ya ?_ | refine yb fun _ _ => ?_ | refine yc ?_ | refine qk_ ?_ | refine qb_ ?_ | refine qx_ ?_)
     refine o_val rfl rfl trivial ⟨trivial, trivial, wrap_u64_nonneg _⟩ ?_
     repeat (first | refine qs_ ?_ | refine qa_ ?_ | refine qo_ ?_ | refine qd_ ?_ | refine za ?_ | refine zb fun _ _ => ?_ | refine zc ?_ | refine ya ?_ | refine yb fun _ _ => ?_ | refine yc ?_ | refine qk_ ?_ | refine qb_ ?_ | refine qx_ ?_)
     rename_i _ _ y3 hy3
     refine ⟨(k, l2 ++ [tbR a (((k + 1 : Nat) : Int) - 1)], y3.1, y3.2), ⟨by dsimp only; omega, hz3, by dsimp only; rw [List.length_append]; exact hy3⟩, by dsimp only; omega, ?_⟩
     refine Le.of ?leT ?leM (dfs_nil rfl rfl)
     case leT => (refine And.intro (gs_len (by rw [List.length_append]; rfl)) ?_); (refine And.intro (by show some (none, AV.v (.int .i64 (IntKind.i64.wrap (((k + 1 : Nat) : Int) - 1 - 1)))) = some (none, AV.v (.int .i64 ((k : Int) - 1))); rw [wi64 (by omega) (by omega), show ((k + 1 : Nat) : Int) - 1 - 1 = (k : Int) - 1 by omega]) ?_); repeat (first | exact trivial | refine And.intro (by exact rfl) ?_)
     case leM => (refine And.intro ⟨_, rfl, Blk.le_vrow (by rw [List.length_append]; exact Nat.le_refl _) fun i hi => (fapp_vl (fun _ _ => rfl) (one_vl _ _) i hi).symm⟩ ?_); repeat (first | exact trivial | refine And.intro ⟨_, rfl, Blk.le_refl _⟩ ?_)
    ·
     have hk0 : k = 0 := by have := of_decide_eq_false hb3; omega
     subst hk0
     have hl2 : l2 = hdP a 8 := by
      have : l2 = tailsR a 8 [] := hz3
      rw [this, tailsR8, ← tail_eq]; rfl
     subst hl2
     repeat (first | refine qs_ ?_ | refine qa_ ?_ | refine qo_ ?_ | refine qd_ ?_ | refine za ?_ | refine zb fun _ _ => ?_ | refine zc ?_ | refine ya ?_ | refine yb fun _ _ => ?_ | refine yc ?_ | refine qk_ ?_ | refine qb_ ?_ | refine qx_ ?_)
     rename_i y hy
     have hy : 8 + n ≤ y.2 := by
      have : (hdP a 8).length + n ≤ y.2 := hy
      rw [hdP_length] at this; exact this
     have hfx : ∀ i, i < 8 + n → fapp (hdP a 8).length (vl (hdP a 8)) (fun i => .v (.int .u8 (b (i + 0)))) i = vl (sealL a b n) i := by
      intro i hi
      exact fapp_vl (l := hdP a 8) (m := lof b n) (f := vl (hdP a 8)) (src := fun i => .v (.int .u8 (b (i + 0)))) (fun _ _ => rfl) (fun i hi => by
       unfold vl; rw [lof_get b (by rw [lof_length] at hi; exact hi)]; rfl) i (by rw [List.length_append, hdP_length, lof_length]; exact hi)
     refine o_le (tm' := [(26, none, .gs 22 0 (ownB y.1) 1 0 (8 + n) y.2), (4, none, .ptr ⟨4, 0, b4, 0, 16, 0, 0, 0, false⟩)]) (M' := [(22, .vrow y.1 5 1 (8 + n) (vl (sealL a b n)) y.2), (4, .row b4 41 16 1 (fun _ => .ints .u8 16 (zs 16)) 1), (100002, .var 2 (.ints .u32 64 K))]) ?_ ?_
     ·
      refine Le.of ?leT ?leM (dfs_nil rfl rfl)
      case leT => (refine And.intro (gs_len (by rw [hdP_length])) ?_); repeat (first | exact trivial | refine And.intro (by exact rfl) ?_)
      case leM => (refine And.intro ⟨_, rfl, Blk.le_vrow (by rw [hdP_length]; exact Nat.le_refl _) fun i hi => (hfx i hi).symm⟩ ?_); repeat (first | exact trivial | refine And.intro ⟨_, rfl, Blk.le_refl _⟩ ?_)
     repeat (first | refine qs_ ?_ | refine qa_ ?_ | refine qo_ ?_ | refine qd_ ?_ | refine za ?_ | refine zb fun _ _ => ?_ | refine zc ?_ | refine ya ?_ | refine yb fun _ _ => ?_ | refine yc ?_ | refine qk_ ?_ | refine qb_ ?_ | refine qx_ ?_)
     rename_i b7 _ b8 _
     obtain ⟨rf, hrf⟩ : ∃ rf, rf = refF K b0L (lb (sealL a b n)) (8 + n) := ⟨_, rfl⟩
     refine s_le (tm' := [(4, none, .ptr ⟨4, 0, b4, 0, 16, 0, 0, 0, false⟩), (7, none, .ptr ⟨7, 0, b7, 0, 32, 0, 0, 0, false⟩), (8, none, .ptr ⟨8, 0, b8, 0, 16, 0, 0, 0, false⟩), (9, none, .v (.int .i64 0))]) (M' := [(8, .row b8 41 16 1 (fun _ => .ints .u8 16 (zs 16)) 1), (7, .row b7 26 32 1 (fun _ => .ints .u8 32 rf) 1), (4, .row b4 41 16 1 (fun _ => .ints .u8 16 (zs 16)) 1)]) ?_ ?_
     ·
      rw [hrf]
      exact leQ
     refine s_loopW (α := Nat × List Int) [9, 28, 29, 30, 31, 32, 33, 34, 35, 36] [8] (fun x => x.1 ≤ 16 ∧ of16 rf 16 0 (zs 16) = of16 rf (16 - x.1) x.1 x.2) (fun x => [(9, none, .v (.int .i64 x.1))]) (fun x => [(8, .row b8 41 16 1 (fun _ => .ints .u8 16 x.2) 1)]) (fun x => 16 - x.1) (0, zs 16) ⟨Nat.zero_le _, rfl⟩ ?_ ?_
     ·
      exact leQ
     ·
      intro ⟨i, l3⟩ ⟨hi3, hz8⟩
      dsimp only at hi3 hz8
      repeat (first | refine qs_ ?_ | refine qa_ ?_ | refine qo_ ?_ | refine qd_ ?_ | refine za ?_ | refine zb fun _ _ => ?_ | refine zc ?_ | refine ya ?_ | refine yb fun _ _ => ?_ | refine yc ?_ | refine qk_ ?_ | refine qb_ ?_ | refine qx_ ?_)
      refine s_cond (b := decide ((i : Int) < 16)) rfl (fun hb5 => ?_) (fun hb5 => ?_)
      ·
       have hlt5 : i < 16 := by have := of_decide_eq_true hb5; omega
       rw [show 16 - i = (16 - (i + 1)) + 1 by omega, of16] at hz8
       repeat (first | refine qs_ ?_ | refine qa_ ?_ | refine qo_ ?_ | refine qd_ ?_ | refine za ?_ | refine zb fun _ _ => ?_ | refine zc ?_ | refine ya ?_ | refine yb fun _ _ => ?_ | refine yc ?_ | refine qk_ ?_ | refine qb_ ?_ | refine qx_ ?_)
       refine ⟨(i + 1, pI 16 l3 i (aI rf i)), ⟨by dsimp only; omega, hz8⟩, by dsimp only; omega, ?_⟩
       exact leQ
      ·
       have hie : i = 16 := by have := of_decide_eq_false hb5; omega
       subst hie
       have hz9 : of16 rf 16 0 (zs 16) = l3 := hz8
       repeat (first | refine qs_ ?_ | refine qa_ ?_ | refine qo_ ?_ | refine qd_ ?_ | refine za ?_ | refine zb fun _ _ => ?_ | refine zc ?_ | refine ya ?_ | refine yb fun _ _ => ?_ | refine yc ?_ | refine qk_ ?_ | refine qb_ ?_ | refine qx_ ?_)
       refine s_ret ?_
       exact ⟨_, _, rfl, ⟨⟨⟨rfl, rfl, rfl, Nat.zero_lt_one⟩, rfl⟩, trivial⟩, rfl, by unfold ofF; rw [← hrf, hz9]; rfl⟩
  ·
   cases h0
 ·
  cases h0
theorem of_body : HasBody Tryz.prog 127 := ⟨_, Tryz.func127, rfl, by decide⟩
end Go.Proofs.YtofophjfgalhaaaGreatDoor.V
namespace Go.Proofs.YtofophjfgalhaaaGreatDoor.V
open Go
def row44 : TRow := ⟨.arr 2 4, 2, 2, .agg (.cons (.v (.bool false)) (.cons (.v (.bool false)) .nil))⟩
def row46 : TRow := ⟨.st [(0, 53, 43), (53, 53, 43), (106, 2, 44), (108, 1, 4)], 109, 184, .agg (.cons (.agg (.cons (.v (.int .i64 0)) (.cons (.v (.int .u64 0)) (.cons (.v (.int .i64 0)) (.cons (.ints .u8 32 (List.replicate 32 0)) (.cons (.v (.int .u64 0)) (.cons (.v (.int .u64 0)) (.cons (.ints .u8 16 (List.replicate 16 0)) .nil)))))))) (.cons (.agg (.cons (.v (.int .i64 0)) (.cons (.v (.int .u64 0)) (.cons (.v (.int .i64 0)) (.cons (.ints .u8 32 (List.replicate 32 0)) (.cons (.v (.int .u64 0)) (.cons (.v (.int .u64 0)) (.cons (.ints .u8 16 (List.replicate 16 0)) .nil)))))))) (.cons (.agg (.cons (.v (.bool false)) (.cons (.v (.bool false)) .nil))) (.cons (.v (.bool false)) .nil))))⟩
def row48 : TRow := ⟨.ptr 62, 1, 8, .v (.pointer none)⟩
def row58 : TRow := ⟨.ptr 220, 1, 8, .v (.pointer none)⟩
def row59 : TRow := ⟨.sl 114, 1, 24, .v (.slice none 0 0)⟩
def row60 : TRow := ⟨.sl 147, 1, 24, .v (.slice none 0 0)⟩
def row62 : TRow := ⟨.st [(0, 1, 57), (1, 1, 58), (2, 1, 59), (3, 1, 60)], 4, 64, .agg (.cons (.v (.pointer none)) (.cons (.v (.pointer none)) (.cons (.v (.slice none 0 0)) (.cons (.v (.slice none 0 0)) .nil))))⟩
def row86 : TRow := ⟨.sl 3, 1, 24, .v (.slice none 0 0)⟩
def row118 : TRow := ⟨.ptr 121, 1, 8, .v (.pointer none)⟩
def row119 : TRow := ⟨.map 155 52, 1, 8, .v (.map none)⟩
def row121 : TRow := ⟨.st [(0, 1, 119)], 1, 8, .agg (.cons (.v (.map none)) .nil)⟩
def row123 : TRow := ⟨.sl 52, 1, 24, .v (.slice none 0 0)⟩
def row129 : TRow := ⟨.sl 37, 1, 24, .v (.slice none 0 0)⟩
def row130 : TRow := ⟨.sl 46, 1, 24, .v (.slice none 0 0)⟩
def row131 : TRow := ⟨.sl 135, 1, 24, .v (.slice none 0 0)⟩
def row132 : TRow := ⟨.ptr 215, 1, 8, .v (.pointer none)⟩
def row135 : TRow := ⟨.st [(0, 1, 3), (1, 1, 3), (2, 1, 3), (3, 1, 86)], 4, 48, .agg (.cons (.v (.int .i64 0)) (.cons (.v (.int .i64 0)) (.cons (.v (.int .i64 0)) (.cons (.v (.slice none 0 0)) .nil))))⟩
def row147 : TRow := ⟨.ptr 224, 1, 8, .v (.pointer none)⟩
def row155 : TRow := ⟨.st [(0, 1, 22), (1, 1, 39)], 2, 16, .agg (.cons (.v (.int .u64 0)) (.cons (.v (.int .u64 0)) .nil))⟩
def row160 : TRow := ⟨.fn, 1, 8, .v .nilFunc⟩
def row164 : TRow := ⟨.arr 2 43, 106, 176, .agg (.cons (.agg (.cons (.v (.int .i64 0)) (.cons (.v (.int .u64 0)) (.cons (.v (.int .i64 0)) (.cons (.ints .u8 32 (List.replicate 32 0)) (.cons (.v (.int .u64 0)) (.cons (.v (.int .u64 0)) (.cons (.ints .u8 16 (List.replicate 16 0)) .nil)))))))) (.cons (.agg (.cons (.v (.int .i64 0)) (.cons (.v (.int .u64 0)) (.cons (.v (.int .i64 0)) (.cons (.ints .u8 32 (List.replicate 32 0)) (.cons (.v (.int .u64 0)) (.cons (.v (.int .u64 0)) (.cons (.ints .u8 16 (List.replicate 16 0)) .nil)))))))) .nil))⟩
def row212 : TRow := ⟨.fn, 1, 8, .v .nilFunc⟩
def row215 : TRow := ⟨.st [(0, 1, 4), (1, 1, 123)], 2, 32, .agg (.cons (.v (.bool false)) (.cons (.v (.slice none 0 0)) .nil))⟩
def row218 : TRow := ⟨.sl 248, 1, 24, .v (.slice none 0 0)⟩
def row220 : TRow := ⟨.st [(0, 1, 4), (1, 1, 38), (2, 1, 218)], 3, 56, .agg (.cons (.v (.bool false)) (.cons (.v (.slice none 0 0)) (.cons (.v (.slice none 0 0)) .nil)))⟩
def row224 : TRow := ⟨.st [(0, 1, 58), (1, 1, 39)], 2, 16, .agg (.cons (.v (.pointer none)) (.cons (.v (.int .u64 0)) .nil))⟩
def row226 : TRow := ⟨.fn, 1, 8, .v .nilFunc⟩
def row231 : TRow := ⟨.ptr 312, 1, 8, .v (.pointer none)⟩
def row233 : TRow := ⟨.fn, 1, 8, .v .nilFunc⟩
def row234 : TRow := ⟨.fn, 1, 8, .v .nilFunc⟩
def row244 : TRow := ⟨.ptr 69, 1, 8, .v (.pointer none)⟩
def row248 : TRow := ⟨.st [(0, 1, 39), (1, 1, 9)], 2, 24, .agg (.cons (.v (.int .u64 0)) (.cons (.v (.string ⟨#[]⟩)) .nil))⟩
def row295 : TRow := ⟨.sl 55, 1, 24, .v (.slice none 0 0)⟩
def row302 : TRow := ⟨.int .i64, 1, 8, .v (.int .i64 0)⟩
def row312 : TRow := ⟨.st [(0, 1, 4), (1, 1, 76), (2, 1, 55)], 3, 40, .agg (.cons (.v (.bool false)) (.cons (.v (.slice none 0 0)) (.cons (.v (.int .i64 0)) .nil)))⟩
def row319 : TRow := ⟨.ptr 65, 1, 8, .v (.pointer none)⟩
theorem row44_ok : RowOk Tryz.prog 44 row44 := ⟨by kernel_rfl, by kernel_rfl⟩
theorem row46_ok : RowOk Tryz.prog 46 row46 := ⟨by kernel_rfl, by kernel_rfl⟩
theorem row48_ok : RowOk Tryz.prog 48 row48 := ⟨by kernel_rfl, by kernel_rfl⟩
theorem row58_ok : RowOk Tryz.prog 58 row58 := ⟨by kernel_rfl, by kernel_rfl⟩
theorem row59_ok : RowOk Tryz.prog 59 row59 := ⟨by kernel_rfl, by kernel_rfl⟩
theorem row60_ok : RowOk Tryz.prog 60 row60 := ⟨by kernel_rfl, by kernel_rfl⟩
theorem row62_ok : RowOk Tryz.prog 62 row62 := ⟨by kernel_rfl, by kernel_rfl⟩
theorem row86_ok : RowOk Tryz.prog 86 row86 := ⟨by kernel_rfl, by kernel_rfl⟩
theorem row118_ok : RowOk Tryz.prog 118 row118 := ⟨by kernel_rfl, by kernel_rfl⟩
theorem row119_ok : RowOk Tryz.prog 119 row119 := ⟨by kernel_rfl, by kernel_rfl⟩
theorem row121_ok : RowOk Tryz.prog 121 row121 := ⟨by kernel_rfl, by kernel_rfl⟩
theorem row123_ok : RowOk Tryz.prog 123 row123 := ⟨by kernel_rfl, by kernel_rfl⟩
theorem row129_ok : RowOk Tryz.prog 129 row129 := ⟨by kernel_rfl, by kernel_rfl⟩
theorem row130_ok : RowOk Tryz.prog 130 row130 := ⟨by kernel_rfl, by kernel_rfl⟩
theorem row131_ok : RowOk Tryz.prog 131 row131 := ⟨by kernel_rfl, by kernel_rfl⟩
theorem row132_ok : RowOk Tryz.prog 132 row132 := ⟨by kernel_rfl, by kernel_rfl⟩
theorem row135_ok : RowOk Tryz.prog 135 row135 := ⟨by kernel_rfl, by kernel_rfl⟩
theorem row147_ok : RowOk Tryz.prog 147 row147 := ⟨by kernel_rfl, by kernel_rfl⟩
theorem row155_ok : RowOk Tryz.prog 155 row155 := ⟨by kernel_rfl, by kernel_rfl⟩
theorem row160_ok : RowOk Tryz.prog 160 row160 := ⟨by kernel_rfl, by kernel_rfl⟩
theorem row164_ok : RowOk Tryz.prog 164 row164 := ⟨by kernel_rfl, by kernel_rfl⟩
theorem row212_ok : RowOk Tryz.prog 212 row212 := ⟨by kernel_rfl, by kernel_rfl⟩
theorem row215_ok : RowOk Tryz.prog 215 row215 := ⟨by kernel_rfl, by kernel_rfl⟩
theorem row218_ok : RowOk Tryz.prog 218 row218 := ⟨by kernel_rfl, by kernel_rfl⟩
theorem row220_ok : RowOk Tryz.prog 220 row220 := ⟨by kernel_rfl, by kernel_rfl⟩
theorem row224_ok : RowOk Tryz.prog 224 row224 := ⟨by kernel_rfl, by kernel_rfl⟩
theorem row226_ok : RowOk Tryz.prog 226 row226 := ⟨by kernel_rfl, by kernel_rfl⟩
theorem row231_ok : RowOk Tryz.prog 231 row231 := ⟨by kernel_rfl, by kernel_rfl⟩
theorem row233_ok : RowOk Tryz.prog 233 row233 := ⟨by kernel_rfl, by kernel_rfl⟩
theorem row234_ok : RowOk Tryz.prog 234 row234 := ⟨by kernel_rfl, by kernel_rfl⟩
theorem row244_ok : RowOk Tryz.prog 244 row244 := ⟨by kernel_rfl, by kernel_rfl⟩
theorem row248_ok : RowOk Tryz.prog 248 row248 := ⟨by kernel_rfl, by kernel_rfl⟩
theorem row295_ok : RowOk Tryz.prog 295 row295 := ⟨by kernel_rfl, by kernel_rfl⟩
theorem row302_ok : RowOk Tryz.prog 302 row302 := ⟨by kernel_rfl, by kernel_rfl⟩
theorem row312_ok : RowOk Tryz.prog 312 row312 := ⟨by kernel_rfl, by kernel_rfl⟩
theorem row319_ok : RowOk Tryz.prog 319 row319 := ⟨by kernel_rfl, by kernel_rfl⟩
def tb2 : Tbl := (44, row44) :: (46, row46) :: (48, row48) :: (58, row58) :: (59, row59) :: (60, row60) :: (62, row62) :: (86, row86) :: (118, row118) :: (119, row119) :: (121, row121) :: (123, row123) :: (129, row129) :: (130, row130) :: (131, row131) :: (132, row132) :: (135, row135) :: (147, row147) :: (155, row155) :: (160, row160) :: (164, row164) :: (212, row212) :: (215, row215) :: (218, row218) :: (220, row220) :: (224, row224) :: (226, row226) :: (231, row231) :: (233, row233) :: (234, row234) :: (244, row244) :: (248, row248) :: (295, row295) :: (302, row302) :: (312, row312) :: (319, row319) :: tb
theorem tb2_ok : TblOk Tryz.prog tb2 := ⟨row44_ok, row46_ok, row48_ok, row58_ok, row59_ok, row60_ok, row62_ok, row86_ok, row118_ok, row119_ok, row121_ok, row123_ok, row129_ok, row130_ok, row131_ok, row132_ok, row135_ok, row147_ok, row155_ok, row160_ok, row164_ok, row212_ok, row215_ok, row218_ok, row220_ok, row224_ok, row226_ok, row231_ok, row233_ok, row234_ok, row244_ok, row248_ok, row295_ok, row302_ok, row312_ok, row319_ok, tb_ok⟩
theorem eq237_ok : EqRow Tryz.prog 237 := ⟨by kernel_rfl, by kernel_rfl, by kernel_rfl⟩
theorem eq155_ok : EqRow Tryz.prog 155 := ⟨by kernel_rfl, by kernel_rfl, by kernel_rfl⟩
theorem eq229_ok : EqRow Tryz.prog 229 := ⟨by kernel_rfl, by kernel_rfl, by kernel_rfl⟩
def eqs2 : List TypeId := 237 :: 155 :: 229 :: eqs
theorem eqs2_ok : EqOk Tryz.prog eqs2 := ⟨eq237_ok, eq155_ok, eq229_ok, eqs_ok⟩
def tabs2 : Tabs Tryz.prog := ⟨tb2, eqs2, tb2_ok, eqs2_ok, mixed⟩
end Go.Proofs.YtofophjfgalhaaaGreatDoor.V
namespace Go.Proofs.YtofophjfgalhaaaGreatDoor.V
open Go Go.RowKit
def wAV (a : Option Nat) (len cap : Nat) : AV := .agg (.cons (.v (.bool true)) (.cons (.gs 902 0 (ownB a) 1 0 len cap) (.cons (.v (.int .i64 0)) .nil)))
def IsWr (b : Nat) (l : List Int) (H : Frag) : Prop := ∃ (a : Option Nat) (cap : Nat), FRow H b 312 3 1 (fun _ => wAV a l.length cap) 1 ∧ match a with
 | none => l.length = 0 ∧ cap = 0
 | some k => k ≠ b ∧ FRow H k 5 1 l.length (vl l) cap
def wrB (b : Nat) (l : List Int) (S : Nat → Prop) : Blk := frB (.nums b l) S (IsWr b l)
def wrOf (M : MemF) (p : Pt) : Option (Prop × Nat × List Int × (Nat → Prop)) := match M p.n with
 | some (.sep (.nums b l) S φ) => some (Blk.sep (.nums b l) S φ = wrB b l S ∧ (p.b = b ∧ p.o0 = 0 ∧ p.es = 3 ∧ p.idx = 0 ∧ p.off = 0 ∧ p.j = 0), b, l, S)
 | _ => none
theorem wrOf_spec {M : MemF} {p : Pt} {c : Prop} {b : Nat} {l : List Int} {S : Nat → Prop} (h : wrOf M p = some (c, b, l, S)) (hc : c) : M p.n = some (wrB b l S) ∧ ∀ n, (AV.ptr p).val = (AV.ptr ⟨n, 0, b, 0, 3, 0, 0, 0, false⟩).val := by
 unfold wrOf at h
 split at h
 ·
  rename_i b' l' S' φ hM
  cases h
  obtain ⟨h1, h2, h3, h4, h5, h6, h7⟩ := hc
  refine ⟨by rw [hM, h1], fun n => ?_⟩
  rw [ptr_val, ptr_val]
  unfold Pt.cell
  simp only [h2, h3, h5, h6, h7]
  simp
 ·
  cases h
theorem wr_parts {b : Nat} {l : List Int} {S : Nat → Prop} {w : World} (h : (wrB b l S).holds w) : ∃ a cap, (RowHolds w b 312 3 1 (fun _ => wAV a l.length cap) 1) := by
 obtain ⟨H, _, ⟨a, cap, h1, _⟩, h3⟩ := frB_open h
 exact ⟨a, cap, h1.on h3⟩
def liveC (args : List AV) (M : MemF) : Option (Prop × AV) := match args with
 | [.ptr p] => match wrOf M p with
  | some (c, _, _, _) => some (c, .v (.bool true))
  | none => none
 | _ => none
theorem live_read : ReadFn Tryz.prog 210 liveC := by
 intro args M q res h hq O w0 w hS
 unfold liveC at h
 split at h
 ·
  rename_i p
  split at h
  ·
   rename_i c b l S hp
   cases h
   obtain ⟨hM, hv⟩ := wrOf_spec hp hq
   obtain ⟨a, cap, hR⟩ := wr_parts (hS.holds _ _ hM)
   rw [show [AV.ptr p].map AV.val = [roP 900 b 0 3].map AV.val by simp only [List.map_cons, List.map_nil, hv 900]; rfl]
   refine ro_fn tabs2 (ct := []) trivial (cr := []) trivial Tryz.func210 rfl rfl (M := [(900, roB (some (b, 0)) 3 1 fun _ => wAV a l.length cap)]) rfl ⟨roB_noOwn, trivial⟩ ⟨roB_holds fun _ => ⟨b, 0, rfl, hR.reads⟩, trivial⟩ ?_
   repeat (first | refine qs_ ?_ | refine qa_ ?_ | refine qo_ ?_ | refine qd_ ?_ | refine za ?_ | refine zb fun _ _ => ?_ | refine zc ?_ | refine ya ?_ | refine yb fun _ _ => ?_ | refine yc ?_ | refine qk_ ?_ | refine qb_ ?_ | refine qx_ ?_)
   refine s_ret ?_
   exact ⟨_, _, rfl, ⟨trivial, trivial⟩, rfl, rfl⟩
  ·
   cases h
 ·
  cases h
theorem live_body : HasBody Tryz.prog 210 := ⟨_, Tryz.func210, rfl, by decide⟩
theorem wr_pieces {b : Nat} {l : List Int} {H : Frag} (h : IsWr b l H) : ∃ (a : Option Nat) (cap : Nat), Pieces H [.row b 312 3 1 (fun _ => wAV a l.length cap) 1, .vrow a 5 1 l.length (vl l) cap] := by
 obtain ⟨a, cap, h1, h2⟩ := h
 refine ⟨a, cap, ?_⟩
 cases a with
 | none =>
  refine ⟨fun w hw B hB => ?_, fun B hB k hk => ?_, fun B hB k hk => ?_, ?_⟩
  ·
   simp only [List.mem_cons, List.not_mem_nil, or_false] at hB
   rcases hB with rfl | rfl
   ·
    exact h1.on hw
   ·
    exact h2
  ·
   simp only [List.mem_cons, List.not_mem_nil, or_false] at hB
   rcases hB with rfl | rfl
   ·
    cases hk; exact h1.ne
   ·
    cases hk
  ·
   simp only [List.mem_cons, List.not_mem_nil, or_false] at hB
   rcases hB with rfl | rfl <;> exact hk
  ·
   refine List.pairwise_cons.2 ⟨fun B hB k hk hk2 => ?_, List.pairwise_singleton _ _⟩
   simp only [List.mem_cons, List.not_mem_nil, or_false] at hB
   subst hB; cases hk2
 | some k0 =>
  obtain ⟨h3, h4⟩ := h2
  refine ⟨fun w hw B hB => ?_, fun B hB k hk => ?_, fun B hB k hk => ?_, ?_⟩
  ·
   simp only [List.mem_cons, List.not_mem_nil, or_false] at hB
   rcases hB with rfl | rfl
   ·
    exact h1.on hw
   ·
    exact h4.on hw
  ·
   simp only [List.mem_cons, List.not_mem_nil, or_false] at hB
   rcases hB with rfl | rfl
   ·
    cases hk; exact h1.ne
   ·
    cases hk; exact h4.ne
  ·
   simp only [List.mem_cons, List.not_mem_nil, or_false] at hB
   rcases hB with rfl | rfl <;> exact hk
  ·
   refine List.pairwise_cons.2 ⟨fun B hB k hk hk2 => ?_, List.pairwise_singleton _ _⟩
   simp only [List.mem_cons, List.not_mem_nil, or_false] at hB
   subst hB
   cases hk; cases hk2
   exact h3 rfl
theorem wr_closed {b : Nat} {l : List Int} {a : Option Nat} {cap : Nat} {w : World} (hh : ∀ B ∈ ([.row b 312 3 1 (fun _ => wAV a l.length cap) 1, .vrow a 5 1 l.length (vl l) cap] : List Blk), B.holds w) (hp : ([.row b 312 3 1 (fun _ => wAV a l.length cap) 1, .vrow a 5 1 l.length (vl l) cap] : List Blk).Pairwise fun B B' => ∀ k, B.own k → ¬ B'.own k) :
  IsWr b l (restr w (ownU [.row b 312 3 1 (fun _ => wAV a l.length cap) 1, .vrow a 5 1 l.length (vl l) cap])) := by
 refine ⟨a, cap, closed_row (.head _) hh, ?_⟩
 cases a with
 | none => exact hh _ (.tail _ (.head _))
 | some k =>
  refine ⟨fun e => ?_, closed_vrow (.tail _ (.head _)) hh⟩
  subst e
  rw [List.pairwise_cons] at hp
  exact hp.1 _ (.head _) k rfl rfl
def putC (_tag : Nat) (args : List AV) (M : MemF) : Option Res := match args with
 | [.ptr p, X] => match wrOf M p, seqOf M X with
  | some (c0, b, l, _), some (c, es, n, fx) => some ⟨Nat → Prop, c0 ∧ (c ∧ (n ≠ 0 → es = 1) ∧ n ≤ 1000000 ∧ ∀ i, i < n → fx i = .v (.int .u8 (fx i).int1)) ∧ l.length ≤ 1000000 ∧ tagNe p.n X = true, fun _ => True, fun _ => .tup .nil, [p.n], fun S' => [wrB b (l ++ lof (fun i => (fx i).int1) n) S']⟩
  | _, _ => none
 | _ => none
def ctLi : CtL := [(210, liveC)]
theorem ctLi_ok : CtLOk Tryz.prog ctLi := ⟨.fn live_body live_read, trivial⟩
theorem put_turn : TurnFn Tryz.prog 188 putC := by
 intro tag args M r h0 hok O w0 w hS
 unfold putC at h0
 split at h0
 ·
  rename_i p X
  split at h0
  ·
   rename_i c0 b l S c es n fx hp hsx
   cases h0
   obtain ⟨hc0, ⟨q1, q2, q3, q4⟩, hll, htag⟩ := hok
   obtain ⟨hM, hv⟩ := wrOf_spec hp hc0
   obtain ⟨base, cap, hvx, hro⟩ := bytes_ro hS hsx q1 q2 q4
   obtain ⟨f, hf0⟩ : ∃ f, f = fun i => (fx i).int1 := ⟨_, rfl⟩
   rw [← hf0]
   have hro : (roB base 1 n fun i => .v (.int .u8 (f i))).holds w := by rw [hf0]; exact hro
   have hap : ∀ j, (roB base 1 n fun i => .v (.int .u8 (f i))).reads j → ¬ (wrB b l S).own j := ro_apart hS hsx q1 q2 hM htag hvx
   rw [show [AV.ptr p, X].map AV.val = [AV.ptr ⟨900, 0, b, 0, 3, 0, 0, 0, false⟩, roS 901 base 1 n cap].map AV.val by simp only [List.map_cons, List.map_nil, hv 900, hvx, roS_val]]
   refine turn_one tabs2 ctLi_ok (cr := []) trivial Tryz.func188 rfl rfl hS _ hM (B1 := wrB b l S) [(901, roB base 1 n fun i => .v (.int .u8 (f i)))] rfl rfl (hS.holds _ _ hM) (fun _ h => h) (fun _ h => h) ⟨hro, trivial⟩ ⟨roB_noOwn, trivial⟩ ⟨hap, trivial⟩ (s_post ?_)
   repeat (first | refine qs_ ?_ | refine qa_ ?_ | refine qo_ ?_ | refine qd_ ?_ | refine za ?_ | refine zb fun _ _ => ?_ | refine zc ?_ | refine ya ?_ | refine yb fun _ _ => ?_ | refine yc ?_ | refine qk_ ?_ | refine qb_ ?_ | refine qx_ ?_)
   refine s_cond (b := true) rfl (fun _ => ?_) (fun h => by cases h)
   refine s_open (n := 900) [900, 902] rfl rfl fun H hS2 hP => ?_
   obtain ⟨a, cp, hpc⟩ := wr_pieces hP
   refine ⟨_, hpc, ?_⟩
   repeat (first | refine qs_ ?_ | refine qa_ ?_ | refine qo_ ?_ | refine qd_ ?_ | refine za ?_ | refine zb fun _ _ => ?_ | refine zc ?_ | refine ya ?_ | refine yb fun _ _ => ?_ | refine yc ?_ | refine qk_ ?_ | refine qb_ ?_ | refine qx_ ?_)
   rename_i y hy
   have hy : l.length + n ≤ y.2 := hy
   have hln : (l ++ lof f n).length = l.length + n := by rw [List.length_append, lof_length]
   have hfx : ∀ i, i < (l ++ lof f n).length → fapp l.length (vl l) (fun i => .v (.int .u8 (f (i + 0)))) i = vl (l ++ lof f n) i :=
    fapp_vl (fun _ _ => rfl) (fun i hi => by unfold vl; rw [lof_get f (by rw [lof_length] at hi; exact hi)]; rfl)
   refine ⟨_, _, le_close (n := 900) (.nums b (l ++ lof f n)) (IsWr b (l ++ lof f n)) [900, 902] [.row b 312 3 1 (fun _ => wAV y.1 (l ++ lof f n).length y.2) 1, .vrow y.1 5 1 (l ++ lof f n).length (vl (l ++ lof f n)) y.2] rfl (by decide)
    ⟨⟨⟨_, rfl, Blk.le_row (Nat.le_refl _) fun _ _ => (by rw [hln]; rfl)⟩, fun _ h => h⟩, ⟨⟨_, rfl, Blk.le_vrow (Nat.le_of_eq hln) fun i hi => (hfx i hi).symm⟩, fun _ h => h⟩, trivial⟩ (fun w hh hp => wr_closed hh hp), ?_⟩
   exact ⟨_, _, rfl, trivial, rfl, _, trivial, rfl, ⟨⟨_, rfl, Blk.le_refl _⟩, fun _ h => h⟩, trivial⟩
  ·
   cases h0
 ·
  cases h0
theorem put_body : HasBody Tryz.prog 188 := ⟨_, Tryz.func188, rfl, by decide⟩
def fieldF (b : Bool) : Int := if b then 41 else 0
def fieldC (args : List AV) (_M : MemF) : Option (Prop × AV) := match args with
 | [.v (.bool b)] => some (True, .v (.int .i64 (fieldF b)))
 | _ => none
theorem field_read : ReadFn Tryz.prog 134 fieldC := by
 intro args M q res h hq O w0 w hS
 unfold fieldC at h
 split at h
 ·
  rename_i b
  cases h
  refine ro_fn tabs2 (ct := []) trivial (cr := []) trivial Tryz.func134 rfl rfl (M := []) rfl trivial trivial ?_
  repeat (first | refine qs_ ?_ | refine qa_ ?_ | refine qo_ ?_ | refine qd_ ?_ | refine za ?_ | refine zb fun _ _ => ?_ | refine zc ?_ | refine ya ?_ | refine yb fun _ _ => ?_ | refine yc ?_ | refine qk_ ?_ | refine qb_ ?_ | refine qx_ ?_)
  refine s_cond (b := b) rfl (fun hb => ?_) (fun hb => ?_)
  all_goals
   repeat (first | refine qs_ ?_ | refine qa_ ?_ | refine qo_ ?_ | refine qd_ ?_ | refine za ?_ | refine zb fun _ _ => ?_ | refine zc ?_ | refine ya ?_ | refine yb fun _ _ => ?_ | refine yc ?_ | refine qk_ ?_ | refine qb_ ?_ | refine qx_ ?_)
   refine s_ret ?_
   exact ⟨_, _, rfl, ⟨trivial, trivial⟩, rfl, by subst hb; rfl⟩
 ·
  cases h
theorem field_body : HasBody Tryz.prog 134 := ⟨_, Tryz.func134, rfl, by decide⟩
def kindF (k lo hi : Int) : Int := if (decide (k < lo) || decide (k > hi)) = true then 40 else 0
def kindC (args : List AV) (_M : MemF) : Option (Prop × AV) := match args with
 | [.v (.int .i64 k), .v (.int .i64 lo), .v (.int .i64 hi)] => some (True, .v (.int .i64 (kindF k lo hi)))
 | _ => none
theorem kind_read : ReadFn Tryz.prog 130 kindC := by
 intro args M q res h hq O w0 w hS
 unfold kindC at h
 split at h
 ·
  rename_i k lo hi
  cases h
  refine ro_fn tabs2 (ct := []) trivial (cr := []) trivial Tryz.func130 rfl rfl (M := []) rfl trivial trivial ?_
  repeat (first | refine qs_ ?_ | refine qa_ ?_ | refine qo_ ?_ | refine qd_ ?_ | refine za ?_ | refine zb fun _ _ => ?_ | refine zc ?_ | refine ya ?_ | refine yb fun _ _ => ?_ | refine yc ?_ | refine qk_ ?_ | refine qb_ ?_ | refine qx_ ?_)
  refine s_cond (b := (decide (k < lo) || decide (k > hi))) rfl (fun hb => ?_) (fun hb => ?_)
  all_goals
   repeat (first | refine qs_ ?_ | refine qa_ ?_ | refine qo_ ?_ | refine qd_ ?_ | refine za ?_ | refine zb fun _ _ => ?_ | refine zc ?_ | refine ya ?_ | refine yb fun _ _ => ?_ | refine yc ?_ | refine qk_ ?_ | refine qb_ ?_ | refine qx_ ?_)
   refine s_ret ?_
   refine ⟨_, _, rfl, ⟨trivial, trivial⟩, rfl, ?_⟩
   simp only [kindF, hb]; rfl
 ·
  cases h
theorem kind_body : HasBody Tryz.prog 130 := ⟨_, Tryz.func130, rfl, by decide⟩
def ctP1 : CtL := [(134, fieldC)]
theorem ctP1_ok : CtLOk Tryz.prog ctP1 := ⟨.fn field_body field_read, trivial⟩
def heightB (h : Int) : Bool := decide (h < 1) || decide (h > 1099511627776)
def heightC (args : List AV) (_M : MemF) : Option (Prop × AV) := match args with
 | [.v (.int .u64 k)] => some (True, .v (.int .i64 (fieldF (heightB k))))
 | _ => none
theorem height_read : ReadFn Tryz.prog 131 heightC := by
 intro args M q res h hq O w0 w hS
 unfold heightC at h
 split at h
 ·
  rename_i k
  cases h
  refine ro_fn tabs2 ctP1_ok (cr := []) trivial Tryz.func131 rfl rfl (M := []) rfl trivial trivial ?_
  repeat (first | refine qs_ ?_ | refine qa_ ?_ | refine qo_ ?_ | refine qd_ ?_ | refine za ?_ | refine zb fun _ _ => ?_ | refine zc ?_ | refine ya ?_ | refine yb fun _ _ => ?_ | refine yc ?_ | refine qk_ ?_ | refine qb_ ?_ | refine qx_ ?_)
  refine s_ret ?_
  exact ⟨_, _, rfl, ⟨trivial, trivial⟩, rfl, rfl⟩
 ·
  cases h
theorem height_body : HasBody Tryz.prog 131 := ⟨_, Tryz.func131, rfl, by decide⟩
def roundB (h : Int) : Bool := decide (h < 0) || decide (h > 65535)
def roundC (args : List AV) (_M : MemF) : Option (Prop × AV) := match args with
 | [.v (.int .i64 k)] => some (True, .v (.int .i64 (fieldF (roundB k))))
 | _ => none
theorem round_read : ReadFn Tryz.prog 132 roundC := by
 intro args M q res h hq O w0 w hS
 unfold roundC at h
 split at h
 ·
  rename_i k
  cases h
  refine ro_fn tabs2 ctP1_ok (cr := []) trivial Tryz.func132 rfl rfl (M := []) rfl trivial trivial ?_
  repeat (first | refine qs_ ?_ | refine qa_ ?_ | refine qo_ ?_ | refine qd_ ?_ | refine za ?_ | refine zb fun _ _ => ?_ | refine zc ?_ | refine ya ?_ | refine yb fun _ _ => ?_ | refine yc ?_ | refine qk_ ?_ | refine qb_ ?_ | refine qx_ ?_)
  refine s_ret ?_
  exact ⟨_, _, rfl, ⟨trivial, trivial⟩, rfl, rfl⟩
 ·
  cases h
theorem round_body : HasBody Tryz.prog 132 := ⟨_, Tryz.func132, rfl, by decide⟩
def momentB (h : Int) : Bool := decide (h > 1125899906842624)
def momentC (args : List AV) (_M : MemF) : Option (Prop × AV) := match args with
 | [.v (.int .u64 k)] => some (True, .v (.int .i64 (fieldF (momentB k))))
 | _ => none
theorem moment_read : ReadFn Tryz.prog 133 momentC := by
 intro args M q res h hq O w0 w hS
 unfold momentC at h
 split at h
 ·
  rename_i k
  cases h
  refine ro_fn tabs2 ctP1_ok (cr := []) trivial Tryz.func133 rfl rfl (M := []) rfl trivial trivial ?_
  repeat (first | refine qs_ ?_ | refine qa_ ?_ | refine qo_ ?_ | refine qd_ ?_ | refine za ?_ | refine zb fun _ _ => ?_ | refine zc ?_ | refine ya ?_ | refine yb fun _ _ => ?_ | refine yc ?_ | refine qk_ ?_ | refine qb_ ?_ | refine qx_ ?_)
  refine s_ret ?_
  exact ⟨_, _, rfl, ⟨trivial, trivial⟩, rfl, rfl⟩
 ·
  cases h
theorem moment_body : HasBody Tryz.prog 133 := ⟨_, Tryz.func133, rfl, by decide⟩
def firstE : List Int → Int
 | [] => 0
 | x :: r => if (x != 0) = true then x else firstE r
def allC (args : List AV) (M : MemF) : Option (Prop × AV) := match args with
 | [X] => match seqOf M X with
  | some (c, es, n, f) => some (c ∧ (n ≠ 0 → es = 1) ∧ n < 1000000 ∧ ∀ i, i < n → f i = .v (.int .i64 (f i).int1), .v (.int .i64 (firstE (intsOf n f))))
  | none => none
 | _ => none
theorem firstE_skip (f : Nat → Int) : ∀ (k n : Nat), (∀ i, i < k → f i = 0) → k ≤ n → firstE ((List.range n).map f) = firstE ((List.range' k (n - k)).map f)
 | 0, n, _, _ => by rw [List.range_eq_range']; rfl
 | k + 1, n, h, hk => by
  rw [firstE_skip f k n (fun i hi => h i (by omega)) (by omega), show n - k = (n - (k + 1)) + 1 by omega, List.range'_succ, List.map_cons, firstE]
  rw [if_neg (by simp [h k (by omega)])]
theorem ints_ro {O : Nat → Prop} {w0 w : World} {M : MemF} (hS : Sat O w0 M w) {x : AV} {c : Prop} {es n : Nat} {f : Nat → AV} {k : IntKind} (h : seqOf M x = some (c, es, n, f)) (hc : c) (he : n ≠ 0 → es = 1) (hf : ∀ i, i < n → f i = .v (.int k (f i).int1)) :
  ∃ base cap, x.val = slV base n cap ∧ (roB base 1 n fun i => .v (.int k (f i).int1)).holds w := by
 obtain ⟨base, cap, hv, hr⟩ := seqOf_spec hS h hc
 refine ⟨base, cap, hv, roB_holds fun h0 => ?_⟩
 obtain ⟨b, o, e1, e2⟩ := hr h0
 have := he h0
 subst this
 refine ⟨b, o, e1, fun i hi => ?_⟩
 have := e2 i hi
 rw [hf i hi] at this
 exact this
theorem all_read : ReadFn Tryz.prog 129 allC := by
 intro args M q res h hq O w0 w hS
 unfold allC at h
 split at h
 ·
  rename_i X
  split at h
  ·
   rename_i c es n f hsq
   cases h
   obtain ⟨q1, q2, hlen, q4⟩ := hq
   obtain ⟨base, cap, hv, hro⟩ := ints_ro hS hsq q1 q2 q4
   obtain ⟨xs, hxs⟩ : ∃ xs : Nat → Int, xs = fun i => (f i).int1 := ⟨_, rfl⟩
   have hro : (roB base 1 n fun i => .v (.int .i64 (xs i))).holds w := by rw [hxs]; exact hro
   rw [show intsOf n f = (List.range n).map xs by rw [hxs]; rfl]
   rw [show [X].map AV.val = [roS 900 base 1 n cap].map AV.val by simp only [List.map_cons, List.map_nil, hv, roS_val]]
   refine ro_fn tabs2 (ct := []) trivial (cr := []) trivial Tryz.func129 rfl rfl (M := [(900, roB base 1 n fun i => .v (.int .i64 (xs i)))]) rfl ⟨roB_noOwn, trivial⟩ ⟨hro, trivial⟩ ?_
   repeat (first | refine qs_ ?_ | refine qa_ ?_ | refine qo_ ?_ | refine qd_ ?_ | refine za ?_ | refine zb fun _ _ => ?_ | refine zc ?_ | refine ya ?_ | refine yb fun _ _ => ?_ | refine yc ?_ | refine qk_ ?_ | refine qb_ ?_ | refine qx_ ?_)
   refine s_loopW (α := Nat) [4, 7, 8, 9, 10, 11, 12, 13, 14] [] (fun k => k ≤ n ∧ ∀ i, i < k → xs i = 0) (fun k => [(7, none, .v (.int .i64 k))]) (fun _ => []) (fun k => n - k) 0 ⟨Nat.zero_le _, fun i hi => by omega⟩ ?_ ?_
   ·
    exact leQ
   ·
    intro k ⟨hk, hz⟩
    repeat (first | refine qs_ ?_ | refine qa_ ?_ | refine qo_ ?_ | refine qd_ ?_ | refine za ?_ | refine zb fun _ _ => ?_ | refine zc ?_ | refine ya ?_ | refine yb fun _ _ => ?_ | refine yc ?_ | refine qk_ ?_ | refine qb_ ?_ | refine qx_ ?_)
    refine s_cond (b := decide ((k : Int) < (n : Int))) rfl (fun hb => ?_) (fun hb => ?_)
    ·
     have hlt : k < n := by simpa using hb
     repeat (first | refine qs_ ?_ | refine qa_ ?_ | refine qo_ ?_ | refine qd_ ?_ | refine za ?_ | refine zb fun _ _ => ?_ | refine zc ?_ | refine ya ?_ | refine yb fun _ _ => ?_ | refine yc ?_ | refine qk_ ?_ | refine qb_ ?_ | refine qx_ ?_)
     refine s_cond (b := (xs k != 0)) rfl (fun hb2 => ?_) (fun hb2 => ?_)
     ·
      repeat (first | refine qs_ ?_ | refine qa_ ?_ | refine qo_ ?_ | refine qd_ ?_ | refine za ?_ | refine zb fun _ _ => ?_ | refine zc ?_ | refine ya ?_ | refine yb fun _ _ => ?_ | refine yc ?_ | refine qk_ ?_ | refine qb_ ?_ | refine qx_ ?_)
      refine s_ret ?_
      refine ⟨_, _, rfl, ⟨trivial, trivial⟩, rfl, ?_⟩
      rw [firstE_skip xs k n hz hk, show n - k = (n - (k + 1)) + 1 by omega, List.range'_succ, List.map_cons, firstE, if_pos hb2]
      rfl
     ·
      repeat (first | refine qs_ ?_ | refine qa_ ?_ | refine qo_ ?_ | refine qd_ ?_ | refine za ?_ | refine zb fun _ _ => ?_ | refine zc ?_ | refine ya ?_ | refine yb fun _ _ => ?_ | refine yc ?_ | refine qk_ ?_ | refine qb_ ?_ | refine qx_ ?_)
      refine ⟨k + 1, ⟨by omega, ?_⟩, by omega, ?_⟩
      ·
       intro i hi
       by_cases hik : i = k
       ·
        subst hik; simpa using hb2
       ·
        exact hz i (by omega)
      ·
       exact leQ
    ·
     have hge : k = n := by simp at hb; omega
     subst hge
     repeat (first | refine qs_ ?_ | refine qa_ ?_ | refine qo_ ?_ | refine qd_ ?_ | refine za ?_ | refine zb fun _ _ => ?_ | refine zc ?_ | refine ya ?_ | refine yb fun _ _ => ?_ | refine yc ?_ | refine qk_ ?_ | refine qb_ ?_ | refine qx_ ?_)
     refine s_ret ?_
     refine ⟨_, _, rfl, ⟨trivial, trivial⟩, rfl, ?_⟩
     rw [firstE_skip xs k k hz hk, Nat.sub_self]; rfl
  ·
   cases h
 ·
  cases h
theorem all_body : HasBody Tryz.prog 129 := ⟨_, Tryz.func129, rfl, by decide⟩
structure Vote where
 kind : Int
 height : Int
 round : Int
 id : List Int
 time : Int
 from_ : Int
 sig : List Int
def encV (x : Vote) : AV := .agg (.cons (.v (.int .i64 x.kind)) (.cons (.v (.int .u64 x.height)) (.cons (.v (.int .i64 x.round)) (.cons (.ints .u8 32 x.id) (.cons (.v (.int .u64 x.time)) (.cons (.v (.int .u64 x.from_)) (.cons (.ints .u8 16 x.sig) .nil)))))))
def decV : AV → Option Vote
 | .agg (.cons (.v (.int .i64 k)) (.cons (.v (.int .u64 h)) (.cons (.v (.int .i64 r)) (.cons (.ints .u8 32 id) (.cons (.v (.int .u64 t)) (.cons (.v (.int .u64 f)) (.cons (.ints .u8 16 s) .nil))))))) => some ⟨k, h, r, id, t, f, s⟩
 | _ => none
theorem decV_enc {a : AV} {x : Vote} (h : decV a = some x) : a = encV x := by
 unfold decV at h
 split at h
 ·
  cases h; rfl
 ·
  cases h
def zeroH : List Int := List.replicate 32 0
def plainV (x : Vote) : Int := firstE [kindF x.kind 1 2, fieldF (heightB x.height), fieldF (roundB x.round), fieldF (momentB x.time),
 fieldF ((x.time != 0) && ((x.kind == 1) || intsEq 32 x.id zeroH)), fieldF (x.from_ == 0)]
def plainC (args : List AV) (_M : MemF) : Option (Prop × AV) := match args with
 | [a] => match decV a with
  | some x => some (True, .v (.int .i64 (plainV x)))
  | none => none
 | _ => none
def ctP2 : CtL := [(134, fieldC), (130, kindC), (131, heightC), (132, roundC), (133, momentC), (129, allC)]
theorem ctP2_ok : CtLOk Tryz.prog ctP2 := ⟨.fn field_body field_read, .fn kind_body kind_read, .fn height_body height_read, .fn round_body round_read, .fn moment_body moment_read, .fn all_body all_read, trivial⟩
theorem plain_read : ReadFn Tryz.prog 77 plainC := by
 intro args M q res h hq O w0 w hS
 unfold plainC at h
 split at h
 ·
  split at h
  ·
   rename_i a x hx
   cases h
   have ha := decV_enc hx
   subst ha
   refine ro_fn tabs2 ctP2_ok (cr := []) trivial Tryz.func77 rfl rfl (M := []) rfl trivial trivial ?_
   repeat (first | refine qs_ ?_ | refine qa_ ?_ | refine qo_ ?_ | refine qd_ ?_ | refine za ?_ | refine zb fun _ _ => ?_ | refine zc ?_ | refine ya ?_ | refine yb fun _ _ => ?_ | refine yc ?_ | refine qk_ ?_ | refine qb_ ?_ | refine qx_ ?_)
   refine s_draw rD77_1 rM77_1 rX77_1 rN77_1 rfl rfl ?_
   repeat (first | refine qs_ ?_ | refine qa_ ?_ | refine qo_ ?_ | refine qd_ ?_ | refine za ?_ | refine zb fun _ _ => ?_ | refine zc ?_ | refine ya ?_ | refine yb fun _ _ => ?_ | refine yc ?_ | refine qk_ ?_ | refine qb_ ?_ | refine qx_ ?_)
   refine d_val rfl rfl trivial ⟨trivial, ⟨rfl, rfl, Nat.le_refl _⟩, fun _ => rfl, by decide, fun i hi => ?_⟩ ?_
   ·
    rcases i with _ | _ | _ | _ | _ | _ | i <;> first | rfl | omega
   repeat (first | refine qs_ ?_ | refine qa_ ?_ | refine qo_ ?_ | refine qd_ ?_ | refine za ?_ | refine zb fun _ _ => ?_ | refine zc ?_ | refine ya ?_ | refine yb fun _ _ => ?_ | refine yc ?_ | refine qk_ ?_ | refine qb_ ?_ | refine qx_ ?_)
   refine s_ret ?_
   exact ⟨_, _, rfl, ⟨trivial, trivial⟩, rfl, rfl⟩
  ·
   cases h
 ·
  cases h
theorem plain_body : HasBody Tryz.prog 77 := ⟨_, Tryz.func77, rfl, by decide⟩
end Go.Proofs.YtofophjfgalhaaaGreatDoor.V
