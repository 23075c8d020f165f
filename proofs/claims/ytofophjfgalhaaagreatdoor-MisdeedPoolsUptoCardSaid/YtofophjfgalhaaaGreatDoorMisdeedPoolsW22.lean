import Derived.Test.YtofophjfgalhaaaGreatDoorMisdeedPoolsW08
import Derived.Test.YtofophjfgalhaaaGreatDoorMisdeedPoolsW17
import Derived.Test.YtofophjfgalhaaaGreatDoorMisdeedPoolsW20
import Derived.Test.YtofophjfgalhaaaGreatDoorMisdeedPoolsW21
set_option linter.unusedVariables false
set_option linter.unusedSimpArgs false
set_option maxRecDepth 100000
set_option maxHeartbeats 8000000
namespace Go.Proofs.YtofophjfgalhaaaGreatDoor.V
open Go Go.RowKit
def joinC (args : List AV) (M : MemF) : Option (Prop × AV) := match args, M 100003, M 100004 with
 | [Y], some (.var 3 (.ints .u32 8 B0)), some (.var 4 (.ints .u32 64 K)) => match seqOf M Y with
  | some (c, es, n, f) => match seqOf M (f 0) with
   | some (c2, es2, n2, fx) => some ((c ∧ n = 1 ∧ es = 1) ∧ (c2 ∧ (n2 ≠ 0 → es2 = 1) ∧ n2 < 4611686018427387904 ∧ ∀ i, i < n2 → fx i = .v (.int .u8 (fx i).int1)) ∧ capGe (f 0), .ints .u8 32 (digF K B0 (fun i => (fx i).int1) n2))
   | none => none
  | none => none
 | _, _, _ => none
def crJo : CrL := [(211, newHC), (212, writeC)]
theorem crJo_ok : CrLOk Tryz.prog crJo := ⟨⟨newH_body, newH_turn⟩, ⟨write_body, write_turn⟩, trivial⟩
def ctJo : CtL := [(213, hsumC)]
theorem ctJo_ok : CtLOk Tryz.prog ctJo := ⟨.fn hsum_body hsum_read, trivial⟩
theorem slice_cells {M : MemF} {x : AV} {r : Prop × Nat × Nat × (Nat → AV)} (h : seqOf M x = some r) {n : Nat} {base : Option (Nat × Nat)} {es len cap : Nat} (hv : x.val = slV base len cap) : x.cells = (roS n base es len cap).cells := by
 rw [seq_plain h, hv]
 have : (roS n base es len cap).cells = [(roS n base es len cap).val] := rfl
 rw [this, roS_val]
theorem join_read : ReadFn Tryz.prog 192 joinC := by
 intro args M q res h0 hq O w0 w hS
 unfold joinC at h0
 split at h0
 ·
  rename_i Y B0 K hM3 hM4
  split at h0
  ·
   rename_i c es n f hsq
   split at h0
   ·
    rename_i c2 es2 n2 fx hsx
    cases h0
    obtain ⟨⟨a1, a2, a3⟩, ⟨q1, q2, q3, q4⟩, hcg⟩ := hq
    subst a2 a3
    obtain ⟨base, cap, hv, hro⟩ := bytes_ro hS hsx q1 q2 q4
    obtain ⟨b, hb0⟩ : ∃ b, b = fun i => (fx i).int1 := ⟨_, rfl⟩
    rw [← hb0]
    have hro : (roB base 1 n2 fun i => .v (.int .u8 (b i))).holds w := by rw [hb0]; exact hro
    have hle : n2 ≤ cap := cap_of hsx q1 hv hcg
    obtain ⟨baseY, capY, hvY, hY⟩ := seqOf_spec hS hsq a1
    have hB := hS.holds _ _ hM3
    have hK := hS.holds _ _ hM4
    have hroY : (roB baseY 1 1 fun _ => roS 901 base 1 n2 cap).holds w := roB_holds fun _ => by
     obtain ⟨bb, oo, e1, e2⟩ := hY (by decide)
     refine ⟨bb, oo, e1, fun i hi => ⟨rfl, rfl, fun k hk => ?_⟩⟩
     have hi0 : i = 0 := by omega
     subst hi0
     rw [← slice_cells hsx hv]
     exact (e2 0 Nat.zero_lt_one).2.2 k hk
    rw [show [Y].map AV.val = [roS 900 baseY 1 1 capY].map AV.val by simp only [List.map_cons, List.map_nil, hvY, roS_val]]
    refine ro_fn tabs ctJo_ok crJo_ok Tryz.func192 rfl rfl (M := [(900, roB baseY 1 1 fun _ => roS 901 base 1 n2 cap), (901, roB base 1 n2 fun i => .v (.int .u8 (b i))), (100003, .var 3 (.ints .u32 8 B0)), (100004, .var 4 (.ints .u32 64 K))]) rfl ⟨roB_noOwn, roB_noOwn, fun _ h => h, fun _ h => h, trivial⟩ ⟨hroY, hro, hB, hK, trivial⟩ ?_
    repeat (first | refine qs_ ?_ | refine qa_ ?_ | refine qo_ ?_ | refine qd_ ?_ | refine za ?_ | refine zb fun _ _ => ?_ | refine zc ?_ | refine ya ?_ | refine yb fun _ _ => ?_ | refine yc ?_ | refine qk_ ?_ | refine qb_ ?_ | refine qx_ ?_)
    rename_i b2 _ b6 _
    refine s_loopW (α := Nat × Hs × Int) [5, 9, 10, 11, 12, 13, 14, 15, 16] [6] (fun x => x.1 ≤ 1 ∧ x.2.1.held < 64 ∧ digF K B0 b n2 = if x.1 = 0 then sumF K (ab K b n2 0 x.2.1) (IntKind.u64.wrap (x.2.2 + IntKind.u64.wrap n2)) else sumF K x.2.1 x.2.2) (fun x => [(9, none, .v (.int .i64 x.1))]) (fun x => [(6, .row b6 342 75 1 (fun _ => hsAV true x.2.1.ws x.2.1.pt x.2.1.held x.2.2) 1)]) (fun x => 1 - x.1) (0, ⟨B0, zs 64, 0⟩, 0) ⟨Nat.zero_le _, Nat.zero_lt_succ 63, rfl⟩ ?_ ?_
    ·
     exact leQ
    ·
     intro ⟨k, s, t⟩ ⟨hk, hlt, hz⟩
     dsimp only at hk hlt hz
     repeat (first | refine qs_ ?_ | refine qa_ ?_ | refine qo_ ?_ | refine qd_ ?_ | refine za ?_ | refine zb fun _ _ => ?_ | refine zc ?_ | refine ya ?_ | refine yb fun _ _ => ?_ | refine yc ?_ | refine qk_ ?_ | refine qb_ ?_ | refine qx_ ?_)
     refine s_cond (b := decide ((k : Int) < 1)) rfl (fun hb => ?_) (fun hb => ?_)
     ·
      have hk0 : k = 0 := by simp at hb; omega
      subst hk0
      rw [if_pos rfl] at hz
      repeat (first | refine qs_ ?_ | refine qa_ ?_ | refine qo_ ?_ | refine qd_ ?_ | refine za ?_ | refine zb fun _ _ => ?_ | refine zc ?_ | refine ya ?_ | refine yb fun _ _ => ?_ | refine yc ?_ | refine qk_ ?_ | refine qb_ ?_ | refine qx_ ?_)
      refine ⟨(1, ab K b n2 0 s, IntKind.u64.wrap (t + IntKind.u64.wrap n2)), ⟨Nat.le_refl _, ab_lt K b n2 0 _ hlt, hz⟩, Nat.zero_lt_one, ?_⟩
      exact leQ
     ·
      have hk1 : k = 1 := by simp at hb; omega
      subst hk1
      rw [if_neg (by decide)] at hz
      repeat (first | refine qs_ ?_ | refine qa_ ?_ | refine qo_ ?_ | refine qd_ ?_ | refine za ?_ | refine zb fun _ _ => ?_ | refine zc ?_ | refine ya ?_ | refine yb fun _ _ => ?_ | refine yc ?_ | refine qk_ ?_ | refine qb_ ?_ | refine qx_ ?_)
      refine s_ret ?_
      exact ⟨_, _, rfl, ⟨⟨⟨rfl, rfl, rfl, Nat.zero_lt_one⟩, rfl⟩, trivial⟩, rfl, by rw [hz]; rfl⟩
   ·
    cases h0
  ·
   cases h0
 ·
  cases h0
theorem join_body : HasBody Tryz.prog 192 := ⟨_, Tryz.func192, rfl, by decide⟩
def dsumC (args : List AV) (M : MemF) : Option (Prop × AV) := match args, M 100003, M 100004 with
 | [X], some (.var 3 (.ints .u32 8 B0)), some (.var 4 (.ints .u32 64 K)) => match seqOf M X with
  | some (c2, es2, n2, fx) => some ((c2 ∧ (n2 ≠ 0 → es2 = 1) ∧ n2 < 4611686018427387904 ∧ ∀ i, i < n2 → fx i = .v (.int .u8 (fx i).int1)) ∧ capGe X, .ints .u8 32 (digF K B0 (fun i => (fx i).int1) n2))
  | none => none
 | _, _, _ => none
def ctDs : CtL := [(192, joinC)]
theorem ctDs_ok : CtLOk Tryz.prog ctDs := ⟨.fn join_body join_read, trivial⟩
theorem dsum_read : ReadFn Tryz.prog 158 dsumC := by
 intro args M q res h0 hq O w0 w hS
 unfold dsumC at h0
 split at h0
 ·
  rename_i X B0 K hM3 hM4
  split at h0
  ·
   rename_i c2 es2 n2 fx hsx
   cases h0
   obtain ⟨⟨q1, q2, q3, q4⟩, hcg⟩ := hq
   obtain ⟨base, cap, hv, hro⟩ := bytes_ro hS hsx q1 q2 q4
   obtain ⟨b, hb0⟩ : ∃ b, b = fun i => (fx i).int1 := ⟨_, rfl⟩
   rw [← hb0]
   have hro : (roB base 1 n2 fun i => .v (.int .u8 (b i))).holds w := by rw [hb0]; exact hro
   have hle : n2 ≤ cap := cap_of hsx q1 hv hcg
   have hB := hS.holds _ _ hM3
   have hK := hS.holds _ _ hM4
   rw [show [X].map AV.val = [roS 901 base 1 n2 cap].map AV.val by simp only [List.map_cons, List.map_nil, hv, roS_val]]
   refine ro_fn tabs ctDs_ok (cr := []) trivial Tryz.func158 rfl rfl (M := [(901, roB base 1 n2 fun i => .v (.int .u8 (b i))), (100003, .var 3 (.ints .u32 8 B0)), (100004, .var 4 (.ints .u32 64 K))]) rfl ⟨roB_noOwn, fun _ h => h, fun _ h => h, trivial⟩ ⟨hro, hB, hK, trivial⟩ ?_
   repeat (first | refine qs_ ?_ | refine qa_ ?_ | refine qo_ ?_ | refine qd_ ?_ | refine za ?_ | refine zb fun _ _ => ?_ | refine zc ?_ | refine ya ?_ | refine yb fun _ _ => ?_ | refine yc ?_ | refine qk_ ?_ | refine qb_ ?_ | refine qx_ ?_)
   refine s_ret ?_
   exact ⟨_, _, rfl, ⟨⟨⟨rfl, rfl, rfl, Nat.zero_lt_one⟩, rfl⟩, trivial⟩, rfl, rfl⟩
  ·
   cases h0
 ·
  cases h0
theorem dsum_body : HasBody Tryz.prog 158 := ⟨_, Tryz.func158, rfl, by decide⟩
def blks (K : List Int) (b : Nat → Int) : Nat → Nat → List Int → List Int
 | 0, _, h => h
 | m + 1, i, h => blks K b m (i + 64) (blkF K h fun j => b (j + i))
def lb (l : List Int) (i : Nat) : Int := l.getD i 0
def padZ (l : List Int) : List Int := l ++ List.replicate ((120 - l.length % 64) % 64) 0
def tbR (nb : Int) (i : Int) : Int := IntKind.u8.wrap (nb.fdiv (2 ^ min (IntKind.u64.wrap (IntKind.i64.wrap (8 * i))).toNat 64))
def tailsR (nb : Int) : Nat → List Int → List Int
 | 0, l => l
 | k + 1, l => tailsR nb k (l ++ [tbR nb (((k + 1 : Nat) : Int) - 1)])
def obR (ws : List Int) (i : Int) : Int := IntKind.u8.wrap ((aI ws (IntKind.i64.wrap (i.tdiv 4))).fdiv (2 ^ min (IntKind.u64.wrap (IntKind.i64.wrap (24 - IntKind.i64.wrap (8 * i.tmod 4)))).toNat 32))
def outR (ws : List Int) : Nat → Nat → List Int → List Int
 | 0, _, l => l
 | n + 1, i, l => outR ws n (i + 1) (pI 32 l i (obR ws i))
def rest (b : Nat → Int) (n : Nat) : List Int := (List.range (n % 64)).map fun j => b (j + 64 * (n / 64))
def endR (b : Nat → Int) (n : Nat) : List Int := tailsR (IntKind.u64.wrap (IntKind.u64.wrap n * 8)) 8 (padZ (rest b n ++ [128]))
def refF (K B0 : List Int) (b : Nat → Int) (n : Nat) : List Int :=
 outR (blks K (lb (endR b n)) ((endR b n).length / 64) 0 (blks K b (n / 64) 0 B0)) 32 0 (zs 32)
theorem padZ_succ {l : List Int} (h : l.length % 64 ≠ 56) : padZ l = padZ (l ++ [0]) := by
 unfold padZ
 have h1 : (120 - l.length % 64) % 64 = (120 - (l ++ [(0 : Int)]).length % 64) % 64 + 1 := by
  rw [List.length_append, List.length_singleton]; omega
 rw [h1, List.append_assoc, List.replicate_succ]; rfl
theorem padZ_end {l : List Int} (h : l.length % 64 = 56) : padZ l = l := by
 unfold padZ; rw [h]; simp
theorem ab_add (K : List Int) (b : Nat → Int) : ∀ (n m i : Nat) (s : Hs), ab K b (n + m) i s = ab K b m (i + n) (ab K b n i s)
 | 0, m, i, s => by rw [Nat.zero_add]; rfl
 | n + 1, m, i, s => by
  rw [show n + 1 + m = (n + m) + 1 by omega]
  show ab K b (n + m) (i + 1) (stp K s (b i)) = ab K b m (i + (n + 1)) (ab K b n (i + 1) (stp K s (b i)))
  rw [ab_add K b n m (i + 1), show i + 1 + n = i + (n + 1) by omega]
theorem ab_congr (K : List Int) {b b' : Nat → Int} : ∀ (n i i' : Nat) (s : Hs), (∀ j, j < n → b (i + j) = b' (i' + j)) → ab K b n i s = ab K b' n i' s
 | 0, _, _, _, _ => rfl
 | n + 1, i, i', s, h => by
  show ab K b n (i + 1) (stp K s (b i)) = ab K b' n (i' + 1) (stp K s (b' i'))
  have h0 : b i = b' i' := h 0 (by omega)
  rw [h0]
  refine ab_congr K n _ _ _ fun j hj => ?_
  have := h (j + 1) (by omega)
  rw [show i + 1 + j = i + (j + 1) by omega, show i' + 1 + j = i' + (j + 1) by omega]
  exact this
theorem ab_held (K : List Int) (b : Nat → Int) : ∀ (n i : Nat) (s : Hs), s.held < 64 → (ab K b n i s).held = (s.held + n) % 64
 | 0, i, s, h => by show s.held = _; omega
 | n + 1, i, s, h => by
  show (ab K b n (i + 1) (stp K s (b i))).held = _
  rw [ab_held K b n (i + 1) _ (stp_lt K s _ h), stp_held K s _ h]
  omega
theorem lcopy64 (pt : List Int) (src : Nat → Int) {i : Nat} (h : i < 64) : (lcopy 64 pt 0 64 src).getD i 0 = src i := by
 rw [lcopy_get 64 pt 0 64 src h, if_pos (by omega), Nat.sub_zero]
theorem ab_blk (K : List Int) (b : Nat → Int) : ∀ (m i : Nat) (ws pt : List Int), (ab K b (64 * m) i ⟨ws, pt, 0⟩).ws = blks K b m i ws
 | 0, i, ws, pt => rfl
 | m + 1, i, ws, pt => by
  have h := ab_chunk K b 63 (64 * m) i ws pt 0 (by decide)
  rw [show 64 * (m + 1) = 64 * m + (63 + 1) by omega, h]
  have hf : full K ws (lcopy 64 pt 0 (63 + 1) fun j => b (j + i)) (0 + (63 + 1)) = ⟨mixF K ws (lcopy 64 pt 0 64 fun j => b (j + i)), lcopy 64 pt 0 64 fun j => b (j + i), 0⟩ := rfl
  rw [hf, ab_blk K b m (i + (63 + 1))]
  show blks K b m (i + 64) _ = blks K b m (i + 64) _
  rw [blk_mix (c := lcopy 64 pt 0 64 fun j => b (j + i)) fun j hj => (lcopy64 pt _ hj).symm]
theorem blk_congr (K s : List Int) {b b' : Nat → Int} (h : ∀ i, i < 64 → b i = b' i) : blkF K s b = blkF K s b' := by
 have e : ∀ i, i < 64 → ((List.range 64).map b).getD i 0 = b i := fun i hi => by
  rw [List.getD_eq_getElem?_getD, List.getElem?_map, List.getElem?_range hi]; rfl
 rw [blk_mix (b := b) (c := (List.range 64).map b) fun i hi => (e i hi).symm, blk_mix (b := b') (c := (List.range 64).map b) fun i hi => by rw [e i hi, h i hi]]
theorem blks_congr (K : List Int) {b b' : Nat → Int} : ∀ (m i i' : Nat) (h : List Int), (∀ j, j < 64 * m → b (j + i) = b' (j + i')) → blks K b m i h = blks K b' m i' h
 | 0, _, _, _, _ => rfl
 | m + 1, i, i', h, hb => by
  show blks K b m (i + 64) _ = blks K b' m (i' + 64) _
  rw [blk_congr K h fun j hj => hb j (by omega)]
  refine blks_congr K m _ _ _ fun j hj => ?_
  have := hb (j + 64) (by omega)
  rw [show j + (i + 64) = j + 64 + i by omega, show j + (i' + 64) = j + 64 + i' by omega]
  exact this
theorem blks_add (K : List Int) (b : Nat → Int) : ∀ (m m' i : Nat) (h : List Int), blks K b (m + m') i h = blks K b m' (i + 64 * m) (blks K b m i h)
 | 0, m', i, h => by rw [Nat.zero_add]; rfl
 | m + 1, m', i, h => by
  rw [show m + 1 + m' = (m + m') + 1 by omega]
  show blks K b (m + m') (i + 64) _ = blks K b m' (i + 64 * (m + 1)) (blks K b m (i + 64) _)
  rw [blks_add K b m m' (i + 64), show i + 64 + 64 * m = i + 64 * (m + 1) by omega]
theorem tailsR8 (nb : Int) (l : List Int) : tailsR nb 8 l = l ++ [tbR nb 7, tbR nb 6, tbR nb 5, tbR nb 4, tbR nb 3, tbR nb 2, tbR nb 1, tbR nb 0] := by
 simp only [tailsR, List.append_assoc, List.cons_append, List.nil_append]
 rfl
theorem tl8 (nb : Int) : tl nb 8 0 (zs 8) = [tailB nb 0, tailB nb 1, tailB nb 2, tailB nb 3, tailB nb 4, tailB nb 5, tailB nb 6, tailB nb 7] := rfl
theorem tb_eq (nb : Int) {i k : Int} (h : min (i64 (56 - i64 (8 * k))).toNat 64 = min (IntKind.u64.wrap (IntKind.i64.wrap (8 * i))).toNat 64) : tailB nb k = tbR nb i := by
 unfold tailB tbR; rw [h]
theorem tail_eq (nb : Int) : tl nb 8 0 (zs 8) = [tbR nb 7, tbR nb 6, tbR nb 5, tbR nb 4, tbR nb 3, tbR nb 2, tbR nb 1, tbR nb 0] := by
 rw [tl8, tb_eq nb (i := 7) (k := 0) (by decide), tb_eq nb (i := 6) (k := 1) (by decide), tb_eq nb (i := 5) (k := 2) (by decide), tb_eq nb (i := 4) (k := 3) (by decide), tb_eq nb (i := 3) (k := 4) (by decide), tb_eq nb (i := 2) (k := 5) (by decide), tb_eq nb (i := 1) (k := 6) (by decide), tb_eq nb (i := 0) (k := 7) (by decide)]
def lst (v : Nat → Int) (i : Nat) : List Int := (List.range 32).map fun j => if j < i then v j else 0
theorem lst_get (v : Nat → Int) (i : Nat) {j : Nat} (h : j < 32) : (lst v i).getD j 0 = if j < i then v j else 0 := by
 unfold lst; rw [List.getD_eq_getElem?_getD, List.getElem?_map, List.getElem?_range h]; rfl
theorem lst_zero (v : Nat → Int) : lst v 0 = zs 32 := by
 unfold lst zs
 rw [List.map_congr_left (g := fun _ => (0 : Int)) fun j _ => by simp, List.map_const']
 simp
theorem pI_lst (v : Nat → Int) (i : Nat) (h : i < 32) : pI 32 (lst v i) (i : Int) (v i) = lst v (i + 1) := by
 unfold pI lset
 rw [Int.toNat_natCast, Nat.zero_add]
 show _ = (List.range 32).map fun j => if j < i + 1 then v j else 0
 refine List.map_congr_left fun j hj => ?_
 have hj := List.mem_range.1 hj
 by_cases e : j = i
 ·
  subst e; rw [if_pos rfl, if_pos (by omega)]
 ·
  rw [if_neg e, lst_get v i hj]
  by_cases e2 : j < i
  ·
   rw [if_pos e2, if_pos (by omega)]
  ·
   rw [if_neg e2, if_neg (by omega)]
def wb (ws : List Int) (i : Nat) : Int := IntKind.u8.wrap ((ws.getD (i / 4) 0).fdiv (2 ^ (24 - 8 * (i % 4))))
theorem lt4 {n : Nat} (h : n < 4) : n = 0 ∨ n = 1 ∨ n = 2 ∨ n = 3 := by omega
theorem obR_eq (ws : List Int) {i : Nat} (h : i < 32) : obR ws i = wb ws i := by
 unfold obR wb
 have e1 : (i : Int).tdiv 4 = ((i / 4 : Nat) : Int) := by rw [Int.tdiv_eq_ediv_of_nonneg (by omega)]; rfl
 have e2 : (i : Int).tmod 4 = ((i % 4 : Nat) : Int) := by rw [Int.tmod_eq_emod_of_nonneg (by omega)]; rfl
 rw [e1, e2, wi64 (n := ((i / 4 : Nat) : Int)) (by omega) (by omega)]
 have e3 : aI ws ((i / 4 : Nat) : Int) = ws.getD (i / 4) 0 := by unfold aI; rw [Int.toNat_natCast, Nat.zero_add]
 rw [e3]
 rcases lt4 (Nat.mod_lt i (by decide : 0 < 4)) with h4 | h4 | h4 | h4 <;> rw [h4] <;> rfl
theorem outB_eq (ws : List Int) (k : Nat) {j : Nat} (h : j < 4) : outB (ws.getD k 0) j = wb ws (4 * k + j) := by
 unfold outB wb
 rw [show (4 * k + j) / 4 = k by omega, show (4 * k + j) % 4 = j by omega]
 rcases lt4 h with rfl | rfl | rfl | rfl <;> rfl
theorem outR_lst (ws : List Int) : ∀ n i, n + i = 32 → outR ws n i (lst (wb ws) i) = lst (wb ws) 32
 | 0, i, h => by rw [show i = 32 by omega]; rfl
 | n + 1, i, h => by
  show outR ws n (i + 1) (pI 32 (lst (wb ws) i) i (obR ws i)) = _
  rw [obR_eq ws (by omega), pI_lst _ i (by omega)]
  exact outR_lst ws n (i + 1) (by omega)
theorem out4_lst (ws : List Int) {k : Nat} (hk : k < 8) : ∀ n j, n + j = 4 → out4 (ws.getD k 0) k n j (lst (wb ws) (4 * k + j)) = lst (wb ws) (4 * k + 4)
 | 0, j, h => by rw [show j = 4 by omega]; rfl
 | n + 1, j, h => by
  show out4 (ws.getD k 0) k n (j + 1) (pI 32 (lst (wb ws) (4 * k + j)) (i64 (i64 (4 * (k : Int)) + (j : Int))) (outB (ws.getD k 0) j)) = _
  have e : i64 (i64 (4 * (k : Int)) + (j : Int)) = ((4 * k + j : Nat) : Int) := by
   unfold i64
   rw [wi64 (n := 4 * (k : Int)) (by omega) (by omega), wi64 (by omega) (by omega)]; omega
  rw [e, outB_eq ws k (by omega), pI_lst _ _ (by omega)]
  exact out4_lst ws hk n (j + 1) (by omega)
theorem out8_lst (ws : List Int) : ∀ n k, n + k = 8 → out8 ws n k (lst (wb ws) (4 * k)) = lst (wb ws) 32
 | 0, k, h => by rw [show k = 8 by omega]; rfl
 | n + 1, k, h => by
  show out8 ws n (k + 1) (out4 (ws.getD k 0) k 4 0 (lst (wb ws) (4 * k))) = _
  have := out4_lst ws (k := k) (by omega) 4 0 rfl
  rw [Nat.add_zero] at this
  rw [this]
  exact out8_lst ws n (k + 1) (by omega)
theorem out_eq (ws : List Int) : out8 ws 8 0 (zs 32) = outR ws 32 0 (zs 32) := by
 rw [← lst_zero (wb ws)]
 have h1 := out8_lst ws 8 0 rfl
 rw [Nat.mul_zero] at h1
 rw [h1, outR_lst ws 32 0 rfl]
theorem rest_length (b : Nat → Int) (n : Nat) : (rest b n).length = n % 64 := by unfold rest; simp
theorem rest_get (b : Nat → Int) (n : Nat) {j : Nat} (h : j < n % 64) : (rest b n).getD j 0 = b (j + 64 * (n / 64)) := by
 unfold rest; rw [List.getD_eq_getElem?_getD, List.getElem?_map, List.getElem?_range h]; rfl
theorem getD_app_l {l m : List Int} {i : Nat} (h : i < l.length) : (l ++ m).getD i 0 = l.getD i 0 := by
 rw [List.getD_eq_getElem?_getD, List.getElem?_append_left h, ← List.getD_eq_getElem?_getD]
theorem getD_app_r {l m : List Int} {i : Nat} (h : l.length ≤ i) : (l ++ m).getD i 0 = m.getD (i - l.length) 0 := by
 rw [List.getD_eq_getElem?_getD, List.getElem?_append_right h, ← List.getD_eq_getElem?_getD]
theorem getD_rep (n : Nat) {i : Nat} : (List.replicate n (0 : Int)).getD i 0 = 0 := by
 rw [List.getD_eq_getElem?_getD, List.getElem?_replicate]
 split <;> rfl
def zR (n : Nat) : Nat := (120 - (n + 1) % 64) % 64
theorem endR_eq (b : Nat → Int) (n : Nat) : endR b n = rest b n ++ ([128] ++ (List.replicate (zR n) 0 ++ tl (IntKind.u64.wrap (IntKind.u64.wrap n * 8)) 8 0 (zs 8))) := by
 unfold endR
 rw [tailsR8, tail_eq]
 unfold padZ
 have : (120 - (rest b n ++ [(128 : Int)]).length % 64) % 64 = zR n := by
  rw [List.length_append, rest_length]; unfold zR; simp
 rw [this]
 simp only [List.append_assoc]
theorem endR_length (b : Nat → Int) (n : Nat) : (endR b n).length = n % 64 + 1 + zR n + 8 := by
 rw [endR_eq, tl8]
 simp only [List.length_append, List.length_replicate, rest_length, List.length_cons, List.length_nil]
 omega
theorem end_div (n : Nat) : 64 * (n / 64) + (n % 64 + 1 + zR n + 8) = n + 1 + zR n + 8 ∧ (n % 64 + 1 + zR n + 8) % 64 = 0 := by
 unfold zR; omega
def allB (b : Nat → Int) (n : Nat) (i : Nat) : Int := if i < n then b i else lb (endR b n) (i - 64 * (n / 64))
theorem allB_end (b : Nat → Int) (n : Nat) {j : Nat} (h : j < n % 64 + 1 + zR n + 8) : allB b n (j + 64 * (n / 64)) = lb (endR b n) j := by
 unfold allB
 split
 ·
  rename_i hl
  unfold lb
  rw [endR_eq, getD_app_l (by rw [rest_length]; omega), rest_get b n (by omega)]
 ·
  rw [Nat.add_sub_cancel]
theorem end_at (b : Nat → Int) (n : Nat) {j : Nat} (h : n % 64 ≤ j) : lb (endR b n) j = ([128] ++ (List.replicate (zR n) 0 ++ tl (IntKind.u64.wrap (IntKind.u64.wrap n * 8)) 8 0 (zs 8)) : List Int).getD (j - n % 64) 0 := by
 unfold lb
 rw [endR_eq, getD_app_r (by rw [rest_length]; exact h), rest_length]
theorem allB_at (b : Nat → Int) (n : Nat) {j : Nat} (h : n ≤ j) : allB b n j = ([128] ++ (List.replicate (zR n) 0 ++ tl (IntKind.u64.wrap (IntKind.u64.wrap n * 8)) 8 0 (zs 8)) : List Int).getD (j - n) 0 := by
 unfold allB
 rw [if_neg (by omega), end_at b n (by omega)]
 congr 1; omega
theorem absorbed (K B0 : List Int) (b : Nat → Int) (n : Nat) (hn : n < 4611686018427387904) :
  pad2 K (ab K b n 0 ⟨B0, zs 64, 0⟩) (IntKind.u64.wrap (0 + IntKind.u64.wrap n)) = ab K (allB b n) (n + 1 + zR n + 8) 0 ⟨B0, zs 64, 0⟩ := by
 have hw : IntKind.u64.wrap (0 + IntKind.u64.wrap (n : Int)) = IntKind.u64.wrap n := by
  rw [Int.zero_add, wu64 (n := (n : Int)) (by omega) (by omega), wu64 (by omega) (by omega)]
 have e1 : ab K (allB b n) n 0 ⟨B0, zs 64, 0⟩ = ab K b n 0 ⟨B0, zs 64, 0⟩ := ab_congr K n 0 0 _ fun j hj => by
  unfold allB; rw [if_pos (by omega)]
 obtain ⟨s1, hs1⟩ : ∃ s1, s1 = ab K b n 0 ⟨B0, zs 64, 0⟩ := ⟨_, rfl⟩
 have hh : s1.held = n % 64 := by
  rw [hs1, ab_held K b n 0 _ (show 0 < 64 by decide)]; simp
 have e2 : ab K (allB b n) 1 n s1 = stp K s1 128 := by
  show stp K s1 (allB b n n) = _
  rw [allB_at b n (Nat.le_refl _), Nat.sub_self]; rfl
 have hz : zN (stp K s1 128).held = zR n := by
  rw [stp_held K s1 _ (by omega), hh]; unfold zN zR; omega
 rw [ab_add K _ (n + 1 + zR n) 8, ab_add K _ (n + 1) (zR n), ab_add K _ n 1, e1, ← hs1, Nat.zero_add n, e2, hw]
 unfold pad2 pad1
 rw [hz]
 have e3 : ab K (allB b n) (zR n) (n + 1) (stp K s1 128) = ab K (fun _ => 0) (zR n) 0 (stp K s1 128) := ab_congr K _ _ _ _ fun j hj => by
  rw [allB_at b n (by omega), getD_app_r (by simp; omega), getD_app_l (by simp; omega), getD_rep]
 have hlen : ([128] : List Int).length = 1 := rfl
 rw [Nat.zero_add (n + 1), Nat.zero_add (n + 1 + zR n), e3]
 refine (ab_congr K 8 _ _ _ fun j hj => ?_).symm
 rw [allB_at b n (by omega), getD_app_r (by rw [hlen]; omega), getD_app_r (by rw [hlen, List.length_replicate]; omega)]
 unfold tailL
 rw [hlen, List.length_replicate]
 congr 1; omega
theorem dig_ref (K B0 : List Int) (b : Nat → Int) (n : Nat) (hn : n < 4611686018427387904) : digF K B0 b n = refF K B0 b n := by
 unfold digF refF sumF
 rw [out_eq, absorbed K B0 b n hn]
 congr 1
 obtain ⟨h1, h2⟩ := end_div n
 obtain ⟨q, hq⟩ : ∃ q, n % 64 + 1 + zR n + 8 = 64 * q := ⟨(n % 64 + 1 + zR n + 8) / 64, by omega⟩
 have hl : (endR b n).length / 64 = q := by rw [endR_length]; omega
 rw [hl, show n + 1 + zR n + 8 = 64 * (n / 64 + q) by omega, ab_blk, blks_add, Nat.zero_add]
 rw [blks_congr K (b := allB b n) (b' := b) (n / 64) 0 0 B0 fun j hj => by
  unfold allB; rw [if_pos (by omega)]]
 refine blks_congr K q _ _ _ fun j hj => ?_
 rw [allB_end b n (by omega), Nat.add_zero]
def vl (l : List Int) (i : Nat) : AV := .v (.int .u8 (lb l i))
theorem fapp_vl {l m : List Int} {f src : Nat → AV} (hf : ∀ i, i < l.length → f i = vl l i) (hs : ∀ i, i < m.length → src i = vl m i) : ∀ i, i < (l ++ m).length → fapp l.length f src i = vl (l ++ m) i := by
 intro i hi
 rw [List.length_append] at hi
 by_cases h : i < l.length
 ·
  rw [fapp_lt h, hf i h]; unfold vl lb; rw [getD_app_l h]
 ·
  rw [fapp_ge (by omega), hs _ (by omega)]; unfold vl lb; rw [getD_app_r (by omega)]
def b0L : List Int := [1779033703, 3144134277, 1013904242, 2773480762, 1359893119, 2600822924, 528734635, 1541459225]
def rsumC (args : List AV) (M : MemF) : Option (Prop × AV) := match args, M 100002 with
 | [X], some (.var 2 (.ints .u32 64 K)) => match seqOf M X with
  | some (c2, es2, n2, fx) => some ((c2 ∧ (n2 ≠ 0 → es2 = 1) ∧ n2 ≤ 100000000000 ∧ ∀ i, i < n2 → fx i = .v (.int .u8 (fx i).int1)) ∧ capGe X, .ints .u8 32 (refF K b0L (fun i => (fx i).int1) n2))
  | none => none
 | _, _ => none
def ctRs : CtL := [(200, blkC)]
theorem ctRs_ok : CtLOk Tryz.prog ctRs := ⟨.fn blk_body blk_read, trivial⟩
theorem gs_len {g : Option Bool} {n ix : Nat} {a : Option (Nat × Nat)} {es i0 l l' c : Nat} (h : l = l') : some (g, AV.gs n ix a es i0 l c) = some (g, AV.gs n ix a es i0 l' c) := by rw [h]
theorem one_vl (x : Int) (t : AV) : ∀ i, i < [x].length → (AV.cons (.v (.int .u8 x)) t).nthA (i + 0) = vl [x] i := by
 intro i hi
 have hi : i < 1 := hi
 have : i = 0 := by omega
 subst this; rfl
theorem tailsR_length (nb : Int) : ∀ (k : Nat) (l : List Int), (tailsR nb k l).length = l.length + k
 | 0, l => rfl
 | k + 1, l => by
  show (tailsR nb k (l ++ _)).length = _
  rw [tailsR_length nb k, List.length_append, List.length_singleton]; omega
theorem padZ_length (l : List Int) : l.length ≤ (padZ l).length ∧ (padZ l).length ≤ l.length + 63 := by
 unfold padZ; rw [List.length_append, List.length_replicate]; omega
theorem rsum_read : ReadFn Tryz.prog 167 rsumC := by
 intro args M q res h0 hq O w0 w hS
 unfold rsumC at h0
 split at h0
 ·
  rename_i X K hM2
  split at h0
  ·
   rename_i c2 es2 n fx hsx
   cases h0
   obtain ⟨⟨q1, q2, q3, q4⟩, hcg⟩ := hq
   obtain ⟨base, cap, hv, hro⟩ := bytes_ro hS hsx q1 q2 q4
   obtain ⟨b, hb0⟩ : ∃ b, b = fun i => (fx i).int1 := ⟨_, rfl⟩
   rw [← hb0]
   have hro : (roB base 1 n fun i => .v (.int .u8 (b i))).holds w := by rw [hb0]; exact hro
   have hle : n ≤ cap := cap_of hsx q1 hv hcg
   have hK := hS.holds _ _ hM2
   rw [show [X].map AV.val = [roS 900 base 1 n cap].map AV.val by simp only [List.map_cons, List.map_nil, hv, roS_val]]
   refine ro_fn tabs ctRs_ok (cr := []) trivial Tryz.func167 rfl rfl (M := [(900, roB base 1 n fun i => .v (.int .u8 (b i))), (100002, .var 2 (.ints .u32 64 K))]) rfl ⟨roB_noOwn, fun _ h => h, trivial⟩ ⟨hro, hK, trivial⟩ ?_
   repeat (first | refine qs_ ?_ | refine qa_ ?_ | refine qo_ ?_ | refine qd_ ?_ | refine za ?_ | refine zb fun _ _ => ?_ | refine zc ?_ | refine ya ?_ | refine yb fun _ _ => ?_ | refine yc ?_ | refine qk_ ?_ | refine qb_ ?_ | refine qx_ ?_)
   rename_i b2 _ b3 _
   refine s_loopW (α := Nat × List Int) [4, 12, 13, 14, 15, 16, 17, 18, 19, 20, 21, 22, 23, 24, 25] [3] (fun x => 64 * x.1 ≤ n ∧ blks K b (n / 64) 0 b0L = blks K b (n / 64 - x.1) (64 * x.1) x.2) (fun x => [(4, none, .v (.int .i64 ((64 * x.1 : Nat) : Int)))]) (fun x => [(3, .row b3 320 8 1 (fun _ => .ints .u32 8 x.2) 1)]) (fun x => n - 64 * x.1) (0, b0L) ⟨Nat.zero_le _, rfl⟩ ?_ ?_
   ·
    exact leQ
   ·
    intro ⟨m, h⟩ ⟨hm, hz⟩
    dsimp only at hm hz
    have hw : IntKind.i64.wrap (((64 * m : Nat) : Int) + 64) = ((64 * m + 64 : Nat) : Int) := by rw [wi64 (by omega) (by omega)]; omega
    repeat (first | refine qs_ ?_ | refine qa_ ?_ | refine qo_ ?_ | refine qd_ ?_ | refine za ?_ | refine zb fun _ _ => ?_ | refine zc ?_ | refine ya ?_ | refine yb fun _ _ => ?_ | refine yc ?_ | refine qk_ ?_ | refine qb_ ?_ | refine qx_ ?_)
    refine s_cond (b := decide (64 * m + 64 ≤ n)) (by rw [show decide (64 * m + 64 ≤ n) = decide (IntKind.i64.wrap (((64 * m : Nat) : Int) + 64) ≤ (n : Int)) from by rw [hw]; exact decide_eq_decide.2 (by omega)]; rfl) (fun hb => ?_) (fun hb => ?_)
    ·
     have hlt : 64 * m + 64 ≤ n := of_decide_eq_true hb
     rw [show n / 64 - m = (n / 64 - (m + 1)) + 1 by omega, blks] at hz
     repeat (first | refine qs_ ?_ | refine qa_ ?_ | refine qo_ ?_ | refine qd_ ?_ | refine za ?_ | refine zb fun _ _ => ?_ | refine zc ?_ | refine ya ?_ | refine yb fun _ _ => ?_ | refine yc ?_ | refine qk_ ?_ | refine qb_ ?_ | refine qx_ ?_)
     refine s_draw rD167_4 rM167_4 [(3, [7])] rN167_4 rfl rfl ?_
     repeat (first | refine qs_ ?_ | refine qa_ ?_ | refine qo_ ?_ | refine qd_ ?_ | refine za ?_ | refine zb fun _ _ => ?_ | refine zc ?_ | refine ya ?_ | refine yb fun _ _ => ?_ | refine yc ?_ | refine qk_ ?_ | refine qb_ ?_ | refine qx_ ?_)
     have hlen : (IntKind.i64.wrap (((64 * m : Nat) : Int) + 64)).toNat - (((64 * m : Nat) : Int)).toNat = 64 := by rw [hw]; omega
     have hcut : cutOff (some ((64 * m : Nat) : Int)) cap (((64 * m : Nat) : Int)).toNat = 64 * m := by unfold cutOff; simp only; rw [if_neg (by omega)]; omega
     refine d_val rfl rfl trivial ⟨trivial, ⟨rfl, rfl, ?hi⟩, fun _ => rfl, hlen, fun _ _ => rfl⟩ ?_
     case hi =>
      show cutOff (some ((64 * m : Nat) : Int)) cap (((64 * m : Nat) : Int)).toNat + 0 + ((IntKind.i64.wrap (((64 * m : Nat) : Int) + 64)).toNat - (((64 * m : Nat) : Int)).toNat) ≤ n
      rw [hlen, hcut]; omega
     repeat (first | refine qs_ ?_ | refine qa_ ?_ | refine qo_ ?_ | refine qd_ ?_ | refine za ?_ | refine zb fun _ _ => ?_ | refine zc ?_ | refine ya ?_ | refine yb fun _ _ => ?_ | refine yc ?_ | refine qk_ ?_ | refine qb_ ?_ | refine qx_ ?_)
     have hz2 : blks K b (n / 64) 0 b0L = blks K b (n / 64 - (m + 1)) (64 * m + 64) (blkF K h fun i => b (i + (cutOff (some ((64 * m : Nat) : Int)) cap (((64 * m : Nat) : Int)).toNat + 0))) := by rw [hcut, Nat.add_zero]; exact hz
     refine ⟨(m + 1, blkF K h fun i => b (i + (cutOff (some ((64 * m : Nat) : Int)) cap (((64 * m : Nat) : Int)).toNat + 0))), ⟨by dsimp only; omega, hz2⟩, by dsimp only; omega, ?_⟩
     exact leQ
    ·
     have hge : ¬ 64 * m + 64 ≤ n := of_decide_eq_false hb
     have hm2 : m = n / 64 := by omega
     subst hm2
     have hh : blks K b (n / 64) 0 b0L = h := by rw [hz, Nat.sub_self]; rfl
     obtain ⟨l0, hl0⟩ : ∃ l0, l0 = rest b n := ⟨_, rfl⟩
     have hl0n : l0.length = n % 64 := by rw [hl0]; exact rest_length b n
     have hlen : n - (((64 * (n / 64) : Nat) : Int)).toNat = l0.length := by rw [hl0n]; omega
     have hcut : l0.length ≠ 0 → cutOff (some ((64 * (n / 64) : Nat) : Int)) cap (((64 * (n / 64) : Nat) : Int)).toNat = 64 * (n / 64) := fun _ => by unfold cutOff; simp only; rw [if_neg (by omega)]; omega
     repeat (first | refine qs_ ?_ | refine qa_ ?_ | refine qo_ ?_ | refine qd_ ?_ | refine za ?_ | refine zb fun _ _ => ?_ | refine zc ?_ | refine ya ?_ | refine yb fun _ _ => ?_ | refine yc ?_ | refine qk_ ?_ | refine qb_ ?_ | refine qx_ ?_)
     refine o_new rfl rfl rfl ⟨(none, _), Nat.le_refl _⟩ ?hc (fun x hx => ?_)
     case hc =>
      refine ⟨⟨⟨rfl, rfl, ?hi⟩, fun _ => rfl⟩, ⟨rfl, rfl⟩, ?hb⟩
      case hi =>
       show cutOff (some ((64 * (n / 64) : Nat) : Int)) cap (((64 * (n / 64) : Nat) : Int)).toNat + 0 + (n - (((64 * (n / 64) : Nat) : Int)).toNat) ≤ n
       rw [hlen]
       by_cases h0 : l0.length = 0
       ·
        rw [h0]; unfold cutOff; simp only; split <;> omega
       ·
        rw [hcut h0]; omega
      case hb =>
       show (0 + (n - (((64 * (n / 64) : Nat) : Int)).toNat)) * 1 ≤ 140737488355328
       rw [hlen]; omega
     repeat (first | refine qs_ ?_ | refine qa_ ?_ | refine qo_ ?_ | refine qd_ ?_ | refine za ?_ | refine zb fun _ _ => ?_ | refine zc ?_ | refine ya ?_ | refine yb fun _ _ => ?_ | refine yc ?_ | refine qk_ ?_ | refine qb_ ?_ | refine qx_ ?_)
     rename_i bb _ y hy
     obtain ⟨l1, hl1⟩ : ∃ l1, l1 = l0 ++ [128] := ⟨_, rfl⟩
     have hl1n : 0 + (n - (((64 * (n / 64) : Nat) : Int)).toNat) + 1 = l1.length := by rw [hlen, hl1, List.length_append]; simp
     have hf1 : ∀ i, i < l1.length → fapp (0 + (n - (((64 * (n / 64) : Nat) : Int)).toNat)) (fapp 0 (fun _ => .nil) fun i => .v (.int .u8 (b (i + (cutOff (some ((64 * (n / 64) : Nat) : Int)) cap (((64 * (n / 64) : Nat) : Int)).toNat + 0))))) (fun i => (AV.cons (.v (.int .u8 128)) .nil).nthA (i + 0)) i = vl l1 i := by
      intro i hi
      rw [hlen, Nat.zero_add, hl1]
      refine fapp_vl (fun i hi => ?_) (fun i hi => ?_) i (by rw [← hl1]; exact hi)
      ·
       rw [fapp_ge (Nat.zero_le _), Nat.sub_zero, hcut (by omega)]
       unfold vl lb
       rw [hl0, rest_get b n (by omega)]; rfl
      ·
       have hi : i < 1 := hi
       have : i = 0 := by omega
       subst this; rfl
     have hpe : padZ l1 = padZ (rest b n ++ [128]) := by rw [hl1, hl0]
     have hl1l : l1.length ≤ 64 := by rw [hl1, List.length_append, hl0n]; simp; omega
     refine s_loopW (α := List Int × Option Nat × Nat) [5, 34, 35, 36, 37, 38, 39, 40] [30] (fun x => padZ x.1 = padZ l1 ∧ x.1.length ≤ x.2.2) (fun x => [(5, none, .gs 30 0 (ownB x.2.1) 1 0 x.1.length x.2.2)]) (fun x => [(30, .vrow x.2.1 5 1 x.1.length (vl x.1) x.2.2)]) (fun x => (120 - x.1.length % 64) % 64) (l1, y.1, y.2) ⟨rfl, by rw [← hl1n]; exact hy⟩ ?_ ?_
     ·
      refine Le.of ?leT ?leM (by first | exact dfs_nil rfl rfl | exact rfl)
      case leT => (refine And.intro (gs_len hl1n) ?_); repeat (first | exact trivial | refine And.intro (by exact rfl) ?_)
      case leM => (refine And.intro ⟨_, rfl, Blk.le_vrow (Nat.le_of_eq hl1n.symm) fun i hi => (hf1 i hi).symm⟩ ?_); repeat (first | exact trivial | refine And.intro ⟨_, rfl, Blk.le_refl _⟩ ?_)
     ·
      intro ⟨l, a, cp⟩ ⟨hz2, hcp⟩
      dsimp only at hz2 hcp
      have hll : l.length ≤ 127 := by
       have h1 := padZ_length l
       have h2 := padZ_length l1
       rw [hz2] at h1; omega
      repeat (first | refine qs_ ?_ | refine qa_ ?_ | refine qo_ ?_ | refine qd_ ?_ | refine za ?_ | refine zb fun _ _ => ?_ | refine zc ?_ | refine ya ?_ | refine yb fun _ _ => ?_ | refine yc ?_ | refine qk_ ?_ | refine qb_ ?_ | refine qx_ ?_)
      have hcb : decide (l.length % 64 ≠ 56) = ((l.length : Int).tmod 64 != 56) := by
       rw [Int.tmod_eq_emod_of_nonneg (by omega), bne]
       by_cases e : l.length % 64 = 56
       ·
        have h2 : (l.length : Int) % 64 = 56 := by omega
        rw [h2]; simp [e]
       ·
        have h2 : ¬ (l.length : Int) % 64 = 56 := by omega
        simp [e, h2]
      refine s_cond (b := decide (l.length % 64 ≠ 56)) (by rw [hcb]; rfl) (fun hb2 => ?_) (fun hb2 => ?_)
      ·
       have hne : l.length % 64 ≠ 56 := of_decide_eq_true hb2
       repeat (first | refine qs_ ?_ | refine qa_ ?_ | refine qo_ ?_ | refine qd_ ?_ | refine za ?_ | refine zb fun _ _ => ?_ | refine zc ?_ | refine ya ?_ | refine yb fun _ _ => ?_ | refine yc ?_ | refine qk_ ?_ | refine qb_ ?_ | refine qx_ ?_)
       rename_i _ _ y2 hy2
       refine ⟨(l ++ [0], y2.1, y2.2), ⟨(padZ_succ hne).symm.trans hz2, by rw [List.length_append]; exact hy2⟩, by dsimp only; rw [List.length_append]; simp; omega, ?_⟩
       refine Le.of ?leT ?leM (by first | exact dfs_nil rfl rfl | exact rfl)
       case leT => (refine And.intro (gs_len (by rw [List.length_append]; rfl)) ?_); repeat (first | exact trivial | refine And.intro (by exact rfl) ?_)
       case leM => (refine And.intro ⟨_, rfl, Blk.le_vrow (by rw [List.length_append]; exact Nat.le_refl _) fun i hi => (fapp_vl (fun _ _ => rfl) (one_vl 0 _) i hi).symm⟩ ?_); repeat (first | exact trivial | refine And.intro ⟨_, rfl, Blk.le_refl _⟩ ?_)
      ·
       have he : l.length % 64 = 56 := by
        have := of_decide_eq_false hb2; omega
       rw [padZ_end he] at hz2
       repeat (first | refine qs_ ?_ | refine qa_ ?_ | refine qo_ ?_ | refine qd_ ?_ | refine za ?_ | refine zb fun _ _ => ?_ | refine zc ?_ | refine ya ?_ | refine yb fun _ _ => ?_ | refine yc ?_ | refine qk_ ?_ | refine qb_ ?_ | refine qx_ ?_)
       obtain ⟨nb, hnb⟩ : ∃ nb, nb = IntKind.u64.wrap (IntKind.u64.wrap (n : Int) * 8) := ⟨_, rfl⟩
       have hend : tailsR nb 8 l = endR b n := by rw [hnb, hz2, hpe]; rfl
       refine s_le (tm' := [(0, none, roS 900 base 1 n cap), (2, none, .ptr ⟨2, 0, b2, 0, 32, 0, 0, 0, false⟩), (3, none, .ptr ⟨3, 0, b3, 0, 8, 0, 0, 0, false⟩), (5, none, .gs 30 0 (ownB a) 1 0 l.length cp), (6, none, .v (.int .u64 nb)), (7, none, .v (.int .i64 7))]) (M' := [(30, .vrow a 5 1 l.length (vl l) cp), (3, .row b3 320 8 1 (fun _ => .ints .u32 8 h) 1), (2, .row b2 26 32 1 (fun _ => .ints .u8 32 (zs 32)) 1), (100002, .var 2 (.ints .u32 64 K))]) ?_ ?_
       ·
        rw [hnb]
        exact leQ
       refine s_loopW (α := Nat × List Int × Option Nat × Nat) [5, 7, 45, 46, 47, 48, 49, 50, 51, 52, 53, 54, 55, 56, 57] [30] (fun x => x.1 ≤ 8 ∧ tailsR nb x.1 x.2.1 = endR b n ∧ x.2.1.length ≤ x.2.2.2) (fun x => [(5, none, .gs 30 0 (ownB x.2.2.1) 1 0 x.2.1.length x.2.2.2), (7, none, .v (.int .i64 ((x.1 : Int) - 1)))]) (fun x => [(30, .vrow x.2.2.1 5 1 x.2.1.length (vl x.2.1) x.2.2.2)]) (fun x => x.1) (8, l, a, cp) ⟨Nat.le_refl _, hend, hcp⟩ ?_ ?_
       ·
        exact leQ
       ·
        intro ⟨k, l2, a2, cp2⟩ ⟨hk, hz3, hcp2⟩
        dsimp only at hk hz3 hcp2
        have hll2 : l2.length + k ≤ 136 := by
         have h1 := tailsR_length nb k l2
         rw [hz3, endR_length] at h1
         unfold zR at h1; omega
        repeat (first | refine qs_ ?_ | refine qa_ ?_ | refine qo_ ?_ | refine qd_ ?_ | refine za ?_ | refine zb fun _ _ => ?_ | refine zc ?_ | refine ya ?_ | refine yb fun _ _ => ?_ | refine yc ?_ | refine qk_ ?_ | refine qb_ ?_ | refine qx_ ?_)
        refine s_cond (b := decide ((k : Int) - 1 ≥ 0)) rfl (fun hb3 => ?_) (fun hb3 => ?_)
        ·
         obtain ⟨k, rfl⟩ : ∃ k', k = k' + 1 := ⟨k - 1, by have := of_decide_eq_true hb3; omega⟩
         repeat (first | refine qs_ ?_ | refine qa_ ?_ | refine qo_ ?_ | refine qd_ ?_ | refine za ?_ | refine zb fun _ _ => ?_ | refine zc ?_ | refine ya ?_ | refine yb fun _ _ => ?_ | refine yc ?_ | refine qk_ ?_ | refine qb_ ?_ | refine qx_ ?_)
         refine o_val rfl rfl trivial ⟨trivial, trivial, wrap_u64_nonneg _⟩ ?_
         repeat (first | refine qs_ ?_ | refine qa_ ?_ | refine qo_ ?_ | refine qd_ ?_ | refine za ?_ | refine zb fun _ _ => ?_ | refine zc ?_ | refine ya ?_ | refine yb fun _ _ => ?_ | refine yc ?_ | refine qk_ ?_ | refine qb_ ?_ | refine qx_ ?_)
         rename_i _ _ y3 hy3
         refine ⟨(k, l2 ++ [tbR nb (((k + 1 : Nat) : Int) - 1)], y3.1, y3.2), ⟨by dsimp only; omega, hz3, by dsimp only; rw [List.length_append]; exact hy3⟩, by dsimp only; omega, ?_⟩
         refine Le.of ?leT ?leM (by first | exact dfs_nil rfl rfl | exact rfl)
         case leT => (refine And.intro (gs_len (by rw [List.length_append]; rfl)) ?_); (refine And.intro (by show some (none, AV.v (.int .i64 (IntKind.i64.wrap (((k + 1 : Nat) : Int) - 1 - 1)))) = some (none, AV.v (.int .i64 ((k : Int) - 1))); rw [wi64 (by omega) (by omega), show ((k + 1 : Nat) : Int) - 1 - 1 = (k : Int) - 1 by omega]) ?_); repeat (first | exact trivial | refine And.intro (by exact rfl) ?_)
         case leM => (refine And.intro ⟨_, rfl, Blk.le_vrow (by rw [List.length_append]; exact Nat.le_refl _) fun i hi => (fapp_vl (fun _ _ => rfl) (one_vl _ _) i hi).symm⟩ ?_); repeat (first | exact trivial | refine And.intro ⟨_, rfl, Blk.le_refl _⟩ ?_)
        ·
         have hk0 : k = 0 := by have := of_decide_eq_false hb3; omega
         subst hk0
         have hz4 : l2 = endR b n := hz3
         obtain ⟨q, hq⟩ : ∃ q, l2.length = 64 * q := by
          rw [hz4, endR_length]
          have := end_div n
          exact ⟨(n % 64 + 1 + zR n + 8) / 64, by omega⟩
         have hres : refF K b0L b n = outR (blks K (lb l2) q 0 h) 32 0 (zs 32) := by
          unfold refF
          rw [hh, ← hz4, hq, Nat.mul_div_cancel_left q (by decide)]
         repeat (first | refine qs_ ?_ | refine qa_ ?_ | refine qo_ ?_ | refine qd_ ?_ | refine za ?_ | refine zb fun _ _ => ?_ | refine zc ?_ | refine ya ?_ | refine yb fun _ _ => ?_ | refine yc ?_ | refine qk_ ?_ | refine qb_ ?_ | refine qx_ ?_)
         refine s_le (tm' := [(2, none, .ptr ⟨2, 0, b2, 0, 32, 0, 0, 0, false⟩), (3, none, .ptr ⟨3, 0, b3, 0, 8, 0, 0, 0, false⟩), (5, none, .gs 30 0 (ownB a2) 1 0 l2.length cp2), (8, none, .v (.int .i64 0))]) (M' := [(30, .vrow a2 5 1 l2.length (vl l2) cp2), (3, .row b3 320 8 1 (fun _ => .ints .u32 8 h) 1), (2, .row b2 26 32 1 (fun _ => .ints .u8 32 (zs 32)) 1), (100002, .var 2 (.ints .u32 64 K))]) (by exact leQ) ?_
         refine s_loopW (α := Nat × List Int) [8, 58, 59, 60, 61, 62, 63, 64, 65, 66, 67, 68, 69, 70] [3] (fun x => x.1 ≤ q ∧ blks K (lb l2) q 0 h = blks K (lb l2) (q - x.1) (64 * x.1) x.2) (fun x => [(8, none, .v (.int .i64 ((64 * x.1 : Nat) : Int)))]) (fun x => [(3, .row b3 320 8 1 (fun _ => .ints .u32 8 x.2) 1)]) (fun x => q - x.1) (0, h) ⟨Nat.zero_le _, rfl⟩ ?_ ?_
         ·
          exact leQ
         ·
          intro ⟨m, h2⟩ ⟨hm3, hz5⟩
          dsimp only at hm3 hz5
          have hw2 : IntKind.i64.wrap (((64 * m : Nat) : Int) + 64) = ((64 * m + 64 : Nat) : Int) := by rw [wi64 (by omega) (by omega)]; omega
          repeat (first | refine qs_ ?_ | refine qa_ ?_ | refine qo_ ?_ | refine qd_ ?_ | refine za ?_ | refine zb fun _ _ => ?_ | refine zc ?_ | refine ya ?_ | refine yb fun _ _ => ?_ | refine yc ?_ | refine qk_ ?_ | refine qb_ ?_ | refine qx_ ?_)
          refine s_cond (b := decide (((64 * m : Nat) : Int) < (l2.length : Int))) rfl (fun hb4 => ?_) (fun hb4 => ?_)
          ·
           have hlt4 : m < q := by have := of_decide_eq_true hb4; omega
           rw [show q - m = (q - (m + 1)) + 1 by omega, blks] at hz5
           repeat (first | refine qs_ ?_ | refine qa_ ?_ | refine qo_ ?_ | refine qd_ ?_ | refine za ?_ | refine zb fun _ _ => ?_ | refine zc ?_ | refine ya ?_ | refine yb fun _ _ => ?_ | refine yc ?_ | refine qk_ ?_ | refine qb_ ?_ | refine qx_ ?_)
           refine s_draw rD167_19 rM167_19 [(3, [7])] rN167_19 rfl rfl ?_
           repeat (first | refine qs_ ?_ | refine qa_ ?_ | refine qo_ ?_ | refine qd_ ?_ | refine za ?_ | refine zb fun _ _ => ?_ | refine zc ?_ | refine ya ?_ | refine yb fun _ _ => ?_ | refine yc ?_ | refine qk_ ?_ | refine qb_ ?_ | refine qx_ ?_)
           have hlen4 : (IntKind.i64.wrap (((64 * m : Nat) : Int) + 64)).toNat - (((64 * m : Nat) : Int)).toNat = 64 := by rw [hw2]; omega
           have hcut4 : cutOff (some ((64 * m : Nat) : Int)) cp2 (((64 * m : Nat) : Int)).toNat = 64 * m := by unfold cutOff; simp only; rw [if_neg (by omega)]; omega
           refine d_val rfl rfl trivial ⟨trivial, ⟨rfl, rfl, ?hi⟩, fun _ => rfl, hlen4, fun _ _ => rfl⟩ ?_
           case hi =>
            show cutOff (some ((64 * m : Nat) : Int)) cp2 (((64 * m : Nat) : Int)).toNat + 0 + ((IntKind.i64.wrap (((64 * m : Nat) : Int) + 64)).toNat - (((64 * m : Nat) : Int)).toNat) ≤ l2.length
            rw [hlen4, hcut4]; omega
           repeat (first | refine qs_ ?_ | refine qa_ ?_ | refine qo_ ?_ | refine qd_ ?_ | refine za ?_ | refine zb fun _ _ => ?_ | refine zc ?_ | refine ya ?_ | refine yb fun _ _ => ?_ | refine yc ?_ | refine qk_ ?_ | refine qb_ ?_ | refine qx_ ?_)
           have hz7 : blks K (lb l2) q 0 h = blks K (lb l2) (q - (m + 1)) (64 * m + 64) (blkF K h2 fun i => lb l2 (i + (cutOff (some ((64 * m : Nat) : Int)) cp2 (((64 * m : Nat) : Int)).toNat + 0))) := by rw [hcut4, Nat.add_zero]; exact hz5
           refine ⟨(m + 1, blkF K h2 fun i => lb l2 (i + (cutOff (some ((64 * m : Nat) : Int)) cp2 (((64 * m : Nat) : Int)).toNat + 0))), ⟨by dsimp only; omega, hz7⟩, by dsimp only; omega, ?_⟩
           exact leQ
          ·
           have hmq : m = q := by have := of_decide_eq_false hb4; omega
           subst hmq
           have hz6 : blks K (lb l2) m 0 h = h2 := by rw [hz5, Nat.sub_self]; rfl
           rw [hz6] at hres
           repeat (first | refine qs_ ?_ | refine qa_ ?_ | refine qo_ ?_ | refine qd_ ?_ | refine za ?_ | refine zb fun _ _ => ?_ | refine zc ?_ | refine ya ?_ | refine yb fun _ _ => ?_ | refine yc ?_ | refine qk_ ?_ | refine qb_ ?_ | refine qx_ ?_)
           rename_i b9 _
           refine s_le (tm' := [(2, none, .ptr ⟨2, 0, b2, 0, 32, 0, 0, 0, false⟩), (3, none, .ptr ⟨3, 0, b3, 0, 8, 0, 0, 0, false⟩), (9, none, .ptr ⟨9, 0, b9, 0, 32, 0, 0, 0, false⟩), (10, none, .v (.int .i64 0))]) (M' := [(9, .row b9 26 32 1 (fun _ => .ints .u8 32 (zs 32)) 1), (3, .row b3 320 8 1 (fun _ => .ints .u32 8 h2) 1), (2, .row b2 26 32 1 (fun _ => .ints .u8 32 (zs 32)) 1)]) (by exact leQ) ?_
           refine s_loopW (α := Nat × List Int) [10, 71, 72, 73, 74, 75, 76, 77, 78, 79, 80, 81, 82, 83, 84, 85, 86, 87] [9] (fun x => x.1 ≤ 32 ∧ outR h2 32 0 (zs 32) = outR h2 (32 - x.1) x.1 x.2) (fun x => [(10, none, .v (.int .i64 x.1))]) (fun x => [(9, .row b9 26 32 1 (fun _ => .ints .u8 32 x.2) 1)]) (fun x => 32 - x.1) (0, zs 32) ⟨Nat.zero_le _, rfl⟩ ?_ ?_
           ·
            exact leQ
           ·
            intro ⟨i, l3⟩ ⟨hi3, hz8⟩
            dsimp only at hi3 hz8
            repeat (first | refine qs_ ?_ | refine qa_ ?_ | refine qo_ ?_ | refine qd_ ?_ | refine za ?_ | refine zb fun _ _ => ?_ | refine zc ?_ | refine ya ?_ | refine yb fun _ _ => ?_ | refine yc ?_ | refine qk_ ?_ | refine qb_ ?_ | refine qx_ ?_)
            refine s_cond (b := decide ((i : Int) < 32)) rfl (fun hb5 => ?_) (fun hb5 => ?_)
            ·
             have hlt5 : i < 32 := by have := of_decide_eq_true hb5; omega
             rw [show 32 - i = (32 - (i + 1)) + 1 by omega, outR] at hz8
             have hqi : 0 ≤ IntKind.i64.wrap ((i : Int).tdiv 4) ∧ IntKind.i64.wrap ((i : Int).tdiv 4) < 8 := by
              rw [Int.tdiv_eq_ediv_of_nonneg (by omega), wi64 (by omega) (by omega)]; omega
             repeat (first | refine qs_ ?_ | refine qa_ ?_ | refine qo_ ?_ | refine qd_ ?_ | refine za ?_ | refine zb fun _ _ => ?_ | refine zc ?_ | refine ya ?_ | refine yb fun _ _ => ?_ | refine yc ?_ | refine qk_ ?_ | refine qb_ ?_ | refine qx_ ?_)
             refine o_val rfl rfl trivial ⟨trivial, trivial, wrap_u64_nonneg _⟩ ?_
             repeat (first | refine qs_ ?_ | refine qa_ ?_ | refine qo_ ?_ | refine qd_ ?_ | refine za ?_ | refine zb fun _ _ => ?_ | refine zc ?_ | refine ya ?_ | refine yb fun _ _ => ?_ | refine yc ?_ | refine qk_ ?_ | refine qb_ ?_ | refine qx_ ?_)
             refine ⟨(i + 1, pI 32 l3 i (obR h2 i)), ⟨by dsimp only; omega, hz8⟩, by dsimp only; omega, ?_⟩
             exact leQ
            ·
             have hie : i = 32 := by have := of_decide_eq_false hb5; omega
             subst hie
             have hz9 : outR h2 32 0 (zs 32) = l3 := hz8
             repeat (first | refine qs_ ?_ | refine qa_ ?_ | refine qo_ ?_ | refine qd_ ?_ | refine za ?_ | refine zb fun _ _ => ?_ | refine zc ?_ | refine ya ?_ | refine yb fun _ _ => ?_ | refine yc ?_ | refine qk_ ?_ | refine qb_ ?_ | refine qx_ ?_)
             refine s_ret ?_
             exact ⟨_, _, rfl, ⟨⟨⟨rfl, rfl, rfl, Nat.zero_lt_one⟩, rfl⟩, trivial⟩, rfl, by rw [hres, hz9]; rfl⟩
  ·
   cases h0
 ·
  cases h0
theorem rsum_body : HasBody Tryz.prog 167 := ⟨_, Tryz.func167, rfl, by decide⟩
end Go.Proofs.YtofophjfgalhaaaGreatDoor.V
