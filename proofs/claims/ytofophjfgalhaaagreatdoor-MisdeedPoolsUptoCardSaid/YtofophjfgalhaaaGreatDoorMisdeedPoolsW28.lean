import Derived.Test.YtofophjfgalhaaaGreatDoorMisdeedPoolsW17
import Derived.Test.YtofophjfgalhaaaGreatDoorMisdeedPoolsW27
set_option linter.unusedVariables false
set_option linter.unusedSimpArgs false
set_option maxRecDepth 100000
set_option maxHeartbeats 8000000
namespace Go.Proofs.YtofophjfgalhaaaGreatDoor.V
open Go Go.RowKit
def addR (recs : List (Int × ByteArray)) (r : Int × ByteArray) : List (Int × ByteArray) := if hasR recs r then recs else recs ++ [r]
def sgnOf (M : MemF) (p : Pt) : Option (Prop × Nat × List (Int × Nat) × List (Int × ByteArray) × (Nat → Prop) × (Int × Nat)) := match M p.n with
 | some (.sep (.reg b ents recs) S φ) => some (Blk.sep (.reg b ents recs) S φ = regB b ents recs S ∧ p.ix < ents.length ∧ (p.b = (ents.getD p.ix (0, 0)).2 ∧ p.o0 = 0 ∧ p.es = 2 ∧ p.idx = 0 ∧ p.off = 0 ∧ p.j = 0), b, ents, recs, S, ents.getD p.ix (0, 0))
 | _ => none
theorem getD_mem {α : Type} {l : List α} {i : Nat} {d : α} (h : i < l.length) : l.getD i d ∈ l := by
 rw [List.getD_eq_getElem?_getD, List.getElem?_eq_getElem h]; exact List.getElem_mem h
theorem sgnOf_spec {M : MemF} {p : Pt} {c : Prop} {b : Nat} {ents : List (Int × Nat)} {recs : List (Int × ByteArray)} {S : Nat → Prop} {e : Int × Nat} (h : sgnOf M p = some (c, b, ents, recs, S, e)) (hc : c) : M p.n = some (regB b ents recs S) ∧ e ∈ ents ∧ (AV.ptr p).val = (AV.ptr ⟨904, 0, e.2, 0, 2, 0, 0, 0, false⟩).val := by
 unfold sgnOf at h
 split at h
 ·
  rename_i b' e' r' S' φ hM
  cases h
  obtain ⟨h1, h0, h2, h3, h4, h5, h6, h7⟩ := hc
  refine ⟨by rw [hM, h1], getD_mem h0, ?_⟩
  rw [ptr_val, ptr_val]
  unfold Pt.cell
  simp only [h2, h3, h5, h6, h7]
  simp
 ·
  cases h
def signC (_tag : Nat) (args : List AV) (M : MemF) : Option Res := match args, M 100003, M 100004 with
 | [.ptr p, X], some (.var 3 (.ints .u32 8 B0)), some (.var 4 (.ints .u32 64 K)) => match sgnOf M p, seqOf M X with
  | some (c, b, ents, recs, _, e), some (c2, es, n, fx) => some ⟨Nat → Prop, c ∧ (c2 ∧ (n ≠ 0 → es = 1) ∧ n ≤ 1048576 ∧ ∀ i, i < n → fx i = .v (.int .u8 (fx i).int1)) ∧ tagNe p.n X = true ∧ recs.length ≤ 4000000000000, fun _ => True, fun _ => .tup (.cons (.ints .u8 16 (seaF K B0 e.1 (fun i => (fx i).int1) n)) (.cons (.v (.int .i64 0)) .nil)), [p.n], fun x => [regB b ents (addR recs (e.1, strOf n fx)) x]⟩
  | _, _ => none
 | _, _, _ => none
theorem le_regR {b : Nat} {ents : List (Int × Nat)} {recs' recs2 : List (Int × ByteArray)} (h : recs2 = recs') {x : Nat → Prop} : (regB b ents recs' x).le (regB b ents recs2 x) := by
 rw [h]; exact Blk.le_refl _
theorem nodup_add {recs : List (Int × ByteArray)} {r : Int × ByteArray} (h : recs.Nodup) (hn : r ∉ recs) : (recs ++ [r]).Nodup := by
 refine List.nodup_append.2 ⟨h, by simp, fun x hx y hy e0 => hn ?_⟩
 have : y = r := by simpa using hy
 rw [← this, ← e0]; exact hx
theorem mem_add {recs : List (Int × ByteArray)} {r : Int × ByteArray} : ∀ q ∈ recs ++ [r], q ∈ recs ∨ q.1 = r.1 := by
 intro q hq
 rcases List.mem_append.1 hq with h1 | h1
 ·
  exact .inl h1
 ·
  have : q = r := by simpa using h1
  rw [this]; exact .inr rfl
theorem kv_add {lR : List (AV × AV × Nat)} {recs : List (Int × ByteArray)} {r : Int × ByteArray} {c : Nat} (h : kv lR = recs.map fun r => (recK r, .agg .nil)) : kv (lR ++ [(recK r, .agg .nil, c)]) = (recs ++ [r]).map fun r => (recK r, .agg .nil) := by
 simp only [kv, List.map_append, List.map_cons, List.map_nil] at h ⊢
 rw [h]
theorem fapp_str {l : List ByteArray} {m : ByteArray} {src : Nat → AV} (hs : src 0 = .v (.string m)) : ∀ i, i < (l ++ [m]).length → (AV.v (.string ((l ++ [m]).getD i ⟨#[]⟩))).cells = (fapp l.length (fun i => .v (.string (l.getD i ⟨#[]⟩))) src i).cells ∧ (AV.v (.string ((l ++ [m]).getD i ⟨#[]⟩))).one = true := by
 intro i hi
 rw [List.length_append] at hi
 have hi : i < l.length + 1 := hi
 refine ⟨?_, rfl⟩
 unfold fapp
 split
 ·
  rename_i h
  have h : i < l.length := by first | exact h | exact blt_lt h | exact of_decide_eq_true h
  rw [List.getD_eq_getElem?_getD, List.getElem?_append_left h, ← List.getD_eq_getElem?_getD]
 ·
  rename_i h
  have h : ¬ i < l.length := by first | exact h | exact fun h' => by simp [h'] at h | (intro h'; revert h; simp [Nat.blt_eq, h'])
  have : i = l.length := by omega
  subst this
  rw [Nat.sub_self, hs]
  simp
def ctSg : CtL := [(113, seaC)]
theorem ctSg_ok : CtLOk Tryz.prog ctSg := ⟨CallsOk.fn sea_body sea_read, trivial⟩
theorem sign_turn : TurnFn Tryz.prog 73 signC := by
 intro tag args M r h0 hok O w0 w hS
 unfold signC at h0
 split at h0
 ·
  rename_i p X B0 K hM3 hM4
  split at h0
  ·
   rename_i c b ents recs S e c2 es n fx hp hsx
   cases h0
   obtain ⟨hc, ⟨q1, q2, q3, q4⟩, htag, hlen⟩ := hok
   obtain ⟨hM, he, hv⟩ := sgnOf_spec hp hc
   obtain ⟨base, cap, hvx, hro⟩ := bytes_ro hS hsx q1 q2 q4
   obtain ⟨f, hf0⟩ : ∃ f, f = fun i => (fx i).int1 := ⟨_, rfl⟩
   have hstr : strOf n fx = strOf n fun i => .v (.int .u8 (f i)) := by rw [hf0]; rfl
   rw [← hf0, hstr]
   have hro : (roB base 1 n fun i => .v (.int .u8 (f i))).holds w := by rw [hf0]; exact hro
   have hap : ∀ j, (roB base 1 n fun i => .v (.int .u8 (f i))).reads j → ¬ (regB b ents recs S).own j := ro_apart hS hsx q1 q2 hM htag hvx
   have hB := hS.holds _ _ hM3
   have hK := hS.holds _ _ hM4
   have hn : ((n : Int) > 1048576) = False := by simp; omega
   rw [show [AV.ptr p, X].map AV.val = [.ptr ⟨904, 0, e.2, 0, 2, 0, 0, 0, false⟩, roS 910 base 1 n cap].map AV.val by simp only [List.map_cons, List.map_nil, hv, hvx, roS_val]]
   refine turn_oneL tabs2 ctSg_ok crLk_ok Tryz.func73 rfl rfl hS _ hM [(910, roB base 1 n fun i => .v (.int .u8 (f i))), (100003, .var 3 (.ints .u32 8 B0)), (100004, .var 4 (.ints .u32 64 K))] rfl rfl (hS.holds _ _ hM) (fun _ h => h) (fun _ h => h) ⟨hro, hB, hK, trivial⟩ ⟨roB_noOwn, fun _ h => h, fun _ h => h, trivial⟩ ⟨hap, fun k hr ho => hS.roapart _ _ _ _ _ hM hM3 ho hr, fun k hr ho => hS.roapart _ _ _ _ _ hM hM4 ho hr, trivial⟩ ?_
   refine s_open (n := 900) (g := .reg b ents recs) (S := S) (P := IsReg b ents recs) [900, 901, 902, 903, 904, 905, 999] rfl rfl fun H hH hP => ?_
   obtain ⟨bS, bR, bG, gr, lS, lR, lG, cS, cR, cG, hF⟩ := hP
   by_cases hg : ∃ g ∈ gr, g.a = e.1
   ·
    obtain ⟨gr1, g, gr2, hgr, hga⟩ := grp_split hg
    have hgm : g ∈ gr := hgr ▸ List.mem_append_right _ (.head _)
    have hP := hF.piecesG he hgm
    have hoth := hF.others hgr
    have h1 : ∀ g' ∈ gr1, g'.a ≠ g.a := fun g' h => hoth g' (List.mem_append_left _ h)
    obtain ⟨l1, l2, born, hlG, hl1, hl2, hf⟩ := hF.hit_gp hgr h1
    unfold gpF at hlG hf
    rw [hga] at hP hoth hlG hf
    have hll : (sgOf recs e.1).length ≤ 4000000000000 := Nat.le_trans (sgOf_len recs e.1) hlen
    subst hlG
    have hgr' : gr = gr1 ++ [g] ++ gr2 := by rw [hgr]; simp
    have hold : ∀ g' ∈ [g], g'.a = e.1 := fun g' h => by rw [(by simpa using h : g' = g)]; exact hga
    refine ⟨_, hP, ?_⟩
    by_cases hin : (e.1, strOf n fun i => .v (.int .u8 (f i))) ∈ recs
    ·
     obtain ⟨j, hj⟩ := hF.hit_rc hin
     have hA : addR recs (e.1, strOf n fun i => .v (.int .u8 (f i))) = recs := by unfold addR; rw [if_pos (hasR_iff.2 hin)]
     have hne : sgOf recs e.1 ≠ [] := fun h0 => absurd (show (strOf n fun i => .v (.int .u8 (f i))) ∈ sgOf recs e.1 from List.mem_map.2 ⟨_, List.mem_filter.2 ⟨hin, by simp⟩, rfl⟩) (by rw [h0]; exact List.not_mem_nil)
     repeat (first | refine qs_ ?_ | refine qa_ ?_ | refine qo_ ?_ | refine qd_ ?_ | refine za ?_ | refine zb fun _ _ => ?_ | refine zc ?_ | refine ya ?_ | refine yb fun _ _ => ?_ | refine yc ?_ | refine qk_ ?_ | refine qb_ ?_ | refine qx_ ?_)
     refine s_cond (b := false) rfl (fun hb => by cases hb) (fun _ => ?_)
     repeat (first | refine qs_ ?_ | refine qa_ ?_ | refine qo_ ?_ | refine qd_ ?_ | refine za ?_ | refine zb fun _ _ => ?_ | refine zc ?_ | refine ya ?_ | refine yb fun _ _ => ?_ | refine yc ?_ | refine qk_ ?_ | refine qb_ ?_ | refine qx_ ?_)
     refine s_cond (b := decide ((n : Int) > 1048576)) rfl (fun hb => absurd hb (by simp; omega)) (fun _ => ?_)
     repeat (first | refine qs_ ?_ | refine qa_ ?_ | refine qo_ ?_ | refine qd_ ?_ | refine za ?_ | refine zb fun _ _ => ?_ | refine zc ?_ | refine ya ?_ | refine yb fun _ _ => ?_ | refine yc ?_ | refine qk_ ?_ | refine qb_ ?_ | refine qx_ ?_)
     refine o_defer (f := 69) (l := [(0, .ptr ⟨900, 0, b, 0, 5, 0, 0, 0, false⟩)]) rfl rfl rfl rfl trivial ?_
     repeat (first | refine qs_ ?_ | refine qa_ ?_ | refine qo_ ?_ | refine qd_ ?_ | refine za ?_ | refine zb fun _ _ => ?_ | refine zc ?_ | refine ya ?_ | refine yb fun _ _ => ?_ | refine yc ?_ | refine qk_ ?_ | refine qb_ ?_ | refine qx_ ?_)
     refine s_draw rD73_8 rM73_8 rX73_8 rN73_8 rfl rfl ?_
     repeat (first | refine qs_ ?_ | refine qa_ ?_ | refine qo_ ?_ | refine qd_ ?_ | refine za ?_ | refine zb fun _ _ => ?_ | refine zc ?_ | refine ya ?_ | refine yb fun _ _ => ?_ | refine yc ?_ | refine qk_ ?_ | refine qb_ ?_ | refine qx_ ?_)
     refine s_draw rD73_9 rM73_9 rX73_9 rN73_9 rfl rfl ?_
     repeat (first | refine qs_ ?_ | refine qa_ ?_ | refine qo_ ?_ | refine qd_ ?_ | refine za ?_ | refine zb fun _ _ => ?_ | refine zc ?_ | refine ya ?_ | refine yb fun _ _ => ?_ | refine yc ?_ | refine qk_ ?_ | refine qb_ ?_ | refine qx_ ?_)
     refine d_look (some (j, .agg .nil)) rfl rfl rfl rfl rfl rfl rfl rfl rfl rfl rfl rfl rfl hj ?_
     repeat (first | refine qs_ ?_ | refine qa_ ?_ | refine qo_ ?_ | refine qd_ ?_ | refine za ?_ | refine zb fun _ _ => ?_ | refine zc ?_ | refine ya ?_ | refine yb fun _ _ => ?_ | refine yc ?_ | refine qk_ ?_ | refine qb_ ?_ | refine qx_ ?_)
     refine s_cond (b := false) rfl (fun hb => by cases hb) (fun _ => ?_)
     repeat (first | refine qs_ ?_ | refine qa_ ?_ | refine qo_ ?_ | refine qd_ ?_ | refine za ?_ | refine zb fun _ _ => ?_ | refine zc ?_ | refine ya ?_ | refine yb fun _ _ => ?_ | refine yc ?_ | refine qk_ ?_ | refine qb_ ?_ | refine qx_ ?_)
     refine s_ret ?_
     refine .inr ⟨69, [.ptr ⟨900, 0, b, 0, 5, 0, 0, 0, false⟩], [(900, _)], _, _, _, _, rfl, unlock_body, unlock_dfr (L := muLink) muLib row21_ok rfl ⟨⟨⟨⟨rfl, rfl, rfl, Nat.zero_lt_one⟩, rfl⟩, rfl⟩, ⟨rfl, rfl, rfl, Nat.zero_lt_one⟩, rfl⟩, le_close (n := 900) (.reg b ents recs) (IsReg b ents recs) [900, 901, 902, 903, 904, 905, 999] (addBs H b bS bR bG lS lR (l1 ++ (.v (.int .u64 e.1), .gs 905 0 (ownB (some g.blk)) 1 0 (sgOf recs e.1).length g.cap, born) :: l2) cS cR cG e.2 e.1 (some g.blk) (sgOf recs e.1) g.cap ([g].map (·.blk))) rfl (by decide) ⟨⟨⟨_, rfl, Blk.le_rowc (Nat.le_refl _) fun _ _ => ⟨rfl, rfl⟩⟩, fun _ h => h⟩, ⟨⟨_, rfl, Blk.le_refl _⟩, fun _ h => h⟩, ⟨⟨_, rfl, Blk.le_refl _⟩, fun _ h => h⟩, ⟨⟨_, rfl, Blk.le_refl _⟩, fun _ h => h⟩, ⟨⟨_, rfl, Blk.le_refl _⟩, fun _ h => h⟩, ⟨⟨_, rfl, Blk.le_refl _⟩, fun _ h => h⟩, ⟨⟨_, rfl, Blk.le_refl _⟩, fun _ h => h⟩, trivial⟩ (fun w hh hp => reg_add hF he hgr' hoth hl1 hl2 hF.rcv hne (fun _ _ => rfl) hF.ndr (fun _ h => .inl h) hold hh hp), rfl, (by repeat (first | exact trivial | constructor)), _, trivial, ?_, ⟨⟨_, rfl, le_regR hA⟩, fun _ h => h⟩, trivial⟩
     rfl
    ·
     have hA : addR recs (e.1, strOf n fun i => .v (.int .u8 (f i))) = recs ++ [(e.1, strOf n fun i => .v (.int .u8 (f i)))] := by unfold addR; rw [if_neg fun h1 => hin (hasR_iff.1 h1)]
     repeat (first | refine qs_ ?_ | refine qa_ ?_ | refine qo_ ?_ | refine qd_ ?_ | refine za ?_ | refine zb fun _ _ => ?_ | refine zc ?_ | refine ya ?_ | refine yb fun _ _ => ?_ | refine yc ?_ | refine qk_ ?_ | refine qb_ ?_ | refine qx_ ?_)
     refine s_cond (b := false) rfl (fun hb => by cases hb) (fun _ => ?_)
     repeat (first | refine qs_ ?_ | refine qa_ ?_ | refine qo_ ?_ | refine qd_ ?_ | refine za ?_ | refine zb fun _ _ => ?_ | refine zc ?_ | refine ya ?_ | refine yb fun _ _ => ?_ | refine yc ?_ | refine qk_ ?_ | refine qb_ ?_ | refine qx_ ?_)
     refine s_cond (b := decide ((n : Int) > 1048576)) rfl (fun hb => absurd hb (by simp; omega)) (fun _ => ?_)
     repeat (first | refine qs_ ?_ | refine qa_ ?_ | refine qo_ ?_ | refine qd_ ?_ | refine za ?_ | refine zb fun _ _ => ?_ | refine zc ?_ | refine ya ?_ | refine yb fun _ _ => ?_ | refine yc ?_ | refine qk_ ?_ | refine qb_ ?_ | refine qx_ ?_)
     refine o_defer (f := 69) (l := [(0, .ptr ⟨900, 0, b, 0, 5, 0, 0, 0, false⟩)]) rfl rfl rfl rfl trivial ?_
     repeat (first | refine qs_ ?_ | refine qa_ ?_ | refine qo_ ?_ | refine qd_ ?_ | refine za ?_ | refine zb fun _ _ => ?_ | refine zc ?_ | refine ya ?_ | refine yb fun _ _ => ?_ | refine yc ?_ | refine qk_ ?_ | refine qb_ ?_ | refine qx_ ?_)
     refine s_draw rD73_8 rM73_8 rX73_8 rN73_8 rfl rfl ?_
     repeat (first | refine qs_ ?_ | refine qa_ ?_ | refine qo_ ?_ | refine qd_ ?_ | refine za ?_ | refine zb fun _ _ => ?_ | refine zc ?_ | refine ya ?_ | refine yb fun _ _ => ?_ | refine yc ?_ | refine qk_ ?_ | refine qb_ ?_ | refine qx_ ?_)
     refine s_draw rD73_9 rM73_9 rX73_9 rN73_9 rfl rfl ?_
     repeat (first | refine qs_ ?_ | refine qa_ ?_ | refine qo_ ?_ | refine qd_ ?_ | refine za ?_ | refine zb fun _ _ => ?_ | refine zc ?_ | refine ya ?_ | refine yb fun _ _ => ?_ | refine yc ?_ | refine qk_ ?_ | refine qb_ ?_ | refine qx_ ?_)
     refine d_look none rfl rfl rfl rfl rfl rfl rfl rfl rfl rfl rfl rfl rfl (hF.miss_rc hin) ?_
     repeat (first | refine qs_ ?_ | refine qa_ ?_ | refine qo_ ?_ | refine qd_ ?_ | refine za ?_ | refine zb fun _ _ => ?_ | refine zc ?_ | refine ya ?_ | refine yb fun _ _ => ?_ | refine yc ?_ | refine qk_ ?_ | refine qb_ ?_ | refine qx_ ?_)
     refine s_cond (b := true) rfl (fun _ => ?_) (fun hb => by cases hb)
     repeat (first | refine qs_ ?_ | refine qa_ ?_ | refine qo_ ?_ | refine qd_ ?_ | refine za ?_ | refine zb fun _ _ => ?_ | refine zc ?_ | refine ya ?_ | refine yb fun _ _ => ?_ | refine yc ?_ | refine qk_ ?_ | refine qb_ ?_ | refine qx_ ?_)
     refine s_draw rD73_11 rM73_11 [(902, [6])] rN73_11 rfl rfl ?_
     repeat (first | refine qs_ ?_ | refine qa_ ?_ | refine qo_ ?_ | refine qd_ ?_ | refine za ?_ | refine zb fun _ _ => ?_ | refine zc ?_ | refine ya ?_ | refine yb fun _ _ => ?_ | refine yc ?_ | refine qk_ ?_ | refine qb_ ?_ | refine qx_ ?_)
     refine d_mset none rfl rfl rfl rfl rfl rfl rfl rfl rfl rfl rfl rfl (hF.miss_rc hin) rfl ?_
     repeat (first | refine qs_ ?_ | refine qa_ ?_ | refine qo_ ?_ | refine qd_ ?_ | refine za ?_ | refine zb fun _ _ => ?_ | refine zc ?_ | refine ya ?_ | refine yb fun _ _ => ?_ | refine yc ?_ | refine qk_ ?_ | refine qb_ ?_ | refine qx_ ?_)
     refine s_draw rD73_12 rM73_12 [(903, [21]), (905, [20])] rN73_12 rfl rfl ?_
     repeat (first | refine qs_ ?_ | refine qa_ ?_ | refine qo_ ?_ | refine qd_ ?_ | refine za ?_ | refine zb fun _ _ => ?_ | refine zc ?_ | refine ya ?_ | refine yb fun _ _ => ?_ | refine yc ?_ | refine qk_ ?_ | refine qb_ ?_ | refine qx_ ?_)
     refine d_look (some (l1.length, .gs 905 0 (some (g.blk, 0)) 1 0 (sgOf recs e.1).length g.cap)) rfl rfl rfl rfl rfl rfl rfl rfl rfl rfl rfl rfl rfl hf ?_
     repeat (first | refine qs_ ?_ | refine qa_ ?_ | refine qo_ ?_ | refine qd_ ?_ | refine za ?_ | refine zb fun _ _ => ?_ | refine zc ?_ | refine ya ?_ | refine yb fun _ _ => ?_ | refine yc ?_ | refine qk_ ?_ | refine qb_ ?_ | refine qx_ ?_)
     refine dB rfl rfl rfl (fun v hv2 => ?_) ⟨(none, _), Nat.le_refl _⟩ ?hap
     case hap =>
      (first | ((try simp only [needIf]); (try simp only [need]); (try simp only [imp]); done) | ((try simp only [needIf]); (try simp only [need]); (try simp only [imp]); (try simp only [cutOff]); (repeat' apply And.intro) <;> (first | trivial | rfl | omega | (simp; done) | (simp; omega) | (intros; rfl) | (intros; trivial) | (simp only [IntKind.wrap_i64]; omega) | (exact Nat.le_trans (Nat.mul_le_mul_right _ (show _ ≤ 100000000001 by omega)) (by decide)) | (exact Nat.le_trans (Nat.mul_le_mul_right _ (show _ ≤ 17592186044416 by omega)) (by decide)) | (exact Nat.le_trans (Nat.mul_le_mul_right _ (show _ ≤ 4000000000001 by omega)) (by decide)) | (intro hg_; first | exact hg_ | ((try simp only [decide_eq_true_eq] at hg_); (try rw [wi64 (by omega) (by omega)]); (repeat' apply And.intro) <;> (first | trivial | rfl | omega | (intros; rfl) | (intros; trivial)))))))
     repeat (first | refine qs_ ?_ | refine qa_ ?_ | refine qo_ ?_ | refine qd_ ?_ | refine za ?_ | refine zb fun _ _ => ?_ | refine zc ?_ | refine ya ?_ | refine yb fun _ _ => ?_ | refine yc ?_ | refine qk_ ?_ | refine qb_ ?_ | refine qx_ ?_)
     refine d_mset (some (l1.length, .gs 905 0 (some (g.blk, 0)) 1 0 (sgOf recs e.1).length g.cap)) rfl rfl rfl rfl rfl rfl rfl rfl rfl rfl rfl rfl hf rfl ?_
     repeat (first | refine qs_ ?_ | refine qa_ ?_ | refine qo_ ?_ | refine qd_ ?_ | refine za ?_ | refine zb fun _ _ => ?_ | refine zc ?_ | refine ya ?_ | refine yb fun _ _ => ?_ | refine yc ?_ | refine qk_ ?_ | refine qb_ ?_ | refine qx_ ?_)
     refine s_ret ?_
     have hl : sgOf (recs ++ [(e.1, strOf n fun i => .v (.int .u8 (f i)))]) e.1 = sgOf recs e.1 ++ [strOf n fun i => .v (.int .u8 (f i))] := sgOf_same _ _ _
     refine .inr ⟨69, [.ptr ⟨900, 0, b, 0, 5, 0, 0, 0, false⟩], [(900, _)], _, _, _, _, rfl, unlock_body, unlock_dfr (L := muLink) muLib row21_ok rfl ⟨⟨⟨⟨rfl, rfl, rfl, Nat.zero_lt_one⟩, rfl⟩, rfl⟩, ⟨rfl, rfl, rfl, Nat.zero_lt_one⟩, rfl⟩, le_close (n := 900) (.reg b ents (recs ++ [(e.1, strOf n fun i => .v (.int .u8 (f i)))])) (IsReg b ents (recs ++ [(e.1, strOf n fun i => .v (.int .u8 (f i)))])) [900, 901, 902, 903, 904, 905, 999] (addBs H b bS bR bG lS (lR ++ [(recK (e.1, strOf n fun i => .v (.int .u8 (f i))), .agg .nil, cR)]) (l1 ++ (.v (.int .u64 e.1), .gs 905 0 (ownB v.1) 1 0 (sgOf recs e.1 ++ [strOf n fun i => .v (.int .u8 (f i))]).length v.2, born) :: l2) cS (cR + 1) cG e.2 e.1 v.1 (sgOf recs e.1 ++ [strOf n fun i => .v (.int .u8 (f i))]) v.2 ([g].map (·.blk))) rfl (by decide) ⟨⟨⟨_, rfl, Blk.le_rowc (Nat.le_refl _) fun _ _ => ⟨rfl, rfl⟩⟩, fun _ h => h⟩, ⟨⟨_, rfl, Blk.le_refl _⟩, fun _ h => h⟩, ⟨⟨_, rfl, Blk.le_mapc (by simp only [List.map_append]; rfl)⟩, fun _ h => h⟩, ⟨⟨_, rfl, Blk.le_mapc (by rw [mset_mid, List.length_append]; simp only [List.map_append, List.map_cons]; rfl)⟩, fun _ h => h⟩, ⟨⟨_, rfl, Blk.le_refl _⟩, fun _ h => h⟩, ⟨⟨_, rfl, Blk.le_vrowc (by rw [List.length_append]; exact Nat.le_refl _) (fapp_str rfl)⟩, fun _ h => h⟩, ⟨⟨_, rfl, Blk.le_refl _⟩, fun _ h => h⟩, trivial⟩ (fun w hh hp => ?_), rfl, (by repeat (first | exact trivial | constructor)), _, trivial, ?_, ⟨⟨_, rfl, le_regR hA⟩, fun _ h => h⟩, trivial⟩
     ·
      have := reg_add (lR' := lR ++ [(recK (e.1, strOf n fun i => .v (.int .u8 (f i))), .agg .nil, cR)]) (cR' := cR + 1) (cG' := cG) (born := born) (v := v.1) (cap := v.2) (w := w) hF he hgr' hoth hl1 hl2 (kv_add hF.rcv) (by rw [hl]; simp) (fun a ha => sgOf_ne recs ha _) (nodup_add hF.ndr hin) mem_add hold
      rw [hl] at this
      exact this hh hp
     ·
      rfl
   ·
    have hgn : ∀ g ∈ gr, g.a ≠ e.1 := fun g h1 h2 => hg ⟨g, h1, h2⟩
    have hin : (e.1, strOf n fun i => .v (.int .u8 (f i))) ∉ recs := fun h1 => hg (hF.all _ h1)
    refine ⟨_, hF.piecesS he, ?_⟩
    repeat (first | refine qs_ ?_ | refine qa_ ?_ | refine qo_ ?_ | refine qd_ ?_ | refine za ?_ | refine zb fun _ _ => ?_ | refine zc ?_ | refine ya ?_ | refine yb fun _ _ => ?_ | refine yc ?_ | refine qk_ ?_ | refine qb_ ?_ | refine qx_ ?_)
    refine s_cond (b := false) rfl (fun hb => by cases hb) (fun _ => ?_)
    repeat (first | refine qs_ ?_ | refine qa_ ?_ | refine qo_ ?_ | refine qd_ ?_ | refine za ?_ | refine zb fun _ _ => ?_ | refine zc ?_ | refine ya ?_ | refine yb fun _ _ => ?_ | refine yc ?_ | refine qk_ ?_ | refine qb_ ?_ | refine qx_ ?_)
    refine s_cond (b := decide ((n : Int) > 1048576)) rfl (fun hb => absurd hb (by simp; omega)) (fun _ => ?_)
    repeat (first | refine qs_ ?_ | refine qa_ ?_ | refine qo_ ?_ | refine qd_ ?_ | refine za ?_ | refine zb fun _ _ => ?_ | refine zc ?_ | refine ya ?_ | refine yb fun _ _ => ?_ | refine yc ?_ | refine qk_ ?_ | refine qb_ ?_ | refine qx_ ?_)
    refine o_defer (f := 69) (l := [(0, .ptr ⟨900, 0, b, 0, 5, 0, 0, 0, false⟩)]) rfl rfl rfl rfl trivial ?_
    repeat (first | refine qs_ ?_ | refine qa_ ?_ | refine qo_ ?_ | refine qd_ ?_ | refine za ?_ | refine zb fun _ _ => ?_ | refine zc ?_ | refine ya ?_ | refine yb fun _ _ => ?_ | refine yc ?_ | refine qk_ ?_ | refine qb_ ?_ | refine qx_ ?_)
    refine s_draw rD73_8 rM73_8 rX73_8 rN73_8 rfl rfl ?_
    repeat (first | refine qs_ ?_ | refine qa_ ?_ | refine qo_ ?_ | refine qd_ ?_ | refine za ?_ | refine zb fun _ _ => ?_ | refine zc ?_ | refine ya ?_ | refine yb fun _ _ => ?_ | refine yc ?_ | refine qk_ ?_ | refine qb_ ?_ | refine qx_ ?_)
    refine s_draw rD73_9 rM73_9 rX73_9 rN73_9 rfl rfl ?_
    repeat (first | refine qs_ ?_ | refine qa_ ?_ | refine qo_ ?_ | refine qd_ ?_ | refine za ?_ | refine zb fun _ _ => ?_ | refine zc ?_ | refine ya ?_ | refine yb fun _ _ => ?_ | refine yc ?_ | refine qk_ ?_ | refine qb_ ?_ | refine qx_ ?_)
    refine d_look none rfl rfl rfl rfl rfl rfl rfl rfl rfl rfl rfl rfl rfl (hF.miss_rc hin) ?_
    repeat (first | refine qs_ ?_ | refine qa_ ?_ | refine qo_ ?_ | refine qd_ ?_ | refine za ?_ | refine zb fun _ _ => ?_ | refine zc ?_ | refine ya ?_ | refine yb fun _ _ => ?_ | refine yc ?_ | refine qk_ ?_ | refine qb_ ?_ | refine qx_ ?_)
    refine s_cond (b := true) rfl (fun _ => ?_) (fun hb => by cases hb)
    repeat (first | refine qs_ ?_ | refine qa_ ?_ | refine qo_ ?_ | refine qd_ ?_ | refine za ?_ | refine zb fun _ _ => ?_ | refine zc ?_ | refine ya ?_ | refine yb fun _ _ => ?_ | refine yc ?_ | refine qk_ ?_ | refine qb_ ?_ | refine qx_ ?_)
    refine s_draw rD73_11 rM73_11 [(902, [6])] rN73_11 rfl rfl ?_
    repeat (first | refine qs_ ?_ | refine qa_ ?_ | refine qo_ ?_ | refine qd_ ?_ | refine za ?_ | refine zb fun _ _ => ?_ | refine zc ?_ | refine ya ?_ | refine yb fun _ _ => ?_ | refine yc ?_ | refine qk_ ?_ | refine qb_ ?_ | refine qx_ ?_)
    refine d_mset none rfl rfl rfl rfl rfl rfl rfl rfl rfl rfl rfl rfl (hF.miss_rc hin) rfl ?_
    repeat (first | refine qs_ ?_ | refine qa_ ?_ | refine qo_ ?_ | refine qd_ ?_ | refine za ?_ | refine zb fun _ _ => ?_ | refine zc ?_ | refine ya ?_ | refine yb fun _ _ => ?_ | refine yc ?_ | refine qk_ ?_ | refine qb_ ?_ | refine qx_ ?_)
    refine s_draw rD73_12 rM73_12 [(903, [21])] rN73_12 rfl rfl ?_
    repeat (first | refine qs_ ?_ | refine qa_ ?_ | refine qo_ ?_ | refine qd_ ?_ | refine za ?_ | refine zb fun _ _ => ?_ | refine zc ?_ | refine ya ?_ | refine yb fun _ _ => ?_ | refine yc ?_ | refine qk_ ?_ | refine qb_ ?_ | refine qx_ ?_)
    refine d_look none rfl rfl rfl rfl rfl rfl rfl rfl rfl rfl rfl rfl rfl (hF.miss_gp hgn) ?_
    repeat (first | refine qs_ ?_ | refine qa_ ?_ | refine qo_ ?_ | refine qd_ ?_ | refine za ?_ | refine zb fun _ _ => ?_ | refine zc ?_ | refine ya ?_ | refine yb fun _ _ => ?_ | refine yc ?_ | refine qk_ ?_ | refine qb_ ?_ | refine qx_ ?_)
    refine d_mset none rfl rfl rfl rfl rfl rfl rfl rfl rfl rfl rfl rfl (hF.miss_gp hgn) rfl ?_
    repeat (first | refine qs_ ?_ | refine qa_ ?_ | refine qo_ ?_ | refine qd_ ?_ | refine za ?_ | refine zb fun _ _ => ?_ | refine zc ?_ | refine ya ?_ | refine yb fun _ _ => ?_ | refine yc ?_ | refine qk_ ?_ | refine qb_ ?_ | refine qx_ ?_)
    refine s_ret ?_
    rename_i v hv2
    have hl : sgOf (recs ++ [(e.1, strOf n fun i => .v (.int .u8 (f i)))]) e.1 = [strOf n fun i => .v (.int .u8 (f i))] := by rw [sgOf_same, sgOf_nil fun r hr h1 => hg (by obtain ⟨g, h2, h3⟩ := hF.all r hr; exact ⟨g, h2, h3.trans h1⟩)]; rfl
    have hA : addR recs (e.1, strOf n fun i => .v (.int .u8 (f i))) = recs ++ [(e.1, strOf n fun i => .v (.int .u8 (f i)))] := by unfold addR; rw [if_neg fun h1 => hin (hasR_iff.1 h1)]
    refine .inr ⟨69, [.ptr ⟨900, 0, b, 0, 5, 0, 0, 0, false⟩], [(900, _)], _, _, _, _, rfl, unlock_body, unlock_dfr (L := muLink) muLib row21_ok rfl ⟨⟨⟨⟨rfl, rfl, rfl, Nat.zero_lt_one⟩, rfl⟩, rfl⟩, ⟨rfl, rfl, rfl, Nat.zero_lt_one⟩, rfl⟩, le_close (n := 900) (.reg b ents (recs ++ [(e.1, strOf n fun i => .v (.int .u8 (f i)))])) (IsReg b ents (recs ++ [(e.1, strOf n fun i => .v (.int .u8 (f i)))])) [900, 901, 902, 903, 904, 79, 905] (addBs H b bS bR bG lS (lR ++ [(recK (e.1, strOf n fun i => .v (.int .u8 (f i))), .agg .nil, cR)]) (lG ++ [(.v (.int .u64 e.1), .gs 905 0 (ownB v.1) 1 0 [strOf n fun i => .v (.int .u8 (f i))].length v.2, cG)]) cS (cR + 1) (cG + 1) e.2 e.1 v.1 [strOf n fun i => .v (.int .u8 (f i))] v.2 []) rfl (by decide) ⟨⟨⟨_, rfl, Blk.le_rowc (Nat.le_refl _) fun _ _ => ⟨rfl, rfl⟩⟩, fun _ h => h⟩, ⟨⟨_, rfl, Blk.le_refl _⟩, fun _ h => h⟩, ⟨⟨_, rfl, Blk.le_mapc (by simp only [List.map_append]; rfl)⟩, fun _ h => h⟩, ⟨⟨_, rfl, Blk.le_mapc (by simp only [List.map_append]; rfl)⟩, fun _ h => h⟩, ⟨⟨_, rfl, Blk.le_refl _⟩, fun _ h => h⟩, ⟨⟨_, rfl, Blk.le_vrowc (Nat.le_refl _) fun i hi => (by have h0 : i = 0 := Nat.lt_one_iff.1 hi; subst h0; exact ⟨rfl, rfl⟩)⟩, fun _ h => h⟩, ⟨⟨_, rfl, Blk.le_refl _⟩, fun _ h => h⟩, trivial⟩ (fun w hh hp => ?_), rfl, (by repeat (first | exact trivial | constructor)), _, trivial, ?_, ⟨⟨_, rfl, le_regR hA⟩, fun _ h => h⟩, trivial⟩
    ·
     have := reg_add (lG1 := lG) (lG2 := []) (gr1 := gr) (old := []) (gr2 := []) (recs' := recs ++ [(e.1, strOf n fun i => .v (.int .u8 (f i)))]) (lR' := lR ++ [(recK (e.1, strOf n fun i => .v (.int .u8 (f i))), .agg .nil, cR)]) (cR' := cR + 1) (cG' := cG + 1) (born := cG) (v := v.1) (cap := v.2) (w := w) hF he (by simp) (by simpa using hgn) hF.gpv rfl (kv_add hF.rcv) (by rw [hl]; simp) (fun a ha => sgOf_ne recs ha _) (nodup_add hF.ndr hin) mem_add (fun g hg0 => by cases hg0)
     rw [hl] at this
     exact this hh hp
    ·
     rfl
  ·
   cases h0
 ·
  cases h0
theorem sign_body : HasBody Tryz.prog 73 := ⟨_, Tryz.func73, rfl, by decide⟩
def slE (s : ByteArray) (q : Nat × Nat) : AV := .v (.slice (some ⟨q.1, 0, none⟩) s.size q.2)
structure SlsF (H : Frag) (l : List ByteArray) (v : Option Nat) (cap : Nat) (bs : List (Nat × Nat)) : Prop where
 none_ : v = none → l = []
 row : ∀ b, v = some b → FRow H b 76 1 l.length (fun i => slE (l.getD i ⟨#[]⟩) (bs.getD i (0, 0))) cap
 len : bs.length = l.length
 byt : ∀ i, i < l.length → FBytes 5 (bs.getD i (0, 0)).1 (l.getD i ⟨#[]⟩) H
 nd : ∀ b, v = some b → ∀ q ∈ bs, q.1 ≠ b
 cap0 : v = none → cap = 0
theorem FBytes.ne {T b : Nat} {s : ByteArray} {H : Frag} (h : FBytes T b s H) : H b ≠ none := by
 obtain ⟨c, z, h1, _⟩ := h
 rw [h1]; simp
theorem FBytes.same {T b : Nat} {s : ByteArray} {H H' : Frag} (h : FBytes T b s H) (e : H' b = H b) : FBytes T b s H' := by
 obtain ⟨c, z, h1, h2⟩ := h
 exact ⟨c, z, e.trans h1, h2⟩
theorem SlsF.pieces {H : Frag} {l : List ByteArray} {v : Option Nat} {cap : Nat} {bs : List (Nat × Nat)} (h : SlsF H l v cap bs) : Pieces H [.vrow v 76 1 l.length (fun i => slE (l.getD i ⟨#[]⟩) (bs.getD i (0, 0))) cap, restB H v.toList] := by
 cases v with
 | none =>
  have hl := h.none_ rfl
  subst hl
  have hc := h.cap0 rfl
  subst hc
  refine ⟨fun w hw B hB => ?_, fun B hB k hk => ?_, fun B hB k hk => ?_, ?_⟩
  ·
   rcases List.mem_cons.1 hB with rfl | hB
   ·
    exact ⟨rfl, rfl⟩
   ·
    rw [(by simpa using hB : B = _)]; exact restB_holds hw
  ·
   rcases List.mem_cons.1 hB with rfl | hB
   ·
    cases hk
   ·
    rw [(by simpa using hB : B = _)] at hk; exact hk.1
  ·
   rcases List.mem_cons.1 hB with rfl | hB
   ·
    exact hk
   ·
    rw [(by simpa using hB : B = _)] at hk; exact hk
  ·
   refine List.pairwise_cons.2 ⟨fun B hB k h1 => (by cases h1), List.pairwise_singleton _ _⟩
 | some b => exact pieces_of (ks := [b]) (Bs := [.vrow (some b) 76 1 l.length (fun i => slE (l.getD i ⟨#[]⟩) (bs.getD i (0, 0))) cap]) ⟨one_vrow (h.row b rfl), trivial⟩ (by simp)
section
variable {H : Frag} {b bS bR bG : Nat} {ents : List (Int × Nat)} {recs : List (Int × ByteArray)} {gr : List Grp} {lS lR lG : List (AV × AV × Nat)} {cS cR cG : Nat}
end
end Go.Proofs.YtofophjfgalhaaaGreatDoor.V
namespace Go.Proofs.YtofophjfgalhaaaGreatDoor.V
open Go Go.RowKit
end Go.Proofs.YtofophjfgalhaaaGreatDoor.V
namespace Go.Proofs.YtofophjfgalhaaaGreatDoor.V
open Go Go.RowKit
structure OneL (H : Frag) (ks : List Nat) (B : Blk) : Prop where
 holds : ∀ w, H.on w → B.holds w
 own : ∀ j, B.own j → j ∈ ks
 reads : ∀ j, ¬ B.reads j
 ne : ∀ k ∈ ks, H k ≠ none
def OnesL (H : Frag) : List (List Nat) → List Blk → Prop
 | [], [] => True
 | k :: ks, B :: Bs => OneL H k B ∧ OnesL H ks Bs
 | _, _ => False
theorem OnesL.mem {H : Frag} : ∀ {ks : List (List Nat)} {Bs : List Blk}, OnesL H ks Bs → ∀ B ∈ Bs, ∃ k ∈ ks, OneL H k B
 | [], [], _, B, h => by cases h
 | [], _ :: _, h, _, _ => h.elim
 | _ :: _, [], h, _, _ => h.elim
 | k :: ks, B' :: Bs, h, B, hB => by
  rcases List.mem_cons.1 hB with rfl | hB
  ·
   exact ⟨k, .head _, h.1⟩
  ·
   obtain ⟨j, hj, h1⟩ := h.2.mem B hB
   exact ⟨j, .tail _ hj, h1⟩
theorem OnesL.apart {H : Frag} : ∀ {ks : List (List Nat)} {Bs : List Blk}, OnesL H ks Bs → ks.flatten.Nodup → Bs.Pairwise fun B B' => ∀ k, B.own k → ¬ B'.own k
 | [], [], _, _ => .nil
 | [], _ :: _, h, _ => h.elim
 | _ :: _, [], h, _ => h.elim
 | k :: ks, B' :: Bs, h, hn => by
  rw [List.flatten_cons] at hn
  have hn := List.nodup_append.1 hn
  refine List.pairwise_cons.2 ⟨fun B hB j h1 h2 => ?_, h.2.apart hn.2.1⟩
  obtain ⟨i, hi, h3⟩ := h.2.mem B hB
  exact hn.2.2 j (h.1.own j h1) j (List.mem_flatten.2 ⟨i, hi, h3.own j h2⟩) rfl
theorem pieces_ofL {H : Frag} {ks : List (List Nat)} {Bs : List Blk} (h : OnesL H ks Bs) (hn : ks.flatten.Nodup) : Pieces H (Bs ++ [restB H ks.flatten]) := by
 have hr : ∀ B ∈ Bs ++ [restB H ks.flatten], B ∈ Bs ∨ B = restB H ks.flatten := fun B hB => by
  rcases List.mem_append.1 hB with h | h
  ·
   exact .inl h
  ·
   exact .inr (by simpa using h)
 refine ⟨fun w hw B hB => ?_, fun B hB k hk => ?_, fun B hB k => ?_, ?_⟩
 ·
  rcases hr B hB with h1 | rfl
  ·
   obtain ⟨_, _, h2⟩ := h.mem B h1
   exact h2.holds w hw
  ·
   exact restB_holds hw
 ·
  rcases hr B hB with h1 | rfl
  ·
   obtain ⟨j, _, h2⟩ := h.mem B h1
   exact h2.ne k (h2.own k hk)
  ·
   exact hk.1
 ·
  rcases hr B hB with h1 | rfl
  ·
   obtain ⟨_, _, h2⟩ := h.mem B h1
   exact h2.reads k
  ·
   exact fun h => h
 ·
  refine List.pairwise_append.2 ⟨h.apart hn, List.pairwise_singleton _ _, fun B hB B' hB' k h1 h2 => ?_⟩
  have : B' = restB H ks.flatten := by simpa using hB'
  subst this
  obtain ⟨j, hj, h3⟩ := h.mem B hB
  exact h2.2 (List.mem_flatten.2 ⟨j, hj, h3.own k h1⟩)
def FV (H : Frag) (v : Option Nat) (T : TypeId) (es len : Nat) (f : Nat → AV) (cap : Nat) : Prop := match v with
 | none => len = 0 ∧ cap = 0
 | some b => FRow H b T es len f cap
section
variable {H : Frag} {v : Option Nat} {T : TypeId} {es len cap : Nat} {f : Nat → AV}
theorem FV.on (h : FV H v T es len f cap) {w : World} (hw : H.on w) : (Blk.vrow v T es len f cap).holds w := by
 cases v with
 | none => exact h
 | some b => exact FRow.on h hw
theorem FV.one (h : FV H v T es len f cap) : OneL H v.toList (.vrow v T es len f cap) := by
 cases v with
 | none => exact ⟨fun w hw => h, fun j hj => (by cases hj), fun j hj => hj, fun k hk => (by cases hk)⟩
 | some b =>
  have h : FRow H b T es len f cap := h
  refine ⟨fun w hw => h.on hw, fun j hj => ?_, fun j hj => hj, fun k hk => ?_⟩
  ·
   rw [(Option.some.inj hj).symm]; exact .head _
  ·
   rw [(by simpa using hk : k = b)]; exact h.ne
theorem FV.same {H' : Frag} (h : FV H v T es len f cap) (e : ∀ b, v = some b → H' b = H b) : FV H' v T es len f cap := by
 cases v with
 | none => exact h
 | some b => exact FRow.same h (e b rfl)
theorem closed_fv {Bs : List Blk} {w : World} (hr : .vrow v T es len f cap ∈ Bs) (hh : ∀ B ∈ Bs, B.holds w) : FV (restr w (ownU Bs)) v T es len f cap := by
 cases v with
 | none => exact hh _ hr
 | some b => exact closed_vrow hr hh
theorem FRow.oneL {b : Nat} (h : FRow H b T es len f cap) : OneL H [b] (.row b T es len f cap) := ⟨fun w hw => h.on hw, fun j hj => (by rw [show j = b from hj.symm]; exact .head _), fun j hj => hj, fun k hk => (by rw [(by simpa using hk : k = b)]; exact h.ne)⟩
end
def docAV (x1 : Option (Nat × Nat)) (n1 c1 : Nat) (x2 : Option (Nat × Nat)) (n2 c2 : Nat) : AV := .agg (.cons (.v (.bool true)) (.cons (.gs 901 0 x1 1 0 n1 c1) (.cons (.gs 902 0 x2 2 0 n2 c2) .nil)))
def dsigAV (b : Nat) (a : Int) : AV := .agg (.cons (.ptr ⟨900, 0, b, 0, 3, 0, 0, 0, false⟩) (.cons (.v (.int .u64 a)) .nil))
def entE (l : List (Int × Nat)) (i : Nat) : AV := .v (.int .u64 (l.getD i (0, 0)).1)
def recE (l : List (Int × ByteArray)) (i : Nat) : AV := recK (l.getD i (0, ⟨#[]⟩))
structure DocF (H : Frag) (b : Nat) (ents : List (Int × Nat)) (recs : List (Int × ByteArray)) (v1 : Option Nat) (c1 : Nat) (v2 : Option Nat) (c2 : Nat) : Prop where
 row : FRow H b 220 3 1 (fun _ => docAV (ownB v1) ents.length c1 (ownB v2) recs.length c2) 1
 en : FV H v1 39 1 ents.length (entE ents) c1
 rc : FV H v2 248 2 recs.length (recE recs) c2
 sig : ∀ e ∈ ents, FRow H e.2 224 2 1 (fun _ => dsigAV b e.1) 1
 nde : (ents.map (·.1)).Nodup
 ndr : recs.Nodup
 ndb : (b :: (v1.toList ++ (v2.toList ++ ents.map (·.2)))).Nodup
def IsDoc (b : Nat) (ents : List (Int × Nat)) (recs : List (Int × ByteArray)) (H : Frag) : Prop := ∃ v1 c1 v2 c2, DocF H b ents recs v1 c1 v2 c2
def docB (b : Nat) (ents : List (Int × Nat)) (recs : List (Int × ByteArray)) (S : Nat → Prop) : Blk := frB (.reg b ents recs) S (IsDoc b ents recs)
def docOf (M : MemF) (p : Pt) : Option (Prop × Nat × List (Int × Nat) × List (Int × ByteArray) × (Nat → Prop)) := match M p.n with
 | some (.sep (.reg b ents recs) S φ) => some (Blk.sep (.reg b ents recs) S φ = docB b ents recs S ∧ (p.b = b ∧ p.o0 = 0 ∧ p.es = 3 ∧ p.idx = 0 ∧ p.off = 0 ∧ p.j = 0), b, ents, recs, S)
 | _ => none
theorem docOf_spec {M : MemF} {p : Pt} {c : Prop} {b : Nat} {ents : List (Int × Nat)} {recs : List (Int × ByteArray)} {S : Nat → Prop} (h : docOf M p = some (c, b, ents, recs, S)) (hc : c) : M p.n = some (docB b ents recs S) ∧ ∀ n, (AV.ptr p).val = (AV.ptr ⟨n, 0, b, 0, 3, 0, 0, 0, false⟩).val := by
 unfold docOf at h
 split at h
 ·
  rename_i b' e' r' S' φ hM
  cases h
  obtain ⟨h1, h2, h3, h4, h5, h6, h7⟩ := hc
  refine ⟨by rw [hM, h1], fun n => ?_⟩
  rw [ptr_val, ptr_val]
  unfold Pt.cell
  simp only [h2, h3, h5, h6, h7]
  simp
 ·
  cases h
abbrev docBs (H : Frag) (b : Nat) (ents : List (Int × Nat)) (recs : List (Int × ByteArray)) (v1 : Option Nat) (c1 : Nat) (v2 : Option Nat) (c2 : Nat) : List Blk := [.row b 220 3 1 (fun _ => docAV (ownB v1) ents.length c1 (ownB v2) recs.length c2) 1, .vrow v1 39 1 ents.length (entE ents) c1, .vrow v2 248 2 recs.length (recE recs) c2]
theorem DocF.pieces {H : Frag} {b : Nat} {ents : List (Int × Nat)} {recs : List (Int × ByteArray)} {v1 v2 : Option Nat} {c1 c2 : Nat} (h : DocF H b ents recs v1 c1 v2 c2) : Pieces H (docBs H b ents recs v1 c1 v2 c2 ++ [restB H ([[b], v1.toList, v2.toList].flatten)]) := by
 refine pieces_ofL (ks := [[b], v1.toList, v2.toList]) ⟨h.row.oneL, h.en.one, h.rc.one, trivial⟩ ?_
 refine List.Nodup.sublist ?_ h.ndb
 simp only [List.flatten_cons, List.flatten_nil, List.append_nil, List.cons_append, List.nil_append]
 exact List.Sublist.cons_cons _ (List.Sublist.append_left (List.sublist_append_left _ _) _)
def rec1 : AV → Int × ByteArray
 | .agg (.cons (.v (.int _ a)) (.cons (.v (.string s)) .nil)) => (a, s)
 | _ => (0, ⟨#[]⟩)
def docV (M : MemF) (p : Pt) : Option (Prop × List Int × List (Int × ByteArray)) := match docOf M p with
 | some (c, _, ents, recs, _) => some (c, ents.map (·.1), recs)
 | none => match ptrOf M p true 3 with
  | some (c, .agg (.cons (.v (.bool true)) (.cons X (.cons Y .nil)))) => match seqOf M X, seqOf M Y with
   | some (c1, es1, n1, f1), some (c2, es2, n2, f2) => some (c ∧ (c1 ∧ (n1 ≠ 0 → es1 = 1) ∧ ∀ i, i < n1 → f1 i = .v (.int .u64 (f1 i).int1)) ∧ (c2 ∧ (n2 ≠ 0 → es2 = 2) ∧ ∀ i, i < n2 → f2 i = recK (rec1 (f2 i))), (List.range n1).map (fun i => (f1 i).int1), (List.range n2).map fun i => rec1 (f2 i))
   | _, _ => none
  | _ => none
theorem seq_cells {M : MemF} {X : AV} {r : Prop × Nat × Nat × (Nat → AV)} (h : seqOf M X = some r) : X.cells = [X.val] := by
 cases X <;> first | rfl | (simp [seqOf] at h)
theorem Reads.recell {w : World} {b o es len : Nat} {f g : Nat → AV} (h : Reads w b o es len f) (hf : ∀ i, i < len → (g i).cells = (f i).cells ∧ (g i).one = true) : Reads w b o es len g := by
 intro i hi
 obtain ⟨h1, h2, h3⟩ := h i hi
 obtain ⟨e1, e2⟩ := hf i hi
 refine ⟨?_, e2, fun k hk => ?_⟩
 ·
  rw [← AV.size_cells, e1, AV.size_cells]; exact h1
 ·
  rw [e1]; exact h3 k hk
def asE (l : List Int) (i : Nat) : AV := .v (.int .u64 (l.getD i 0))
theorem doc_open {O : Nat → Prop} {w0 w : World} {M : MemF} {p : Pt} {c : Prop} {aa : List Int} {recs : List (Int × ByteArray)} (hS : Sat O w0 M w) (h : docV M p = some (c, aa, recs)) (hc : c) :
  ∃ b i x1 c1 x2 c2, (AV.ptr p).val = (roP 900 b i 3).val ∧ (roB (some (b, i)) 3 1 fun _ => docAV x1 aa.length c1 x2 recs.length c2).holds w ∧ (roB x1 1 aa.length (asE aa)).holds w ∧ (roB x2 2 recs.length (recE recs)).holds w := by
 unfold docV at h
 split at h
 ·
  rename_i c b ents recs S hp
  cases h
  obtain ⟨hM, hv⟩ := docOf_spec hp hc
  obtain ⟨H, _, ⟨v1, c1, v2, c2, hF⟩, h3⟩ := frB_open (hS.holds _ _ hM)
  refine ⟨b, 0, ownB v1, c1, ownB v2, c2, (hv 900).trans rfl, roB_holds fun _ => ⟨b, 0, rfl, ?_⟩, roB_holds fun h0 => ?_, roB_holds fun h0 => ?_⟩
  ·
   rw [List.length_map]; exact (hF.row.on h3).reads
  ·
   rw [List.length_map] at h0 ⊢
   have he := hF.en
   cases v1 with
   | none => exact absurd he.1 h0
   | some b1 =>
    refine ⟨b1, 0, rfl, ((FRow.on (show FRow H b1 39 1 ents.length (entE ents) c1 from he) h3).reads).congr fun i hi => ?_⟩
    unfold entE asE
    rw [List.getD_eq_getElem?_getD, List.getD_eq_getElem?_getD, List.getElem?_map]
    cases ents[i]? <;> rfl
  ·
   have he := hF.rc
   cases v2 with
   | none => exact absurd he.1 h0
   | some b1 => exact ⟨b1, 0, rfl, (FRow.on (show FRow H b1 248 2 recs.length (recE recs) c2 from he) h3).reads⟩
 ·
  split at h
  ·
   rename_i c X Y hp
   split at h
   ·
    rename_i c1 es1 n1 f1 c2 es2 n2 f2 hX hY
    cases h
    obtain ⟨q0, ⟨q1, q2, q3⟩, ⟨r1, r2, r3⟩⟩ := hc
    have hR := ptrOf_spec (g := true) hS hp q0
    obtain ⟨base1, cap1, hv1, hr1⟩ := seqOf_spec hS hX q1
    obtain ⟨base2, cap2, hv2, hr2⟩ := seqOf_spec hS hY r1
    have l1 : ((List.range n1).map fun i => (f1 i).int1).length = n1 := by simp
    have l2 : ((List.range n2).map fun i => rec1 (f2 i)).length = n2 := by simp
    rw [l1, l2]
    refine ⟨p.b, p.cell, base1, cap1, base2, cap2, pt_ro p 900 3, roB_holds fun _ => ⟨_, _, rfl, hR.recell fun i _ => ⟨?_, rfl⟩⟩, roB_holds fun h0 => ?_, roB_holds fun h0 => ?_⟩
    ·
     simp only [docAV, AV.cells_agg, AV.cells_cons, seq_cells hX, seq_cells hY, hv1, hv2]
     have e1 : (AV.gs 901 0 base1 1 0 n1 cap1).cells = [slV base1 n1 cap1] := by rw [← roS_val 901 base1 1 n1 cap1]; rfl
     have e2 : (AV.gs 902 0 base2 2 0 n2 cap2).cells = [slV base2 n2 cap2] := by rw [← roS_val 902 base2 2 n2 cap2]; rfl
     rw [e1, e2]
    ·
     obtain ⟨b, o, hb, hR1⟩ := hr1 h0
     rw [q2 h0] at hR1
     refine ⟨b, o, hb, hR1.congr fun i hi => ?_⟩
     unfold asE
     rw [q3 i hi, List.getD_eq_getElem?_getD, List.getElem?_map, List.getElem?_range hi]; rfl
    ·
     obtain ⟨b, o, hb, hR1⟩ := hr2 h0
     rw [r2 h0] at hR1
     refine ⟨b, o, hb, hR1.congr fun i hi => ?_⟩
     unfold recE
     rw [r3 i hi, List.getD_eq_getElem?_getD, List.getElem?_map, List.getElem?_range hi]; rfl
   ·
    cases h
  ·
   cases h
def dMc (b i : Nat) (x1 : Option (Nat × Nat)) (c1 : Nat) (x2 : Option (Nat × Nat)) (c2 : Nat) (aa : List Int) (recs : List (Int × ByteArray)) : Mem := [(900, roB (some (b, i)) 3 1 fun _ => docAV x1 aa.length c1 x2 recs.length c2), (901, roB x1 1 aa.length (asE aa)), (902, roB x2 2 recs.length (recE recs))]
def dgoodC (args : List AV) (M : MemF) : Option (Prop × AV) := match args with
 | [.ptr p] => match docV M p with
  | some (c, _, _) => some (c, .v (.bool true))
  | none => none
 | _ => none
theorem dgood_read : ReadFn Tryz.prog 56 dgoodC := by
 intro args M q res h hq O w0 w hS
 unfold dgoodC at h
 split at h
 ·
  rename_i p
  split at h
  ·
   rename_i c aa recs hp
   cases h
   obtain ⟨b, i, x1, c1, x2, c2, hv, h1, h2, h3⟩ := doc_open hS hp hq
   rw [show [AV.ptr p].map AV.val = [roP 900 b i 3].map AV.val by simp only [List.map_cons, List.map_nil, hv]]
   refine ro_fn tabs2 (ct := []) trivial (cr := []) trivial Tryz.func56 rfl rfl (M := dMc b i x1 c1 x2 c2 aa recs) rfl ⟨roB_noOwn, roB_noOwn, roB_noOwn, trivial⟩ ⟨h1, h2, h3, trivial⟩ ?_
   repeat (first | refine qs_ ?_ | refine qa_ ?_ | refine qo_ ?_ | refine qd_ ?_ | refine za ?_ | refine zb fun _ _ => ?_ | refine zc ?_ | refine ya ?_ | refine yb fun _ _ => ?_ | refine yc ?_ | refine qk_ ?_ | refine qb_ ?_ | refine qx_ ?_)
   refine s_ret ?_
   exact ⟨_, _, rfl, ⟨trivial, trivial⟩, rfl, rfl⟩
  ·
   cases h
 ·
  cases h
theorem dgood_body : HasBody Tryz.prog 56 := ⟨_, Tryz.func56, rfl, by decide⟩
def ctGd : CtL := [(56, dgoodC)]
theorem ctGd_ok : CtLOk Tryz.prog ctGd := ⟨CallsOk.fn dgood_body dgood_read, trivial⟩
def knownF (aa : List Int) (a : Int) : Bool := aa.any (· == a)
def knownC (args : List AV) (M : MemF) : Option (Prop × AV) := match args with
 | [.ptr p, .v (.int .u64 a)] => match docV M p with
  | some (c, aa, _) => some (c ∧ aa.length ≤ 9223372036854775807, .v (.bool (knownF aa a)))
  | none => none
 | _ => none
theorem known_true {aa : List Int} {a : Int} {k : Nat} (hk : k < aa.length) (h : aa.getD k 0 = a) : knownF aa a = true := by
 unfold knownF
 rw [List.any_eq_true]
 refine ⟨a, ?_, by simp⟩
 rw [← h, List.getD_eq_getElem?_getD, List.getElem?_eq_getElem hk]
 exact List.getElem_mem hk
theorem known_false {aa : List Int} {a : Int} (h : ∀ j, j < aa.length → aa.getD j 0 ≠ a) : knownF aa a = false := by
 unfold knownF
 rw [Bool.eq_false_iff]
 intro h0
 obtain ⟨x, hx, e⟩ := List.any_eq_true.1 h0
 obtain ⟨j, hj, hjx⟩ := List.getElem_of_mem hx
 refine h j hj ?_
 rw [List.getD_eq_getElem?_getD, List.getElem?_eq_getElem hj]
 simpa [hjx] using e
theorem known_read : ReadFn Tryz.prog 42 knownC := by
 intro args M q res h hq O w0 w hS
 unfold knownC at h
 split at h
 ·
  rename_i p a
  split at h
  ·
   rename_i c aa recs hp
   cases h
   obtain ⟨hq, hn⟩ := hq
   obtain ⟨b, i, x1, c1, x2, c2, hv, h1, h2, h3⟩ := doc_open hS hp hq
   rw [show [AV.ptr p, AV.v (.int .u64 a)].map AV.val = [roP 900 b i 3, AV.v (.int .u64 a)].map AV.val by simp only [List.map_cons, List.map_nil, hv]]
   refine ro_fn tabs2 ctGd_ok (cr := []) trivial Tryz.func42 rfl rfl (M := [(900, roB (some (b, i)) 3 1 fun _ => docAV x1 aa.length c1 x2 recs.length c2), (901, roB x1 1 aa.length (asE aa)), (902, roB x2 2 recs.length (recE recs))]) rfl ⟨roB_noOwn, roB_noOwn, roB_noOwn, trivial⟩ ⟨h1, h2, h3, trivial⟩ ?_
   repeat (first | refine qs_ ?_ | refine qa_ ?_ | refine qo_ ?_ | refine qd_ ?_ | refine za ?_ | refine zb fun _ _ => ?_ | refine zc ?_ | refine ya ?_ | refine yb fun _ _ => ?_ | refine yc ?_ | refine qk_ ?_ | refine qb_ ?_ | refine qx_ ?_)
   refine s_cond (b := false) rfl (fun hb => by cases hb) (fun _ => ?_)
   repeat (first | refine qs_ ?_ | refine qa_ ?_ | refine qo_ ?_ | refine qd_ ?_ | refine za ?_ | refine zb fun _ _ => ?_ | refine zc ?_ | refine ya ?_ | refine yb fun _ _ => ?_ | refine yc ?_ | refine qk_ ?_ | refine qb_ ?_ | refine qx_ ?_)
   refine s_loopW (α := Nat) [5, 9, 10, 11, 12, 13, 14, 15, 16, 17, 18, 19, 20, 21, 22, 23, 24, 25, 26] [] (fun k => k ≤ aa.length ∧ ∀ j, j < k → aa.getD j 0 ≠ a) (fun k => [(5, none, .v (.int .i64 k))]) (fun _ => []) (fun k => aa.length - k) 0 ⟨Nat.zero_le _, fun j hj => absurd hj (Nat.not_lt_zero j)⟩ ?_ ?_
   ·
    exact leQ
   ·
    intro k ⟨hk, hno⟩
    repeat (first | refine qs_ ?_ | refine qa_ ?_ | refine qo_ ?_ | refine qd_ ?_ | refine za ?_ | refine zb fun _ _ => ?_ | refine zc ?_ | refine ya ?_ | refine yb fun _ _ => ?_ | refine yc ?_ | refine qk_ ?_ | refine qb_ ?_ | refine qx_ ?_)
    refine s_cond (b := decide ((k : Int) < (aa.length : Int))) rfl (fun hb2 => ?_) (fun hb2 => ?_)
    ·
     have hk8 : k < aa.length := by have := of_decide_eq_true hb2; omega
     repeat (first | refine qs_ ?_ | refine qa_ ?_ | refine qo_ ?_ | refine qd_ ?_ | refine za ?_ | refine zb fun _ _ => ?_ | refine zc ?_ | refine ya ?_ | refine yb fun _ _ => ?_ | refine yc ?_ | refine qk_ ?_ | refine qb_ ?_ | refine qx_ ?_)
     refine s_cond (b := (aa.getD k 0 == a)) rfl (fun h9 => ?_) (fun h9 => ?_)
     ·
      repeat (first | refine qs_ ?_ | refine qa_ ?_ | refine qo_ ?_ | refine qd_ ?_ | refine za ?_ | refine zb fun _ _ => ?_ | refine zc ?_ | refine ya ?_ | refine yb fun _ _ => ?_ | refine yc ?_ | refine qk_ ?_ | refine qb_ ?_ | refine qx_ ?_)
      refine s_ret ?_
      refine ⟨_, _, rfl, ⟨trivial, trivial⟩, rfl, ?_⟩
      rw [known_true hk8 (by simpa using h9)]
      rfl
     ·
      repeat (first | refine qs_ ?_ | refine qa_ ?_ | refine qo_ ?_ | refine qd_ ?_ | refine za ?_ | refine zb fun _ _ => ?_ | refine zc ?_ | refine ya ?_ | refine yb fun _ _ => ?_ | refine yc ?_ | refine qk_ ?_ | refine qb_ ?_ | refine qx_ ?_)
      refine ⟨k + 1, ⟨by omega, fun j hj => ?_⟩, by omega, ?_⟩
      ·
       rcases Nat.lt_or_ge j k with h1 | h1
       ·
        exact hno j h1
       ·
        rw [show j = k by omega]; simpa using h9
      ·
       exact leQ
    ·
     have hk8 : k = aa.length := by have := of_decide_eq_false hb2; omega
     repeat (first | refine qs_ ?_ | refine qa_ ?_ | refine qo_ ?_ | refine qd_ ?_ | refine za ?_ | refine zb fun _ _ => ?_ | refine zc ?_ | refine ya ?_ | refine yb fun _ _ => ?_ | refine yc ?_ | refine qk_ ?_ | refine qb_ ?_ | refine qx_ ?_)
     refine s_ret ?_
     refine ⟨_, _, rfl, ⟨trivial, trivial⟩, rfl, ?_⟩
     rw [known_false (hk8 ▸ hno)]
     rfl
  ·
   cases h
 ·
  cases h
theorem known_body : HasBody Tryz.prog 42 := ⟨_, Tryz.func42, rfl, by decide⟩
def dhasC (args : List AV) (M : MemF) : Option (Prop × AV) := match args with
 | [.ptr p, .v (.int .u64 a), X] => match docV M p, seqOf M X with
  | some (c, _, recs), some (c2, es, n, fx) => some (c ∧ recs.length ≤ 4000000000000 ∧ (c2 ∧ (n ≠ 0 → es = 1) ∧ ∀ i, i < n → fx i = .v (.int .u8 (fx i).int1)), .v (.bool (hasR recs (a, strOf n fx))))
  | _, _ => none
 | _ => none
theorem has_true {recs : List (Int × ByteArray)} {r : Int × ByteArray} {k : Nat} (hk : k < recs.length) (h : ((recs.getD k (0, ⟨#[]⟩)).1 == r.1 && (recs.getD k (0, ⟨#[]⟩)).2.toList == r.2.toList) = true) : hasR recs r = true := by
 unfold hasR
 rw [List.any_eq_true]
 refine ⟨_, ?_, h⟩
 rw [List.getD_eq_getElem?_getD, List.getElem?_eq_getElem hk]
 exact List.getElem_mem hk
theorem has_false {recs : List (Int × ByteArray)} {r : Int × ByteArray} (h : ∀ j, j < recs.length → ((recs.getD j (0, ⟨#[]⟩)).1 == r.1 && (recs.getD j (0, ⟨#[]⟩)).2.toList == r.2.toList) = false) : hasR recs r = false := by
 unfold hasR
 rw [Bool.eq_false_iff]
 intro h0
 obtain ⟨x, hx, e⟩ := List.any_eq_true.1 h0
 obtain ⟨j, hj, hjx⟩ := List.getElem_of_mem hx
 have := h j hj
 rw [List.getD_eq_getElem?_getD, List.getElem?_eq_getElem hj] at this
 simp only [Option.getD_some, hjx] at this
 rw [this] at e
 cases e
theorem dhas_read : ReadFn Tryz.prog 126 dhasC := by
 intro args M q res h hq O w0 w hS
 unfold dhasC at h
 split at h
 ·
  rename_i p a X
  split at h
  ·
   rename_i c aa recs c2 es n fx hp hsx
   cases h
   obtain ⟨hq, hn, q1, q2, q4⟩ := hq
   obtain ⟨b, i, x1, c1, x2, c2, hv, h1, h2, h3⟩ := doc_open hS hp hq
   obtain ⟨base, cap, hvx, hro⟩ := bytes_ro hS hsx q1 q2 q4
   obtain ⟨f, hf0⟩ : ∃ f, f = fun i => (fx i).int1 := ⟨_, rfl⟩
   have hstr : strOf n fx = strOf n fun i => .v (.int .u8 (f i)) := by rw [hf0]; rfl
   rw [hstr]
   have hro : (roB base 1 n fun i => .v (.int .u8 (f i))).holds w := by rw [hf0]; exact hro
   rw [show [AV.ptr p, AV.v (.int .u64 a), X].map AV.val = [roP 900 b i 3, AV.v (.int .u64 a), roS 903 base 1 n cap].map AV.val by simp only [List.map_cons, List.map_nil, hv, hvx, roS_val]]
   refine ro_fn tabs2 (ct := []) trivial (cr := []) trivial Tryz.func126 rfl rfl (M := [(900, roB (some (b, i)) 3 1 fun _ => docAV x1 aa.length c1 x2 recs.length c2), (901, roB x1 1 aa.length (asE aa)), (902, roB x2 2 recs.length (recE recs)), (903, roB base 1 n fun i => .v (.int .u8 (f i)))]) rfl ⟨roB_noOwn, roB_noOwn, roB_noOwn, roB_noOwn, trivial⟩ ⟨h1, h2, h3, hro, trivial⟩ ?_
   repeat (first | refine qs_ ?_ | refine qa_ ?_ | refine qo_ ?_ | refine qd_ ?_ | refine za ?_ | refine zb fun _ _ => ?_ | refine zc ?_ | refine ya ?_ | refine yb fun _ _ => ?_ | refine yc ?_ | refine qk_ ?_ | refine qb_ ?_ | refine qx_ ?_)
   refine s_loopW (α := Nat) [7, 8, 9, 10, 11, 12, 13, 14, 15, 16, 17, 18, 19, 20, 21, 22, 23, 24, 25, 26, 27, 28, 29, 30, 31, 32, 33, 34, 35, 36, 37, 38, 39] [] (fun k => k ≤ recs.length ∧ ∀ j, j < k → ((recs.getD j (0, ⟨#[]⟩)).1 == a && (recs.getD j (0, ⟨#[]⟩)).2.toList == (strOf n fun i => .v (.int .u8 (f i))).toList) = false) (fun k => [(7, none, .v (.int .i64 k))]) (fun _ => []) (fun k => recs.length - k) 0 ⟨Nat.zero_le _, fun j hj => absurd hj (Nat.not_lt_zero j)⟩ ?_ ?_
   ·
    exact leQ
   ·
    intro k ⟨hk, hno⟩
    repeat (first | refine qs_ ?_ | refine qa_ ?_ | refine qo_ ?_ | refine qd_ ?_ | refine za ?_ | refine zb fun _ _ => ?_ | refine zc ?_ | refine ya ?_ | refine yb fun _ _ => ?_ | refine yc ?_ | refine qk_ ?_ | refine qb_ ?_ | refine qx_ ?_)
    refine s_cond (b := decide ((k : Int) < (recs.length : Int))) rfl (fun hb2 => ?_) (fun hb2 => ?_)
    ·
     have hk8 : k < recs.length := by have := of_decide_eq_true hb2; omega
     repeat (first | refine qs_ ?_ | refine qa_ ?_ | refine qo_ ?_ | refine qd_ ?_ | refine za ?_ | refine zb fun _ _ => ?_ | refine zc ?_ | refine ya ?_ | refine yb fun _ _ => ?_ | refine yc ?_ | refine qk_ ?_ | refine qb_ ?_ | refine qx_ ?_)
     refine s_draw rD126_4 rM126_4 rX126_4 rN126_4 rfl rfl ?_
     repeat (first | refine qs_ ?_ | refine qa_ ?_ | refine qo_ ?_ | refine qd_ ?_ | refine za ?_ | refine zb fun _ _ => ?_ | refine zc ?_ | refine ya ?_ | refine yb fun _ _ => ?_ | refine yc ?_ | refine qk_ ?_ | refine qb_ ?_ | refine qx_ ?_)
     refine s_cond (b := ((recs.getD k (0, ⟨#[]⟩)).1 == a && (recs.getD k (0, ⟨#[]⟩)).2.toList == (strOf n fun i => .v (.int .u8 (f i))).toList)) rfl (fun h9 => ?_) (fun h9 => ?_)
     ·
      repeat (first | refine qs_ ?_ | refine qa_ ?_ | refine qo_ ?_ | refine qd_ ?_ | refine za ?_ | refine zb fun _ _ => ?_ | refine zc ?_ | refine ya ?_ | refine yb fun _ _ => ?_ | refine yc ?_ | refine qk_ ?_ | refine qb_ ?_ | refine qx_ ?_)
      refine s_ret ?_
      refine ⟨_, _, rfl, ⟨trivial, trivial⟩, rfl, ?_⟩
      rw [has_true hk8 h9]
      rfl
     ·
      repeat (first | refine qs_ ?_ | refine qa_ ?_ | refine qo_ ?_ | refine qd_ ?_ | refine za ?_ | refine zb fun _ _ => ?_ | refine zc ?_ | refine ya ?_ | refine yb fun _ _ => ?_ | refine yc ?_ | refine qk_ ?_ | refine qb_ ?_ | refine qx_ ?_)
      refine ⟨k + 1, ⟨by omega, fun j hj => ?_⟩, by omega, ?_⟩
      ·
       rcases Nat.lt_or_ge j k with h1 | h1
       ·
        exact hno j h1
       ·
        rw [show j = k by omega]; exact h9
      ·
       exact leQ
    ·
     have hk8 : k = recs.length := by have := of_decide_eq_false hb2; omega
     repeat (first | refine qs_ ?_ | refine qa_ ?_ | refine qo_ ?_ | refine qd_ ?_ | refine za ?_ | refine zb fun _ _ => ?_ | refine zc ?_ | refine ya ?_ | refine yb fun _ _ => ?_ | refine yc ?_ | refine qk_ ?_ | refine qb_ ?_ | refine qx_ ?_)
     refine s_ret ?_
     refine ⟨_, _, rfl, ⟨trivial, trivial⟩, rfl, ?_⟩
     rw [has_false (hk8 ▸ hno)]
     rfl
  ·
   cases h
 ·
  cases h
theorem dhas_body : HasBody Tryz.prog 126 := ⟨_, Tryz.func126, rfl, by decide⟩
end Go.Proofs.YtofophjfgalhaaaGreatDoor.V
