import Derived.Test.YtofophjfgalhaaaGreatDoorMisdeedPicksW16
import Derived.Test.YtofophjfgalhaaaGreatDoorMisdeedPicksW33
import Derived.Test.YtofophjfgalhaaaGreatDoorMisdeedPicksW35
set_option linter.unusedVariables false
set_option linter.unusedSimpArgs false
/-! Settle's look at the past: slices.ContainsFunc with its closure, walked. -/
namespace Go.Proofs.YtofophjfgalhaaaGreatDoor.V
open Go Go.RowKit

def hit3C (args : List AV) (M : MemF) : Option (Prop × AV) := match args with
  | [.agg (.cons (.v (.int .u64 h)) (.cons (.v (.int .u64 t)) (.cons (.agg (.cons (.v (.slice a n c)) .nil)) .nil))), .ptr p] => match ptrOf M p true 2 with
    | some (q, .agg (.cons (.v (.int .u64 x)) (.cons (.v (.int .u64 y)) .nil))) => some (q, .v (.bool (h == x)))
    | _ => none
  | _ => none
set_option maxRecDepth 100000 in
theorem hit3_read : ReadFn Tryz.prog 103 hit3C := by
  intro args M q res h hq O w0 w hS
  unfold hit3C at h
  split at h
  · rename_i h1 t a n c p
    split at h
    · rename_i q x y hp
      cases h
      have hR := ptrOf_spec (g := true) hS hp hq
      rw [show [.agg (.cons (.v (.int .u64 h1)) (.cons (.v (.int .u64 t)) (.cons (.agg (.cons (.v (.slice a n c)) .nil)) .nil))), AV.ptr p].map AV.val = [.agg (.cons (.v (.int .u64 h1)) (.cons (.v (.int .u64 t)) (.cons (.agg (.cons (.v (.slice a n c)) .nil)) .nil))), roP 900 p.b p.cell 2].map AV.val by simp only [List.map_cons, List.map_nil, pt_ro p 900 2]]
      refine ro_fn tabs2 (ct := []) trivial (cr := []) trivial Tryz.func103 rfl rfl (M := [(900, roB (some (p.b, p.cell)) 2 1 fun _ => .agg (.cons (.v (.int .u64 x)) (.cons (.v (.int .u64 y)) .nil)))]) rfl ⟨roB_noOwn, trivial⟩ ⟨roB_holds fun _ => ⟨_, _, rfl, hR⟩, trivial⟩ ?_
      repeat (first | refine s_seq ?_ | refine s_region ?_ | refine o_nil ?_ | refine d_nil ?_ | refine oA rfl rfl trivial ?_ | refine oB rfl rfl rfl (fun _ _ => ?_) | refine oC rfl rfl rfl trivial ?_ | refine dA rfl rfl trivial ?_ | refine dB rfl rfl rfl (fun _ _ => ?_) | refine dC rfl rfl rfl trivial ?_ | refine s_skip ?_ | refine s_block ?_ | refine s_exit ?_ | refine s_label ?_)
      refine s_ret ?_
      exact ⟨_, _, rfl, ⟨trivial, trivial⟩, rfl, rfl⟩
    · cases h
  · cases h
set_option maxRecDepth 100000 in
theorem hit3_body : HasBody Tryz.prog 103 := ⟨_, Tryz.func103, rfl, by decide⟩
def ixP3C (args : List AV) (M : MemF) : Option (Prop × AV) := match args with
  | [.v (.slice a n _), .fn 103 (.cons (.ptr p) .nil)] => match pstV M a n, ptrOf M p true 2 with
    | some (c, l), some (c2, .agg (.cons (.v (.int .u64 x)) (.cons (.v (.int .u64 _)) .nil))) => some (c ∧ c2, .v (.int .i64 (numIx x (l.map (·.h)) 0)))
    | _, _ => none
  | _ => none
def ctHt3 : CtL := [(103, hit3C)]
set_option maxRecDepth 100000 in
theorem ctHt3_ok : CtLOk Tryz.prog ctHt3 := ⟨CallsOk.fn hit3_body hit3_read, trivial⟩
set_option maxRecDepth 100000 in
set_option maxHeartbeats 4000000 in
theorem ixP3_read : ReadFn Tryz.prog 49 ixP3C := by
  intro args M q res h0 hq O w0 w hS
  unfold ixP3C at h0
  split at h0
  · rename_i pa pn pc p
    split at h0
    · rename_i c l c2 x y hsx hp
      cases h0
      obtain ⟨hq, hq2⟩ := hq
      have hR := ptrOf_spec (g := true) hS hp hq2
      obtain ⟨hn, hl, _⟩ := comeIn_spec hsx hq
      have hf : (AV.fn 103 (.cons (.ptr p) .nil)).val = (AV.fn 103 (.cons (roP 901 p.b p.cell 2) .nil)).val := by
        rw [fn_val, fn_val]
        show Value.func _ _ #[(AV.ptr p).val] = Value.func _ _ #[(roP 901 p.b p.cell 2).val]
        rw [pt_ro p 901 2]
      rcases comeIn_ro (cap := pc) hS hsx hq with ⟨base, hv, hro⟩ | ⟨rfl, rfl⟩
      · have hro : (roB base 3 pn (pstE l)).holds w := hro
        rw [show [.v (.slice pa pn pc), AV.fn 103 (.cons (.ptr p) .nil)].map AV.val = [roS 900 base 3 pn pc, AV.fn 103 (.cons (roP 901 p.b p.cell 2) .nil)].map AV.val by simp only [List.map_cons, List.map_nil, hf, roS_val, AV.val_v, hv]]
        refine ro_fn tabs2 ctHt3_ok (cr := []) trivial Tryz.func49 rfl rfl (M := [(900, roB base 3 pn (pstE l)), (901, roB (some (p.b, p.cell)) 2 1 fun _ => .agg (.cons (.v (.int .u64 x)) (.cons (.v (.int .u64 y)) .nil)))]) rfl ⟨roB_noOwn, roB_noOwn, trivial⟩ ⟨hro, roB_holds fun _ => ⟨_, _, rfl, hR⟩, trivial⟩ ?_
        repeat (first | refine s_seq ?_ | refine s_region ?_ | refine o_nil ?_ | refine d_nil ?_ | refine oA rfl rfl trivial ?_ | refine oB rfl rfl rfl (fun _ _ => ?_) | refine oC rfl rfl rfl trivial ?_ | refine dA rfl rfl trivial ?_ | refine dB rfl rfl rfl (fun _ _ => ?_) | refine dC rfl rfl rfl trivial ?_ | refine s_skip ?_ | refine s_block ?_ | refine s_exit ?_ | refine s_label ?_)
        refine s_loopW (α := Nat) [5, 8, 9, 10, 11, 12, 13, 14, 15, 16, 17, 18] [] (fun k => k ≤ pn ∧ ∀ j, j < k → ((l.map (·.h)).getD j 0 == x) = false) (fun k => [(8, none, .v (.int .i64 k))]) (fun _ => []) (fun k => pn - k) 0 ⟨Nat.zero_le _, fun j hj => absurd hj (Nat.not_lt_zero j)⟩ ?_ ?_
        · (refine Le.of ?leT ?leM (by first | exact dfs_nil rfl rfl | exact rfl); (case leT => repeat (first | exact trivial | refine And.intro (by first | exact rfl | (show some (none, AV.v (.int .i64 (IntKind.i64.wrap _))) = _; rw [wi64 (by omega) (by omega)]; rfl)) ?_)); (case leM => repeat (first | exact trivial | refine And.intro ⟨_, rfl, Blk.le_refl _⟩ ?_)))
        · intro k ⟨hk, hno⟩
          repeat (first | refine s_seq ?_ | refine s_region ?_ | refine o_nil ?_ | refine d_nil ?_ | refine oA rfl rfl trivial ?_ | refine oB rfl rfl rfl (fun _ _ => ?_) | refine oC rfl rfl rfl trivial ?_ | refine dA rfl rfl trivial ?_ | refine dB rfl rfl rfl (fun _ _ => ?_) | refine dC rfl rfl rfl trivial ?_ | refine s_skip ?_ | refine s_block ?_ | refine s_exit ?_ | refine s_label ?_)
          refine s_cond (b := decide ((k : Int) < (pn : Int))) rfl (fun hb2 => ?_) (fun hb2 => ?_)
          · have hk8 : k < pn := by have := of_decide_eq_true hb2; omega
            repeat (first | refine s_seq ?_ | refine s_region ?_ | refine o_nil ?_ | refine d_nil ?_ | refine oA rfl rfl trivial ?_ | refine oB rfl rfl rfl (fun _ _ => ?_) | refine oC rfl rfl rfl trivial ?_ | refine dA rfl rfl trivial ?_ | refine dB rfl rfl rfl (fun _ _ => ?_) | refine dC rfl rfl rfl trivial ?_ | refine s_skip ?_ | refine s_block ?_ | refine s_exit ?_ | refine s_label ?_)
            refine s_cond (b := ((l.getD k default).h == x)) rfl (fun h9 => ?_) (fun h9 => ?_)
            · repeat (first | refine s_seq ?_ | refine s_region ?_ | refine o_nil ?_ | refine d_nil ?_ | refine oA rfl rfl trivial ?_ | refine oB rfl rfl rfl (fun _ _ => ?_) | refine oC rfl rfl rfl trivial ?_ | refine dA rfl rfl trivial ?_ | refine dB rfl rfl rfl (fun _ _ => ?_) | refine dC rfl rfl rfl trivial ?_ | refine s_skip ?_ | refine s_block ?_ | refine s_exit ?_ | refine s_label ?_)
              refine s_ret ?_
              refine ⟨_, _, rfl, ⟨trivial, trivial⟩, rfl, ?_⟩
              rw [numIx_at (k := k) (by rw [List.length_map, hl]; exact hk8) hno (by rw [pst_get]; exact h9), Nat.zero_add]
              rfl
            · repeat (first | refine s_seq ?_ | refine s_region ?_ | refine o_nil ?_ | refine d_nil ?_ | refine oA rfl rfl trivial ?_ | refine oB rfl rfl rfl (fun _ _ => ?_) | refine oC rfl rfl rfl trivial ?_ | refine dA rfl rfl trivial ?_ | refine dB rfl rfl rfl (fun _ _ => ?_) | refine dC rfl rfl rfl trivial ?_ | refine s_skip ?_ | refine s_block ?_ | refine s_exit ?_ | refine s_label ?_)
              refine ⟨k + 1, ⟨by omega, fun j hj => ?_⟩, by omega, ?_⟩
              · rcases Nat.lt_or_ge j k with h1 | h1
                · exact hno j h1
                · rw [show j = k by omega, pst_get]; exact h9
              · (refine Le.of ?leT ?leM (by first | exact dfs_nil rfl rfl | exact rfl); (case leT => repeat (first | exact trivial | refine And.intro (by first | exact rfl | (show some (none, AV.v (.int .i64 (IntKind.i64.wrap _))) = _; rw [wi64 (by omega) (by omega)]; rfl)) ?_)); (case leM => repeat (first | exact trivial | refine And.intro ⟨_, rfl, Blk.le_refl _⟩ ?_)))
          · have hk8 : k = pn := by have := of_decide_eq_false hb2; omega
            repeat (first | refine s_seq ?_ | refine s_region ?_ | refine o_nil ?_ | refine d_nil ?_ | refine oA rfl rfl trivial ?_ | refine oB rfl rfl rfl (fun _ _ => ?_) | refine oC rfl rfl rfl trivial ?_ | refine dA rfl rfl trivial ?_ | refine dB rfl rfl rfl (fun _ _ => ?_) | refine dC rfl rfl rfl trivial ?_ | refine s_skip ?_ | refine s_block ?_ | refine s_exit ?_ | refine s_label ?_)
            refine s_ret ?_
            refine ⟨_, _, rfl, ⟨trivial, trivial⟩, rfl, ?_⟩
            rw [numIx_no (by rw [List.length_map, hl, ← hk8]; exact hno)]
            rfl
      · rw [show [.v (.slice pa 0 pc), AV.fn 103 (.cons (.ptr p) .nil)].map AV.val = [.v (.slice pa 0 pc), AV.fn 103 (.cons (roP 901 p.b p.cell 2) .nil)].map AV.val by simp only [List.map_cons, List.map_nil, hf]]
        refine ro_fn tabs2 ctHt3_ok (cr := []) trivial Tryz.func49 rfl rfl (M := [(901, roB (some (p.b, p.cell)) 2 1 fun _ => .agg (.cons (.v (.int .u64 x)) (.cons (.v (.int .u64 y)) .nil)))]) rfl ⟨roB_noOwn, trivial⟩ ⟨roB_holds fun _ => ⟨_, _, rfl, hR⟩, trivial⟩ ?_
        repeat (first | refine s_seq ?_ | refine s_region ?_ | refine o_nil ?_ | refine d_nil ?_ | refine oA rfl rfl trivial ?_ | refine oB rfl rfl rfl (fun _ _ => ?_) | refine oC rfl rfl rfl trivial ?_ | refine dA rfl rfl trivial ?_ | refine dB rfl rfl rfl (fun _ _ => ?_) | refine dC rfl rfl rfl trivial ?_ | refine s_skip ?_ | refine s_block ?_ | refine s_exit ?_ | refine s_label ?_)
        refine s_loopW (α := Unit) [5, 8, 9, 10, 11, 12, 13, 14, 15, 16, 17, 18] [] (fun _ => True) (fun _ => [(8, none, .v (.int .i64 0))]) (fun _ => []) (fun _ => 0) () trivial ?_ ?_
        · (refine Le.of ?leT ?leM (by first | exact dfs_nil rfl rfl | exact rfl); (case leT => repeat (first | exact trivial | refine And.intro (by first | exact rfl | (show some (none, AV.v (.int .i64 (IntKind.i64.wrap _))) = _; rw [wi64 (by omega) (by omega)]; rfl)) ?_)); (case leM => repeat (first | exact trivial | refine And.intro ⟨_, rfl, Blk.le_refl _⟩ ?_)))
        · intro _ _
          repeat (first | refine s_seq ?_ | refine s_region ?_ | refine o_nil ?_ | refine d_nil ?_ | refine oA rfl rfl trivial ?_ | refine oB rfl rfl rfl (fun _ _ => ?_) | refine oC rfl rfl rfl trivial ?_ | refine dA rfl rfl trivial ?_ | refine dB rfl rfl rfl (fun _ _ => ?_) | refine dC rfl rfl rfl trivial ?_ | refine s_skip ?_ | refine s_block ?_ | refine s_exit ?_ | refine s_label ?_)
          refine s_cond (b := false) rfl (fun hb => by cases hb) (fun _ => ?_)
          repeat (first | refine s_seq ?_ | refine s_region ?_ | refine o_nil ?_ | refine d_nil ?_ | refine oA rfl rfl trivial ?_ | refine oB rfl rfl rfl (fun _ _ => ?_) | refine oC rfl rfl rfl trivial ?_ | refine dA rfl rfl trivial ?_ | refine dB rfl rfl rfl (fun _ _ => ?_) | refine dC rfl rfl rfl trivial ?_ | refine s_skip ?_ | refine s_block ?_ | refine s_exit ?_ | refine s_label ?_)
          refine s_ret ?_
          exact ⟨_, _, rfl, ⟨trivial, trivial⟩, rfl, rfl⟩
    · cases h0
  · cases h0

set_option maxRecDepth 100000 in
theorem ixP3_body : HasBody Tryz.prog 49 := ⟨_, Tryz.func49, rfl, by decide⟩
def cfC (args : List AV) (M : MemF) : Option (Prop × AV) := match args with
  | [.v (.slice a n _), .fn 103 (.cons (.ptr p) .nil)] => match pstV M a n, ptrOf M p true 2 with
    | some (c, l), some (c2, .agg (.cons (.v (.int .u64 x)) (.cons (.v (.int .u64 _)) .nil))) => some (c ∧ c2, .v (.bool (decide (numIx x (l.map (·.h)) 0 ≥ 0))))
    | _, _ => none
  | _ => none
def ctCf : CtL := [(49, ixP3C)]
set_option maxRecDepth 100000 in
theorem ctCf_ok : CtLOk Tryz.prog ctCf := ⟨.fn ixP3_body ixP3_read, trivial⟩
set_option maxRecDepth 100000 in
set_option maxHeartbeats 4000000 in
theorem cf_read : ReadFn Tryz.prog 102 cfC := by
  intro args M q res h0 hq O w0 w hS
  unfold cfC at h0
  split at h0
  · rename_i pa pn pc p
    split at h0
    · rename_i c l c2 x y hsx hp
      cases h0
      obtain ⟨hq, hq2⟩ := hq
      have hR := ptrOf_spec (g := true) hS hp hq2
      obtain ⟨es1, base1, len1, f1, hM1, _⟩ := comeIn_entry hsx
      have hf : (AV.fn 103 (.cons (.ptr p) .nil)).val = (AV.fn 103 (.cons (roP 901 p.b p.cell 2) .nil)).val := by
        rw [fn_val, fn_val]
        show Value.func _ _ #[(AV.ptr p).val] = Value.func _ _ #[(roP 901 p.b p.cell 2).val]
        rw [pt_ro p 901 2]
      unfold pstV comeIn at hsx
      rw [hM1] at hsx
      cases hsx
      rw [show [.v (.slice pa pn pc), AV.fn 103 (.cons (.ptr p) .nil)].map AV.val = [.v (.slice pa pn pc), AV.fn 103 (.cons (roP 901 p.b p.cell 2) .nil)].map AV.val by simp only [List.map_cons, List.map_nil, hf]]
      refine ro_fn tabs2 ctCf_ok (cr := []) trivial Tryz.func102 rfl rfl (M := [(90001, .vro es1 base1 len1 f1), (901, roB (some (p.b, p.cell)) 2 1 fun _ => .agg (.cons (.v (.int .u64 x)) (.cons (.v (.int .u64 y)) .nil)))]) rfl ⟨fun _ h => h, roB_noOwn, trivial⟩ ⟨hS.holds _ _ hM1, roB_holds fun _ => ⟨_, _, rfl, hR⟩, trivial⟩ ?_
      repeat (first | refine s_seq ?_ | refine s_region ?_ | refine o_nil ?_ | refine d_nil ?_ | refine oA rfl rfl trivial ?_ | refine oB rfl rfl rfl (fun _ _ => ?_) | refine oC rfl rfl rfl trivial ?_ | refine dA rfl rfl trivial ?_ | refine dB rfl rfl rfl (fun _ _ => ?_) | refine dC rfl rfl rfl trivial ?_ | refine s_skip ?_ | refine s_block ?_ | refine s_exit ?_ | refine s_label ?_)
      refine o_val rfl rfl trivial ⟨?h1, ?h2⟩ ?_
      case h1 => repeat' (first | trivial | apply And.intro)
      case h2 => exact ⟨hq, by (repeat' (first | trivial | rfl | exact Nat.zero_lt_one | apply And.intro))⟩
      repeat (first | refine s_seq ?_ | refine s_region ?_ | refine o_nil ?_ | refine d_nil ?_ | refine oA rfl rfl trivial ?_ | refine oB rfl rfl rfl (fun _ _ => ?_) | refine oC rfl rfl rfl trivial ?_ | refine dA rfl rfl trivial ?_ | refine dB rfl rfl rfl (fun _ _ => ?_) | refine dC rfl rfl rfl trivial ?_ | refine s_skip ?_ | refine s_block ?_ | refine s_exit ?_ | refine s_label ?_)
      refine s_ret ?_
      exact ⟨_, _, rfl, ⟨trivial, trivial⟩, rfl, rfl⟩
    · cases h0
  · cases h0
set_option maxRecDepth 100000 in
theorem cf_body : HasBody Tryz.prog 102 := ⟨_, Tryz.func102, rfl, by decide⟩
end Go.Proofs.YtofophjfgalhaaaGreatDoor.V
/-! A pool's list without a pair: plain. -/
namespace Go.Proofs.YtofophjfgalhaaaGreatDoor.V
open Go Go.RowKit

def keyN (q : PEv) : Int × Int := (q.h, q.f)
/-- what waits, without a pair -/
def delK (pl : List PEv) (h f : Int) : List PEv := pl.filter fun q => !(h == q.h && f == q.f)
theorem delK_no {pl : List PEv} {h f : Int} (hn : hasP pl h f = false) : delK pl h f = pl := by
  unfold delK
  refine List.filter_eq_self.2 fun q hq => ?_
  have h1 := List.any_eq_false.1 hn q hq
  rw [Bool.not_eq_true] at h1
  rw [h1]; rfl
theorem erase_map {α β : Type} (g : α → β) : ∀ (l : List α) (i : Nat), (l.eraseIdx i).map g = (l.map g).eraseIdx i
  | [], _ => rfl
  | _ :: _, 0 => rfl
  | a :: l, i + 1 => by rw [List.eraseIdx_cons_succ, List.map_cons, List.map_cons, List.eraseIdx_cons_succ, erase_map g l i]
theorem find_del_yes {h f : Int} : ∀ {pl : List PEv} (i : Nat), (pl.map keyN).Nodup → hasP pl h f = true → ∃ j e, mfind tabs2.tb tabs2.eqs 155 (keyP h f) (pl.map encP) i = some (some (i + j, e)) ∧ pl.eraseIdx j = delK pl h f
  | [], _, _, h0 => by cases h0
  | q :: r, i, hnd, h0 => by
    rw [List.map_cons, List.nodup_cons] at hnd
    show ∃ j e, mfind tabs2.tb tabs2.eqs 155 (keyP h f) ((keyP q.h q.f, encE q.e, q.st) :: r.map encP) i = _ ∧ _
    simp only [mfind, key_eq]
    by_cases hq : (h == q.h && f == q.f) = true
    · rw [hq]
      refine ⟨0, encE q.e, rfl, ?_⟩
      have hr : hasP r h f = false := by
        unfold hasP
        refine List.any_eq_false.2 fun x hx hx2 => hnd.1 ?_
        simp only [Bool.and_eq_true, beq_iff_eq] at hq hx2
        have : keyN x = keyN q := by unfold keyN; rw [← hq.1, ← hq.2, hx2.1, hx2.2]
        rw [← this]
        exact List.mem_map_of_mem hx
      show r = _
      unfold delK
      rw [List.filter_cons_of_neg (by rw [hq]; decide)]
      exact (delK_no hr).symm
    · rw [Bool.not_eq_true] at hq
      rw [hq]
      have h1 : hasP r h f = true := by
        unfold hasP at h0 ⊢
        rw [List.any_cons, hq, Bool.false_or] at h0
        exact h0
      obtain ⟨j, e, h2, h3⟩ := find_del_yes (i + 1) hnd.2 h1
      refine ⟨j + 1, e, by rw [show i + (j + 1) = i + 1 + j by omega]; exact h2, ?_⟩
      rw [List.eraseIdx_cons_succ, h3]
      unfold delK
      rw [List.filter_cons_of_pos (by rw [hq]; rfl)]
/-- a pair's deletion from the pool's map -/
theorem find_del {pl : List PEv} (hnd : (pl.map keyN).Nodup) (h f : Int) (b clk : Nat) : ∃ R, mfind tabs2.tb tabs2.eqs 155 (keyP h f) (pl.map encP) 0 = some R ∧ delMp R b (pl.map encP) clk = .mp true b ((delK pl h f).map encP) clk := by
  cases hP : hasP pl h f with
  | false => exact ⟨none, find_no hP, by rw [delK_no hP]; rfl⟩
  | true =>
    obtain ⟨j, e, h2, h3⟩ := find_del_yes 0 hnd hP
    refine ⟨_, h2, ?_⟩
    show Blk.mp true b ((pl.map encP).eraseIdx (0 + j)) clk = _
    rw [Nat.zero_add, ← h3]
    congr 1
    exact (erase_map encP pl j).symm
end Go.Proofs.YtofophjfgalhaaaGreatDoor.V
/-! The program's pool: Settle (under way: first loop). -/
namespace Go.Proofs.YtofophjfgalhaaaGreatDoor.V
open Go Go.RowKit

/-- whether a pair goes behind a state -/
def goesP (s : StV) (l : List PstV) (pun : List (Int × Int)) (q : PEv) : Bool := (!(cntF s q.h) || decide (offIx (q.h, q.f) pun 0 ≥ 0)) || !(decide (numIx q.h (l.map (·.h)) 0 ≥ 0))
/-- what stays, of those whose stamps were seen -/
def staysP (G : PEv → Bool) (ss : List Nat) (pl : List PEv) : List PEv := pl.filter fun q => !(ss.contains q.st && G q)
theorem inj_of {α β : Type} {g : α → β} : ∀ {l : List α} {x y : α}, (l.map g).Nodup → x ∈ l → y ∈ l → g x = g y → x = y
  | [], _, _, _, h, _, _ => by cases h
  | a :: l, x, y, hn, hx, hy, e => by
    rw [List.map_cons, List.nodup_cons] at hn
    rcases List.mem_cons.1 hx with rfl | h1 <;> rcases List.mem_cons.1 hy with rfl | h2
    · rfl
    · exact absurd (by rw [e]; exact List.mem_map_of_mem h2) hn.1
    · exact absurd (by rw [← e]; exact List.mem_map_of_mem h1) hn.1
    · exact inj_of hn.2 h1 h2 e
theorem stays_add {G : PEv → Bool} {ss : List Nat} {pl : List PEv} {q : PEv} (hst : (pl.map (·.st)).Nodup) (hk : (pl.map keyN).Nodup) (hq : q ∈ pl) :
    staysP G (ss ++ [q.st]) pl = if G q = true then delK (staysP G ss pl) q.h q.f else staysP G ss pl := by
  have key : ∀ x, x ∈ pl → (x.st = q.st ↔ x = q) := fun x hx => ⟨fun e => inj_of hst hx hq e, fun e => by rw [e]⟩
  have key2 : ∀ x, x ∈ pl → ((q.h == x.h && q.f == x.f) = true ↔ x = q) := fun x hx => ⟨fun e => by
    simp only [Bool.and_eq_true, beq_iff_eq] at e
    exact inj_of hk hx hq (by unfold keyN; rw [e.1, e.2]), fun e => by rw [e]; simp⟩
  split
  · rename_i hG
    unfold staysP delK
    rw [List.filter_filter]
    refine List.filter_congr fun x hx => ?_
    by_cases e : x = q
    · subst e; simp [hG]
    · have h1 : ¬ x.st = q.st := fun h => e ((key x hx).1 h)
      have h2 : (q.h == x.h && q.f == x.f) = false := by rw [Bool.eq_false_iff]; exact fun h => e ((key2 x hx).1 h)
      rw [h2]
      simp [h1]
  · rename_i hG
    unfold staysP
    refine List.filter_congr fun x hx => ?_
    by_cases e : x = q
    · subst e; simp [hG]
    · have h1 : ¬ x.st = q.st := fun h => e ((key x hx).1 h)
      simp [h1]
end Go.Proofs.YtofophjfgalhaaaGreatDoor.V
/-! The program's pool: Settle, walked. -/
namespace Go.Proofs.YtofophjfgalhaaaGreatDoor.V
open Go Go.RowKit

theorem keys_nodup {w : World} {mine : Bool} {b clk : Nat} {pl : List PEv} (h : (Blk.mp mine b (pl.map encP) clk).holds w) : (pl.map keyN).Nodup := by
  obtain ⟨es, q1, q2, q3⟩ := mp_mem h
  have e : es.toList.map (·.key) = (pl.map keyN).map fun k => (keyP k.1 k.2).val := by
    have := congrArg (List.map (·.1)) q3
    rw [List.map_map, List.map_map, List.map_map] at this
    rw [List.map_map]
    exact this
  have h2 := q2.2.2
  rw [e] at h2
  exact (List.pairwise_map.1 h2).imp fun h e => h (by rw [e])
/-- what stays behind a settling -/
def stlP (G : PEv → Bool) (held : List (Vote × Vote)) (pl : List PEv) : List PEv := held.foldl (fun pl e => delK pl e.1.height e.1.from_) (pl.filter fun q => !(G q))
theorem stl_sub (G : PEv → Bool) (held : List (Vote × Vote)) (pl : List PEv) : (stlP G held pl).Sublist pl := by
  have key : ∀ (held : List (Vote × Vote)) (b : List PEv), (held.foldl (fun pl e => delK pl e.1.height e.1.from_) b).Sublist b := by
    intro held
    induction held with
    | nil => exact fun b => List.Sublist.refl _
    | cons e r ih => exact fun b => (ih _).trans List.filter_sublist
  exact (key held _).trans List.filter_sublist
theorem stl_succ (G : PEv → Bool) (pl : List PEv) {H : List (Vote × Vote)} {k : Nat} (h : k < H.length) : stlP G (H.take (k + 1)) pl = delK (stlP G (H.take k) pl) (H.getD k default).1.height (H.getD k default).1.from_ := by
  unfold stlP
  rw [List.take_succ_eq_append_getElem h, List.foldl_append, List.getD_eq_getElem?_getD, List.getElem?_eq_getElem h]
  rfl
theorem stays_none (G : PEv → Bool) (pl : List PEv) : staysP G [] pl = pl := List.filter_eq_self.2 fun _ _ => rfl
theorem stays_all {G : PEv → Bool} {ss : List Nat} {pl : List PEv} (h : ∀ q, q ∈ staysP G ss pl → q.st ∈ ss) : staysP G ss pl = pl.filter fun q => !(G q) := by
  unfold staysP at h ⊢
  refine List.filter_congr fun q hq => ?_
  cases hc : ss.contains q.st with
  | true => rfl
  | false =>
    have h1 := h q (List.mem_filter.2 ⟨hq, by rw [hc]; rfl⟩)
    rw [List.contains_iff_mem.2 h1] at hc
    cases hc
theorem filter_lt {α : Type} {p p' : α → Bool} {x : α} (hpp : ∀ y, p' y = true → p y = true) (h1 : p x = true) (h2 : p' x = false) : ∀ {l : List α}, x ∈ l → (l.filter p').length < (l.filter p).length := by
  have le : ∀ l : List α, (l.filter p').length ≤ (l.filter p).length := by
    intro l
    induction l with
    | nil => exact Nat.le_refl _
    | cons a l ih =>
      rw [List.filter_cons, List.filter_cons]
      cases e' : p' a with
      | true => rw [hpp a e']; simpa using ih
      | false => cases e : p a with
        | true => simp only [Bool.false_eq_true, if_false, if_true, List.length_cons]; omega
        | false => simpa using ih
  intro l
  induction l with
  | nil => intro h; cases h
  | cons a l ih =>
    intro h
    rw [List.filter_cons, List.filter_cons]
    rcases List.mem_cons.1 h with rfl | h
    · rw [h1, h2]
      simp only [Bool.false_eq_true, if_false, if_true, List.length_cons]
      have := le l; omega
    · have := ih h
      cases e' : p' a with
      | true => rw [hpp a e']; simpa using this
      | false => cases e : p a with
        | true => simp only [Bool.false_eq_true, if_false, if_true, List.length_cons]; omega
        | false => simpa using this
theorem meas_lt {ss : List Nat} {pl : List PEv} {q : PEv} (hq : q ∈ pl) (hn : q.st ∉ ss) : (pl.filter fun x => !((ss ++ [q.st]).contains x.st)).length < (pl.filter fun x => !(ss.contains x.st)).length :=
  filter_lt (x := q) (fun y hy => by simp at hy ⊢; exact hy.1) (by simpa using hn) (by simp) hq
def ctSt : CtL := [(96, pgoodC), (51, cntC), (53, doneC), (102, cfC), (48, pofC)]
set_option maxRecDepth 100000 in
theorem ctSt_ok : CtLOk Tryz.prog ctSt := ⟨.fn pgood_body pgood_read, .fn cnt_body cnt_read, .fn done_body done_read, .fn cf_body cf_read, .fn pof_body pof_read, trivial⟩
def settleC (_tag : Nat) (args : List AV) (M : MemF) : Option Res := match args with
  | [.ptr p, S, X] => match decS S, mpOf M p, seqOf M X with
    | some s, some (c0, n, bm, pl, clk), some (c3, es, m, fx) => match pstV M s.a3 s.n3, comeIn M 90002 2 off1 offX s.a4 s.n4 with
      | some (c1, l), some (c2, pun) => some ⟨Unit, (c0 ∧ p.n ≠ n) ∧ (c1 ∧ c2) ∧ c3 ∧ (m ≠ 0 → es = 106) ∧ tagNe n X = true ∧ m ≤ 1000000000 ∧ ∀ i, i < m → fx i = encE (decE (fx i)), fun _ => True, fun _ => .tup .nil, [n], fun _ => [.mp true bm ((stlP (goesP s l pun) ((List.range m).map fun i => decE (fx i)) pl).map encP) clk]⟩
      | _, _ => none
    | _, _, _ => none
  | _ => none
set_option maxRecDepth 100000 in
set_option maxHeartbeats 2000000 in
theorem settle_turn : TurnFn Tryz.prog 30 settleC := by
  intro tag args M r h0 hok O w0 w hS
  unfold settleC at h0
  split at h0
  · rename_i p S X
    split at h0
    · rename_i s c0 n bm pl clk c3 es m fx hs hmp hsx
      have hs := decS_enc hs
      subst hs
      split at h0
      · rename_i c1 l c2 pun hpst hpun
        cases h0
        obtain ⟨⟨hc0, hn1⟩, ⟨hc1, hc2⟩, hc3, hes, htag, hm, hfx⟩ := hok
        obtain ⟨hMp, ⟨cp, Xp, hpp, hcp⟩, hrow⟩ := mpOf_spec hS hmp hc0
        have hst := mp_stamps (hS.holds _ _ hMp)
        have hkn := keys_nodup (hS.holds _ _ hMp)
        obtain ⟨es1, base1, len1, f1, hM1, _⟩ := comeIn_entry hpst
        obtain ⟨es2, base2, len2, f2, hM2, _⟩ := comeIn_entry hpun
        obtain ⟨base, cap, hvx, hrx⟩ := seqOf_spec hS hsx hc3
        obtain ⟨H, hH⟩ : ∃ H : List (Vote × Vote), H = (List.range m).map fun i => decE (fx i) := ⟨_, rfl⟩
        have hHl : H.length = m := by rw [hH]; simp
        have hro : (roB base 106 m fun i => encE (H.getD i default)).holds w := roB_holds fun h => by
          obtain ⟨b, o, h1, h2⟩ := hrx h
          rw [hes h] at h2
          refine ⟨b, o, h1, h2.congr fun i hi => ?_⟩
          rw [hfx i hi, hH, List.getD_eq_getElem?_getD, List.getElem?_map, List.getElem?_range hi]; rfl
        have hap : ∀ {k : Nat} {B : Blk}, M k = some B → ∀ j, B.reads j → ¬ (Blk.mp true bm (pl.map encP) clk).own j := fun hk j hr ho => hS.roapart _ _ _ _ _ hMp hk ho hr
        have hapx : ∀ j, (roB base 106 m fun i => encE (H.getD i default)).reads j → ¬ (Blk.mp true bm (pl.map encP) clk).own j := fun j hr ho => by
          obtain ⟨_, ix, o, hl, hb⟩ := hr
          have hl : 0 < m := hl
          exact seq_apart hS hsx hc3 (fun h => by rw [hes h]; decide) hMp htag hvx (by omega) hb ho
        rw [← hH]
        rw [show [.ptr p, encS s, X].map AV.val = [roP 902 p.b p.cell 1, encS s, roS 904 base 106 m cap].map AV.val by simp only [List.map_cons, List.map_nil, hvx, roS_val, pt_ro p 902 1]]
        refine turn_one tabs2 ctSt_ok (cr := []) trivial Tryz.func30 rfl rfl hS _ hMp (B1 := .mp true bm (pl.map encP) clk) [(902, roB (some (p.b, p.cell)) 1 1 fun _ => .agg (.cons (.mp 900 bm) .nil)), (904, roB base 106 m fun i => encE (H.getD i default)), (90001, .vro es1 base1 len1 f1), (90002, .vro es2 base2 len2 f2)] rfl rfl (hS.holds _ _ hMp) (fun _ h => h) (fun _ h => h) ⟨hrow, hro, hS.holds _ _ hM1, hS.holds _ _ hM2, trivial⟩ ⟨roB_noOwn, roB_noOwn, fun _ h => h, fun _ h => h, trivial⟩ ⟨ptr_apart hS hpp hcp (by decide) hMp hn1, hapx, hap hM1, hap hM2, trivial⟩ ?_
        unfold pstV comeIn at hpst
        rw [hM1] at hpst
        unfold comeIn at hpun
        rw [hM2] at hpun
        cases hpst
        cases hpun
        repeat (first | refine s_seq ?_ | refine s_region ?_ | refine o_nil ?_ | refine d_nil ?_ | refine oA rfl rfl trivial ?_ | refine oB rfl rfl rfl (fun _ _ => ?_) | refine oC rfl rfl rfl trivial ?_ | refine dA rfl rfl trivial ?_ | refine dB rfl rfl rfl (fun _ _ => ?_) | refine dC rfl rfl rfl trivial ?_ | refine s_skip ?_ | refine s_block ?_ | refine s_exit ?_ | refine s_label ?_)
        refine s_cond (b := false) rfl (fun hb => by cases hb) (fun _ => ?_)
        repeat (first | refine s_seq ?_ | refine s_region ?_ | refine o_nil ?_ | refine d_nil ?_ | refine oA rfl rfl trivial ?_ | refine oB rfl rfl rfl (fun _ _ => ?_) | refine oC rfl rfl rfl trivial ?_ | refine dA rfl rfl trivial ?_ | refine dB rfl rfl rfl (fun _ _ => ?_) | refine dC rfl rfl rfl trivial ?_ | refine s_skip ?_ | refine s_block ?_ | refine s_exit ?_ | refine s_label ?_)
        refine o_range rfl rfl rfl rfl rfl rfl rfl rfl rfl (fun z => ?_)
        repeat (first | refine s_seq ?_ | refine s_region ?_ | refine o_nil ?_ | refine d_nil ?_ | refine oA rfl rfl trivial ?_ | refine oB rfl rfl rfl (fun _ _ => ?_) | refine oC rfl rfl rfl trivial ?_ | refine dA rfl rfl trivial ?_ | refine dB rfl rfl rfl (fun _ _ => ?_) | refine dC rfl rfl rfl trivial ?_ | refine s_skip ?_ | refine s_block ?_ | refine s_exit ?_ | refine s_label ?_)
        obtain ⟨G, hG⟩ : ∃ G, G = goesP s ((List.range s.n3).map fun i => pst1 (f1 (hxA s.a3 s.n3) i)) ((List.range s.n4).map fun i => off1 (f2 (hxA s.a4 s.n4) i)) := ⟨_, rfl⟩
        refine s_loopW (α := List Nat) [6, 17, 18, 19, 20, 21, 22, 23, 24, 25, 26, 27, 28, 29, 30, 31, 32, 33, 34, 35, 36, 37, 38, 39, 40, 41, 42] [900, 16] (fun _ => True) (fun _ => []) (fun ss => [(900, .mp true bm ((staysP G ss pl).map encP) clk), (16, .it z (some bm) clk ss clk)]) (fun ss => (pl.filter fun q => !(ss.contains q.st)).length) [] trivial ?_ ?_
        · rw [stays_none]
          (refine Le.of ?leT ?leM (by first | exact dfs_nil rfl rfl | exact rfl); (case leT => repeat (first | exact trivial | refine And.intro (by first | exact rfl | (show some (none, AV.v (.int .i64 (IntKind.i64.wrap _))) = _; rw [wi64 (by omega) (by omega)]; rfl)) ?_)); (case leM => repeat (first | exact trivial | refine And.intro ⟨_, rfl, Blk.le_refl _⟩ ?_)))
        · intro ss _
          have hsub : ∀ q, q ∈ staysP G ss pl → q ∈ pl := fun q hq => (List.mem_filter.1 hq).1
          repeat (first | refine s_seq ?_ | refine s_region ?_ | refine o_nil ?_ | refine d_nil ?_ | refine oA rfl rfl trivial ?_ | refine oB rfl rfl rfl (fun _ _ => ?_) | refine oC rfl rfl rfl trivial ?_ | refine dA rfl rfl trivial ?_ | refine dB rfl rfl rfl (fun _ _ => ?_) | refine dC rfl rfl rfl trivial ?_ | refine s_skip ?_ | refine s_block ?_ | refine s_exit ?_ | refine s_label ?_)
          refine o_next (ni := 16) (nm := 900) rfl rfl rfl rfl rfl rfl rfl rfl (fun p hp => by obtain ⟨q, hq, rfl⟩ := List.mem_map.1 hp; exact hst.1 _ (List.mem_map_of_mem (hsub q hq))) (Nat.le_refl _) (fun hover => ?_) (fun p hp hns => ?_)
          · repeat (first | refine s_seq ?_ | refine s_region ?_ | refine o_nil ?_ | refine d_nil ?_ | refine oA rfl rfl trivial ?_ | refine oB rfl rfl rfl (fun _ _ => ?_) | refine oC rfl rfl rfl trivial ?_ | refine dA rfl rfl trivial ?_ | refine dB rfl rfl rfl (fun _ _ => ?_) | refine dC rfl rfl rfl trivial ?_ | refine s_skip ?_ | refine s_block ?_ | refine s_exit ?_ | refine s_label ?_)
            refine s_cond (b := false) rfl (fun hb => by cases hb) (fun _ => ?_)
            have hall : staysP G ss pl = pl.filter fun q => !(G q) := stays_all fun q hq => hover (encP q) (List.mem_map_of_mem hq)
            rw [hall]
            repeat (first | refine s_seq ?_ | refine s_region ?_ | refine o_nil ?_ | refine d_nil ?_ | refine oA rfl rfl trivial ?_ | refine oB rfl rfl rfl (fun _ _ => ?_) | refine oC rfl rfl rfl trivial ?_ | refine dA rfl rfl trivial ?_ | refine dB rfl rfl rfl (fun _ _ => ?_) | refine dC rfl rfl rfl trivial ?_ | refine s_skip ?_ | refine s_block ?_ | refine s_exit ?_ | refine s_label ?_)
            refine s_loopW (α := Nat) [45, 8, 46, 47, 48, 49, 50, 51, 52, 53, 54, 55] [900] (fun k => k ≤ m) (fun k => [(45, none, .v (.int .i64 k))]) (fun k => [(900, .mp true bm ((stlP G (H.take k) pl).map encP) clk)]) (fun k => m - k) 0 (Nat.zero_le _) ?_ ?_
            · (refine Le.of ?leT ?leM (by first | exact dfs_nil rfl rfl | exact rfl); (case leT => repeat (first | exact trivial | refine And.intro (by first | exact rfl | (show some (none, AV.v (.int .i64 (IntKind.i64.wrap _))) = _; rw [wi64 (by omega) (by omega)]; rfl)) ?_)); (case leM => repeat (first | exact trivial | refine And.intro ⟨_, rfl, Blk.le_refl _⟩ ?_)))
            · intro k hk
              repeat (first | refine s_seq ?_ | refine s_region ?_ | refine o_nil ?_ | refine d_nil ?_ | refine oA rfl rfl trivial ?_ | refine oB rfl rfl rfl (fun _ _ => ?_) | refine oC rfl rfl rfl trivial ?_ | refine dA rfl rfl trivial ?_ | refine dB rfl rfl rfl (fun _ _ => ?_) | refine dC rfl rfl rfl trivial ?_ | refine s_skip ?_ | refine s_block ?_ | refine s_exit ?_ | refine s_label ?_)
              refine s_cond (b := decide ((k : Int) < (m : Int))) rfl (fun hb2 => ?_) (fun hb2 => ?_)
              · have hk8 : k < m := by have := of_decide_eq_true hb2; omega
                obtain ⟨R, hR1, hR2⟩ := find_del (pl := stlP G (H.take k) pl) (hkn.sublist ((stl_sub G (H.take k) pl).map keyN)) (H.getD k default).1.height (H.getD k default).1.from_ bm clk
                repeat (first | refine s_seq ?_ | refine s_region ?_ | refine o_nil ?_ | refine d_nil ?_ | refine oA rfl rfl trivial ?_ | refine oB rfl rfl rfl (fun _ _ => ?_) | refine oC rfl rfl rfl trivial ?_ | refine dA rfl rfl trivial ?_ | refine dB rfl rfl rfl (fun _ _ => ?_) | refine dC rfl rfl rfl trivial ?_ | refine s_skip ?_ | refine s_block ?_ | refine s_exit ?_ | refine s_label ?_)
                refine s_draw rD30_10 rM30_10 [(900, [6])] rN30_10 rfl rfl ?_
                repeat (first | refine s_seq ?_ | refine s_region ?_ | refine o_nil ?_ | refine d_nil ?_ | refine oA rfl rfl trivial ?_ | refine oB rfl rfl rfl (fun _ _ => ?_) | refine oC rfl rfl rfl trivial ?_ | refine dA rfl rfl trivial ?_ | refine dB rfl rfl rfl (fun _ _ => ?_) | refine dC rfl rfl rfl trivial ?_ | refine s_skip ?_ | refine s_block ?_ | refine s_exit ?_ | refine s_label ?_)
                refine d_del R rfl rfl rfl rfl rfl rfl rfl rfl rfl rfl rfl rfl rfl hR1 rfl ?_
                repeat (first | refine s_seq ?_ | refine s_region ?_ | refine o_nil ?_ | refine d_nil ?_ | refine oA rfl rfl trivial ?_ | refine oB rfl rfl rfl (fun _ _ => ?_) | refine oC rfl rfl rfl trivial ?_ | refine dA rfl rfl trivial ?_ | refine dB rfl rfl rfl (fun _ _ => ?_) | refine dC rfl rfl rfl trivial ?_ | refine s_skip ?_ | refine s_block ?_ | refine s_exit ?_ | refine s_label ?_)
                refine ⟨k + 1, by omega, by omega, ?_⟩
                have e1 : stlP G (H.take (k + 1)) pl = delK (stlP G (H.take k) pl) (H.getD k default).1.height (H.getD k default).1.from_ := stl_succ G pl (by omega)
                rw [e1, hR2]
                (refine Le.of ?leT ?leM (by first | exact dfs_nil rfl rfl | exact rfl); (case leT => repeat (first | exact trivial | refine And.intro (by first | exact rfl | (show some (none, AV.v (.int .i64 (IntKind.i64.wrap _))) = _; rw [wi64 (by omega) (by omega)]; rfl)) ?_)); (case leM => repeat (first | exact trivial | refine And.intro ⟨_, rfl, Blk.le_refl _⟩ ?_)))
              · have hk8 : k = m := by have := of_decide_eq_false hb2; omega
                have e1 : stlP G (H.take k) pl = stlP G H pl := by rw [hk8, ← hHl, List.take_length]
                rw [e1, hG]
                repeat (first | refine s_seq ?_ | refine s_region ?_ | refine o_nil ?_ | refine d_nil ?_ | refine oA rfl rfl trivial ?_ | refine oB rfl rfl rfl (fun _ _ => ?_) | refine oC rfl rfl rfl trivial ?_ | refine dA rfl rfl trivial ?_ | refine dB rfl rfl rfl (fun _ _ => ?_) | refine dC rfl rfl rfl trivial ?_ | refine s_skip ?_ | refine s_block ?_ | refine s_exit ?_ | refine s_label ?_)
                exact ⟨_, _, rfl, trivial, rfl, (), trivial, rfl, ⟨⟨_, rfl, Blk.le_refl _⟩, fun _ h => h⟩, trivial⟩
          · obtain ⟨q1, hq1, rfl⟩ := List.mem_map.1 hp
            have hq2 := hsub q1 hq1
            have hadd := stays_add (G := G) (ss := ss) (by have := hst.2; rw [List.map_map] at this; exact this) hkn hq2
            repeat (first | refine s_seq ?_ | refine s_region ?_ | refine o_nil ?_ | refine d_nil ?_ | refine oA rfl rfl trivial ?_ | refine oB rfl rfl rfl (fun _ _ => ?_) | refine oC rfl rfl rfl trivial ?_ | refine dA rfl rfl trivial ?_ | refine dB rfl rfl rfl (fun _ _ => ?_) | refine dC rfl rfl rfl trivial ?_ | refine s_skip ?_ | refine s_block ?_ | refine s_exit ?_ | refine s_label ?_)
            refine s_cond (b := true) rfl (fun _ => ?_) (fun hb => by cases hb)
            repeat (first | refine s_seq ?_ | refine s_region ?_ | refine o_nil ?_ | refine d_nil ?_ | refine oA rfl rfl trivial ?_ | refine oB rfl rfl rfl (fun _ _ => ?_) | refine oC rfl rfl rfl trivial ?_ | refine dA rfl rfl trivial ?_ | refine dB rfl rfl rfl (fun _ _ => ?_) | refine dC rfl rfl rfl trivial ?_ | refine s_skip ?_ | refine s_block ?_ | refine s_exit ?_ | refine s_label ?_)
            refine o_entry (ni := 16) (nm := 900) (encP q1) rfl rfl rfl rfl rfl rfl rfl hp ?_
            repeat (first | refine s_seq ?_ | refine s_region ?_ | refine o_nil ?_ | refine d_nil ?_ | refine oA rfl rfl trivial ?_ | refine oB rfl rfl rfl (fun _ _ => ?_) | refine oC rfl rfl rfl trivial ?_ | refine dA rfl rfl trivial ?_ | refine dB rfl rfl rfl (fun _ _ => ?_) | refine dC rfl rfl rfl trivial ?_ | refine s_skip ?_ | refine s_block ?_ | refine s_exit ?_ | refine s_label ?_)
            have hGq : G q1 = goesP s ((List.range s.n3).map fun i => pst1 (f1 (hxA s.a3 s.n3) i)) ((List.range s.n4).map fun i => off1 (f2 (hxA s.a4 s.n4) i)) q1 := by rw [hG]
            refine s_cond (b := goesP s ((List.range s.n3).map fun i => pst1 (f1 (hxA s.a3 s.n3) i)) ((List.range s.n4).map fun i => off1 (f2 (hxA s.a4 s.n4) i)) q1) rfl (fun hg => ?_) (fun hg => ?_)
            · rw [← hGq] at hg
              rw [if_pos hg] at hadd
              obtain ⟨R, hR1, hR2⟩ := find_del (pl := staysP G ss pl) (hkn.sublist (List.filter_sublist.map keyN)) q1.h q1.f bm clk
              repeat (first | refine s_seq ?_ | refine s_region ?_ | refine o_nil ?_ | refine d_nil ?_ | refine oA rfl rfl trivial ?_ | refine oB rfl rfl rfl (fun _ _ => ?_) | refine oC rfl rfl rfl trivial ?_ | refine dA rfl rfl trivial ?_ | refine dB rfl rfl rfl (fun _ _ => ?_) | refine dC rfl rfl rfl trivial ?_ | refine s_skip ?_ | refine s_block ?_ | refine s_exit ?_ | refine s_label ?_)
              refine s_draw rD30_6 rM30_6 [(900, [5])] rN30_6 rfl rfl ?_
              repeat (first | refine s_seq ?_ | refine s_region ?_ | refine o_nil ?_ | refine d_nil ?_ | refine oA rfl rfl trivial ?_ | refine oB rfl rfl rfl (fun _ _ => ?_) | refine oC rfl rfl rfl trivial ?_ | refine dA rfl rfl trivial ?_ | refine dB rfl rfl rfl (fun _ _ => ?_) | refine dC rfl rfl rfl trivial ?_ | refine s_skip ?_ | refine s_block ?_ | refine s_exit ?_ | refine s_label ?_)
              refine d_del R rfl rfl rfl rfl rfl rfl rfl rfl rfl rfl rfl rfl rfl hR1 rfl ?_
              repeat (first | refine s_seq ?_ | refine s_region ?_ | refine o_nil ?_ | refine d_nil ?_ | refine oA rfl rfl trivial ?_ | refine oB rfl rfl rfl (fun _ _ => ?_) | refine oC rfl rfl rfl trivial ?_ | refine dA rfl rfl trivial ?_ | refine dB rfl rfl rfl (fun _ _ => ?_) | refine dC rfl rfl rfl trivial ?_ | refine s_skip ?_ | refine s_block ?_ | refine s_exit ?_ | refine s_label ?_)
              refine ⟨ss ++ [q1.st], trivial, meas_lt hq2 hns, ?_⟩
              rw [hadd, hR2]
              (refine Le.of ?leT ?leM (by first | exact dfs_nil rfl rfl | exact rfl); (case leT => repeat (first | exact trivial | refine And.intro (by first | exact rfl | (show some (none, AV.v (.int .i64 (IntKind.i64.wrap _))) = _; rw [wi64 (by omega) (by omega)]; rfl)) ?_)); (case leM => repeat (first | exact trivial | refine And.intro ⟨_, rfl, Blk.le_refl _⟩ ?_)))
            · rw [← hGq] at hg
              rw [if_neg (by rw [hg]; decide)] at hadd
              repeat (first | refine s_seq ?_ | refine s_region ?_ | refine o_nil ?_ | refine d_nil ?_ | refine oA rfl rfl trivial ?_ | refine oB rfl rfl rfl (fun _ _ => ?_) | refine oC rfl rfl rfl trivial ?_ | refine dA rfl rfl trivial ?_ | refine dB rfl rfl rfl (fun _ _ => ?_) | refine dC rfl rfl rfl trivial ?_ | refine s_skip ?_ | refine s_block ?_ | refine s_exit ?_ | refine s_label ?_)
              refine ⟨ss ++ [q1.st], trivial, meas_lt hq2 hns, ?_⟩
              rw [hadd]
              (refine Le.of ?leT ?leM (by first | exact dfs_nil rfl rfl | exact rfl); (case leT => repeat (first | exact trivial | refine And.intro (by first | exact rfl | (show some (none, AV.v (.int .i64 (IntKind.i64.wrap _))) = _; rw [wi64 (by omega) (by omega)]; rfl)) ?_)); (case leM => repeat (first | exact trivial | refine And.intro ⟨_, rfl, Blk.le_refl _⟩ ?_)))
      · cases h0
    · cases h0
  · cases h0
set_option maxRecDepth 100000 in
theorem settle_body : HasBody Tryz.prog 30 := ⟨_, Tryz.func30, rfl, by decide⟩
end Go.Proofs.YtofophjfgalhaaaGreatDoor.V
/-! MisdeedPicks, plain: what is let stays let when the book grows; what is let does not go at a settling. -/
namespace Go.Proofs.YtofophjfgalhaaaGreatDoor.V
open Go Go.RowKit

theorem hasR_mono {recs recs' : List (Int × ByteArray)} (hs : ∀ r, r ∈ recs → r ∈ recs') {r : Int × ByteArray} (h : hasR recs r = true) : hasR recs' r = true := hasR_iff.2 (hs _ (hasR_iff.1 h))
theorem check_mono {K B0 : List Int} {recs recs' : List (Int × ByteArray)} (hs : ∀ r, r ∈ recs → r ∈ recs') {a : Int} {f : Nat → Int} {m : ByteArray} {n : Nat} {s : List Int} (h : checkF K B0 recs a f m n s = true) : checkF K B0 recs' a f m n s = true := by
  unfold checkF at h ⊢
  rw [Bool.and_eq_true] at h ⊢
  exact ⟨hasR_mono hs h.1, h.2⟩
theorem sealed_mono {K B0 : List Int} {nm : ByteArray} {recs recs' : List (Int × ByteArray)} (hs : ∀ r, r ∈ recs → r ∈ recs') {x : Vote} (h : sealedP K B0 nm recs x = true) : sealedP K B0 nm recs' x = true := by
  unfold sealedP at h ⊢
  rw [Bool.and_eq_true] at h ⊢
  refine ⟨h.1, ?_⟩
  have h2 := h.2
  unfold chkP at h2 ⊢
  exact check_mono hs h2
/-- what Verify's yes says -/
theorem verR_let {s : StV} {l : List PstV} {mem : Nat → List Int} {pun : List (Int × Int)} {pr : (Vote × Vote) × Int} {x y : Vote} {sx sy : Bool} (h : verR s l mem pun pr x y sx sy = 0) :
    ¬ (pr.2 != 0) = true ∧ ¬ (!(eqE pr.1 (x, y))) = true ∧ ¬ ((!(cntF s x.height)) || decide (numIx x.height (l.map (·.h)) 0 < 0)) = true ∧ ¬ decide (numIx x.from_ (mem (numIx x.height (l.map (·.h)) 0).toNat) 0 < 0) = true ∧ ¬ decide (offIx (x.height, x.from_) pun 0 ≥ 0) = true ∧ sx = true ∧ sy = true := by
  unfold verR at h
  split at h
  · rename_i e
    exact absurd h (by simpa using e)
  rename_i h1
  split at h
  · exact absurd h (by decide)
  rename_i h2
  split at h
  · exact absurd h (by decide)
  rename_i h3
  split at h
  · exact absurd h (by decide)
  rename_i h4
  split at h
  · exact absurd h (by decide)
  rename_i h5
  split at h
  · rename_i h6
    split at h
    · rename_i h7
      exact ⟨h1, h2, h3, h4, h5, h6, h7⟩
    · exact absurd h (by decide)
  · exact absurd h (by decide)
theorem verR_of {s : StV} {l : List PstV} {mem : Nat → List Int} {pun : List (Int × Int)} {pr : (Vote × Vote) × Int} {x y : Vote} {sx sy : Bool} (h : verR s l mem pun pr x y sx sy = 0) {sx' sy' : Bool} (h1 : sx = true → sx' = true) (h2 : sy = true → sy' = true) : verR s l mem pun pr x y sx' sy' = 0 := by
  obtain ⟨g1, g2, g3, g4, g5, g6, g7⟩ := verR_let h
  unfold verR
  rw [if_neg g1, if_neg g2, if_neg g3, if_neg g4, if_neg g5, if_pos (h1 g6), if_pos (h2 g7)]
/-- what is let stays let when the book grows -/
theorem verE_mono {K B0 : List Int} {s : StV} {l : List PstV} {mb : Nat → List Int} {pun : List (Int × Int)} {recs recs' : List (Int × ByteArray)} (hs : ∀ r, r ∈ recs → r ∈ recs') {x : Vote × Vote} (h : verE K B0 s l mb pun recs x = 0) : verE K B0 s l mb pun recs' x = 0 := by
  unfold verE at h ⊢
  exact verR_of h (fun h => sealed_mono hs h) (fun h => sealed_mono hs h)
/-- what is let does not go at a settling -/
theorem let_stays {K B0 : List Int} {s : StV} {l : List PstV} {mb : Nat → List Int} {pun : List (Int × Int)} {recs : List (Int × ByteArray)} {q : PEv} (hk : q.h = q.e.1.height ∧ q.f = q.e.1.from_) (h : verE K B0 s l mb pun recs q.e = 0) : goesP s l pun q = false := by
  unfold verE at h
  obtain ⟨_, _, g3, _, g5, _⟩ := verR_let h
  unfold goesP
  rw [hk.1, hk.2]
  rw [Bool.not_eq_true] at g3 g5
  rw [Bool.or_eq_false_iff] at g3
  rw [g3.1, g5]
  have := of_decide_eq_false g3.2
  simp only [Bool.false_or, Bool.not_eq_false', decide_eq_true_eq]
  omega
end Go.Proofs.YtofophjfgalhaaaGreatDoor.V
/-! MisdeedPicks, plain: the pool while it is filled, what is picked, what a settling leaves. -/
namespace Go.Proofs.YtofophjfgalhaaaGreatDoor.V
open Go Go.RowKit

def keyE (x : Vote × Vote) : Int × Int := (x.1.height, x.1.from_)
/-- a pool all of whose pairs are let -/
def PoolOk (V : Vote × Vote → Int) (pl : List PEv) : Prop := (pl.map keyN).Nodup ∧ ∀ q, q ∈ pl → (q.h = q.e.1.height ∧ q.f = q.e.1.from_) ∧ (VR q.e.1 ∧ VR q.e.2) ∧ V q.e = 0
theorem PoolOk.mono {V V' : Vote × Vote → Int} {pl : List PEv} (h : PoolOk V pl) (hv : ∀ x, V x = 0 → V' x = 0) : PoolOk V' pl := ⟨h.1, fun q hq => ⟨(h.2 q hq).1, (h.2 q hq).2.1, hv _ (h.2 q hq).2.2⟩⟩
theorem PoolOk.nil (V : Vote × Vote → Int) : PoolOk V [] := ⟨List.nodup_nil, fun _ h => by cases h⟩
theorem hasP_no {pl : List PEv} {h f : Int} (hn : hasP pl h f = false) {q : PEv} (hq : q ∈ pl) : keyN q ≠ (h, f) := by
  intro e
  have h1 := List.any_eq_false.1 hn q hq
  unfold keyN at e
  cases e
  exact h1 (by simp)
/-- Add: the pool stays good, and grows by one where it says yes -/
theorem PoolOk.add {V : Vote × Vote → Int} {pl : List PEv} (h : PoolOk V pl) {x : Vote × Vote} (hx : VR x.1 ∧ VR x.2) (clk : Nat) : PoolOk V (addP (V x) x pl clk).2.1 ∧ (addP (V x) x pl clk).2.1.length = pl.length + (if (addP (V x) x pl clk).1 == 0 then 1 else 0) := by
  unfold addP
  split
  · rename_i h0
    refine ⟨h, ?_⟩
    show pl.length = _
    rw [if_neg (by simpa using h0)]; rfl
  · rename_i h0
    split
    · exact ⟨h, rfl⟩
    · rename_i hp
      split
      · exact ⟨h, rfl⟩
      · refine ⟨⟨?_, fun q hq => ?_⟩, ?_⟩
        · show ((pl ++ [_]).map keyN).Nodup
          rw [List.map_append, List.nodup_append]
          refine ⟨h.1, by simp, fun a ha b hb e => ?_⟩
          obtain ⟨q, hq, rfl⟩ := List.mem_map.1 ha
          have hb' : b = (x.1.height, x.1.from_) := by simpa [keyN] using hb
          exact hasP_no (by simpa using hp) hq (e.trans hb')
        · rcases List.mem_append.1 hq with hq | hq
          · exact h.2 q hq
          · have : q = ⟨x.1.height, x.1.from_, x, clk⟩ := by simpa using hq
            subst this
            exact ⟨⟨rfl, rfl⟩, hx, by simpa using h0⟩
        · show (pl ++ [_]).length = _
          rw [List.length_append]; rfl
theorem addP_le {V : Int} {x : Vote × Vote} {pl : List PEv} {clk : Nat} (h : pl.length ≤ 65536) : (addP V x pl clk).2.1.length ≤ 65536 := by
  unfold addP
  split
  · exact h
  split
  · exact h
  split
  · exact h
  · rename_i h4
    show (pl ++ [_]).length ≤ _
    rw [List.length_append, List.length_singleton]
    have : ¬ ((pl.length : Int) ≥ 65536) := by simpa using h4
    omega
theorem PoolOk.all {V : Vote × Vote → Int} {pl : List PEv} (h : PoolOk V pl) : letE V pl = pl.map (·.e) := by
  unfold letE
  refine List.filter_eq_self.2 fun x hx => ?_
  obtain ⟨q, hq, rfl⟩ := List.mem_map.1 hx
  simpa using (h.2 q hq).2.2
theorem PoolOk.keys {V : Vote × Vote → Int} {pl : List PEv} (h : PoolOk V pl) : (pl.map (·.e)).map keyE = pl.map keyN := by
  rw [List.map_map]
  refine List.map_congr_left fun q hq => ?_
  obtain ⟨⟨e1, e2⟩, _⟩ := h.2 q hq
  show (q.e.1.height, q.e.1.from_) = (q.h, q.f)
  rw [e1, e2]
/-- what is picked: of the pool, as many, in strict order -/
structure PickOk (V : Vote × Vote → Int) (pl : List PEv) (L : List (Vote × Vote)) : Prop where
  len : L.length = pl.length
  mem : ∀ x, x ∈ L → ∃ q, q ∈ pl ∧ q.e = x
  keys : (L.map keyE).Nodup
  ord : ∀ i j, i < j → j < L.length → (L.getD i default).1.height < (L.getD j default).1.height ∨ ((L.getD i default).1.height = (L.getD j default).1.height ∧ (L.getD i default).1.from_ < (L.getD j default).1.from_)
theorem PoolOk.pick {V : Vote × Vote → Int} {pl : List PEv} (h : PoolOk V pl) {L : List (Vote × Vote)} (hL : SortedE (letE V pl) L) : PickOk V pl L := by
  obtain ⟨h1, h2⟩ := hL
  rw [h.all] at h1
  have hk : (L.map keyE).Nodup := (h1.map keyE).nodup_iff.2 (by rw [h.keys]; exact h.1)
  refine ⟨by rw [h1.length_eq, List.length_map], fun x hx => ?_, hk, fun i j hij hj => ?_⟩
  · obtain ⟨q, hq, e⟩ := List.mem_map.1 (h1.mem_iff.1 hx)
    exact ⟨q, hq, e⟩
  · have h3 := h2 i j hij hj
    rw [ltE_eq] at h3
    have h4 := of_decide_eq_false h3
    have h5 : keyE (L.getD i default) ≠ keyE (L.getD j default) := by
      intro e
      have hi : i < L.length := by omega
      rw [List.getD_eq_getElem?_getD, List.getD_eq_getElem?_getD, List.getElem?_eq_getElem hi, List.getElem?_eq_getElem hj] at e
      exact List.pairwise_iff_getElem.1 hk i j (by simpa using hi) (by simpa using hj) hij (by simpa using e)
    unfold keyE at h5
    have h6 : ¬ ((L.getD i default).1.height = (L.getD j default).1.height ∧ (L.getD i default).1.from_ = (L.getD j default).1.from_) := fun e => h5 (by rw [e.1, e.2])
    omega
theorem PickOk.get {V : Vote × Vote → Int} {pl : List PEv} {L : List (Vote × Vote)} (h : PickOk V pl L) {i : Nat} (hi : i < L.length) : ∃ q, q ∈ pl ∧ q.e = L.getD i default :=
  h.mem _ (by rw [List.getD_eq_getElem?_getD, List.getElem?_eq_getElem hi]; exact List.getElem_mem hi)
/-- what was picked is known -/
theorem PickOk.known {V : Vote × Vote → Int} {pl : List PEv} (hp : PoolOk V pl) {L : List (Vote × Vote)} (h : PickOk V pl L) {i : Nat} (hi : i < L.length) (clk : Nat) : addP 0 (L.getD i default) pl clk = (90, pl, clk) := by
  obtain ⟨q, hq, e⟩ := h.get hi
  obtain ⟨⟨e1, e2⟩, _⟩ := hp.2 q hq
  unfold addP
  rw [if_neg (by decide), if_pos]
  unfold hasP
  rw [List.any_eq_true]
  exact ⟨q, hq, by rw [← e, e1, e2]; simp⟩
theorem PickOk.let_ {V : Vote × Vote → Int} {pl : List PEv} (hp : PoolOk V pl) {L : List (Vote × Vote)} (h : PickOk V pl L) {i : Nat} (hi : i < L.length) : V (L.getD i default) = 0 ∧ VR (L.getD i default).1 ∧ VR (L.getD i default).2 := by
  obtain ⟨q, hq, e⟩ := h.get hi
  obtain ⟨_, h2, h3⟩ := hp.2 q hq
  rw [← e]
  exact ⟨h3, h2⟩
theorem delK_mem {pl : List PEv} {h f : Int} {q : PEv} : q ∈ delK pl h f ↔ q ∈ pl ∧ keyN q ≠ (h, f) := by
  unfold delK keyN
  rw [List.mem_filter]
  refine and_congr_right fun _ => ?_
  constructor
  · intro h1 e
    cases e
    simp at h1
  · intro h1
    by_cases e1 : h = q.h
    · by_cases e2 : f = q.f
      · exact absurd (by rw [e1, e2]) h1
      · simp [e2]
    · simp [e1]
theorem delK_len : ∀ {pl : List PEv} {h f : Int}, (pl.map keyN).Nodup → (∃ q, q ∈ pl ∧ keyN q = (h, f)) → (delK pl h f).length + 1 = pl.length
  | [], _, _, _, ⟨_, h, _⟩ => by cases h
  | a :: l, h, f, hn, ⟨q, hq, e⟩ => by
    rw [List.map_cons, List.nodup_cons] at hn
    by_cases ha : keyN a = (h, f)
    · have h1 : delK l h f = l := delK_no (by
        unfold hasP
        refine List.any_eq_false.2 fun x hx hx2 => hn.1 ?_
        simp only [Bool.and_eq_true, beq_iff_eq] at hx2
        rw [ha, hx2.1, hx2.2]
        exact List.mem_map_of_mem (f := keyN) hx)
      unfold keyN at ha
      cases ha
      unfold delK at h1 ⊢
      rw [List.filter_cons_of_neg (by simp), h1]; rfl
    · have hq2 : q ∈ l := by
        rcases List.mem_cons.1 hq with rfl | h1
        · exact absurd e ha
        · exact h1
      have ih := delK_len hn.2 ⟨q, hq2, e⟩
      have : delK (a :: l) h f = a :: delK l h f := by
        unfold delK
        rw [List.filter_cons_of_pos]
        unfold keyN at ha
        by_cases e1 : h = a.h
        · by_cases e2 : f = a.f
          · exact absurd (by rw [e1, e2]) ha
          · simp [e2]
        · simp [e1]
      rw [this, List.length_cons, List.length_cons, ih]
theorem del_all : ∀ {H : List (Vote × Vote)} {pl : List PEv}, (pl.map keyN).Nodup → (H.map keyE).Nodup → (∀ x, x ∈ H → ∃ q, q ∈ pl ∧ keyN q = keyE x) →
    (H.foldl (fun pl e => delK pl e.1.height e.1.from_) pl).length + H.length = pl.length ∧ ∀ q, q ∈ H.foldl (fun pl e => delK pl e.1.height e.1.from_) pl → q ∈ pl ∧ ∀ x, x ∈ H → keyN q ≠ keyE x
  | [], _, _, _, _ => ⟨rfl, fun _ h => ⟨h, fun _ hx => by cases hx⟩⟩
  | e :: r, pl, hn, hk, hm => by
    rw [List.map_cons, List.nodup_cons] at hk
    have h1 := delK_len (h := e.1.height) (f := e.1.from_) hn (hm e (.head _))
    obtain ⟨h2, h3⟩ := del_all (H := r) (pl := delK pl e.1.height e.1.from_) (hn.sublist (List.filter_sublist.map keyN)) hk.2 (fun x hx => by
      obtain ⟨q, hq, e1⟩ := hm x (.tail _ hx)
      refine ⟨q, delK_mem.2 ⟨hq, fun e2 => hk.1 ?_⟩, e1⟩
      rw [show keyE e = keyE x from e2.symm.trans e1]
      exact List.mem_map_of_mem (f := keyE) hx)
    refine ⟨by rw [List.foldl_cons, List.length_cons]; omega, fun q hq => ?_⟩
    rw [List.foldl_cons] at hq
    obtain ⟨h4, h5⟩ := h3 q hq
    obtain ⟨h6, h7⟩ := delK_mem.1 h4
    refine ⟨h6, fun x hx => ?_⟩
    rcases List.mem_cons.1 hx with rfl | hx
    · exact h7
    · exact h5 x hx
/-- behind a settling by what was picked -/
theorem settled {V : Vote × Vote → Int} {G : PEv → Bool} {pl : List PEv} (hp : PoolOk V pl) (hG : ∀ q, q ∈ pl → G q = false) {L : List (Vote × Vote)} (h : PickOk V pl L) (m : Nat) (hm : m ≤ L.length) :
    (stlP G (L.take m) pl).length + m = pl.length ∧ PoolOk V (stlP G (L.take m) pl) ∧ ∀ q, q ∈ stlP G (L.take m) pl → ∀ k, k < m → keyN q ≠ keyE (L.getD k default) := by
  have e : pl.filter (fun q => !(G q)) = pl := List.filter_eq_self.2 fun q hq => by rw [hG q hq]; rfl
  have hd := del_all (H := L.take m) (pl := pl) hp.1 (h.keys.sublist ((List.take_sublist _ _).map keyE)) (fun x hx => by
    obtain ⟨q, hq, e1⟩ := h.mem x (List.mem_of_mem_take hx)
    refine ⟨q, hq, ?_⟩
    obtain ⟨⟨e2, e3⟩, _⟩ := hp.2 q hq
    unfold keyN keyE
    rw [e2, e3, e1])
  have hs : stlP G (L.take m) pl = (L.take m).foldl (fun pl e => delK pl e.1.height e.1.from_) pl := by unfold stlP; rw [e]
  rw [hs]
  refine ⟨by have := hd.1; rw [List.length_take] at this; omega, ⟨?_, fun q hq => hp.2 q (hd.2 q hq).1⟩, fun q hq k hk => (hd.2 q hq).2 _ ?_⟩
  · rw [← hs]
    exact hp.1.sublist ((stl_sub G _ pl).map keyN)
  · rw [List.getD_eq_getElem?_getD, List.getElem?_eq_getElem (by omega : k < L.length)]
    show L[k] ∈ _
    exact List.mem_take_iff_getElem.2 ⟨k, by omega, rfl⟩
end Go.Proofs.YtofophjfgalhaaaGreatDoor.V
/-! The law MisdeedVerifies, walked. -/
namespace Go.Proofs.YtofophjfgalhaaaGreatDoor.V
open Go Go.RowKit

/-- of a slice that came in: it stands in the entry of its element type -/
def CmOk {α : Type} (es : Nat) (base : Nat → Option (Nat × Nat)) (len : Nat → Nat) (f : Nat → Nat → AV) (dec : AV → α) (enc : α → AV) (a : Option Addr) (n : Nat) : Prop := n ≤ 9223372036854775807 ∧ (n ≠ 0 → es = es ∧ ∃ b o, a = some ⟨b, o, none⟩ ∧ base (hx b o n) = some (b, o) ∧ n ≤ len (hx b o n) ∧ ∀ i, i < n → f (hx b o n) i = enc (dec (f (hx b o n) i)))
attribute [local irreducible] verR sealedP pairP shE shR dsaidR
end Go.Proofs.YtofophjfgalhaaaGreatDoor.V
