import Derived.Test.YtofophjfgalhaaaGreatDoorMisdeedPicksW08
import Derived.Test.YtofophjfgalhaaaGreatDoorMisdeedPicksW13
import Derived.Test.YtofophjfgalhaaaGreatDoorMisdeedPicksW30
set_option linter.unusedVariables false
set_option linter.unusedSimpArgs false
/-! The council's small looks: offences. -/
namespace Go.Proofs.YtofophjfgalhaaaGreatDoor.V
open Go Go.RowKit

/-! ### offences: pairs of a height and an address -/
def offE (l : List (Int × Int)) (i : Nat) : AV := .agg (.cons (.v (.int .u64 (l.getD i (0, 0)).1)) (.cons (.v (.int .u64 (l.getD i (0, 0)).2)) .nil))
def off1 : AV → Int × Int
  | .agg (.cons (.v (.int _ a)) (.cons (.v (.int _ b)) .nil)) => (a, b)
  | _ => (0, 0)
/-- where an offence stands, from i on; else -1 -/
def offIx (r : Int × Int) : List (Int × Int) → Nat → Int
  | [], _ => -1
  | q :: l, i => if (r.1 == q.1 && r.2 == q.2) = true then (i : Int) else offIx r l (i + 1)
def offX (r : Int × Int) : AV := .agg (.cons (.v (.int .u64 r.1)) (.cons (.v (.int .u64 r.2)) .nil))
def offV (M : MemF) (X : AV) : Option (Prop × List (Int × Int)) := match X with
 | .v (.slice a n _) => comeIn M 90002 2 off1 offX a n
 | X => match seqOf M X with
  | some (c, es, n, f) => some (c ∧ (n ≠ 0 → es = 2) ∧ n ≤ 9223372036854775807 ∧ ∀ i, i < n → f i = offX (off1 (f i)), (List.range n).map fun i => off1 (f i))
  | none => none
theorem off_open {O : Nat → Prop} {w0 w : World} {M : MemF} {X : AV} {c : Prop} {l : List (Int × Int)} (hS : Sat O w0 M w) (h : offV M X = some (c, l)) (hc : c) : l.length ≤ 9223372036854775807 ∧ X.cells = [X.val] ∧ ((∃ base cap, X.val = slV base l.length cap ∧ (roB base 2 l.length (offE l)).holds w) ∨ l = [] ∧ ∃ p cap, X = .v (.slice p 0 cap)) := by
  unfold offV at h
  split at h
  · rename_i a n cap
    obtain ⟨h1, h2, _⟩ := comeIn_spec h hc
    refine ⟨by omega, rfl, ?_⟩
    rcases comeIn_ro (cap := cap) hS h hc with ⟨base, h3, h4⟩ | ⟨rfl, h3⟩
    · rw [h2]
      exact .inl ⟨base, cap, h3, h4⟩
    · exact .inr ⟨h3, _, _, rfl⟩
  · split at h
    · rename_i c0 es n f hsx
      cases h
      obtain ⟨q1, q2, q3, q4⟩ := hc
      obtain ⟨base, cap, hv, hr⟩ := seqOf_spec hS hsx q1
      have hln : ((List.range n).map fun i => off1 (f i)).length = n := by simp
      rw [hln]
      refine ⟨q3, seq_cells hsx, .inl ⟨base, cap, hv, roB_holds fun h0 => ?_⟩⟩
      obtain ⟨b, o, e1, e2⟩ := hr h0
      rw [q2 h0] at e2
      refine ⟨b, o, e1, e2.congr fun i hi => ?_⟩
      unfold offE
      rw [List.getD_eq_getElem?_getD, List.getElem?_map, List.getElem?_range hi]
      exact q4 i hi
    · cases h
/-- an entry of nothing that came in -/
def noneB (es : Nat) : Blk := .vro es (fun _ => none) (fun _ => 0) (fun _ _ => .nil)
theorem noneB_holds (es : Nat) (w : World) : (noneB es).holds w := fun _ => ⟨fun _ => rfl, fun _ _ h => (by cases h)⟩
def oixC (args : List AV) (M : MemF) : Option (Prop × AV) := match args with
  | [X, .agg (.cons (.v (.int .u64 h)) (.cons (.v (.int .u64 a)) .nil))] => match offV M X with
    | some (c, l) => some (c, .v (.int .i64 (offIx (h, a) l 0)))
    | none => none
  | _ => none
theorem offIx_at {r : Int × Int} : ∀ {l : List (Int × Int)} {i k : Nat}, k < l.length → (∀ j, j < k → (r.1 == (l.getD j (0, 0)).1 && r.2 == (l.getD j (0, 0)).2) = false) → (r.1 == (l.getD k (0, 0)).1 && r.2 == (l.getD k (0, 0)).2) = true → offIx r l i = ((i + k : Nat) : Int)
  | [], _, _, h, _, _ => absurd h (Nat.not_lt_zero _)
  | q :: l, i, 0, _, _, h => by
    unfold offIx
    rw [if_pos (by simpa using h)]; simp
  | q :: l, i, k + 1, hk, hj, h => by
    unfold offIx
    have h0 := hj 0 (by omega)
    rw [if_neg (by intro e; have h0 : (r.1 == q.1 && r.2 == q.2) = false := by simpa using h0
                   rw [h0] at e; cases e)]
    rw [offIx_at (l := l) (i := i + 1) (k := k) (by simpa using hk) (fun j hj' => by simpa using hj (j + 1) (by omega)) (by simpa using h)]
    congr 1; omega
theorem offIx_no {r : Int × Int} : ∀ {l : List (Int × Int)} {i : Nat}, (∀ j, j < l.length → (r.1 == (l.getD j (0, 0)).1 && r.2 == (l.getD j (0, 0)).2) = false) → offIx r l i = -1
  | [], _, _ => rfl
  | q :: l, i, hj => by
    unfold offIx
    have h0 : (r.1 == q.1 && r.2 == q.2) = false := by simpa using hj 0 (by simp)
    rw [if_neg (by intro e; rw [h0] at e; cases e)]
    exact offIx_no fun j hj' => by simpa using hj (j + 1) (by simpa using hj')
set_option maxRecDepth 100000 in
set_option maxHeartbeats 4000000 in
theorem oix_read : ReadFn Tryz.prog 150 oixC := by
  intro args M q res h0 hq O w0 w hS
  unfold oixC at h0
  split at h0
  · rename_i X h a
    split at h0
    · rename_i c l hsx
      cases h0
      obtain ⟨q3, hcl, ho⟩ := off_open hS hsx hq
      obtain ⟨n, hln⟩ : ∃ n, n = l.length := ⟨_, rfl⟩
      rw [← hln] at q3 ho
      have hln := hln.symm
      rcases ho with ⟨base, cap, hv, hro⟩ | ⟨rfl, sp, scap, rfl⟩
      · rw [show [X, .agg (.cons (.v (.int .u64 h)) (.cons (.v (.int .u64 a)) .nil))].map AV.val = [roS 900 base 2 n cap, .agg (.cons (.v (.int .u64 h)) (.cons (.v (.int .u64 a)) .nil))].map AV.val by simp only [List.map_cons, List.map_nil, hv, roS_val]]
        refine ro_fn tabs2 (ct := []) trivial (cr := []) trivial Tryz.func150 rfl rfl (M := [(900, roB base 2 n (offE l))]) rfl ⟨roB_noOwn, trivial⟩ ⟨hro, trivial⟩ ?_
        repeat (first | refine s_seq ?_ | refine s_region ?_ | refine o_nil ?_ | refine d_nil ?_ | refine oA rfl rfl trivial ?_ | refine oB rfl rfl rfl (fun _ _ => ?_) | refine oC rfl rfl rfl trivial ?_ | refine dA rfl rfl trivial ?_ | refine dB rfl rfl rfl (fun _ _ => ?_) | refine dC rfl rfl rfl trivial ?_ | refine s_skip ?_ | refine s_block ?_ | refine s_exit ?_ | refine s_label ?_)
        refine s_loopW (α := Nat) [5, 8, 9, 10, 11, 12, 13, 14, 15, 16, 17, 18] [] (fun k => k ≤ n ∧ ∀ j, j < k → (h == (l.getD j (0, 0)).1 && a == (l.getD j (0, 0)).2) = false) (fun k => [(8, none, .v (.int .i64 k))]) (fun _ => []) (fun k => n - k) 0 ⟨Nat.zero_le _, fun j hj => absurd hj (Nat.not_lt_zero j)⟩ ?_ ?_
        · (refine Le.of ?leT ?leM (by first | exact dfs_nil rfl rfl | exact rfl); (case leT => repeat (first | exact trivial | refine And.intro (by first | exact rfl | (show some (none, AV.v (.int .i64 (IntKind.i64.wrap _))) = _; rw [wi64 (by omega) (by omega)]; rfl)) ?_)); (case leM => repeat (first | exact trivial | refine And.intro ⟨_, rfl, Blk.le_refl _⟩ ?_)))
        · intro k ⟨hk, hno⟩
          repeat (first | refine s_seq ?_ | refine s_region ?_ | refine o_nil ?_ | refine d_nil ?_ | refine oA rfl rfl trivial ?_ | refine oB rfl rfl rfl (fun _ _ => ?_) | refine oC rfl rfl rfl trivial ?_ | refine dA rfl rfl trivial ?_ | refine dB rfl rfl rfl (fun _ _ => ?_) | refine dC rfl rfl rfl trivial ?_ | refine s_skip ?_ | refine s_block ?_ | refine s_exit ?_ | refine s_label ?_)
          refine s_cond (b := decide ((k : Int) < (n : Int))) rfl (fun hb2 => ?_) (fun hb2 => ?_)
          · have hk8 : k < n := by have := of_decide_eq_true hb2; omega
            repeat (first | refine s_seq ?_ | refine s_region ?_ | refine o_nil ?_ | refine d_nil ?_ | refine oA rfl rfl trivial ?_ | refine oB rfl rfl rfl (fun _ _ => ?_) | refine oC rfl rfl rfl trivial ?_ | refine dA rfl rfl trivial ?_ | refine dB rfl rfl rfl (fun _ _ => ?_) | refine dC rfl rfl rfl trivial ?_ | refine s_skip ?_ | refine s_block ?_ | refine s_exit ?_ | refine s_label ?_)
            refine s_draw rD150_4 rM150_4 rX150_4 rN150_4 rfl rfl ?_
            repeat (first | refine s_seq ?_ | refine s_region ?_ | refine o_nil ?_ | refine d_nil ?_ | refine oA rfl rfl trivial ?_ | refine oB rfl rfl rfl (fun _ _ => ?_) | refine oC rfl rfl rfl trivial ?_ | refine dA rfl rfl trivial ?_ | refine dB rfl rfl rfl (fun _ _ => ?_) | refine dC rfl rfl rfl trivial ?_ | refine s_skip ?_ | refine s_block ?_ | refine s_exit ?_ | refine s_label ?_)
            refine s_cond (b := (h == (l.getD k (0, 0)).1 && ((a == (l.getD k (0, 0)).2) && true))) rfl (fun h9 => ?_) (fun h9 => ?_)
            · rw [Bool.and_true] at h9
              repeat (first | refine s_seq ?_ | refine s_region ?_ | refine o_nil ?_ | refine d_nil ?_ | refine oA rfl rfl trivial ?_ | refine oB rfl rfl rfl (fun _ _ => ?_) | refine oC rfl rfl rfl trivial ?_ | refine dA rfl rfl trivial ?_ | refine dB rfl rfl rfl (fun _ _ => ?_) | refine dC rfl rfl rfl trivial ?_ | refine s_skip ?_ | refine s_block ?_ | refine s_exit ?_ | refine s_label ?_)
              refine s_ret ?_
              refine ⟨_, _, rfl, ⟨trivial, trivial⟩, rfl, ?_⟩
              rw [offIx_at (k := k) (by rw [hln]; exact hk8) hno h9, Nat.zero_add]
              rfl
            · rw [Bool.and_true] at h9
              repeat (first | refine s_seq ?_ | refine s_region ?_ | refine o_nil ?_ | refine d_nil ?_ | refine oA rfl rfl trivial ?_ | refine oB rfl rfl rfl (fun _ _ => ?_) | refine oC rfl rfl rfl trivial ?_ | refine dA rfl rfl trivial ?_ | refine dB rfl rfl rfl (fun _ _ => ?_) | refine dC rfl rfl rfl trivial ?_ | refine s_skip ?_ | refine s_block ?_ | refine s_exit ?_ | refine s_label ?_)
              refine ⟨k + 1, ⟨by omega, fun j hj => ?_⟩, by omega, ?_⟩
              · rcases Nat.lt_or_ge j k with h1 | h1
                · exact hno j h1
                · rw [show j = k by omega]; exact h9
              · (refine Le.of ?leT ?leM (by first | exact dfs_nil rfl rfl | exact rfl); (case leT => repeat (first | exact trivial | refine And.intro (by first | exact rfl | (show some (none, AV.v (.int .i64 (IntKind.i64.wrap _))) = _; rw [wi64 (by omega) (by omega)]; rfl)) ?_)); (case leM => repeat (first | exact trivial | refine And.intro ⟨_, rfl, Blk.le_refl _⟩ ?_)))
          · have hk8 : k = n := by have := of_decide_eq_false hb2; omega
            repeat (first | refine s_seq ?_ | refine s_region ?_ | refine o_nil ?_ | refine d_nil ?_ | refine oA rfl rfl trivial ?_ | refine oB rfl rfl rfl (fun _ _ => ?_) | refine oC rfl rfl rfl trivial ?_ | refine dA rfl rfl trivial ?_ | refine dB rfl rfl rfl (fun _ _ => ?_) | refine dC rfl rfl rfl trivial ?_ | refine s_skip ?_ | refine s_block ?_ | refine s_exit ?_ | refine s_label ?_)
            refine s_ret ?_
            refine ⟨_, _, rfl, ⟨trivial, trivial⟩, rfl, ?_⟩
            rw [offIx_no (by rw [hln, ← hk8]; exact hno)]
            rfl
      · refine ro_fn tabs2 (ct := []) trivial (cr := []) trivial Tryz.func150 rfl rfl (M := []) rfl trivial trivial ?_
        repeat (first | refine s_seq ?_ | refine s_region ?_ | refine o_nil ?_ | refine d_nil ?_ | refine oA rfl rfl trivial ?_ | refine oB rfl rfl rfl (fun _ _ => ?_) | refine oC rfl rfl rfl trivial ?_ | refine dA rfl rfl trivial ?_ | refine dB rfl rfl rfl (fun _ _ => ?_) | refine dC rfl rfl rfl trivial ?_ | refine s_skip ?_ | refine s_block ?_ | refine s_exit ?_ | refine s_label ?_)
        refine s_loopW (α := Unit) [5, 8, 9, 10, 11, 12, 13, 14, 15, 16, 17, 18] [] (fun _ => True) (fun _ => [(8, none, .v (.int .i64 0))]) (fun _ => []) (fun _ => 0) () trivial ?_ ?_
        · (refine Le.of ?leT ?leM (by first | exact dfs_nil rfl rfl | exact rfl); (case leT => repeat (first | exact trivial | refine And.intro (by first | exact rfl | (show some (none, AV.v (.int .i64 (IntKind.i64.wrap _))) = _; rw [wi64 (by omega) (by omega)]; rfl)) ?_)); (case leM => repeat (first | exact trivial | refine And.intro ⟨_, rfl, Blk.le_refl _⟩ ?_)))
        · intro _ _
          repeat (first | refine s_seq ?_ | refine s_region ?_ | refine o_nil ?_ | refine d_nil ?_ | refine oA rfl rfl trivial ?_ | refine oB rfl rfl rfl (fun _ _ => ?_) | refine oC rfl rfl rfl trivial ?_ | refine dA rfl rfl trivial ?_ | refine dB rfl rfl rfl (fun _ _ => ?_) | refine dC rfl rfl rfl trivial ?_ | refine s_skip ?_ | refine s_block ?_ | refine s_exit ?_ | refine s_label ?_)
          refine s_cond (b := false) rfl (fun hb => by cases hb) (fun _ => ?_)
          repeat (first | refine s_seq ?_ | refine s_region ?_ | refine o_nil ?_ | refine d_nil ?_ | refine oA rfl rfl trivial ?_ | refine oB rfl rfl rfl (fun _ _ => ?_) | refine oC rfl rfl rfl trivial ?_ | refine dA rfl rfl trivial ?_ | refine dB rfl rfl rfl (fun _ _ => ?_) | refine dC rfl rfl rfl trivial ?_ | refine s_skip ?_ | refine s_block ?_ | refine s_exit ?_ | refine s_label ?_)
          refine s_ret ?_
          exact ⟨_, _, rfl, ⟨trivial, trivial⟩, rfl, rfl⟩
    · cases h0
  · cases h0
set_option maxRecDepth 100000 in
theorem oix_body : HasBody Tryz.prog 150 := ⟨_, Tryz.func150, rfl, by decide⟩
/-! ### slices.Contains of offences -/
theorem off_again {l : List (Int × Int)} {n : Nat} (hn : l.length = n) : ((List.range n).map fun i => off1 (offE l i)) = l := by
  subst hn
  apply List.ext_getElem?
  intro i
  rw [List.getElem?_map]
  by_cases h : i < l.length
  · rw [List.getElem?_range h, List.getElem?_eq_getElem h]
    show some ((l.getD i (0, 0)).1, (l.getD i (0, 0)).2) = _
    rw [List.getD_eq_getElem?_getD, List.getElem?_eq_getElem h]; rfl
  · rw [List.getElem?_eq_none (by simpa using h), List.getElem?_eq_none (by omega)]; rfl
def contC (args : List AV) (M : MemF) : Option (Prop × AV) := match args with
  | [X, .agg (.cons (.v (.int .u64 h)) (.cons (.v (.int .u64 a)) .nil))] => match offV M X with
    | some (c, l) => some (c, .v (.bool (decide (offIx (h, a) l 0 ≥ 0))))
    | none => none
  | _ => none
def ctOx : CtL := [(150, oixC)]
set_option maxRecDepth 100000 in
theorem ctOx_ok : CtLOk Tryz.prog ctOx := ⟨CallsOk.fn oix_body oix_read, trivial⟩
set_option maxRecDepth 100000 in
set_option maxHeartbeats 4000000 in
theorem cont_read : ReadFn Tryz.prog 108 contC := by
  intro args M q res h0 hq O w0 w hS
  unfold contC at h0
  split at h0
  · rename_i X h a
    split at h0
    · rename_i c l hsx
      cases h0
      obtain ⟨q3, hcl, ho⟩ := off_open hS hsx hq
      obtain ⟨n, hln⟩ : ∃ n, n = l.length := ⟨_, rfl⟩
      rw [← hln] at q3 ho
      have hln := hln.symm
      rcases ho with ⟨base, cap, hv, hro⟩ | ⟨rfl, sp, scap, rfl⟩
      · rw [show [X, .agg (.cons (.v (.int .u64 h)) (.cons (.v (.int .u64 a)) .nil))].map AV.val = [roS 900 base 2 n cap, .agg (.cons (.v (.int .u64 h)) (.cons (.v (.int .u64 a)) .nil))].map AV.val by simp only [List.map_cons, List.map_nil, hv, roS_val]]
        refine ro_fn tabs2 ctOx_ok (cr := []) trivial Tryz.func108 rfl rfl (M := [(900, roB base 2 n (offE l))]) rfl ⟨roB_noOwn, trivial⟩ ⟨hro, trivial⟩ ?_
        repeat (first | refine s_seq ?_ | refine s_region ?_ | refine o_nil ?_ | refine d_nil ?_ | refine oA rfl rfl trivial ?_ | refine oB rfl rfl rfl (fun _ _ => ?_) | refine oC rfl rfl rfl trivial ?_ | refine dA rfl rfl trivial ?_ | refine dB rfl rfl rfl (fun _ _ => ?_) | refine dC rfl rfl rfl trivial ?_ | refine s_skip ?_ | refine s_block ?_ | refine s_exit ?_ | refine s_label ?_)
        refine s_ret ?_
        refine ⟨_, _, rfl, ⟨trivial, trivial⟩, rfl, ?_⟩
        show (AV.v (.bool (decide (offIx (h, a) ((List.range n).map fun i => off1 (offE l i)) 0 ≥ 0)))).val = _
        rw [off_again hln]
      · refine ro_fn tabs2 ctOx_ok (cr := []) trivial Tryz.func108 rfl rfl (M := [(90002, noneB 2)]) rfl ⟨fun _ h => h, trivial⟩ ⟨noneB_holds _ _, trivial⟩ ?_
        repeat (first | refine s_seq ?_ | refine s_region ?_ | refine o_nil ?_ | refine d_nil ?_ | refine oA rfl rfl trivial ?_ | refine oB rfl rfl rfl (fun _ _ => ?_) | refine oC rfl rfl rfl trivial ?_ | refine dA rfl rfl trivial ?_ | refine dB rfl rfl rfl (fun _ _ => ?_) | refine dC rfl rfl rfl trivial ?_ | refine s_skip ?_ | refine s_block ?_ | refine s_exit ?_ | refine s_label ?_)
        refine s_ret ?_
        exact ⟨_, _, rfl, ⟨trivial, trivial⟩, rfl, rfl⟩
    · cases h0
  · cases h0
set_option maxRecDepth 100000 in
theorem cont_body : HasBody Tryz.prog 108 := ⟨_, Tryz.func108, rfl, by decide⟩
end Go.Proofs.YtofophjfgalhaaaGreatDoor.V
/-! The council's small looks: where an address stands. -/
namespace Go.Proofs.YtofophjfgalhaaaGreatDoor.V
open Go Go.RowKit

/-- where a number stands, from i on; else -1 -/
def numIx (a : Int) : List Int → Nat → Int
  | [], _ => -1
  | q :: l, i => if (q == a) = true then (i : Int) else numIx a l (i + 1)
theorem numIx_at {a : Int} : ∀ {l : List Int} {i k : Nat}, k < l.length → (∀ j, j < k → (l.getD j 0 == a) = false) → (l.getD k 0 == a) = true → numIx a l i = ((i + k : Nat) : Int)
  | [], _, _, h, _, _ => absurd h (Nat.not_lt_zero _)
  | q :: l, i, 0, _, _, h => by
    unfold numIx
    rw [if_pos (by simpa using h)]; simp
  | q :: l, i, k + 1, hk, hj, h => by
    unfold numIx
    have h0 : (q == a) = false := by simpa using hj 0 (by omega)
    rw [if_neg (by intro e; rw [h0] at e; cases e)]
    rw [numIx_at (l := l) (i := i + 1) (k := k) (by simpa using hk) (fun j hj' => by simpa using hj (j + 1) (by omega)) (by simpa using h)]
    congr 1; omega
theorem numIx_no {a : Int} : ∀ {l : List Int} {i : Nat}, (∀ j, j < l.length → (l.getD j 0 == a) = false) → numIx a l i = -1
  | [], _, _ => rfl
  | q :: l, i, hj => by
    unfold numIx
    have h0 : (q == a) = false := by simpa using hj 0 (by simp)
    rw [if_neg (by intro e; rw [h0] at e; cases e)]
    exact numIx_no fun j hj' => by simpa using hj (j + 1) (by simpa using hj')
def mb1 : AV → Int × Int × Int
  | .agg (.cons (.v (.int _ a)) (.cons (.v (.int _ p)) (.cons (.v (.int _ q)) .nil))) => (a, p, q)
  | _ => (0, 0, 0)
def mbE (l : List (Int × Int × Int)) (i : Nat) : AV := .agg (.cons (.v (.int .u64 (l.getD i (0, 0, 0)).1)) (.cons (.v (.int .u64 (l.getD i (0, 0, 0)).2.1)) (.cons (.v (.int .i64 (l.getD i (0, 0, 0)).2.2)) .nil)))
def mbX (r : Int × Int × Int) : AV := .agg (.cons (.v (.int .u64 r.1)) (.cons (.v (.int .u64 r.2.1)) (.cons (.v (.int .i64 r.2.2)) .nil)))
def memV (M : MemF) (X : AV) : Option (Prop × List (Int × Int × Int)) := match X with
 | .v (.slice a n _) => comeIn M 90003 3 mb1 mbX a n
 | X => match seqOf M X with
  | some (c, es, n, f) => some (c ∧ (n ≠ 0 → es = 3) ∧ n ≤ 9223372036854775807 ∧ ∀ i, i < n → f i = mbX (mb1 (f i)), (List.range n).map fun i => mb1 (f i))
  | none => none
theorem mem_open {O : Nat → Prop} {w0 w : World} {M : MemF} {X : AV} {c : Prop} {l : List (Int × Int × Int)} (hS : Sat O w0 M w) (h : memV M X = some (c, l)) (hc : c) : l.length ≤ 9223372036854775807 ∧ X.cells = [X.val] ∧ ((∃ base cap, X.val = slV base l.length cap ∧ (roB base 3 l.length (mbE l)).holds w) ∨ l = [] ∧ ∃ p cap, X = .v (.slice p 0 cap)) := by
  unfold memV at h
  split at h
  · rename_i a n cap
    obtain ⟨h1, h2, _⟩ := comeIn_spec h hc
    refine ⟨by omega, rfl, ?_⟩
    rcases comeIn_ro (cap := cap) hS h hc with ⟨base, h3, h4⟩ | ⟨rfl, h3⟩
    · rw [h2]
      exact .inl ⟨base, cap, h3, h4⟩
    · exact .inr ⟨h3, _, _, rfl⟩
  · split at h
    · rename_i c0 es n f hsx
      cases h
      obtain ⟨q1, q2, q3, q4⟩ := hc
      obtain ⟨base, cap, hv, hr⟩ := seqOf_spec hS hsx q1
      have hln : ((List.range n).map fun i => mb1 (f i)).length = n := by simp
      rw [hln]
      refine ⟨q3, seq_cells hsx, .inl ⟨base, cap, hv, roB_holds fun h0 => ?_⟩⟩
      obtain ⟨b, o, e1, e2⟩ := hr h0
      rw [q2 h0] at e2
      refine ⟨b, o, e1, e2.congr fun i hi => ?_⟩
      unfold mbE
      rw [List.getD_eq_getElem?_getD, List.getElem?_map, List.getElem?_range hi]
      exact q4 i hi
    · cases h
def dixC (args : List AV) (M : MemF) : Option (Prop × AV) := match args with
  | [.agg (.cons X .nil), .v (.int .u64 a)] => match memV M X with
    | some (c, l) => some (c, .v (.int .i64 (numIx a (l.map (·.1)) 0)))
    | none => none
  | _ => none
theorem mb_get {l : List (Int × Int × Int)} {k : Nat} : (l.map (·.1)).getD k 0 = (l.getD k (0, 0, 0)).1 := by
  rw [List.getD_eq_getElem?_getD, List.getD_eq_getElem?_getD, List.getElem?_map]
  cases l[k]? <;> rfl
end Go.Proofs.YtofophjfgalhaaaGreatDoor.V
/-! council.Index. -/
namespace Go.Proofs.YtofophjfgalhaaaGreatDoor.V
open Go Go.RowKit

def isMemC (args : List AV) (M : MemF) : Option (Prop × AV) := match args with
  | [.agg (.cons (.v (.int .u64 x)) (.cons (.v (.int .u64 y)) (.cons (.v (.int .i64 z)) .nil))), .ptr p] => match ptrOf M p false 1 with
    | some (c, .v (.int .u64 a)) => some (c, .v (.bool (x == a)))
    | _ => none
  | _ => none
set_option maxRecDepth 100000 in
theorem isMem_read : ReadFn Tryz.prog 107 isMemC := by
  intro args M q res h hq O w0 w hS
  unfold isMemC at h
  split at h
  · rename_i x y z p
    split at h
    · rename_i c a hp
      cases h
      have hR := ptrOf_spec (g := false) hS hp hq
      rw [show [.agg (.cons (.v (.int .u64 x)) (.cons (.v (.int .u64 y)) (.cons (.v (.int .i64 z)) .nil))), AV.ptr p].map AV.val = [.agg (.cons (.v (.int .u64 x)) (.cons (.v (.int .u64 y)) (.cons (.v (.int .i64 z)) .nil))), roP 900 p.b p.cell 1].map AV.val by simp only [List.map_cons, List.map_nil, pt_ro p 900 1]]
      refine ro_fn tabs2 (ct := []) trivial (cr := []) trivial Tryz.func107 rfl rfl (M := [(900, roB (some (p.b, p.cell)) 1 1 fun _ => .v (.int .u64 a))]) rfl ⟨roB_noOwn, trivial⟩ ⟨roB_holds fun _ => ⟨_, _, rfl, hR⟩, trivial⟩ ?_
      repeat (first | refine s_seq ?_ | refine s_region ?_ | refine o_nil ?_ | refine d_nil ?_ | refine oA rfl rfl trivial ?_ | refine oB rfl rfl rfl (fun _ _ => ?_) | refine oC rfl rfl rfl trivial ?_ | refine dA rfl rfl trivial ?_ | refine dB rfl rfl rfl (fun _ _ => ?_) | refine dC rfl rfl rfl trivial ?_ | refine s_skip ?_ | refine s_block ?_ | refine s_exit ?_ | refine s_label ?_)
      refine s_ret ?_
      exact ⟨_, _, rfl, ⟨trivial, trivial⟩, rfl, rfl⟩
    · cases h
  · cases h
set_option maxRecDepth 100000 in
theorem isMem_body : HasBody Tryz.prog 107 := ⟨_, Tryz.func107, rfl, by decide⟩
def ixFC (args : List AV) (M : MemF) : Option (Prop × AV) := match args with
  | [X, .fn 107 (.cons (.ptr p) .nil)] => match memV M X, ptrOf M p false 1 with
    | some (c, l), some (c2, .v (.int .u64 a)) => some (c ∧ c2, .v (.int .i64 (numIx a (l.map (·.1)) 0)))
    | _, _ => none
  | _ => none
def ctIm : CtL := [(107, isMemC)]
set_option maxRecDepth 100000 in
theorem ctIm_ok : CtLOk Tryz.prog ctIm := ⟨CallsOk.fn isMem_body isMem_read, trivial⟩
set_option maxRecDepth 100000 in
set_option maxHeartbeats 4000000 in
theorem ixF_read : ReadFn Tryz.prog 106 ixFC := by
  intro args M q res h0 hq O w0 w hS
  unfold ixFC at h0
  split at h0
  · rename_i X p
    split at h0
    · rename_i c l c2 a hsx hp
      cases h0
      obtain ⟨hq, hq2⟩ := hq
      rcases mem_open hS hsx hq with ⟨hn, hcl, ⟨base, cap, hv, hro⟩ | ⟨rfl, sp, scap, rfl⟩⟩
      · have hR := ptrOf_spec (g := false) hS hp hq2
        have hf : (AV.fn 107 (.cons (.ptr p) .nil)).val = (AV.fn 107 (.cons (roP 901 p.b p.cell 1) .nil)).val := by
          rw [fn_val, fn_val]
          show Value.func _ _ #[(AV.ptr p).val] = Value.func _ _ #[(roP 901 p.b p.cell 1).val]
          rw [pt_ro p 901 1]
        rw [show [X, AV.fn 107 (.cons (.ptr p) .nil)].map AV.val = [roS 900 base 3 l.length cap, AV.fn 107 (.cons (roP 901 p.b p.cell 1) .nil)].map AV.val by simp only [List.map_cons, List.map_nil, hf, hv, roS_val]]
        refine ro_fn tabs2 ctIm_ok (cr := []) trivial Tryz.func106 rfl rfl (M := [(900, roB base 3 l.length (mbE l)), (901, roB (some (p.b, p.cell)) 1 1 fun _ => .v (.int .u64 a))]) rfl ⟨roB_noOwn, roB_noOwn, trivial⟩ ⟨hro, roB_holds fun _ => ⟨_, _, rfl, hR⟩, trivial⟩ ?_
        repeat (first | refine s_seq ?_ | refine s_region ?_ | refine o_nil ?_ | refine d_nil ?_ | refine oA rfl rfl trivial ?_ | refine oB rfl rfl rfl (fun _ _ => ?_) | refine oC rfl rfl rfl trivial ?_ | refine dA rfl rfl trivial ?_ | refine dB rfl rfl rfl (fun _ _ => ?_) | refine dC rfl rfl rfl trivial ?_ | refine s_skip ?_ | refine s_block ?_ | refine s_exit ?_ | refine s_label ?_)
        refine s_loopW (α := Nat) [5, 8, 9, 10, 11, 12, 13, 14, 15, 16, 17, 18] [] (fun k => k ≤ l.length ∧ ∀ j, j < k → ((l.map (·.1)).getD j 0 == a) = false) (fun k => [(8, none, .v (.int .i64 k))]) (fun _ => []) (fun k => l.length - k) 0 ⟨Nat.zero_le _, fun j hj => absurd hj (Nat.not_lt_zero j)⟩ ?_ ?_
        · (refine Le.of ?leT ?leM (by first | exact dfs_nil rfl rfl | exact rfl); (case leT => repeat (first | exact trivial | refine And.intro (by first | exact rfl | (show some (none, AV.v (.int .i64 (IntKind.i64.wrap _))) = _; rw [wi64 (by omega) (by omega)]; rfl)) ?_)); (case leM => repeat (first | exact trivial | refine And.intro ⟨_, rfl, Blk.le_refl _⟩ ?_)))
        · intro k ⟨hk, hno⟩
          repeat (first | refine s_seq ?_ | refine s_region ?_ | refine o_nil ?_ | refine d_nil ?_ | refine oA rfl rfl trivial ?_ | refine oB rfl rfl rfl (fun _ _ => ?_) | refine oC rfl rfl rfl trivial ?_ | refine dA rfl rfl trivial ?_ | refine dB rfl rfl rfl (fun _ _ => ?_) | refine dC rfl rfl rfl trivial ?_ | refine s_skip ?_ | refine s_block ?_ | refine s_exit ?_ | refine s_label ?_)
          refine s_cond (b := decide ((k : Int) < (l.length : Int))) rfl (fun hb2 => ?_) (fun hb2 => ?_)
          · have hk8 : k < l.length := by have := of_decide_eq_true hb2; omega
            repeat (first | refine s_seq ?_ | refine s_region ?_ | refine o_nil ?_ | refine d_nil ?_ | refine oA rfl rfl trivial ?_ | refine oB rfl rfl rfl (fun _ _ => ?_) | refine oC rfl rfl rfl trivial ?_ | refine dA rfl rfl trivial ?_ | refine dB rfl rfl rfl (fun _ _ => ?_) | refine dC rfl rfl rfl trivial ?_ | refine s_skip ?_ | refine s_block ?_ | refine s_exit ?_ | refine s_label ?_)
            refine s_cond (b := ((l.getD k (0, 0, 0)).1 == a)) rfl (fun h9 => ?_) (fun h9 => ?_)
            · repeat (first | refine s_seq ?_ | refine s_region ?_ | refine o_nil ?_ | refine d_nil ?_ | refine oA rfl rfl trivial ?_ | refine oB rfl rfl rfl (fun _ _ => ?_) | refine oC rfl rfl rfl trivial ?_ | refine dA rfl rfl trivial ?_ | refine dB rfl rfl rfl (fun _ _ => ?_) | refine dC rfl rfl rfl trivial ?_ | refine s_skip ?_ | refine s_block ?_ | refine s_exit ?_ | refine s_label ?_)
              refine s_ret ?_
              refine ⟨_, _, rfl, ⟨trivial, trivial⟩, rfl, ?_⟩
              rw [numIx_at (k := k) (by rw [List.length_map]; exact hk8) hno (by rw [mb_get]; exact h9), Nat.zero_add]
              rfl
            · repeat (first | refine s_seq ?_ | refine s_region ?_ | refine o_nil ?_ | refine d_nil ?_ | refine oA rfl rfl trivial ?_ | refine oB rfl rfl rfl (fun _ _ => ?_) | refine oC rfl rfl rfl trivial ?_ | refine dA rfl rfl trivial ?_ | refine dB rfl rfl rfl (fun _ _ => ?_) | refine dC rfl rfl rfl trivial ?_ | refine s_skip ?_ | refine s_block ?_ | refine s_exit ?_ | refine s_label ?_)
              refine ⟨k + 1, ⟨by omega, fun j hj => ?_⟩, by omega, ?_⟩
              · rcases Nat.lt_or_ge j k with h1 | h1
                · exact hno j h1
                · rw [show j = k by omega, mb_get]; exact h9
              · (refine Le.of ?leT ?leM (by first | exact dfs_nil rfl rfl | exact rfl); (case leT => repeat (first | exact trivial | refine And.intro (by first | exact rfl | (show some (none, AV.v (.int .i64 (IntKind.i64.wrap _))) = _; rw [wi64 (by omega) (by omega)]; rfl)) ?_)); (case leM => repeat (first | exact trivial | refine And.intro ⟨_, rfl, Blk.le_refl _⟩ ?_)))
          · have hk8 : k = l.length := by have := of_decide_eq_false hb2; omega
            repeat (first | refine s_seq ?_ | refine s_region ?_ | refine o_nil ?_ | refine d_nil ?_ | refine oA rfl rfl trivial ?_ | refine oB rfl rfl rfl (fun _ _ => ?_) | refine oC rfl rfl rfl trivial ?_ | refine dA rfl rfl trivial ?_ | refine dB rfl rfl rfl (fun _ _ => ?_) | refine dC rfl rfl rfl trivial ?_ | refine s_skip ?_ | refine s_block ?_ | refine s_exit ?_ | refine s_label ?_)
            refine s_ret ?_
            refine ⟨_, _, rfl, ⟨trivial, trivial⟩, rfl, ?_⟩
            rw [numIx_no (by rw [List.length_map, ← hk8]; exact hno)]
            rfl
      · have hR := ptrOf_spec (g := false) hS hp hq2
        have hf : (AV.fn 107 (.cons (.ptr p) .nil)).val = (AV.fn 107 (.cons (roP 901 p.b p.cell 1) .nil)).val := by
          rw [fn_val, fn_val]
          show Value.func _ _ #[(AV.ptr p).val] = Value.func _ _ #[(roP 901 p.b p.cell 1).val]
          rw [pt_ro p 901 1]
        rw [show [.v (.slice sp 0 scap), AV.fn 107 (.cons (.ptr p) .nil)].map AV.val = [.v (.slice sp 0 scap), AV.fn 107 (.cons (roP 901 p.b p.cell 1) .nil)].map AV.val by simp only [List.map_cons, List.map_nil, hf]]
        refine ro_fn tabs2 ctIm_ok (cr := []) trivial Tryz.func106 rfl rfl (M := [(901, roB (some (p.b, p.cell)) 1 1 fun _ => .v (.int .u64 a))]) rfl ⟨roB_noOwn, trivial⟩ ⟨roB_holds fun _ => ⟨_, _, rfl, hR⟩, trivial⟩ ?_
        repeat (first | refine s_seq ?_ | refine s_region ?_ | refine o_nil ?_ | refine d_nil ?_ | refine oA rfl rfl trivial ?_ | refine oB rfl rfl rfl (fun _ _ => ?_) | refine oC rfl rfl rfl trivial ?_ | refine dA rfl rfl trivial ?_ | refine dB rfl rfl rfl (fun _ _ => ?_) | refine dC rfl rfl rfl trivial ?_ | refine s_skip ?_ | refine s_block ?_ | refine s_exit ?_ | refine s_label ?_)
        refine s_loopW (α := Unit) [5, 8, 9, 10, 11, 12, 13, 14, 15, 16, 17, 18] [] (fun _ => True) (fun _ => [(8, none, .v (.int .i64 0))]) (fun _ => []) (fun _ => 0) () trivial ?_ ?_
        · (refine Le.of ?leT ?leM (by first | exact dfs_nil rfl rfl | exact rfl); (case leT => repeat (first | exact trivial | refine And.intro (by first | exact rfl | (show some (none, AV.v (.int .i64 (IntKind.i64.wrap _))) = _; rw [wi64 (by omega) (by omega)]; rfl)) ?_)); (case leM => repeat (first | exact trivial | refine And.intro ⟨_, rfl, Blk.le_refl _⟩ ?_)))
        · intro _ _
          repeat (first | refine s_seq ?_ | refine s_region ?_ | refine o_nil ?_ | refine d_nil ?_ | refine oA rfl rfl trivial ?_ | refine oB rfl rfl rfl (fun _ _ => ?_) | refine oC rfl rfl rfl trivial ?_ | refine dA rfl rfl trivial ?_ | refine dB rfl rfl rfl (fun _ _ => ?_) | refine dC rfl rfl rfl trivial ?_ | refine s_skip ?_ | refine s_block ?_ | refine s_exit ?_ | refine s_label ?_)
          refine s_cond (b := false) rfl (fun hb => by cases hb) (fun _ => ?_)
          repeat (first | refine s_seq ?_ | refine s_region ?_ | refine o_nil ?_ | refine d_nil ?_ | refine oA rfl rfl trivial ?_ | refine oB rfl rfl rfl (fun _ _ => ?_) | refine oC rfl rfl rfl trivial ?_ | refine dA rfl rfl trivial ?_ | refine dB rfl rfl rfl (fun _ _ => ?_) | refine dC rfl rfl rfl trivial ?_ | refine s_skip ?_ | refine s_block ?_ | refine s_exit ?_ | refine s_label ?_)
          refine s_ret ?_
          exact ⟨_, _, rfl, ⟨trivial, trivial⟩, rfl, rfl⟩
    · cases h0
  · cases h0
set_option maxRecDepth 100000 in
theorem ixF_body : HasBody Tryz.prog 106 := ⟨_, Tryz.func106, rfl, by decide⟩
theorem mb_again (l : List (Int × Int × Int)) : ((List.range l.length).map fun i => mb1 (mbE l i)) = l := by
  apply List.ext_getElem?
  intro i
  rw [List.getElem?_map]
  by_cases h : i < l.length
  · rw [List.getElem?_range h, List.getElem?_eq_getElem h]
    show some ((l.getD i (0, 0, 0)).1, (l.getD i (0, 0, 0)).2.1, (l.getD i (0, 0, 0)).2.2) = _
    rw [List.getD_eq_getElem?_getD, List.getElem?_eq_getElem h]; rfl
  · rw [List.getElem?_eq_none (by simpa using h), List.getElem?_eq_none (by omega)]; rfl
def ctIx : CtL := [(106, ixFC)]
set_option maxRecDepth 100000 in
theorem ctIx_ok : CtLOk Tryz.prog ctIx := ⟨CallsOk.fn ixF_body ixF_read, trivial⟩
set_option maxRecDepth 100000 in
set_option maxHeartbeats 4000000 in
theorem ix_read : ReadFn Tryz.prog 52 dixC := by
  intro args M q res h0 hq O w0 w hS
  unfold dixC at h0
  split at h0
  · rename_i X a
    split at h0
    · rename_i c l hsx
      cases h0
      rcases mem_open hS hsx hq with ⟨hn, hcl, ⟨base, cap, hv, hro⟩ | ⟨rfl, sp, scap, rfl⟩⟩
      · have hx : (AV.agg (.cons X .nil)).val = (AV.agg (.cons (roS 900 base 3 l.length cap) .nil)).val := by
          simp only [AV.val_agg, AV.cells_cons, AV.cells_nil, hcl, hv]
          rw [show (roS 900 base 3 l.length cap).cells = [slV base l.length cap] by rw [← roS_val 900 base 3 l.length cap]; rfl]
        rw [show [.agg (.cons X .nil), .v (.int .u64 a)].map AV.val = [.agg (.cons (roS 900 base 3 l.length cap) .nil), .v (.int .u64 a)].map AV.val by simp only [List.map_cons, List.map_nil, hx]]
        refine ro_fn tabs2 ctIx_ok (cr := []) trivial Tryz.func52 rfl rfl (M := [(900, roB base 3 l.length (mbE l))]) rfl ⟨roB_noOwn, trivial⟩ ⟨hro, trivial⟩ ?_
        repeat (first | refine s_seq ?_ | refine s_region ?_ | refine o_nil ?_ | refine d_nil ?_ | refine oA rfl rfl trivial ?_ | refine oB rfl rfl rfl (fun _ _ => ?_) | refine oC rfl rfl rfl trivial ?_ | refine dA rfl rfl trivial ?_ | refine dB rfl rfl rfl (fun _ _ => ?_) | refine dC rfl rfl rfl trivial ?_ | refine s_skip ?_ | refine s_block ?_ | refine s_exit ?_ | refine s_label ?_)
        refine s_ret ?_
        refine ⟨_, _, rfl, ⟨trivial, trivial⟩, rfl, ?_⟩
        show (AV.v (.int .i64 (numIx a (((List.range l.length).map fun i => mb1 (mbE l i)).map (·.1)) 0))).val = _
        rw [mb_again]
      · refine ro_fn tabs2 ctIx_ok (cr := []) trivial Tryz.func52 rfl rfl (M := [(90003, noneB 3)]) rfl ⟨fun _ h => h, trivial⟩ ⟨noneB_holds _ _, trivial⟩ ?_
        repeat (first | refine s_seq ?_ | refine s_region ?_ | refine o_nil ?_ | refine d_nil ?_ | refine oA rfl rfl trivial ?_ | refine oB rfl rfl rfl (fun _ _ => ?_) | refine oC rfl rfl rfl trivial ?_ | refine dA rfl rfl trivial ?_ | refine dB rfl rfl rfl (fun _ _ => ?_) | refine dC rfl rfl rfl trivial ?_ | refine s_skip ?_ | refine s_block ?_ | refine s_exit ?_ | refine s_label ?_)
        refine s_ret ?_
        exact ⟨_, _, rfl, ⟨trivial, trivial⟩, rfl, rfl⟩
    · cases h0
  · cases h0
set_option maxRecDepth 100000 in
theorem ix_body : HasBody Tryz.prog 52 := ⟨_, Tryz.func52, rfl, by decide⟩
end Go.Proofs.YtofophjfgalhaaaGreatDoor.V
/-! misdeed.pairOf. -/
namespace Go.Proofs.YtofophjfgalhaaaGreatDoor.V
open Go Go.RowKit

def pofC (args : List AV) (_M : MemF) : Option (Prop × AV) := match args with
  | [.agg (.cons a (.cons b .nil))] => match decV a, decV b with
    | some x, some _ => some (True, .agg (.cons (.v (.int .u64 x.height)) (.cons (.v (.int .u64 x.from_)) .nil)))
    | _, _ => none
  | _ => none
set_option maxRecDepth 100000 in
set_option maxHeartbeats 4000000 in
theorem pof_read : ReadFn Tryz.prog 48 pofC := by
  intro args M q res h hq O w0 w hS
  unfold pofC at h
  split at h
  · split at h
    · rename_i a b x y hx hy
      cases h
      have ha := decV_enc hx
      have hb := decV_enc hy
      subst ha hb
      refine ro_fn tabs2 (ct := []) trivial (cr := []) trivial Tryz.func48 rfl rfl (M := []) rfl trivial trivial ?_
      repeat (first | refine s_seq ?_ | refine s_region ?_ | refine o_nil ?_ | refine d_nil ?_ | refine oA rfl rfl trivial ?_ | refine oB rfl rfl rfl (fun _ _ => ?_) | refine oC rfl rfl rfl trivial ?_ | refine dA rfl rfl trivial ?_ | refine dB rfl rfl rfl (fun _ _ => ?_) | refine dC rfl rfl rfl trivial ?_ | refine s_skip ?_ | refine s_block ?_ | refine s_exit ?_ | refine s_label ?_)
      refine s_ret ?_
      refine ⟨_, _, rfl, (by repeat (first | exact trivial | constructor)), rfl, rfl⟩
    · cases h
  · cases h
set_option maxRecDepth 100000 in
theorem pof_body : HasBody Tryz.prog 48 := ⟨_, Tryz.func48, rfl, by decide⟩
end Go.Proofs.YtofophjfgalhaaaGreatDoor.V
/-! Plain: what is said of unlike votes is unlike; who has signed two things is found twice. -/
namespace Go.Proofs.YtofophjfgalhaaaGreatDoor.V
open Go Go.RowKit

end Go.Proofs.YtofophjfgalhaaaGreatDoor.V
/-! The state; what Verify asks of it. -/
namespace Go.Proofs.YtofophjfgalhaaaGreatDoor.V
open Go Go.RowKit

/-! ### the state -/
structure StV where
  nm : ByteArray
  p0 : Int
  p1 : Int
  p2 : Int
  p3 : Int
  p4 : Int
  p5 : Int
  p6 : Int
  p7 : Int
  p8 : Int
  p9 : Int
  p10 : Int
  p11 : Int
  h : Int
  t : Int
  id : List Int
  a1 : Option Addr
  n1 : Nat
  c1 : Nat
  a2 : Option Addr
  n2 : Nat
  c2 : Nat
  a3 : Option Addr
  n3 : Nat
  c3 : Nat
  a4 : Option Addr
  n4 : Nat
  c4 : Nat
  a5 : Option Addr
  n5 : Nat
  c5 : Nat
  a6 : Option Addr
  n6 : Nat
  c6 : Nat
  u : Int
  v : Int
def encS (x : StV) : AV := .agg (.cons (.v (.string x.nm)) (.cons (.agg (.cons (.v (.int .u64 x.p0)) (.cons (.v (.int .i64 x.p1)) (.cons (.v (.int .u64 x.p2)) (.cons (.v (.int .u64 x.p3)) (.cons (.v (.int .u64 x.p4)) (.cons (.v (.int .i64 x.p5)) (.cons (.v (.int .u64 x.p6)) (.cons (.v (.int .u64 x.p7)) (.cons (.v (.int .u64 x.p8)) (.cons (.v (.int .u64 x.p9)) (.cons (.v (.int .u64 x.p10)) (.cons (.v (.int .u64 x.p11)) .nil))))))))))))) (.cons (.v (.int .u64 x.h)) (.cons (.v (.int .u64 x.t)) (.cons (.ints .u8 32 x.id) (.cons (.agg (.cons (.v (.slice x.a1 x.n1 x.c1)) .nil)) (.cons (.agg (.cons (.v (.slice x.a2 x.n2 x.c2)) .nil)) (.cons (.v (.slice x.a3 x.n3 x.c3)) (.cons (.v (.slice x.a4 x.n4 x.c4)) (.cons (.agg (.cons (.v (.slice x.a5 x.n5 x.c5)) (.cons (.v (.slice x.a6 x.n6 x.c6)) (.cons (.v (.int .u64 x.u)) (.cons (.v (.int .u64 x.v)) .nil))))) .nil))))))))))
/-- the same, with a slice of its own for the past -/
def encSP (x : StV) (X : AV) : AV := .agg (.cons (.v (.string x.nm)) (.cons (.agg (.cons (.v (.int .u64 x.p0)) (.cons (.v (.int .i64 x.p1)) (.cons (.v (.int .u64 x.p2)) (.cons (.v (.int .u64 x.p3)) (.cons (.v (.int .u64 x.p4)) (.cons (.v (.int .i64 x.p5)) (.cons (.v (.int .u64 x.p6)) (.cons (.v (.int .u64 x.p7)) (.cons (.v (.int .u64 x.p8)) (.cons (.v (.int .u64 x.p9)) (.cons (.v (.int .u64 x.p10)) (.cons (.v (.int .u64 x.p11)) .nil))))))))))))) (.cons (.v (.int .u64 x.h)) (.cons (.v (.int .u64 x.t)) (.cons (.ints .u8 32 x.id) (.cons (.agg (.cons (.v (.slice x.a1 x.n1 x.c1)) .nil)) (.cons (.agg (.cons (.v (.slice x.a2 x.n2 x.c2)) .nil)) (.cons X (.cons (.v (.slice x.a4 x.n4 x.c4)) (.cons (.agg (.cons (.v (.slice x.a5 x.n5 x.c5)) (.cons (.v (.slice x.a6 x.n6 x.c6)) (.cons (.v (.int .u64 x.u)) (.cons (.v (.int .u64 x.v)) .nil))))) .nil))))))))))
def decS : AV → Option StV
  | .agg (.cons (.v (.string nm)) (.cons (.agg (.cons (.v (.int .u64 p0)) (.cons (.v (.int .i64 p1)) (.cons (.v (.int .u64 p2)) (.cons (.v (.int .u64 p3)) (.cons (.v (.int .u64 p4)) (.cons (.v (.int .i64 p5)) (.cons (.v (.int .u64 p6)) (.cons (.v (.int .u64 p7)) (.cons (.v (.int .u64 p8)) (.cons (.v (.int .u64 p9)) (.cons (.v (.int .u64 p10)) (.cons (.v (.int .u64 p11)) .nil))))))))))))) (.cons (.v (.int .u64 h)) (.cons (.v (.int .u64 t)) (.cons (.ints .u8 32 id) (.cons (.agg (.cons (.v (.slice a1 n1 c1)) .nil)) (.cons (.agg (.cons (.v (.slice a2 n2 c2)) .nil)) (.cons (.v (.slice a3 n3 c3)) (.cons (.v (.slice a4 n4 c4)) (.cons (.agg (.cons (.v (.slice a5 n5 c5)) (.cons (.v (.slice a6 n6 c6)) (.cons (.v (.int .u64 u)) (.cons (.v (.int .u64 v)) .nil))))) .nil)))))))))) => some ⟨nm, p0, p1, p2, p3, p4, p5, p6, p7, p8, p9, p10, p11, h, t, id, a1, n1, c1, a2, n2, c2, a3, n3, c3, a4, n4, c4, a5, n5, c5, a6, n6, c6, u, v⟩
  | _ => none
theorem decS_enc {a : AV} {x : StV} (h : decS a = some x) : a = encS x := by
  unfold decS at h
  split at h
  · cases h; rfl
  · cases h

/-! ### the past -/
structure PstV where
  h : Int
  t : Int
  a : Option Addr
  n : Nat
  c : Nat
instance : Inhabited PstV := ⟨⟨0, 0, none, 0, 0⟩⟩
def pstX (p : PstV) : AV := .agg (.cons (.v (.int .u64 p.h)) (.cons (.v (.int .u64 p.t)) (.cons (.agg (.cons (.v (.slice p.a p.n p.c)) .nil)) .nil)))
def pst1 : AV → PstV
  | .agg (.cons (.v (.int _ h)) (.cons (.v (.int _ t)) (.cons (.agg (.cons (.v (.slice a n c)) .nil)) .nil))) => ⟨h, t, a, n, c⟩
  | _ => default
def pstE (l : List PstV) (i : Nat) : AV := pstX (l.getD i default)
def pstV (M : MemF) (a : Option Addr) (n : Nat) : Option (Prop × List PstV) := comeIn M 90001 3 pst1 pstX a n
theorem pst_get {l : List PstV} {k : Nat} : (l.map (·.h)).getD k 0 = (l.getD k default).h := by
  rw [List.getD_eq_getElem?_getD, List.getD_eq_getElem?_getD, List.getElem?_map]
  cases l[k]? <;> rfl
/-- Verify's closure: is that height's entry? -/
def hitC (args : List AV) (M : MemF) : Option (Prop × AV) := match args with
  | [.agg (.cons (.v (.int .u64 h)) (.cons (.v (.int .u64 t)) (.cons (.agg (.cons (.v (.slice a n c)) .nil)) .nil))), .ptr p] => match ptrOf M p true 2 with
    | some (q, .agg (.cons (.v (.int .u64 x)) (.cons (.v (.int .u64 y)) .nil))) => some (q, .v (.bool (h == x)))
    | _ => none
  | _ => none
set_option maxRecDepth 100000 in
theorem hit_read : ReadFn Tryz.prog 50 hitC := by
  intro args M q res h hq O w0 w hS
  unfold hitC at h
  split at h
  · rename_i h1 t a n c p
    split at h
    · rename_i q x y hp
      cases h
      have hR := ptrOf_spec (g := true) hS hp hq
      rw [show [.agg (.cons (.v (.int .u64 h1)) (.cons (.v (.int .u64 t)) (.cons (.agg (.cons (.v (.slice a n c)) .nil)) .nil))), AV.ptr p].map AV.val = [.agg (.cons (.v (.int .u64 h1)) (.cons (.v (.int .u64 t)) (.cons (.agg (.cons (.v (.slice a n c)) .nil)) .nil))), roP 900 p.b p.cell 2].map AV.val by simp only [List.map_cons, List.map_nil, pt_ro p 900 2]]
      refine ro_fn tabs2 (ct := []) trivial (cr := []) trivial Tryz.func50 rfl rfl (M := [(900, roB (some (p.b, p.cell)) 2 1 fun _ => .agg (.cons (.v (.int .u64 x)) (.cons (.v (.int .u64 y)) .nil)))]) rfl ⟨roB_noOwn, trivial⟩ ⟨roB_holds fun _ => ⟨_, _, rfl, hR⟩, trivial⟩ ?_
      repeat (first | refine s_seq ?_ | refine s_region ?_ | refine o_nil ?_ | refine d_nil ?_ | refine oA rfl rfl trivial ?_ | refine oB rfl rfl rfl (fun _ _ => ?_) | refine oC rfl rfl rfl trivial ?_ | refine dA rfl rfl trivial ?_ | refine dB rfl rfl rfl (fun _ _ => ?_) | refine dC rfl rfl rfl trivial ?_ | refine s_skip ?_ | refine s_block ?_ | refine s_exit ?_ | refine s_label ?_)
      refine s_ret ?_
      exact ⟨_, _, rfl, ⟨trivial, trivial⟩, rfl, rfl⟩
    · cases h
  · cases h
set_option maxRecDepth 100000 in
theorem hit_body : HasBody Tryz.prog 50 := ⟨_, Tryz.func50, rfl, by decide⟩
def ixPC (args : List AV) (M : MemF) : Option (Prop × AV) := match args with
  | [.v (.slice a n _), .fn 50 (.cons (.ptr p) .nil)] => match pstV M a n, ptrOf M p true 2 with
    | some (c, l), some (c2, .agg (.cons (.v (.int .u64 x)) (.cons (.v (.int .u64 _)) .nil))) => some (c ∧ c2, .v (.int .i64 (numIx x (l.map (·.h)) 0)))
    | _, _ => none
  | _ => none
def ctHt : CtL := [(50, hitC)]
set_option maxRecDepth 100000 in
theorem ctHt_ok : CtLOk Tryz.prog ctHt := ⟨CallsOk.fn hit_body hit_read, trivial⟩
set_option maxRecDepth 100000 in
set_option maxHeartbeats 4000000 in
theorem ixP_read : ReadFn Tryz.prog 49 ixPC := by
  intro args M q res h0 hq O w0 w hS
  unfold ixPC at h0
  split at h0
  · rename_i pa pn pc p
    split at h0
    · rename_i c l c2 x y hsx hp
      cases h0
      obtain ⟨hq, hq2⟩ := hq
      have hR := ptrOf_spec (g := true) hS hp hq2
      obtain ⟨hn, hl, _⟩ := comeIn_spec hsx hq
      have hf : (AV.fn 50 (.cons (.ptr p) .nil)).val = (AV.fn 50 (.cons (roP 901 p.b p.cell 2) .nil)).val := by
        rw [fn_val, fn_val]
        show Value.func _ _ #[(AV.ptr p).val] = Value.func _ _ #[(roP 901 p.b p.cell 2).val]
        rw [pt_ro p 901 2]
      rcases comeIn_ro (cap := pc) hS hsx hq with ⟨base, hv, hro⟩ | ⟨rfl, rfl⟩
      · have hro : (roB base 3 pn (pstE l)).holds w := hro
        rw [show [.v (.slice pa pn pc), AV.fn 50 (.cons (.ptr p) .nil)].map AV.val = [roS 900 base 3 pn pc, AV.fn 50 (.cons (roP 901 p.b p.cell 2) .nil)].map AV.val by simp only [List.map_cons, List.map_nil, hf, roS_val, AV.val_v, hv]]
        refine ro_fn tabs2 ctHt_ok (cr := []) trivial Tryz.func49 rfl rfl (M := [(900, roB base 3 pn (pstE l)), (901, roB (some (p.b, p.cell)) 2 1 fun _ => .agg (.cons (.v (.int .u64 x)) (.cons (.v (.int .u64 y)) .nil)))]) rfl ⟨roB_noOwn, roB_noOwn, trivial⟩ ⟨hro, roB_holds fun _ => ⟨_, _, rfl, hR⟩, trivial⟩ ?_
        repeat (first | refine s_seq ?_ | refine s_region ?_ | refine o_nil ?_ | refine d_nil ?_ | refine oA rfl rfl trivial ?_ | refine oB rfl rfl rfl (fun _ _ => ?_) | refine oC rfl rfl rfl trivial ?_ | refine dA rfl rfl trivial ?_ | refine dB rfl rfl rfl (fun _ _ => ?_) | refine dC rfl rfl rfl trivial ?_ | refine s_skip ?_ | refine s_block ?_ | refine s_exit ?_ | refine s_label ?_)
        refine s_loopW (α := Nat) [5, 8, 9, 10, 11, 12, 13, 14, 15, 16, 17, 18] [] (fun k => k ≤ pn ∧ ∀ j, j < k → ((l.map (·.h)).getD j 0 == x) = false) (fun k => [(8, none, .v (.int .i64 k))]) (fun _ => []) (fun k => pn - k) 0 ⟨Nat.zero_le _, fun j hj => absurd hj (Nat.not_lt_zero j)⟩ ?_ ?_
        · (refine Le.of ?leT ?leM (by first | exact dfs_nil rfl rfl | exact rfl); (case leT => repeat (first | exact trivial | refine And.intro (by first | exact rfl | (show some (none, AV.v (.int .i64 (IntKind.i64.wrap _))) = _; rw [wi64 (by omega) (by omega)]; rfl)) ?_)); (case leM => repeat (first | exact trivial | refine And.intro ⟨_, rfl, Blk.le_refl _⟩ ?_)))
        · intro k ⟨hk, hno⟩
          repeat (first | refine s_seq ?_ | refine s_region ?_ | refine o_nil ?_ | refine d_nil ?_ | refine oA rfl rfl trivial ?_ | refine oB rfl rfl rfl (fun _ _ => ?_) | refine oC rfl rfl rfl trivial ?_ | refine dA rfl rfl trivial ?_ | refine dB rfl rfl rfl (fun _ _ => ?_) | refine dC rfl rfl rfl trivial ?_ | refine s_skip ?_ | refine s_block ?_ | refine s_exit ?_ | refine s_label ?_)
          refine s_cond (b := decide ((k : Int) < (pn : Int))) rfl (fun hb2 => ?_) (fun hb2 => ?_)
          · have hk8 : k < pn := by have := of_decide_eq_true hb2; omega
            repeat (first | refine s_seq ?_ | refine s_region ?_ | refine o_nil ?_ | refine d_nil ?_ | refine oA rfl rfl trivial ?_ | refine oB rfl rfl rfl (fun _ _ => ?_) | refine oC rfl rfl rfl trivial ?_ | refine dA rfl rfl trivial ?_ | refine dB rfl rfl rfl (fun _ _ => ?_) | refine dC rfl rfl rfl trivial ?_ | refine s_skip ?_ | refine s_block ?_ | refine s_exit ?_ | refine s_label ?_)
            refine s_cond (b := ((l.getD k default).h == x)) rfl (fun h9 => ?_) (fun h9 => ?_)
            · repeat (first | refine s_seq ?_ | refine s_region ?_ | refine o_nil ?_ | refine d_nil ?_ | refine oA rfl rfl trivial ?_ | refine oB rfl rfl rfl (fun _ _ => ?_) | refine oC rfl rfl rfl trivial ?_ | refine dA rfl rfl trivial ?_ | refine dB rfl rfl rfl (fun _ _ => ?_) | refine dC rfl rfl rfl trivial ?_ | refine s_skip ?_ | refine s_block ?_ | refine s_exit ?_ | refine s_label ?_)
              refine s_ret ?_
              refine ⟨_, _, rfl, ⟨trivial, trivial⟩, rfl, ?_⟩
              rw [numIx_at (k := k) (by rw [List.length_map, hl]; exact hk8) hno (by rw [pst_get]; exact h9), Nat.zero_add]
              rfl
            · repeat (first | refine s_seq ?_ | refine s_region ?_ | refine o_nil ?_ | refine d_nil ?_ | refine oA rfl rfl trivial ?_ | refine oB rfl rfl rfl (fun _ _ => ?_) | refine oC rfl rfl rfl trivial ?_ | refine dA rfl rfl trivial ?_ | refine dB rfl rfl rfl (fun _ _ => ?_) | refine dC rfl rfl rfl trivial ?_ | refine s_skip ?_ | refine s_block ?_ | refine s_exit ?_ | refine s_label ?_)
              refine ⟨k + 1, ⟨by omega, fun j hj => ?_⟩, by omega, ?_⟩
              · rcases Nat.lt_or_ge j k with h1 | h1
                · exact hno j h1
                · rw [show j = k by omega, pst_get]; exact h9
              · (refine Le.of ?leT ?leM (by first | exact dfs_nil rfl rfl | exact rfl); (case leT => repeat (first | exact trivial | refine And.intro (by first | exact rfl | (show some (none, AV.v (.int .i64 (IntKind.i64.wrap _))) = _; rw [wi64 (by omega) (by omega)]; rfl)) ?_)); (case leM => repeat (first | exact trivial | refine And.intro ⟨_, rfl, Blk.le_refl _⟩ ?_)))
          · have hk8 : k = pn := by have := of_decide_eq_false hb2; omega
            repeat (first | refine s_seq ?_ | refine s_region ?_ | refine o_nil ?_ | refine d_nil ?_ | refine oA rfl rfl trivial ?_ | refine oB rfl rfl rfl (fun _ _ => ?_) | refine oC rfl rfl rfl trivial ?_ | refine dA rfl rfl trivial ?_ | refine dB rfl rfl rfl (fun _ _ => ?_) | refine dC rfl rfl rfl trivial ?_ | refine s_skip ?_ | refine s_block ?_ | refine s_exit ?_ | refine s_label ?_)
            refine s_ret ?_
            refine ⟨_, _, rfl, ⟨trivial, trivial⟩, rfl, ?_⟩
            rw [numIx_no (by rw [List.length_map, hl, ← hk8]; exact hno)]
            rfl
      · rw [show [.v (.slice pa 0 pc), AV.fn 50 (.cons (.ptr p) .nil)].map AV.val = [.v (.slice pa 0 pc), AV.fn 50 (.cons (roP 901 p.b p.cell 2) .nil)].map AV.val by simp only [List.map_cons, List.map_nil, hf]]
        refine ro_fn tabs2 ctHt_ok (cr := []) trivial Tryz.func49 rfl rfl (M := [(901, roB (some (p.b, p.cell)) 2 1 fun _ => .agg (.cons (.v (.int .u64 x)) (.cons (.v (.int .u64 y)) .nil)))]) rfl ⟨roB_noOwn, trivial⟩ ⟨roB_holds fun _ => ⟨_, _, rfl, hR⟩, trivial⟩ ?_
        repeat (first | refine s_seq ?_ | refine s_region ?_ | refine o_nil ?_ | refine d_nil ?_ | refine oA rfl rfl trivial ?_ | refine oB rfl rfl rfl (fun _ _ => ?_) | refine oC rfl rfl rfl trivial ?_ | refine dA rfl rfl trivial ?_ | refine dB rfl rfl rfl (fun _ _ => ?_) | refine dC rfl rfl rfl trivial ?_ | refine s_skip ?_ | refine s_block ?_ | refine s_exit ?_ | refine s_label ?_)
        refine s_loopW (α := Unit) [5, 8, 9, 10, 11, 12, 13, 14, 15, 16, 17, 18] [] (fun _ => True) (fun _ => [(8, none, .v (.int .i64 0))]) (fun _ => []) (fun _ => 0) () trivial ?_ ?_
        · (refine Le.of ?leT ?leM (by first | exact dfs_nil rfl rfl | exact rfl); (case leT => repeat (first | exact trivial | refine And.intro (by first | exact rfl | (show some (none, AV.v (.int .i64 (IntKind.i64.wrap _))) = _; rw [wi64 (by omega) (by omega)]; rfl)) ?_)); (case leM => repeat (first | exact trivial | refine And.intro ⟨_, rfl, Blk.le_refl _⟩ ?_)))
        · intro _ _
          repeat (first | refine s_seq ?_ | refine s_region ?_ | refine o_nil ?_ | refine d_nil ?_ | refine oA rfl rfl trivial ?_ | refine oB rfl rfl rfl (fun _ _ => ?_) | refine oC rfl rfl rfl trivial ?_ | refine dA rfl rfl trivial ?_ | refine dB rfl rfl rfl (fun _ _ => ?_) | refine dC rfl rfl rfl trivial ?_ | refine s_skip ?_ | refine s_block ?_ | refine s_exit ?_ | refine s_label ?_)
          refine s_cond (b := false) rfl (fun hb => by cases hb) (fun _ => ?_)
          repeat (first | refine s_seq ?_ | refine s_region ?_ | refine o_nil ?_ | refine d_nil ?_ | refine oA rfl rfl trivial ?_ | refine oB rfl rfl rfl (fun _ _ => ?_) | refine oC rfl rfl rfl trivial ?_ | refine dA rfl rfl trivial ?_ | refine dB rfl rfl rfl (fun _ _ => ?_) | refine dC rfl rfl rfl trivial ?_ | refine s_skip ?_ | refine s_block ?_ | refine s_exit ?_ | refine s_label ?_)
          refine s_ret ?_
          exact ⟨_, _, rfl, ⟨trivial, trivial⟩, rfl, rfl⟩
    · cases h0
  · cases h0
set_option maxRecDepth 100000 in
theorem ixP_body : HasBody Tryz.prog 49 := ⟨_, Tryz.func49, rfl, by decide⟩

end Go.Proofs.YtofophjfgalhaaaGreatDoor.V
/-! The document's past. -/
namespace Go.Proofs.YtofophjfgalhaaaGreatDoor.V
open Go Go.RowKit

/-! ### the document's past -/
theorem encSP_val (s : StV) {X : AV} (hx : X.cells = [X.val]) (hv : X.val = .slice s.a3 s.n3 s.c3) : (encS s).cells = (encSP s X).cells := by
  simp only [encS, encSP, AV.cells_agg, AV.cells_cons, hx, hv]
  rfl
theorem roS_cells (n : Nat) (base : Option (Nat × Nat)) (es len cap : Nat) : (roS n base es len cap).cells = [(roS n base es len cap).val] := rfl
end Go.Proofs.YtofophjfgalhaaaGreatDoor.V
/-! Whether a height counts; whether an offence was punished. -/
namespace Go.Proofs.YtofophjfgalhaaaGreatDoor.V
open Go Go.RowKit

def cntF (s : StV) (h : Int) : Bool := (decide (h ≥ 1) && decide (h ≤ s.h)) && decide (IntKind.u64.wrap (s.h - h) < s.p4)
def cntC (args : List AV) (_M : MemF) : Option (Prop × AV) := match args with
  | [S, .v (.int .u64 h)] => match decS S with
    | some s => some (True, .v (.bool (cntF s h)))
    | none => none
  | _ => none
set_option maxRecDepth 100000 in
theorem cnt_read : ReadFn Tryz.prog 51 cntC := by
  intro args M q res h0 hq O w0 w hS
  unfold cntC at h0
  split at h0
  · rename_i S h
    split at h0
    · rename_i s hs
      have hs := decS_enc hs
      subst hs
      cases h0
      refine ro_fn tabs2 (ct := []) trivial (cr := []) trivial Tryz.func51 rfl rfl (M := []) rfl trivial trivial ?_
      repeat (first | refine s_seq ?_ | refine s_region ?_ | refine o_nil ?_ | refine d_nil ?_ | refine oA rfl rfl trivial ?_ | refine oB rfl rfl rfl (fun _ _ => ?_) | refine oC rfl rfl rfl trivial ?_ | refine dA rfl rfl trivial ?_ | refine dB rfl rfl rfl (fun _ _ => ?_) | refine dC rfl rfl rfl trivial ?_ | refine s_skip ?_ | refine s_block ?_ | refine s_exit ?_ | refine s_label ?_)
      refine s_ret ?_
      exact ⟨_, _, rfl, ⟨trivial, trivial⟩, rfl, rfl⟩
    · cases h0
  · cases h0
set_option maxRecDepth 100000 in
theorem cnt_body : HasBody Tryz.prog 51 := ⟨_, Tryz.func51, rfl, by decide⟩
/-! ### done -/
def doneC (args : List AV) (M : MemF) : Option (Prop × AV) := match args with
  | [S, .agg (.cons (.v (.int .u64 h)) (.cons (.v (.int .u64 a)) .nil))] => match decS S with
    | some s => match comeIn M 90002 2 off1 offX s.a4 s.n4 with
      | some (c, l) => some (c, .v (.bool (decide (offIx (h, a) l 0 ≥ 0))))
      | none => none
    | none => none
  | _ => none
def ctCn : CtL := [(108, contC)]
set_option maxRecDepth 100000 in
theorem ctCn_ok : CtLOk Tryz.prog ctCn := ⟨CallsOk.fn cont_body cont_read, trivial⟩
theorem comeIn_entry {M : MemF} {tag es : Nat} {α : Type} {dec : AV → α} {enc : α → AV} {a : Option Addr} {n : Nat} {c : Prop} {l : List α} (h : comeIn M tag es dec enc a n = some (c, l)) : ∃ es' base len f, M tag = some (.vro es' base len f) ∧ ∀ M' : MemF, M' tag = some (.vro es' base len f) → comeIn M' tag es dec enc a n = some (c, l) := by
  unfold comeIn at h
  split at h
  · rename_i es' base len f hM
    refine ⟨es', base, len, f, hM, fun M' hM' => ?_⟩
    unfold comeIn
    rw [hM']
    exact h
  · cases h
set_option maxRecDepth 100000 in
theorem done_read : ReadFn Tryz.prog 53 doneC := by
  intro args M q res h0 hq O w0 w hS
  unfold doneC at h0
  split at h0
  · rename_i S h a
    split at h0
    · rename_i s hs
      have hs := decS_enc hs
      subst hs
      split at h0
      · rename_i c l hsx
        cases h0
        obtain ⟨es', base, len, f, hM, hal⟩ := comeIn_entry hsx
        have hh := hS.holds _ _ hM
        unfold comeIn at hsx
        rw [hM] at hsx
        cases hsx
        refine ro_fn tabs2 ctCn_ok (cr := []) trivial Tryz.func53 rfl rfl (M := [(90002, .vro es' base len f)]) rfl ⟨fun _ h => h, trivial⟩ ⟨hh, trivial⟩ ?_
        repeat (first | refine s_seq ?_ | refine s_region ?_ | refine o_nil ?_ | refine d_nil ?_ | refine oA rfl rfl trivial ?_ | refine oB rfl rfl rfl (fun _ _ => ?_) | refine oC rfl rfl rfl trivial ?_ | refine dA rfl rfl trivial ?_ | refine dB rfl rfl rfl (fun _ _ => ?_) | refine dC rfl rfl rfl trivial ?_ | refine s_skip ?_ | refine s_block ?_ | refine s_exit ?_ | refine s_label ?_)
        refine o_val rfl rfl trivial ⟨?_, hq⟩ ?_
        · (repeat' (first | trivial | apply And.intro))
        repeat (first | refine s_seq ?_ | refine s_region ?_ | refine o_nil ?_ | refine d_nil ?_ | refine oA rfl rfl trivial ?_ | refine oB rfl rfl rfl (fun _ _ => ?_) | refine oC rfl rfl rfl trivial ?_ | refine dA rfl rfl trivial ?_ | refine dB rfl rfl rfl (fun _ _ => ?_) | refine dC rfl rfl rfl trivial ?_ | refine s_skip ?_ | refine s_block ?_ | refine s_exit ?_ | refine s_label ?_)
        refine s_ret ?_
        exact ⟨_, _, rfl, ⟨trivial, trivial⟩, rfl, rfl⟩
      · cases h0
    · cases h0
  · cases h0
set_option maxRecDepth 100000 in
theorem done_body : HasBody Tryz.prog 53 := ⟨_, Tryz.func53, rfl, by decide⟩
end Go.Proofs.YtofophjfgalhaaaGreatDoor.V
