import Derived.Test.YtofophjfgalhaaaGreatDoorMisdeedPoolsW15
import Derived.Test.YtofophjfgalhaaaGreatDoorMisdeedPoolsW17
import Derived.Test.YtofophjfgalhaaaGreatDoorMisdeedPoolsW32
import Derived.Test.YtofophjfgalhaaaGreatDoorMisdeedPoolsW34
set_option linter.unusedVariables false
set_option linter.unusedSimpArgs false
set_option maxRecDepth 100000
set_option maxHeartbeats 8000000
namespace Go.Proofs.YtofophjfgalhaaaGreatDoor.V
open Go Go.RowKit
def hit3C (args : List AV) (M : MemF) : Option (Prop × AV) := match args with
 | [.agg (.cons (.v (.int .u64 h)) (.cons (.v (.int .u64 t)) (.cons (.agg (.cons (.v (.slice a n c)) .nil)) .nil))), .ptr p] => match ptrOf M p true 2 with
  | some (q, .agg (.cons (.v (.int .u64 x)) (.cons (.v (.int .u64 y)) .nil))) => some (q, .v (.bool (h == x)))
  | _ => none
 | _ => none
theorem hit3_read : ReadFn Tryz.prog 103 hit3C := by
 intro args M q res h hq O w0 w hS
 unfold hit3C at h
 split at h
 ·
  rename_i h1 t a n c p
  split at h
  ·
   rename_i q x y hp
   cases h
   have hR := ptrOf_spec (g := true) hS hp hq
   rw [show [.agg (.cons (.v (.int .u64 h1)) (.cons (.v (.int .u64 t)) (.cons (.agg (.cons (.v (.slice a n c)) .nil)) .nil))), AV.ptr p].map AV.val = [.agg (.cons (.v (.int .u64 h1)) (.cons (.v (.int .u64 t)) (.cons (.agg (.cons (.v (.slice a n c)) .nil)) .nil))), roP 900 p.b p.cell 2].map AV.val by simp only [List.map_cons, List.map_nil, pt_ro p 900 2]]
   refine ro_fn tabs2 (ct := []) trivial (cr := []) trivial Tryz.func103 rfl rfl (M := [(900, roB (some (p.b, p.cell)) 2 1 fun _ => .agg (.cons (.v (.int .u64 x)) (.cons (.v (.int .u64 y)) .nil)))]) rfl ⟨roB_noOwn, trivial⟩ ⟨roB_holds fun _ => ⟨_, _, rfl, hR⟩, trivial⟩ ?_
   repeat (first | refine qs_ ?_ | refine qa_ ?_ | refine qo_ ?_ | refine qd_ ?_ | refine za ?_ | refine zb fun _ _ => ?_ | refine zc ?_ | refine ya ?_ | refine yb fun _ _ => ?_ | refine yc ?_ | refine qk_ ?_ | refine qb_ ?_ | refine qx_ ?_)
   refine s_ret ?_
   exact ⟨_, _, rfl, ⟨trivial, trivial⟩, rfl, rfl⟩
  ·
   cases h
 ·
  cases h
theorem hit3_body : HasBody Tryz.prog 103 := ⟨_, Tryz.func103, rfl, by decide⟩
def ixP3C (args : List AV) (M : MemF) : Option (Prop × AV) := match args with
 | [.v (.slice a n _), .fn 103 (.cons (.ptr p) .nil)] => match pstV M a n, ptrOf M p true 2 with
  | some (c, l), some (c2, .agg (.cons (.v (.int .u64 x)) (.cons (.v (.int .u64 _)) .nil))) => some (c ∧ c2, .v (.int .i64 (numIx x (l.map (·.h)) 0)))
  | _, _ => none
 | _ => none
def ctHt3 : CtL := [(103, hit3C)]
theorem ctHt3_ok : CtLOk Tryz.prog ctHt3 := ⟨CallsOk.fn hit3_body hit3_read, trivial⟩
theorem ixP3_read : ReadFn Tryz.prog 49 ixP3C := by
 intro args M q res h0 hq O w0 w hS
 unfold ixP3C at h0
 split at h0
 ·
  rename_i pa pn pc p
  split at h0
  ·
   rename_i c l c2 x y hsx hp
   cases h0
   obtain ⟨hq, hq2⟩ := hq
   have hR := ptrOf_spec (g := true) hS hp hq2
   obtain ⟨hn, hl, _⟩ := comeIn_spec hsx hq
   have hf : (AV.fn 103 (.cons (.ptr p) .nil)).val = (AV.fn 103 (.cons (roP 901 p.b p.cell 2) .nil)).val := by
    rw [fn_val, fn_val]
    show Value.func _ _ #[(AV.ptr p).val] = Value.func _ _ #[(roP 901 p.b p.cell 2).val]
    rw [pt_ro p 901 2]
   rcases comeIn_ro (cap := pc) hS hsx hq with ⟨base, hv, hro⟩ | ⟨rfl, rfl⟩
   ·
    have hro : (roB base 3 pn (pstE l)).holds w := hro
    rw [show [.v (.slice pa pn pc), AV.fn 103 (.cons (.ptr p) .nil)].map AV.val = [roS 900 base 3 pn pc, AV.fn 103 (.cons (roP 901 p.b p.cell 2) .nil)].map AV.val by simp only [List.map_cons, List.map_nil, hf, roS_val, AV.val_v, hv]]
    refine ro_fn tabs2 ctHt3_ok (cr := []) trivial Tryz.func49 rfl rfl (M := [(900, roB base 3 pn (pstE l)), (901, roB (some (p.b, p.cell)) 2 1 fun _ => .agg (.cons (.v (.int .u64 x)) (.cons (.v (.int .u64 y)) .nil)))]) rfl ⟨roB_noOwn, roB_noOwn, trivial⟩ ⟨hro, roB_holds fun _ => ⟨_, _, rfl, hR⟩, trivial⟩ ?_
    repeat (first | refine qs_ ?_ | refine qa_ ?_ | refine qo_ ?_ | refine qd_ ?_ | refine za ?_ | refine zb fun _ _ => ?_ | refine zc ?_ | refine ya ?_ | refine yb fun _ _ => ?_ | refine yc ?_ | refine qk_ ?_ | refine qb_ ?_ | refine qx_ ?_)
    refine s_loopW (α := Nat) [5, 8, 9, 10, 11, 12, 13, 14, 15, 16, 17, 18] [] (fun k => k ≤ pn ∧ ∀ j, j < k → ((l.map (·.h)).getD j 0 == x) = false) (fun k => [(8, none, .v (.int .i64 k))]) (fun _ => []) (fun k => pn - k) 0 ⟨Nat.zero_le _, fun j hj => absurd hj (Nat.not_lt_zero j)⟩ ?_ ?_
    ·
     exact leQ
    ·
     intro k ⟨hk, hno⟩
     repeat (first | refine qs_ ?_ | refine qa_ ?_ | refine qo_ ?_ | refine qd_ ?_ | refine za ?_ | refine zb fun _ _ => ?_ | refine zc ?_ | refine ya ?_ | refine yb fun _ _ => ?_ | refine yc ?_ | refine qk_ ?_ | refine qb_ ?_ | refine qx_ ?_)
     refine s_cond (b := decide ((k : Int) < (pn : Int))) rfl (fun hb2 => ?_) (fun hb2 => ?_)
     ·
      have hk8 : k < pn := by have := of_decide_eq_true hb2; omega
      repeat (first | refine qs_ ?_ | refine qa_ ?_ | refine qo_ ?_ | refine qd_ ?_ | refine za ?_ | refine zb fun _ _ => ?_ | refine zc ?_ | refine ya ?_ | refine yb fun _ _ => ?_ | refine yc ?_ | refine qk_ ?_ | refine qb_ ?_ | refine qx_ ?_)
      refine s_cond (b := ((l.getD k default).h == x)) rfl (fun h9 => ?_) (fun h9 => ?_)
      ·
       repeat (first | refine qs_ ?_ | refine qa_ ?_ | refine qo_ ?_ | refine qd_ ?_ | refine za ?_ | refine zb fun _ _ => ?_ | refine zc ?_ | refine ya ?_ | refine yb fun _ _ => ?_ | refine yc ?_ | refine qk_ ?_ | refine qb_ ?_ | refine qx_ ?_)
       refine s_ret ?_
       refine ⟨_, _, rfl, ⟨trivial, trivial⟩, rfl, ?_⟩
       rw [numIx_at (k := k) (by rw [List.length_map, hl]; exact hk8) hno (by rw [pst_get]; exact h9), Nat.zero_add]
       rfl
      ·
       repeat (first | refine qs_ ?_ | refine qa_ ?_ | refine qo_ ?_ | refine qd_ ?_ | refine za ?_ | refine zb fun _ _ => ?_ | refine zc ?_ | refine ya ?_ | refine yb fun _ _ => ?_ | refine yc ?_ | refine qk_ ?_ | refine qb_ ?_ | refine qx_ ?_)
       refine ⟨k + 1, ⟨by omega, fun j hj => ?_⟩, by omega, ?_⟩
       ·
        rcases Nat.lt_or_ge j k with h1 | h1
        ·
         exact hno j h1
        ·
         rw [show j = k by omega, pst_get]; exact h9
       ·
        exact leQ
     ·
      have hk8 : k = pn := by have := of_decide_eq_false hb2; omega
      repeat (first | refine qs_ ?_ | refine qa_ ?_ | refine qo_ ?_ | refine qd_ ?_ | refine za ?_ | refine zb fun _ _ => ?_ | refine zc ?_ | refine ya ?_ | refine yb fun _ _ => ?_ | refine yc ?_ | refine qk_ ?_ | refine qb_ ?_ | refine qx_ ?_)
      refine s_ret ?_
      refine ⟨_, _, rfl, ⟨trivial, trivial⟩, rfl, ?_⟩
      rw [numIx_no (by rw [List.length_map, hl, ← hk8]; exact hno)]
      rfl
   ·
    rw [show [.v (.slice pa 0 pc), AV.fn 103 (.cons (.ptr p) .nil)].map AV.val = [.v (.slice pa 0 pc), AV.fn 103 (.cons (roP 901 p.b p.cell 2) .nil)].map AV.val by simp only [List.map_cons, List.map_nil, hf]]
    refine ro_fn tabs2 ctHt3_ok (cr := []) trivial Tryz.func49 rfl rfl (M := [(901, roB (some (p.b, p.cell)) 2 1 fun _ => .agg (.cons (.v (.int .u64 x)) (.cons (.v (.int .u64 y)) .nil)))]) rfl ⟨roB_noOwn, trivial⟩ ⟨roB_holds fun _ => ⟨_, _, rfl, hR⟩, trivial⟩ ?_
    repeat (first | refine qs_ ?_ | refine qa_ ?_ | refine qo_ ?_ | refine qd_ ?_ | refine za ?_ | refine zb fun _ _ => ?_ | refine zc ?_ | refine ya ?_ | refine yb fun _ _ => ?_ | refine yc ?_ | refine qk_ ?_ | refine qb_ ?_ | refine qx_ ?_)
    refine s_loopW (α := Unit) [5, 8, 9, 10, 11, 12, 13, 14, 15, 16, 17, 18] [] (fun _ => True) (fun _ => [(8, none, .v (.int .i64 0))]) (fun _ => []) (fun _ => 0) () trivial ?_ ?_
    ·
     exact leQ
    ·
     intro _ _
     repeat (first | refine qs_ ?_ | refine qa_ ?_ | refine qo_ ?_ | refine qd_ ?_ | refine za ?_ | refine zb fun _ _ => ?_ | refine zc ?_ | refine ya ?_ | refine yb fun _ _ => ?_ | refine yc ?_ | refine qk_ ?_ | refine qb_ ?_ | refine qx_ ?_)
     refine s_cond (b := false) rfl (fun hb => by cases hb) (fun _ => ?_)
     repeat (first | refine qs_ ?_ | refine qa_ ?_ | refine qo_ ?_ | refine qd_ ?_ | refine za ?_ | refine zb fun _ _ => ?_ | refine zc ?_ | refine ya ?_ | refine yb fun _ _ => ?_ | refine yc ?_ | refine qk_ ?_ | refine qb_ ?_ | refine qx_ ?_)
     refine s_ret ?_
     exact ⟨_, _, rfl, ⟨trivial, trivial⟩, rfl, rfl⟩
  ·
   cases h0
 ·
  cases h0
theorem ixP3_body : HasBody Tryz.prog 49 := ⟨_, Tryz.func49, rfl, by decide⟩
def cfC (args : List AV) (M : MemF) : Option (Prop × AV) := match args with
 | [.v (.slice a n _), .fn 103 (.cons (.ptr p) .nil)] => match pstV M a n, ptrOf M p true 2 with
  | some (c, l), some (c2, .agg (.cons (.v (.int .u64 x)) (.cons (.v (.int .u64 _)) .nil))) => some (c ∧ c2, .v (.bool (decide (numIx x (l.map (·.h)) 0 ≥ 0))))
  | _, _ => none
 | _ => none
def ctCf : CtL := [(49, ixP3C)]
theorem ctCf_ok : CtLOk Tryz.prog ctCf := ⟨.fn ixP3_body ixP3_read, trivial⟩
theorem cf_read : ReadFn Tryz.prog 102 cfC := by
 intro args M q res h0 hq O w0 w hS
 unfold cfC at h0
 split at h0
 ·
  rename_i pa pn pc p
  split at h0
  ·
   rename_i c l c2 x y hsx hp
   cases h0
   obtain ⟨hq, hq2⟩ := hq
   have hR := ptrOf_spec (g := true) hS hp hq2
   obtain ⟨es1, base1, len1, f1, hM1, _⟩ := comeIn_entry hsx
   have hf : (AV.fn 103 (.cons (.ptr p) .nil)).val = (AV.fn 103 (.cons (roP 901 p.b p.cell 2) .nil)).val := by
    rw [fn_val, fn_val]
    show Value.func _ _ #[(AV.ptr p).val] = Value.func _ _ #[(roP 901 p.b p.cell 2).val]
    rw [pt_ro p 901 2]
   unfold pstV comeIn at hsx
   rw [hM1] at hsx
   cases hsx
   rw [show [.v (.slice pa pn pc), AV.fn 103 (.cons (.ptr p) .nil)].map AV.val = [.v (.slice pa pn pc), AV.fn 103 (.cons (roP 901 p.b p.cell 2) .nil)].map AV.val by simp only [List.map_cons, List.map_nil, hf]]
   refine ro_fn tabs2 ctCf_ok (cr := []) trivial Tryz.func102 rfl rfl (M := [(90001, .vro es1 base1 len1 f1), (901, roB (some (p.b, p.cell)) 2 1 fun _ => .agg (.cons (.v (.int .u64 x)) (.cons (.v (.int .u64 y)) .nil)))]) rfl ⟨fun _ h => h, roB_noOwn, trivial⟩ ⟨hS.holds _ _ hM1, roB_holds fun _ => ⟨_, _, rfl, hR⟩, trivial⟩ ?_
   repeat (first | refine qs_ ?_ | refine qa_ ?_ | refine qo_ ?_ | refine qd_ ?_ | refine za ?_ | refine zb fun _ _ => ?_ | refine zc ?_ | refine ya ?_ | refine yb fun _ _ => ?_ | refine yc ?_ | refine qk_ ?_ | refine qb_ ?_ | refine qx_ ?_)
   refine o_val rfl rfl trivial ⟨?h1, ?h2⟩ ?_
   case h1 => repeat' (first | trivial | apply And.intro)
   case h2 => exact ⟨hq, by (repeat' (first | trivial | rfl | exact Nat.zero_lt_one | apply And.intro))⟩
   repeat (first | refine qs_ ?_ | refine qa_ ?_ | refine qo_ ?_ | refine qd_ ?_ | refine za ?_ | refine zb fun _ _ => ?_ | refine zc ?_ | refine ya ?_ | refine yb fun _ _ => ?_ | refine yc ?_ | refine qk_ ?_ | refine qb_ ?_ | refine qx_ ?_)
   refine s_ret ?_
   exact ⟨_, _, rfl, ⟨trivial, trivial⟩, rfl, rfl⟩
  ·
   cases h0
 ·
  cases h0
theorem cf_body : HasBody Tryz.prog 102 := ⟨_, Tryz.func102, rfl, by decide⟩
def keyN (q : PEv) : Int × Int := (q.h, q.f)
def delK (pl : List PEv) (h f : Int) : List PEv := pl.filter fun q => !(h == q.h && f == q.f)
theorem delK_no {pl : List PEv} {h f : Int} (hn : hasP pl h f = false) : delK pl h f = pl := by
 unfold delK
 refine List.filter_eq_self.2 fun q hq => ?_
 have h1 := List.any_eq_false.1 hn q hq
 rw [Bool.not_eq_true] at h1
 rw [h1]; rfl
theorem erase_map {α β : Type} (g : α → β) : ∀ (l : List α) (i : Nat), (l.eraseIdx i).map g = (l.map g).eraseIdx i
 | [], _ => rfl
 | _ :: _, 0 => rfl
 | a :: l, i + 1 => by rw [List.eraseIdx_cons_succ, List.map_cons, List.map_cons, List.eraseIdx_cons_succ, erase_map g l i]
theorem find_del_yes {h f : Int} : ∀ {pl : List PEv} (i : Nat), (pl.map keyN).Nodup → hasP pl h f = true → ∃ j e, mfind tabs2.tb tabs2.eqs 155 (keyP h f) (pl.map encP) i = some (some (i + j, e)) ∧ pl.eraseIdx j = delK pl h f
 | [], _, _, h0 => by cases h0
 | q :: r, i, hnd, h0 => by
  rw [List.map_cons, List.nodup_cons] at hnd
  show ∃ j e, mfind tabs2.tb tabs2.eqs 155 (keyP h f) ((keyP q.h q.f, encE q.e, q.st) :: r.map encP) i = _ ∧ _
  simp only [mfind, key_eq]
  by_cases hq : (h == q.h && f == q.f) = true
  ·
   rw [hq]
   refine ⟨0, encE q.e, rfl, ?_⟩
   have hr : hasP r h f = false := by
    unfold hasP
    refine List.any_eq_false.2 fun x hx hx2 => hnd.1 ?_
    simp only [Bool.and_eq_true, beq_iff_eq] at hq hx2
    have : keyN x = keyN q := by unfold keyN; rw [← hq.1, ← hq.2, hx2.1, hx2.2]
    rw [← this]
    exact List.mem_map_of_mem hx
   show r = _
   unfold delK
   rw [List.filter_cons_of_neg (by rw [hq]; decide)]
   exact (delK_no hr).symm
  ·
   rw [Bool.not_eq_true] at hq
   rw [hq]
   have h1 : hasP r h f = true := by
    unfold hasP at h0 ⊢
    rw [List.any_cons, hq, Bool.false_or] at h0
    exact h0
   obtain ⟨j, e, h2, h3⟩ := find_del_yes (i + 1) hnd.2 h1
   refine ⟨j + 1, e, by rw [show i + (j + 1) = i + 1 + j by omega]; exact h2, ?_⟩
   rw [List.eraseIdx_cons_succ, h3]
   unfold delK
   rw [List.filter_cons_of_pos (by rw [hq]; rfl)]
theorem find_del {pl : List PEv} (hnd : (pl.map keyN).Nodup) (h f : Int) (b clk : Nat) : ∃ R, mfind tabs2.tb tabs2.eqs 155 (keyP h f) (pl.map encP) 0 = some R ∧ delMp R b (pl.map encP) clk = .mp true b ((delK pl h f).map encP) clk := by
 cases hP : hasP pl h f with
 | false => exact ⟨none, find_no hP, by rw [delK_no hP]; rfl⟩
 | true =>
  obtain ⟨j, e, h2, h3⟩ := find_del_yes 0 hnd hP
  refine ⟨_, h2, ?_⟩
  show Blk.mp true b ((pl.map encP).eraseIdx (0 + j)) clk = _
  rw [Nat.zero_add, ← h3]
  congr 1
  exact (erase_map encP pl j).symm
def goesP (s : StV) (l : List PstV) (pun : List (Int × Int)) (q : PEv) : Bool := (!(cntF s q.h) || decide (offIx (q.h, q.f) pun 0 ≥ 0)) || !(decide (numIx q.h (l.map (·.h)) 0 ≥ 0))
def staysP (G : PEv → Bool) (ss : List Nat) (pl : List PEv) : List PEv := pl.filter fun q => !(ss.contains q.st && G q)
theorem inj_of {α β : Type} {g : α → β} : ∀ {l : List α} {x y : α}, (l.map g).Nodup → x ∈ l → y ∈ l → g x = g y → x = y
 | [], _, _, _, h, _, _ => by cases h
 | a :: l, x, y, hn, hx, hy, e => by
  rw [List.map_cons, List.nodup_cons] at hn
  rcases List.mem_cons.1 hx with rfl | h1 <;> rcases List.mem_cons.1 hy with rfl | h2
  ·
   rfl
  ·
   exact absurd (by rw [e]; exact List.mem_map_of_mem h2) hn.1
  ·
   exact absurd (by rw [← e]; exact List.mem_map_of_mem h1) hn.1
  ·
   exact inj_of hn.2 h1 h2 e
theorem stays_add {G : PEv → Bool} {ss : List Nat} {pl : List PEv} {q : PEv} (hst : (pl.map (·.st)).Nodup) (hk : (pl.map keyN).Nodup) (hq : q ∈ pl) :
  staysP G (ss ++ [q.st]) pl = if G q = true then delK (staysP G ss pl) q.h q.f else staysP G ss pl := by
 have key : ∀ x, x ∈ pl → (x.st = q.st ↔ x = q) := fun x hx => ⟨fun e => inj_of hst hx hq e, fun e => by rw [e]⟩
 have key2 : ∀ x, x ∈ pl → ((q.h == x.h && q.f == x.f) = true ↔ x = q) := fun x hx => ⟨fun e => by
  simp only [Bool.and_eq_true, beq_iff_eq] at e
  exact inj_of hk hx hq (by unfold keyN; rw [e.1, e.2]), fun e => by rw [e]; simp⟩
 split
 ·
  rename_i hG
  unfold staysP delK
  rw [List.filter_filter]
  refine List.filter_congr fun x hx => ?_
  by_cases e : x = q
  ·
   subst e; simp [hG]
  ·
   have h1 : ¬ x.st = q.st := fun h => e ((key x hx).1 h)
   have h2 : (q.h == x.h && q.f == x.f) = false := by rw [Bool.eq_false_iff]; exact fun h => e ((key2 x hx).1 h)
   rw [h2]
   simp [h1]
 ·
  rename_i hG
  unfold staysP
  refine List.filter_congr fun x hx => ?_
  by_cases e : x = q
  ·
   subst e; simp [hG]
  ·
   have h1 : ¬ x.st = q.st := fun h => e ((key x hx).1 h)
   simp [h1]
theorem keys_nodup {w : World} {mine : Bool} {b clk : Nat} {pl : List PEv} (h : (Blk.mp mine b (pl.map encP) clk).holds w) : (pl.map keyN).Nodup := by
 obtain ⟨es, q1, q2, q3⟩ := mp_mem h
 have e : es.toList.map (·.key) = (pl.map keyN).map fun k => (keyP k.1 k.2).val := by
  have := congrArg (List.map (·.1)) q3
  rw [List.map_map, List.map_map, List.map_map] at this
  rw [List.map_map]
  exact this
 have h2 := q2.2.2
 rw [e] at h2
 exact (List.pairwise_map.1 h2).imp fun h e => h (by rw [e])
def stlP (G : PEv → Bool) (held : List (Vote × Vote)) (pl : List PEv) : List PEv := held.foldl (fun pl e => delK pl e.1.height e.1.from_) (pl.filter fun q => !(G q))
theorem stl_sub (G : PEv → Bool) (held : List (Vote × Vote)) (pl : List PEv) : (stlP G held pl).Sublist pl := by
 have key : ∀ (held : List (Vote × Vote)) (b : List PEv), (held.foldl (fun pl e => delK pl e.1.height e.1.from_) b).Sublist b := by
  intro held
  induction held with
  | nil => exact fun b => List.Sublist.refl _
  | cons e r ih => exact fun b => (ih _).trans List.filter_sublist
 exact (key held _).trans List.filter_sublist
theorem stl_succ (G : PEv → Bool) (pl : List PEv) {H : List (Vote × Vote)} {k : Nat} (h : k < H.length) : stlP G (H.take (k + 1)) pl = delK (stlP G (H.take k) pl) (H.getD k default).1.height (H.getD k default).1.from_ := by
 unfold stlP
 rw [List.take_succ_eq_append_getElem h, List.foldl_append, List.getD_eq_getElem?_getD, List.getElem?_eq_getElem h]
 rfl
theorem stays_none (G : PEv → Bool) (pl : List PEv) : staysP G [] pl = pl := List.filter_eq_self.2 fun _ _ => rfl
theorem stays_all {G : PEv → Bool} {ss : List Nat} {pl : List PEv} (h : ∀ q, q ∈ staysP G ss pl → q.st ∈ ss) : staysP G ss pl = pl.filter fun q => !(G q) := by
 unfold staysP at h ⊢
 refine List.filter_congr fun q hq => ?_
 cases hc : ss.contains q.st with
 | true => rfl
 | false =>
  have h1 := h q (List.mem_filter.2 ⟨hq, by rw [hc]; rfl⟩)
  rw [List.contains_iff_mem.2 h1] at hc
  cases hc
theorem filter_lt {α : Type} {p p' : α → Bool} {x : α} (hpp : ∀ y, p' y = true → p y = true) (h1 : p x = true) (h2 : p' x = false) : ∀ {l : List α}, x ∈ l → (l.filter p').length < (l.filter p).length := by
 have le : ∀ l : List α, (l.filter p').length ≤ (l.filter p).length := by
  intro l
  induction l with
  | nil => exact Nat.le_refl _
  | cons a l ih =>
   rw [List.filter_cons, List.filter_cons]
   cases e' : p' a with
   | true => rw [hpp a e']; simpa using ih
   | false => cases e : p a with
    | true => simp only [Bool.false_eq_true, if_false, if_true, List.length_cons]; omega
    | false => simpa using ih
 intro l
 induction l with
 | nil => intro h; cases h
 | cons a l ih =>
  intro h
  rw [List.filter_cons, List.filter_cons]
  rcases List.mem_cons.1 h with rfl | h
  ·
   rw [h1, h2]
   simp only [Bool.false_eq_true, if_false, if_true, List.length_cons]
   have := le l; omega
  ·
   have := ih h
   cases e' : p' a with
   | true => rw [hpp a e']; simpa using this
   | false => cases e : p a with
    | true => simp only [Bool.false_eq_true, if_false, if_true, List.length_cons]; omega
    | false => simpa using this
theorem meas_lt {ss : List Nat} {pl : List PEv} {q : PEv} (hq : q ∈ pl) (hn : q.st ∉ ss) : (pl.filter fun x => !((ss ++ [q.st]).contains x.st)).length < (pl.filter fun x => !(ss.contains x.st)).length :=
 filter_lt (x := q) (fun y hy => by simp at hy ⊢; exact hy.1) (by simpa using hn) (by simp) hq
def ctSt : CtL := [(96, pgoodC), (51, cntC), (53, doneC), (102, cfC), (48, pofC)]
theorem ctSt_ok : CtLOk Tryz.prog ctSt := ⟨.fn pgood_body pgood_read, .fn cnt_body cnt_read, .fn done_body done_read, .fn cf_body cf_read, .fn pof_body pof_read, trivial⟩
def settleC (_tag : Nat) (args : List AV) (M : MemF) : Option Res := match args with
 | [.ptr p, S, X] => match decS S, mpOf M p, seqOf M X with
  | some s, some (c0, n, bm, pl, clk), some (c3, es, m, fx) => match pstV M s.a3 s.n3, comeIn M 90002 2 off1 offX s.a4 s.n4 with
   | some (c1, l), some (c2, pun) => some ⟨Unit, (c0 ∧ p.n ≠ n) ∧ (c1 ∧ c2) ∧ c3 ∧ (m ≠ 0 → es = 106) ∧ tagNe n X = true ∧ m ≤ 1000000000 ∧ ∀ i, i < m → fx i = encE (decE (fx i)), fun _ => True, fun _ => .tup .nil, [n], fun _ => [.mp true bm ((stlP (goesP s l pun) ((List.range m).map fun i => decE (fx i)) pl).map encP) clk]⟩
   | _, _ => none
  | _, _, _ => none
 | _ => none
theorem settle_turn : TurnFn Tryz.prog 30 settleC := by
 intro tag args M r h0 hok O w0 w hS
 unfold settleC at h0
 split at h0
 ·
  rename_i p S X
  split at h0
  ·
   rename_i s c0 n bm pl clk c3 es m fx hs hmp hsx
   have hs := decS_enc hs
   subst hs
   split at h0
   ·
    rename_i c1 l c2 pun hpst hpun
    cases h0
    obtain ⟨⟨hc0, hn1⟩, ⟨hc1, hc2⟩, hc3, hes, htag, hm, hfx⟩ := hok
    obtain ⟨hMp, ⟨cp, Xp, hpp, hcp⟩, hrow⟩ := mpOf_spec hS hmp hc0
    have hst := mp_stamps (hS.holds _ _ hMp)
    have hkn := keys_nodup (hS.holds _ _ hMp)
    obtain ⟨es1, base1, len1, f1, hM1, _⟩ := comeIn_entry hpst
    obtain ⟨es2, base2, len2, f2, hM2, _⟩ := comeIn_entry hpun
    obtain ⟨base, cap, hvx, hrx⟩ := seqOf_spec hS hsx hc3
    obtain ⟨H, hH⟩ : ∃ H : List (Vote × Vote), H = (List.range m).map fun i => decE (fx i) := ⟨_, rfl⟩
    have hHl : H.length = m := by rw [hH]; simp
    have hro : (roB base 106 m fun i => encE (H.getD i default)).holds w := roB_holds fun h => by
     obtain ⟨b, o, h1, h2⟩ := hrx h
     rw [hes h] at h2
     refine ⟨b, o, h1, h2.congr fun i hi => ?_⟩
     rw [hfx i hi, hH, List.getD_eq_getElem?_getD, List.getElem?_map, List.getElem?_range hi]; rfl
    have hap : ∀ {k : Nat} {B : Blk}, M k = some B → ∀ j, B.reads j → ¬ (Blk.mp true bm (pl.map encP) clk).own j := fun hk j hr ho => hS.roapart _ _ _ _ _ hMp hk ho hr
    have hapx : ∀ j, (roB base 106 m fun i => encE (H.getD i default)).reads j → ¬ (Blk.mp true bm (pl.map encP) clk).own j := fun j hr ho => by
     obtain ⟨_, ix, o, hl, hb⟩ := hr
     have hl : 0 < m := hl
     exact seq_apart hS hsx hc3 (fun h => by rw [hes h]; decide) hMp htag hvx (by omega) hb ho
    rw [← hH]
    rw [show [.ptr p, encS s, X].map AV.val = [roP 902 p.b p.cell 1, encS s, roS 904 base 106 m cap].map AV.val by simp only [List.map_cons, List.map_nil, hvx, roS_val, pt_ro p 902 1]]
    refine turn_one tabs2 ctSt_ok (cr := []) trivial Tryz.func30 rfl rfl hS _ hMp (B1 := .mp true bm (pl.map encP) clk) [(902, roB (some (p.b, p.cell)) 1 1 fun _ => .agg (.cons (.mp 900 bm) .nil)), (904, roB base 106 m fun i => encE (H.getD i default)), (90001, .vro es1 base1 len1 f1), (90002, .vro es2 base2 len2 f2)] rfl rfl (hS.holds _ _ hMp) (fun _ h => h) (fun _ h => h) ⟨hrow, hro, hS.holds _ _ hM1, hS.holds _ _ hM2, trivial⟩ ⟨roB_noOwn, roB_noOwn, fun _ h => h, fun _ h => h, trivial⟩ ⟨ptr_apart hS hpp hcp (by decide) hMp hn1, hapx, hap hM1, hap hM2, trivial⟩ ?_
    unfold pstV comeIn at hpst
    rw [hM1] at hpst
    unfold comeIn at hpun
    rw [hM2] at hpun
    cases hpst
    cases hpun
    repeat (first | refine qs_ ?_ | refine qa_ ?_ | refine qo_ ?_ | refine qd_ ?_ | refine za ?_ | refine zb fun _ _ => ?_ | refine zc ?_ | refine ya ?_ | refine yb fun _ _ => ?_ | refine yc ?_ | refine qk_ ?_ | refine qb_ ?_ | refine qx_ ?_)
    refine s_cond (b := false) rfl (fun hb => by cases hb) (fun _ => ?_)
    repeat (first | refine qs_ ?_ | refine qa_ ?_ | refine qo_ ?_ | refine qd_ ?_ | refine za ?_ | refine zb fun _ _ => ?_ | refine zc ?_ | refine ya ?_ | refine yb fun _ _ => ?_ | refine yc ?_ | refine qk_ ?_ | refine qb_ ?_ | refine qx_ ?_)
    refine o_range rfl rfl rfl rfl rfl rfl rfl rfl rfl (fun z => ?_)
    repeat (first | refine qs_ ?_ | refine qa_ ?_ | refine qo_ ?_ | refine qd_ ?_ | refine za ?_ | refine zb fun _ _ => ?_ | refine zc ?_ | refine ya ?_ | refine yb fun _ _ => ?_ | refine yc ?_ | refine qk_ ?_ | refine qb_ ?_ | refine qx_ ?_)
    obtain ⟨G, hG⟩ : ∃ G, G = goesP s ((List.range s.n3).map fun i => pst1 (f1 (hxA s.a3 s.n3) i)) ((List.range s.n4).map fun i => off1 (f2 (hxA s.a4 s.n4) i)) := ⟨_, rfl⟩
    refine s_loopW (α := List Nat) [6, 17, 18, 19, 20, 21, 22, 23, 24, 25, 26, 27, 28, 29, 30, 31, 32, 33, 34, 35, 36, 37, 38, 39, 40, 41, 42] [900, 16] (fun _ => True) (fun _ => []) (fun ss => [(900, .mp true bm ((staysP G ss pl).map encP) clk), (16, .it z (some bm) clk ss clk)]) (fun ss => (pl.filter fun q => !(ss.contains q.st)).length) [] trivial ?_ ?_
    ·
     rw [stays_none]
     exact leQ
    ·
     intro ss _
     have hsub : ∀ q, q ∈ staysP G ss pl → q ∈ pl := fun q hq => (List.mem_filter.1 hq).1
     repeat (first | refine qs_ ?_ | refine qa_ ?_ | refine qo_ ?_ | refine qd_ ?_ | refine za ?_ | refine zb fun _ _ => ?_ | refine zc ?_ | refine ya ?_ | refine yb fun _ _ => ?_ | refine yc ?_ | refine qk_ ?_ | refine qb_ ?_ | refine qx_ ?_)
     refine o_next (ni := 16) (nm := 900) rfl rfl rfl rfl rfl rfl rfl rfl (fun p hp => by obtain ⟨q, hq, rfl⟩ := List.mem_map.1 hp; exact hst.1 _ (List.mem_map_of_mem (hsub q hq))) (Nat.le_refl _) (fun hover => ?_) (fun p hp hns => ?_)
     ·
      repeat (first | refine qs_ ?_ | refine qa_ ?_ | refine qo_ ?_ | refine qd_ ?_ | refine za ?_ | refine zb fun _ _ => ?_ | refine zc ?_ | refine ya ?_ | refine yb fun _ _ => ?_ | refine yc ?_ | refine qk_ ?_ | refine qb_ ?_ | refine qx_ ?_)
      refine s_cond (b := false) rfl (fun hb => by cases hb) (fun _ => ?_)
      have hall : staysP G ss pl = pl.filter fun q => !(G q) := stays_all fun q hq => hover (encP q) (List.mem_map_of_mem hq)
      rw [hall]
      repeat (first | refine qs_ ?_ | refine qa_ ?_ | refine qo_ ?_ | refine qd_ ?_ | refine za ?_ | refine zb fun _ _ => ?_ | refine zc ?_ | refine ya ?_ | refine yb fun _ _ => ?_ | refine yc ?_ | refine qk_ ?_ | refine qb_ ?_ | refine qx_ ?_)
      refine s_loopW (α := Nat) [45, 8, 46, 47, 48, 49, 50, 51, 52, 53, 54, 55] [900] (fun k => k ≤ m) (fun k => [(45, none, .v (.int .i64 k))]) (fun k => [(900, .mp true bm ((stlP G (H.take k) pl).map encP) clk)]) (fun k => m - k) 0 (Nat.zero_le _) ?_ ?_
      ·
       exact leQ
      ·
       intro k hk
       repeat (first | refine qs_ ?_ | refine qa_ ?_ | refine qo_ ?_ | refine qd_ ?_ | refine za ?_ | refine zb fun _ _ => ?_ | refine zc ?_ | refine ya ?_ | refine yb fun _ _ => ?_ | refine yc ?_ | refine qk_ ?_ | refine qb_ ?_ | refine qx_ ?_)
       refine s_cond (b := decide ((k : Int) < (m : Int))) rfl (fun hb2 => ?_) (fun hb2 => ?_)
       ·
        have hk8 : k < m := by have := of_decide_eq_true hb2; omega
        obtain ⟨R, hR1, hR2⟩ := find_del (pl := stlP G (H.take k) pl) (hkn.sublist ((stl_sub G (H.take k) pl).map keyN)) (H.getD k default).1.height (H.getD k default).1.from_ bm clk
        repeat (first | refine qs_ ?_ | refine qa_ ?_ | refine qo_ ?_ | refine qd_ ?_ | refine za ?_ | refine zb fun _ _ => ?_ | refine zc ?_ | refine ya ?_ | refine yb fun _ _ => ?_ | refine yc ?_ | refine qk_ ?_ | refine qb_ ?_ | refine qx_ ?_)
        refine s_draw rD30_10 rM30_10 [(900, [6])] rN30_10 rfl rfl ?_
        repeat (first | refine qs_ ?_ | refine qa_ ?_ | refine qo_ ?_ | refine qd_ ?_ | refine za ?_ | refine zb fun _ _ => ?_ | refine zc ?_ | refine ya ?_ | refine yb fun _ _ => ?_ | refine yc ?_ | refine qk_ ?_ | refine qb_ ?_ | refine qx_ ?_)
        refine d_del R rfl rfl rfl rfl rfl rfl rfl rfl rfl rfl rfl rfl rfl hR1 rfl ?_
        repeat (first | refine qs_ ?_ | refine qa_ ?_ | refine qo_ ?_ | refine qd_ ?_ | refine za ?_ | refine zb fun _ _ => ?_ | refine zc ?_ | refine ya ?_ | refine yb fun _ _ => ?_ | refine yc ?_ | refine qk_ ?_ | refine qb_ ?_ | refine qx_ ?_)
        refine ⟨k + 1, by omega, by omega, ?_⟩
        have e1 : stlP G (H.take (k + 1)) pl = delK (stlP G (H.take k) pl) (H.getD k default).1.height (H.getD k default).1.from_ := stl_succ G pl (by omega)
        rw [e1, hR2]
        exact leQ
       ·
        have hk8 : k = m := by have := of_decide_eq_false hb2; omega
        have e1 : stlP G (H.take k) pl = stlP G H pl := by rw [hk8, ← hHl, List.take_length]
        rw [e1, hG]
        repeat (first | refine qs_ ?_ | refine qa_ ?_ | refine qo_ ?_ | refine qd_ ?_ | refine za ?_ | refine zb fun _ _ => ?_ | refine zc ?_ | refine ya ?_ | refine yb fun _ _ => ?_ | refine yc ?_ | refine qk_ ?_ | refine qb_ ?_ | refine qx_ ?_)
        exact ⟨_, _, rfl, trivial, rfl, (), trivial, rfl, ⟨⟨_, rfl, Blk.le_refl _⟩, fun _ h => h⟩, trivial⟩
     ·
      obtain ⟨q1, hq1, rfl⟩ := List.mem_map.1 hp
      have hq2 := hsub q1 hq1
      have hadd := stays_add (G := G) (ss := ss) (by have := hst.2; rw [List.map_map] at this; exact this) hkn hq2
      repeat (first | refine qs_ ?_ | refine qa_ ?_ | refine qo_ ?_ | refine qd_ ?_ | refine za ?_ | refine zb fun _ _ => ?_ | refine zc ?_ | refine ya ?_ | refine yb fun _ _ => ?_ | refine yc ?_ | refine qk_ ?_ | refine qb_ ?_ | refine qx_ ?_)
      refine s_cond (b := true) rfl (fun _ => ?_) (fun hb => by cases hb)
      repeat (first | refine qs_ ?_ | refine qa_ ?_ | refine qo_ ?_ | refine qd_ ?_ | refine za ?_ | refine zb fun _ _ => ?_ | refine zc ?_ | refine ya ?_ | refine yb fun _ _ => ?_ | refine yc ?_ | refine qk_ ?_ | refine qb_ ?_ | refine qx_ ?_)
      refine o_entry (ni := 16) (nm := 900) (encP q1) rfl rfl rfl rfl rfl rfl rfl hp ?_
      repeat (first | refine qs_ ?_ | refine qa_ ?_ | refine qo_ ?_ | refine qd_ ?_ | refine za ?_ | refine zb fun _ _ => ?_ | refine zc ?_ | refine ya ?_ | refine yb fun _ _ => ?_ | refine yc ?_ | refine qk_ ?_ | refine qb_ ?_ | refine qx_ ?_)
      have hGq : G q1 = goesP s ((List.range s.n3).map fun i => pst1 (f1 (hxA s.a3 s.n3) i)) ((List.range s.n4).map fun i => off1 (f2 (hxA s.a4 s.n4) i)) q1 := by rw [hG]
      refine s_cond (b := goesP s ((List.range s.n3).map fun i => pst1 (f1 (hxA s.a3 s.n3) i)) ((List.range s.n4).map fun i => off1 (f2 (hxA s.a4 s.n4) i)) q1) rfl (fun hg => ?_) (fun hg => ?_)
      ·
       rw [← hGq] at hg
       rw [if_pos hg] at hadd
       obtain ⟨R, hR1, hR2⟩ := find_del (pl := staysP G ss pl) (hkn.sublist (List.filter_sublist.map keyN)) q1.h q1.f bm clk
       repeat (first | refine qs_ ?_ | refine qa_ ?_ | refine qo_ ?_ | refine qd_ ?_ | refine za ?_ | refine zb fun _ _ => ?_ | refine zc ?_ | refine ya ?_ | refine yb fun _ _ => ?_ | refine yc ?_ | refine qk_ ?_ | refine qb_ ?_ | refine qx_ ?_)
       refine s_draw rD30_6 rM30_6 [(900, [5])] rN30_6 rfl rfl ?_
       repeat (first | refine qs_ ?_ | refine qa_ ?_ | refine qo_ ?_ | refine qd_ ?_ | refine za ?_ | refine zb fun _ _ => ?_ | refine zc ?_ | refine ya ?_ | refine yb fun _ _ => ?_ | refine yc ?_ | refine qk_ ?_ | refine qb_ ?_ | refine qx_ ?_)
       refine d_del R rfl rfl rfl rfl rfl rfl rfl rfl rfl rfl rfl rfl rfl hR1 rfl ?_
       repeat (first | refine qs_ ?_ | refine qa_ ?_ | refine qo_ ?_ | refine qd_ ?_ | refine za ?_ | refine zb fun _ _ => ?_ | refine zc ?_ | refine ya ?_ | refine yb fun _ _ => ?_ | refine yc ?_ | refine qk_ ?_ | refine qb_ ?_ | refine qx_ ?_)
       refine ⟨ss ++ [q1.st], trivial, meas_lt hq2 hns, ?_⟩
       rw [hadd, hR2]
       exact leQ
      ·
       rw [← hGq] at hg
       rw [if_neg (by rw [hg]; decide)] at hadd
       repeat (first | refine qs_ ?_ | refine qa_ ?_ | refine qo_ ?_ | refine qd_ ?_ | refine za ?_ | refine zb fun _ _ => ?_ | refine zc ?_ | refine ya ?_ | refine yb fun _ _ => ?_ | refine yc ?_ | refine qk_ ?_ | refine qb_ ?_ | refine qx_ ?_)
       refine ⟨ss ++ [q1.st], trivial, meas_lt hq2 hns, ?_⟩
       rw [hadd]
       exact leQ
   ·
    cases h0
  ·
   cases h0
 ·
  cases h0
theorem settle_body : HasBody Tryz.prog 30 := ⟨_, Tryz.func30, rfl, by decide⟩
end Go.Proofs.YtofophjfgalhaaaGreatDoor.V
namespace Go.Proofs.YtofophjfgalhaaaGreatDoor.V
open Go Go.RowKit
end Go.Proofs.YtofophjfgalhaaaGreatDoor.V
namespace Go.Proofs.YtofophjfgalhaaaGreatDoor.V
open Go Go.RowKit
def keyE (x : Vote × Vote) : Int × Int := (x.1.height, x.1.from_)
def PoolOk (V : Vote × Vote → Int) (pl : List PEv) : Prop := (pl.map keyN).Nodup ∧ ∀ q, q ∈ pl → (q.h = q.e.1.height ∧ q.f = q.e.1.from_) ∧ (VR q.e.1 ∧ VR q.e.2) ∧ V q.e = 0
theorem PoolOk.mono {V V' : Vote × Vote → Int} {pl : List PEv} (h : PoolOk V pl) (hv : ∀ x, V x = 0 → V' x = 0) : PoolOk V' pl := ⟨h.1, fun q hq => ⟨(h.2 q hq).1, (h.2 q hq).2.1, hv _ (h.2 q hq).2.2⟩⟩
theorem PoolOk.nil (V : Vote × Vote → Int) : PoolOk V [] := ⟨List.nodup_nil, fun _ h => by cases h⟩
theorem hasP_no {pl : List PEv} {h f : Int} (hn : hasP pl h f = false) {q : PEv} (hq : q ∈ pl) : keyN q ≠ (h, f) := by
 intro e
 have h1 := List.any_eq_false.1 hn q hq
 unfold keyN at e
 cases e
 exact h1 (by simp)
theorem PoolOk.add {V : Vote × Vote → Int} {pl : List PEv} (h : PoolOk V pl) {x : Vote × Vote} (hx : VR x.1 ∧ VR x.2) (clk : Nat) : PoolOk V (addP (V x) x pl clk).2.1 ∧ (addP (V x) x pl clk).2.1.length = pl.length + (if (addP (V x) x pl clk).1 == 0 then 1 else 0) := by
 unfold addP
 split
 ·
  rename_i h0
  refine ⟨h, ?_⟩
  show pl.length = _
  rw [if_neg (by simpa using h0)]; rfl
 ·
  rename_i h0
  split
  ·
   exact ⟨h, rfl⟩
  ·
   rename_i hp
   split
   ·
    exact ⟨h, rfl⟩
   ·
    refine ⟨⟨?_, fun q hq => ?_⟩, ?_⟩
    ·
     show ((pl ++ [_]).map keyN).Nodup
     rw [List.map_append, List.nodup_append]
     refine ⟨h.1, by simp, fun a ha b hb e => ?_⟩
     obtain ⟨q, hq, rfl⟩ := List.mem_map.1 ha
     have hb' : b = (x.1.height, x.1.from_) := by simpa [keyN] using hb
     exact hasP_no (by simpa using hp) hq (e.trans hb')
    ·
     rcases List.mem_append.1 hq with hq | hq
     ·
      exact h.2 q hq
     ·
      have : q = ⟨x.1.height, x.1.from_, x, clk⟩ := by simpa using hq
      subst this
      exact ⟨⟨rfl, rfl⟩, hx, by simpa using h0⟩
    ·
     show (pl ++ [_]).length = _
     rw [List.length_append]; rfl
theorem addP_le {V : Int} {x : Vote × Vote} {pl : List PEv} {clk : Nat} (h : pl.length ≤ 65536) : (addP V x pl clk).2.1.length ≤ 65536 := by
 unfold addP
 split
 ·
  exact h
 split
 ·
  exact h
 split
 ·
  exact h
 ·
  rename_i h4
  show (pl ++ [_]).length ≤ _
  rw [List.length_append, List.length_singleton]
  have : ¬ ((pl.length : Int) ≥ 65536) := by simpa using h4
  omega
theorem PoolOk.all {V : Vote × Vote → Int} {pl : List PEv} (h : PoolOk V pl) : letE V pl = pl.map (·.e) := by
 unfold letE
 refine List.filter_eq_self.2 fun x hx => ?_
 obtain ⟨q, hq, rfl⟩ := List.mem_map.1 hx
 simpa using (h.2 q hq).2.2
theorem PoolOk.keys {V : Vote × Vote → Int} {pl : List PEv} (h : PoolOk V pl) : (pl.map (·.e)).map keyE = pl.map keyN := by
 rw [List.map_map]
 refine List.map_congr_left fun q hq => ?_
 obtain ⟨⟨e1, e2⟩, _⟩ := h.2 q hq
 show (q.e.1.height, q.e.1.from_) = (q.h, q.f)
 rw [e1, e2]
structure PickOk (V : Vote × Vote → Int) (pl : List PEv) (L : List (Vote × Vote)) : Prop where
 len : L.length = pl.length
 mem : ∀ x, x ∈ L → ∃ q, q ∈ pl ∧ q.e = x
 keys : (L.map keyE).Nodup
 ord : ∀ i j, i < j → j < L.length → (L.getD i default).1.height < (L.getD j default).1.height ∨ ((L.getD i default).1.height = (L.getD j default).1.height ∧ (L.getD i default).1.from_ < (L.getD j default).1.from_)
theorem PoolOk.pick {V : Vote × Vote → Int} {pl : List PEv} (h : PoolOk V pl) {L : List (Vote × Vote)} (hL : SortedE (letE V pl) L) : PickOk V pl L := by
 obtain ⟨h1, h2⟩ := hL
 rw [h.all] at h1
 have hk : (L.map keyE).Nodup := (h1.map keyE).nodup_iff.2 (by rw [h.keys]; exact h.1)
 refine ⟨by rw [h1.length_eq, List.length_map], fun x hx => ?_, hk, fun i j hij hj => ?_⟩
 ·
  obtain ⟨q, hq, e⟩ := List.mem_map.1 (h1.mem_iff.1 hx)
  exact ⟨q, hq, e⟩
 ·
  have h3 := h2 i j hij hj
  rw [ltE_eq] at h3
  have h4 := of_decide_eq_false h3
  have h5 : keyE (L.getD i default) ≠ keyE (L.getD j default) := by
   intro e
   have hi : i < L.length := by omega
   rw [List.getD_eq_getElem?_getD, List.getD_eq_getElem?_getD, List.getElem?_eq_getElem hi, List.getElem?_eq_getElem hj] at e
   exact List.pairwise_iff_getElem.1 hk i j (by simpa using hi) (by simpa using hj) hij (by simpa using e)
  unfold keyE at h5
  have h6 : ¬ ((L.getD i default).1.height = (L.getD j default).1.height ∧ (L.getD i default).1.from_ = (L.getD j default).1.from_) := fun e => h5 (by rw [e.1, e.2])
  omega
theorem PickOk.get {V : Vote × Vote → Int} {pl : List PEv} {L : List (Vote × Vote)} (h : PickOk V pl L) {i : Nat} (hi : i < L.length) : ∃ q, q ∈ pl ∧ q.e = L.getD i default :=
 h.mem _ (by rw [List.getD_eq_getElem?_getD, List.getElem?_eq_getElem hi]; exact List.getElem_mem hi)
def numF (k n : Int) : Int := (if k < 0 then -(k + 1) else k).tmod n
theorem numF_at {k n : Int} (hn : 0 < n) : 0 ≤ numF k n ∧ numF k n < n := by
 have h : 0 ≤ (if k < 0 then -(k + 1) else k) := by split <;> omega
 unfold numF
 rw [Int.tmod_eq_emod_of_nonneg h]
 exact ⟨Int.emod_nonneg _ (by omega), Int.emod_lt_of_pos _ hn⟩
def numC (args : List AV) (_M : MemF) : Option (Prop × AV) := match args with
 | [.v (.int .i64 k), .v (.int .i64 n)] => some ((-9223372036854775808 ≤ k ∧ k < 9223372036854775808) ∧ 0 < n, .v (.int .i64 (numF k n)))
 | _ => none
theorem nmb_read : ReadFn Tryz.prog 34 numC := by
 intro args M q res h hq O w0 w hS
 unfold numC at h
 split at h
 ·
  rename_i k n
  cases h
  obtain ⟨⟨hk1, hk2⟩, hn⟩ := hq
  refine ro_fn tabs2 (ct := []) trivial (cr := []) trivial Tryz.func34 rfl rfl (M := []) rfl trivial trivial ?_
  repeat (first | refine qs_ ?_ | refine qa_ ?_ | refine qo_ ?_ | refine qd_ ?_ | refine za ?_ | refine zb fun _ _ => ?_ | refine zc ?_ | refine ya ?_ | refine yb fun _ _ => ?_ | refine yc ?_ | refine qk_ ?_ | refine qb_ ?_ | refine qx_ ?_)
  refine s_cond (b := decide (k < 0)) rfl (fun hb => ?_) (fun hb => ?_)
  ·
   have hk := of_decide_eq_true hb
   repeat (first | refine qs_ ?_ | refine qa_ ?_ | refine qo_ ?_ | refine qd_ ?_ | refine za ?_ | refine zb fun _ _ => ?_ | refine zc ?_ | refine ya ?_ | refine yb fun _ _ => ?_ | refine yc ?_ | refine qk_ ?_ | refine qb_ ?_ | refine qx_ ?_)
   refine s_ret ?_
   refine ⟨_, _, rfl, ⟨trivial, trivial⟩, rfl, ?_⟩
   show Value.int .i64 ((IntKind.i64.wrap (0 - IntKind.i64.wrap (k + 1))).tmod n) = Value.int .i64 (numF k n)
   rw [wi64 (n := k + 1) (by omega) (by omega), wi64 (by omega) (by omega), numF, if_pos hk, Int.zero_sub]
  ·
   have hk := of_decide_eq_false hb
   repeat (first | refine qs_ ?_ | refine qa_ ?_ | refine qo_ ?_ | refine qd_ ?_ | refine za ?_ | refine zb fun _ _ => ?_ | refine zc ?_ | refine ya ?_ | refine yb fun _ _ => ?_ | refine yc ?_ | refine qk_ ?_ | refine qb_ ?_ | refine qx_ ?_)
   refine s_ret ?_
   refine ⟨_, _, rfl, ⟨trivial, trivial⟩, rfl, ?_⟩
   rw [numF, if_neg hk]
   rfl
 ·
  cases h
theorem nmb_body : HasBody Tryz.prog 34 := ⟨_, Tryz.func34, rfl, by decide⟩
def befF (x y : Vote × Vote) : Bool := decide (x.1.height < y.1.height) || (x.1.height == y.1.height && decide (x.1.from_ < y.1.from_))
def befC (args : List AV) (_M : MemF) : Option (Prop × AV) := match args with
 | [.agg (.cons a (.cons b .nil)), .agg (.cons c (.cons d .nil))] => match decV a, decV b, decV c, decV d with
  | some x, some x2, some y, some y2 => some (True, .v (.bool (befF (x, x2) (y, y2))))
  | _, _, _, _ => none
 | _ => none
theorem bef_read : ReadFn Tryz.prog 104 befC := by
 intro args M q res h hq O w0 w hS
 unfold befC at h
 split at h
 ·
  rename_i a b c d
  split at h
  ·
   rename_i x x2 y y2 h1 h2 h3 h4
   cases h
   have h1 := decV_enc h1
   have h2 := decV_enc h2
   have h3 := decV_enc h3
   have h4 := decV_enc h4
   subst h1 h2 h3 h4
   refine ro_fn tabs2 (ct := []) trivial (cr := []) trivial Tryz.func104 rfl rfl (M := []) rfl trivial trivial ?_
   repeat (first | refine qs_ ?_ | refine qa_ ?_ | refine qo_ ?_ | refine qd_ ?_ | refine za ?_ | refine zb fun _ _ => ?_ | refine zc ?_ | refine ya ?_ | refine yb fun _ _ => ?_ | refine yc ?_ | refine qk_ ?_ | refine qb_ ?_ | refine qx_ ?_)
   refine s_ret ?_
   exact ⟨_, _, rfl, ⟨trivial, trivial⟩, rfl, rfl⟩
  ·
   cases h
 ·
  cases h
theorem bef_body : HasBody Tryz.prog 104 := ⟨_, Tryz.func104, rfl, by decide⟩
def sameF (a b : List (Vote × Vote)) : Bool := (a.length == b.length) && (List.range a.length).all fun i => eqE (a.getD i default) (b.getD i default)
def evsV (M : MemF) (X : AV) : Option (Prop × List (Vote × Vote)) := match seqOf M X with
 | some (c, es, n, f) => some (c ∧ (n ≠ 0 → es = 106) ∧ n ≤ 1000000000000 ∧ ∀ i, i < n → f i = encE (decE (f i)), (List.range n).map fun i => decE (f i))
 | none => none
theorem evs_ro {O : Nat → Prop} {w0 w : World} {M : MemF} (hS : Sat O w0 M w) {X : AV} {c : Prop} {l : List (Vote × Vote)} (h : evsV M X = some (c, l)) (hc : c) :
  ∃ base cap, X.val = slV base l.length cap ∧ (roB base 106 l.length fun i => encE (l.getD i default)).holds w ∧ l.length ≤ 1000000000000 := by
 unfold evsV at h
 split at h
 ·
  rename_i c0 es n f hsx
  cases h
  obtain ⟨h1, h2, h3, h4⟩ := hc
  obtain ⟨base, cap, hv, hr⟩ := seqOf_spec hS hsx h1
  have hl : ((List.range n).map fun i => decE (f i)).length = n := by simp
  refine ⟨base, cap, by rw [hl]; exact hv, ?_, by rw [hl]; exact h3⟩
  refine roB_holds fun h0 => ?_
  rw [hl] at h0 ⊢
  obtain ⟨b, o, e1, e2⟩ := hr h0
  rw [h2 h0] at e2
  refine ⟨b, o, e1, e2.congr fun i hi => ?_⟩
  rw [h4 i hi, List.getD_eq_getElem?_getD, List.getElem?_map, List.getElem?_range hi]; rfl
 ·
  cases h
def sameC (args : List AV) (M : MemF) : Option (Prop × AV) := match args with
 | [X, Y] => match evsV M X, evsV M Y with
  | some (c, a), some (d, b) => some (c ∧ d, .v (.bool (sameF a b)))
  | _, _ => none
 | _ => none
theorem sameF_no {a b : List (Vote × Vote)} {i : Nat} (hi : i < a.length) (h : eqE (a.getD i default) (b.getD i default) = false) : sameF a b = false := by
 unfold sameF
 rw [Bool.and_eq_false_iff]
 right
 rw [List.all_eq_false]
 exact ⟨i, List.mem_range.2 hi, by rw [h]; decide⟩
theorem sameF_yes {a b : List (Vote × Vote)} (hl : a.length = b.length) (h : ∀ i, i < a.length → eqE (a.getD i default) (b.getD i default) = true) : sameF a b = true := by
 unfold sameF
 rw [Bool.and_eq_true, List.all_eq_true]
 exact ⟨by simpa using hl, fun i hi => h i (List.mem_range.1 hi)⟩
theorem same_read : ReadFn Tryz.prog 36 sameC := by
 intro args M q res h hq O w0 w hS
 unfold sameC at h
 split at h
 ·
  rename_i X Y
  split at h
  ·
   rename_i c a d b hX hY
   cases h
   obtain ⟨hc, hd⟩ := hq
   obtain ⟨base, cap, hv, hro, hal⟩ := evs_ro hS hX hc
   obtain ⟨base', cap', hv', hro', hbl⟩ := evs_ro hS hY hd
   rw [show [X, Y].map AV.val = [roS 900 base 106 a.length cap, roS 901 base' 106 b.length cap'].map AV.val by simp only [List.map_cons, List.map_nil, hv, hv', roS_val]]
   refine ro_fn tabs2 (ct := []) trivial (cr := []) trivial Tryz.func36 rfl rfl (M := [(900, roB base 106 a.length fun i => encE (a.getD i default)), (901, roB base' 106 b.length fun i => encE (b.getD i default))]) rfl ⟨roB_noOwn, roB_noOwn, trivial⟩ ⟨hro, hro', trivial⟩ ?_
   repeat (first | refine qs_ ?_ | refine qa_ ?_ | refine qo_ ?_ | refine qd_ ?_ | refine za ?_ | refine zb fun _ _ => ?_ | refine zc ?_ | refine ya ?_ | refine yb fun _ _ => ?_ | refine yc ?_ | refine qk_ ?_ | refine qb_ ?_ | refine qx_ ?_)
   refine s_cond (b := ((a.length : Int) != (b.length : Int))) rfl (fun hb => ?_) (fun hb => ?_)
   ·
    repeat (first | refine qs_ ?_ | refine qa_ ?_ | refine qo_ ?_ | refine qd_ ?_ | refine za ?_ | refine zb fun _ _ => ?_ | refine zc ?_ | refine ya ?_ | refine yb fun _ _ => ?_ | refine yc ?_ | refine qk_ ?_ | refine qb_ ?_ | refine qx_ ?_)
    refine s_ret ?_
    refine ⟨_, _, rfl, ⟨trivial, trivial⟩, rfl, ?_⟩
    have h9 : (a.length == b.length) = false := by
     have : ¬ a.length = b.length := by
      intro e
      rw [e] at hb
      simp at hb
     simpa using this
    unfold sameF
    rw [h9]; rfl
   ·
    have hle : a.length = b.length := by
     have : (a.length : Int) = (b.length : Int) := by simpa using hb
     omega
    repeat (first | refine qs_ ?_ | refine qa_ ?_ | refine qo_ ?_ | refine qd_ ?_ | refine za ?_ | refine zb fun _ _ => ?_ | refine zc ?_ | refine ya ?_ | refine yb fun _ _ => ?_ | refine yc ?_ | refine qk_ ?_ | refine qb_ ?_ | refine qx_ ?_)
    refine s_loopW (α := Nat) [5, 11, 12, 13, 14, 15, 16, 17, 18, 19, 20, 21, 22, 23, 24, 25] [] (fun k => k ≤ a.length ∧ ∀ j, j < k → eqE (a.getD j default) (b.getD j default) = true) (fun k => [(5, none, .v (.int .i64 k))]) (fun _ => []) (fun k => a.length - k) 0 ⟨Nat.zero_le _, fun j hj => absurd hj (Nat.not_lt_zero j)⟩ ?_ ?_
    ·
     exact leQ
    ·
     intro k ⟨hk, hall⟩
     repeat (first | refine qs_ ?_ | refine qa_ ?_ | refine qo_ ?_ | refine qd_ ?_ | refine za ?_ | refine zb fun _ _ => ?_ | refine zc ?_ | refine ya ?_ | refine yb fun _ _ => ?_ | refine yc ?_ | refine qk_ ?_ | refine qb_ ?_ | refine qx_ ?_)
     refine s_cond (b := decide ((k : Int) < (a.length : Int))) rfl (fun hb2 => ?_) (fun hb2 => ?_)
     ·
      have hk8 : k < a.length := by have := of_decide_eq_true hb2; omega
      have hk9 : k < b.length := by omega
      repeat (first | refine qs_ ?_ | refine qa_ ?_ | refine qo_ ?_ | refine qd_ ?_ | refine za ?_ | refine zb fun _ _ => ?_ | refine zc ?_ | refine ya ?_ | refine yb fun _ _ => ?_ | refine yc ?_ | refine qk_ ?_ | refine qb_ ?_ | refine qx_ ?_)
      refine s_draw rD36_6 rM36_6 rX36_6 rN36_6 rfl rfl ?_
      repeat (first | refine qs_ ?_ | refine qa_ ?_ | refine qo_ ?_ | refine qd_ ?_ | refine za ?_ | refine zb fun _ _ => ?_ | refine zc ?_ | refine ya ?_ | refine yb fun _ _ => ?_ | refine yc ?_ | refine qk_ ?_ | refine qb_ ?_ | refine qx_ ?_)
      refine s_cond (b := !(eqE (a.getD k default) (b.getD k default))) rfl (fun h9 => ?_) (fun h9 => ?_)
      ·
       repeat (first | refine qs_ ?_ | refine qa_ ?_ | refine qo_ ?_ | refine qd_ ?_ | refine za ?_ | refine zb fun _ _ => ?_ | refine zc ?_ | refine ya ?_ | refine yb fun _ _ => ?_ | refine yc ?_ | refine qk_ ?_ | refine qb_ ?_ | refine qx_ ?_)
       refine s_ret ?_
       refine ⟨_, _, rfl, ⟨trivial, trivial⟩, rfl, ?_⟩
       rw [sameF_no hk8 (by simpa using h9)]
       rfl
      ·
       repeat (first | refine qs_ ?_ | refine qa_ ?_ | refine qo_ ?_ | refine qd_ ?_ | refine za ?_ | refine zb fun _ _ => ?_ | refine zc ?_ | refine ya ?_ | refine yb fun _ _ => ?_ | refine yc ?_ | refine qk_ ?_ | refine qb_ ?_ | refine qx_ ?_)
       refine ⟨k + 1, ⟨hk8, fun j hj => ?_⟩, by omega, ?_⟩
       ·
        rcases Nat.lt_or_ge j k with h | h
        ·
         exact hall j h
        ·
         rw [show j = k by omega]; simpa using h9
       ·
        exact leQ
     ·
      have hk8 : k = a.length := by have := of_decide_eq_false hb2; omega
      repeat (first | refine qs_ ?_ | refine qa_ ?_ | refine qo_ ?_ | refine qd_ ?_ | refine za ?_ | refine zb fun _ _ => ?_ | refine zc ?_ | refine ya ?_ | refine yb fun _ _ => ?_ | refine yc ?_ | refine qk_ ?_ | refine qb_ ?_ | refine qx_ ?_)
      refine s_ret ?_
      refine ⟨_, _, rfl, ⟨trivial, trivial⟩, rfl, ?_⟩
      rw [sameF_yes hle (by rw [← hk8]; exact hall)]
      rfl
  ·
   cases h
 ·
  cases h
theorem same_body : HasBody Tryz.prog 36 := ⟨_, Tryz.func36, rfl, by decide⟩
def CmOk {α : Type} (es : Nat) (base : Nat → Option (Nat × Nat)) (len : Nat → Nat) (f : Nat → Nat → AV) (dec : AV → α) (enc : α → AV) (a : Option Addr) (n : Nat) : Prop := n ≤ 9223372036854775807 ∧ (n ≠ 0 → es = es ∧ ∃ b o, a = some ⟨b, o, none⟩ ∧ base (hx b o n) = some (b, o) ∧ n ≤ len (hx b o n) ∧ ∀ i, i < n → f (hx b o n) i = enc (dec (f (hx b o n) i)))
attribute [local irreducible] verR sealedP sealedD pairP pairD shE shR dsaidR
end Go.Proofs.YtofophjfgalhaaaGreatDoor.V
