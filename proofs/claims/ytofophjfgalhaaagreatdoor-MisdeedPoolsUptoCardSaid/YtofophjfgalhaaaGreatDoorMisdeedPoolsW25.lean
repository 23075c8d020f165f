import Derived.Test.YtofophjfgalhaaaGreatDoorMisdeedPoolsW10
import Derived.Test.YtofophjfgalhaaaGreatDoorMisdeedPoolsW17
import Derived.Test.YtofophjfgalhaaaGreatDoorMisdeedPoolsW24
set_option linter.unusedVariables false
set_option linter.unusedSimpArgs false
set_option maxRecDepth 100000
set_option maxHeartbeats 8000000
namespace Go.Proofs.YtofophjfgalhaaaGreatDoor.V
open Go Go.RowKit
theorem ptr_apart {O : Nat → Prop} {w0 w : World} {M : MemF} (hS : Sat O w0 M w) {p : Pt} {g : Bool} {n : Nat} {c : Prop} {s : AV} (h : ptrOf M p g n = some (c, s)) (hc : c) (hn : 0 < n) {k : Nat} {B : Blk} (hk : M k = some B) (hne : p.n ≠ k) {f : Nat → AV} : ∀ j, (roB (some (p.b, p.cell)) n 1 f).reads j → ¬ B.own j := by
 intro j hr
 obtain ⟨_, ix, o, _, hb⟩ := hr
 cases hb
 unfold ptrOf at h
 split at h
 ·
  rename_i c0 e he
  split at h
  ·
   rename_i s' hs
   cases h
   have hsz : 0 < e.size := by
    have := (AV.sub_spec e hs).1.2.1
    rw [AV.size_cells] at this; omega
   exact elem_apart hS he hc.1 hsz hk hne
  ·
   cases h
 ·
  cases h
def clC (_tag : Nat) (args : List AV) (M : MemF) : Option Res := match args with
 | [.ptr p, .ptr pv] => match wrOf M p, ptrOf M pv true 53 with
  | some (c0, b, l, _), some (c1, V) => match decV V with
   | some x => some ⟨Nat → Prop, c0 ∧ c1 ∧ l.length ≤ 600000 ∧ VR x ∧ pv.n ≠ p.n, fun _ => True, fun _ => .tup .nil, [p.n], fun S' => [wrB b (putL l x) S']⟩
   | none => none
  | _, _ => none
 | _ => none
def crCo : CrL := [(111, pvC)]
theorem crCo_ok : CrLOk Tryz.prog crCo := ⟨⟨pv_body, pv_turn⟩, trivial⟩
theorem cl_turn : TurnFn Tryz.prog 110 clC := by
 intro tag args M r h0 hok O w0 w hS
 unfold clC at h0
 split at h0
 ·
  rename_i p pv
  split at h0
  ·
   rename_i c0 b l S c1 V hp hpv
   split at h0
   ·
    rename_i x hx
    cases h0
    have hx := decV_enc hx
    subst hx
    obtain ⟨hc0, hc1, hll, hvr, hne⟩ := hok
    obtain ⟨hM, hv⟩ := wrOf_spec hp hc0
    have hR := ptrOf_spec hS hpv hc1
    have hap := ptr_apart (f := fun _ => encV x) hS hpv hc1 (by decide) hM hne
    rw [show [AV.ptr p, AV.ptr pv].map AV.val = [AV.ptr ⟨900, 0, b, 0, 3, 0, 0, 0, false⟩, roP 901 pv.b pv.cell 53].map AV.val by simp only [List.map_cons, List.map_nil, hv 900, ptr_val pv, roP_val]]
    refine turn_one tabs2 (ct := []) trivial crCo_ok Tryz.func110 rfl rfl hS _ hM (B1 := wrB b l S) [(901, roB (some (pv.b, pv.cell)) 53 1 fun _ => encV x)] rfl rfl (hS.holds _ _ hM) (fun _ h => h) (fun _ h => h) ⟨roB_holds fun _ => ⟨_, _, rfl, hR⟩, trivial⟩ ⟨roB_noOwn, trivial⟩ ⟨hap, trivial⟩ ?_
    repeat (first | refine qs_ ?_ | refine qa_ ?_ | refine qo_ ?_ | refine qd_ ?_ | refine za ?_ | refine zb fun _ _ => ?_ | refine zc ?_ | refine ya ?_ | refine yb fun _ _ => ?_ | refine yc ?_ | refine qk_ ?_ | refine qb_ ?_ | refine qx_ ?_)
    refine o_new rfl rfl rfl ⟨fun _ => False, trivial⟩ ⟨trivial, wr_at _ _ _ _, hll, hvr⟩ (fun S' _ => ?_)
    repeat (first | refine qs_ ?_ | refine qa_ ?_ | refine qo_ ?_ | refine qd_ ?_ | refine za ?_ | refine zb fun _ _ => ?_ | refine zc ?_ | refine ya ?_ | refine yb fun _ _ => ?_ | refine yc ?_ | refine qk_ ?_ | refine qb_ ?_ | refine qx_ ?_)
    exact ⟨_, _, rfl, trivial, rfl, S', trivial, rfl, ⟨⟨_, rfl, Blk.le_refl _⟩, fun _ h => h⟩, trivial⟩
   ·
    cases h0
  ·
   cases h0
 ·
  cases h0
theorem cl_body : HasBody Tryz.prog 110 := ⟨_, Tryz.func110, rfl, by decide⟩
def namedF (n : Nat) : Int := fieldF (decide ((n : Int) < 1) || decide ((n : Int) > 16))
def namedC (args : List AV) (_M : MemF) : Option (Prop × AV) := match args with
 | [.v (.string s)] => some (True, .v (.int .i64 (namedF s.size)))
 | _ => none
theorem named_read : ReadFn Tryz.prog 151 namedC := by
 intro args M q res h hq O w0 w hS
 unfold namedC at h
 split at h
 ·
  rename_i s
  cases h
  refine ro_fn tabs2 ctP1_ok (cr := []) trivial Tryz.func151 rfl rfl (M := []) rfl trivial trivial ?_
  repeat (first | refine qs_ ?_ | refine qa_ ?_ | refine qo_ ?_ | refine qd_ ?_ | refine za ?_ | refine zb fun _ _ => ?_ | refine zc ?_ | refine ya ?_ | refine yb fun _ _ => ?_ | refine yc ?_ | refine qk_ ?_ | refine qb_ ?_ | refine qx_ ?_)
  refine s_ret ?_
  exact ⟨_, _, rfl, ⟨trivial, trivial⟩, rfl, rfl⟩
 ·
  cases h
theorem named_body : HasBody Tryz.prog 151 := ⟨_, Tryz.func151, rfl, by decide⟩
theorem firstE_zero {a b : Int} (h : (firstE [a, b] != 0) = false) : a = 0 ∧ b = 0 := by
 unfold firstE at h
 by_cases e : a = 0
 ·
  subst e
  by_cases e2 : b = 0
  ·
   exact ⟨rfl, e2⟩
  ·
   simp [firstE, e2] at h
 ·
  rw [if_pos (by simpa using e)] at h
  simp at h
  exact absurd h e
theorem namedF_zero {n : Nat} (h : namedF n = 0) : 1 ≤ n ∧ n ≤ 16 := by
 unfold namedF fieldF at h
 split at h
 ·
  cases h
 ·
  rename_i h2
  simp at h2
  omega
def saidR (letter : Int) (s : ByteArray) (e : Int) (x : Vote) : List Int × Int :=
 if (firstE [namedF s.size, e] != 0) = true then ([], firstE [namedF s.size, e]) else (putL ([letter] ++ textL s) x, 0)
def resB (tag : Nat) (y : Option Nat × Nat) (r : List Int × Int) : AV := okB tag y r.1 r.2
def saidC (tag : Nat) (args : List AV) (M : MemF) : Option Res := match args with
 | [.v (.int .u8 letter), .v (.string s), .v (.int .i64 e), .fn 110 (.cons (.ptr pv) .nil)] => match ptrOf M pv true 53 with
  | some (c1, V) => match decV V with
   | some x => some ⟨Option Nat × Nat, c1 ∧ VR x, fun y => (saidR letter s e x).1.length ≤ y.2, fun y => resB tag y (saidR letter s e x), [tag], fun y => [.vrow y.1 5 1 (saidR letter s e x).1.length (vl (saidR letter s e x).1) y.2]⟩
   | none => none
  | none => none
 | _ => none
def ctSd : CtL := [(151, namedC), (129, allC)]
theorem ctSd_ok : CtLOk Tryz.prog ctSd := ⟨.fn named_body named_read, .fn all_body all_read, trivial⟩
def crSd : CrL := [(152, nwC), (153, byteC), (154, ptC), (110, clC), (155, outC)]
theorem crSd_ok : CrLOk Tryz.prog crSd := ⟨⟨nw_body, nw_turn⟩, ⟨byte_body, byte_turn⟩, ⟨text_body, text_turn⟩, ⟨cl_body, cl_turn⟩, ⟨out_body, out_turn⟩, trivial⟩
theorem putL_length (l : List Int) (x : Vote) : l.length + 35 ≤ (putL l x).length ∧ (putL l x).length ≤ l.length + 73 := by
 have h1 := varL_len x.height
 have h2 := varL_len (IntKind.u64.wrap x.round)
 have h3 := varL_len x.time
 have h4 := varL_len x.from_
 have h5 : ∀ v, 1 ≤ (varL v).length := fun v => by
  unfold varL varP; split <;> simp
 have := h5 x.height
 have := h5 (IntKind.u64.wrap x.round)
 unfold putL
 simp only [List.length_append, List.length_singleton, idL_length]
 omega
theorem said_turn : TurnFn Tryz.prog 109 saidC := by
 intro tag args M r h0 hok O w0 w hS
 unfold saidC at h0
 split at h0
 ·
  rename_i letter s e pv
  split at h0
  ·
   rename_i c1 V hpv
   split at h0
   ·
    rename_i x hx
    cases h0
    have hx := decV_enc hx
    subst hx
    obtain ⟨hc1, hvr⟩ := hok
    have hR := ptrOf_spec hS hpv hc1
    obtain ⟨E, hE⟩ : ∃ E, E = firstE [namedF s.size, e] := ⟨_, rfl⟩
    rw [show [.v (.int .u8 letter), .v (.string s), .v (.int .i64 e), .fn 110 (.cons (.ptr pv) .nil)].map AV.val = [.v (.int .u8 letter), .v (.string s), .v (.int .i64 e), .fn 110 (.cons (roP 901 pv.b pv.cell 53) .nil)].map AV.val by simp only [List.map_cons, List.map_nil, fn_val, AV.toL, ptr_val pv, roP_val]]
    refine turn_new tabs2 ctSd_ok crSd_ok Tryz.func109 rfl rfl hS _ [(901, roB (some (pv.b, pv.cell)) 53 1 fun _ => encV x)] [31] rfl ⟨roB_holds fun _ => ⟨_, _, rfl, hR⟩, trivial⟩ ⟨roB_noOwn, trivial⟩ (by decide) rfl (s_post ?_)
    repeat (first | refine qs_ ?_ | refine qa_ ?_ | refine qo_ ?_ | refine qd_ ?_ | refine za ?_ | refine zb fun _ _ => ?_ | refine zc ?_ | refine ya ?_ | refine yb fun _ _ => ?_ | refine yc ?_ | refine qk_ ?_ | refine qb_ ?_ | refine qx_ ?_)
    refine o_val rfl rfl trivial ⟨trivial, ⟨rfl, rfl, Nat.le_refl _⟩, fun _ => rfl, by decide, fun i hi => ?_⟩ ?_
    ·
     rcases i with _ | _ | i <;> first | rfl | omega
    repeat (first | refine qs_ ?_ | refine qa_ ?_ | refine qo_ ?_ | refine qd_ ?_ | refine za ?_ | refine zb fun _ _ => ?_ | refine zc ?_ | refine ya ?_ | refine yb fun _ _ => ?_ | refine yc ?_ | refine qk_ ?_ | refine qb_ ?_ | refine qx_ ?_)
    refine s_cond (b := (firstE [namedF s.size, e] != 0)) rfl (fun hb => ?_) (fun hb => ?_)
    ·
     repeat (first | refine qs_ ?_ | refine qa_ ?_ | refine qo_ ?_ | refine qd_ ?_ | refine za ?_ | refine zb fun _ _ => ?_ | refine zc ?_ | refine ya ?_ | refine yb fun _ _ => ?_ | refine yc ?_ | refine qk_ ?_ | refine qb_ ?_ | refine qx_ ?_)
     refine s_ret ?_
     refine ⟨_, _, le_lay (n := 31) (B := .vrow none 5 1 0 (vl []) 0) rfl (fun k h => by cases h) (fun k h => h) (fun w => ⟨rfl, rfl⟩), ?_⟩
     have hr : saidR letter s e x = ([], firstE [namedF s.size, e]) := by unfold saidR; rw [if_pos hb]
     refine ⟨_, _, rfl, ⟨trivial, trivial, trivial⟩, rfl, (none, 0), (by rw [hr]; exact Nat.le_refl _), ?_, ⟨⟨_, rfl, ?_⟩, fun _ h => h⟩, trivial⟩
     ·
      rw [hr]; rfl
     ·
      rw [hr]; exact Blk.le_refl _
    ·
     have hr : saidR letter s e x = (putL ([letter] ++ textL s) x, 0) := by unfold saidR; rw [if_neg (by rw [hb]; decide)]
     obtain ⟨hs0, _⟩ := firstE_zero hb
     obtain ⟨hs1, hs2⟩ := namedF_zero hs0
     have htl : (textL s).length ≤ 26 := by
      unfold textL
      rw [List.length_append, strL_length]
      have := varL_len (s.size : Int)
      omega
     repeat (first | refine qs_ ?_ | refine qa_ ?_ | refine qo_ ?_ | refine qd_ ?_ | refine za ?_ | refine zb fun _ _ => ?_ | refine zc ?_ | refine ya ?_ | refine yb fun _ _ => ?_ | refine yc ?_ | refine qk_ ?_ | refine qb_ ?_ | refine qx_ ?_)
     refine o_new rfl rfl rfl ⟨(0, fun _ => False), trivial⟩ ⟨trivial, trivial⟩ (fun xw _ => ?_)
     repeat (first | refine qs_ ?_ | refine qa_ ?_ | refine qo_ ?_ | refine qd_ ?_ | refine za ?_ | refine zb fun _ _ => ?_ | refine zc ?_ | refine ya ?_ | refine yb fun _ _ => ?_ | refine yc ?_ | refine qk_ ?_ | refine qb_ ?_ | refine qx_ ?_)
     refine o_new rfl rfl rfl ⟨fun _ => False, trivial⟩ ?hc (fun S3 _ => ?_)
     case hc => (repeat' (first | exact hvr | apply And.intro)) <;> (first | trivial | rfl | exact Nat.zero_lt_one | decide | (simp; done) | (simp; omega))
     have hpl := putL_length ([letter] ++ textL s) x
     have hpl2 : ([letter] ++ textL s).length = 1 + (textL s).length := by rw [List.length_append]; rfl
     refine o_le (tm' := [(11, none, .ptr ⟨20, 0, xw.1, 0, 3, 0, 0, 0, false⟩)]) (M' := [(20, wrB xw.1 (putL ([letter] ++ textL s) x) S3)]) ?_ ?_
     ·
      exact leQ
     repeat (first | refine qs_ ?_ | refine qa_ ?_ | refine qo_ ?_ | refine qd_ ?_ | refine za ?_ | refine zb fun _ _ => ?_ | refine zc ?_ | refine ya ?_ | refine yb fun _ _ => ?_ | refine yc ?_ | refine qk_ ?_ | refine qb_ ?_ | refine qx_ ?_)
     rename_i y hy
     refine s_ret ?_
     refine ⟨_, _, Le.refl, ?_⟩
     refine ⟨_, _, rfl, ⟨trivial, trivial, trivial⟩, rfl, y, (by rw [hr]; exact hy), ?_, ⟨⟨_, rfl, ?_⟩, fun _ h => h⟩, trivial⟩
     ·
      rw [hr]; rfl
     ·
      rw [hr]; exact Blk.le_refl _
   ·
    cases h0
  ·
   cases h0
 ·
  cases h0
theorem said_body : HasBody Tryz.prog 109 := ⟨_, Tryz.func109, rfl, by decide⟩
def vbC (tag : Nat) (args : List AV) (_M : MemF) : Option Res := match args with
 | [.v (.string s), V] => match decV V with
  | some x => some ⟨Option Nat × Nat, VR x, fun y => (saidR 86 s (plainV x) x).1.length ≤ y.2, fun y => resB tag y (saidR 86 s (plainV x) x), [tag], fun y => [.vrow y.1 5 1 (saidR 86 s (plainV x) x).1.length (vl (saidR 86 s (plainV x) x).1) y.2]⟩
  | none => none
 | _ => none
def ctVb : CtL := [(77, plainC)]
theorem ctVb_ok : CtLOk Tryz.prog ctVb := ⟨.fn plain_body plain_read, trivial⟩
def crVb : CrL := [(109, saidC)]
theorem crVb_ok : CrLOk Tryz.prog crVb := ⟨⟨said_body, said_turn⟩, trivial⟩
theorem vb_turn : TurnFn Tryz.prog 54 vbC := by
 intro tag args M r h0 hok O w0 w hS
 unfold vbC at h0
 split at h0
 ·
  rename_i s V
  split at h0
  ·
   rename_i x hx
   cases h0
   have hx := decV_enc hx
   subst hx
   have hvr : VR x := hok
   refine turn_new tabs2 ctVb_ok crVb_ok Tryz.func54 rfl rfl hS _ [] [10] rfl trivial trivial (by decide) rfl ?_
   repeat (first | refine qs_ ?_ | refine qa_ ?_ | refine qo_ ?_ | refine qd_ ?_ | refine za ?_ | refine zb fun _ _ => ?_ | refine zc ?_ | refine ya ?_ | refine yb fun _ _ => ?_ | refine yc ?_ | refine qk_ ?_ | refine qb_ ?_ | refine qx_ ?_)
   refine o_new rfl rfl rfl ⟨(none, _), Nat.le_refl _⟩ ?hc (fun y hy => ?_)
   case hc => (repeat' (first | exact hvr | apply And.intro)) <;> (first | trivial | rfl | exact Nat.zero_lt_one | decide)
   repeat (first | refine qs_ ?_ | refine qa_ ?_ | refine qo_ ?_ | refine qd_ ?_ | refine za ?_ | refine zb fun _ _ => ?_ | refine zc ?_ | refine ya ?_ | refine yb fun _ _ => ?_ | refine yc ?_ | refine qk_ ?_ | refine qb_ ?_ | refine qx_ ?_)
   refine s_ret ?_
   exact ⟨_, _, rfl, ⟨trivial, trivial, trivial⟩, rfl, y, hy, rfl, ⟨⟨_, rfl, Blk.le_refl _⟩, fun _ h => h⟩, trivial⟩
  ·
   cases h0
 ·
  cases h0
theorem vb_body : HasBody Tryz.prog 54 := ⟨_, Tryz.func54, rfl, by decide⟩
def dorB (v : Int) : Int := IntKind.u8.wrap (IntKind.u64.wrap (v.tmod 128 + 128))
def dshr (v : Int) : Int := IntKind.u64.wrap (v.tdiv 128)
def dvarP : Nat → Int → List Int
 | 0, v => [IntKind.u8.wrap v]
 | n + 1, v => if decide (v ≥ 128) = true then dorB v :: dvarP n (dshr v) else [IntKind.u8.wrap v]
theorem dvarP_small {n : Nat} {v : Int} (h : ¬ v ≥ 128) : dvarP n v = [IntKind.u8.wrap v] := by
 cases n with
 | zero => rfl
 | succ n => unfold dvarP; rw [if_neg (by simpa using h)]
theorem dshr_eq {v : Int} (h0 : 0 ≤ v) (h1 : v < 18446744073709551616) : dshr v = v / 128 := by
 unfold dshr
 rw [Int.tdiv_eq_ediv_of_nonneg h0, wu64 (by omega) (by omega)]
theorem u8_mod (v : Int) : IntKind.u8.wrap v = v % 256 := by
 unfold IntKind.wrap
 simp only [IntKind.signed, IntKind.bits, Bool.false_and, Bool.false_eq_true, if_false]
 rfl
theorem or128 : ∀ m : Fin 256, (BitVec.ofInt 8 (m.1 : Int) ||| BitVec.ofInt 8 128).toNat = m.1 % 128 + 128 := by decide
theorem orB_eq {v : Int} (h0 : 0 ≤ v) (h1 : v < 18446744073709551616) : orB v = dorB v := by
 unfold orB dorB
 rw [u8_mod v, Int.tmod_eq_emod_of_nonneg h0, wu64 (n := v % 128 + 128) (by omega) (by omega)]
 obtain ⟨m, hm⟩ : ∃ m : Fin 256, v % 256 = (m.1 : Int) := ⟨⟨(v % 256).toNat, by omega⟩, by simp; omega⟩
 rw [hm, or128 m]
 congr 1
 omega
theorem dvar_eq : ∀ (n : Nat) (v : Int), 0 ≤ v → v < 18446744073709551616 → dvarP n v = varP n v
 | 0, _, _, _ => rfl
 | n + 1, v, h0, h1 => by
  unfold dvarP varP
  split
  ·
   rw [orB_eq h0 h1, dshr_eq h0 h1, shr7_eq, dvar_eq n (v / 128) (by omega) (by omega)]
  ·
   rfl
def bytesR (tag : Nat) (l : List Int) (ok : Prop) : Res := ⟨Option Nat × Nat, ok, fun y => l.length ≤ y.2, fun y => .gs tag 0 (ownB y.1) 1 0 l.length y.2, [tag], fun y => [.vrow y.1 5 1 l.length (vl l) y.2]⟩
def dvarC (tag : Nat) (args : List AV) (_M : MemF) : Option Res := match args with
 | [.v (.int .u64 v)] => some (bytesR tag (varL v) (0 ≤ v ∧ v < 18446744073709551616))
 | _ => none
theorem dvar_turn : TurnFn Tryz.prog 118 dvarC := by
 intro tag args M r h0 hok O w0 w hS
 unfold dvarC at h0
 split at h0
 ·
  rename_i v
  cases h0
  obtain ⟨hv0, hv1⟩ := hok
  refine turn_new tabs2 (ct := []) trivial (cr := []) trivial Tryz.func118 rfl rfl hS _ [] [12] rfl trivial trivial (by decide) rfl ?_
  repeat (first | refine qs_ ?_ | refine qa_ ?_ | refine qo_ ?_ | refine qd_ ?_ | refine za ?_ | refine zb fun _ _ => ?_ | refine zc ?_ | refine ya ?_ | refine yb fun _ _ => ?_ | refine yc ?_ | refine qk_ ?_ | refine qb_ ?_ | refine qx_ ?_)
  refine s_le (le_nil (t := 3) (n := 12) 5 1 (vl []) rfl rfl) ?_
  refine s_loopW (α := Nat × Int × List Int × Option Nat × Nat) [0, 3, 4, 5, 6, 7, 8, 9, 10, 11, 12, 13, 14] [12] (fun x => 0 ≤ x.2.1 ∧ x.2.1 < 18446744073709551616 ∧ x.2.1 < 128 ^ (x.1 + 1) ∧ x.2.2.1 ++ dvarP x.1 x.2.1 = dvarP 9 v ∧ x.2.2.1.length + x.1 ≤ 9 ∧ x.2.2.1.length ≤ x.2.2.2.2) (fun x => [(0, none, .v (.int .u64 x.2.1)), (3, none, .gs 12 0 (ownB x.2.2.2.1) 1 0 x.2.2.1.length x.2.2.2.2)]) (fun x => [(12, .vrow x.2.2.2.1 5 1 x.2.2.1.length (vl x.2.2.1) x.2.2.2.2)]) (fun x => x.1) (9, v, [], none, 0) ⟨hv0, hv1, by dsimp only; omega, rfl, Nat.le_refl 9, Nat.le_refl 0⟩ ?_ ?_
  ·
   exact leQ
  ·
   intro ⟨n, v2, l, a, cp⟩ ⟨g1, g2, g3, g4, g5, g6⟩
   dsimp only at g1 g2 g3 g4 g5 g6
   repeat (first | refine qs_ ?_ | refine qa_ ?_ | refine qo_ ?_ | refine qd_ ?_ | refine za ?_ | refine zb fun _ _ => ?_ | refine zc ?_ | refine ya ?_ | refine yb fun _ _ => ?_ | refine yc ?_ | refine qk_ ?_ | refine qb_ ?_ | refine qx_ ?_)
   refine s_cond (b := decide (v2 ≥ 128)) rfl (fun hb => ?_) (fun hb => ?_)
   ·
    have hge : v2 ≥ 128 := of_decide_eq_true hb
    obtain ⟨n, rfl⟩ : ∃ m, n = m + 1 := by
     cases n with
     | zero => omega
     | succ m => exact ⟨m, rfl⟩
    rw [dvarP, if_pos hb] at g4
    repeat (first | refine qs_ ?_ | refine qa_ ?_ | refine qo_ ?_ | refine qd_ ?_ | refine za ?_ | refine zb fun _ _ => ?_ | refine zc ?_ | refine ya ?_ | refine yb fun _ _ => ?_ | refine yc ?_ | refine qk_ ?_ | refine qb_ ?_ | refine qx_ ?_)
    rename_i _ _ y hy
    have hsh := dshr_eq g1 g2
    have hpow : (128 : Int) ^ (n + 1 + 1) = 128 ^ (n + 1) * 128 := Int.pow_succ _ _
    refine ⟨(n, dshr v2, l ++ [dorB v2], y.1, y.2), ⟨by dsimp only; omega, by dsimp only; omega, by dsimp only; omega, by dsimp only; rw [List.append_assoc]; exact g4, by dsimp only; rw [List.length_append]; simp; omega, by dsimp only; rw [List.length_append]; exact hy⟩, by dsimp only; omega, ?_⟩
    refine Le.of ?leT ?leM (dfs_nil rfl rfl)
    case leT => (refine And.intro (by exact rfl) ?_); (refine And.intro (gs_len (by rw [List.length_append]; rfl)) ?_); repeat (first | exact trivial | refine And.intro (by exact rfl) ?_)
    case leM => (refine And.intro ⟨_, rfl, Blk.le_vrow (by rw [List.length_append]; exact Nat.le_refl _) fun i hi => (fapp_vl (fun _ _ => rfl) (one_vl _ _) i hi).symm⟩ ?_); repeat (first | exact trivial | refine And.intro ⟨_, rfl, Blk.le_refl _⟩ ?_)
   ·
    have hlt : ¬ v2 ≥ 128 := of_decide_eq_false hb
    rw [dvarP_small hlt, dvar_eq 9 v hv0 hv1] at g4
    repeat (first | refine qs_ ?_ | refine qa_ ?_ | refine qo_ ?_ | refine qd_ ?_ | refine za ?_ | refine zb fun _ _ => ?_ | refine zc ?_ | refine ya ?_ | refine yb fun _ _ => ?_ | refine yc ?_ | refine qk_ ?_ | refine qb_ ?_ | refine qx_ ?_)
    rename_i _ _ y hy
    have hg : varL v = l ++ [IntKind.u8.wrap v2] := g4.symm
    have hgl : (varL v).length = l.length + 1 := by rw [hg, List.length_append]; rfl
    refine s_ret ?_
    refine ⟨_, _, rfl, ⟨trivial, trivial⟩, rfl, y, ?_, ?_, ⟨⟨_, rfl, ?_⟩, fun _ h => h⟩, trivial⟩
    ·
     show (varL v).length ≤ y.2
     rw [hgl]; exact hy
    ·
     show (AV.gs 12 0 (ownB y.1) 1 0 (l.length + 1) y.2).val = (AV.gs tag 0 (ownB y.1) 1 0 (varL v).length y.2).val
     rw [gs_val, gs_val, hgl]
    ·
     rw [hg]
     exact Blk.le_vrow (by rw [List.length_append]; exact Nat.le_refl _) fun i hi => (fapp_vl (fun _ _ => rfl) (one_vl _ _) i hi).symm
 ·
  cases h0
theorem dvar_body : HasBody Tryz.prog 118 := ⟨_, Tryz.func118, rfl, by decide⟩
def crNu : CrL := [(118, dvarC)]
theorem crNu_ok : CrLOk Tryz.prog crNu := ⟨⟨dvar_body, dvar_turn⟩, trivial⟩
theorem num_turn : TurnFn Tryz.prog 120 dvarC := by
 intro tag args M r h0 hok O w0 w hS
 unfold dvarC at h0
 split at h0
 ·
  rename_i v
  cases h0
  obtain ⟨hv0, hv1⟩ := hok
  refine turn_new tabs2 (ct := []) trivial crNu_ok Tryz.func120 rfl rfl hS _ [] [4] rfl trivial trivial (by decide) rfl ?_
  repeat (first | refine qs_ ?_ | refine qa_ ?_ | refine qo_ ?_ | refine qd_ ?_ | refine za ?_ | refine zb fun _ _ => ?_ | refine zc ?_ | refine ya ?_ | refine yb fun _ _ => ?_ | refine yc ?_ | refine qk_ ?_ | refine qb_ ?_ | refine qx_ ?_)
  rename_i y hy
  refine s_ret ?_
  exact ⟨_, _, rfl, ⟨trivial, trivial⟩, rfl, y, hy, rfl, ⟨⟨_, rfl, Blk.le_refl _⟩, fun _ h => h⟩, trivial⟩
 ·
  cases h0
theorem num_body : HasBody Tryz.prog 120 := ⟨_, Tryz.func120, rfl, by decide⟩
def dhashC (tag : Nat) (args : List AV) (_M : MemF) : Option Res := match args with
 | [.ints .u8 32 h] => some (bytesR tag (idL h) True)
 | _ => none
theorem lof_ints (k : IntKind) (n : Nat) (h : List Int) (i : Nat) (hi : i < n) : AV.v (.int .u8 (h.getD i 0)) = vl (intsOf n fun i => .v (.int k (h.getD i 0))) i := by
 unfold vl lb
 rw [List.getD_eq_getElem?_getD (l := intsOf _ _), intsOf_get hi]; rfl
theorem dhash_turn : TurnFn Tryz.prog 121 dhashC := by
 intro tag args M r h0 hok O w0 w hS
 unfold dhashC at h0
 split at h0
 ·
  rename_i h
  cases h0
  refine turn_new tabs2 (ct := []) trivial (cr := []) trivial Tryz.func121 rfl rfl hS _ [] [3] rfl trivial trivial (by decide) rfl ?_
  repeat (first | refine qs_ ?_ | refine qa_ ?_ | refine qo_ ?_ | refine qd_ ?_ | refine za ?_ | refine zb fun _ _ => ?_ | refine zc ?_ | refine ya ?_ | refine yb fun _ _ => ?_ | refine yc ?_ | refine qk_ ?_ | refine qb_ ?_ | refine qx_ ?_)
  rename_i y hy
  have hy : 0 + 32 ≤ y.2 := hy
  refine s_ret ?_
  refine ⟨_, _, rfl, ⟨trivial, trivial⟩, rfl, y, ?_, ?_, ⟨⟨_, rfl, ?_⟩, fun _ h => h⟩, trivial⟩
  ·
   show (idL h).length ≤ y.2
   rw [idL_length]; omega
  ·
   show (AV.gs 3 0 (ownB y.1) 1 0 (0 + 32) y.2).val = (AV.gs tag 0 (ownB y.1) 1 0 (idL h).length y.2).val
   rw [gs_val, gs_val, idL_length]
  ·
   refine Blk.le_vrow (by rw [idL_length]; exact Nat.le_refl _) fun i hi => ?_
   rw [idL_length] at hi
   rw [fapp_ge (Nat.zero_le _)]
   exact (lof_ints .u8 32 h i hi).symm
 ·
  cases h0
theorem dhash_body : HasBody Tryz.prog 121 := ⟨_, Tryz.func121, rfl, by decide⟩
def dsealC (args : List AV) (_M : MemF) : Option (Prop × AV) := match args with
 | [.ints .u8 16 _, .v (.bool false)] => some (True, .v (.slice none 0 0))
 | _ => none
theorem dseal_read : ReadFn Tryz.prog 122 dsealC := by
 intro args M q res h hq O w0 w hS
 unfold dsealC at h
 split at h
 ·
  rename_i s
  cases h
  refine ro_fn tabs2 (ct := []) trivial (cr := []) trivial Tryz.func122 rfl rfl (M := []) rfl trivial trivial ?_
  repeat (first | refine qs_ ?_ | refine qa_ ?_ | refine qo_ ?_ | refine qd_ ?_ | refine za ?_ | refine zb fun _ _ => ?_ | refine zc ?_ | refine ya ?_ | refine yb fun _ _ => ?_ | refine yc ?_ | refine qk_ ?_ | refine qb_ ?_ | refine qx_ ?_)
  refine s_cond (b := false) rfl (fun h => by cases h) (fun _ => ?_)
  repeat (first | refine qs_ ?_ | refine qa_ ?_ | refine qo_ ?_ | refine qd_ ?_ | refine za ?_ | refine zb fun _ _ => ?_ | refine zc ?_ | refine ya ?_ | refine yb fun _ _ => ?_ | refine yc ?_ | refine qk_ ?_ | refine qb_ ?_ | refine qx_ ?_)
  refine s_ret ?_
  exact ⟨_, _, rfl, ⟨trivial, trivial⟩, rfl, rfl⟩
 ·
  cases h
theorem dseal_body : HasBody Tryz.prog 122 := ⟨_, Tryz.func122, rfl, by decide⟩
def seqs (M : MemF) (f : Nat → AV) : Nat → Nat → Option (Prop × List (List Int))
 | 0, _ => some (True, [])
 | n + 1, k => match seqOf M (f k), seqs M f n (k + 1) with
  | some (c, es, m, fx), some (q, ls) => some ((c ∧ (m ≠ 0 → es = 1) ∧ m ≤ 100000 ∧ ∀ i, i < m → fx i = .v (.int .u8 (fx i).int1)) ∧ q, lof (fun i => (fx i).int1) m :: ls)
  | _, _ => none
theorem seqs_spec {O : Nat → Prop} {w0 w : World} {M : MemF} (hS : Sat O w0 M w) {f : Nat → AV} : ∀ {n k : Nat} {q : Prop} {ls : List (List Int)}, seqs M f n k = some (q, ls) → q → ls.length = n ∧ ∀ j, j < n → (ls.getD j []).length ≤ 100000 ∧ ∃ z : Option (Nat × Nat) × Nat, (f (k + j)).cells = (roS 0 z.1 1 (ls.getD j []).length z.2).cells ∧ (roB z.1 1 (ls.getD j []).length (vl (ls.getD j []))).holds w
 | 0, k, q, ls, h, _ => by
  cases h
  exact ⟨rfl, fun j hj => by omega⟩
 | n + 1, k, q, ls, h, hq => by
  simp only [seqs] at h
  split at h
  ·
   rename_i c es m fx q' ls' h1 h2
   cases h
   obtain ⟨⟨a1, a2, a3, a4⟩, hq'⟩ := hq
   obtain ⟨e1, e2⟩ := seqs_spec hS h2 hq'
   refine ⟨by rw [List.length_cons, e1], fun j hj => ?_⟩
   cases j with
   | zero =>
    obtain ⟨base, cap, hv, hro⟩ := bytes_ro hS h1 a1 a2 a4
    have e0 : (lof (fun i => (fx i).int1) m :: ls').getD 0 [] = lof (fun i => (fx i).int1) m := rfl
    rw [e0, lof_length]
    refine ⟨a3, (base, cap), slice_cells h1 hv, ?_⟩
    refine fun ix => ⟨(hro ix).1, fun b o hb i hi => ?_⟩
    have := (hro ix).2 b o hb i hi
    have e : vl (lof (fun i => (fx i).int1) m) i = .v (.int .u8 (fx i).int1) := by unfold vl; rw [lof_get _ hi]
    obtain ⟨t1, t2, t3⟩ := this
    exact ⟨(congrArg AV.size e).trans t1, (congrArg AV.one e).trans t2, fun k hk => (t3 k hk).trans (congrArg (fun a => a.cells[k]?) e.symm)⟩
   | succ j =>
    have := e2 j (by omega)
    rw [show k + (j + 1) = k + 1 + j by omega]
    exact this
  ·
   cases h
def joinDC (tag : Nat) (args : List AV) (M : MemF) : Option Res := match args with
 | [Y] => match seqOf M Y with
  | some (c, es, n, f) => match seqs M f n 0 with
   | some (q, ls) => some (bytesR tag ls.flatten ((c ∧ (n ≠ 0 → es = 1)) ∧ q ∧ n ≤ 1000))
   | none => none
  | none => none
 | _ => none
theorem flat_succ {ls : List (List Int)} {k : Nat} (hk : k < ls.length) : (ls.take (k + 1)).flatten = (ls.take k).flatten ++ ls.getD k [] := by
 rw [List.take_succ_eq_append_getElem hk, List.flatten_append, List.flatten_cons, List.flatten_nil, List.append_nil, List.getD_eq_getElem?_getD, List.getElem?_eq_getElem hk]; rfl
theorem flat_take (ls : List (List Int)) : ∀ k, (ls.take k).flatten.length ≤ k * 100000 ∨ ∃ j, j < ls.length ∧ ¬ (ls.getD j []).length ≤ 100000 := by
 intro k
 induction k with
 | zero => exact .inl (Nat.zero_le _)
 | succ k ih =>
  rcases ih with ih | ih
  ·
   by_cases hk : k < ls.length
   ·
    by_cases hl : (ls.getD k []).length ≤ 100000
    ·
     refine .inl ?_
     rw [flat_succ hk, List.length_append]
     omega
    ·
     exact .inr ⟨k, hk, hl⟩
   ·
    refine .inl ?_
    have e1 : ls.take (k + 1) = ls := List.take_of_length_le (by omega)
    have e2 : ls.take k = ls := List.take_of_length_le (by omega)
    rw [e1]
    rw [e2] at ih
    clear e1 e2
    exact Nat.le_trans ih (Nat.mul_le_mul_right 100000 (Nat.le_succ k))
  ·
   exact .inr ih
theorem joinD_turn : TurnFn Tryz.prog 119 joinDC := by
 intro tag args M r h0 hok O w0 w hS
 unfold joinDC at h0
 split at h0
 ·
  rename_i Y
  split at h0
  ·
   rename_i c es n f hsq
   split at h0
   ·
    rename_i q ls hls
    cases h0
    obtain ⟨⟨c1, c2⟩, hq, hn⟩ := hok
    obtain ⟨hlen, hel⟩ := seqs_spec hS hls hq
    obtain ⟨baseY, capY, hvY, hY⟩ := seqOf_spec hS hsq c1
    have hcl : ∀ j : Nat, ∃ z : Option (Nat × Nat) × Nat, (j < n → (f j).cells = (roS 0 z.1 1 (ls.getD j []).length z.2).cells) ∧ (roB z.1 1 (ls.getD j []).length (vl (ls.getD j []))).holds w := fun j => by
     by_cases hj : j < n
     ·
      obtain ⟨z, h1, h2⟩ := (hel j hj).2
      rw [Nat.zero_add] at h1
      exact ⟨z, fun _ => h1, h2⟩
     ·
      refine ⟨(none, 0), fun h => absurd h hj, ?_⟩
      have e : ls.getD j [] = [] := by rw [List.getD_eq_getElem?_getD, List.getElem?_eq_none (by omega)]; rfl
      rw [e]
      exact fun _ => ⟨fun _ => rfl, fun _ _ h => (by cases h)⟩
    obtain ⟨z, hz⟩ := Classical.axiomOfChoice hcl
    have hro1 : (roB baseY 1 n fun k => .gs 901 k (z k).1 1 0 (ls.getD k []).length (z k).2).holds w := roB_holds fun h0 => by
     obtain ⟨b, o, e1, e2⟩ := hY h0
     have he := c2 h0
     subst he
     refine ⟨b, o, e1, fun i hi => ⟨rfl, rfl, fun k hk => ?_⟩⟩
     have hg := (e2 i hi).2.2 k hk
     rw [(hz i).1 hi] at hg
     rw [hg]
     have e : (roS 0 (z i).1 1 (ls.getD i []).length (z i).2).cells = (AV.gs 901 i (z i).1 1 0 (ls.getD i []).length (z i).2).cells := rfl
     rw [e]
    have hro2 : (Blk.vro 1 (fun k => (z k).1) (fun k => (ls.getD k []).length) (fun k => vl (ls.getD k []))).holds w := fun ix => (hz ix).2 0
    rw [show [Y].map AV.val = [roS 900 baseY 1 n capY].map AV.val by simp only [List.map_cons, List.map_nil, hvY, roS_val]]
    refine turn_new tabs2 (ct := []) trivial (cr := []) trivial Tryz.func119 rfl rfl hS _ [(900, roB baseY 1 n fun k => .gs 901 k (z k).1 1 0 (ls.getD k []).length (z k).2), (901, .vro 1 (fun k => (z k).1) (fun k => (ls.getD k []).length) (fun k => vl (ls.getD k [])))] [16] rfl ⟨hro1, hro2, trivial⟩ ⟨roB_noOwn, fun _ h => h, trivial⟩ (by decide) rfl ?_
    repeat (first | refine qs_ ?_ | refine qa_ ?_ | refine qo_ ?_ | refine qd_ ?_ | refine za ?_ | refine zb fun _ _ => ?_ | refine zc ?_ | refine ya ?_ | refine yb fun _ _ => ?_ | refine yc ?_ | refine qk_ ?_ | refine qb_ ?_ | refine qx_ ?_)
    refine s_le (le_nil (t := 3) (n := 16) 5 1 (vl []) rfl rfl) ?_
    refine s_loopW (α := Nat × Option Nat × Nat) [3, 4, 5, 6, 7, 8, 9, 10, 11, 12, 13, 14, 15, 16] [16] (fun x => x.1 ≤ n ∧ (ls.take x.1).flatten.length ≤ x.2.2) (fun x => [(4, none, .v (.int .i64 x.1)), (3, none, .gs 16 0 (ownB x.2.1) 1 0 (ls.take x.1).flatten.length x.2.2)]) (fun x => [(16, .vrow x.2.1 5 1 (ls.take x.1).flatten.length (vl (ls.take x.1).flatten) x.2.2)]) (fun x => n - x.1) (0, none, 0) ⟨Nat.zero_le _, Nat.le_refl 0⟩ ?_ ?_
    ·
     exact leQ
    ·
     intro ⟨k, a, cp⟩ ⟨hk, hcp⟩
     dsimp only at hk hcp
     repeat (first | refine qs_ ?_ | refine qa_ ?_ | refine qo_ ?_ | refine qd_ ?_ | refine za ?_ | refine zb fun _ _ => ?_ | refine zc ?_ | refine ya ?_ | refine yb fun _ _ => ?_ | refine yc ?_ | refine qk_ ?_ | refine qb_ ?_ | refine qx_ ?_)
     refine s_cond (b := decide ((k : Int) < (n : Int))) rfl (fun hb => ?_) (fun hb => ?_)
     ·
      have hkn : k < n := by have := of_decide_eq_true hb; omega
      have hl1 := (hel k hkn).1
      have hfl : (ls.take k).flatten.length ≤ k * 100000 := by
       rcases flat_take ls k with h | ⟨j, hj, h⟩
       ·
        exact h
       ·
        exact absurd (hel j (by omega)).1 h
      repeat (first | refine qs_ ?_ | refine qa_ ?_ | refine qo_ ?_ | refine qd_ ?_ | refine za ?_ | refine zb fun _ _ => ?_ | refine zc ?_ | refine ya ?_ | refine yb fun _ _ => ?_ | refine yc ?_ | refine qk_ ?_ | refine qb_ ?_ | refine qx_ ?_)
      refine o_new rfl rfl rfl ⟨(none, _), Nat.le_refl _⟩ ?hc (fun y hy => ?_)
      case hc =>
       refine ⟨⟨⟨rfl, rfl, Nat.le_of_eq (Nat.zero_add _)⟩, fun _ => rfl⟩, ⟨⟨rfl, rfl, rfl, rfl, rfl⟩, Nat.le_refl _, rfl⟩, ?_⟩
       show ((ls.take k).flatten.length + (ls.getD k []).length) * 1 ≤ 140737488355328
       omega
      repeat (first | refine qs_ ?_ | refine qa_ ?_ | refine qo_ ?_ | refine qd_ ?_ | refine za ?_ | refine zb fun _ _ => ?_ | refine zc ?_ | refine ya ?_ | refine yb fun _ _ => ?_ | refine yc ?_ | refine qk_ ?_ | refine qb_ ?_ | refine qx_ ?_)
      have hfs := flat_succ (ls := ls) (k := k) (by omega)
      have hfl2 : (ls.take k).flatten.length + (ls.getD k []).length = (ls.take (k + 1)).flatten.length := by rw [hfs, List.length_append]
      refine ⟨(k + 1, y.1, y.2), ⟨by dsimp only; omega, by dsimp only; rw [← hfl2]; exact hy⟩, by dsimp only; omega, ?_⟩
      refine Le.of ?leT ?leM (dfs_nil rfl rfl)
      case leT => (refine And.intro (by show some (none, AV.v (.int .i64 (IntKind.i64.wrap _))) = _; rw [wi64 (by omega) (by omega)]; rfl) ?_); (refine And.intro (gs_len hfl2) ?_); repeat (first | exact trivial | refine And.intro (by exact rfl) ?_)
      case leM => (refine And.intro ⟨_, rfl, Blk.le_vrow (Nat.le_of_eq hfl2.symm) fun i hi => (by show vl (ls.take (k + 1)).flatten i = _; rw [hfs]; exact (fapp_vl (fun _ _ => rfl) (fun _ _ => rfl) i (by rw [← hfs]; exact hi)).symm)⟩ ?_); repeat (first | exact trivial | refine And.intro ⟨_, rfl, Blk.le_refl _⟩ ?_)
     ·
      have hkn : k = n := by have := of_decide_eq_false hb; omega
      subst hkn
      have hall : (ls.take k).flatten = ls.flatten := by rw [List.take_of_length_le (by omega)]
      repeat (first | refine qs_ ?_ | refine qa_ ?_ | refine qo_ ?_ | refine qd_ ?_ | refine za ?_ | refine zb fun _ _ => ?_ | refine zc ?_ | refine ya ?_ | refine yb fun _ _ => ?_ | refine yc ?_ | refine qk_ ?_ | refine qb_ ?_ | refine qx_ ?_)
      refine s_ret ?_
      refine ⟨_, _, rfl, ⟨trivial, trivial⟩, rfl, (a, cp), ?_, ?_, ⟨⟨_, rfl, ?_⟩, fun _ h => h⟩, trivial⟩
      ·
       show ls.flatten.length ≤ cp
       rw [← hall]; exact hcp
      ·
       show (AV.gs 16 0 (ownB a) 1 0 (ls.take k).flatten.length cp).val = (AV.gs tag 0 (ownB a) 1 0 ls.flatten.length cp).val
       rw [gs_val, gs_val, hall]
      ·
       rw [← hall]; exact Blk.le_refl _
   ·
    cases h0
  ·
   cases h0
 ·
  cases h0
theorem joinD_body : HasBody Tryz.prog 119 := ⟨_, Tryz.func119, rfl, by decide⟩
def dtextC (tag : Nat) (args : List AV) (_M : MemF) : Option Res := match args with
 | [.v (.string s)] => some (bytesR tag (textL s) (s.size ≤ 100000 ∧ True))
 | _ => none
theorem dtext_turn : TurnFn Tryz.prog 65 dtextC := by
 intro tag args M r h0 hok O w0 w hS
 unfold dtextC at h0
 split at h0
 ·
  rename_i s
  cases h0
  obtain ⟨hsz, _⟩ := hok
  have hw : IntKind.u64.wrap (s.size : Int) = (s.size : Int) := wu64 (by omega) (by omega)
  refine turn_new tabs2 (ct := []) trivial crNu_ok Tryz.func65 rfl rfl hS _ [] [6] rfl trivial trivial (by decide) rfl ?_
  repeat (first | refine qs_ ?_ | refine qa_ ?_ | refine qo_ ?_ | refine qd_ ?_ | refine za ?_ | refine zb fun _ _ => ?_ | refine zc ?_ | refine ya ?_ | refine yb fun _ _ => ?_ | refine yc ?_ | refine qk_ ?_ | refine qb_ ?_ | refine qx_ ?_)
  rename_i y hy
  refine o_sbytes rfl rfl rfl rfl rfl rfl rfl rfl rfl rfl rfl rfl fun b cap hcap => ?_
  refine o_freeze (n := 8) rfl rfl fun H h1 h2 => ⟨[(8, roB (some (b, 0)) 1 s.size (strAt s))], ⟨rfl, ⟨roB_noOwn, trivial⟩, fun w hw => ⟨roB_holds fun _ => ⟨b, 0, rfl, h2.reads hw⟩, trivial⟩, ?_⟩, ?_⟩
  ·
   intro m B k hm hr
   rw [Mem.get_cons] at hm
   split at hm
   ·
    cases hm
    obtain ⟨_, ix, o, _, hb⟩ := hr
    cases hb
    obtain ⟨c, z, h3, _⟩ := h2
    rw [h3]; simp
   ·
    cases hm
  have hvl := varL_len (IntKind.u64.wrap (s.size : Int))
  repeat (first | refine qs_ ?_ | refine qa_ ?_ | refine qo_ ?_ | refine qd_ ?_ | refine za ?_ | refine zb fun _ _ => ?_ | refine zc ?_ | refine ya ?_ | refine yb fun _ _ => ?_ | refine yc ?_ | refine qk_ ?_ | refine qb_ ?_ | refine qx_ ?_)
  rename_i y2 hy2
  have hln : (varL (IntKind.u64.wrap (s.size : Int))).length + s.size = (textL s).length := by unfold textL; rw [List.length_append, strL_length, hw]
  have htx : textL s = varL (IntKind.u64.wrap (s.size : Int)) ++ strL s := by rw [hw]; rfl
  have hfx : ∀ i, i < (varL (IntKind.u64.wrap (s.size : Int)) ++ strL s).length → fapp (varL (IntKind.u64.wrap (s.size : Int))).length (vl (varL (IntKind.u64.wrap (s.size : Int)))) (fun i => strAt s (i + 0)) i = vl (varL (IntKind.u64.wrap (s.size : Int)) ++ strL s) i :=
   fapp_vl (fun _ _ => rfl) (fun i hi => by
    unfold vl lb strL strAt
    rw [strL_length] at hi
    rw [List.getD_eq_getElem?_getD, List.getD_eq_getElem?_getD, List.getElem?_map, Nat.add_zero, List.getElem?_eq_getElem (by simpa using hi)]
    rfl)
  refine s_ret ?_
  refine ⟨_, _, rfl, ⟨trivial, trivial⟩, rfl, y2, ?_, ?_, ⟨⟨_, rfl, ?_⟩, fun _ h => h⟩, trivial⟩
  ·
   show (textL s).length ≤ y2.2
   rw [← hln]; exact hy2
  ·
   show (AV.gs 6 0 (ownB y2.1) 1 0 ((varL (IntKind.u64.wrap (s.size : Int))).length + s.size) y2.2).val = (AV.gs tag 0 (ownB y2.1) 1 0 (textL s).length y2.2).val
   rw [gs_val, gs_val, hln]
  ·
   refine Blk.le_vrow (Nat.le_of_eq hln.symm) fun i hi => ?_
   rw [htx] at hi ⊢
   exact (hfx i hi).symm
 ·
  cases h0
theorem dtext_body : HasBody Tryz.prog 65 := ⟨_, Tryz.func65, rfl, by decide⟩
def dvoteL (x : Vote) : List Int := [[IntKind.u8.wrap x.kind], varL x.height, varL (IntKind.u64.wrap x.round), idL x.id, varL x.time, varL x.from_, []].flatten
def dvoteC (tag : Nat) (args : List AV) (_M : MemF) : Option Res := match args with
 | [V, .v (.bool false)] => match decV V with
  | some x => some (bytesR tag (dvoteL x) (VR x))
  | none => none
 | _ => none
def crVo : CrL := [(120, dvarC), (121, dhashC), (119, joinDC)]
theorem crVo_ok : CrLOk Tryz.prog crVo := ⟨⟨num_body, num_turn⟩, ⟨dhash_body, dhash_turn⟩, ⟨joinD_body, joinD_turn⟩, trivial⟩
def ctVo : CtL := [(122, dsealC)]
theorem ctVo_ok : CtLOk Tryz.prog ctVo := ⟨.fn dseal_body dseal_read, trivial⟩
theorem dvote_turn : TurnFn Tryz.prog 66 dvoteC := by
 intro tag args M r h0 hok O w0 w hS
 unfold dvoteC at h0
 split at h0
 ·
  rename_i V
  split at h0
  ·
   rename_i x hx
   cases h0
   have hx := decV_enc hx
   subst hx
   obtain ⟨⟨g1, g2⟩, ⟨g3, g4⟩, g5, g6⟩ := hok
   obtain ⟨r1, r2⟩ := u64_rng x.round
   refine turn_new tabs2 ctVo_ok crVo_ok Tryz.func66 rfl rfl hS _ [] [30] rfl trivial trivial (by decide) rfl ?_
   repeat (first | refine qs_ ?_ | refine qa_ ?_ | refine qo_ ?_ | refine qd_ ?_ | refine za ?_ | refine zb fun _ _ => ?_ | refine zc ?_ | refine ya ?_ | refine yb fun _ _ => ?_ | refine yc ?_ | refine qk_ ?_ | refine qb_ ?_ | refine qx_ ?_)
   have v1 := varL_len x.height
   have v2 := varL_len (IntKind.u64.wrap x.round)
   have v3 := varL_len x.time
   have v4 := varL_len x.from_
   have v5 : (idL x.id).length ≤ 32 := by rw [idL_length]; exact Nat.le_refl _
   refine s_draw rD66_1 rM66_1 [] rN66_1 rfl rfl ?_
   repeat (first | refine qs_ ?_ | refine qa_ ?_ | refine qo_ ?_ | refine qd_ ?_ | refine za ?_ | refine zb fun _ _ => ?_ | refine zc ?_ | refine ya ?_ | refine yb fun _ _ => ?_ | refine yc ?_ | refine qk_ ?_ | refine qb_ ?_ | refine qx_ ?_)
   refine d_new rfl rfl rfl ⟨(none, _), Nat.le_refl _⟩ ?hc (fun y hy => ?_)
   case hc => (repeat' apply And.intro) <;> (first | trivial | rfl | omega | exact one_int1 _ _ | (intros; rfl) | (intros; omega))
   repeat (first | refine qs_ ?_ | refine qa_ ?_ | refine qo_ ?_ | refine qd_ ?_ | refine za ?_ | refine zb fun _ _ => ?_ | refine zc ?_ | refine ya ?_ | refine yb fun _ _ => ?_ | refine yc ?_ | refine qk_ ?_ | refine qb_ ?_ | refine qx_ ?_)
   have hfin : ([lof (fun i => ((AV.cons (.v (.int .u8 (IntKind.u8.wrap x.kind))) .nil).nthA (i + 0)).int1) 1, lof (lb (varL x.height)) (varL x.height).length, lof (lb (varL (IntKind.u64.wrap x.round))) (varL (IntKind.u64.wrap x.round)).length, lof (lb (idL x.id)) (idL x.id).length, lof (lb (varL x.time)) (varL x.time).length, lof (lb (varL x.from_)) (varL x.from_).length, lof (fun _ => 0) 0] : List (List Int)).flatten = dvoteL x := by
    unfold dvoteL
    rw [lof_lb, lof_lb, lof_lb, lof_lb, lof_lb]
    rfl
   refine s_ret ?_
   refine ⟨_, _, rfl, ⟨trivial, trivial⟩, rfl, y, ?_, ?_, ⟨⟨_, rfl, ?_⟩, fun _ h => h⟩, trivial⟩
   ·
    show (dvoteL x).length ≤ y.2
    rw [← hfin]; exact hy
   ·
    show _ = (AV.gs tag 0 (ownB y.1) 1 0 (dvoteL x).length y.2).val
    rw [← hfin]; rfl
   ·
    show Blk.le _ (.vrow y.1 5 1 (dvoteL x).length (vl (dvoteL x)) y.2)
    rw [← hfin]
    exact Blk.le_refl _
  ·
   cases h0
 ·
  cases h0
theorem dvote_body : HasBody Tryz.prog 66 := ⟨_, Tryz.func66, rfl, by decide⟩
end Go.Proofs.YtofophjfgalhaaaGreatDoor.V
