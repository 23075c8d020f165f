import Derived.Test.YtofophjfgalhaaaGreatDoorMisdeedPoolsW12
import Derived.Test.YtofophjfgalhaaaGreatDoorMisdeedPoolsW17
import Derived.Test.YtofophjfgalhaaaGreatDoorMisdeedPoolsW31
set_option linter.unusedVariables false
set_option linter.unusedSimpArgs false
set_option maxRecDepth 100000
set_option maxHeartbeats 8000000
namespace Go.Proofs.YtofophjfgalhaaaGreatDoor.V
open Go Go.RowKit
structure Wld where
 nR : Nat
 nQ : Nat
 bR : Nat
 bQ : Nat
 ents : List (Int × Nat)
 dents : List (Int × Nat)
 recs : List (Int × ByteArray)
def wldV (M : MemF) (pw : Pt) : Option (Prop × Wld) := match ptrOf M pw true 4 with
 | some (c0, .agg (.cons (.ptr pR) (.cons (.ptr pQ) (.cons X (.cons Y .nil))))) => match regOf M pR, docOf M pQ, seqOf M X, seqOf M Y with
  | some (c1, bR, ents, recs, _), some (c2, bQ, dents, drecs, _), some (c3, es1, n1, f1), some (c4, es2, n2, f2) =>
   some ((c0 ∧ c1 ∧ c2 ∧ c3 ∧ c4) ∧ ((n1 ≠ 0 → es1 = 1) ∧ (n2 ≠ 0 → es2 = 1) ∧ n1 = ents.length ∧ n2 = ents.length) ∧ (dents.map (·.1) = ents.map (·.1) ∧ drecs = recs ∧ ents.length ≤ 17592186044416) ∧
    ((∀ i, i < n1 → (f1 i).cells = (sigP (ents.getD i (0, 0)).2).cells) ∧ ∀ i, i < n2 → (f2 i).cells = (sigP (dents.getD i (0, 0)).2).cells) ∧
    (pw.n ≠ pR.n ∧ pw.n ≠ pQ.n ∧ pR.n ≠ pQ.n ∧ tagNe pR.n X = true ∧ tagNe pQ.n X = true ∧ tagNe pR.n Y = true ∧ tagNe pQ.n Y = true), ⟨pR.n, pQ.n, bR, bQ, ents, dents, recs⟩)
  | _, _, _, _ => none
 | _ => none
def wldA (bR bQ : Nat) (x1 : Option (Nat × Nat)) (n c1 : Nat) (x2 : Option (Nat × Nat)) (c2 : Nat) : AV := .agg (.cons (.ptr ⟨900, 0, bR, 0, 5, 0, 0, 0, false⟩) (.cons (.ptr ⟨901, 0, bQ, 0, 3, 0, 0, 0, false⟩) (.cons (.gs 903 0 x1 1 0 n c1) (.cons (.gs 904 0 x2 1 0 n c2) .nil))))
def sgE (tag : Nat) (l : List (Int × Nat)) (i : Nat) : AV := .ptr ⟨tag, i, (l.getD i (0, 0)).2, 0, 2, 0, 0, 0, false⟩
theorem sgE_cells (tag : Nat) (l : List (Int × Nat)) (i : Nat) : (sgE tag l i).cells = (sigP (l.getD i (0, 0)).2).cells := rfl
abbrev wldM (pw : Pt) (W : Wld) (x1 : Option (Nat × Nat)) (c1 : Nat) (x2 : Option (Nat × Nat)) (c2 : Nat) : Mem := [(902, roB (some (pw.b, pw.cell)) 4 1 fun _ => wldA W.bR W.bQ x1 W.ents.length c1 x2 c2), (903, roB x1 1 W.ents.length (sgE 900 W.ents)), (904, roB x2 1 W.ents.length (sgE 901 W.dents))]
theorem wld_open {O : Nat → Prop} {w0 w : World} {M : MemF} (hS : Sat O w0 M w) {pw : Pt} {c : Prop} {W : Wld} (h : wldV M pw = some (c, W)) (hc : c) :
  (∃ S1 S2 x1 c1 x2 c2, M W.nR = some (regB W.bR W.ents W.recs S1) ∧ M W.nQ = some (docB W.bQ W.dents W.recs S2) ∧ (AV.ptr pw).val = (roP 902 pw.b pw.cell 4).val ∧ allHold w (wldM pw W x1 c1 x2 c2) ∧ apartL (regB W.bR W.ents W.recs S1) (wldM pw W x1 c1 x2 c2) ∧ apartL (docB W.bQ W.dents W.recs S2) (wldM pw W x1 c1 x2 c2)) ∧ W.nR ≠ W.nQ ∧ W.dents.map (·.1) = W.ents.map (·.1) ∧ W.ents.length ≤ 17592186044416 := by
 unfold wldV at h
 split at h
 ·
  rename_i c0 pR pQ X Y hpw
  split at h
  ·
   rename_i c1 bR ents recs S1 c2 bQ dents drecs S2 c3 es1 n1 f1 c4 es2 n2 f2 h1 h2 h3 h4
   cases h
   obtain ⟨⟨q0, q1, q2, q3, q4⟩, ⟨r1, r2, rfl, rfl⟩, ⟨r5, rfl, r6⟩, ⟨s1, s2⟩, t1, t2, t3, t4, t5, t6, t7⟩ := hc
   obtain ⟨hM1, hv1⟩ := regOf_spec h1 q1
   obtain ⟨hM2, hv2⟩ := docOf_spec h2 q2
   have hR := ptrOf_spec (g := true) hS hpw q0
   obtain ⟨x1, cap1, e1, f3⟩ := seqOf_spec hS h3 q3
   obtain ⟨x2, cap2, e2, f4⟩ := seqOf_spec hS h4 q4
   refine ⟨⟨S1, S2, x1, cap1, x2, cap2, hM1, hM2, pt_ro pw 902 4, ⟨roB_holds fun _ => ⟨_, _, rfl, hR.recell fun i _ => ⟨?_, rfl⟩⟩, roB_holds fun h0 => ?_, roB_holds fun h0 => ?_, trivial⟩, ⟨?_, ?_, ?_, trivial⟩, ⟨?_, ?_, ?_, trivial⟩⟩, t3, r5, r6⟩
   ·
    simp only [wldA, AV.cells_agg, AV.cells_cons, seq_cells h3, seq_cells h4, e1, e2]
    have g1 : (AV.gs 903 0 x1 1 0 ents.length cap1).cells = [slV x1 ents.length cap1] := by rw [← roS_val 903 x1 1 ents.length cap1]; rfl
    have g2 : (AV.gs 904 0 x2 1 0 ents.length cap2).cells = [slV x2 ents.length cap2] := by rw [← roS_val 904 x2 1 ents.length cap2]; rfl
    have g3 : (AV.ptr pR).cells = (AV.ptr ⟨900, 0, bR, 0, 5, 0, 0, 0, false⟩).cells := congrArg (fun v => [v]) (hv1 900)
    have g4 : (AV.ptr pQ).cells = (AV.ptr ⟨901, 0, bQ, 0, 3, 0, 0, 0, false⟩).cells := congrArg (fun v => [v]) (hv2 901)
    rw [g1, g2, g3, g4]
   ·
    obtain ⟨b, o, hb, hR1⟩ := f3 h0
    rw [r1 h0] at hR1
    exact ⟨b, o, hb, hR1.recell fun i hi => ⟨(s1 i hi).symm, rfl⟩⟩
   ·
    obtain ⟨b, o, hb, hR1⟩ := f4 h0
    rw [r2 h0] at hR1
    exact ⟨b, o, hb, hR1.recell fun i hi => ⟨(s2 i hi).symm, rfl⟩⟩
   ·
    exact ptr_apart hS hpw q0 (by decide) hM1 t1
   ·
    exact ro_apart hS h3 q3 r1 hM1 t4 e1
   ·
    exact ro_apart hS h4 q4 r2 hM1 t6 e2
   ·
    exact ptr_apart hS hpw q0 (by decide) hM2 t2
   ·
    exact ro_apart hS h3 q3 r1 hM2 t5 e1
   ·
    exact ro_apart hS h4 q4 r2 hM2 t7 e2
  ·
   cases h
 ·
  cases h
def seal1 : List Int := lset 16 (List.replicate 16 0) 0 1
def withS (x : Vote) (s : List Int) : Vote := { x with sig := s }
def msgL (nm : ByteArray) (x : Vote) : List Int := (dsaidR nm (withS x seal1)).1
def msgE (nm : ByteArray) (x : Vote) : Int := (dsaidR nm (withS x seal1)).2
def msgS (nm : ByteArray) (x : Vote) : ByteArray := strOf (msgL nm x).length (vl (msgL nm x))
def sgK (K : List Int) (nm : ByteArray) (x : Vote) : List Int := ofF K b0L x.from_ (fun i => (vl (msgL nm x) i).int1) (msgL nm x).length
def sldV (K : List Int) (nm : ByteArray) (aa : List Int) (x : Vote) (right : Bool) : Vote := if (msgE nm x != 0 || !right) = true then withS x seal1 else if knownF aa x.from_ = true then withS x (sgK K nm x) else withS x seal1
def sldR (nm : ByteArray) (aa : List Int) (recs : List (Int × ByteArray)) (x : Vote) (right : Bool) : List (Int × ByteArray) := if (msgE nm x != 0 || !right) = true then recs else if knownF aa x.from_ = true then addR recs (x.from_, msgS nm x) else recs
def sldC (_tag : Nat) (args : List AV) (M : MemF) : Option Res := match args, M 100002, M 100003, M 100004 with
 | [.ptr pw, .v (.string nm), V, .v (.bool right)], some (.var 2 (.ints .u32 64 K2)), some (.var 3 (.ints .u32 8 B0)), some (.var 4 (.ints .u32 64 K)) => match decV V, wldV M pw with
  | some x, some (c, W) => some ⟨(Nat → Prop) × (Nat → Prop), c ∧ VR x ∧ W.recs.length ≤ 3999999999990 ∧ K2 = K ∧ B0 = b0L, fun _ => True, fun _ => .tup (.cons (encV (sldV K nm (W.ents.map (·.1)) x right)) (.cons (.v (.bool true)) .nil)), [W.nR, W.nQ], fun z => [regB W.bR W.ents (sldR nm (W.ents.map (·.1)) W.recs x right) z.1, docB W.bQ W.dents (sldR nm (W.ents.map (·.1)) W.recs x right) z.2]⟩
  | _, _ => none
 | _, _, _, _ => none
theorem hasR_add (recs : List (Int × ByteArray)) (r : Int × ByteArray) : hasR (addR recs r) r = true := by
 unfold addR
 split
 ·
  assumption
 ·
  exact hasR_iff.2 (List.mem_append_right _ (.head _))
theorem addR_idem (recs : List (Int × ByteArray)) (r : Int × ByteArray) : addR (addR recs r) r = addR recs r := by
 rw [show addR (addR recs r) r = if hasR (addR recs r) r then addR recs r else addR recs r ++ [r] from rfl, if_pos (hasR_add recs r)]
theorem addR_len (recs : List (Int × ByteArray)) (r : Int × ByteArray) : (addR recs r).length ≤ recs.length + 1 := by
 unfold addR
 split
 ·
  omega
 ·
  simp
def kn (l : List (Int × Nat)) (a : Int) (k : Nat) : Bool := (l.take k).any fun e => e.1 == a
theorem kn_succ {l : List (Int × Nat)} {a : Int} {k : Nat} (h : k < l.length) : kn l a (k + 1) = (kn l a k || ((l.getD k (0, 0)).1 == a)) := by
 unfold kn
 rw [List.take_add_one, List.getElem?_eq_getElem h, List.any_append, List.getD_eq_getElem?_getD, List.getElem?_eq_getElem h]
 simp
theorem kn_all (l : List (Int × Nat)) (a : Int) : kn l a l.length = knownF (l.map (·.1)) a := by
 unfold kn knownF
 rw [List.take_length, List.any_map]; rfl
theorem dent_at {d e : List (Int × Nat)} (h : d.map (·.1) = e.map (·.1)) (k : Nat) : (d.getD k (0, 0)).1 = (e.getD k (0, 0)).1 := by
 have := congrArg (fun l => l[k]?) h
 simp only [List.getElem?_map] at this
 rw [List.getD_eq_getElem?_getD, List.getD_eq_getElem?_getD]
 cases h1 : d[k]? <;> cases h2 : e[k]? <;> simp [h1, h2] at this ⊢
 exact this
def sgA (K : List Int) (nm : ByteArray) (ents : List (Int × Nat)) (x : Vote) (k : Nat) : List Int := if kn ents x.from_ k = true then sgK K nm x else seal1
def rcA (nm : ByteArray) (ents : List (Int × Nat)) (recs : List (Int × ByteArray)) (x : Vote) (k : Nat) : List (Int × ByteArray) := if kn ents x.from_ k = true then addR recs (x.from_, msgS nm x) else recs
theorem rcA_len (nm : ByteArray) (ents : List (Int × Nat)) (recs : List (Int × ByteArray)) (x : Vote) (k : Nat) : (rcA nm ents recs x k).length ≤ recs.length + 1 := by
 unfold rcA
 split
 ·
  exact addR_len _ _
 ·
  omega
theorem rcA_hit {nm : ByteArray} {ents : List (Int × Nat)} {recs : List (Int × ByteArray)} {x : Vote} {k : Nat} (hk : k < ents.length) (h : (ents.getD k (0, 0)).1 = x.from_) : rcA nm ents recs x (k + 1) = addR (rcA nm ents recs x k) ((ents.getD k (0, 0)).1, msgS nm x) := by
 have h1 : kn ents x.from_ (k + 1) = true := by rw [kn_succ hk, h]; simp
 unfold rcA
 rw [if_pos h1, h]
 split
 ·
  rw [addR_idem]
 ·
  rfl
theorem kn_miss {ents : List (Int × Nat)} {a : Int} {k : Nat} (hk : k < ents.length) (h : ((ents.getD k (0, 0)).1 == a) = false) : kn ents a (k + 1) = kn ents a k := by
 rw [kn_succ hk, h, Bool.or_false]
theorem intsEq_self (n : Nat) (l : List Int) : intsEq n l l = true := by unfold intsEq; simp
def ctSl : CtL := [(72, addrC)]
theorem ctSl_ok : CtLOk Tryz.prog ctSl := ⟨.fn addr_body addr_read, trivial⟩
def crSl : CrL := [(14, dvbC), (73, signC), (74, dsignC)]
theorem crSl_ok : CrLOk Tryz.prog crSl := ⟨⟨dvb_body, dvb_turn⟩, ⟨sign_body, sign_turn⟩, ⟨dsign_body, dsign_turn⟩, trivial⟩
theorem sld_turn : TurnFn Tryz.prog 45 sldC := by
 intro tag args M r h0 hok O w0 w hS
 unfold sldC at h0
 split at h0
 ·
  rename_i pw nm V right K2 B0 K hM2 hM3 hM4
  split at h0
  ·
   rename_i x c W hx hw
   have hx := decV_enc hx
   subst hx
   cases h0
   obtain ⟨hc, hvr, hrl, rfl, rfl⟩ := hok
   obtain ⟨⟨S1, S2, x1, c1, x2, c2, hMR, hMQ, hv, hall, ha1, ha2⟩, hne, hde, hel⟩ := wld_open hS hw hc
   obtain ⟨nR, nQ, bR, bQ, ents, dents, recs⟩ := W
   dsimp only at hMR hMQ hall ha1 ha2 hne hde hel hrl
   have hvr1 : VR (withS x seal1) := hvr
   have hG : ∀ {B : Blk}, (∃ k, M k = some B) → (∀ j, B.reads j → ¬ (regB bR ents recs S1).own j) ∧ ∀ j, B.reads j → ¬ (docB bQ dents recs S2).own j := fun ⟨k, hk⟩ => ⟨fun j hr ho => hS.roapart _ _ _ _ _ hMR hk ho hr, fun j hr ho => hS.roapart _ _ _ _ _ hMQ hk ho hr⟩
   rw [show [AV.ptr pw, .v (.string nm), encV x, .v (.bool right)].map AV.val = [roP 902 pw.b pw.cell 4, .v (.string nm), encV x, .v (.bool right)].map AV.val by simp only [List.map_cons, List.map_nil, hv]]
   refine turn_two tabs2 ctSl_ok crSl_ok Tryz.func45 rfl rfl hS _ hMR hMQ hne (C1 := regB bR ents recs S1) (C2 := docB bQ dents recs S2) [(902, roB (some (pw.b, pw.cell)) 4 1 fun _ => wldA bR bQ x1 ents.length c1 x2 c2), (903, roB x1 1 ents.length (sgE 900 ents)), (904, roB x2 1 ents.length (sgE 901 dents)), (100002, .var 2 (.ints .u32 64 K2)), (100003, .var 3 (.ints .u32 8 b0L)), (100004, .var 4 (.ints .u32 64 K2))] rfl rfl (hS.holds _ _ hMR) (fun _ h => h) (fun _ h => h) (hS.holds _ _ hMQ) (fun _ h => h) (fun _ h => h) ⟨hall.1, hall.2.1, hall.2.2.1, hS.holds _ _ hM2, hS.holds _ _ hM3, hS.holds _ _ hM4, trivial⟩ ⟨roB_noOwn, roB_noOwn, roB_noOwn, fun _ h => h, fun _ h => h, fun _ h => h, trivial⟩ ⟨ha1.1, ha1.2.1, ha1.2.2.1, (hG ⟨_, hM2⟩).1, (hG ⟨_, hM3⟩).1, (hG ⟨_, hM4⟩).1, trivial⟩ ⟨ha2.1, ha2.2.1, ha2.2.2.1, (hG ⟨_, hM2⟩).2, (hG ⟨_, hM3⟩).2, (hG ⟨_, hM4⟩).2, trivial⟩ ?_
   repeat (first | refine qs_ ?_ | refine qa_ ?_ | refine qo_ ?_ | refine qd_ ?_ | refine za ?_ | refine zb fun _ _ => ?_ | refine zc ?_ | refine ya ?_ | refine yb fun _ _ => ?_ | refine yc ?_ | refine qk_ ?_ | refine qb_ ?_ | refine qx_ ?_)
   refine o_new rfl rfl rfl ⟨(none, _), Nat.le_refl _⟩ ?hc (fun yy hyy => ?_)
   case hc => (repeat' (first | exact hvr1 | apply And.intro)) <;> (first | trivial | rfl | exact Nat.zero_lt_one | decide)
   rename_i b6 _ b8 _
   refine o_le (tm' := [(22, none, okB 22 yy (msgL nm x) (msgE nm x)), (9, none, .v (.bool false)), (8, none, .ptr ⟨8, 0, b8, 0, row43.size, 0, 0, 0, false⟩), (6, none, .ptr ⟨6, 0, b6, 0, row43.size, 0, 0, 0, false⟩), (0, none, roP 902 pw.b pw.cell 4), (3, none, .v (.bool right))]) (M' := [(22, .vrow yy.1 5 1 (msgL nm x).length (vl (msgL nm x)) yy.2), (8, .row b8 43 row43.size 1 (fun _ => row43.zero) 1), (6, .row b6 43 row43.size 1 (fun _ => encV (withS x seal1)) 1), (900, regB bR ents recs S1), (901, docB bQ dents recs S2), (902, roB (some (pw.b, pw.cell)) 4 1 fun _ => wldA bR bQ x1 ents.length c1 x2 c2), (903, roB x1 1 ents.length (sgE 900 ents)), (904, roB x2 1 ents.length (sgE 901 dents)), (100002, .var 2 (.ints .u32 64 K2)), (100003, .var 3 (.ints .u32 8 b0L)), (100004, .var 4 (.ints .u32 64 K2))]) ?_ ?_
   ·
    exact leQ
   repeat (first | refine qs_ ?_ | refine qa_ ?_ | refine qo_ ?_ | refine qd_ ?_ | refine za ?_ | refine zb fun _ _ => ?_ | refine zc ?_ | refine ya ?_ | refine yb fun _ _ => ?_ | refine yc ?_ | refine qk_ ?_ | refine qb_ ?_ | refine qx_ ?_)
   have hml : (msgL nm x).length ≤ 200 := dsaid_len nm (withS x seal1)
   have hdl : dents.length = ents.length := by simpa using congrArg List.length hde
   refine s_cond (b := (msgE nm x != 0 || !right)) rfl (fun hT => ?_) (fun hT => ?_)
   ·
    have hRr : sldR nm (ents.map (·.1)) recs x right = recs := by unfold sldR; rw [if_pos hT]
    repeat (first | refine qs_ ?_ | refine qa_ ?_ | refine qo_ ?_ | refine qd_ ?_ | refine za ?_ | refine zb fun _ _ => ?_ | refine zc ?_ | refine ya ?_ | refine yb fun _ _ => ?_ | refine yc ?_ | refine qk_ ?_ | refine qb_ ?_ | refine qx_ ?_)
    refine s_ret ?_
    refine ⟨_, _, rfl, ⟨⟨⟨rfl, rfl, rfl, Nat.zero_lt_one⟩, rfl⟩, trivial, trivial⟩, rfl, (S1, S2), trivial, ?_, ⟨⟨_, rfl, le_regR hRr⟩, fun _ h => h⟩, ⟨⟨_, rfl, le_docR hRr⟩, fun _ h => h⟩, trivial⟩
    show (AV.tup (.cons (encV (withS x seal1)) (.cons (.v (.bool true)) .nil))).val = (AV.tup (.cons (encV (sldV K2 nm (ents.map (·.1)) x right)) (.cons (.v (.bool true)) .nil))).val
    rw [sldV, if_pos hT]
   have hT' : ¬ (msgE nm x != 0 || !right) = true := by rw [hT]; decide
   repeat (first | refine qs_ ?_ | refine qa_ ?_ | refine qo_ ?_ | refine qd_ ?_ | refine za ?_ | refine zb fun _ _ => ?_ | refine zc ?_ | refine ya ?_ | refine yb fun _ _ => ?_ | refine yc ?_ | refine qk_ ?_ | refine qb_ ?_ | refine qx_ ?_)
   refine s_le (tm' := [(12, none, .v (.int .i64 0)), (10, none, .gs 22 0 (ownB yy.1) 1 0 (msgL nm x).length yy.2), (8, none, .ptr ⟨8, 0, b8, 0, row43.size, 0, 0, 0, false⟩), (6, none, .ptr ⟨6, 0, b6, 0, row43.size, 0, 0, 0, false⟩), (0, none, roP 902 pw.b pw.cell 4)]) (M' := [(22, .vrow yy.1 5 1 (msgL nm x).length (vl (msgL nm x)) yy.2), (8, .row b8 43 row43.size 1 (fun _ => row43.zero) 1), (6, .row b6 43 row43.size 1 (fun _ => encV (withS x seal1)) 1), (900, regB bR ents recs S1), (901, docB bQ dents recs S2), (902, roB (some (pw.b, pw.cell)) 4 1 fun _ => wldA bR bQ x1 ents.length c1 x2 c2), (903, roB x1 1 ents.length (sgE 900 ents)), (904, roB x2 1 ents.length (sgE 901 dents)), (100002, .var 2 (.ints .u32 64 K2)), (100003, .var 3 (.ints .u32 8 b0L)), (100004, .var 4 (.ints .u32 64 K2))]) ?_ ?_
   ·
    exact leQ
   refine s_loopW (α := Nat × (Nat → Prop) × (Nat → Prop)) [12] [6, 900, 901] (fun z => z.1 ≤ ents.length) (fun z => [(12, none, .v (.int .i64 z.1))]) (fun z => [(6, .row b6 43 row43.size 1 (fun _ => encV (withS x (sgA K2 nm ents x z.1))) 1), (900, regB bR ents (rcA nm ents recs x z.1) z.2.1), (901, docB bQ dents (rcA nm ents recs x z.1) z.2.2)]) (fun z => ents.length - z.1) (0, S1, S2) (Nat.zero_le _) ?_ ?_
   ·
    exact leQ
   ·
    intro ⟨k, T1, T2⟩ hk
    dsimp only at hk
    have hrc := rcA_len nm ents recs x k
    repeat (first | refine qs_ ?_ | refine qa_ ?_ | refine qo_ ?_ | refine qd_ ?_ | refine za ?_ | refine zb fun _ _ => ?_ | refine zc ?_ | refine ya ?_ | refine yb fun _ _ => ?_ | refine yc ?_ | refine qk_ ?_ | refine qb_ ?_ | refine qx_ ?_)
    refine s_cond (b := decide ((k : Int) < (ents.length : Int))) rfl (fun hb2 => ?_) (fun hb2 => ?_)
    ·
     have hk8 : k < ents.length := by have := of_decide_eq_true hb2; omega
     repeat (first | refine qs_ ?_ | refine qa_ ?_ | refine qo_ ?_ | refine qd_ ?_ | refine za ?_ | refine zb fun _ _ => ?_ | refine zc ?_ | refine ya ?_ | refine yb fun _ _ => ?_ | refine yc ?_ | refine qk_ ?_ | refine qb_ ?_ | refine qx_ ?_)
     refine s_draw rD45_8 rM45_8 rX45_8 rN45_8 rfl rfl ?_
     repeat (first | refine qs_ ?_ | refine qa_ ?_ | refine qo_ ?_ | refine qd_ ?_ | refine za ?_ | refine zb fun _ _ => ?_ | refine zc ?_ | refine ya ?_ | refine yb fun _ _ => ?_ | refine yc ?_ | refine qk_ ?_ | refine qb_ ?_ | refine qx_ ?_)
     refine s_cond (b := ((dents.getD k (0, 0)).1 == x.from_)) rfl (fun h9 => ?_) (fun h9 => ?_)
     ·
      have h9d : (dents.getD k (0, 0)).1 = x.from_ := by simpa using h9
      have h9e : (ents.getD k (0, 0)).1 = x.from_ := by rw [← dent_at hde]; exact h9d
      have hkd : k < dents.length := by rw [hdl]; exact hk8
      obtain ⟨SA, hSA⟩ : ∃ l, l = sgK K2 nm x := ⟨_, rfl⟩
      have hs1 : seaF K2 b0L (ents.getD k (0, 0)).1 (fun i => (vl (msgL nm x) i).int1) (msgL nm x).length = SA := by rw [sea_of _ _ _ _ _ (by omega), h9e, hSA]; rfl
      have hs2 : ofF K2 b0L (dents.getD k (0, 0)).1 (fun i => (vl (msgL nm x) i).int1) (msgL nm x).length = SA := by rw [h9d, hSA]; rfl
      repeat ((fail_if_success (first | refine o_at 73 ?_ | refine d_at 73 ?_)); (first | refine qs_ ?_ | refine qa_ ?_ | refine qo_ ?_ | refine qd_ ?_ | refine za ?_ | refine zb fun _ _ => ?_ | refine zc ?_ | refine ya ?_ | refine yb fun _ _ => ?_ | refine yc ?_ | refine qk_ ?_ | refine qb_ ?_ | refine qx_ ?_))
      refine o_new rfl rfl rfl ⟨fun _ => False, trivial⟩ ?hc1 (fun T3 _ => ?_)
      case hc1 => exact ⟨by (repeat' apply And.intro) <;> trivial, ⟨rfl, hk8, rfl, rfl, rfl, rfl, rfl, rfl⟩, ⟨⟨rfl, rfl, Nat.le_of_eq (Nat.zero_add _)⟩, fun _ => rfl, Nat.le_trans hml (by decide), fun _ _ => rfl⟩, rfl, Nat.le_trans hrc (by omega)⟩
      refine o_le (le_val (t := 61) (av' := (AV.tup (.cons (.ints .u8 16 SA) (.cons (.v (.int .i64 0)) .nil)))) rfl (by show _ = (AV.tup (.cons (.ints .u8 16 (seaF K2 b0L (ents.getD k (0, 0)).1 (fun i => (vl (msgL nm x) i).int1) (msgL nm x).length)) (.cons (.v (.int .i64 0)) .nil))).val; rw [hs1])) ?_
      repeat ((fail_if_success (first | refine o_at 74 ?_ | refine d_at 74 ?_)); (first | refine qs_ ?_ | refine qa_ ?_ | refine qo_ ?_ | refine qd_ ?_ | refine za ?_ | refine zb fun _ _ => ?_ | refine zc ?_ | refine ya ?_ | refine yb fun _ _ => ?_ | refine yc ?_ | refine qk_ ?_ | refine qb_ ?_ | refine qx_ ?_))
      refine o_new rfl rfl rfl ⟨fun _ => False, trivial⟩ ?hc2 (fun T4 _ => ?_)
      case hc2 => exact ⟨by (repeat' apply And.intro) <;> trivial, ⟨rfl, hkd, rfl, rfl, rfl, rfl, rfl, rfl⟩, ⟨⟨rfl, rfl, Nat.le_of_eq (Nat.zero_add _)⟩, fun _ => rfl, Nat.le_trans hml (by decide), fun _ _ => rfl⟩, rfl, Nat.le_trans hrc (by omega)⟩
      refine o_le (le_val (t := 73) (av' := (AV.tup (.cons (.ints .u8 16 SA) (.cons (.v (.int .i64 0)) .nil)))) rfl (by show _ = (AV.tup (.cons (.ints .u8 16 (ofF K2 b0L (dents.getD k (0, 0)).1 (fun i => (vl (msgL nm x) i).int1) (msgL nm x).length)) (.cons (.v (.int .i64 0)) .nil))).val; rw [hs2])) ?_
      repeat (first | refine qs_ ?_ | refine qa_ ?_ | refine qo_ ?_ | refine qd_ ?_ | refine za ?_ | refine zb fun _ _ => ?_ | refine zc ?_ | refine ya ?_ | refine yb fun _ _ => ?_ | refine yc ?_ | refine qk_ ?_ | refine qb_ ?_ | refine qx_ ?_)
      refine s_cond rfl (fun hb => ?_) (fun _ => ?_)
      ·
       exfalso
       have hb3 : (!(intsEq 16 SA SA) || ((0 : Int) != 0)) = true := hb
       rw [intsEq_self] at hb3
       cases hb3
      ·
       repeat (first | refine qs_ ?_ | refine qa_ ?_ | refine qo_ ?_ | refine qd_ ?_ | refine za ?_ | refine zb fun _ _ => ?_ | refine zc ?_ | refine ya ?_ | refine yb fun _ _ => ?_ | refine yc ?_ | refine qk_ ?_ | refine qb_ ?_ | refine qx_ ?_)
       have hsg : sgA K2 nm ents x (k + 1) = SA := by
        unfold sgA
        rw [if_pos (by rw [kn_succ hk8, h9e]; simp), hSA]
       have hrh := rcA_hit (nm := nm) (recs := recs) (x := x) hk8 h9e
       have hrd : rcA nm ents recs x (k + 1) = addR (rcA nm ents recs x k) ((dents.getD k (0, 0)).1, msgS nm x) := by rw [dent_at hde]; exact hrh
       refine ⟨(k + 1, T3, T4), hk8, by dsimp only; omega, ?_⟩
       refine Le.of ?leT ?leM (by first | exact dfs_nil rfl rfl | exact rfl)
       (case leT => repeat (first | exact trivial | refine And.intro (by first | exact rfl | (show some (none, AV.v (.int .i64 (IntKind.i64.wrap _))) = _; rw [wi64 (by omega) (by omega)]; rfl)) ?_))
       case leM => exact ⟨⟨_, rfl, Blk.le_row (Nat.le_refl _) fun i _ => (by show encV (withS x (sgA K2 nm ents x (k + 1))) = _; rw [hsg]; rfl)⟩, ⟨_, rfl, le_regR hrh⟩, ⟨_, rfl, le_docR hrd⟩, ⟨_, rfl, Blk.le_refl _⟩, ⟨_, rfl, Blk.le_refl _⟩, ⟨_, rfl, Blk.le_refl _⟩, ⟨_, rfl, Blk.le_refl _⟩, ⟨_, rfl, Blk.le_refl _⟩, ⟨_, rfl, Blk.le_refl _⟩, ⟨_, rfl, Blk.le_refl _⟩, ⟨_, rfl, Blk.le_refl _⟩, trivial⟩
     ·
      have h9e : ((ents.getD k (0, 0)).1 == x.from_) = false := by rw [← dent_at hde]; exact h9
      repeat (first | refine qs_ ?_ | refine qa_ ?_ | refine qo_ ?_ | refine qd_ ?_ | refine za ?_ | refine zb fun _ _ => ?_ | refine zc ?_ | refine ya ?_ | refine yb fun _ _ => ?_ | refine yc ?_ | refine qk_ ?_ | refine qb_ ?_ | refine qx_ ?_)
      have hkm := kn_miss hk8 h9e
      refine ⟨(k + 1, T1, T2), hk8, by dsimp only; omega, ?_⟩
      refine Le.of ?leT ?leM (by first | exact dfs_nil rfl rfl | exact rfl)
      (case leT => repeat (first | exact trivial | refine And.intro (by first | exact rfl | (show some (none, AV.v (.int .i64 (IntKind.i64.wrap _))) = _; rw [wi64 (by omega) (by omega)]; rfl)) ?_))
      case leM => exact ⟨⟨_, rfl, Blk.le_row (Nat.le_refl _) fun i _ => (by show encV (withS x (sgA K2 nm ents x (k + 1))) = encV (withS x (sgA K2 nm ents x k)); unfold sgA; rw [hkm])⟩, ⟨_, rfl, le_regR (by unfold rcA; rw [hkm])⟩, ⟨_, rfl, le_docR (by unfold rcA; rw [hkm])⟩, ⟨_, rfl, Blk.le_refl _⟩, ⟨_, rfl, Blk.le_refl _⟩, ⟨_, rfl, Blk.le_refl _⟩, ⟨_, rfl, Blk.le_refl _⟩, ⟨_, rfl, Blk.le_refl _⟩, ⟨_, rfl, Blk.le_refl _⟩, ⟨_, rfl, Blk.le_refl _⟩, ⟨_, rfl, Blk.le_refl _⟩, trivial⟩
    ·
     have hk8 : k = ents.length := by have := of_decide_eq_false hb2; omega
     subst hk8
     repeat (first | refine qs_ ?_ | refine qa_ ?_ | refine qo_ ?_ | refine qd_ ?_ | refine za ?_ | refine zb fun _ _ => ?_ | refine zc ?_ | refine ya ?_ | refine yb fun _ _ => ?_ | refine yc ?_ | refine qk_ ?_ | refine qb_ ?_ | refine qx_ ?_)
     have hVv : withS x (sgA K2 nm ents x ents.length) = sldV K2 nm (ents.map (·.1)) x right := by
      unfold sgA sldV
      rw [if_neg hT', kn_all]
      split <;> rfl
     have hRr : sldR nm (ents.map (·.1)) recs x right = rcA nm ents recs x ents.length := by
      unfold sldR rcA
      rw [if_neg hT', kn_all]
     refine s_ret ?_
     refine ⟨_, _, rfl, ⟨⟨⟨rfl, rfl, rfl, Nat.zero_lt_one⟩, rfl⟩, trivial, trivial⟩, rfl, (T1, T2), trivial, ?_, ⟨⟨_, rfl, le_regR hRr⟩, fun _ h => h⟩, ⟨⟨_, rfl, le_docR hRr⟩, fun _ h => h⟩, trivial⟩
     show (AV.tup (.cons (encV (withS x (sgA K2 nm ents x ents.length))) (.cons (.v (.bool true)) .nil))).val = (AV.tup (.cons (encV (sldV K2 nm (ents.map (·.1)) x right)) (.cons (.v (.bool true)) .nil))).val
     rw [hVv]
  ·
   cases h0
 ·
  cases h0
theorem sld_body : HasBody Tryz.prog 45 := ⟨_, Tryz.func45, rfl, by decide⟩
structure Two where
 a : Vote
 b : Vote
 sa : Bool
 sb : Bool
 turned : Bool
def encT (t : Two) : AV := .agg (.cons (encV t.a) (.cons (encV t.b) (.cons (.agg (.cons (.v (.bool t.sa)) (.cons (.v (.bool t.sb)) .nil))) (.cons (.v (.bool t.turned)) .nil))))
def decT : AV → Option Two
 | .agg (.cons A (.cons B (.cons (.agg (.cons (.v (.bool sa)) (.cons (.v (.bool sb)) .nil))) (.cons (.v (.bool tu)) .nil)))) => match decV A, decV B with
  | some a, some b => some ⟨a, b, sa, sb, tu⟩
  | _, _ => none
 | _ => none
theorem decT_enc {v : AV} {t : Two} (h : decT v = some t) : v = encT t := by
 unfold decT at h
 split at h
 ·
  split at h
  ·
   rename_i h1 h2
   cases h
   rw [decV_enc h1, decV_enc h2]; rfl
  ·
   cases h
 ·
  cases h
def shA (K : List Int) (nm : ByteArray) (aa : List Int) (t : Two) : Vote := sldV K nm aa t.a t.sa
def shB (K : List Int) (nm : ByteArray) (aa : List Int) (t : Two) : Vote := sldV K nm aa t.b t.sb
def shR1 (nm : ByteArray) (aa : List Int) (recs : List (Int × ByteArray)) (t : Two) : List (Int × ByteArray) := sldR nm aa recs t.a t.sa
def shR (nm : ByteArray) (aa : List Int) (recs : List (Int × ByteArray)) (t : Two) : List (Int × ByteArray) := sldR nm aa (shR1 nm aa recs t) t.b t.sb
def shE (K : List Int) (nm : ByteArray) (aa : List Int) (t : Two) : Vote × Vote := if (belowF (shB K nm aa t).id (shA K nm aa t).id 32 0 != t.turned) = true then (shB K nm aa t, shA K nm aa t) else (shA K nm aa t, shB K nm aa t)
theorem sldR_len (nm : ByteArray) (aa : List Int) (recs : List (Int × ByteArray)) (x : Vote) (r : Bool) : (sldR nm aa recs x r).length ≤ recs.length + 1 := by
 unfold sldR
 split
 ·
  omega
 ·
  split
  ·
   exact addR_len _ _
  ·
   omega
def shC (_tag : Nat) (args : List AV) (M : MemF) : Option Res := match args, M 100002, M 100003, M 100004 with
 | [.ptr pw, .v (.string nm), T], some (.var 2 (.ints .u32 64 K2)), some (.var 3 (.ints .u32 8 B0)), some (.var 4 (.ints .u32 64 K)) => match decT T, wldV M pw with
  | some t, some (c, W) => some ⟨(Nat → Prop) × (Nat → Prop), c ∧ (VR t.a ∧ VR t.b) ∧ W.recs.length ≤ 3999999999980 ∧ K2 = K ∧ B0 = b0L, fun _ => True, fun _ => .tup (.cons (encE (shE K nm (W.ents.map (·.1)) t)) (.cons (.v (.bool true)) .nil)), [W.nR, W.nQ], fun z => [regB W.bR W.ents (shR nm (W.ents.map (·.1)) W.recs t) z.1, docB W.bQ W.dents (shR nm (W.ents.map (·.1)) W.recs t) z.2]⟩
  | _, _ => none
 | _, _, _, _ => none
def ctSh : CtL := [(46, belowC)]
theorem ctSh_ok : CtLOk Tryz.prog ctSh := ⟨.fn below_body below_read, trivial⟩
def crSh : CrL := [(45, sldC)]
theorem crSh_ok : CrLOk Tryz.prog crSh := ⟨⟨sld_body, sld_turn⟩, trivial⟩
theorem sh_turn : TurnFn Tryz.prog 11 shC := by
 intro tag args M r h0 hok O w0 w hS
 unfold shC at h0
 split at h0
 ·
  rename_i pw nm T K2 B0 K hM2 hM3 hM4
  split at h0
  ·
   rename_i t c W ht hw
   have ht := decT_enc ht
   subst ht
   cases h0
   obtain ⟨hc, ⟨hva, hvb⟩, hrl, rfl, rfl⟩ := hok
   obtain ⟨⟨S1, S2, x1, c1, x2, c2, hMR, hMQ, hv, hall, ha1, ha2⟩, hne, hde, hel⟩ := wld_open hS hw hc
   obtain ⟨nR, nQ, bR, bQ, ents, dents, recs⟩ := W
   dsimp only at hMR hMQ hall ha1 ha2 hne hde hel hrl
   have hdl : dents.length = ents.length := by simpa using congrArg List.length hde
   have hG : ∀ {B : Blk}, (∃ k, M k = some B) → (∀ j, B.reads j → ¬ (regB bR ents recs S1).own j) ∧ ∀ j, B.reads j → ¬ (docB bQ dents recs S2).own j := fun ⟨k, hk⟩ => ⟨fun j hr ho => hS.roapart _ _ _ _ _ hMR hk ho hr, fun j hr ho => hS.roapart _ _ _ _ _ hMQ hk ho hr⟩
   obtain ⟨R1, hR1⟩ : ∃ R, R = shR1 nm (ents.map (·.1)) recs t := ⟨_, rfl⟩
   obtain ⟨R2, hR2⟩ : ∃ R, R = shR nm (ents.map (·.1)) recs t := ⟨_, rfl⟩
   obtain ⟨A, hA⟩ : ∃ A, A = shA K2 nm (ents.map (·.1)) t := ⟨_, rfl⟩
   obtain ⟨B, hB⟩ : ∃ B, B = shB K2 nm (ents.map (·.1)) t := ⟨_, rfl⟩
   have hR1l : R1.length ≤ 3999999999990 := by rw [hR1]; exact Nat.le_trans (sldR_len _ _ _ _ _) (by omega)
   rw [show [AV.ptr pw, .v (.string nm), encT t].map AV.val = [roP 902 pw.b pw.cell 4, .v (.string nm), encT t].map AV.val by simp only [List.map_cons, List.map_nil, hv]]
   refine turn_two tabs2 ctSh_ok crSh_ok Tryz.func11 rfl rfl hS _ hMR hMQ hne (C1 := regB bR ents recs S1) (C2 := docB bQ dents recs S2) [(902, roB (some (pw.b, pw.cell)) 4 1 fun _ => wldA bR bQ x1 ents.length c1 x2 c2), (903, roB x1 1 ents.length (sgE 900 ents)), (904, roB x2 1 ents.length (sgE 901 dents)), (100002, .var 2 (.ints .u32 64 K2)), (100003, .var 3 (.ints .u32 8 b0L)), (100004, .var 4 (.ints .u32 64 K2))] rfl rfl (hS.holds _ _ hMR) (fun _ h => h) (fun _ h => h) (hS.holds _ _ hMQ) (fun _ h => h) (fun _ h => h) ⟨hall.1, hall.2.1, hall.2.2.1, hS.holds _ _ hM2, hS.holds _ _ hM3, hS.holds _ _ hM4, trivial⟩ ⟨roB_noOwn, roB_noOwn, roB_noOwn, fun _ h => h, fun _ h => h, fun _ h => h, trivial⟩ ⟨ha1.1, ha1.2.1, ha1.2.2.1, (hG ⟨_, hM2⟩).1, (hG ⟨_, hM3⟩).1, (hG ⟨_, hM4⟩).1, trivial⟩ ⟨ha2.1, ha2.2.1, ha2.2.2.1, (hG ⟨_, hM2⟩).2, (hG ⟨_, hM3⟩).2, (hG ⟨_, hM4⟩).2, trivial⟩ ?_
   repeat ((fail_if_success (first | refine o_at 45 ?_ | refine d_at 45 ?_)); (first | refine qs_ ?_ | refine qa_ ?_ | refine qo_ ?_ | refine qd_ ?_ | refine za ?_ | refine zb fun _ _ => ?_ | refine zc ?_ | refine ya ?_ | refine yb fun _ _ => ?_ | refine yc ?_ | refine qk_ ?_ | refine qb_ ?_ | refine qx_ ?_))
   refine oB2 rfl rfl rfl ⟨(fun _ => False, fun _ => False), trivial⟩ ?hc1 (fun z1 _ => ?_)
   case hc1 => exact ⟨by (repeat' apply And.intro) <;> trivial, ⟨⟨⟨⟨rfl, rfl, Nat.zero_lt_one⟩, rfl⟩, ⟨rfl, rfl, rfl, rfl, rfl, rfl, rfl⟩, ⟨rfl, rfl, rfl, rfl, rfl, rfl, rfl⟩, ⟨rfl, rfl, Nat.le_of_eq (Nat.zero_add _)⟩, ⟨rfl, rfl, Nat.le_of_eq (Nat.zero_add _)⟩⟩, ⟨fun _ => rfl, fun _ => rfl, rfl, rfl⟩, ⟨hde, rfl, hel⟩, ⟨fun _ _ => rfl, fun _ _ => rfl⟩, (show (902 : Nat) ≠ 900 by decide), (show (902 : Nat) ≠ 901 by decide), (show (900 : Nat) ≠ 901 by decide), rfl, rfl, rfl, rfl⟩, hva, Nat.le_trans hrl (by decide), rfl, rfl⟩
   refine o_le (le_val (t := 20) (av' := .tup (.cons (encV A) (.cons (.v (.bool true)) .nil))) rfl (by rw [hA]; rfl)) ?_
   refine o_le (le_blk (k := 900) rfl rfl (le_regR (recs2 := R1) hR1)) ?_
   refine o_le (le_blk (k := 901) rfl rfl (le_docR (recs2 := R1) hR1)) ?_
   repeat ((fail_if_success (first | refine o_at 45 ?_ | refine d_at 45 ?_)); (first | refine qs_ ?_ | refine qa_ ?_ | refine qo_ ?_ | refine qd_ ?_ | refine za ?_ | refine zb fun _ _ => ?_ | refine zc ?_ | refine ya ?_ | refine yb fun _ _ => ?_ | refine yc ?_ | refine qk_ ?_ | refine qb_ ?_ | refine qx_ ?_))
   refine oB2 rfl rfl rfl ⟨(fun _ => False, fun _ => False), trivial⟩ ?hc2 (fun z2 _ => ?_)
   case hc2 => exact ⟨by (repeat' apply And.intro) <;> trivial, ⟨⟨⟨⟨rfl, rfl, Nat.zero_lt_one⟩, rfl⟩, ⟨rfl, rfl, rfl, rfl, rfl, rfl, rfl⟩, ⟨rfl, rfl, rfl, rfl, rfl, rfl, rfl⟩, ⟨rfl, rfl, Nat.le_of_eq (Nat.zero_add _)⟩, ⟨rfl, rfl, Nat.le_of_eq (Nat.zero_add _)⟩⟩, ⟨fun _ => rfl, fun _ => rfl, rfl, rfl⟩, ⟨hde, rfl, hel⟩, ⟨fun _ _ => rfl, fun _ _ => rfl⟩, (show (902 : Nat) ≠ 900 by decide), (show (902 : Nat) ≠ 901 by decide), (show (900 : Nat) ≠ 901 by decide), rfl, rfl, rfl, rfl⟩, hvb, hR1l, rfl, rfl⟩
   refine o_le (le_val (t := 31) (av' := .tup (.cons (encV B) (.cons (.v (.bool true)) .nil))) rfl (by rw [hB]; rfl)) ?_
   refine o_le (le_blk (k := 900) rfl rfl (le_regR (recs2 := R2) (by rw [hR2, hR1]; rfl))) ?_
   refine o_le (le_blk (k := 901) rfl rfl (le_docR (recs2 := R2) (by rw [hR2, hR1]; rfl))) ?_
   repeat (first | refine qs_ ?_ | refine qa_ ?_ | refine qo_ ?_ | refine qd_ ?_ | refine za ?_ | refine zb fun _ _ => ?_ | refine zc ?_ | refine ya ?_ | refine yb fun _ _ => ?_ | refine yc ?_ | refine qk_ ?_ | refine qb_ ?_ | refine qx_ ?_)
   refine s_draw rD11_3 rM11_3 rX11_3 rN11_3 rfl rfl ?_
   repeat (first | refine qs_ ?_ | refine qa_ ?_ | refine qo_ ?_ | refine qd_ ?_ | refine za ?_ | refine zb fun _ _ => ?_ | refine zc ?_ | refine ya ?_ | refine yb fun _ _ => ?_ | refine yc ?_ | refine qk_ ?_ | refine qb_ ?_ | refine qx_ ?_)
   refine s_cond (b := (belowF B.id A.id 32 0 != t.turned)) rfl (fun hb => ?_) (fun hb => ?_)
   ·
    have hE : shE K2 nm (ents.map (·.1)) t = (B, A) := by unfold shE; rw [← hA, ← hB, if_pos hb]
    repeat (first | refine qs_ ?_ | refine qa_ ?_ | refine qo_ ?_ | refine qd_ ?_ | refine za ?_ | refine zb fun _ _ => ?_ | refine zc ?_ | refine ya ?_ | refine yb fun _ _ => ?_ | refine yc ?_ | refine qk_ ?_ | refine qb_ ?_ | refine qx_ ?_)
    refine s_ret ?_
    refine ⟨_, _, rfl, ⟨⟨⟨rfl, rfl, rfl, Nat.zero_lt_one⟩, rfl⟩, trivial, trivial⟩, rfl, z2, trivial, ?_, ⟨⟨_, rfl, le_regR hR2.symm⟩, fun _ h => h⟩, ⟨⟨_, rfl, le_docR hR2.symm⟩, fun _ h => h⟩, trivial⟩
    show (AV.tup (.cons (encE (B, A)) (.cons (.v (.bool true)) .nil))).val = (AV.tup (.cons (encE (shE K2 nm (ents.map (·.1)) t)) (.cons (.v (.bool true)) .nil))).val
    rw [hE]
   ·
    have hE : shE K2 nm (ents.map (·.1)) t = (A, B) := by unfold shE; rw [← hA, ← hB, if_neg (by rw [hb]; decide)]
    repeat (first | refine qs_ ?_ | refine qa_ ?_ | refine qo_ ?_ | refine qd_ ?_ | refine za ?_ | refine zb fun _ _ => ?_ | refine zc ?_ | refine ya ?_ | refine yb fun _ _ => ?_ | refine yc ?_ | refine qk_ ?_ | refine qb_ ?_ | refine qx_ ?_)
    refine s_ret ?_
    refine ⟨_, _, rfl, ⟨⟨⟨rfl, rfl, rfl, Nat.zero_lt_one⟩, rfl⟩, trivial, trivial⟩, rfl, z2, trivial, ?_, ⟨⟨_, rfl, le_regR hR2.symm⟩, fun _ h => h⟩, ⟨⟨_, rfl, le_docR hR2.symm⟩, fun _ h => h⟩, trivial⟩
    show (AV.tup (.cons (encE (A, B)) (.cons (.v (.bool true)) .nil))).val = (AV.tup (.cons (encE (shE K2 nm (ents.map (·.1)) t)) (.cons (.v (.bool true)) .nil))).val
    rw [hE]
  ·
   cases h0
 ·
  cases h0
theorem sh_body : HasBody Tryz.prog 11 := ⟨_, Tryz.func11, rfl, by decide⟩
structure NewW where
 bW : Nat
 bR : Nat
 bQ : Nat
 ents : List (Int × Nat)
 dents : List (Int × Nat)
 S1 : Nat → Prop
 S2 : Nat → Prop
 v1 : Option Nat × Nat
 v2 : Option Nat × Nat
instance : Inhabited NewW := ⟨⟨0, 0, 0, [], [], fun _ => False, fun _ => False, (none, 0), (none, 0)⟩⟩
def wldT (tR tQ t1 t2 bR bQ n : Nat) (v1 v2 : Option Nat × Nat) : AV := .agg (.cons (.ptr ⟨tR, 0, bR, 0, 5, 0, 0, 0, false⟩) (.cons (.ptr ⟨tQ, 0, bQ, 0, 3, 0, 0, 0, false⟩) (.cons (.gs t1 0 (ownB v1.1) 1 0 n v1.2) (.cons (.gs t2 0 (ownB v2.1) 1 0 n v2.2) .nil))))
def newWC (tag : Nat) (args : List AV) (M : MemF) : Option Res := match args with
 | [X] => match seqOf M X with
  | some (c, es, n, f) => some ⟨NewW, c ∧ (n ≠ 0 → es = 1) ∧ n ≤ 17592186044415 ∧ ∀ i, i < n → f i = .v (.int .u64 (f i).int1), fun x => x.dents.map (·.1) = x.ents.map (·.1) ∧ x.ents.length ≤ n, fun x => .tup (.cons (.ptr ⟨tag, 0, x.bW, 0, 4, 0, 0, 0, false⟩) (.cons (.v (.bool true)) .nil)), [tag, tag + 200000, tag + 300000, tag + 400000, tag + 500000],
    fun x => [.row x.bW 62 4 1 (fun _ => wldT (tag + 200000) (tag + 300000) (tag + 400000) (tag + 500000) x.bR x.bQ x.ents.length x.v1 x.v2) 1, regB x.bR x.ents [] x.S1, docB x.bQ x.dents [] x.S2, .vrow x.v1.1 114 1 x.ents.length (sgE (tag + 200000) x.ents) x.v1.2, .vrow x.v2.1 147 1 x.ents.length (sgE (tag + 300000) x.dents) x.v2.2]⟩
  | none => none
 | _ => none
theorem fapp_sg {t : Nat} {l : List (Int × Nat)} {e : Int × Nat} {src : Nat → AV} (hs : (src 0).cells = (sigP e.2).cells) {k : Nat} (hk : l.length = k) : ∀ i, i < (l ++ [e]).length → (sgE t (l ++ [e]) i).cells = (fapp k (sgE t l) src i).cells ∧ (sgE t (l ++ [e]) i).one = true := by
 subst hk
 intro i hi
 rw [List.length_append] at hi
 have hi : i < l.length + 1 := hi
 refine ⟨?_, rfl⟩
 by_cases h : i < l.length
 ·
  rw [fapp_lt h, sgE_cells, sgE_cells]
  rw [List.getD_eq_getElem?_getD, List.getElem?_append_left h, ← List.getD_eq_getElem?_getD]
 ·
  have : i = l.length := by omega
  subst this
  unfold fapp
  rw [show Nat.blt l.length l.length = false from Bool.eq_false_iff.2 fun h0 => absurd (blt_lt h0) (Nat.lt_irrefl _), Nat.sub_self, sgE_cells]
  show _ = (src 0).cells
  rw [hs]
  simp
theorem known_none {d : List (Int × Nat)} {a : Int} (h : knownF (d.map (·.1)) a = false) : ∀ e ∈ d, e.1 ≠ a := by
 intro e he e0
 have : knownF (d.map (·.1)) a = true := by
  unfold knownF
  rw [List.any_eq_true]
  exact ⟨_, List.mem_map_of_mem (f := (·.1)) he, by simpa using e0⟩
 rw [this] at h
 cases h
theorem fst_none {d e : List (Int × Nat)} (h : d.map (·.1) = e.map (·.1)) {a : Int} (hd : ∀ q ∈ d, q.1 ≠ a) : ∀ q ∈ e, q.1 ≠ a := by
 intro q hq e0
 have hm : q.1 ∈ d.map (·.1) := by rw [h]; exact List.mem_map_of_mem (f := (·.1)) hq
 obtain ⟨r, hr, e1⟩ := List.mem_map.1 hm
 exact hd r hr (e1.trans e0)
def ctNw : CtL := [(42, knownC)]
theorem ctNw_ok : CtLOk Tryz.prog ctNw := ⟨.fn known_body known_read, trivial⟩
def crNw : CrL := [(27, newRC), (41, newDC), (43, enterC), (44, denterC)]
theorem enter_body : HasBody Tryz.prog 43 := ⟨_, Tryz.func43, rfl, by decide⟩
theorem crNw_ok : CrLOk Tryz.prog crNw := ⟨⟨newR_body, newR_turn⟩, ⟨newD_body, newD_turn⟩, ⟨enter_body, enter_turn⟩, ⟨denter_body, denter_turn⟩, trivial⟩
theorem newW_turn : TurnFn Tryz.prog 10 newWC := by
 intro tag args M r h0 hok O w0 w hS
 unfold newWC at h0
 split at h0
 ·
  rename_i X
  split at h0
  ·
   rename_i c es n f hsx
   cases h0
   obtain ⟨q1, q2, q3, q4⟩ := hok
   obtain ⟨base, cap, hv, hr⟩ := seqOf_spec hS hsx q1
   obtain ⟨g, hg⟩ : ∃ g : Nat → Int, g = fun i => (f i).int1 := ⟨_, rfl⟩
   have hro : (roB base 1 n fun i => .v (.int .u64 (g i))).holds w := roB_holds fun h0 => by
    obtain ⟨b, o, e1, e2⟩ := hr h0
    rw [q2 h0] at e2
    exact ⟨b, o, e1, e2.congr fun i hi => by rw [hg]; exact q4 i hi⟩
   rw [show [X].map AV.val = [roS 900 base 1 n cap].map AV.val by simp only [List.map_cons, List.map_nil, hv, roS_val]]
   refine turn_new tabs2 ctNw_ok crNw_ok Tryz.func10 rfl rfl hS _ [(900, roB base 1 n fun i => .v (.int .u64 (g i)))] [13, 10, 11, 950, 951] rfl ⟨hro, trivial⟩ ⟨roB_noOwn, trivial⟩ (by decide) rfl (s_post ?_)
   repeat ((fail_if_success (first | refine o_at 27 ?_ | refine d_at 27 ?_)); (first | refine qs_ ?_ | refine qa_ ?_ | refine qo_ ?_ | refine qd_ ?_ | refine za ?_ | refine zb fun _ _ => ?_ | refine zc ?_ | refine ya ?_ | refine yb fun _ _ => ?_ | refine yc ?_ | refine qk_ ?_ | refine qb_ ?_ | refine qx_ ?_))
   refine oB rfl rfl rfl (fun zR _ => ?_) ⟨(0, fun _ => False), trivial⟩
   refine oB rfl rfl rfl (fun zQ _ => ?_) ⟨(0, fun _ => False), trivial⟩
   repeat (first | refine qs_ ?_ | refine qa_ ?_ | refine qo_ ?_ | refine qd_ ?_ | refine za ?_ | refine zb fun _ _ => ?_ | refine zc ?_ | refine ya ?_ | refine yb fun _ _ => ?_ | refine yc ?_ | refine qk_ ?_ | refine qb_ ?_ | refine qx_ ?_)
   refine s_cond (b := false) rfl (fun hb => by cases hb) (fun _ => ?_)
   repeat (first | refine qs_ ?_ | refine qa_ ?_ | refine qo_ ?_ | refine qd_ ?_ | refine za ?_ | refine zb fun _ _ => ?_ | refine zc ?_ | refine ya ?_ | refine yb fun _ _ => ?_ | refine yc ?_ | refine qk_ ?_ | refine qb_ ?_ | refine qx_ ?_)
   rename_i b13 _ _
   refine s_le (le_lay (n := 950) (B := .vrow none 114 1 0 (sgE 10 []) 0) rfl (fun k h => by cases h) (fun k h => h) (fun w => ⟨rfl, rfl⟩)) ?_
   refine s_le (le_lay (n := 951) (B := .vrow none 147 1 0 (sgE 11 []) 0) rfl (fun k h => by cases h) (fun k h => h) (fun w => ⟨rfl, rfl⟩)) ?_
   refine s_le (le_blk (k := 13) rfl rfl (Blk.le_rowc (f' := fun _ => wldT 10 11 950 951 zR.1 zQ.1 0 (none, 0) (none, 0)) (Nat.le_refl _) fun _ _ => ⟨rfl, rfl⟩)) ?_
   refine s_le (tm' := [(5, none, .v (.int .i64 0)), (4, none, .ptr ⟨13, 0, b13, 0, row62.size, 0, 0, 0, false⟩), (0, none, roS 900 base 1 n cap)]) (M' := [(13, .row b13 62 row62.size 1 (fun _ => wldT 10 11 950 951 zR.1 zQ.1 0 (none, 0) (none, 0)) 1), (10, regB zR.1 [] [] zR.2), (11, docB zQ.1 [] [] zQ.2), (950, .vrow none 114 1 0 (sgE 10 []) 0), (951, .vrow none 147 1 0 (sgE 11 []) 0), (900, roB base 1 n fun i => .v (.int .u64 (g i)))]) ?_ ?_
   ·
    exact leQ
   refine s_loopW (α := Nat × (List (Int × Nat) × List (Int × Nat)) × ((Nat → Prop) × (Nat → Prop)) × ((Option Nat × Nat) × (Option Nat × Nat))) [5] [13, 10, 11, 950, 951] (fun z => z.1 ≤ n ∧ z.2.1.2.map (·.1) = z.2.1.1.map (·.1) ∧ z.2.1.1.length ≤ z.1) (fun z => [(5, none, .v (.int .i64 z.1))]) (fun z => [(13, .row b13 62 row62.size 1 (fun _ => wldT 10 11 950 951 zR.1 zQ.1 z.2.1.1.length z.2.2.2.1 z.2.2.2.2) 1), (10, regB zR.1 z.2.1.1 [] z.2.2.1.1), (11, docB zQ.1 z.2.1.2 [] z.2.2.1.2), (950, .vrow z.2.2.2.1.1 114 1 z.2.1.1.length (sgE 10 z.2.1.1) z.2.2.2.1.2), (951, .vrow z.2.2.2.2.1 147 1 z.2.1.1.length (sgE 11 z.2.1.2) z.2.2.2.2.2)]) (fun z => n - z.1) (0, ([], []), (zR.2, zQ.2), ((none, 0), (none, 0))) ⟨Nat.zero_le _, rfl, Nat.le_refl _⟩ ?_ ?_
   ·
    exact leQ
   ·
    intro ⟨k, ⟨ents, dents⟩, ⟨S1, S2⟩, ⟨v1, v2⟩⟩ ⟨hk, hde, hel⟩
    dsimp only at hk hde hel
    have hdl : dents.length = ents.length := by simpa using congrArg List.length hde
    repeat (first | refine qs_ ?_ | refine qa_ ?_ | refine qo_ ?_ | refine qd_ ?_ | refine za ?_ | refine zb fun _ _ => ?_ | refine zc ?_ | refine ya ?_ | refine yb fun _ _ => ?_ | refine yc ?_ | refine qk_ ?_ | refine qb_ ?_ | refine qx_ ?_)
    refine s_cond (b := decide ((k : Int) < (n : Int))) rfl (fun hb2 => ?_) (fun hb2 => ?_)
    ·
     have hk8 : k < n := by have := of_decide_eq_true hb2; omega
     repeat (first | refine qs_ ?_ | refine qa_ ?_ | refine qo_ ?_ | refine qd_ ?_ | refine za ?_ | refine zb fun _ _ => ?_ | refine zc ?_ | refine ya ?_ | refine yb fun _ _ => ?_ | refine yc ?_ | refine qk_ ?_ | refine qb_ ?_ | refine qx_ ?_)
     refine s_draw rD10_7 rM10_7 rX10_7 rN10_7 rfl rfl ?_
     repeat (first | refine qs_ ?_ | refine qa_ ?_ | refine qo_ ?_ | refine qd_ ?_ | refine za ?_ | refine zb fun _ _ => ?_ | refine zc ?_ | refine ya ?_ | refine yb fun _ _ => ?_ | refine yc ?_ | refine qk_ ?_ | refine qb_ ?_ | refine qx_ ?_)
     refine d_val rfl rfl trivial ⟨?h1, fun _ => ⟨⟨rfl, rfl, rfl, rfl, rfl, rfl, rfl⟩, ?h2⟩⟩ ?_
     case h1 => (repeat' apply And.intro) <;> (first | trivial | exact fun h => h)
     case h2 => rw [List.length_map]; show dents.length ≤ _; omega
     repeat (first | refine qs_ ?_ | refine qa_ ?_ | refine qo_ ?_ | refine qd_ ?_ | refine za ?_ | refine zb fun _ _ => ?_ | refine zc ?_ | refine ya ?_ | refine yb fun _ _ => ?_ | refine yc ?_ | refine qk_ ?_ | refine qb_ ?_ | refine qx_ ?_)
     refine s_cond (b := ((g k == 0) || knownF (dents.map (·.1)) (g k))) rfl (fun hK => ?_) (fun hK => ?_)
     ·
      repeat (first | refine qs_ ?_ | refine qa_ ?_ | refine qo_ ?_ | refine qd_ ?_ | refine za ?_ | refine zb fun _ _ => ?_ | refine zc ?_ | refine ya ?_ | refine yb fun _ _ => ?_ | refine yc ?_ | refine qk_ ?_ | refine qb_ ?_ | refine qx_ ?_)
      refine ⟨(k + 1, (ents, dents), (S1, S2), (v1, v2)), ⟨hk8, hde, by dsimp only; omega⟩, by dsimp only; omega, ?_⟩
      exact leQ
     ·
      simp only [Bool.or_eq_false_iff, beq_eq_false_iff_ne, ne_eq] at hK
      obtain ⟨ha0, hkn⟩ := hK
      have hd := known_none hkn
      have he := fst_none hde hd
      repeat (first | refine qs_ ?_ | refine qa_ ?_ | refine qo_ ?_ | refine qd_ ?_ | refine za ?_ | refine zb fun _ _ => ?_ | refine zc ?_ | refine ya ?_ | refine yb fun _ _ => ?_ | refine yc ?_ | refine qk_ ?_ | refine qb_ ?_ | refine qx_ ?_)
      refine s_draw rD10_8 rM10_8 [(10, [8])] rN10_8 rfl rfl ?_
      repeat ((fail_if_success (first | refine o_at 43 ?_ | refine d_at 43 ?_)); (first | refine qs_ ?_ | refine qa_ ?_ | refine qo_ ?_ | refine qd_ ?_ | refine za ?_ | refine zb fun _ _ => ?_ | refine zc ?_ | refine ya ?_ | refine yb fun _ _ => ?_ | refine yc ?_ | refine qk_ ?_ | refine qb_ ?_ | refine qx_ ?_))
      refine dB rfl rfl rfl (fun z1 _ => ?_) ⟨(0, fun _ => False), trivial⟩ ⟨by (repeat' apply And.intro) <;> trivial, ⟨rfl, rfl, rfl, rfl, rfl, rfl, rfl⟩, ha0, he⟩
      repeat (first | refine qs_ ?_ | refine qa_ ?_ | refine qo_ ?_ | refine qd_ ?_ | refine za ?_ | refine zb fun _ _ => ?_ | refine zc ?_ | refine ya ?_ | refine yb fun _ _ => ?_ | refine yc ?_ | refine qk_ ?_ | refine qb_ ?_ | refine qx_ ?_)
      refine s_draw rD10_9 rM10_9 [(11, [8])] rN10_9 rfl rfl ?_
      repeat ((fail_if_success (first | refine o_at 44 ?_ | refine d_at 44 ?_)); (first | refine qs_ ?_ | refine qa_ ?_ | refine qo_ ?_ | refine qd_ ?_ | refine za ?_ | refine zb fun _ _ => ?_ | refine zc ?_ | refine ya ?_ | refine yb fun _ _ => ?_ | refine yc ?_ | refine qk_ ?_ | refine qb_ ?_ | refine qx_ ?_))
      refine dB rfl rfl rfl (fun z2 _ => ?_) ⟨(0, fun _ => False), trivial⟩ ⟨by (repeat' apply And.intro) <;> trivial, ⟨rfl, rfl, rfl, rfl, rfl, rfl, rfl⟩, ha0, hd, show dents.length ≤ _ by omega⟩
      repeat (first | refine qs_ ?_ | refine qa_ ?_ | refine qo_ ?_ | refine qd_ ?_ | refine za ?_ | refine zb fun _ _ => ?_ | refine zc ?_ | refine ya ?_ | refine yb fun _ _ => ?_ | refine yc ?_ | refine qk_ ?_ | refine qb_ ?_ | refine qx_ ?_)
      refine s_cond (b := false) rfl (fun hb => by cases hb) (fun _ => ?_)
      repeat (first | refine qs_ ?_ | refine qa_ ?_ | refine qo_ ?_ | refine qd_ ?_ | refine za ?_ | refine zb fun _ _ => ?_ | refine zc ?_ | refine ya ?_ | refine yb fun _ _ => ?_ | refine yc ?_ | refine qk_ ?_ | refine qb_ ?_ | refine qx_ ?_)
      rename_i _ _ y1 h1 _ _ y2 h2
      refine ⟨(k + 1, (ents ++ [(g k, z1.1)], dents ++ [(g k, z2.1)]), (z1.2, z2.2), (y1, y2)), ⟨hk8, by simp [hde], by simp; omega⟩, by dsimp only; omega, ?_⟩
      refine Le.of ?leT ?leM (by first | exact dfs_nil rfl rfl | exact rfl)
      (case leT => repeat (first | exact trivial | refine And.intro (by first | exact rfl | (show some (none, AV.v (.int .i64 (IntKind.i64.wrap _))) = _; rw [wi64 (by omega) (by omega)]; rfl)) ?_))
      case leM => exact ⟨⟨_, rfl, Blk.le_rowc (Nat.le_refl _) fun i hi => (by have h0 : i = 0 := Nat.lt_one_iff.1 hi; subst h0; exact ⟨by rw [List.length_append]; rfl, rfl⟩)⟩, ⟨_, rfl, Blk.le_refl _⟩, ⟨_, rfl, Blk.le_refl _⟩, ⟨_, rfl, Blk.le_vrowc (by rw [List.length_append]; exact Nat.le_refl _) (fapp_sg rfl rfl)⟩, ⟨_, rfl, Blk.le_vrowc (by rw [List.length_append]; exact Nat.le_refl _) fun i hi => fapp_sg rfl hdl i (by rw [List.length_append] at hi ⊢; rw [hdl]; exact hi)⟩, ⟨_, rfl, Blk.le_refl _⟩, trivial⟩
    ·
     have hk8 : k = n := by have := of_decide_eq_false hb2; omega
     subst hk8
     repeat (first | refine qs_ ?_ | refine qa_ ?_ | refine qo_ ?_ | refine qd_ ?_ | refine za ?_ | refine zb fun _ _ => ?_ | refine zc ?_ | refine ya ?_ | refine yb fun _ _ => ?_ | refine yc ?_ | refine qk_ ?_ | refine qb_ ?_ | refine qx_ ?_)
     refine s_ret ?_
     refine ⟨_, _, Le.refl, _, _, rfl, ⟨trivial, trivial, trivial⟩, rfl, ⟨b13, zR.1, zQ.1, ents, dents, S1, S2, v1, v2⟩, ⟨hde, hel⟩, rfl, ⟨⟨_, rfl, Blk.le_rowc (Nat.le_refl _) fun _ _ => ⟨rfl, rfl⟩⟩, fun _ h => h⟩, ⟨⟨_, rfl, Blk.le_refl _⟩, fun _ h => h⟩, ⟨⟨_, rfl, Blk.le_refl _⟩, fun _ h => h⟩, ⟨⟨_, rfl, Blk.le_vrowc (Nat.le_refl _) fun _ _ => ⟨rfl, rfl⟩⟩, fun _ h => h⟩, ⟨⟨_, rfl, Blk.le_vrowc (Nat.le_refl _) fun _ _ => ⟨rfl, rfl⟩⟩, fun _ h => h⟩, trivial⟩
  ·
   cases h0
 ·
  cases h0
theorem newW_body : HasBody Tryz.prog 10 := ⟨_, Tryz.func10, rfl, by decide⟩
theorem ver_body : HasBody Tryz.prog 12 := ⟨_, Tryz.func12, rfl, by decide⟩
theorem sld_VR {K : List Int} {nm : ByteArray} {aa : List Int} {x : Vote} {r : Bool} (h : VR x) : VR (sldV K nm aa x r) := by
 unfold sldV
 split
 ·
  exact h
 ·
  split <;> exact h
theorem sld_okV {K : List Int} {nm : ByteArray} {aa : List Int} {x : Vote} {r : Bool} (h : okV x) : okV (sldV K nm aa x r) := by
 unfold sldV
 split
 ·
  exact h
 ·
  split <;> exact h
theorem sh_VR {K : List Int} {nm : ByteArray} {aa : List Int} {t : Two} (ha : VR t.a) (hb : VR t.b) : VR (shE K nm aa t).1 ∧ VR (shE K nm aa t).2 := by
 unfold shE
 split
 ·
  exact ⟨sld_VR hb, sld_VR ha⟩
 ·
  exact ⟨sld_VR ha, sld_VR hb⟩
theorem sh_okV {K : List Int} {nm : ByteArray} {aa : List Int} {t : Two} (ha : okV t.a) (hb : okV t.b) : okV (shE K nm aa t).1 ∧ okV (shE K nm aa t).2 := by
 unfold shE
 split
 ·
  exact ⟨sld_okV hb, sld_okV ha⟩
 ·
  exact ⟨sld_okV ha, sld_okV hb⟩
theorem sealed_eq (K : List Int) (nm : ByteArray) (recs : List (Int × ByteArray)) (x : Vote) : sealedP K b0L nm recs x = sealedD K nm recs x := by
 have hl := dsaid_len nm x
 unfold sealedP sealedD chkP chkD checkF dcheckF
 rw [said_eq, sea_of _ _ _ _ _ (by omega)]
theorem verR_eq (s : StV) (l : List PstV) (mem : Nat → List Int) (pun : List (Int × Int)) (K : List Int) (recs : List (Int × ByteArray)) (x y : Vote) (hx : okV x) (hy : okV y) :
  verR s l mem pun (pairP x y) x y (sealedP K b0L s.nm recs x) (sealedP K b0L s.nm recs y) = verR s l mem pun (pairD x y) x y (sealedD K s.nm recs x) (sealedD K s.nm recs y) := by
 rw [pair_eq x y hx hy, sealed_eq, sealed_eq]
end Go.Proofs.YtofophjfgalhaaaGreatDoor.V
