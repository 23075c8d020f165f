import Derived.Test.YtofophjfgalhaaaGreatDoorMisdeedPicksW13
import Derived.Test.YtofophjfgalhaaaGreatDoorMisdeedPicksW31
set_option linter.unusedVariables false
set_option linter.unusedSimpArgs false
/-! misdeed.Verify. -/
namespace Go.Proofs.YtofophjfgalhaaaGreatDoor.V
open Go Go.RowKit

def eqE (p q : Vote × Vote) : Bool := match eqT tabs2.tb tabs2.eqs 64 52 (encE p) (encE q) with
  | some b => b
  | none => false
def mbK (M : MemF) (p : PstV) : Prop × List (Int × Int × Int) := match comeIn M 90003 3 mb1 mbX p.a p.n with
  | some r => r
  | none => (False, [])
/-- Verify, of what was found out -/
def verR (s : StV) (l : List PstV) (mem : Nat → List Int) (pun : List (Int × Int)) (pr : (Vote × Vote) × Int) (x y : Vote) (sx sy : Bool) : Int :=
  if (pr.2 != 0) = true then pr.2 else
  if (!(eqE pr.1 (x, y))) = true then 110 else
  if ((!(cntF s x.height)) || decide (numIx x.height (l.map (·.h)) 0 < 0)) = true then 111 else
  if decide (numIx x.from_ (mem (numIx x.height (l.map (·.h)) 0).toNat) 0 < 0) = true then 101 else
  if decide (offIx (x.height, x.from_) pun 0 ≥ 0) = true then 112 else
  if sx = true then (if sy = true then 0 else 84) else 84
def chkP (K B0 : List Int) (nm : ByteArray) (recs : List (Int × ByteArray)) (x : Vote) : Bool := checkF K B0 recs x.from_ (fun i => (vl (saidR 86 nm (plainV x) x).1 i).int1) (strOf (saidR 86 nm (plainV x) x).1.length (vl (saidR 86 nm (plainV x) x).1)) (saidR 86 nm (plainV x) x).1.length x.sig
def sealedP (K B0 : List Int) (nm : ByteArray) (recs : List (Int × ByteArray)) (x : Vote) : Bool := ((saidR 86 nm (plainV x) x).2 == 0) && chkP K B0 nm recs x
theorem numIx_lt {a : Int} : ∀ {l : List Int} {i : Nat}, numIx a l i = -1 ∨ ∃ k : Nat, k < l.length ∧ numIx a l i = ((i + k : Nat) : Int)
  | [], i => .inl rfl
  | q :: l, i => by
    unfold numIx
    split
    · exact .inr ⟨0, by simp, by simp⟩
    · rcases numIx_lt (a := a) (l := l) (i := i + 1) with h | ⟨k, h1, h2⟩
      · exact .inl h
      · exact .inr ⟨k + 1, by simpa using h1, by rw [h2]; congr 1; omega⟩
theorem dsaid_len (s : ByteArray) (x : Vote) : (dsaidR s x).1.length ≤ 200 := by
  unfold dsaidR
  split
  · exact Nat.zero_le _
  · rename_i h1
    split
    · exact Nat.zero_le _
    · have hsz : s.size ≤ 16 := by simp at h1; omega
      have htl : (textL s).length ≤ 26 := by
        unfold textL
        rw [List.length_append, strL_length]
        have := varL_len (s.size : Int)
        omega
      have hdl := dvoteL_length x
      show ([86] ++ textL s ++ dvoteL x).length ≤ 200
      simp only [List.length_append, List.length_singleton]
      omega
theorem said_len (s : ByteArray) (x : Vote) : (saidR 86 s (plainV x) x).1.length ≤ 200 := by
  rw [said_eq]; exact dsaid_len s x
def verC (_tag : Nat) (args : List AV) (M : MemF) : Option Res := match args, M 100003, M 100004 with
  | [S, .ptr p, .agg (.cons a (.cons b .nil))], some (.var 3 (.ints .u32 8 B0)), some (.var 4 (.ints .u32 64 K)) => match decS S, decV a, decV b, regOf M p with
    | some s, some x, some y, some (c, b, ents, recs, _) => match pstV M s.a3 s.n3, comeIn M 90002 2 off1 offX s.a4 s.n4, M 90003 with
      | some (c1, l), some (c2, pun), some (.vro es3 base3 len3 f3) => some ⟨Nat → Prop, c ∧ (c1 ∧ c2 ∧ ∀ k, k < l.length → (mbK M (l.getD k default)).1) ∧ VR x ∧ VR y, fun _ => True, fun _ => .v (.int .i64 (verR s l (fun k => (mbK M (l.getD k default)).2.map (·.1)) pun (pairP x y) x y (sealedP K B0 s.nm recs x) (sealedP K B0 s.nm recs y))), [p.n], fun S' => [regB b ents recs S']⟩
      | _, _, _ => none
    | _, _, _, _ => none
  | _, _, _ => none
def ctVe : CtL := [(47, madeC), (40, pairPC), (48, pofC), (49, ixPC), (51, cntC), (52, dixC), (53, doneC)]
set_option maxRecDepth 100000 in
theorem ctVe_ok : CtLOk Tryz.prog ctVe := ⟨.fn made_body made_read, .fn pairP_body pairP_read, .fn pof_body pof_read, .fn ixP_body ixP_read, .fn cnt_body cnt_read, .fn ix_body ix_read, .fn done_body done_read, trivial⟩
def crVe : CrL := [(54, vbC), (55, checkC)]
set_option maxRecDepth 100000 in
theorem crVe_ok : CrLOk Tryz.prog crVe := ⟨⟨vb_body, vb_turn⟩, ⟨check_body, check_turn⟩, trivial⟩

set_option maxRecDepth 100000 in
set_option maxHeartbeats 8000000 in
theorem ver_turn : TurnFn Tryz.prog 12 verC := by
  intro tag args M r h0 hok O w0 w hS
  unfold verC at h0
  split at h0
  · rename_i S p a b B0 K hM3 hM4
    split at h0
    · rename_i s x y c b ents recs Sr hs hx hy hp
      have hs := decS_enc hs
      have hx := decV_enc hx
      have hy := decV_enc hy
      subst hs hx hy
      clear hs hx hy
      split at h0
      · rename_i c1 l c2 pun es3 base3 len3 f3 hpst hpun hM90003
        cases h0
        obtain ⟨hc, ⟨hc1, hc2, hmb⟩, hvx, hvy⟩ := hok
        obtain ⟨hM, hv⟩ := regOf_spec hp hc
        obtain ⟨hln, hl, hl3⟩ := comeIn_spec hpst hc1
        obtain ⟨es1, base1, len1, f1, hM1, _⟩ := comeIn_entry hpst
        obtain ⟨es2, base2, len2, f2, hM2, _⟩ := comeIn_entry hpun
        have hap : ∀ {k : Nat} {B : Blk}, M k = some B → ∀ j, B.reads j → ¬ (regB b ents recs Sr).own j := fun hk j hr ho => hS.roapart _ _ _ _ _ hM hk ho hr
        rw [show [encS s, .ptr p, .agg (.cons (encV x) (.cons (encV y) .nil))].map AV.val = [encS s, .ptr ⟨900, 0, b, 0, 5, 0, 0, 0, false⟩, .agg (.cons (encV x) (.cons (encV y) .nil))].map AV.val by simp only [List.map_cons, List.map_nil, hv 900]]
        refine turn_one tabs2 ctVe_ok crVe_ok Tryz.func12 rfl rfl hS _ hM [(90001, .vro es1 base1 len1 f1), (90002, .vro es2 base2 len2 f2), (90003, .vro es3 base3 len3 f3), (100003, .var 3 (.ints .u32 8 B0)), (100004, .var 4 (.ints .u32 64 K))] rfl rfl (hS.holds _ _ hM) (fun _ h => h) (fun _ h => h) ⟨hS.holds _ _ hM1, hS.holds _ _ hM2, hS.holds _ _ hM90003, hS.holds _ _ hM3, hS.holds _ _ hM4, trivial⟩ ⟨fun _ h => h, fun _ h => h, fun _ h => h, fun _ h => h, fun _ h => h, trivial⟩ ⟨hap hM1, hap hM2, hap hM90003, hap hM3, hap hM4, trivial⟩ ?_
        obtain ⟨R, hR⟩ : ∃ R, R = verR s l (fun k => (mbK M (l.getD k default)).2.map (·.1)) pun (pairP x y) x y (sealedP K B0 s.nm recs x) (sealedP K B0 s.nm recs y) := ⟨_, rfl⟩
        rw [← hR]
        unfold pstV comeIn at hpst
        rw [hM1] at hpst
        unfold comeIn at hpun
        rw [hM2] at hpun
        cases hpst
        cases hpun
        repeat (first | refine s_seq ?_ | refine s_region ?_ | refine o_nil ?_ | refine d_nil ?_ | refine oA rfl rfl trivial ?_ | refine oB rfl rfl rfl (fun _ _ => ?_) | refine oC rfl rfl rfl trivial ?_ | refine dA rfl rfl trivial ?_ | refine dB rfl rfl rfl (fun _ _ => ?_) | refine dC rfl rfl rfl trivial ?_ | refine s_skip ?_ | refine s_block ?_ | refine s_exit ?_ | refine s_label ?_)
        refine s_cond (b := false) rfl (fun hb => by cases hb) (fun _ => ?_)
        repeat (first | refine s_seq ?_ | refine s_region ?_ | refine o_nil ?_ | refine d_nil ?_ | refine oA rfl rfl trivial ?_ | refine oB rfl rfl rfl (fun _ _ => ?_) | refine oC rfl rfl rfl trivial ?_ | refine dA rfl rfl trivial ?_ | refine dB rfl rfl rfl (fun _ _ => ?_) | refine dC rfl rfl rfl trivial ?_ | refine s_skip ?_ | refine s_block ?_ | refine s_exit ?_ | refine s_label ?_)
        refine s_cond (b := ((pairP x y).2 != 0)) rfl (fun hE => ?_) (fun hE => ?_)
        · repeat (first | refine s_seq ?_ | refine s_region ?_ | refine o_nil ?_ | refine d_nil ?_ | refine oA rfl rfl trivial ?_ | refine oB rfl rfl rfl (fun _ _ => ?_) | refine oC rfl rfl rfl trivial ?_ | refine dA rfl rfl trivial ?_ | refine dB rfl rfl rfl (fun _ _ => ?_) | refine dC rfl rfl rfl trivial ?_ | refine s_skip ?_ | refine s_block ?_ | refine s_exit ?_ | refine s_label ?_)
          refine s_ret ?_
          refine ⟨_, _, rfl, ⟨trivial, trivial⟩, rfl, Sr, trivial, ?_, ⟨⟨_, rfl, Blk.le_refl _⟩, fun _ h => h⟩, trivial⟩
          show (AV.v (.int .i64 (pairP x y).2)).val = _
          rw [hR, verR, if_pos hE]
        have hE' : ¬ ((pairP x y).2 != 0) = true := by rw [hE]; decide
        repeat (first | refine s_seq ?_ | refine s_region ?_ | refine o_nil ?_ | refine d_nil ?_ | refine oA rfl rfl trivial ?_ | refine oB rfl rfl rfl (fun _ _ => ?_) | refine oC rfl rfl rfl trivial ?_ | refine dA rfl rfl trivial ?_ | refine dB rfl rfl rfl (fun _ _ => ?_) | refine dC rfl rfl rfl trivial ?_ | refine s_skip ?_ | refine s_block ?_ | refine s_exit ?_ | refine s_label ?_)
        refine o_val rfl rfl trivial ⟨?h1, ?h2⟩ ?_
        case h1 => repeat' (first | trivial | apply And.intro)
        case h2 => exact ⟨hc1, by (repeat' (first | trivial | rfl | exact Nat.zero_lt_one | apply And.intro))⟩
        repeat (first | refine s_seq ?_ | refine s_region ?_ | refine o_nil ?_ | refine d_nil ?_ | refine oA rfl rfl trivial ?_ | refine oB rfl rfl rfl (fun _ _ => ?_) | refine oC rfl rfl rfl trivial ?_ | refine dA rfl rfl trivial ?_ | refine dB rfl rfl rfl (fun _ _ => ?_) | refine dC rfl rfl rfl trivial ?_ | refine s_skip ?_ | refine s_block ?_ | refine s_exit ?_ | refine s_label ?_)
        refine s_cond (b := !(eqE (pairP x y).1 (x, y))) rfl (fun hQ => ?_) (fun hQ => ?_)
        · repeat (first | refine s_seq ?_ | refine s_region ?_ | refine o_nil ?_ | refine d_nil ?_ | refine oA rfl rfl trivial ?_ | refine oB rfl rfl rfl (fun _ _ => ?_) | refine oC rfl rfl rfl trivial ?_ | refine dA rfl rfl trivial ?_ | refine dB rfl rfl rfl (fun _ _ => ?_) | refine dC rfl rfl rfl trivial ?_ | refine s_skip ?_ | refine s_block ?_ | refine s_exit ?_ | refine s_label ?_)
          refine s_ret ?_
          refine ⟨_, _, rfl, ⟨trivial, trivial⟩, rfl, Sr, trivial, ?_, ⟨⟨_, rfl, Blk.le_refl _⟩, fun _ h => h⟩, trivial⟩
          show (AV.v (.int .i64 110)).val = _
          rw [hR, verR, if_neg hE', if_pos hQ]
        have hQ' : ¬ (!(eqE (pairP x y).1 (x, y))) = true := by rw [hQ]; decide
        repeat (first | refine s_seq ?_ | refine s_region ?_ | refine o_nil ?_ | refine d_nil ?_ | refine oA rfl rfl trivial ?_ | refine oB rfl rfl rfl (fun _ _ => ?_) | refine oC rfl rfl rfl trivial ?_ | refine dA rfl rfl trivial ?_ | refine dB rfl rfl rfl (fun _ _ => ?_) | refine dC rfl rfl rfl trivial ?_ | refine s_skip ?_ | refine s_block ?_ | refine s_exit ?_ | refine s_label ?_)
        refine s_cond (b := ((!(cntF s x.height)) || decide (numIx x.height (List.map (fun x => x.h) ((List.range s.n3).map fun i => pst1 (f1 (hxA s.a3 s.n3) i))) 0 < 0))) rfl (fun hN => ?_) (fun hN => ?_)
        · repeat (first | refine s_seq ?_ | refine s_region ?_ | refine o_nil ?_ | refine d_nil ?_ | refine oA rfl rfl trivial ?_ | refine oB rfl rfl rfl (fun _ _ => ?_) | refine oC rfl rfl rfl trivial ?_ | refine dA rfl rfl trivial ?_ | refine dB rfl rfl rfl (fun _ _ => ?_) | refine dC rfl rfl rfl trivial ?_ | refine s_skip ?_ | refine s_block ?_ | refine s_exit ?_ | refine s_label ?_)
          refine s_ret ?_
          refine ⟨_, _, rfl, ⟨trivial, trivial⟩, rfl, Sr, trivial, ?_, ⟨⟨_, rfl, Blk.le_refl _⟩, fun _ h => h⟩, trivial⟩
          show (AV.v (.int .i64 111)).val = _
          rw [hR, verR, if_neg hE', if_neg hQ', if_pos hN]
        have hN' : ¬ ((!(cntF s x.height)) || decide (numIx x.height (List.map (fun x => x.h) ((List.range s.n3).map fun i => pst1 (f1 (hxA s.a3 s.n3) i))) 0 < 0)) = true := by rw [hN]; decide
        obtain ⟨k, hk, hke⟩ : ∃ k : Nat, k < s.n3 ∧ numIx x.height (List.map (fun x => x.h) ((List.range s.n3).map fun i => pst1 (f1 (hxA s.a3 s.n3) i))) 0 = (k : Int) := by
          simp only [Bool.or_eq_false_iff, decide_eq_false_iff_not] at hN
          rcases numIx_lt (a := x.height) (l := List.map (fun x => x.h) ((List.range s.n3).map fun i => pst1 (f1 (hxA s.a3 s.n3) i))) (i := 0) with h | ⟨k, h1, h2⟩
          · omega
          · exact ⟨k, by simpa using h1, by rw [h2]; simp⟩
        obtain ⟨base, len, f, b', o, hM1', ha3, hb1, hle, hel⟩ := hl3 (by omega)
        rw [hM1] at hM1'
        cases hM1'
        have hmk := hmb k (by simpa using hk)
        unfold mbK comeIn at hmk
        rw [hM90003] at hmk
        refine s_le (le_sub (n := 910) (k := 90001) (ix := hx b' o s.n3) (m := s.n3) (g := pstE ((List.range s.n3).map fun i => pst1 (f1 (hxA s.a3 s.n3) i))) rfl rfl hb1 hle (fun i hi => (hel i hi).symm)) ?_
        refine s_le (le_blk (k := 3) rfl rfl (Blk.le_rowc (f' := fun _ => encSP s (roS 910 (some (b', o)) 3 s.n3 s.c3)) (Nat.le_refl _) fun i hi => ⟨(encSP_val s (roS_cells _ _ _ _ _) ((roS_val 910 (some (b', o)) 3 s.n3 s.c3).trans (by rw [ha3]; rfl))).symm, rfl⟩)) ?_
        refine s_le (le_val (t := 10) (av' := .v (.int .i64 (k : Int))) rfl (by rw [← hke])) ?_
        repeat (first | refine s_seq ?_ | refine s_region ?_ | refine o_nil ?_ | refine d_nil ?_ | refine oA rfl rfl trivial ?_ | refine oB rfl rfl rfl (fun _ _ => ?_) | refine oC rfl rfl rfl trivial ?_ | refine dA rfl rfl trivial ?_ | refine dB rfl rfl rfl (fun _ _ => ?_) | refine dC rfl rfl rfl trivial ?_ | refine s_skip ?_ | refine s_block ?_ | refine s_exit ?_ | refine s_label ?_)
        refine s_draw rD12_12 rM12_12 rX12_12 rN12_12 rfl rfl ?_
        repeat (first | refine s_seq ?_ | refine s_region ?_ | refine o_nil ?_ | refine d_nil ?_ | refine oA rfl rfl trivial ?_ | refine oB rfl rfl rfl (fun _ _ => ?_) | refine oC rfl rfl rfl trivial ?_ | refine dA rfl rfl trivial ?_ | refine dB rfl rfl rfl (fun _ _ => ?_) | refine dC rfl rfl rfl trivial ?_ | refine s_skip ?_ | refine s_block ?_ | refine s_exit ?_ | refine s_label ?_)
        refine d_val rfl rfl trivial ⟨?h3, hmk⟩ ?_
        case h3 => repeat' (first | trivial | apply And.intro)
        repeat (first | refine s_seq ?_ | refine s_region ?_ | refine o_nil ?_ | refine d_nil ?_ | refine oA rfl rfl trivial ?_ | refine oB rfl rfl rfl (fun _ _ => ?_) | refine oC rfl rfl rfl trivial ?_ | refine dA rfl rfl trivial ?_ | refine dB rfl rfl rfl (fun _ _ => ?_) | refine dC rfl rfl rfl trivial ?_ | refine s_skip ?_ | refine s_block ?_ | refine s_exit ?_ | refine s_label ?_)
        have hmem : (mbK M (((List.range s.n3).map fun i => pst1 (f1 (hxA s.a3 s.n3) i)).getD (numIx x.height (List.map (fun x => x.h) ((List.range s.n3).map fun i => pst1 (f1 (hxA s.a3 s.n3) i))) 0).toNat default)).2.map (·.1) = ((List.range (((List.range s.n3).map fun i => pst1 (f1 (hxA s.a3 s.n3) i)).getD k default).n).map fun i => mb1 (f3 (hxA (((List.range s.n3).map fun i => pst1 (f1 (hxA s.a3 s.n3) i)).getD k default).a (((List.range s.n3).map fun i => pst1 (f1 (hxA s.a3 s.n3) i)).getD k default).n) i)).map (·.1) := by
          rw [hke]
          unfold mbK comeIn
          rw [hM90003]
          rfl
        refine s_cond (b := decide (numIx x.from_ (((List.range (((List.range s.n3).map fun i => pst1 (f1 (hxA s.a3 s.n3) i)).getD k default).n).map fun i => mb1 (f3 (hxA (((List.range s.n3).map fun i => pst1 (f1 (hxA s.a3 s.n3) i)).getD k default).a (((List.range s.n3).map fun i => pst1 (f1 (hxA s.a3 s.n3) i)).getD k default).n) i)).map (·.1)) 0 < 0)) rfl (fun hI => ?_) (fun hI => ?_)
        · repeat (first | refine s_seq ?_ | refine s_region ?_ | refine o_nil ?_ | refine d_nil ?_ | refine oA rfl rfl trivial ?_ | refine oB rfl rfl rfl (fun _ _ => ?_) | refine oC rfl rfl rfl trivial ?_ | refine dA rfl rfl trivial ?_ | refine dB rfl rfl rfl (fun _ _ => ?_) | refine dC rfl rfl rfl trivial ?_ | refine s_skip ?_ | refine s_block ?_ | refine s_exit ?_ | refine s_label ?_)
          refine s_ret ?_
          refine ⟨_, _, rfl, ⟨trivial, trivial⟩, rfl, Sr, trivial, ?_, ⟨⟨_, rfl, Blk.le_refl _⟩, fun _ h => h⟩, trivial⟩
          show (AV.v (.int .i64 101)).val = _
          rw [hR, verR, if_neg hE', if_neg hQ', if_neg hN', hmem, if_pos hI]
        refine s_le (le_blk (k := 3) rfl rfl (Blk.le_rowc (f' := fun _ => encS s) (Nat.le_refl _) fun i hi => ⟨encSP_val s (roS_cells _ _ _ _ _) ((roS_val 910 (some (b', o)) 3 s.n3 s.c3).trans (by rw [ha3]; rfl)), rfl⟩)) ?_
        repeat (first | refine s_seq ?_ | refine s_region ?_ | refine o_nil ?_ | refine d_nil ?_ | refine oA rfl rfl trivial ?_ | refine oB rfl rfl rfl (fun _ _ => ?_) | refine oC rfl rfl rfl trivial ?_ | refine dA rfl rfl trivial ?_ | refine dB rfl rfl rfl (fun _ _ => ?_) | refine dC rfl rfl rfl trivial ?_ | refine s_skip ?_ | refine s_block ?_ | refine s_exit ?_ | refine s_label ?_)
        refine o_val rfl rfl trivial ⟨?h4, hc2⟩ ?_
        case h4 => repeat' (first | trivial | apply And.intro)
        repeat (first | refine s_seq ?_ | refine s_region ?_ | refine o_nil ?_ | refine d_nil ?_ | refine oA rfl rfl trivial ?_ | refine oB rfl rfl rfl (fun _ _ => ?_) | refine oC rfl rfl rfl trivial ?_ | refine dA rfl rfl trivial ?_ | refine dB rfl rfl rfl (fun _ _ => ?_) | refine dC rfl rfl rfl trivial ?_ | refine s_skip ?_ | refine s_block ?_ | refine s_exit ?_ | refine s_label ?_)
        refine s_cond (b := decide (offIx (x.height, x.from_) ((List.range s.n4).map fun i => off1 (f2 (hxA s.a4 s.n4) i)) 0 ≥ 0)) rfl (fun hD => ?_) (fun hD => ?_)
        · repeat (first | refine s_seq ?_ | refine s_region ?_ | refine o_nil ?_ | refine d_nil ?_ | refine oA rfl rfl trivial ?_ | refine oB rfl rfl rfl (fun _ _ => ?_) | refine oC rfl rfl rfl trivial ?_ | refine dA rfl rfl trivial ?_ | refine dB rfl rfl rfl (fun _ _ => ?_) | refine dC rfl rfl rfl trivial ?_ | refine s_skip ?_ | refine s_block ?_ | refine s_exit ?_ | refine s_label ?_)
          refine s_ret ?_
          refine ⟨_, _, rfl, ⟨trivial, trivial⟩, rfl, Sr, trivial, ?_, ⟨⟨_, rfl, Blk.le_refl _⟩, fun _ h => h⟩, trivial⟩
          show (AV.v (.int .i64 112)).val = _
          rw [hR, verR, if_neg hE', if_neg hQ', if_neg hN', hmem, if_neg (by rw [hI]; decide), if_pos hD]
        have hV : R = if sealedP K B0 s.nm recs x = true then (if sealedP K B0 s.nm recs y = true then 0 else 84) else 84 := by
          rw [hR, verR, if_neg hE', if_neg hQ', if_neg hN', hmem, if_neg (by rw [hI]; decide), if_neg (by rw [hD]; decide)]
        clear hR hmem hmk hmb hel hl3
        repeat (first | refine s_seq ?_ | refine s_region ?_ | refine o_nil ?_ | refine d_nil ?_ | refine oA rfl rfl trivial ?_ | refine oB rfl rfl rfl (fun _ _ => ?_) | refine oC rfl rfl rfl trivial ?_ | refine dA rfl rfl trivial ?_ | refine dB rfl rfl rfl (fun _ _ => ?_) | refine dC rfl rfl rfl trivial ?_ | refine s_skip ?_ | refine s_block ?_ | refine s_exit ?_ | refine s_label ?_)
        rename_i b3 _ b5 _ _ b7 _ b9 _ _
        refine s_loopW (α := Nat × (Nat → Prop)) [4, 5, 6, 7, 8, 9, 10, 11, 12, 13, 14, 15, 16, 17, 18, 19, 20, 21, 22, 23, 24, 25, 26, 27, 28, 29, 30, 31, 32, 33, 34, 35, 36, 37, 38, 39, 40, 41, 42, 43, 44, 45, 46, 47, 48, 49, 50, 51, 52, 53, 54, 55, 56, 57, 58, 59, 60, 61, 62, 63, 64, 65, 66, 67, 69, 70, 71, 72, 73, 74, 75, 76, 77, 78, 79, 80, 81, 82, 83, 84, 85, 86, 87, 88, 89, 90, 91] [3, 5, 7, 9, 12, 76, 910, 900] (fun z => z.1 ≤ 2 ∧ (0 < z.1 → sealedP K B0 s.nm recs x = true) ∧ (1 < z.1 → sealedP K B0 s.nm recs y = true)) (fun z => [(69, none, .v (.int .i64 z.1))]) (fun z => [(900, regB b ents recs z.2), (3, .row b3 37 row37.size 1 (fun _ => encS s) 1)]) (fun z => 2 - z.1) (0, Sr) ⟨Nat.zero_le _, fun h => absurd h (Nat.lt_irrefl _), fun h => absurd h (Nat.not_lt_zero _)⟩ ?_ ?_
        · (refine Le.of ?leT ?leM (by first | exact dfs_nil rfl rfl | exact rfl); (case leT => repeat (first | exact trivial | refine And.intro (by first | exact rfl | (show some (none, AV.v (.int .i64 (IntKind.i64.wrap _))) = _; rw [wi64 (by omega) (by omega)]; rfl)) ?_)); (case leM => repeat (first | exact trivial | refine And.intro ⟨_, rfl, Blk.le_refl _⟩ ?_)))
        · intro ⟨kk, S1⟩ ⟨hk2, h0s, h1s⟩
          dsimp only at hk2 h0s h1s
          have hk3 : kk = 0 ∨ kk = 1 ∨ kk = 2 := by omega
          rcases hk3 with rfl | rfl | rfl
          · repeat (first | refine s_seq ?_ | refine s_region ?_ | refine o_nil ?_ | refine d_nil ?_ | refine oA rfl rfl trivial ?_ | refine oB rfl rfl rfl (fun _ _ => ?_) | refine oC rfl rfl rfl trivial ?_ | refine dA rfl rfl trivial ?_ | refine dB rfl rfl rfl (fun _ _ => ?_) | refine dC rfl rfl rfl trivial ?_ | refine s_skip ?_ | refine s_block ?_ | refine s_exit ?_ | refine s_label ?_)
            refine s_cond (b := true) rfl (fun _ => ?_) (fun hb => by cases hb)
            repeat (first | refine s_seq ?_ | refine s_region ?_ | refine o_nil ?_ | refine d_nil ?_ | refine oA rfl rfl trivial ?_ | refine oB rfl rfl rfl (fun _ _ => ?_) | refine oC rfl rfl rfl trivial ?_ | refine dA rfl rfl trivial ?_ | refine dB rfl rfl rfl (fun _ _ => ?_) | refine dC rfl rfl rfl trivial ?_ | refine s_skip ?_ | refine s_block ?_ | refine s_exit ?_ | refine s_label ?_)
            refine o_new rfl rfl rfl ⟨(none, _), Nat.le_refl _⟩ ?hc (fun yy hyy => ?_)
            case hc => (repeat' (first | exact hvx | apply And.intro)) <;> (first | trivial | rfl | exact Nat.zero_lt_one | decide)
            repeat (first | refine s_seq ?_ | refine s_region ?_ | refine o_nil ?_ | refine d_nil ?_ | refine oA rfl rfl trivial ?_ | refine oB rfl rfl rfl (fun _ _ => ?_) | refine oC rfl rfl rfl trivial ?_ | refine dA rfl rfl trivial ?_ | refine dB rfl rfl rfl (fun _ _ => ?_) | refine dC rfl rfl rfl trivial ?_ | refine s_skip ?_ | refine s_block ?_ | refine s_exit ?_ | refine s_label ?_)
            have hlen := said_len s.nm x
            cases hz : ((saidR 86 s.nm (plainV x) x).2 != 0) with
            | true =>
              have hsf : sealedP K B0 s.nm recs x = false := by
                unfold sealedP
                rw [show ((saidR 86 s.nm (plainV x) x).2 == 0) = false from by simpa using hz]; rfl
              refine o_skipG (.v (.bool true)) rfl rfl rfl rfl ?_
              repeat (first | refine s_seq ?_ | refine s_region ?_ | refine o_nil ?_ | refine d_nil ?_ | refine oA rfl rfl trivial ?_ | refine oB rfl rfl rfl (fun _ _ => ?_) | refine oC rfl rfl rfl trivial ?_ | refine dA rfl rfl trivial ?_ | refine dB rfl rfl rfl (fun _ _ => ?_) | refine dC rfl rfl rfl trivial ?_ | refine s_skip ?_ | refine s_block ?_ | refine s_exit ?_ | refine s_label ?_)
              refine s_cond rfl (fun _ => ?_) (fun hb => by cases hb)
              repeat (first | refine s_seq ?_ | refine s_region ?_ | refine o_nil ?_ | refine d_nil ?_ | refine oA rfl rfl trivial ?_ | refine oB rfl rfl rfl (fun _ _ => ?_) | refine oC rfl rfl rfl trivial ?_ | refine dA rfl rfl trivial ?_ | refine dB rfl rfl rfl (fun _ _ => ?_) | refine dC rfl rfl rfl trivial ?_ | refine s_skip ?_ | refine s_block ?_ | refine s_exit ?_ | refine s_label ?_)
              refine s_ret ?_
              refine ⟨_, _, rfl, ⟨trivial, trivial⟩, rfl, S1, trivial, ?_, ⟨⟨_, rfl, Blk.le_refl _⟩, fun _ h => h⟩, trivial⟩
              show (AV.v (.int .i64 84)).val = _
              rw [hV, if_neg (by rw [hsf]; decide)]
            | false =>
              refine o_resG rfl rfl rfl rfl rfl ?hok rfl (fun S2 _ => ?_)
              case hok => exact ⟨by (repeat' apply And.intro) <;> (first | trivial | exact fun h => h), ⟨rfl, rfl, rfl, rfl, rfl, rfl, rfl⟩, ⟨⟨rfl, rfl, Nat.le_of_eq (Nat.zero_add _)⟩, fun _ => rfl, Nat.le_trans hlen (by decide), fun _ _ => rfl⟩, rfl⟩
              have hz2 : ((saidR 86 s.nm (plainV x) x).2 == 0) = true := by simpa using hz
              repeat (first | refine s_seq ?_ | refine s_region ?_ | refine o_nil ?_ | refine d_nil ?_ | refine oA rfl rfl trivial ?_ | refine oB rfl rfl rfl (fun _ _ => ?_) | refine oC rfl rfl rfl trivial ?_ | refine dA rfl rfl trivial ?_ | refine dB rfl rfl rfl (fun _ _ => ?_) | refine dC rfl rfl rfl trivial ?_ | refine s_skip ?_ | refine s_block ?_ | refine s_exit ?_ | refine s_label ?_)
              refine s_cond rfl (fun hF => ?_) (fun hF => ?_)
              · have h9 : (!(chkP K B0 s.nm recs x)) = true := hF
                have hsf : sealedP K B0 s.nm recs x = false := by
                  unfold sealedP
                  rw [show chkP K B0 s.nm recs x = false by simpa using h9]
                  exact Bool.and_false _
                repeat (first | refine s_seq ?_ | refine s_region ?_ | refine o_nil ?_ | refine d_nil ?_ | refine oA rfl rfl trivial ?_ | refine oB rfl rfl rfl (fun _ _ => ?_) | refine oC rfl rfl rfl trivial ?_ | refine dA rfl rfl trivial ?_ | refine dB rfl rfl rfl (fun _ _ => ?_) | refine dC rfl rfl rfl trivial ?_ | refine s_skip ?_ | refine s_block ?_ | refine s_exit ?_ | refine s_label ?_)
                refine s_ret ?_
                refine ⟨_, _, rfl, ⟨trivial, trivial⟩, rfl, S2, trivial, ?_, ⟨⟨_, rfl, Blk.le_refl _⟩, fun _ h => h⟩, trivial⟩
                show (AV.v (.int .i64 84)).val = _
                rw [hV, if_neg (by rw [hsf]; decide)]
              · have h9 : (!(chkP K B0 s.nm recs x)) = false := hF
                have hst : sealedP K B0 s.nm recs x = true := by
                  unfold sealedP
                  rw [hz2, show chkP K B0 s.nm recs x = true by simpa using h9]; rfl
                repeat (first | refine s_seq ?_ | refine s_region ?_ | refine o_nil ?_ | refine d_nil ?_ | refine oA rfl rfl trivial ?_ | refine oB rfl rfl rfl (fun _ _ => ?_) | refine oC rfl rfl rfl trivial ?_ | refine dA rfl rfl trivial ?_ | refine dB rfl rfl rfl (fun _ _ => ?_) | refine dC rfl rfl rfl trivial ?_ | refine s_skip ?_ | refine s_block ?_ | refine s_exit ?_ | refine s_label ?_)
                refine ⟨(1, S2), ⟨by dsimp only; omega, fun _ => hst, fun h => absurd h (by dsimp only; omega)⟩, by dsimp only; omega, ?_⟩
                (refine Le.of ?leT ?leM (by first | exact dfs_nil rfl rfl | exact rfl); (case leT => repeat (first | exact trivial | refine And.intro (by first | exact rfl | (show some (none, AV.v (.int .i64 (IntKind.i64.wrap _))) = _; rw [wi64 (by omega) (by omega)]; rfl)) ?_)); (case leM => repeat (first | exact trivial | refine And.intro ⟨_, rfl, Blk.le_refl _⟩ ?_)))
          · repeat (first | refine s_seq ?_ | refine s_region ?_ | refine o_nil ?_ | refine d_nil ?_ | refine oA rfl rfl trivial ?_ | refine oB rfl rfl rfl (fun _ _ => ?_) | refine oC rfl rfl rfl trivial ?_ | refine dA rfl rfl trivial ?_ | refine dB rfl rfl rfl (fun _ _ => ?_) | refine dC rfl rfl rfl trivial ?_ | refine s_skip ?_ | refine s_block ?_ | refine s_exit ?_ | refine s_label ?_)
            refine s_cond (b := true) rfl (fun _ => ?_) (fun hb => by cases hb)
            repeat (first | refine s_seq ?_ | refine s_region ?_ | refine o_nil ?_ | refine d_nil ?_ | refine oA rfl rfl trivial ?_ | refine oB rfl rfl rfl (fun _ _ => ?_) | refine oC rfl rfl rfl trivial ?_ | refine dA rfl rfl trivial ?_ | refine dB rfl rfl rfl (fun _ _ => ?_) | refine dC rfl rfl rfl trivial ?_ | refine s_skip ?_ | refine s_block ?_ | refine s_exit ?_ | refine s_label ?_)
            refine o_new rfl rfl rfl ⟨(none, _), Nat.le_refl _⟩ ?hc (fun yy hyy => ?_)
            case hc => (repeat' (first | exact hvy | apply And.intro)) <;> (first | trivial | rfl | exact Nat.zero_lt_one | decide)
            repeat (first | refine s_seq ?_ | refine s_region ?_ | refine o_nil ?_ | refine d_nil ?_ | refine oA rfl rfl trivial ?_ | refine oB rfl rfl rfl (fun _ _ => ?_) | refine oC rfl rfl rfl trivial ?_ | refine dA rfl rfl trivial ?_ | refine dB rfl rfl rfl (fun _ _ => ?_) | refine dC rfl rfl rfl trivial ?_ | refine s_skip ?_ | refine s_block ?_ | refine s_exit ?_ | refine s_label ?_)
            have hlen := said_len s.nm y
            cases hz : ((saidR 86 s.nm (plainV y) y).2 != 0) with
            | true =>
              have hsf : sealedP K B0 s.nm recs y = false := by
                unfold sealedP
                rw [show ((saidR 86 s.nm (plainV y) y).2 == 0) = false from by simpa using hz]; rfl
              refine o_skipG (.v (.bool true)) rfl rfl rfl rfl ?_
              repeat (first | refine s_seq ?_ | refine s_region ?_ | refine o_nil ?_ | refine d_nil ?_ | refine oA rfl rfl trivial ?_ | refine oB rfl rfl rfl (fun _ _ => ?_) | refine oC rfl rfl rfl trivial ?_ | refine dA rfl rfl trivial ?_ | refine dB rfl rfl rfl (fun _ _ => ?_) | refine dC rfl rfl rfl trivial ?_ | refine s_skip ?_ | refine s_block ?_ | refine s_exit ?_ | refine s_label ?_)
              refine s_cond rfl (fun _ => ?_) (fun hb => by cases hb)
              repeat (first | refine s_seq ?_ | refine s_region ?_ | refine o_nil ?_ | refine d_nil ?_ | refine oA rfl rfl trivial ?_ | refine oB rfl rfl rfl (fun _ _ => ?_) | refine oC rfl rfl rfl trivial ?_ | refine dA rfl rfl trivial ?_ | refine dB rfl rfl rfl (fun _ _ => ?_) | refine dC rfl rfl rfl trivial ?_ | refine s_skip ?_ | refine s_block ?_ | refine s_exit ?_ | refine s_label ?_)
              refine s_ret ?_
              refine ⟨_, _, rfl, ⟨trivial, trivial⟩, rfl, S1, trivial, ?_, ⟨⟨_, rfl, Blk.le_refl _⟩, fun _ h => h⟩, trivial⟩
              show (AV.v (.int .i64 84)).val = _
              rw [hV, if_pos (h0s (by omega)), if_neg (by rw [hsf]; decide)]
            | false =>
              refine o_resG rfl rfl rfl rfl rfl ?hok rfl (fun S2 _ => ?_)
              case hok => exact ⟨by (repeat' apply And.intro) <;> (first | trivial | exact fun h => h), ⟨rfl, rfl, rfl, rfl, rfl, rfl, rfl⟩, ⟨⟨rfl, rfl, Nat.le_of_eq (Nat.zero_add _)⟩, fun _ => rfl, Nat.le_trans hlen (by decide), fun _ _ => rfl⟩, rfl⟩
              have hz2 : ((saidR 86 s.nm (plainV y) y).2 == 0) = true := by simpa using hz
              repeat (first | refine s_seq ?_ | refine s_region ?_ | refine o_nil ?_ | refine d_nil ?_ | refine oA rfl rfl trivial ?_ | refine oB rfl rfl rfl (fun _ _ => ?_) | refine oC rfl rfl rfl trivial ?_ | refine dA rfl rfl trivial ?_ | refine dB rfl rfl rfl (fun _ _ => ?_) | refine dC rfl rfl rfl trivial ?_ | refine s_skip ?_ | refine s_block ?_ | refine s_exit ?_ | refine s_label ?_)
              refine s_cond rfl (fun hF => ?_) (fun hF => ?_)
              · have h9 : (!(chkP K B0 s.nm recs y)) = true := hF
                have hsf : sealedP K B0 s.nm recs y = false := by
                  unfold sealedP
                  rw [show chkP K B0 s.nm recs y = false by simpa using h9]
                  exact Bool.and_false _
                repeat (first | refine s_seq ?_ | refine s_region ?_ | refine o_nil ?_ | refine d_nil ?_ | refine oA rfl rfl trivial ?_ | refine oB rfl rfl rfl (fun _ _ => ?_) | refine oC rfl rfl rfl trivial ?_ | refine dA rfl rfl trivial ?_ | refine dB rfl rfl rfl (fun _ _ => ?_) | refine dC rfl rfl rfl trivial ?_ | refine s_skip ?_ | refine s_block ?_ | refine s_exit ?_ | refine s_label ?_)
                refine s_ret ?_
                refine ⟨_, _, rfl, ⟨trivial, trivial⟩, rfl, S2, trivial, ?_, ⟨⟨_, rfl, Blk.le_refl _⟩, fun _ h => h⟩, trivial⟩
                show (AV.v (.int .i64 84)).val = _
                rw [hV, if_pos (h0s (by omega)), if_neg (by rw [hsf]; decide)]
              · have h9 : (!(chkP K B0 s.nm recs y)) = false := hF
                have hst : sealedP K B0 s.nm recs y = true := by
                  unfold sealedP
                  rw [hz2, show chkP K B0 s.nm recs y = true by simpa using h9]; rfl
                repeat (first | refine s_seq ?_ | refine s_region ?_ | refine o_nil ?_ | refine d_nil ?_ | refine oA rfl rfl trivial ?_ | refine oB rfl rfl rfl (fun _ _ => ?_) | refine oC rfl rfl rfl trivial ?_ | refine dA rfl rfl trivial ?_ | refine dB rfl rfl rfl (fun _ _ => ?_) | refine dC rfl rfl rfl trivial ?_ | refine s_skip ?_ | refine s_block ?_ | refine s_exit ?_ | refine s_label ?_)
                refine ⟨(2, S2), ⟨by dsimp only; omega, fun _ => h0s (by omega), fun _ => hst⟩, by dsimp only; omega, ?_⟩
                (refine Le.of ?leT ?leM (by first | exact dfs_nil rfl rfl | exact rfl); (case leT => repeat (first | exact trivial | refine And.intro (by first | exact rfl | (show some (none, AV.v (.int .i64 (IntKind.i64.wrap _))) = _; rw [wi64 (by omega) (by omega)]; rfl)) ?_)); (case leM => repeat (first | exact trivial | refine And.intro ⟨_, rfl, Blk.le_refl _⟩ ?_)))
          · repeat (first | refine s_seq ?_ | refine s_region ?_ | refine o_nil ?_ | refine d_nil ?_ | refine oA rfl rfl trivial ?_ | refine oB rfl rfl rfl (fun _ _ => ?_) | refine oC rfl rfl rfl trivial ?_ | refine dA rfl rfl trivial ?_ | refine dB rfl rfl rfl (fun _ _ => ?_) | refine dC rfl rfl rfl trivial ?_ | refine s_skip ?_ | refine s_block ?_ | refine s_exit ?_ | refine s_label ?_)
            refine s_cond (b := false) rfl (fun hb => by cases hb) (fun _ => ?_)
            repeat (first | refine s_seq ?_ | refine s_region ?_ | refine o_nil ?_ | refine d_nil ?_ | refine oA rfl rfl trivial ?_ | refine oB rfl rfl rfl (fun _ _ => ?_) | refine oC rfl rfl rfl trivial ?_ | refine dA rfl rfl trivial ?_ | refine dB rfl rfl rfl (fun _ _ => ?_) | refine dC rfl rfl rfl trivial ?_ | refine s_skip ?_ | refine s_block ?_ | refine s_exit ?_ | refine s_label ?_)
            refine s_ret ?_
            refine ⟨_, _, rfl, ⟨trivial, trivial⟩, rfl, S1, trivial, ?_, ⟨⟨_, rfl, Blk.le_refl _⟩, fun _ h => h⟩, trivial⟩
            show (AV.v (.int .i64 0)).val = _
            rw [hV, if_pos (h0s (by omega)), if_pos (h1s (by omega))]
      · cases h0
    · cases h0
  · cases h0
end Go.Proofs.YtofophjfgalhaaaGreatDoor.V
/-! The document's Verify. -/
namespace Go.Proofs.YtofophjfgalhaaaGreatDoor.V
open Go Go.RowKit

/-! ### punished -/
end Go.Proofs.YtofophjfgalhaaaGreatDoor.V
/-! The document's Verify. -/
namespace Go.Proofs.YtofophjfgalhaaaGreatDoor.V
open Go Go.RowKit

end Go.Proofs.YtofophjfgalhaaaGreatDoor.V
