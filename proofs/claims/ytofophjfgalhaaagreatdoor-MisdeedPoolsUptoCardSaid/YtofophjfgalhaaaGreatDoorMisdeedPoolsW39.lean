import Derived.Test.YtofophjfgalhaaaGreatDoorMisdeedPoolsW17
import Derived.Test.YtofophjfgalhaaaGreatDoorMisdeedPoolsW38
set_option linter.unusedVariables false
set_option linter.unusedSimpArgs false
set_option maxRecDepth 100000
set_option maxHeartbeats 8000000
namespace Go.Proofs.YtofophjfgalhaaaGreatDoor.V
open Go Go.RowKit
theorem s_joinE {X : Cx} {c y : Code} {tm : Tm} {M : Mem} {K : Exit → Tm → Mem → Prop} {α : Type} (P : α → Prop) (T' : α → Tm) (M' : α → Mem) (h : CodeS X c tm M fun e tm1 M1 => match e with
  | .normal => ∃ x, P x ∧ Le X tm1 M1 (T' x) (M' x)
  | e' => K e' tm1 M1) (hy : ∀ x, P x → CodeS X y (T' x) (M' x) K) : CodeS X c tm M (thenK X y K) :=
 s_mono h fun e tm1 M1 h => by
  cases e with
  | normal => obtain ⟨x, hx, hl⟩ := h; exact s_le hl (hy x hx)
  | _ => exact h
theorem range_decN {l : List (Vote × Vote)} {n : Nat} (h : n = l.length) : ((List.range n).map fun i => decE (encE (l.getD i default))) = l := by rw [h]; exact range_dec l
section
variable {X : Cx} {G : Rg}
theorem dB3 {K : Acc → Prop} {T0 : TmF} {M0 : MemF} {i : Nat} {o : Oper} {rest : List Oper} {ds : List Nat} {acc : Acc} {d : Nat} {g : Option Bool} {β : Type} {ok : Prop} {can : β → Prop} {out : β → AV} {t1 t2 t3 : Nat} {m1 m2 m3 : β → Blk} (hd : o.dst = some d)
  (h : evalAt X G T0 M0 acc.get i o = some (g, ⟨β, ok, can, out, [t1, t2, t3], fun x => [m1 x, m2 x, m3 x]⟩)) (ht : tagsOk G i [t1, t2, t3] = true) (hne : ∃ x, can x) (hok : ok)
  (hk : ∀ x, can x → okI X G T0 M0 K ds rest ((i, some d, (g, out x), [(t1, m1 x), (t2, m2 x), (t3, m3 x)]) :: acc)) : okI X G T0 M0 K (i :: ds) (o :: rest) acc :=
 d_res h hok hne ht fun x hx => by rw [hd]; exact hk x hx
end
theorem take_getDE {L : List (Vote × Vote)} {m i : Nat} (h : i < m) : (L.take m).getD i default = L.getD i default := by
 rw [List.getD_eq_getElem?_getD, List.getD_eq_getElem?_getD, List.getElem?_take, if_pos h]
theorem fset_list {Z : List (Vote × Vote)} {j n : Nat} (hj : j < n) (hn : Z.length = n) (z : Vote × Vote) : ∀ i, i < n → encE ((Z.set j z).getD i default) = fset n j (fun i => encE (Z.getD i default)) (encE z) i := by
 intro i hi
 have hs : (Z.set j z).getD i default = if i = j then z else Z.getD i default := by
  rw [List.getD_eq_getElem?_getD, List.getElem?_set, List.getD_eq_getElem?_getD]
  by_cases e : j = i
  ·
   rw [if_pos e, if_pos e.symm, if_pos (by omega)]; rfl
  ·
   rw [if_neg e, if_neg fun h => e h.symm]
 rw [hs]
 unfold fset
 cases h : Nat.beq n 1 with
 | true =>
  have : n = 1 := Nat.eq_of_beq_eq_true h
  rw [if_pos (by omega)]
 | false =>
  by_cases e : i = j
  ·
   rw [if_pos e]; exact (if_pos e).symm
  ·
   rw [if_neg e]; exact (if_neg e).symm
structure StpV where
 kind : Int
 st : Int
 e : Int
 a : Option Addr
 n : Nat
 c : Nat
def encP7 (x : StpV) : AV := .agg (.cons (.v (.int .i64 x.kind)) (.cons (.v (.int .i64 x.st)) (.cons (.v (.int .i64 x.e)) (.cons (.v (.slice x.a x.n x.c)) .nil))))
def encPs (x : StpV) (X : AV) : AV := .agg (.cons (.v (.int .i64 x.kind)) (.cons (.v (.int .i64 x.st)) (.cons (.v (.int .i64 x.e)) (.cons X .nil))))
theorem encPs_val (x : StpV) {X : AV} (hx : X.cells = [X.val]) (hv : X.val = .slice x.a x.n x.c) : (encP7 x).cells = (encPs x X).cells := by
 simp only [encP7, encPs, AV.cells_agg, AV.cells_cons, hx, hv]
 rfl
def i64R (z : Int) : Prop := -9223372036854775808 ≤ z ∧ z < 9223372036854775808
def stPL (f1 : Nat → Nat → AV) (s : StV) : List PstV := (List.range s.n3).map fun i => pst1 (f1 (hxA s.a3 s.n3) i)
def stOF (f2 : Nat → Nat → AV) (s : StV) : List (Int × Int) := (List.range s.n4).map fun i => off1 (f2 (hxA s.a4 s.n4) i)
def stMB (f1 f3 : Nat → Nat → AV) (s : StV) (k : Nat) : List Int := ((List.range ((stPL f1 s).getD k default).n).map fun i => mb1 (f3 (hxA ((stPL f1 s).getD k default).a ((stPL f1 s).getD k default).n) i)).map (·.1)
structure StOk (base1 base2 base3 : Nat → Option (Nat × Nat)) (len1 len2 len3 : Nat → Nat) (f1 f2 f3 : Nat → Nat → AV) (s : StV) : Prop where
 c1 : CmOk 3 base1 len1 f1 pst1 pstX s.a3 s.n3
 c2 : CmOk 2 base2 len2 f2 off1 offX s.a4 s.n4
 mb : ∀ k, k < ((List.range s.n3).map fun i => pst1 (f1 (hxA s.a3 s.n3) i)).length → CmOk 3 base3 len3 f3 mb1 mbX (((List.range s.n3).map fun i => pst1 (f1 (hxA s.a3 s.n3) i)).getD k default).a (((List.range s.n3).map fun i => pst1 (f1 (hxA s.a3 s.n3) i)).getD k default).n
structure StpOk (base4 : Nat → Option (Nat × Nat)) (len4 : Nat → Nat) (f4 : Nat → Nat → AV) (x : StpV) : Prop where
 r1 : i64R x.st
 r2 : i64R x.e
 n : x.n ≤ 1048576
 at_ : x.n ≠ 0 → ∃ b o, x.a = some ⟨b, o, none⟩ ∧ base4 (hx b o x.n) = some (b, o) ∧ x.n ≤ len4 (hx b o x.n) ∧ ∀ i, i < x.n → f4 (hx b o x.n) i = .v (.int .i64 (f4 (hx b o x.n) i).int1) ∧ i64R (f4 (hx b o x.n) i).int1
def stZ : StV := ⟨⟨#[99]⟩, 0, 0, 0, 0, 0, 0, 0, 0, 0, 0, 0, 0, 0, 0, List.replicate 32 0, none, 0, 0, none, 0, 0, none, 0, 0, none, 0, 0, none, 0, 0, none, 0, 0, 0, 0⟩
theorem stZ_ok {base1 base2 base3 : Nat → Option (Nat × Nat)} {len1 len2 len3 : Nat → Nat} {f1 f2 f3 : Nat → Nat → AV} : StOk base1 base2 base3 len1 len2 len3 f1 f2 f3 stZ :=
 ⟨⟨Nat.zero_le _, fun h => absurd rfl h⟩, ⟨Nat.zero_le _, fun h => absurd rfl h⟩, fun k hk => by
  have : k < 0 := hk
  omega⟩
def ctLo : CtL := [(9, aliveC), (32, plenC), (34, numC), (36, sameC), (39, dlenC)]
theorem ctLo_ok : CtLOk Tryz.prog ctLo := ⟨.fn alive_body alive_read, .fn plen_body plen_read, .fn nmb_body nmb_read, .fn same_body same_read, .fn dlen_body dlen_read, trivial⟩
def crLo : CrL := [(10, newWC), (11, shC), (28, addPC), (29, pickC), (30, settleC), (31, npoolC), (33, dnpC), (35, dpickC), (37, dsettleC), (38, daddC)]
theorem crLo_ok : CrLOk Tryz.prog crLo := ⟨⟨newW_body, newW_turn⟩, ⟨sh_body, sh_turn⟩, ⟨addP_body, addP_turn⟩, ⟨pick_body, pick_turn⟩, ⟨settle_body, settle_turn⟩, ⟨npool_body, npool_turn⟩, ⟨dnp_body, dnp_turn⟩, ⟨dpick_body, dpick_turn⟩, ⟨dsettle_body, dsettle_turn⟩, ⟨dadd_body, dadd_turn⟩, trivial⟩
attribute [local irreducible] verR sealedP sealedD pairP pairD shE shR addP daddP stlP goesP dkeF dpk sameF numF
theorem pools_calls {w : World} (SS : Nat → StV) (T : Nat → Two) (Y : Nat → StpV) {base bases basep basey : Option (Nat × Nat)} {n cap ns caps np capp ny capy : Nat} {g : Nat → Int} {K : List Int} {base1 base2 base3 base4 : Nat → Option (Nat × Nat)} {len1 len2 len3 len4 : Nat → Nat} {f1 f2 f3 f4 : Nat → Nat → AV}
  (hns : ns ≤ 1048576) (hrs : (roB bases 55 ns fun i => encS (SS i)).holds w) (hSS : ∀ i, i < ns → StOk base1 base2 base3 len1 len2 len3 f1 f2 f3 (SS i))
  (hn : n ≤ 17592186044415) (hro : (roB base 1 n fun i => .v (.int .u64 (g i))).holds w)
  (hnp : np ≤ 1048576) (hrp : (roB basep 109 np fun i => encT (T i)).holds w) (hT : ∀ i, i < np → (VR (T i).a ∧ VR (T i).b) ∧ okV (T i).a ∧ okV (T i).b)
  (hny : ny ≤ 1048576) (hry : (roB basey 4 ny fun i => encP7 (Y i)).holds w) (hY : ∀ i, i < ny → StpOk base4 len4 f4 (Y i))
  (h1 : (Blk.vro 3 base1 len1 f1).holds w) (h2 : (Blk.vro 2 base2 len2 f2).holds w) (h3 : (Blk.vro 3 base3 len3 f3).holds w) (h4 : (Blk.vro 1 base4 len4 f4).holds w) (hK2 : (Blk.var 2 (.ints .u32 64 K)).holds w) (hK3 : (Blk.var 3 (.ints .u32 8 b0L)).holds w) (hK4 : (Blk.var 4 (.ints .u32 64 K)).holds w) :
  Calls Tryz.prog 7 ([roS 945 bases 55 ns caps, roS 920 base 1 n cap, roS 930 basep 109 np capp, roS 940 basey 4 ny capy].map AV.val).toArray w fun e w' => e = .returned (AV.v (.bool true)).val ∧ Below w.heap.size w w' := by
 refine ro_fn tabs2 ctLo_ok crLo_ok Tryz.func7 rfl rfl (M := [(945, roB bases 55 ns fun i => encS (SS i)), (920, roB base 1 n fun i => .v (.int .u64 (g i))), (930, roB basep 109 np fun i => encT (T i)), (940, roB basey 4 ny fun i => encP7 (Y i)), (90001, .vro 3 base1 len1 f1), (90002, .vro 2 base2 len2 f2), (90003, .vro 3 base3 len3 f3), (90004, .vro 1 base4 len4 f4), (100002, .var 2 (.ints .u32 64 K)), (100003, .var 3 (.ints .u32 8 b0L)), (100004, .var 4 (.ints .u32 64 K))]) rfl ⟨roB_noOwn, roB_noOwn, roB_noOwn, roB_noOwn, fun _ h => h, fun _ h => h, fun _ h => h, fun _ h => h, fun _ h => h, fun _ h => h, fun _ h => h, trivial⟩ ⟨hrs, hro, hrp, hry, h1, h2, h3, h4, hK2, hK3, hK4, trivial⟩ ?_
 repeat (first | refine qs_ ?_ | refine qa_ ?_ | refine qo_ ?_ | refine qd_ ?_ | refine za ?_ | refine zb fun _ _ => ?_ | refine zc ?_ | refine ya ?_ | refine yb fun _ _ => ?_ | refine yc ?_ | refine qk_ ?_ | refine qb_ ?_ | refine qx_ ?_)
 refine s_cond (b := false) rfl (fun hb => by cases hb) (fun _ => ?_)
 repeat ((fail_if_success (first | refine o_at 10 ?_ | refine d_at 10 ?_)); (first | refine qs_ ?_ | refine qa_ ?_ | refine qo_ ?_ | refine qd_ ?_ | refine za ?_ | refine zb fun _ _ => ?_ | refine zc ?_ | refine ya ?_ | refine yb fun _ _ => ?_ | refine yc ?_ | refine qk_ ?_ | refine qb_ ?_ | refine qx_ ?_))
 refine oB5 rfl rfl rfl ⟨⟨0, 0, 0, [], [], fun _ => False, fun _ => False, (none, 0), (none, 0)⟩, rfl, Nat.zero_le _⟩ ⟨by (repeat' apply And.intro) <;> trivial, ⟨rfl, rfl, Nat.le_of_eq (Nat.zero_add _)⟩, fun _ => rfl, hn, fun _ _ => rfl⟩ (fun W hW => ?_)
 obtain ⟨bW, bR, bQ, ents, dents, S1, S2, v1, v2⟩ := W
 obtain ⟨hde, hel0⟩ := hW
 dsimp only at hde hel0 ⊢
 have hel : ents.length ≤ 17592186044416 := by omega
 repeat ((fail_if_success (first | refine o_at 31 ?_ | refine d_at 31 ?_)); (first | refine qs_ ?_ | refine qa_ ?_ | refine qo_ ?_ | refine qd_ ?_ | refine za ?_ | refine zb fun _ _ => ?_ | refine zc ?_ | refine ya ?_ | refine yb fun _ _ => ?_ | refine yc ?_ | refine qk_ ?_ | refine qb_ ?_ | refine qx_ ?_))
 refine oB2 rfl rfl rfl ⟨(0, 0), trivial⟩ ⟨trivial, trivial⟩ (fun P _ => ?_)
 obtain ⟨bp, bm⟩ := P
 dsimp only
 repeat ((fail_if_success (first | refine o_at 33 ?_ | refine d_at 33 ?_)); (first | refine qs_ ?_ | refine qa_ ?_ | refine qo_ ?_ | refine qd_ ?_ | refine za ?_ | refine zb fun _ _ => ?_ | refine zc ?_ | refine ya ?_ | refine yb fun _ _ => ?_ | refine yc ?_ | refine qk_ ?_ | refine qb_ ?_ | refine qx_ ?_))
 refine oB2 rfl rfl rfl ⟨0, trivial⟩ ⟨trivial, trivial⟩ (fun bd _ => ?_)
 repeat (first | refine qs_ ?_ | refine qa_ ?_ | refine qo_ ?_ | refine qd_ ?_ | refine za ?_ | refine zb fun _ _ => ?_ | refine zc ?_ | refine ya ?_ | refine yb fun _ _ => ?_ | refine yc ?_ | refine qk_ ?_ | refine qb_ ?_ | refine qx_ ?_)
 refine s_cond (b := false) rfl (fun hb => by cases hb) (fun _ => ?_)
 repeat (first | refine qs_ ?_ | refine qa_ ?_ | refine qo_ ?_ | refine qd_ ?_ | refine za ?_ | refine zb fun _ _ => ?_ | refine zc ?_ | refine ya ?_ | refine yb fun _ _ => ?_ | refine yc ?_ | refine qk_ ?_ | refine qb_ ?_ | refine qx_ ?_)
 refine s_joinE (α := Option (Nat × Nat) × Nat × Nat × (Nat → StV)) (fun x => 0 < x.2.1 ∧ x.2.1 ≤ 1048576 ∧ ∀ i, i < x.2.1 → StOk base1 base2 base3 len1 len2 len3 f1 f2 f3 (x.2.2.2 i)) (fun x => [(0, none, roS 945 x.1 55 x.2.1 x.2.2.1), (2, none, roS 930 basep 109 np capp), (3, none, roS 940 basey 4 ny capy), (10, none, .ptr ⟨34, 0, bW, 0, 4, 0, 0, 0, false⟩), (11, none, .ptr ⟨37, 0, bp, 0, 1, 0, 0, 0, false⟩), (12, none, .ptr ⟨38, 0, bd, 0, 2, 0, 0, 0, false⟩)])
  (fun x => [(945, roB x.1 55 x.2.1 fun i => encS (x.2.2.2 i)), (930, roB basep 109 np fun i => encT (T i)), (940, roB basey 4 ny fun i => encP7 (Y i)), (37, .row bp 121 1 1 (fun _ => .agg (.cons (.mp 1037 bm) .nil)) 1), (1037, .mp true bm [] 0), (38, .row bd 215 2 1 (fun _ => dplA 1038 none 0 0) 1), (1038, .vrow none 52 106 0 (fun i => encE (([] : List (Vote × Vote)).getD i default)) 0), (34, .row bW 62 4 1 (fun _ => wldT 200034 300034 400034 500034 bR bQ ents.length v1 v2) 1), (200034, regB bR ents [] S1), (300034, docB bQ dents [] S2), (400034, .vrow v1.1 114 1 ents.length (sgE 200034 ents) v1.2), (500034, .vrow v2.1 147 1 ents.length (sgE 300034 dents) v2.2), (90001, .vro 3 base1 len1 f1), (90002, .vro 2 base2 len2 f2), (90003, .vro 3 base3 len3 f3), (90004, .vro 1 base4 len4 f4), (100002, .var 2 (.ints .u32 64 K)), (100003, .var 3 (.ints .u32 8 b0L)), (100004, .var 4 (.ints .u32 64 K))]) ?_ ?_
 ·
  refine s_cond (b := ((ns : Int) == 0)) rfl (fun h9 => ?_) (fun h9 => ?_)
  ·
   repeat (first | refine qs_ ?_ | refine qa_ ?_ | refine qo_ ?_ | refine qd_ ?_ | refine za ?_ | refine zb fun _ _ => ?_ | refine zc ?_ | refine ya ?_ | refine yb fun _ _ => ?_ | refine yc ?_ | refine qk_ ?_ | refine qb_ ?_ | refine qx_ ?_)
   rename_i b49 _
   refine ⟨(ownB (some b49), 1, 1, fun _ => stZ), ⟨Nat.one_pos, (show 1 ≤ 1048576 by decide), fun _ _ => stZ_ok⟩, ?_⟩
   refine le_trans (le_blk (k := 49) (B' := .vrow (some b49) 37 55 1 (fun _ => encS stZ) 1) rfl rfl (Blk.le_vrow (Nat.le_refl _) fun i hi => (by have h0 : i = 0 := Nat.lt_one_iff.1 hi; subst h0; rfl))) ?_
   refine le_trans (le_freezeV (n := 49) (n' := 945) rfl rfl rfl fun _ h => vrow_ro h) ?_
   refine le_trans (le_val (t := 0) (av' := roS 945 (ownB (some b49)) 55 1 1) rfl rfl) ?_
   exact leQ
  ·
   have h8 : ¬ (ns : Int) = 0 := by simpa using h9
   repeat (first | refine qs_ ?_ | refine qa_ ?_ | refine qo_ ?_ | refine qd_ ?_ | refine za ?_ | refine zb fun _ _ => ?_ | refine zc ?_ | refine ya ?_ | refine yb fun _ _ => ?_ | refine yc ?_ | refine qk_ ?_ | refine qb_ ?_ | refine qx_ ?_)
   refine ⟨(bases, ns, caps, SS), ⟨by dsimp only; omega, hns, hSS⟩, ?_⟩
   exact leQ
 clear hSS hns hrs
 intro ⟨bases, ns, caps, SS⟩ ⟨hns0, hns, hSS⟩
 dsimp only at hns0 hns hSS ⊢
 repeat (first | refine qs_ ?_ | refine qa_ ?_ | refine qo_ ?_ | refine qd_ ?_ | refine za ?_ | refine zb fun _ _ => ?_ | refine zc ?_ | refine ya ?_ | refine yb fun _ _ => ?_ | refine yc ?_ | refine qk_ ?_ | refine qb_ ?_ | refine qx_ ?_)
 refine s_le (le_nil (t := 13) (n := 960) 52 106 (fun i => encE (([] : List (Vote × Vote)).getD i default)) rfl rfl) ?_
 refine s_loopW (α := Nat × (List (Int × ByteArray) × List (Vote × Vote)) × (Option Nat × Nat) × (Nat → Prop) × (Nat → Prop)) [13, 14, 15, 16, 50, 51, 52, 53, 54, 55, 56, 57, 58, 59, 60, 61, 62, 63, 64, 65, 66, 67, 68, 69, 70, 71, 72, 73, 74] [15, 960, 200034, 300034] (fun z => z.1 ≤ np ∧ z.2.1.1.length ≤ 2 * z.1 ∧ z.2.1.2.length = z.1 ∧ z.1 ≤ z.2.2.1.2 ∧ ∀ x, x ∈ z.2.1.2 → (VR x.1 ∧ VR x.2) ∧ okV x.1 ∧ okV x.2) (fun z => [(14, none, .v (.int .i64 z.1)), (13, none, .gs 960 0 (ownB z.2.2.1.1) 106 0 z.1 z.2.2.1.2)]) (fun z => [(960, .vrow z.2.2.1.1 52 106 z.1 (fun i => encE (z.2.1.2.getD i default)) z.2.2.1.2), (200034, regB bR ents z.2.1.1 z.2.2.2.1), (300034, docB bQ dents z.2.1.1 z.2.2.2.2)]) (fun z => np - z.1) (0, ([], []), (none, 0), S1, S2) ⟨Nat.zero_le _, Nat.zero_le _, rfl, Nat.le_refl _, fun _ h => (by cases h)⟩ ?_ ?_
 ·
  exact leQ
 ·
  intro ⟨k, ⟨R, LE⟩, ⟨va, cp⟩, S3, S4⟩ ⟨hk, hRl, hLl, hcp, hLE⟩
  dsimp only at hk hRl hLl hcp hLE
  repeat (first | refine qs_ ?_ | refine qa_ ?_ | refine qo_ ?_ | refine qd_ ?_ | refine za ?_ | refine zb fun _ _ => ?_ | refine zc ?_ | refine ya ?_ | refine yb fun _ _ => ?_ | refine yc ?_ | refine qk_ ?_ | refine qb_ ?_ | refine qx_ ?_)
  refine s_cond (b := decide ((k : Int) < (np : Int))) rfl (fun hb2 => ?_) (fun hb2 => ?_)
  ·
   have hk8 : k < np := by have := of_decide_eq_true hb2; omega
   obtain ⟨⟨hva, hvb⟩, hoa, hob⟩ := hT k hk8
   repeat (first | refine qs_ ?_ | refine qa_ ?_ | refine qo_ ?_ | refine qd_ ?_ | refine za ?_ | refine zb fun _ _ => ?_ | refine zc ?_ | refine ya ?_ | refine yb fun _ _ => ?_ | refine yc ?_ | refine qk_ ?_ | refine qb_ ?_ | refine qx_ ?_)
   refine s_draw rD7_15 rM7_15 [(15, [14]), (200034, [9]), (300034, [9])] rN7_15 rfl rfl ?_
   repeat ((fail_if_success (first | refine o_at 11 ?_ | refine d_at 11 ?_)); (first | refine qs_ ?_ | refine qa_ ?_ | refine qo_ ?_ | refine qd_ ?_ | refine za ?_ | refine zb fun _ _ => ?_ | refine zc ?_ | refine ya ?_ | refine yb fun _ _ => ?_ | refine yc ?_ | refine qk_ ?_ | refine qb_ ?_ | refine qx_ ?_))
   refine dB2 rfl rfl rfl ⟨(fun _ => False, fun _ => False), trivial⟩ ?hsh (fun z1 _ => ?_)
   case hsh => exact ⟨by (repeat' apply And.intro) <;> trivial, ⟨⟨⟨⟨rfl, rfl, rfl, Nat.zero_lt_one⟩, rfl⟩, ⟨rfl, rfl, rfl, rfl, rfl, rfl, rfl⟩, ⟨rfl, rfl, rfl, rfl, rfl, rfl, rfl⟩, ⟨rfl, rfl, Nat.le_of_eq (Nat.zero_add _)⟩, ⟨rfl, rfl, Nat.le_of_eq (Nat.zero_add _)⟩⟩, ⟨fun _ => rfl, fun _ => rfl, rfl, rfl⟩, ⟨hde, rfl, hel⟩, ⟨fun _ _ => rfl, fun _ _ => rfl⟩, (show (34 : Nat) ≠ 200034 by decide), (show (34 : Nat) ≠ 300034 by decide), (show (200034 : Nat) ≠ 300034 by decide), rfl, rfl, rfl, rfl⟩, ⟨hva, hvb⟩, (show R.length ≤ 3999999999980 by omega), rfl, rfl⟩
   repeat (first | refine qs_ ?_ | refine qa_ ?_ | refine qo_ ?_ | refine qd_ ?_ | refine za ?_ | refine zb fun _ _ => ?_ | refine zc ?_ | refine ya ?_ | refine yb fun _ _ => ?_ | refine yc ?_ | refine qk_ ?_ | refine qb_ ?_ | refine qx_ ?_)
   obtain ⟨E, hE⟩ : ∃ E, E = shE K (SS 0).nm (ents.map (·.1)) (T k) := ⟨_, rfl⟩
   obtain ⟨R2, hR2⟩ : ∃ R2, R2 = shR (SS 0).nm (ents.map (·.1)) R (T k) := ⟨_, rfl⟩
   refine s_cond (b := false) rfl (fun hb => by cases hb) (fun _ => ?_)
   refine s_le (le_blk (k := 200034) rfl rfl (le_regR (recs2 := R2) hR2)) ?_
   refine s_le (le_blk (k := 300034) rfl rfl (le_docR (recs2 := R2) hR2)) ?_
   refine s_le (le_blk (k := 15) rfl rfl (Blk.le_rowc (f' := fun _ => encE E) (Nat.le_refl _) fun _ _ => ⟨by rw [hE]; rfl, rfl⟩)) ?_
   have hvE : (VR E.1 ∧ VR E.2) ∧ okV E.1 ∧ okV E.2 := by rw [hE]; exact ⟨sh_VR hva hvb, sh_okV hoa hob⟩
   have hR2l : R2.length ≤ 2 * (k + 1) := by rw [hR2]; exact Nat.le_trans (shR_len _ _ _ _) (by omega)
   clear hE hR2
   repeat (first | refine qs_ ?_ | refine qa_ ?_ | refine qo_ ?_ | refine qd_ ?_ | refine za ?_ | refine zb fun _ _ => ?_ | refine zc ?_ | refine ya ?_ | refine yb fun _ _ => ?_ | refine yc ?_ | refine qk_ ?_ | refine qb_ ?_ | refine qx_ ?_)
   rename_i y hy
   refine ⟨(k + 1, (R2, LE ++ [E]), y, z1), ⟨hk8, hR2l, by dsimp only; rw [List.length_append, hLl]; rfl, hy, fun x hx => ?_⟩, by dsimp only; omega, ?_⟩
   ·
    rcases List.mem_append.1 hx with h | h
    ·
     exact hLE x h
    ·
     rw [(by simpa using h : x = E)]; exact hvE
   ·
    dsimp only
    refine Le.of ?leT ?leM (dfs_nil rfl rfl)
    case leT => (refine And.intro (by show some (none, AV.v (.int .i64 (IntKind.i64.wrap _))) = _; rw [wi64 (by omega) (by omega)]; rfl) ?_); repeat (first | exact trivial | refine And.intro (by exact rfl) ?_)
    case leM => (refine And.intro ⟨_, rfl, Blk.le_vrow (Nat.le_refl _) (fapp_Ek (L := LE) (e := E) hLl (fun _ _ => rfl) rfl)⟩ ?_); repeat (first | exact trivial | refine And.intro ⟨_, rfl, Blk.le_refl _⟩ ?_)
  ·
   have hk8 : k = np := by have := of_decide_eq_false hb2; omega
   clear hT hb2 hk hcp
   subst hk8
   have hLn : LE.length ≤ 1048576 := by omega
   have hRn : R.length ≤ 4000000000000 := by omega
   repeat (first | refine qs_ ?_ | refine qa_ ?_ | refine qo_ ?_ | refine qd_ ?_ | refine za ?_ | refine zb fun _ _ => ?_ | refine zc ?_ | refine ya ?_ | refine yb fun _ _ => ?_ | refine yc ?_ | refine qk_ ?_ | refine qb_ ?_ | refine qx_ ?_)
   refine s_le (tm' := [(17, none, .v (.int .i64 0)), (13, none, .gs 960 0 (ownB va) 106 0 LE.length cp), (0, none, roS 945 bases 55 ns caps), (3, none, roS 940 basey 4 ny capy), (10, none, .ptr ⟨34, 0, bW, 0, 4, 0, 0, 0, false⟩), (11, none, .ptr ⟨37, 0, bp, 0, 1, 0, 0, 0, false⟩), (12, none, .ptr ⟨38, 0, bd, 0, 2, 0, 0, 0, false⟩)]) (M' := [(960, .vrow va 52 106 LE.length (fun i => encE (LE.getD i default)) cp), (1037, .mp true bm [] 0), (200034, regB bR ents R S3), (300034, docB bQ dents R S4), (38, .row bd 215 2 1 (fun _ => dplA 1038 none 0 0) 1), (1038, .vrow none 52 106 0 (fun i => encE (([] : List (Vote × Vote)).getD i default)) 0), (945, roB bases 55 ns fun i => encS (SS i)), (940, roB basey 4 ny fun i => encP7 (Y i)), (37, .row bp 121 1 1 (fun _ => .agg (.cons (.mp 1037 bm) .nil)) 1), (34, .row bW 62 4 1 (fun _ => wldT 200034 300034 400034 500034 bR bQ ents.length v1 v2) 1), (400034, .vrow v1.1 114 1 ents.length (sgE 200034 ents) v1.2), (500034, .vrow v2.1 147 1 ents.length (sgE 300034 dents) v2.2), (90001, .vro 3 base1 len1 f1), (90002, .vro 2 base2 len2 f2), (90003, .vro 3 base3 len3 f3), (90004, .vro 1 base4 len4 f4), (100002, .var 2 (.ints .u32 64 K)), (100003, .var 3 (.ints .u32 8 b0L)), (100004, .var 4 (.ints .u32 64 K))]) ?_ ?_
   ·
    rw [hLl]
    exact leQ
   clear hLl hRl
   refine s_loopW (α := Nat × (List PEv × Nat) × (Option Nat × Nat) × (Nat → Prop)) [17, 18, 19, 20, 21, 22, 23, 24, 25, 26, 27, 28, 75, 76, 77, 78, 79, 80, 81, 82, 83, 84, 85, 86, 87, 88, 89, 90, 91, 92, 93, 94, 95, 96, 97, 98, 99, 100, 101, 102, 103, 104, 105, 106, 107, 108, 109, 110, 111, 112, 113, 114, 115, 116, 117, 118, 119, 120, 121, 122, 123, 124, 125, 126, 127, 128, 129, 130, 131, 132, 133, 134, 135, 136, 137, 138, 139, 140, 141, 142, 143, 144, 145, 146, 147, 148, 149, 150, 151, 152, 153, 154, 155, 156, 157, 158, 159, 160, 161, 162, 163, 164, 165, 166, 167, 168, 169, 170, 171, 172, 173, 174, 175, 176, 177, 178, 179, 180, 181, 182, 183, 184, 185, 186, 187, 188, 189, 190, 191, 192, 193, 194, 195, 196, 197, 198, 199, 200, 201, 202, 203, 204, 205, 206, 207, 208, 209, 210, 211, 212, 213, 214, 215, 216, 217] [960, 1037, 200034, 300034, 38, 1038, 18, 19, 27, 132, 139, 146, 970, 980] (fun z => z.1 ≤ ny ∧ PoolK z.2.1.1 ∧ z.2.1.1.length ≤ 65536) (fun z => [(17, none, .v (.int .i64 z.1))]) (fun z => [(960, .vrow va 52 106 LE.length (fun i => encE (LE.getD i default)) cp), (1037, .mp true bm (z.2.1.1.map encP) z.2.1.2), (200034, regB bR ents R z.2.2.2), (300034, docB bQ dents R S4), (38, .row bd 215 2 1 (fun _ => dplA 1038 z.2.2.1.1 z.2.1.1.length z.2.2.1.2) 1), (1038, .vrow z.2.2.1.1 52 106 z.2.1.1.length (fun i => encE ((z.2.1.1.map (·.e)).getD i default)) z.2.2.1.2)]) (fun z => ny - z.1) (0, ([], 0), (none, 0), S3) ⟨Nat.zero_le _, PoolK.nil, Nat.zero_le _⟩ ?_ ?_
   ·
    exact leQ
   ·
    intro ⟨k, ⟨pl, clk⟩, ⟨da, dc⟩, S5⟩ ⟨hk, hpk, hpl⟩
    dsimp only at hk hpk hpl
    repeat (first | refine qs_ ?_ | refine qa_ ?_ | refine qo_ ?_ | refine qd_ ?_ | refine za ?_ | refine zb fun _ _ => ?_ | refine zc ?_ | refine ya ?_ | refine yb fun _ _ => ?_ | refine yc ?_ | refine qk_ ?_ | refine qb_ ?_ | refine qx_ ?_)
    refine s_cond (b := decide ((k : Int) < (ny : Int))) rfl (fun hb2 => ?_) (fun hb2 => ?_)
    ·
     have hk8 : k < ny := by have := of_decide_eq_true hb2; omega
     obtain ⟨⟨hr1, hr2⟩, ⟨hr3, hr4⟩, hnd, hat⟩ := hY k hk8
     obtain ⟨J, hJ⟩ : ∃ J : Nat, numF (Y k).st ns = (J : Int) ∧ J < ns := by
      have := numF_at (k := (Y k).st) (n := (ns : Int)) (by omega)
      exact ⟨(numF (Y k).st ns).toNat, by omega, by omega⟩
     obtain ⟨hJ1, hJ2⟩ := hJ
     repeat ((fail_if_success (first | refine o_at 34 ?_ | refine d_at 34 ?_)); (first | refine qs_ ?_ | refine qa_ ?_ | refine qo_ ?_ | refine qd_ ?_ | refine za ?_ | refine zb fun _ _ => ?_ | refine zc ?_ | refine ya ?_ | refine yb fun _ _ => ?_ | refine yc ?_ | refine qk_ ?_ | refine qb_ ?_ | refine qx_ ?_))
     refine o_val rfl rfl trivial ⟨by (repeat' apply And.intro) <;> trivial, ⟨hr1, hr2⟩, (show (0 : Int) < (ns : Int) by omega)⟩ ?_
     refine o_le (le_val (t := 90) (av' := .v (.int .i64 J)) rfl (by rw [← hJ1]; rfl)) ?_
     repeat (first | refine oA rfl rfl trivial ?_ | refine oB rfl rfl rfl (fun _ _ => ?_) | refine oC rfl rfl rfl trivial ?_)
     refine qo_ ?_
     refine qs_ ?_
     rename_i b18 _ b19 _
     have hSJ := hSS J hJ2
     obtain ⟨s, hs⟩ : ∃ s, s = SS J := ⟨_, rfl⟩
     rw [← hs] at hSJ
     refine s_le (tm' := [(17, none, .v (.int .i64 k)), (18, none, .ptr ⟨18, 0, b18, 0, row135.size, 0, 0, 0, false⟩), (19, none, .ptr ⟨19, 0, b19, 0, row37.size, 0, 0, 0, false⟩), (13, none, .gs 960 0 (ownB va) 106 0 LE.length cp), (0, none, roS 945 bases 55 ns caps), (3, none, roS 940 basey 4 ny capy), (10, none, .ptr ⟨34, 0, bW, 0, 4, 0, 0, 0, false⟩), (11, none, .ptr ⟨37, 0, bp, 0, 1, 0, 0, 0, false⟩), (12, none, .ptr ⟨38, 0, bd, 0, 2, 0, 0, 0, false⟩)]) (M' := [(18, .row b18 135 row135.size 1 (fun _ => encP7 (Y k)) 1), (19, .row b19 37 row37.size 1 (fun _ => encS s) 1), (960, .vrow va 52 106 LE.length (fun i => encE (LE.getD i default)) cp), (1037, .mp true bm (pl.map encP) clk), (200034, regB bR ents R S5), (300034, docB bQ dents R S4), (38, .row bd 215 2 1 (fun _ => dplA 1038 da pl.length dc) 1), (1038, .vrow da 52 106 pl.length (fun i => encE ((pl.map (·.e)).getD i default)) dc), (945, roB bases 55 ns fun i => encS (SS i)), (940, roB basey 4 ny fun i => encP7 (Y i)), (37, .row bp 121 1 1 (fun _ => .agg (.cons (.mp 1037 bm) .nil)) 1), (34, .row bW 62 4 1 (fun _ => wldT 200034 300034 400034 500034 bR bQ ents.length v1 v2) 1), (400034, .vrow v1.1 114 1 ents.length (sgE 200034 ents) v1.2), (500034, .vrow v2.1 147 1 ents.length (sgE 300034 dents) v2.2), (90001, .vro 3 base1 len1 f1), (90002, .vro 2 base2 len2 f2), (90003, .vro 3 base3 len3 f3), (90004, .vro 1 base4 len4 f4), (100002, .var 2 (.ints .u32 64 K)), (100003, .var 3 (.ints .u32 8 b0L)), (100004, .var 4 (.ints .u32 64 K))]) ?_ ?_
     ·
      rw [hs]
      exact leQ
     refine s_joinE (α := (List PEv × Nat) × (Option Nat × Nat) × (Nat → Prop)) (fun x => PoolK x.1.1 ∧ x.1.1.length ≤ 65536) (fun x => [(17, none, .v (.int .i64 k)), (13, none, .gs 960 0 (ownB va) 106 0 LE.length cp), (0, none, roS 945 bases 55 ns caps), (3, none, roS 940 basey 4 ny capy), (10, none, .ptr ⟨34, 0, bW, 0, 4, 0, 0, 0, false⟩), (11, none, .ptr ⟨37, 0, bp, 0, 1, 0, 0, 0, false⟩), (12, none, .ptr ⟨38, 0, bd, 0, 2, 0, 0, 0, false⟩)]) (fun x => [(960, .vrow va 52 106 LE.length (fun i => encE (LE.getD i default)) cp), (1037, .mp true bm (x.1.1.map encP) x.1.2), (200034, regB bR ents R x.2.2), (300034, docB bQ dents R S4), (38, .row bd 215 2 1 (fun _ => dplA 1038 x.2.1.1 x.1.1.length x.2.1.2) 1), (1038, .vrow x.2.1.1 52 106 x.1.1.length (fun i => encE ((x.1.1.map (·.e)).getD i default)) x.2.1.2), (945, roB bases 55 ns fun i => encS (SS i)), (940, roB basey 4 ny fun i => encP7 (Y i)), (37, .row bp 121 1 1 (fun _ => .agg (.cons (.mp 1037 bm) .nil)) 1), (34, .row bW 62 4 1 (fun _ => wldT 200034 300034 400034 500034 bR bQ ents.length v1 v2) 1), (400034, .vrow v1.1 114 1 ents.length (sgE 200034 ents) v1.2), (500034, .vrow v2.1 147 1 ents.length (sgE 300034 dents) v2.2), (90001, .vro 3 base1 len1 f1), (90002, .vro 2 base2 len2 f2), (90003, .vro 3 base3 len3 f3), (90004, .vro 1 base4 len4 f4), (100002, .var 2 (.ints .u32 64 K)), (100003, .var 3 (.ints .u32 8 b0L)), (100004, .var 4 (.ints .u32 64 K))]) ?_ ?_
     ·
      repeat (first | refine qs_ ?_ | refine qa_ ?_ | refine qo_ ?_ | refine qd_ ?_ | refine za ?_ | refine zb fun _ _ => ?_ | refine zc ?_ | refine ya ?_ | refine yb fun _ _ => ?_ | refine yc ?_ | refine qk_ ?_ | refine qb_ ?_ | refine qx_ ?_)
      refine s_cond (b := ((Y k).kind == 1)) rfl (fun hk1 => ?_) (fun hk1 => ?_)
      ·
       have hvr : ∀ x, x ∈ (pl.map encP).map decP → VR x.e.1 ∧ VR x.e.2 := by rw [decP_all]; exact fun x hx => (hpk.2 x hx).2.1
       have hpl' : ((pl.map encP).map decP).length ≤ 65536 := by rw [decP_all]; exact hpl
       obtain ⟨V, hV⟩ : ∃ V, V = verE K b0L s (stPL f1 s) (stMB f1 f3 s) (stOF f2 s) R := ⟨_, rfl⟩
       obtain ⟨VD, hVD⟩ : ∃ V, V = dverE K s (stPL f1 s) (stMB f1 f3 s) (stOF f2 s) R := ⟨_, rfl⟩
       have hVV : ∀ x : Vote × Vote, okV x.1 → okV x.2 → VD x = V x := fun x h1 h2 => by rw [hV, hVD]; exact (verR_eq s _ _ _ K R x.1 x.2 h1 h2).symm
       repeat (first | refine qs_ ?_ | refine qa_ ?_ | refine qo_ ?_ | refine qd_ ?_ | refine za ?_ | refine zb fun _ _ => ?_ | refine zc ?_ | refine ya ?_ | refine yb fun _ _ => ?_ | refine yc ?_ | refine qk_ ?_ | refine qb_ ?_ | refine qx_ ?_)
       refine s_draw rD7_31 rM7_31 [(200034, [6])] rN7_31 rfl rfl ?_
       repeat ((fail_if_success (first | refine o_at 29 ?_ | refine d_at 29 ?_)); (first | refine qs_ ?_ | refine qa_ ?_ | refine qo_ ?_ | refine qd_ ?_ | refine za ?_ | refine zb fun _ _ => ?_ | refine zc ?_ | refine ya ?_ | refine yb fun _ _ => ?_ | refine yc ?_ | refine qk_ ?_ | refine qb_ ?_ | refine qx_ ?_))
       refine dB2 rfl rfl rfl ⟨(fun _ => False, (sortedE_some _).choose, none, 0), (sortedE_some _).choose_spec⟩ ?hpa (fun z1 hz1 => ?_)
       case hpa => exact ⟨by (repeat' apply And.intro) <;> trivial, ⟨⟨⟨⟨rfl, rfl, rfl, Nat.zero_lt_one⟩, rfl⟩, rfl, congrArg (List.map encP) (decP_all pl).symm⟩, (show (37 : Nat) ≠ 200034 by decide), (show (1037 : Nat) ≠ 200034 by decide)⟩, ⟨rfl, rfl, rfl, rfl, rfl, rfl, rfl⟩, ⟨hSJ.c1, hSJ.c2, hSJ.mb⟩, hvr, hpl'⟩
       obtain ⟨S6, L1, a1, q1⟩ := z1
       have hz1 : SortedE (letE V ((pl.map encP).map decP)) L1 := by rw [hV]; exact hz1
       rw [decP_all] at hz1
       repeat (first | refine qs_ ?_ | refine qa_ ?_ | refine qo_ ?_ | refine qd_ ?_ | refine za ?_ | refine zb fun _ _ => ?_ | refine zc ?_ | refine ya ?_ | refine yb fun _ _ => ?_ | refine yc ?_ | refine qk_ ?_ | refine qb_ ?_ | refine qx_ ?_)
       refine s_draw rD7_32 rM7_32 [(200034, [6])] rN7_32 rfl rfl ?_
       repeat ((fail_if_success (first | refine o_at 29 ?_ | refine d_at 29 ?_)); (first | refine qs_ ?_ | refine qa_ ?_ | refine qo_ ?_ | refine qd_ ?_ | refine za ?_ | refine zb fun _ _ => ?_ | refine zc ?_ | refine ya ?_ | refine yb fun _ _ => ?_ | refine yc ?_ | refine qk_ ?_ | refine qb_ ?_ | refine qx_ ?_))
       refine dB2 rfl rfl rfl ⟨(fun _ => False, (sortedE_some _).choose, none, 0), (sortedE_some _).choose_spec⟩ ?hpb (fun z2 hz2 => ?_)
       case hpb => exact ⟨by (repeat' apply And.intro) <;> trivial, ⟨⟨⟨⟨rfl, rfl, rfl, Nat.zero_lt_one⟩, rfl⟩, rfl, congrArg (List.map encP) (decP_all pl).symm⟩, (show (37 : Nat) ≠ 200034 by decide), (show (1037 : Nat) ≠ 200034 by decide)⟩, ⟨rfl, rfl, rfl, rfl, rfl, rfl, rfl⟩, ⟨hSJ.c1, hSJ.c2, hSJ.mb⟩, hvr, hpl'⟩
       obtain ⟨S7, L2, a2, q2⟩ := z2
       have hz2 : SortedE (letE V ((pl.map encP).map decP)) L2 := by rw [hV]; exact hz2
       rw [decP_all] at hz2
       repeat (first | refine qs_ ?_ | refine qa_ ?_ | refine qo_ ?_ | refine qd_ ?_ | refine za ?_ | refine zb fun _ _ => ?_ | refine zc ?_ | refine ya ?_ | refine yb fun _ _ => ?_ | refine yc ?_ | refine qk_ ?_ | refine qb_ ?_ | refine qx_ ?_)
       refine s_draw rD7_33 rM7_33 rX7_33 rN7_33 rfl rfl ?_
       repeat ((fail_if_success (first | refine o_at 35 ?_ | refine d_at 35 ?_)); (first | refine qs_ ?_ | refine qa_ ?_ | refine qo_ ?_ | refine qd_ ?_ | refine za ?_ | refine zb fun _ _ => ?_ | refine zc ?_ | refine ya ?_ | refine yb fun _ _ => ?_ | refine yc ?_ | refine qk_ ?_ | refine qb_ ?_ | refine qx_ ?_))
       refine dB rfl rfl rfl (fun z3 hz3 => ?_) ⟨(none, _), Nat.le_refl _⟩ ⟨by (repeat' apply And.intro) <;> trivial, ⟨⟨rfl, rfl, rfl, rfl, rfl, rfl⟩, ⟨rfl, rfl, rfl, rfl⟩, ⟨rfl, rfl, rfl, rfl, rfl⟩, ⟨rfl, rfl⟩, (show (38 : Nat) ≠ 1038 by decide), hpl, fun _ _ => rfl⟩, ⟨rfl, rfl, rfl, rfl, rfl, rfl, rfl⟩, ⟨hSJ.c1, hSJ.c2, hSJ.mb⟩, ?hvd, hRn⟩
       case hvd =>
        rw [range_decN (l := pl.map (·.e)) (by rw [List.length_map])]
        intro x hx
        obtain ⟨q, hq, rfl⟩ := List.mem_map.1 hx
        exact (hpk.2 q hq).2.1
       obtain ⟨Q, hQ⟩ : ∃ Q, Q = dpk VD ((List.range pl.length).map fun i => decE (encE ((pl.map (·.e)).getD i default))) 16 := ⟨_, rfl⟩
       have hQ1 : Q = L1.take 16 := by rw [hQ, range_decN (l := pl.map (·.e)) (by rw [List.length_map])]; exact hpk.pick hVV hz1
       have hQ2 : Q = L2.take 16 := by rw [hQ, range_decN (l := pl.map (·.e)) (by rw [List.length_map])]; exact hpk.pick hVV hz2
       have hQl : Q.length ≤ 16 := by rw [hQ1, List.length_take]; omega
       have e1 : Nat.min L1.length 16 = Q.length := by rw [hQ1, List.length_take]; exact Nat.min_comm _ _
       have e2 : Nat.min L2.length 16 = Q.length := by rw [hQ2, List.length_take]; exact Nat.min_comm _ _
       repeat (first | refine qd_ ?_ | refine dA rfl rfl trivial ?_)
       refine s_le (tm' := [(20, none, .gs 132 0 (ownB a1) 106 0 Q.length Q.length), (21, none, .gs 139 0 (ownB a2) 106 0 Q.length Q.length), (22, none, .gs 146 0 (ownB z3.1) 106 0 Q.length z3.2), (17, none, .v (.int .i64 k)), (13, none, .gs 960 0 (ownB va) 106 0 LE.length cp), (0, none, roS 945 bases 55 ns caps), (3, none, roS 940 basey 4 ny capy), (10, none, .ptr ⟨34, 0, bW, 0, 4, 0, 0, 0, false⟩), (11, none, .ptr ⟨37, 0, bp, 0, 1, 0, 0, 0, false⟩), (12, none, .ptr ⟨38, 0, bd, 0, 2, 0, 0, 0, false⟩)]) (M' := [(132, .vrow a1 52 106 Q.length (fun i => encE (Q.getD i default)) q1), (139, .vrow a2 52 106 Q.length (fun i => encE (Q.getD i default)) q2), (146, .vrow z3.1 52 106 Q.length (fun i => encE (Q.getD i default)) z3.2), (960, .vrow va 52 106 LE.length (fun i => encE (LE.getD i default)) cp), (1037, .mp true bm (pl.map encP) clk), (200034, regB bR ents R S7), (300034, docB bQ dents R S4), (38, .row bd 215 2 1 (fun _ => dplA 1038 da pl.length dc) 1), (1038, .vrow da 52 106 pl.length (fun i => encE ((pl.map (·.e)).getD i default)) dc), (945, roB bases 55 ns fun i => encS (SS i)), (940, roB basey 4 ny fun i => encP7 (Y i)), (37, .row bp 121 1 1 (fun _ => .agg (.cons (.mp 1037 bm) .nil)) 1), (34, .row bW 62 4 1 (fun _ => wldT 200034 300034 400034 500034 bR bQ ents.length v1 v2) 1), (400034, .vrow v1.1 114 1 ents.length (sgE 200034 ents) v1.2), (500034, .vrow v2.1 147 1 ents.length (sgE 300034 dents) v2.2), (90001, .vro 3 base1 len1 f1), (90002, .vro 2 base2 len2 f2), (90003, .vro 3 base3 len3 f3), (90004, .vro 1 base4 len4 f4), (100002, .var 2 (.ints .u32 64 K)), (100003, .var 3 (.ints .u32 8 b0L)), (100004, .var 4 (.ints .u32 64 K))]) ?_ ?_
       ·
        refine Le.of ?leT ?leM (by first | exact dfs_nil rfl rfl | exact rfl)
        case leT => (refine And.intro (by rw [← e1]; rfl) ?_); (refine And.intro (by rw [← e2]; rfl) ?_); (refine And.intro (by rw [hQ, hVD]; rfl) ?_); repeat (first | exact trivial | refine And.intro (by exact rfl) ?_)
        case leM => (refine And.intro ⟨_, rfl, Blk.le_vrow (by rw [← e1]; exact Nat.min_le_left _ _) (fun i hi => by rw [hQ1, take_getDE (by omega)])⟩ ?_); (refine And.intro ⟨_, rfl, Blk.le_vrow (by rw [← e2]; exact Nat.min_le_left _ _) (fun i hi => by rw [hQ2, take_getDE (by omega)])⟩ ?_); (refine And.intro ⟨_, rfl, le_of_eq' (by rw [hQ, hVD]; rfl)⟩ ?_); repeat (first | exact trivial | refine And.intro ⟨_, rfl, Blk.le_refl _⟩ ?_)
       clear hQ hVD hQ1 hQ2 hVV hV hz1 hz2 hvr hpl' e1 e2
       repeat ((fail_if_success (first | refine o_at 36 ?_ | refine d_at 36 ?_)); (first | refine qs_ ?_ | refine qa_ ?_ | refine qo_ ?_ | refine qd_ ?_ | refine za ?_ | refine zb fun _ _ => ?_ | refine zc ?_ | refine ya ?_ | refine yb fun _ _ => ?_ | refine yc ?_ | refine qk_ ?_ | refine qb_ ?_ | refine qx_ ?_))
       refine o_val rfl rfl trivial ⟨by (repeat' apply And.intro) <;> trivial, ⟨⟨rfl, rfl, Nat.le_of_eq (Nat.zero_add _)⟩, fun _ => rfl, Nat.le_trans hQl (by decide), fun _ _ => rfl⟩, ⟨rfl, rfl, Nat.le_of_eq (Nat.zero_add _)⟩, fun _ => rfl, Nat.le_trans hQl (by decide), fun _ _ => rfl⟩ ?_
       refine o_le (le_val (t := 149) (av' := .v (.bool true)) rfl (congrArg (fun v => Value.bool v) (sameF_self _).symm)) ?_
       repeat ((fail_if_success (first | refine o_at 36 ?_ | refine d_at 36 ?_)); (first | refine qs_ ?_ | refine qa_ ?_ | refine qo_ ?_ | refine qd_ ?_ | refine za ?_ | refine zb fun _ _ => ?_ | refine zc ?_ | refine ya ?_ | refine yb fun _ _ => ?_ | refine yc ?_ | refine qk_ ?_ | refine qb_ ?_ | refine qx_ ?_))
       refine o_val rfl rfl trivial ⟨by (repeat' apply And.intro) <;> (first | trivial | exact fun h => h), fun _ => ⟨⟨⟨rfl, rfl, Nat.le_of_eq (Nat.zero_add _)⟩, fun _ => rfl, Nat.le_trans hQl (by decide), fun _ _ => rfl⟩, ⟨rfl, rfl, Nat.le_of_eq (Nat.zero_add _)⟩, fun _ => rfl, Nat.le_trans hQl (by decide), fun _ _ => rfl⟩⟩ ?_
       repeat (first | refine qs_ ?_ | refine qa_ ?_ | refine qo_ ?_ | refine qd_ ?_ | refine za ?_ | refine zb fun _ _ => ?_ | refine zc ?_ | refine ya ?_ | refine yb fun _ _ => ?_ | refine yc ?_ | refine qk_ ?_ | refine qb_ ?_ | refine qx_ ?_)
       refine s_cond rfl (fun hb => ?_) (fun _ => ?_)
       ·
        exfalso
        have hb9 : (!(sameF ((List.range Q.length).map fun i => decE (encE (Q.getD i default))) ((List.range Q.length).map fun i => decE (encE (Q.getD i default))))) = true := hb
        rw [sameF_self] at hb9
        cases hb9
       repeat (first | refine qs_ ?_ | refine qa_ ?_ | refine qo_ ?_ | refine qd_ ?_ | refine za ?_ | refine zb fun _ _ => ?_ | refine zc ?_ | refine ya ?_ | refine yb fun _ _ => ?_ | refine yc ?_ | refine qk_ ?_ | refine qb_ ?_ | refine qx_ ?_)
       refine s_loopW (α := Nat × List (Vote × Vote)) [23, 147, 148, 149, 150, 151, 152, 153, 154, 155, 156, 157, 158, 159, 160, 161, 162, 163, 164, 165, 166, 167, 168, 169, 170] [132] (fun z => z.1 ≤ Q.length ∧ z.2.length = Q.length) (fun z => [(23, none, .v (.int .i64 z.1))]) (fun z => [(132, .vrow a1 52 106 Q.length (fun i => encE (z.2.getD i default)) q1)]) (fun z => Q.length - z.1) (0, Q) ⟨Nat.zero_le _, rfl⟩ ?_ ?_
       ·
        exact leQ
       ·
        intro ⟨j, Z⟩ ⟨hj, hZ⟩
        dsimp only at hj hZ
        repeat (first | refine qs_ ?_ | refine qa_ ?_ | refine qo_ ?_ | refine qd_ ?_ | refine za ?_ | refine zb fun _ _ => ?_ | refine zc ?_ | refine ya ?_ | refine yb fun _ _ => ?_ | refine yc ?_ | refine qk_ ?_ | refine qb_ ?_ | refine qx_ ?_)
        refine s_cond (b := decide ((j : Int) < (Q.length : Int))) rfl (fun hb3 => ?_) (fun hb3 => ?_)
        ·
         have hj8 : j < Q.length := by have := of_decide_eq_true hb3; omega
         repeat (first | refine qs_ ?_ | refine qa_ ?_ | refine qo_ ?_ | refine qd_ ?_ | refine za ?_ | refine zb fun _ _ => ?_ | refine zc ?_ | refine ya ?_ | refine yb fun _ _ => ?_ | refine yc ?_ | refine qk_ ?_ | refine qb_ ?_ | refine qx_ ?_)
         refine ⟨(j + 1, Z.set j (zeroV, zeroV)), ⟨hj8, by dsimp only; rw [List.length_set]; exact hZ⟩, by dsimp only; omega, ?_⟩
         dsimp only
         refine Le.of ?leT ?leM (by first | exact dfs_nil rfl rfl | exact rfl)
         (case leT => repeat (first | exact trivial | refine And.intro (by first | exact rfl | (show some (none, AV.v (.int .i64 (IntKind.i64.wrap _))) = _; rw [wi64 (by omega) (by omega)]; rfl)) ?_))
         case leM => (refine And.intro ⟨_, rfl, Blk.le_vrow (Nat.le_refl _) (fset_list hj8 hZ (zeroV, zeroV))⟩ ?_); repeat (first | exact trivial | refine And.intro ⟨_, rfl, Blk.le_refl _⟩ ?_)
        ·
         clear hj hb3
         repeat ((fail_if_success (first | refine o_at 36 ?_ | refine d_at 36 ?_)); (first | refine qs_ ?_ | refine qa_ ?_ | refine qo_ ?_ | refine qd_ ?_ | refine za ?_ | refine zb fun _ _ => ?_ | refine zc ?_ | refine ya ?_ | refine yb fun _ _ => ?_ | refine yc ?_ | refine qk_ ?_ | refine qb_ ?_ | refine qx_ ?_))
         refine o_val rfl rfl trivial ⟨by (repeat' apply And.intro) <;> trivial, ⟨⟨rfl, rfl, Nat.le_of_eq (Nat.zero_add _)⟩, fun _ => rfl, Nat.le_trans hQl (by decide), fun _ _ => rfl⟩, ⟨rfl, rfl, Nat.le_of_eq (Nat.zero_add _)⟩, fun _ => rfl, Nat.le_trans hQl (by decide), fun _ _ => rfl⟩ ?_
         refine o_le (le_val (t := 169) (av' := .v (.bool true)) rfl (congrArg (fun v => Value.bool v) (sameF_self _).symm)) ?_
         repeat (first | refine qs_ ?_ | refine qa_ ?_ | refine qo_ ?_ | refine qd_ ?_ | refine za ?_ | refine zb fun _ _ => ?_ | refine zc ?_ | refine ya ?_ | refine yb fun _ _ => ?_ | refine yc ?_ | refine qk_ ?_ | refine qb_ ?_ | refine qx_ ?_)
         refine s_cond (b := false) rfl (fun hb => by cases hb) (fun _ => ?_)
         repeat (first | refine qs_ ?_ | refine qa_ ?_ | refine qo_ ?_ | refine qd_ ?_ | refine za ?_ | refine zb fun _ _ => ?_ | refine zc ?_ | refine ya ?_ | refine yb fun _ _ => ?_ | refine yc ?_ | refine qk_ ?_ | refine qb_ ?_ | refine qx_ ?_)
         refine ⟨((pl, clk), (da, dc), S7), ⟨hpk, hpl⟩, ?_⟩
         exact leQ
      ·
       repeat (first | refine qs_ ?_ | refine qa_ ?_ | refine qo_ ?_ | refine qd_ ?_ | refine za ?_ | refine zb fun _ _ => ?_ | refine zc ?_ | refine ya ?_ | refine yb fun _ _ => ?_ | refine yc ?_ | refine qk_ ?_ | refine qb_ ?_ | refine qx_ ?_)
       refine s_cond (b := ((Y k).kind == 2)) rfl (fun hk2 => ?_) (fun hk2 => ?_)
       ·
        repeat (first | refine qs_ ?_ | refine qa_ ?_ | refine qo_ ?_ | refine qd_ ?_ | refine za ?_ | refine zb fun _ _ => ?_ | refine zc ?_ | refine ya ?_ | refine yb fun _ _ => ?_ | refine yc ?_ | refine qk_ ?_ | refine qb_ ?_ | refine qx_ ?_)
        refine s_le (le_nil (t := 24) (n := 970) 52 106 (fun i => encE (([] : List (Vote × Vote)).getD i default)) rfl rfl) ?_
        refine s_loopW (α := Nat × List (Vote × Vote) × Option Nat × Nat) [24, 25, 93, 94, 124, 125, 171, 172, 173, 174, 175, 176, 177, 178, 179, 180, 181, 182, 183, 184, 185, 186, 187, 188, 189, 190, 191, 192, 193, 194, 195, 196, 197, 198] [970] (fun z => z.1 ≤ (Y k).n ∧ z.2.1.length = z.1 ∧ z.1 ≤ z.2.2.2) (fun z => [(25, none, .v (.int .i64 z.1)), (24, none, .gs 970 0 (ownB z.2.2.1) 106 0 z.1 z.2.2.2)]) (fun z => [(970, .vrow z.2.2.1 52 106 z.1 (fun i => encE (z.2.1.getD i default)) z.2.2.2)]) (fun z => (Y k).n - z.1) (0, [], none, 0) ⟨Nat.zero_le _, rfl, Nat.le_refl _⟩ ?_ ?_
        ·
         exact leQ
        ·
         intro ⟨i, H, ha, hc⟩ ⟨hi, hHl, hic⟩
         dsimp only at hi hHl hic
         repeat (first | refine qs_ ?_ | refine qa_ ?_ | refine qo_ ?_ | refine qd_ ?_ | refine za ?_ | refine zb fun _ _ => ?_ | refine zc ?_ | refine ya ?_ | refine yb fun _ _ => ?_ | refine yc ?_ | refine qk_ ?_ | refine qb_ ?_ | refine qx_ ?_)
         refine s_cond (b := (decide ((i : Int) < ((Y k).n : Int)) && decide ((LE.length : Int) > 0))) rfl (fun hb3 => ?_) (fun hb3 => ?_)
         ·
          rw [Bool.and_eq_true] at hb3
          have hi8 : i < (Y k).n := by have := of_decide_eq_true hb3.1; omega
          have hL0 : 0 < LE.length := by have := of_decide_eq_true hb3.2; omega
          obtain ⟨db, do_, hda, hdb, hdl, hdf⟩ := hat (by omega)
          obtain ⟨hd1, hd2⟩ := hdf i hi8
          obtain ⟨I, hI1, hI2⟩ : ∃ I : Nat, numF (f4 (hx db do_ (Y k).n) i).int1 LE.length = (I : Int) ∧ I < LE.length := by
           have := numF_at (k := (f4 (hx db do_ (Y k).n) i).int1) (n := (LE.length : Int)) (by omega)
           exact ⟨(numF (f4 (hx db do_ (Y k).n) i).int1 LE.length).toNat, by omega, by omega⟩
          refine s_le (le_sub (n := 947) (k := 90004) (ix := hx db do_ (Y k).n) (m := (Y k).n) (g := fun i => .v (.int .i64 (f4 (hx db do_ (Y k).n) i).int1)) rfl rfl hdb hdl (fun i hi => ((hdf i hi).1).symm)) ?_
          refine s_le (le_blk (k := 18) rfl rfl (Blk.le_rowc (f' := fun _ => encPs (Y k) (roS 947 (some (db, do_)) 1 (Y k).n (Y k).c)) (Nat.le_refl _) fun _ _ => ⟨(encPs_val (Y k) (roS_cells _ _ _ _ _) ((roS_val 947 (some (db, do_)) 1 (Y k).n (Y k).c).trans (by rw [hda]; rfl))).symm, rfl⟩)) ?_
          repeat ((fail_if_success (first | refine o_at 34 ?_ | refine d_at 34 ?_)); (first | refine qs_ ?_ | refine qa_ ?_ | refine qo_ ?_ | refine qd_ ?_ | refine za ?_ | refine zb fun _ _ => ?_ | refine zc ?_ | refine ya ?_ | refine yb fun _ _ => ?_ | refine yc ?_ | refine qk_ ?_ | refine qb_ ?_ | refine qx_ ?_))
          refine o_val rfl rfl trivial ⟨by (repeat' apply And.intro) <;> trivial, hd2, (show (0 : Int) < (LE.length : Int) by omega)⟩ ?_
          refine o_le (le_val (t := 194) (av' := .v (.int .i64 I)) rfl (by rw [← hI1]; rfl)) ?_
          repeat (first | refine qs_ ?_ | refine qa_ ?_ | refine qo_ ?_ | refine qd_ ?_ | refine za ?_ | refine zb fun _ _ => ?_ | refine zc ?_ | refine ya ?_ | refine yb fun _ _ => ?_ | refine yc ?_ | refine qk_ ?_ | refine qb_ ?_ | refine qx_ ?_)
          rename_i y hy
          refine ⟨(i + 1, H ++ [LE.getD I default], y), ⟨hi8, by dsimp only; rw [List.length_append, hHl]; rfl, hy⟩, by dsimp only; omega, ?_⟩
          dsimp only
          refine le_trans (le_blk (k := 18) rfl rfl (Blk.le_rowc (f' := fun _ => encP7 (Y k)) (Nat.le_refl _) fun _ _ => ⟨encPs_val (Y k) (roS_cells _ _ _ _ _) ((roS_val 947 (some (db, do_)) 1 (Y k).n (Y k).c).trans (by rw [hda]; rfl)), rfl⟩)) ?_
          refine Le.of ?leT ?leM (by first | exact dfs_nil rfl rfl | exact rfl)
          case leT => (refine And.intro (by show some (none, AV.v (.int .i64 (IntKind.i64.wrap _))) = _; rw [wi64 (by omega) (by omega)]; rfl) ?_); repeat (first | exact trivial | refine And.intro (by exact rfl) ?_)
          case leM => (refine And.intro ⟨_, rfl, Blk.le_vrow (Nat.le_refl _) (fapp_Ek (L := H) (e := LE.getD I default) hHl (fun _ _ => rfl) rfl)⟩ ?_); repeat (first | exact trivial | refine And.intro ⟨_, rfl, Blk.le_refl _⟩ ?_)
         ·
          clear hb3 hat
          obtain ⟨P2, hP2⟩ : ∃ P2, P2 = stlP (goesP s (stPL f1 s) (stOF f2 s)) ((List.range i).map fun j => decE (encE (H.getD j default))) ((pl.map encP).map decP) := ⟨_, rfl⟩
          obtain ⟨D2, hD2⟩ : ∃ D2, D2 = ((List.range pl.length).map fun i => decE (encE ((pl.map (·.e)).getD i default))).filter (dkeF s (stPL f1 s) (stOF f2 s) ((List.range i).map fun j => decE (encE (H.getD j default)))) := ⟨_, rfl⟩
          have hP3 := hP2
          have hD3 := hD2
          rw [decP_all, range_decN hHl.symm] at hP3
          rw [range_decN (l := pl.map (·.e)) (by rw [List.length_map]), range_decN hHl.symm] at hD3
          obtain ⟨hs1, hs2⟩ := hpk.settle s (stPL f1 s) (stOF f2 s) H
          rw [← hP3] at hs1 hs2
          rw [← hD3] at hs1
          have hP2l : P2.length ≤ 65536 := by rw [hP3]; exact Nat.le_trans (stl_sub _ _ _).length_le hpl
          have hD2l : D2.length = P2.length := by rw [hs1, List.length_map]
          clear hP3 hD3
          repeat ((fail_if_success (first | refine o_at 30 ?_ | refine d_at 30 ?_)); (first | refine qs_ ?_ | refine qa_ ?_ | refine qo_ ?_ | refine qd_ ?_ | refine za ?_ | refine zb fun _ _ => ?_ | refine zc ?_ | refine ya ?_ | refine yb fun _ _ => ?_ | refine yc ?_ | refine qk_ ?_ | refine qb_ ?_ | refine qx_ ?_))
          rename_i y hy
          refine o_le (tm' := [(203, none, .gs 200 0 (ownB y.1) 106 0 i y.2), (202, none, encS s), (201, none, .ptr ⟨37, 0, bp, 0, 1, 0, 0, 0, false⟩), (26, none, .gs 200 0 (ownB y.1) 106 0 i y.2), (24, none, .gs 970 0 (ownB ha) 106 0 i hc), (17, none, .v (.int .i64 k)), (19, none, .ptr ⟨19, 0, b19, 0, row37.size, 0, 0, 0, false⟩), (13, none, .gs 960 0 (ownB va) 106 0 LE.length cp), (0, none, roS 945 bases 55 ns caps), (3, none, roS 940 basey 4 ny capy), (10, none, .ptr ⟨34, 0, bW, 0, 4, 0, 0, 0, false⟩), (11, none, .ptr ⟨37, 0, bp, 0, 1, 0, 0, 0, false⟩), (12, none, .ptr ⟨38, 0, bd, 0, 2, 0, 0, 0, false⟩)]) (M' := [(200, .vrow y.1 52 106 i (fun j => encE (H.getD j default)) y.2), (970, .vrow ha 52 106 i (fun j => encE (H.getD j default)) hc), (19, .row b19 37 row37.size 1 (fun _ => encS s) 1), (960, .vrow va 52 106 LE.length (fun i => encE (LE.getD i default)) cp), (1037, .mp true bm (pl.map encP) clk), (200034, regB bR ents R S5), (300034, docB bQ dents R S4), (38, .row bd 215 2 1 (fun _ => dplA 1038 da pl.length dc) 1), (1038, .vrow da 52 106 pl.length (fun i => encE ((pl.map (·.e)).getD i default)) dc), (945, roB bases 55 ns fun i => encS (SS i)), (940, roB basey 4 ny fun i => encP7 (Y i)), (37, .row bp 121 1 1 (fun _ => .agg (.cons (.mp 1037 bm) .nil)) 1), (34, .row bW 62 4 1 (fun _ => wldT 200034 300034 400034 500034 bR bQ ents.length v1 v2) 1), (400034, .vrow v1.1 114 1 ents.length (sgE 200034 ents) v1.2), (500034, .vrow v2.1 147 1 ents.length (sgE 300034 dents) v2.2), (90001, .vro 3 base1 len1 f1), (90002, .vro 2 base2 len2 f2), (90003, .vro 3 base3 len3 f3), (90004, .vro 1 base4 len4 f4), (100002, .var 2 (.ints .u32 64 K)), (100003, .var 3 (.ints .u32 8 b0L)), (100004, .var 4 (.ints .u32 64 K))]) ?_ ?_
          ·
           refine Le.of ?leT ?leM (by first | exact dfs_nil rfl rfl | exact rfl)
           case leT => (refine And.intro (gs_len (Nat.zero_add _)) ?_); (refine And.intro (by exact rfl) ?_); (refine And.intro (by exact rfl) ?_); (refine And.intro (gs_len (Nat.zero_add _)) ?_); repeat (first | exact trivial | refine And.intro (by exact rfl) ?_)
           case leM => (refine And.intro ⟨_, rfl, Blk.le_vrow (Nat.le_of_eq (Nat.zero_add _).symm) (fun j hj => by rw [fapp_ge (Nat.zero_le _)]; rfl)⟩ ?_); repeat (first | exact trivial | refine And.intro ⟨_, rfl, Blk.le_refl _⟩ ?_)
          refine oB rfl rfl rfl (fun _ _ => ?_) ⟨(), trivial⟩ ⟨by (repeat' apply And.intro) <;> trivial, ⟨⟨⟨⟨rfl, rfl, rfl, Nat.zero_lt_one⟩, rfl⟩, rfl, congrArg (List.map encP) (decP_all pl).symm⟩, (show (37 : Nat) ≠ 1037 by decide)⟩, ⟨hSJ.c1, hSJ.c2⟩, ⟨rfl, rfl, Nat.le_of_eq (Nat.zero_add _)⟩, fun _ => rfl, rfl, (show i ≤ 1000000000 by omega), fun _ _ => rfl⟩
          refine o_le (le_blk (k := 1037) (B' := .mp true bm (P2.map encP) clk) rfl rfl (le_of_eq' (by rw [hP2]; rfl))) ?_
          clear hP2
          repeat ((fail_if_success (first | refine o_at 37 ?_ | refine d_at 37 ?_)); (first | refine qs_ ?_ | refine qa_ ?_ | refine qo_ ?_ | refine qd_ ?_ | refine za ?_ | refine zb fun _ _ => ?_ | refine zc ?_ | refine ya ?_ | refine yb fun _ _ => ?_ | refine yc ?_ | refine qk_ ?_ | refine qb_ ?_ | refine qx_ ?_))
          refine oB2 rfl rfl rfl ⟨(none, 0), trivial⟩ ⟨by (repeat' apply And.intro) <;> trivial, ⟨⟨rfl, rfl, rfl, rfl, rfl, rfl⟩, ⟨rfl, rfl, rfl, rfl⟩, ⟨rfl, rfl, rfl, rfl, rfl⟩, ⟨rfl, rfl⟩, (show (38 : Nat) ≠ 1038 by decide), hpl, fun _ _ => rfl⟩, ⟨hSJ.c1, hSJ.c2⟩, ⟨rfl, rfl, Nat.le_of_eq (Nat.zero_add _)⟩, fun _ => rfl, ⟨rfl, rfl⟩, (show i ≤ 1000000000000 by omega), fun _ _ => rfl⟩ (fun z4 _ => ?_)
          refine o_le (le_blk (k := 38) (B' := .row bd 215 2 1 (fun _ => dplA 1038 z4.1 P2.length z4.2) 1) rfl rfl (le_of_eq' (by rw [← hD2l, hD2]; rfl))) ?_
          refine o_le (le_blk (k := 1038) (B' := .vrow z4.1 52 106 P2.length (fun i => encE ((P2.map (·.e)).getD i default)) z4.2) rfl rfl (le_of_eq' (by rw [← hs1, ← hD2l, hD2]; rfl))) ?_
          clear hD2
          repeat ((fail_if_success (first | refine o_at 36 ?_ | refine d_at 36 ?_)); (first | refine qs_ ?_ | refine qa_ ?_ | refine qo_ ?_ | refine qd_ ?_ | refine za ?_ | refine zb fun _ _ => ?_ | refine zc ?_ | refine ya ?_ | refine yb fun _ _ => ?_ | refine yc ?_ | refine qk_ ?_ | refine qb_ ?_ | refine qx_ ?_))
          refine o_val rfl rfl trivial ⟨by (repeat' apply And.intro) <;> trivial, ⟨⟨rfl, rfl, Nat.le_of_eq (Nat.zero_add _)⟩, fun _ => rfl, (show i ≤ 1000000000000 by omega), fun _ _ => rfl⟩, ⟨rfl, rfl, Nat.le_of_eq (Nat.zero_add _)⟩, fun _ => rfl, (show i ≤ 1000000000000 by omega), fun _ _ => rfl⟩ ?_
          refine o_le (le_val (t := 211) (av' := .v (.bool true)) rfl (congrArg (fun v => Value.bool v) (sameF_self _).symm)) ?_
          repeat (first | refine qs_ ?_ | refine qa_ ?_ | refine qo_ ?_ | refine qd_ ?_ | refine za ?_ | refine zb fun _ _ => ?_ | refine zc ?_ | refine ya ?_ | refine yb fun _ _ => ?_ | refine yc ?_ | refine qk_ ?_ | refine qb_ ?_ | refine qx_ ?_)
          refine s_cond (b := false) rfl (fun hb => by cases hb) (fun _ => ?_)
          repeat (first | refine qs_ ?_ | refine qa_ ?_ | refine qo_ ?_ | refine qd_ ?_ | refine za ?_ | refine zb fun _ _ => ?_ | refine zc ?_ | refine ya ?_ | refine yb fun _ _ => ?_ | refine yc ?_ | refine qk_ ?_ | refine qb_ ?_ | refine qx_ ?_)
          refine ⟨((P2, clk), z4, S5), ⟨hs2, hP2l⟩, ?_⟩
          exact leQ
       ·
        repeat (first | refine qs_ ?_ | refine qa_ ?_ | refine qo_ ?_ | refine qd_ ?_ | refine za ?_ | refine zb fun _ _ => ?_ | refine zc ?_ | refine ya ?_ | refine yb fun _ _ => ?_ | refine yc ?_ | refine qk_ ?_ | refine qb_ ?_ | refine qx_ ?_)
        refine s_cond (b := ((LE.length : Int) == 0)) rfl (fun h9 => ?_) (fun h9 => ?_)
        ·
         repeat (first | refine qs_ ?_ | refine qa_ ?_ | refine qo_ ?_ | refine qd_ ?_ | refine za ?_ | refine zb fun _ _ => ?_ | refine zc ?_ | refine ya ?_ | refine yb fun _ _ => ?_ | refine yc ?_ | refine qk_ ?_ | refine qb_ ?_ | refine qx_ ?_)
         refine ⟨(k + 1, (pl, clk), (da, dc), S5), ⟨hk8, hpk, hpl⟩, by dsimp only; omega, ?_⟩
         exact leQ
        ·
         have hL0 : LE.length ≠ 0 := by
          have : ¬ (LE.length : Int) = 0 := by simpa using h9
          omega
         obtain ⟨I, hI1, hI2⟩ : ∃ I : Nat, numF (Y k).e LE.length = (I : Int) ∧ I < LE.length := by
          have := numF_at (k := (Y k).e) (n := (LE.length : Int)) (by omega)
          exact ⟨(numF (Y k).e LE.length).toNat, by omega, by omega⟩
         repeat ((fail_if_success (first | refine o_at 34 ?_ | refine d_at 34 ?_)); (first | refine qs_ ?_ | refine qa_ ?_ | refine qo_ ?_ | refine qd_ ?_ | refine za ?_ | refine zb fun _ _ => ?_ | refine zc ?_ | refine ya ?_ | refine yb fun _ _ => ?_ | refine yc ?_ | refine qk_ ?_ | refine qb_ ?_ | refine qx_ ?_))
         refine o_val rfl rfl trivial ⟨by (repeat' apply And.intro) <;> trivial, ⟨hr3, hr4⟩, (show (0 : Int) < (LE.length : Int) by omega)⟩ ?_
         refine o_le (le_val (t := 103) (av' := .v (.int .i64 I)) rfl (by rw [← hI1])) ?_
         repeat (first | refine qs_ ?_ | refine qa_ ?_ | refine qo_ ?_ | refine qd_ ?_ | refine za ?_ | refine zb fun _ _ => ?_ | refine zc ?_ | refine ya ?_ | refine yb fun _ _ => ?_ | refine yc ?_ | refine qk_ ?_ | refine qb_ ?_ | refine qx_ ?_)
         rename_i b27 _
         obtain ⟨E, hE⟩ : ∃ E, E = LE.getD I default := ⟨_, rfl⟩
         obtain ⟨hvE, hoE⟩ := hLE (LE.getD I default) (getDE_mem hI2)
         rw [← hE] at hvE hoE
         refine s_le (le_blk (k := 27) rfl rfl (Blk.le_rowc (f' := fun _ => encE E) (Nat.le_refl _) fun _ _ => ⟨by rw [hE]; rfl, rfl⟩)) ?_
         obtain ⟨V, hV⟩ : ∃ V, V = verE K b0L s (stPL f1 s) (stMB f1 f3 s) (stOF f2 s) R E := ⟨_, rfl⟩
         have hVD : V = dverE K s (stPL f1 s) (stMB f1 f3 s) (stOF f2 s) R E := by rw [hV]; exact verR_eq s _ _ _ K R E.1 E.2 hoE.1 hoE.2
         obtain ⟨A, hA⟩ : ∃ A, A = addP V E ((pl.map encP).map decP) clk := ⟨_, rfl⟩
         obtain ⟨D, hD⟩ : ∃ D, D = daddP V E ((List.range pl.length).map fun i => decE (encE ((pl.map (·.e)).getD i default))) := ⟨_, rfl⟩
         have hA2 := hA
         have hD2 := hD
         rw [decP_all] at hA2
         rw [range_decN (l := pl.map (·.e)) (by rw [List.length_map])] at hD2
         obtain ⟨hk1', hk2'⟩ := hpk.add hvE hoE V clk
         have hlen := addP_le (V := V) (x := E) (clk := clk) hpl
         rw [← hA2] at hk1' hk2' hlen
         rw [← hD2] at hk1'
         clear hA2 hD2
         repeat (first | refine qs_ ?_ | refine qa_ ?_ | refine qo_ ?_ | refine qd_ ?_ | refine za ?_ | refine zb fun _ _ => ?_ | refine zc ?_ | refine ya ?_ | refine yb fun _ _ => ?_ | refine yc ?_ | refine qk_ ?_ | refine qb_ ?_ | refine qx_ ?_)
         refine s_draw rD7_27 rM7_27 [(1037, [7]), (200034, [7])] rN7_27 rfl rfl ?_
         repeat ((fail_if_success (first | refine o_at 28 ?_ | refine d_at 28 ?_)); (first | refine qs_ ?_ | refine qa_ ?_ | refine qo_ ?_ | refine qd_ ?_ | refine za ?_ | refine zb fun _ _ => ?_ | refine zc ?_ | refine ya ?_ | refine yb fun _ _ => ?_ | refine yc ?_ | refine qk_ ?_ | refine qb_ ?_ | refine qx_ ?_))
         refine dB2 rfl rfl rfl ⟨fun _ => False, trivial⟩ ?had (fun z2 _ => ?_)
         case had => exact ⟨by (repeat' apply And.intro) <;> trivial, ⟨⟨⟨⟨rfl, rfl, rfl, Nat.zero_lt_one⟩, rfl⟩, rfl, congrArg (List.map encP) (decP_all pl).symm⟩, (show (37 : Nat) ≠ 1037 by decide), (show (37 : Nat) ≠ 200034 by decide), (show (1037 : Nat) ≠ 200034 by decide)⟩, ⟨rfl, rfl, rfl, rfl, rfl, rfl, rfl⟩, ⟨hSJ.c1, hSJ.c2, hSJ.mb⟩, hvE.1, hvE.2⟩
         repeat (first | refine qs_ ?_ | refine qa_ ?_ | refine qo_ ?_ | refine qd_ ?_ | refine za ?_ | refine zb fun _ _ => ?_ | refine zc ?_ | refine ya ?_ | refine yb fun _ _ => ?_ | refine yc ?_ | refine qk_ ?_ | refine qb_ ?_ | refine qx_ ?_)
         refine s_le (le_val (t := 28) (av' := .v (.int .i64 A.1)) rfl (by rw [hA, hV]; rfl)) ?_
         refine s_le (le_blk (k := 1037) (B' := .mp true bm (A.2.1.map encP) A.2.2) rfl rfl (le_of_eq' (by rw [hA, hV]; rfl))) ?_
         clear hA
         refine s_draw rD7_28 rM7_28 [(38, [8]), (1038, [8]), (300034, [8])] rN7_28 rfl rfl ?_
         repeat ((fail_if_success (first | refine o_at 38 ?_ | refine d_at 38 ?_)); (first | refine qs_ ?_ | refine qa_ ?_ | refine qo_ ?_ | refine qd_ ?_ | refine za ?_ | refine zb fun _ _ => ?_ | refine zc ?_ | refine ya ?_ | refine yb fun _ _ => ?_ | refine yc ?_ | refine qk_ ?_ | refine qb_ ?_ | refine qx_ ?_))
         refine dB3 rfl rfl rfl ⟨(none, 0), trivial⟩ ?hdd (fun z3 _ => ?_)
         case hdd => exact ⟨by (repeat' apply And.intro) <;> trivial, ⟨⟨⟨rfl, rfl, rfl, rfl, rfl, rfl⟩, ⟨rfl, rfl, rfl, rfl⟩, ⟨rfl, rfl, rfl, rfl, rfl⟩, ⟨rfl, rfl⟩, (show (38 : Nat) ≠ 1038 by decide), hpl, fun _ _ => rfl⟩, (show (38 : Nat) ≠ 300034 by decide), (show (1038 : Nat) ≠ 300034 by decide)⟩, ⟨rfl, rfl, rfl, rfl, rfl, rfl, rfl⟩, ⟨hSJ.c1, hSJ.c2, hSJ.mb⟩, hvE.1, hvE.2, hRn⟩
         repeat (first | refine qs_ ?_ | refine qa_ ?_ | refine qo_ ?_ | refine qd_ ?_ | refine za ?_ | refine zb fun _ _ => ?_ | refine zc ?_ | refine ya ?_ | refine yb fun _ _ => ?_ | refine yc ?_ | refine qk_ ?_ | refine qb_ ?_ | refine qx_ ?_)
         have hD1 : (A.1 != D.1) = false := by rw [hk1']; simp
         have hDl : D.2.length = A.2.1.length := by rw [hk1', List.length_map]
         refine s_le (le_val (t := 123) (av' := .v (.bool false)) rfl (by rw [← hD1, hD, hVD]; rfl)) ?_
         refine s_le (le_blk (k := 38) (B' := .row bd 215 2 1 (fun _ => dplA 1038 z3.1 A.2.1.length z3.2) 1) rfl rfl (le_of_eq' (by rw [← hDl, hD, hVD]; rfl))) ?_
         refine s_le (le_blk (k := 1038) (B' := .vrow z3.1 52 106 A.2.1.length (fun i => encE ((A.2.1.map (·.e)).getD i default)) z3.2) rfl rfl (le_of_eq' (by rw [← show D.2 = A.2.1.map (·.e) by rw [hk1'], ← hDl, hD, hVD]; rfl))) ?_
         refine s_cond (b := false) rfl (fun hb => by cases hb) (fun _ => ?_)
         repeat (first | refine qs_ ?_ | refine qa_ ?_ | refine qo_ ?_ | refine qd_ ?_ | refine za ?_ | refine zb fun _ _ => ?_ | refine zc ?_ | refine ya ?_ | refine yb fun _ _ => ?_ | refine yc ?_ | refine qk_ ?_ | refine qb_ ?_ | refine qx_ ?_)
         refine ⟨((A.2.1, A.2.2), z3, z2), ⟨hk2', hlen⟩, ?_⟩
         exact leQ
     ·
      intro ⟨⟨pl2, clk2⟩, ⟨da2, dc2⟩, S6⟩ ⟨hpk2, hpl2⟩
      dsimp only at hpk2 hpl2 ⊢
      repeat ((fail_if_success (first | refine o_at 32 ?_ | refine d_at 32 ?_)); (first | refine qs_ ?_ | refine qa_ ?_ | refine qo_ ?_ | refine qd_ ?_ | refine za ?_ | refine zb fun _ _ => ?_ | refine zc ?_ | refine ya ?_ | refine yb fun _ _ => ?_ | refine yc ?_ | refine qk_ ?_ | refine qb_ ?_ | refine qx_ ?_))
      refine o_val rfl rfl trivial ⟨by (repeat' apply And.intro) <;> trivial, ⟨⟨⟨rfl, rfl, rfl, Nat.zero_lt_one⟩, rfl⟩, rfl⟩⟩ ?_
      repeat ((fail_if_success (first | refine o_at 39 ?_ | refine d_at 39 ?_)); (first | refine qs_ ?_ | refine qa_ ?_ | refine qo_ ?_ | refine qd_ ?_ | refine za ?_ | refine zb fun _ _ => ?_ | refine zc ?_ | refine ya ?_ | refine yb fun _ _ => ?_ | refine yc ?_ | refine qk_ ?_ | refine qb_ ?_ | refine qx_ ?_))
      refine o_val rfl rfl trivial ⟨by (repeat' apply And.intro) <;> trivial, ⟨rfl, rfl, rfl, rfl, rfl, rfl⟩, ⟨rfl, rfl, rfl, rfl⟩, ⟨rfl, rfl, rfl, rfl, rfl⟩, ⟨rfl, rfl⟩, (show (38 : Nat) ≠ 1038 by decide), hpl2, fun _ _ => rfl⟩ ?_
      repeat (first | refine qs_ ?_ | refine qa_ ?_ | refine qo_ ?_ | refine qd_ ?_ | refine za ?_ | refine zb fun _ _ => ?_ | refine zc ?_ | refine ya ?_ | refine yb fun _ _ => ?_ | refine yc ?_ | refine qk_ ?_ | refine qb_ ?_ | refine qx_ ?_)
      refine s_cond rfl (fun hb => ?_) (fun _ => ?_)
      ·
       exfalso
       have hb9 : (((pl2.map encP).length : Int) != (((List.range pl2.length).map fun i => decE (encE ((pl2.map (·.e)).getD i default))).length : Int)) = true := hb
       rw [List.length_map, List.length_map, List.length_range] at hb9
       simp at hb9
      repeat (first | refine qs_ ?_ | refine qa_ ?_ | refine qo_ ?_ | refine qd_ ?_ | refine za ?_ | refine zb fun _ _ => ?_ | refine zc ?_ | refine ya ?_ | refine yb fun _ _ => ?_ | refine yc ?_ | refine qk_ ?_ | refine qb_ ?_ | refine qx_ ?_)
      refine ⟨(k + 1, (pl2, clk2), (da2, dc2), S6), ⟨hk8, hpk2, hpl2⟩, by dsimp only; omega, ?_⟩
      exact leQ
    ·
     repeat (first | refine qs_ ?_ | refine qa_ ?_ | refine qo_ ?_ | refine qd_ ?_ | refine za ?_ | refine zb fun _ _ => ?_ | refine zc ?_ | refine ya ?_ | refine yb fun _ _ => ?_ | refine yc ?_ | refine qk_ ?_ | refine qb_ ?_ | refine qx_ ?_)
     refine s_ret ?_
     exact ⟨_, _, rfl, ⟨trivial, trivial⟩, rfl, rfl⟩
end Go.Proofs.YtofophjfgalhaaaGreatDoor.V
