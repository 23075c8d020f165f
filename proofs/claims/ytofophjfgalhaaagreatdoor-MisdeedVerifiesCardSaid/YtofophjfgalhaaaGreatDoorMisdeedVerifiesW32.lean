import Derived.Test.YtofophjfgalhaaaGreatDoorMisdeedVerifiesW31
set_option linter.unusedVariables false
set_option linter.unusedSimpArgs false
/-! The law's world: shown. -/
namespace Go.Proofs.YtofophjfgalhaaaGreatDoor.V
open Go Go.RowKit

structure Two where
  a : Vote
  b : Vote
  sa : Bool
  sb : Bool
  turned : Bool
def encT (t : Two) : AV := .agg (.cons (encV t.a) (.cons (encV t.b) (.cons (.agg (.cons (.v (.bool t.sa)) (.cons (.v (.bool t.sb)) .nil))) (.cons (.v (.bool t.turned)) .nil))))
def decT : AV → Option Two
  | .agg (.cons A (.cons B (.cons (.agg (.cons (.v (.bool sa)) (.cons (.v (.bool sb)) .nil))) (.cons (.v (.bool tu)) .nil)))) => match decV A, decV B with
    | some a, some b => some ⟨a, b, sa, sb, tu⟩
    | _, _ => none
  | _ => none
theorem decT_enc {v : AV} {t : Two} (h : decT v = some t) : v = encT t := by
  unfold decT at h
  split at h
  · split at h
    · rename_i h1 h2
      cases h
      rw [decV_enc h1, decV_enc h2]; rfl
    · cases h
  · cases h
def shA (K : List Int) (nm : ByteArray) (aa : List Int) (t : Two) : Vote := sldV K nm aa t.a t.sa
def shB (K : List Int) (nm : ByteArray) (aa : List Int) (t : Two) : Vote := sldV K nm aa t.b t.sb
def shR1 (nm : ByteArray) (aa : List Int) (recs : List (Int × ByteArray)) (t : Two) : List (Int × ByteArray) := sldR nm aa recs t.a t.sa
def shR (nm : ByteArray) (aa : List Int) (recs : List (Int × ByteArray)) (t : Two) : List (Int × ByteArray) := sldR nm aa (shR1 nm aa recs t) t.b t.sb
def shE (K : List Int) (nm : ByteArray) (aa : List Int) (t : Two) : Vote × Vote := if (belowF (shB K nm aa t).id (shA K nm aa t).id 32 0 != t.turned) = true then (shB K nm aa t, shA K nm aa t) else (shA K nm aa t, shB K nm aa t)
theorem sldR_len (nm : ByteArray) (aa : List Int) (recs : List (Int × ByteArray)) (x : Vote) (r : Bool) : (sldR nm aa recs x r).length ≤ recs.length + 1 := by
  unfold sldR
  split
  · omega
  · split
    · exact addR_len _ _
    · omega
def shC (_tag : Nat) (args : List AV) (M : MemF) : Option Res := match args, M 100002, M 100003, M 100004 with
  | [.ptr pw, .v (.string nm), T], some (.var 2 (.ints .u32 64 K2)), some (.var 3 (.ints .u32 8 B0)), some (.var 4 (.ints .u32 64 K)) => match decT T, wldV M pw with
    | some t, some (c, W) => some ⟨(Nat → Prop) × (Nat → Prop), c ∧ (VR t.a ∧ VR t.b) ∧ W.recs.length ≤ 998000 ∧ K2 = K ∧ B0 = b0L, fun _ => True, fun _ => .tup (.cons (encE (shE K nm (W.ents.map (·.1)) t)) (.cons (.v (.bool true)) .nil)), [W.nR, W.nQ], fun z => [regB W.bR W.ents (shR nm (W.ents.map (·.1)) W.recs t) z.1, docB W.bQ W.dents (shR nm (W.ents.map (·.1)) W.recs t) z.2]⟩
    | _, _ => none
  | _, _, _, _ => none
def ctSh : CtL := [(46, belowC)]
set_option maxRecDepth 100000 in
theorem ctSh_ok : CtLOk Tryz.prog ctSh := ⟨.fn below_body below_read, trivial⟩
def crSh : CrL := [(45, sldC)]
set_option maxRecDepth 100000 in
theorem crSh_ok : CrLOk Tryz.prog crSh := ⟨⟨sld_body, sld_turn⟩, trivial⟩
set_option maxRecDepth 100000 in
set_option maxHeartbeats 2000000 in
theorem sh_turn : TurnFn Tryz.prog 11 shC := by
  intro tag args M r h0 hok O w0 w hS
  unfold shC at h0
  split at h0
  · rename_i pw nm T K2 B0 K hM2 hM3 hM4
    split at h0
    · rename_i t c W ht hw
      have ht := decT_enc ht
      subst ht
      cases h0
      obtain ⟨hc, ⟨hva, hvb⟩, hrl, rfl, rfl⟩ := hok
      obtain ⟨⟨S1, S2, x1, c1, x2, c2, hMR, hMQ, hv, hall, ha1, ha2⟩, hne, hde, hel⟩ := wld_open hS hw hc
      obtain ⟨nR, nQ, bR, bQ, ents, dents, recs⟩ := W
      dsimp only at hMR hMQ hall ha1 ha2 hne hde hel hrl
      have hdl : dents.length = ents.length := by simpa using congrArg List.length hde
      have hG : ∀ {B : Blk}, (∃ k, M k = some B) → (∀ j, B.reads j → ¬ (regB bR ents recs S1).own j) ∧ ∀ j, B.reads j → ¬ (docB bQ dents recs S2).own j := fun ⟨k, hk⟩ => ⟨fun j hr ho => hS.roapart _ _ _ _ _ hMR hk ho hr, fun j hr ho => hS.roapart _ _ _ _ _ hMQ hk ho hr⟩
      obtain ⟨R1, hR1⟩ : ∃ R, R = shR1 nm (ents.map (·.1)) recs t := ⟨_, rfl⟩
      obtain ⟨R2, hR2⟩ : ∃ R, R = shR nm (ents.map (·.1)) recs t := ⟨_, rfl⟩
      obtain ⟨A, hA⟩ : ∃ A, A = shA K2 nm (ents.map (·.1)) t := ⟨_, rfl⟩
      obtain ⟨B, hB⟩ : ∃ B, B = shB K2 nm (ents.map (·.1)) t := ⟨_, rfl⟩
      have hR1l : R1.length ≤ 999000 := by rw [hR1]; exact Nat.le_trans (sldR_len _ _ _ _ _) (by omega)
      rw [show [AV.ptr pw, .v (.string nm), encT t].map AV.val = [roP 902 pw.b pw.cell 4, .v (.string nm), encT t].map AV.val by simp only [List.map_cons, List.map_nil, hv]]
      refine turn_two tabs2 ctSh_ok crSh_ok Tryz.func11 rfl rfl hS _ hMR hMQ hne (C1 := regB bR ents recs S1) (C2 := docB bQ dents recs S2) [(902, roB (some (pw.b, pw.cell)) 4 1 fun _ => wldA bR bQ x1 ents.length c1 x2 c2), (903, roB x1 1 ents.length (sgE 900 ents)), (904, roB x2 1 ents.length (sgE 901 dents)), (100002, .var 2 (.ints .u32 64 K2)), (100003, .var 3 (.ints .u32 8 b0L)), (100004, .var 4 (.ints .u32 64 K2))] rfl rfl (hS.holds _ _ hMR) (fun _ h => h) (fun _ h => h) (hS.holds _ _ hMQ) (fun _ h => h) (fun _ h => h) ⟨hall.1, hall.2.1, hall.2.2.1, hS.holds _ _ hM2, hS.holds _ _ hM3, hS.holds _ _ hM4, trivial⟩ ⟨roB_noOwn, roB_noOwn, roB_noOwn, fun _ h => h, fun _ h => h, fun _ h => h, trivial⟩ ⟨ha1.1, ha1.2.1, ha1.2.2.1, (hG ⟨_, hM2⟩).1, (hG ⟨_, hM3⟩).1, (hG ⟨_, hM4⟩).1, trivial⟩ ⟨ha2.1, ha2.2.1, ha2.2.2.1, (hG ⟨_, hM2⟩).2, (hG ⟨_, hM3⟩).2, (hG ⟨_, hM4⟩).2, trivial⟩ ?_
      repeat ((fail_if_success (first | refine o_at 45 ?_ | refine d_at 45 ?_)); (first | refine s_seq ?_ | refine s_region ?_ | refine o_nil ?_ | refine d_nil ?_ | refine oA rfl rfl trivial ?_ | refine oB rfl rfl rfl (fun _ _ => ?_) | refine oC rfl rfl rfl trivial ?_ | refine dA rfl rfl trivial ?_ | refine dB rfl rfl rfl (fun _ _ => ?_) | refine dC rfl rfl rfl trivial ?_ | refine s_skip ?_ | refine s_block ?_ | refine s_exit ?_ | refine s_label ?_))
      refine oB2 rfl rfl rfl ⟨(fun _ => False, fun _ => False), trivial⟩ ?hc1 (fun z1 _ => ?_)
      case hc1 => exact ⟨by (repeat' apply And.intro) <;> trivial, ⟨⟨⟨⟨rfl, rfl, Nat.zero_lt_one⟩, rfl⟩, ⟨rfl, rfl, rfl, rfl, rfl, rfl, rfl⟩, ⟨rfl, rfl, rfl, rfl, rfl, rfl, rfl⟩, ⟨rfl, rfl, Nat.le_of_eq (Nat.zero_add _)⟩, ⟨rfl, rfl, Nat.le_of_eq (Nat.zero_add _)⟩⟩, ⟨fun _ => rfl, fun _ => rfl, rfl, rfl⟩, ⟨hde, rfl, hel⟩, ⟨fun _ _ => rfl, fun _ _ => rfl⟩, (show (902 : Nat) ≠ 900 by decide), (show (902 : Nat) ≠ 901 by decide), (show (900 : Nat) ≠ 901 by decide), rfl, rfl, rfl, rfl⟩, hva, Nat.le_trans hrl (by decide), rfl, rfl⟩
      refine o_le (le_val (t := 20) (av' := .tup (.cons (encV A) (.cons (.v (.bool true)) .nil))) rfl (by rw [hA]; rfl)) ?_
      refine o_le (le_blk (k := 900) rfl rfl (le_regR (recs2 := R1) hR1)) ?_
      refine o_le (le_blk (k := 901) rfl rfl (le_docR (recs2 := R1) hR1)) ?_
      repeat ((fail_if_success (first | refine o_at 45 ?_ | refine d_at 45 ?_)); (first | refine s_seq ?_ | refine s_region ?_ | refine o_nil ?_ | refine d_nil ?_ | refine oA rfl rfl trivial ?_ | refine oB rfl rfl rfl (fun _ _ => ?_) | refine oC rfl rfl rfl trivial ?_ | refine dA rfl rfl trivial ?_ | refine dB rfl rfl rfl (fun _ _ => ?_) | refine dC rfl rfl rfl trivial ?_ | refine s_skip ?_ | refine s_block ?_ | refine s_exit ?_ | refine s_label ?_))
      refine oB2 rfl rfl rfl ⟨(fun _ => False, fun _ => False), trivial⟩ ?hc2 (fun z2 _ => ?_)
      case hc2 => exact ⟨by (repeat' apply And.intro) <;> trivial, ⟨⟨⟨⟨rfl, rfl, Nat.zero_lt_one⟩, rfl⟩, ⟨rfl, rfl, rfl, rfl, rfl, rfl, rfl⟩, ⟨rfl, rfl, rfl, rfl, rfl, rfl, rfl⟩, ⟨rfl, rfl, Nat.le_of_eq (Nat.zero_add _)⟩, ⟨rfl, rfl, Nat.le_of_eq (Nat.zero_add _)⟩⟩, ⟨fun _ => rfl, fun _ => rfl, rfl, rfl⟩, ⟨hde, rfl, hel⟩, ⟨fun _ _ => rfl, fun _ _ => rfl⟩, (show (902 : Nat) ≠ 900 by decide), (show (902 : Nat) ≠ 901 by decide), (show (900 : Nat) ≠ 901 by decide), rfl, rfl, rfl, rfl⟩, hvb, hR1l, rfl, rfl⟩
      refine o_le (le_val (t := 31) (av' := .tup (.cons (encV B) (.cons (.v (.bool true)) .nil))) rfl (by rw [hB]; rfl)) ?_
      refine o_le (le_blk (k := 900) rfl rfl (le_regR (recs2 := R2) (by rw [hR2, hR1]; rfl))) ?_
      refine o_le (le_blk (k := 901) rfl rfl (le_docR (recs2 := R2) (by rw [hR2, hR1]; rfl))) ?_
      repeat (first | refine s_seq ?_ | refine s_region ?_ | refine o_nil ?_ | refine d_nil ?_ | refine oA rfl rfl trivial ?_ | refine oB rfl rfl rfl (fun _ _ => ?_) | refine oC rfl rfl rfl trivial ?_ | refine dA rfl rfl trivial ?_ | refine dB rfl rfl rfl (fun _ _ => ?_) | refine dC rfl rfl rfl trivial ?_ | refine s_skip ?_ | refine s_block ?_ | refine s_exit ?_ | refine s_label ?_)
      refine s_draw rD11_3 rM11_3 rX11_3 rN11_3 rfl rfl ?_
      repeat (first | refine s_seq ?_ | refine s_region ?_ | refine o_nil ?_ | refine d_nil ?_ | refine oA rfl rfl trivial ?_ | refine oB rfl rfl rfl (fun _ _ => ?_) | refine oC rfl rfl rfl trivial ?_ | refine dA rfl rfl trivial ?_ | refine dB rfl rfl rfl (fun _ _ => ?_) | refine dC rfl rfl rfl trivial ?_ | refine s_skip ?_ | refine s_block ?_ | refine s_exit ?_ | refine s_label ?_)
      refine s_cond (b := (belowF B.id A.id 32 0 != t.turned)) rfl (fun hb => ?_) (fun hb => ?_)
      · have hE : shE K2 nm (ents.map (·.1)) t = (B, A) := by unfold shE; rw [← hA, ← hB, if_pos hb]
        repeat (first | refine s_seq ?_ | refine s_region ?_ | refine o_nil ?_ | refine d_nil ?_ | refine oA rfl rfl trivial ?_ | refine oB rfl rfl rfl (fun _ _ => ?_) | refine oC rfl rfl rfl trivial ?_ | refine dA rfl rfl trivial ?_ | refine dB rfl rfl rfl (fun _ _ => ?_) | refine dC rfl rfl rfl trivial ?_ | refine s_skip ?_ | refine s_block ?_ | refine s_exit ?_ | refine s_label ?_)
        refine s_ret ?_
        refine ⟨_, _, rfl, ⟨⟨⟨rfl, rfl, rfl, Nat.zero_lt_one⟩, rfl⟩, trivial, trivial⟩, rfl, z2, trivial, ?_, ⟨⟨_, rfl, le_regR hR2.symm⟩, fun _ h => h⟩, ⟨⟨_, rfl, le_docR hR2.symm⟩, fun _ h => h⟩, trivial⟩
        show (AV.tup (.cons (encE (B, A)) (.cons (.v (.bool true)) .nil))).val = (AV.tup (.cons (encE (shE K2 nm (ents.map (·.1)) t)) (.cons (.v (.bool true)) .nil))).val
        rw [hE]
      · have hE : shE K2 nm (ents.map (·.1)) t = (A, B) := by unfold shE; rw [← hA, ← hB, if_neg (by rw [hb]; decide)]
        repeat (first | refine s_seq ?_ | refine s_region ?_ | refine o_nil ?_ | refine d_nil ?_ | refine oA rfl rfl trivial ?_ | refine oB rfl rfl rfl (fun _ _ => ?_) | refine oC rfl rfl rfl trivial ?_ | refine dA rfl rfl trivial ?_ | refine dB rfl rfl rfl (fun _ _ => ?_) | refine dC rfl rfl rfl trivial ?_ | refine s_skip ?_ | refine s_block ?_ | refine s_exit ?_ | refine s_label ?_)
        refine s_ret ?_
        refine ⟨_, _, rfl, ⟨⟨⟨rfl, rfl, rfl, Nat.zero_lt_one⟩, rfl⟩, trivial, trivial⟩, rfl, z2, trivial, ?_, ⟨⟨_, rfl, le_regR hR2.symm⟩, fun _ h => h⟩, ⟨⟨_, rfl, le_docR hR2.symm⟩, fun _ h => h⟩, trivial⟩
        show (AV.tup (.cons (encE (A, B)) (.cons (.v (.bool true)) .nil))).val = (AV.tup (.cons (encE (shE K2 nm (ents.map (·.1)) t)) (.cons (.v (.bool true)) .nil))).val
        rw [hE]
    · cases h0
  · cases h0
set_option maxRecDepth 100000 in
theorem sh_body : HasBody Tryz.prog 11 := ⟨_, Tryz.func11, rfl, by decide⟩
end Go.Proofs.YtofophjfgalhaaaGreatDoor.V
/-! The law's world: enters. -/
namespace Go.Proofs.YtofophjfgalhaaaGreatDoor.V
open Go Go.RowKit

structure NewW where
  bW : Nat
  bR : Nat
  bQ : Nat
  ents : List (Int × Nat)
  dents : List (Int × Nat)
  S1 : Nat → Prop
  S2 : Nat → Prop
  v1 : Option Nat × Nat
  v2 : Option Nat × Nat
instance : Inhabited NewW := ⟨⟨0, 0, 0, [], [], fun _ => False, fun _ => False, (none, 0), (none, 0)⟩⟩
def wldT (tR tQ t1 t2 bR bQ n : Nat) (v1 v2 : Option Nat × Nat) : AV := .agg (.cons (.ptr ⟨tR, 0, bR, 0, 5, 0, 0, 0, false⟩) (.cons (.ptr ⟨tQ, 0, bQ, 0, 3, 0, 0, 0, false⟩) (.cons (.gs t1 0 (ownB v1.1) 1 0 n v1.2) (.cons (.gs t2 0 (ownB v2.1) 1 0 n v2.2) .nil))))
def newWC (tag : Nat) (args : List AV) (M : MemF) : Option Res := match args with
  | [X] => match seqOf M X with
    | some (c, es, n, f) => some ⟨NewW, c ∧ (n ≠ 0 → es = 1) ∧ n ≤ 17592186044415 ∧ ∀ i, i < n → f i = .v (.int .u64 (f i).int1), fun x => x.dents.map (·.1) = x.ents.map (·.1) ∧ x.ents.length ≤ n, fun x => .tup (.cons (.ptr ⟨tag, 0, x.bW, 0, 4, 0, 0, 0, false⟩) (.cons (.v (.bool true)) .nil)), [tag, tag + 200000, tag + 300000, tag + 400000, tag + 500000],
        fun x => [.row x.bW 62 4 1 (fun _ => wldT (tag + 200000) (tag + 300000) (tag + 400000) (tag + 500000) x.bR x.bQ x.ents.length x.v1 x.v2) 1, regB x.bR x.ents [] x.S1, docB x.bQ x.dents [] x.S2, .vrow x.v1.1 114 1 x.ents.length (sgE (tag + 200000) x.ents) x.v1.2, .vrow x.v2.1 147 1 x.ents.length (sgE (tag + 300000) x.dents) x.v2.2]⟩
    | none => none
  | _ => none
theorem fapp_sg {t : Nat} {l : List (Int × Nat)} {e : Int × Nat} {src : Nat → AV} (hs : (src 0).cells = (sigP e.2).cells) {k : Nat} (hk : l.length = k) : ∀ i, i < (l ++ [e]).length → (sgE t (l ++ [e]) i).cells = (fapp k (sgE t l) src i).cells ∧ (sgE t (l ++ [e]) i).one = true := by
  subst hk
  intro i hi
  rw [List.length_append] at hi
  have hi : i < l.length + 1 := hi
  refine ⟨?_, rfl⟩
  by_cases h : i < l.length
  · rw [fapp_lt h, sgE_cells, sgE_cells]
    rw [List.getD_eq_getElem?_getD, List.getElem?_append_left h, ← List.getD_eq_getElem?_getD]
  · have : i = l.length := by omega
    subst this
    unfold fapp
    rw [show Nat.blt l.length l.length = false from Bool.eq_false_iff.2 fun h0 => absurd (blt_lt h0) (Nat.lt_irrefl _), Nat.sub_self, sgE_cells]
    show _ = (src 0).cells
    rw [hs]
    simp
theorem known_none {d : List (Int × Nat)} {a : Int} (h : knownF (d.map (·.1)) a = false) : ∀ e ∈ d, e.1 ≠ a := by
  intro e he e0
  have : knownF (d.map (·.1)) a = true := by
    unfold knownF
    rw [List.any_eq_true]
    exact ⟨_, List.mem_map_of_mem (f := (·.1)) he, by simpa using e0⟩
  rw [this] at h
  cases h
theorem fst_none {d e : List (Int × Nat)} (h : d.map (·.1) = e.map (·.1)) {a : Int} (hd : ∀ q ∈ d, q.1 ≠ a) : ∀ q ∈ e, q.1 ≠ a := by
  intro q hq e0
  have hm : q.1 ∈ d.map (·.1) := by rw [h]; exact List.mem_map_of_mem (f := (·.1)) hq
  obtain ⟨r, hr, e1⟩ := List.mem_map.1 hm
  exact hd r hr (e1.trans e0)
def ctNw : CtL := [(42, knownC)]
set_option maxRecDepth 100000 in
theorem ctNw_ok : CtLOk Tryz.prog ctNw := ⟨.fn known_body known_read, trivial⟩
def crNw : CrL := [(27, newRC), (41, newDC), (43, enterC), (44, denterC)]
set_option maxRecDepth 100000 in
theorem enter_body : HasBody Tryz.prog 43 := ⟨_, Tryz.func43, rfl, by decide⟩
set_option maxRecDepth 100000 in
theorem crNw_ok : CrLOk Tryz.prog crNw := ⟨⟨newR_body, newR_turn⟩, ⟨newD_body, newD_turn⟩, ⟨enter_body, enter_turn⟩, ⟨denter_body, denter_turn⟩, trivial⟩
set_option maxRecDepth 100000 in
set_option maxHeartbeats 2000000 in
theorem newW_turn : TurnFn Tryz.prog 10 newWC := by
  intro tag args M r h0 hok O w0 w hS
  unfold newWC at h0
  split at h0
  · rename_i X
    split at h0
    · rename_i c es n f hsx
      cases h0
      obtain ⟨q1, q2, q3, q4⟩ := hok
      obtain ⟨base, cap, hv, hr⟩ := seqOf_spec hS hsx q1
      obtain ⟨g, hg⟩ : ∃ g : Nat → Int, g = fun i => (f i).int1 := ⟨_, rfl⟩
      have hro : (roB base 1 n fun i => .v (.int .u64 (g i))).holds w := roB_holds fun h0 => by
        obtain ⟨b, o, e1, e2⟩ := hr h0
        rw [q2 h0] at e2
        exact ⟨b, o, e1, e2.congr fun i hi => by rw [hg]; exact q4 i hi⟩
      rw [show [X].map AV.val = [roS 900 base 1 n cap].map AV.val by simp only [List.map_cons, List.map_nil, hv, roS_val]]
      refine turn_new tabs2 ctNw_ok crNw_ok Tryz.func10 rfl rfl hS _ [(900, roB base 1 n fun i => .v (.int .u64 (g i)))] [13, 10, 11, 950, 951] rfl ⟨hro, trivial⟩ ⟨roB_noOwn, trivial⟩ (by decide) rfl (s_post ?_)
      repeat ((fail_if_success (first | refine o_at 27 ?_ | refine d_at 27 ?_)); (first | refine s_seq ?_ | refine s_region ?_ | refine o_nil ?_ | refine d_nil ?_ | refine oA rfl rfl trivial ?_ | refine oB rfl rfl rfl (fun _ _ => ?_) | refine oC rfl rfl rfl trivial ?_ | refine dA rfl rfl trivial ?_ | refine dB rfl rfl rfl (fun _ _ => ?_) | refine dC rfl rfl rfl trivial ?_ | refine s_skip ?_ | refine s_block ?_ | refine s_exit ?_ | refine s_label ?_))
      refine oB rfl rfl rfl (fun zR _ => ?_) ⟨(0, fun _ => False), trivial⟩
      refine oB rfl rfl rfl (fun zQ _ => ?_) ⟨(0, fun _ => False), trivial⟩
      repeat (first | refine s_seq ?_ | refine s_region ?_ | refine o_nil ?_ | refine d_nil ?_ | refine oA rfl rfl trivial ?_ | refine oB rfl rfl rfl (fun _ _ => ?_) | refine oC rfl rfl rfl trivial ?_ | refine dA rfl rfl trivial ?_ | refine dB rfl rfl rfl (fun _ _ => ?_) | refine dC rfl rfl rfl trivial ?_ | refine s_skip ?_ | refine s_block ?_ | refine s_exit ?_ | refine s_label ?_)
      refine s_cond (b := false) rfl (fun hb => by cases hb) (fun _ => ?_)
      repeat (first | refine s_seq ?_ | refine s_region ?_ | refine o_nil ?_ | refine d_nil ?_ | refine oA rfl rfl trivial ?_ | refine oB rfl rfl rfl (fun _ _ => ?_) | refine oC rfl rfl rfl trivial ?_ | refine dA rfl rfl trivial ?_ | refine dB rfl rfl rfl (fun _ _ => ?_) | refine dC rfl rfl rfl trivial ?_ | refine s_skip ?_ | refine s_block ?_ | refine s_exit ?_ | refine s_label ?_)
      rename_i b13 _ _
      refine s_le (le_lay (n := 950) (B := .vrow none 114 1 0 (sgE 10 []) 0) rfl (fun k h => by cases h) (fun k h => h) (fun w => ⟨rfl, rfl⟩)) ?_
      refine s_le (le_lay (n := 951) (B := .vrow none 147 1 0 (sgE 11 []) 0) rfl (fun k h => by cases h) (fun k h => h) (fun w => ⟨rfl, rfl⟩)) ?_
      refine s_le (le_blk (k := 13) rfl rfl (Blk.le_rowc (f' := fun _ => wldT 10 11 950 951 zR.1 zQ.1 0 (none, 0) (none, 0)) (Nat.le_refl _) fun _ _ => ⟨rfl, rfl⟩)) ?_
      refine s_le (tm' := [(5, none, .v (.int .i64 0)), (4, none, .ptr ⟨13, 0, b13, 0, row62.size, 0, 0, 0, false⟩), (0, none, roS 900 base 1 n cap)]) (M' := [(13, .row b13 62 row62.size 1 (fun _ => wldT 10 11 950 951 zR.1 zQ.1 0 (none, 0) (none, 0)) 1), (10, regB zR.1 [] [] zR.2), (11, docB zQ.1 [] [] zQ.2), (950, .vrow none 114 1 0 (sgE 10 []) 0), (951, .vrow none 147 1 0 (sgE 11 []) 0), (900, roB base 1 n fun i => .v (.int .u64 (g i)))]) ?_ ?_
      · (refine Le.of ?leT ?leM (by first | exact dfs_nil rfl rfl | exact rfl); (case leT => repeat (first | exact trivial | refine And.intro (by first | exact rfl | (show some (none, AV.v (.int .i64 (IntKind.i64.wrap _))) = _; rw [wi64 (by omega) (by omega)]; rfl)) ?_)); (case leM => repeat (first | exact trivial | refine And.intro ⟨_, rfl, Blk.le_refl _⟩ ?_)))
      refine s_loopW (α := Nat × (List (Int × Nat) × List (Int × Nat)) × ((Nat → Prop) × (Nat → Prop)) × ((Option Nat × Nat) × (Option Nat × Nat))) [5] [13, 10, 11, 950, 951] (fun z => z.1 ≤ n ∧ z.2.1.2.map (·.1) = z.2.1.1.map (·.1) ∧ z.2.1.1.length ≤ z.1) (fun z => [(5, none, .v (.int .i64 z.1))]) (fun z => [(13, .row b13 62 row62.size 1 (fun _ => wldT 10 11 950 951 zR.1 zQ.1 z.2.1.1.length z.2.2.2.1 z.2.2.2.2) 1), (10, regB zR.1 z.2.1.1 [] z.2.2.1.1), (11, docB zQ.1 z.2.1.2 [] z.2.2.1.2), (950, .vrow z.2.2.2.1.1 114 1 z.2.1.1.length (sgE 10 z.2.1.1) z.2.2.2.1.2), (951, .vrow z.2.2.2.2.1 147 1 z.2.1.1.length (sgE 11 z.2.1.2) z.2.2.2.2.2)]) (fun z => n - z.1) (0, ([], []), (zR.2, zQ.2), ((none, 0), (none, 0))) ⟨Nat.zero_le _, rfl, Nat.le_refl _⟩ ?_ ?_
      · (refine Le.of ?leT ?leM (by first | exact dfs_nil rfl rfl | exact rfl); (case leT => repeat (first | exact trivial | refine And.intro (by first | exact rfl | (show some (none, AV.v (.int .i64 (IntKind.i64.wrap _))) = _; rw [wi64 (by omega) (by omega)]; rfl)) ?_)); (case leM => repeat (first | exact trivial | refine And.intro ⟨_, rfl, Blk.le_refl _⟩ ?_)))
      · intro ⟨k, ⟨ents, dents⟩, ⟨S1, S2⟩, ⟨v1, v2⟩⟩ ⟨hk, hde, hel⟩
        dsimp only at hk hde hel
        have hdl : dents.length = ents.length := by simpa using congrArg List.length hde
        repeat (first | refine s_seq ?_ | refine s_region ?_ | refine o_nil ?_ | refine d_nil ?_ | refine oA rfl rfl trivial ?_ | refine oB rfl rfl rfl (fun _ _ => ?_) | refine oC rfl rfl rfl trivial ?_ | refine dA rfl rfl trivial ?_ | refine dB rfl rfl rfl (fun _ _ => ?_) | refine dC rfl rfl rfl trivial ?_ | refine s_skip ?_ | refine s_block ?_ | refine s_exit ?_ | refine s_label ?_)
        refine s_cond (b := decide ((k : Int) < (n : Int))) rfl (fun hb2 => ?_) (fun hb2 => ?_)
        · have hk8 : k < n := by have := of_decide_eq_true hb2; omega
          repeat (first | refine s_seq ?_ | refine s_region ?_ | refine o_nil ?_ | refine d_nil ?_ | refine oA rfl rfl trivial ?_ | refine oB rfl rfl rfl (fun _ _ => ?_) | refine oC rfl rfl rfl trivial ?_ | refine dA rfl rfl trivial ?_ | refine dB rfl rfl rfl (fun _ _ => ?_) | refine dC rfl rfl rfl trivial ?_ | refine s_skip ?_ | refine s_block ?_ | refine s_exit ?_ | refine s_label ?_)
          refine s_draw rD10_7 rM10_7 rX10_7 rN10_7 rfl rfl ?_
          repeat (first | refine s_seq ?_ | refine s_region ?_ | refine o_nil ?_ | refine d_nil ?_ | refine oA rfl rfl trivial ?_ | refine oB rfl rfl rfl (fun _ _ => ?_) | refine oC rfl rfl rfl trivial ?_ | refine dA rfl rfl trivial ?_ | refine dB rfl rfl rfl (fun _ _ => ?_) | refine dC rfl rfl rfl trivial ?_ | refine s_skip ?_ | refine s_block ?_ | refine s_exit ?_ | refine s_label ?_)
          refine d_val rfl rfl trivial ⟨?h1, fun _ => ⟨⟨rfl, rfl, rfl, rfl, rfl, rfl, rfl⟩, ?h2⟩⟩ ?_
          case h1 => (repeat' apply And.intro) <;> (first | trivial | exact fun h => h)
          case h2 => rw [List.length_map]; show dents.length ≤ _; omega
          repeat (first | refine s_seq ?_ | refine s_region ?_ | refine o_nil ?_ | refine d_nil ?_ | refine oA rfl rfl trivial ?_ | refine oB rfl rfl rfl (fun _ _ => ?_) | refine oC rfl rfl rfl trivial ?_ | refine dA rfl rfl trivial ?_ | refine dB rfl rfl rfl (fun _ _ => ?_) | refine dC rfl rfl rfl trivial ?_ | refine s_skip ?_ | refine s_block ?_ | refine s_exit ?_ | refine s_label ?_)
          refine s_cond (b := ((g k == 0) || knownF (dents.map (·.1)) (g k))) rfl (fun hK => ?_) (fun hK => ?_)
          · repeat (first | refine s_seq ?_ | refine s_region ?_ | refine o_nil ?_ | refine d_nil ?_ | refine oA rfl rfl trivial ?_ | refine oB rfl rfl rfl (fun _ _ => ?_) | refine oC rfl rfl rfl trivial ?_ | refine dA rfl rfl trivial ?_ | refine dB rfl rfl rfl (fun _ _ => ?_) | refine dC rfl rfl rfl trivial ?_ | refine s_skip ?_ | refine s_block ?_ | refine s_exit ?_ | refine s_label ?_)
            refine ⟨(k + 1, (ents, dents), (S1, S2), (v1, v2)), ⟨hk8, hde, by dsimp only; omega⟩, by dsimp only; omega, ?_⟩
            (refine Le.of ?leT ?leM (by first | exact dfs_nil rfl rfl | exact rfl); (case leT => repeat (first | exact trivial | refine And.intro (by first | exact rfl | (show some (none, AV.v (.int .i64 (IntKind.i64.wrap _))) = _; rw [wi64 (by omega) (by omega)]; rfl)) ?_)); (case leM => repeat (first | exact trivial | refine And.intro ⟨_, rfl, Blk.le_refl _⟩ ?_)))
          · simp only [Bool.or_eq_false_iff, beq_eq_false_iff_ne, ne_eq] at hK
            obtain ⟨ha0, hkn⟩ := hK
            have hd := known_none hkn
            have he := fst_none hde hd
            repeat (first | refine s_seq ?_ | refine s_region ?_ | refine o_nil ?_ | refine d_nil ?_ | refine oA rfl rfl trivial ?_ | refine oB rfl rfl rfl (fun _ _ => ?_) | refine oC rfl rfl rfl trivial ?_ | refine dA rfl rfl trivial ?_ | refine dB rfl rfl rfl (fun _ _ => ?_) | refine dC rfl rfl rfl trivial ?_ | refine s_skip ?_ | refine s_block ?_ | refine s_exit ?_ | refine s_label ?_)
            refine s_draw rD10_8 rM10_8 [(10, [8])] rN10_8 rfl rfl ?_
            repeat ((fail_if_success (first | refine o_at 43 ?_ | refine d_at 43 ?_)); (first | refine s_seq ?_ | refine s_region ?_ | refine o_nil ?_ | refine d_nil ?_ | refine oA rfl rfl trivial ?_ | refine oB rfl rfl rfl (fun _ _ => ?_) | refine oC rfl rfl rfl trivial ?_ | refine dA rfl rfl trivial ?_ | refine dB rfl rfl rfl (fun _ _ => ?_) | refine dC rfl rfl rfl trivial ?_ | refine s_skip ?_ | refine s_block ?_ | refine s_exit ?_ | refine s_label ?_))
            refine dB rfl rfl rfl (fun z1 _ => ?_) ⟨(0, fun _ => False), trivial⟩ ⟨by (repeat' apply And.intro) <;> trivial, ⟨rfl, rfl, rfl, rfl, rfl, rfl, rfl⟩, ha0, he⟩
            repeat (first | refine s_seq ?_ | refine s_region ?_ | refine o_nil ?_ | refine d_nil ?_ | refine oA rfl rfl trivial ?_ | refine oB rfl rfl rfl (fun _ _ => ?_) | refine oC rfl rfl rfl trivial ?_ | refine dA rfl rfl trivial ?_ | refine dB rfl rfl rfl (fun _ _ => ?_) | refine dC rfl rfl rfl trivial ?_ | refine s_skip ?_ | refine s_block ?_ | refine s_exit ?_ | refine s_label ?_)
            refine s_draw rD10_9 rM10_9 [(11, [8])] rN10_9 rfl rfl ?_
            repeat ((fail_if_success (first | refine o_at 44 ?_ | refine d_at 44 ?_)); (first | refine s_seq ?_ | refine s_region ?_ | refine o_nil ?_ | refine d_nil ?_ | refine oA rfl rfl trivial ?_ | refine oB rfl rfl rfl (fun _ _ => ?_) | refine oC rfl rfl rfl trivial ?_ | refine dA rfl rfl trivial ?_ | refine dB rfl rfl rfl (fun _ _ => ?_) | refine dC rfl rfl rfl trivial ?_ | refine s_skip ?_ | refine s_block ?_ | refine s_exit ?_ | refine s_label ?_))
            refine dB rfl rfl rfl (fun z2 _ => ?_) ⟨(0, fun _ => False), trivial⟩ ⟨by (repeat' apply And.intro) <;> trivial, ⟨rfl, rfl, rfl, rfl, rfl, rfl, rfl⟩, ha0, hd, show dents.length ≤ _ by omega⟩
            repeat (first | refine s_seq ?_ | refine s_region ?_ | refine o_nil ?_ | refine d_nil ?_ | refine oA rfl rfl trivial ?_ | refine oB rfl rfl rfl (fun _ _ => ?_) | refine oC rfl rfl rfl trivial ?_ | refine dA rfl rfl trivial ?_ | refine dB rfl rfl rfl (fun _ _ => ?_) | refine dC rfl rfl rfl trivial ?_ | refine s_skip ?_ | refine s_block ?_ | refine s_exit ?_ | refine s_label ?_)
            refine s_cond (b := false) rfl (fun hb => by cases hb) (fun _ => ?_)
            repeat (first | refine s_seq ?_ | refine s_region ?_ | refine o_nil ?_ | refine d_nil ?_ | refine oA rfl rfl trivial ?_ | refine oB rfl rfl rfl (fun _ _ => ?_) | refine oC rfl rfl rfl trivial ?_ | refine dA rfl rfl trivial ?_ | refine dB rfl rfl rfl (fun _ _ => ?_) | refine dC rfl rfl rfl trivial ?_ | refine s_skip ?_ | refine s_block ?_ | refine s_exit ?_ | refine s_label ?_)
            rename_i _ _ y1 h1 _ _ y2 h2
            refine ⟨(k + 1, (ents ++ [(g k, z1.1)], dents ++ [(g k, z2.1)]), (z1.2, z2.2), (y1, y2)), ⟨hk8, by simp [hde], by simp; omega⟩, by dsimp only; omega, ?_⟩
            refine Le.of ?leT ?leM (by first | exact dfs_nil rfl rfl | exact rfl)
            (case leT => repeat (first | exact trivial | refine And.intro (by first | exact rfl | (show some (none, AV.v (.int .i64 (IntKind.i64.wrap _))) = _; rw [wi64 (by omega) (by omega)]; rfl)) ?_))
            case leM => exact ⟨⟨_, rfl, Blk.le_rowc (Nat.le_refl _) fun i hi => (by have h0 : i = 0 := Nat.lt_one_iff.1 hi; subst h0; exact ⟨by rw [List.length_append]; rfl, rfl⟩)⟩, ⟨_, rfl, Blk.le_refl _⟩, ⟨_, rfl, Blk.le_refl _⟩, ⟨_, rfl, Blk.le_vrowc (by rw [List.length_append]; exact Nat.le_refl _) (fapp_sg rfl rfl)⟩, ⟨_, rfl, Blk.le_vrowc (by rw [List.length_append]; exact Nat.le_refl _) fun i hi => fapp_sg rfl hdl i (by rw [List.length_append] at hi ⊢; rw [hdl]; exact hi)⟩, ⟨_, rfl, Blk.le_refl _⟩, trivial⟩
        · have hk8 : k = n := by have := of_decide_eq_false hb2; omega
          subst hk8
          repeat (first | refine s_seq ?_ | refine s_region ?_ | refine o_nil ?_ | refine d_nil ?_ | refine oA rfl rfl trivial ?_ | refine oB rfl rfl rfl (fun _ _ => ?_) | refine oC rfl rfl rfl trivial ?_ | refine dA rfl rfl trivial ?_ | refine dB rfl rfl rfl (fun _ _ => ?_) | refine dC rfl rfl rfl trivial ?_ | refine s_skip ?_ | refine s_block ?_ | refine s_exit ?_ | refine s_label ?_)
          refine s_ret ?_
          refine ⟨_, _, Le.refl, _, _, rfl, ⟨trivial, trivial, trivial⟩, rfl, ⟨b13, zR.1, zQ.1, ents, dents, S1, S2, v1, v2⟩, ⟨hde, hel⟩, rfl, ⟨⟨_, rfl, Blk.le_rowc (Nat.le_refl _) fun _ _ => ⟨rfl, rfl⟩⟩, fun _ h => h⟩, ⟨⟨_, rfl, Blk.le_refl _⟩, fun _ h => h⟩, ⟨⟨_, rfl, Blk.le_refl _⟩, fun _ h => h⟩, ⟨⟨_, rfl, Blk.le_vrowc (Nat.le_refl _) fun _ _ => ⟨rfl, rfl⟩⟩, fun _ h => h⟩, ⟨⟨_, rfl, Blk.le_vrowc (Nat.le_refl _) fun _ _ => ⟨rfl, rfl⟩⟩, fun _ h => h⟩, trivial⟩
    · cases h0
  · cases h0
set_option maxRecDepth 100000 in
theorem newW_body : HasBody Tryz.prog 10 := ⟨_, Tryz.func10, rfl, by decide⟩
end Go.Proofs.YtofophjfgalhaaaGreatDoor.V
/-! Verify without a book; what was signed, only read; the plain law. -/
namespace Go.Proofs.YtofophjfgalhaaaGreatDoor.V
open Go Go.RowKit

/-! ### no book -/
def verNC (args : List AV) (M : MemF) : Option (Prop × AV) := match args with
  | [S, P, .agg (.cons a (.cons b .nil))] => match decS S, decV a, decV b, missC [P] M with
    | some _, some _, some _, some (c, .v (.bool true)) => some (c, .v (.int .i64 1))
    | _, _, _, _ => none
  | _ => none
def ctVn : CtL := [(47, madeC)]
set_option maxRecDepth 100000 in
theorem ctVn_ok : CtLOk Tryz.prog ctVn := ⟨.fn made_body made_read, trivial⟩
set_option maxRecDepth 100000 in
set_option maxHeartbeats 2000000 in
theorem verN_read : ReadFn Tryz.prog 12 verNC := by
  intro args M q res h0 hq O w0 w hS
  unfold verNC at h0
  split at h0
  · rename_i S P a b
    split at h0
    · rename_i s x y c hs hx hy hm
      have hs := decS_enc hs
      have hx := decV_enc hx
      have hy := decV_enc hy
      subst hs hx hy
      clear hs hx hy
      cases h0
      rcases miss_open hS hm hq with ⟨rfl, hv⟩ | ⟨b, i, X, hP, hR, ⟨x0, y0, rfl, hv⟩ | ⟨x0, y0, t1, b1, t2, b2, t3, b3, rfl, hv⟩⟩
      · refine ro_fn tabs2 ctVn_ok (cr := []) trivial Tryz.func12 rfl rfl (M := []) rfl trivial trivial ?_
        repeat (first | refine s_seq ?_ | refine s_region ?_ | refine o_nil ?_ | refine d_nil ?_ | refine oA rfl rfl trivial ?_ | refine oB rfl rfl rfl (fun _ _ => ?_) | refine oC rfl rfl rfl trivial ?_ | refine dA rfl rfl trivial ?_ | refine dB rfl rfl rfl (fun _ _ => ?_) | refine dC rfl rfl rfl trivial ?_ | refine s_skip ?_ | refine s_block ?_ | refine s_exit ?_ | refine s_label ?_)
        refine s_cond (b := true) rfl (fun _ => ?_) (fun hb => by cases hb)
        repeat (first | refine s_seq ?_ | refine s_region ?_ | refine o_nil ?_ | refine d_nil ?_ | refine oA rfl rfl trivial ?_ | refine oB rfl rfl rfl (fun _ _ => ?_) | refine oC rfl rfl rfl trivial ?_ | refine dA rfl rfl trivial ?_ | refine dB rfl rfl rfl (fun _ _ => ?_) | refine dC rfl rfl rfl trivial ?_ | refine s_skip ?_ | refine s_block ?_ | refine s_exit ?_ | refine s_label ?_)
        refine s_ret ?_
        exact ⟨_, _, rfl, ⟨trivial, trivial⟩, rfl, rfl⟩
      · rw [show [encS s, P, .agg (.cons (encV x) (.cons (encV y) .nil))].map AV.val = [encS s, roP 900 b i 5, .agg (.cons (encV x) (.cons (encV y) .nil))].map AV.val by simp only [List.map_cons, List.map_nil, hP]]
        refine ro_fn tabs2 ctVn_ok (cr := []) trivial Tryz.func12 rfl rfl (M := [(900, roB (some (b, i)) 5 1 fun _ => zrAV x0 y0)]) rfl ⟨roB_noOwn, trivial⟩ ⟨roB_holds fun _ => ⟨b, i, rfl, hR⟩, trivial⟩ ?_
        repeat (first | refine s_seq ?_ | refine s_region ?_ | refine o_nil ?_ | refine d_nil ?_ | refine oA rfl rfl trivial ?_ | refine oB rfl rfl rfl (fun _ _ => ?_) | refine oC rfl rfl rfl trivial ?_ | refine dA rfl rfl trivial ?_ | refine dB rfl rfl rfl (fun _ _ => ?_) | refine dC rfl rfl rfl trivial ?_ | refine s_skip ?_ | refine s_block ?_ | refine s_exit ?_ | refine s_label ?_)
        refine s_cond (b := true) rfl (fun _ => ?_) (fun hb => by cases hb)
        repeat (first | refine s_seq ?_ | refine s_region ?_ | refine o_nil ?_ | refine d_nil ?_ | refine oA rfl rfl trivial ?_ | refine oB rfl rfl rfl (fun _ _ => ?_) | refine oC rfl rfl rfl trivial ?_ | refine dA rfl rfl trivial ?_ | refine dB rfl rfl rfl (fun _ _ => ?_) | refine dC rfl rfl rfl trivial ?_ | refine s_skip ?_ | refine s_block ?_ | refine s_exit ?_ | refine s_label ?_)
        refine s_ret ?_
        exact ⟨_, _, rfl, ⟨trivial, trivial⟩, rfl, rfl⟩
      · cases hv
    · cases h0
  · cases h0
set_option maxRecDepth 100000 in
theorem ver_body : HasBody Tryz.prog 12 := ⟨_, Tryz.func12, rfl, by decide⟩

/-! ### what was signed, only read from now on -/
def slG (l : List ByteArray) (bs : List (Nat × Nat)) (i : Nat) : AV := .gs 960 i (some ((bs.getD i (0, 0)).1, 0)) 1 0 (l.getD i ⟨#[]⟩).size (bs.getD i (0, 0)).2
abbrev slsM (t : Nat) (l : List ByteArray) (v : Option Nat) (bs : List (Nat × Nat)) : Mem := [(t, roB (ownB v) 1 l.length (slG l bs)), (960, .vro 1 (fun i => some ((bs.getD i (0, 0)).1, 0)) (fun i => (l.getD i ⟨#[]⟩).size) (fun i => strAt (l.getD i ⟨#[]⟩)))]
theorem sls_ro {H : Frag} {l : List ByteArray} {v : Option Nat} {cap : Nat} {bs : List (Nat × Nat)} (h : SlsF H l v cap bs) (t : Nat) (ht : Nat.beq t 777777 = false) (ht2 : t ≠ 960) : noDfrM (slsM t l v bs) = true ∧ noOwn (slsM t l v bs) ∧ (∀ w : World, H.on w → allHold w (slsM t l v bs)) ∧ ∀ m B k, (slsM t l v bs).get m = some B → B.reads k → H k ≠ none := by
  refine ⟨by unfold slsM noDfrM; rw [ht]; rfl, ⟨roB_noOwn, fun _ h => h, trivial⟩, fun w hw => ⟨roB_holds fun h0 => ?_, fun ix => ⟨fun h => (by cases h), fun b o hb i hi => ?_⟩, trivial⟩, fun m B k hm hr => ?_⟩
  · cases v with
    | none => exact absurd (by rw [h.none_ rfl]; rfl) h0
    | some b => exact ⟨b, 0, rfl, ((FRow.on (h.row b rfl) hw).reads).recell fun i hi => ⟨rfl, rfl⟩⟩
  · cases hb
    have hi : i < (l.getD ix ⟨#[]⟩).size := hi
    by_cases hx : ix < l.length
    · exact (FBytes.reads (h.byt ix hx) hw) i hi
    · rw [List.getD_eq_getElem?_getD, List.getElem?_eq_none (by omega)] at hi
      exact absurd hi (Nat.not_lt_zero _)
  · rw [Mem.get_cons] at hm
    split at hm
    · cases hm
      obtain ⟨_, ix, o, hl, hb⟩ := hr
      cases v with
      | none => cases hb
      | some b =>
        have hb : some (b, 0) = some (k, o) := hb
        cases hb
        exact (h.row k rfl).ne
    · rw [Mem.get_cons] at hm
      split at hm
      · cases hm
        obtain ⟨_, ix, o, hl, hb⟩ := hr
        have hb : some ((bs.getD ix (0, 0)).1, 0) = some (k, o) := hb
        cases hb
        have hl : 0 < (l.getD ix ⟨#[]⟩).size := hl
        by_cases hx : ix < l.length
        · exact (h.byt ix hx).ne
        · rw [List.getD_eq_getElem?_getD, List.getElem?_eq_none (by omega)] at hl
          exact absurd hl (Nat.lt_irrefl _)
      · cases hm
theorem strOf_at (s : ByteArray) : strOf s.size (strAt s) = s := by
  refine bytes_toList ?_
  unfold strOf
  rw [push_list]
  have e0 : ByteArray.empty.toList = [] := by rw [ByteArray.toList_eq]; rfl
  rw [e0, List.nil_append, ByteArray.toList_eq]
  apply List.ext_getElem?
  intro i
  rw [List.map_map, List.getElem?_map]
  have hsz : s.data.toList.length = s.size := rfl
  by_cases hi : i < s.size
  · rw [List.getElem?_range hi, List.getElem?_eq_getElem (by rw [hsz]; exact hi)]
    simp only [Option.map_some, Function.comp, Option.some.injEq]
    show u8g ((s.data.toList.getD i 0).toNat : Int) = _
    rw [List.getD_eq_getElem?_getD, List.getElem?_eq_getElem (by rw [hsz]; exact hi)]
    unfold u8g
    simp
  · rw [List.getElem?_eq_none (by simpa using hi), List.getElem?_eq_none (by rw [hsz]; omega)]; rfl

/-! ### the plain law -/
theorem sld_VR {K : List Int} {nm : ByteArray} {aa : List Int} {x : Vote} {r : Bool} (h : VR x) : VR (sldV K nm aa x r) := by
  unfold sldV
  split
  · exact h
  · split <;> exact h
theorem sld_okV {K : List Int} {nm : ByteArray} {aa : List Int} {x : Vote} {r : Bool} (h : okV x) : okV (sldV K nm aa x r) := by
  unfold sldV
  split
  · exact h
  · split <;> exact h
theorem sh_VR {K : List Int} {nm : ByteArray} {aa : List Int} {t : Two} (ha : VR t.a) (hb : VR t.b) : VR (shE K nm aa t).1 ∧ VR (shE K nm aa t).2 := by
  unfold shE
  split
  · exact ⟨sld_VR hb, sld_VR ha⟩
  · exact ⟨sld_VR ha, sld_VR hb⟩
theorem sh_okV {K : List Int} {nm : ByteArray} {aa : List Int} {t : Two} (ha : okV t.a) (hb : okV t.b) : okV (shE K nm aa t).1 ∧ okV (shE K nm aa t).2 := by
  unfold shE
  split
  · exact ⟨sld_okV hb, sld_okV ha⟩
  · exact ⟨sld_okV ha, sld_okV hb⟩
theorem sldR_nodup {nm : ByteArray} {aa : List Int} {recs : List (Int × ByteArray)} {x : Vote} {r : Bool} (h : recs.Nodup) : (sldR nm aa recs x r).Nodup := by
  unfold sldR
  split
  · exact h
  · split
    · exact addR_nodup h _
    · exact h
theorem sealed_eq (K : List Int) (nm : ByteArray) (recs : List (Int × ByteArray)) (x : Vote) : sealedP K b0L nm recs x = sealedD K nm recs x := by
  have hl := dsaid_len nm x
  unfold sealedP sealedD chkP chkD checkF dcheckF
  rw [said_eq, sea_of _ _ _ _ _ (by omega)]
theorem verR_eq (s : StV) (l : List PstV) (mem : Nat → List Int) (pun : List (Int × Int)) (K : List Int) (recs : List (Int × ByteArray)) (x y : Vote) (hx : okV x) (hy : okV y) :
    verR s l mem pun (pairP x y) x y (sealedP K b0L s.nm recs x) (sealedP K b0L s.nm recs y) = verR s l mem pun (pairD x y) x y (sealedD K s.nm recs x) (sealedD K s.nm recs y) := by
  rw [pair_eq x y hx hy, sealed_eq, sealed_eq]
def bytS (nm : ByteArray) (x : Vote) : ByteArray := strOf (dsaidR nm x).1.length (vl (dsaidR nm x).1)
theorem pairP_ok {x y : Vote} (hx : okV x) (hy : okV y) (h : (pairP x y).2 = 0) : x.from_ = y.from_ ∧ x.height = y.height ∧ x.round = y.round ∧ x.kind = y.kind ∧ intsEq 32 x.id y.id = false := by
  unfold pairP at h
  split at h
  · rename_i h1
    have h : plainV x = 0 := h
    rw [h] at h1; cases h1
  · split at h
    · rename_i h1
      have h : plainV y = 0 := h
      rw [h] at h1; cases h1
    · split at h
      · cases h
      · rename_i h3
        have h3 : (((((x.from_ != y.from_) || (x.height != y.height)) || (x.round != y.round)) || (x.kind != y.kind)) || (cmpV x y == 0)) = false := Bool.eq_false_iff.2 h3
        simp only [Bool.or_eq_false_iff, bne_eq_false_iff_eq] at h3
        obtain ⟨⟨⟨⟨e1, e2⟩, e3⟩, e4⟩, e5⟩ := h3
        refine ⟨e1, e2, e3, e4, ?_⟩
        rw [← (cmpV_eq x y hx hy).1]; exact e5
theorem dsaid_ok {nm : ByteArray} {x : Vote} (h : (dsaidR nm x).2 = 0) : (dsaidR nm x).1 = [86] ++ textL nm ++ dvoteL x := by
  unfold dsaidR at h ⊢
  split at h
  · cases h
  · rename_i h1
    split at h
    · rename_i h2
      have h : dplainV x = 0 := h
      rw [h] at h2; cases h2
    · rename_i h2
      rw [if_neg h1, if_neg h2]
theorem sealed_mem {K : List Int} {nm : ByteArray} {recs : List (Int × ByteArray)} {x : Vote} (h : sealedP K b0L nm recs x = true) : (dsaidR nm x).2 = 0 ∧ (x.from_, bytS nm x) ∈ recs := by
  rw [sealed_eq] at h
  unfold sealedD chkD dcheckF at h
  simp only [Bool.and_eq_true, beq_iff_eq] at h
  exact ⟨h.1, hasR_iff.1 h.2.1⟩
theorem verR_zero {s : StV} {l : List PstV} {mem : Nat → List Int} {pun : List (Int × Int)} {pr : (Vote × Vote) × Int} {x y : Vote} {sx sy : Bool} (h : verR s l mem pun pr x y sx sy = 0) : pr.2 = 0 ∧ sx = true ∧ sy = true := by
  unfold verR at h
  split at h
  · rename_i h1
    rw [h] at h1; cases h1
  · rename_i h1
    split at h
    · cases h
    · split at h
      · cases h
      · split at h
        · cases h
        · split at h
          · cases h
          · split at h
            · split at h
              · rename_i h2 h3
                exact ⟨by simpa using h1, h2, h3⟩
              · cases h
            · cases h
theorem two_found {s : StV} {l : List PstV} {mem : Nat → List Int} {pun : List (Int × Int)} {K : List Int} {recs : List (Int × ByteArray)} {x y : Vote} (hx : okV x) (hy : okV y) (hn : recs.Nodup)
    (h : verR s l mem pun (pairP x y) x y (sealedP K b0L s.nm recs x) (sealedP K b0L s.nm recs y) = 0) : ((sgOf recs x.from_).filter (eitherS (bytS s.nm x) (bytS s.nm y))).length = 2 := by
  obtain ⟨h1, h2, h3⟩ := verR_zero h
  obtain ⟨e1, e2, e3, e4, e5⟩ := pairP_ok hx hy h1
  obtain ⟨a1, a2⟩ := sealed_mem h2
  obtain ⟨b1, b2⟩ := sealed_mem h3
  refine two_of (sgOf_nodup hn _) (mem_sgOf a2) (mem_sgOf (e1 ▸ b2)) ?_
  unfold bytS
  rw [dsaid_ok a1, dsaid_ok b1]
  exact said_ne e4 e2 e3 hx hy e5
end Go.Proofs.YtofophjfgalhaaaGreatDoor.V
