import Derived.Test.YtofophjfgalhaaaGreatDoorMisdeedPoolsW10
import Derived.Test.YtofophjfgalhaaaGreatDoorMisdeedPoolsW17
import Derived.Test.YtofophjfgalhaaaGreatDoorMisdeedPoolsW26
set_option linter.unusedVariables false
set_option linter.unusedSimpArgs false
set_option maxRecDepth 100000
set_option maxHeartbeats 8000000
namespace Go.Proofs.YtofophjfgalhaaaGreatDoor.V
open Go Go.RowKit
section
variable {H : Frag} {b bS bR bG : Nat} {ents : List (Int × Nat)} {recs : List (Int × ByteArray)} {gr : List Grp} {lS lR lG : List (AV × AV × Nat)} {cS cR cG : Nat}
theorem RegF.pieces (h : RegF H b ents recs bS bR bG gr lS lR lG cS cR cG) : Pieces H ([.row b 74 5 1 (fun _ => regAV 0 bS bR bG) 1, .mp true bS lS cS, .mp true bR lR cR, .mp true bG lG cG] ++ [restB H [b, bS, bR, bG]]) := by
 obtain ⟨h1, h2, h3, h4, h5, h6, _⟩ := nodup4 h.ndb
 refine pieces_of (ks := [b, bS, bR, bG]) ⟨one_row h.row, one_map h.sg, one_map h.rc, one_map h.gp, trivial⟩ ?_
 simp [h1, h2, h3, h4, h5, h6]
theorem kv_mem {l : List (AV × AV × Nat)} {L : List (AV × AV)} (h : kv l = L) {p : AV × AV × Nat} (hp : p ∈ l) : (p.1, p.2.1) ∈ L := by rw [← h]; exact List.mem_map_of_mem (f := fun p : AV × AV × Nat => (p.1, p.2.1)) hp
theorem RegF.miss_sg (h : RegF H b ents recs bS bR bG gr lS lR lG cS cR cG) {a : Int} (ha : ∀ e ∈ ents, e.1 ≠ a) : mfind tabs2.tb tabs2.eqs 39 (.v (.int .u64 a)) lS 0 = some none := by
 refine mfind_miss fun p hp => ?_
 have := kv_mem h.sgv hp
 obtain ⟨e, he, h1⟩ := List.mem_map.1 this
 have h2 : p.1 = .v (.int .u64 e.1) := (congrArg Prod.fst h1).symm
 rw [h2, eq_u64]
 simp only [Option.some.injEq, beq_eq_false_iff_ne, ne_eq]
 exact fun e' => ha e he e'.symm
theorem RegF.kept (h : RegF H b ents recs bS bR bG gr lS lR lG cS cR cG) {ks : List Nat} {Bs : List Blk} {w : World} (hr : restB H ks ∈ Bs) (hh : ∀ B ∈ Bs, B.holds w) {k : Nat} (hk : k ∉ ks) : (∀ e ∈ ents, e.2 = k → FRow (restr w (ownU Bs)) k 222 2 1 (fun _ => sigAV b e.1) 1) ∧ (∀ g ∈ gr, g.blk = k → FRow (restr w (ownU Bs)) k 9 1 (sgOf recs g.a).length (fun i => .v (.string ((sgOf recs g.a).getD i ⟨#[]⟩))) g.cap) := by
 refine ⟨fun e he e1 => ?_, fun g hg e1 => ?_⟩
 ·
  subst e1
  exact (h.sig e he).same (closed_same hr hh hk (h.sig e he).ne)
 ·
  subst e1
  exact (h.grp g hg).same (closed_same hr hh hk (h.grp g hg).ne)
theorem RegF.dom (h : RegF H b ents recs bS bR bG gr lS lR lG cS cR cG) {k : Nat} (hk : k ∈ ents.map (·.2) ++ gr.map (·.blk)) : H k ≠ none ∧ k ∉ [b, bS, bR, bG] := by
 obtain ⟨_, _, _, _, _, _, h1, h2, h3, h4, _⟩ := nodup4 h.ndb
 refine ⟨?_, ?_⟩
 ·
  rcases List.mem_append.1 hk with hk | hk
  ·
   obtain ⟨e, he, rfl⟩ := List.mem_map.1 hk
   exact (h.sig e he).ne
  ·
   obtain ⟨e, he, rfl⟩ := List.mem_map.1 hk
   exact (h.grp e he).ne
 ·
  intro hm
  simp only [List.mem_cons, List.not_mem_nil, or_false] at hm
  rcases hm with rfl | rfl | rfl | rfl
  ·
   exact h1 hk
  ·
   exact h2 hk
  ·
   exact h3 hk
  ·
   exact h4 hk
abbrev entBs (H : Frag) (b bS bR bG : Nat) (lS lR lG : List (AV × AV × Nat)) (cS cR cG b' : Nat) (a : Int) : List Blk := [.row b 74 5 1 (fun _ => regAV 0 bS bR bG) 1, .mp true bS (lS ++ [(.v (.int .u64 a), sigP b', cS)]) (cS + 1), .mp true bR lR cR, .mp true bG lG cG, .row b' 222 2 1 (fun _ => sigAV b a) 1, restB H [b, bS, bR, bG]]
theorem reg_enter (h : RegF H b ents recs bS bR bG gr lS lR lG cS cR cG) {a : Int} (ha : ∀ e ∈ ents, e.1 ≠ a) {b' : Nat} {w : World} (hh : ∀ B ∈ entBs H b bS bR bG lS lR lG cS cR cG b' a, B.holds w) (hp : (entBs H b bS bR bG lS lR lG cS cR cG b' a).Pairwise fun B B' => ∀ k, B.own k → ¬ B'.own k) :
  IsReg b (ents ++ [(a, b')]) recs (restr w (ownU (entBs H b bS bR bG lS lR lG cS cR cG b' a))) := by
 have hr : restB H [b, bS, bR, bG] ∈ entBs H b bS bR bG lS lR lG cS cR cG b' a := .tail _ (.tail _ (.tail _ (.tail _ (.tail _ (.head _)))))
 have nb : b' ∉ b :: bS :: bR :: bG :: (ents.map (·.2) ++ gr.map (·.blk)) := by
  simp only [entBs, List.pairwise_cons, List.mem_cons, List.not_mem_nil, or_false] at hp
  obtain ⟨h1, h2, h3, h4, h5, _⟩ := hp
  intro hm
  rcases List.mem_cons.1 hm with rfl | hm
  ·
   exact h1 (.row b' 222 2 1 (fun _ => sigAV b' a) 1) (.inr (.inr (.inr (.inl rfl)))) b' rfl rfl
  rcases List.mem_cons.1 hm with rfl | hm
  ·
   exact h2 (.row b' 222 2 1 (fun _ => sigAV b a) 1) (.inr (.inr (.inl rfl))) b' rfl rfl
  rcases List.mem_cons.1 hm with rfl | hm
  ·
   exact h3 (.row b' 222 2 1 (fun _ => sigAV b a) 1) (.inr (.inl rfl)) b' rfl rfl
  rcases List.mem_cons.1 hm with rfl | hm
  ·
   exact h4 (.row b' 222 2 1 (fun _ => sigAV b a) 1) (.inl rfl) b' rfl rfl
  exact h5 _ rfl b' rfl (h.dom hm)
 refine ⟨bS, bR, bG, gr, _, lR, lG, cS + 1, cR, cG, closed_row (.head _) hh, closed_map (.tail _ (.head _)) hh, ?_, closed_map (.tail _ (.tail _ (.head _))) hh, h.rcv, closed_map (.tail _ (.tail _ (.tail _ (.head _)))) hh, h.gpv, fun e he => ?_, fun g hg => ?_, h.all, h.nda, ?_, h.ndr, ?_⟩
 ·
  have := h.sgv
  simp only [kv, List.map_append, List.map_cons, List.map_nil] at this ⊢
  rw [this]
 ·
  rcases List.mem_append.1 he with he | he
  ·
   exact (h.kept hr hh (h.dom (List.mem_append_left _ (List.mem_map_of_mem (f := (·.2)) he))).2).1 e he rfl
  ·
   have : e = (a, b') := by simpa using he
   subst this
   exact closed_row (.tail _ (.tail _ (.tail _ (.tail _ (.head _))))) hh
 ·
  exact (h.kept hr hh (h.dom (List.mem_append_right _ (List.mem_map_of_mem (f := (·.blk)) hg))).2).2 g hg rfl
 ·
  simp only [List.map_append, List.map_cons, List.map_nil]
  refine List.nodup_append.2 ⟨h.nde, by simp, fun x hx y hy => ?_⟩
  obtain ⟨e, he, rfl⟩ := List.mem_map.1 hx
  have : y = a := by simpa using hy
  rw [this]
  exact ha e he
 ·
  have : b :: bS :: bR :: bG :: ((ents ++ [(a, b')]).map (·.2) ++ gr.map (·.blk)) = (b :: bS :: bR :: bG :: ents.map (·.2)) ++ b' :: gr.map (·.blk) := by simp
  rw [this]
  exact List.perm_middle.nodup_iff.2 (List.nodup_cons.2 ⟨nb, h.ndb⟩)
end
def enterC (_tag : Nat) (args : List AV) (M : MemF) : Option Res := match args with
 | [.ptr p, .v (.int .u64 a)] => match regOf M p with
  | some (c, b, ents, recs, _) => some ⟨Nat × (Nat → Prop), c ∧ a ≠ 0 ∧ ∀ e ∈ ents, e.1 ≠ a, fun _ => True, fun x => .tup (.cons (.ptr ⟨p.n, ents.length, x.1, 0, 2, 0, 0, 0, false⟩) (.cons (.v (.int .i64 0)) .nil)), [p.n], fun x => [regB b (ents ++ [(a, x.1)]) recs x.2]⟩
  | none => none
 | _ => none
def ctMs : CtL := [(67, missC)]
theorem ctMs_ok : CtLOk Tryz.prog ctMs := ⟨CallsOk.fn miss_body miss_read, trivial⟩
def crLk : CrL := [(68, lockC)]
theorem lock_body : HasBody Tryz.prog 68 := ⟨_, Tryz.func68, rfl, by decide⟩
theorem unlock_body : HasBody Tryz.prog 69 := ⟨_, Tryz.func69, rfl, by decide⟩
theorem crLk_ok : CrLOk Tryz.prog crLk := ⟨⟨lock_body, lock_turn (L := muLink) muLib row21_ok⟩, trivial⟩
theorem enter_turn : TurnFn Tryz.prog 43 enterC := by
 intro tag args M r h0 hok O w0 w hS
 unfold enterC at h0
 split at h0
 ·
  rename_i p a
  split at h0
  ·
   rename_i c b ents recs S hp
   cases h0
   obtain ⟨hc, ha0, hae⟩ := hok
   obtain ⟨hM, hv⟩ := regOf_spec hp hc
   rw [show [AV.ptr p, AV.v (.int .u64 a)].map AV.val = [.ptr ⟨900, 0, b, 0, 5, 0, 0, 0, false⟩, AV.v (.int .u64 a)].map AV.val by simp only [List.map_cons, List.map_nil, hv 900]]
   refine turn_oneL tabs2 ctMs_ok crLk_ok Tryz.func43 rfl rfl hS _ hM [] rfl rfl (hS.holds _ _ hM) (fun _ h => h) (fun _ h => h) trivial trivial trivial ?_
   refine s_open (n := 900) (g := .reg b ents recs) (S := S) (P := IsReg b ents recs) [900, 901, 902, 903, 999] rfl rfl fun H hH hP => ?_
   obtain ⟨bS, bR, bG, gr, lS, lR, lG, cS, cR, cG, hF⟩ := hP
   refine ⟨_, hF.pieces, ?_⟩
   repeat (first | refine qs_ ?_ | refine qa_ ?_ | refine qo_ ?_ | refine qd_ ?_ | refine za ?_ | refine zb fun _ _ => ?_ | refine zc ?_ | refine ya ?_ | refine yb fun _ _ => ?_ | refine yc ?_ | refine qk_ ?_ | refine qb_ ?_ | refine qx_ ?_)
   refine s_cond (b := false) rfl (fun hb => by cases hb) (fun _ => ?_)
   repeat (first | refine qs_ ?_ | refine qa_ ?_ | refine qo_ ?_ | refine qd_ ?_ | refine za ?_ | refine zb fun _ _ => ?_ | refine zc ?_ | refine ya ?_ | refine yb fun _ _ => ?_ | refine yc ?_ | refine qk_ ?_ | refine qb_ ?_ | refine qx_ ?_)
   refine s_cond (b := (a == 0)) rfl (fun hb => absurd (by simpa using hb) ha0) (fun _ => ?_)
   repeat (first | refine qs_ ?_ | refine qa_ ?_ | refine qo_ ?_ | refine qd_ ?_ | refine za ?_ | refine zb fun _ _ => ?_ | refine zc ?_ | refine ya ?_ | refine yb fun _ _ => ?_ | refine yc ?_ | refine qk_ ?_ | refine qb_ ?_ | refine qx_ ?_)
   refine o_defer (f := 69) (l := [(0, .ptr ⟨900, 0, b, 0, 5, 0, 0, 0, false⟩)]) rfl rfl rfl rfl trivial ?_
   repeat (first | refine qs_ ?_ | refine qa_ ?_ | refine qo_ ?_ | refine qd_ ?_ | refine za ?_ | refine zb fun _ _ => ?_ | refine zc ?_ | refine ya ?_ | refine yb fun _ _ => ?_ | refine yc ?_ | refine qk_ ?_ | refine qb_ ?_ | refine qx_ ?_)
   refine o_look none rfl rfl rfl rfl rfl rfl rfl rfl rfl rfl rfl rfl (hF.miss_sg hae) ?_
   repeat (first | refine qs_ ?_ | refine qa_ ?_ | refine qo_ ?_ | refine qd_ ?_ | refine za ?_ | refine zb fun _ _ => ?_ | refine zc ?_ | refine ya ?_ | refine yb fun _ _ => ?_ | refine yc ?_ | refine qk_ ?_ | refine qb_ ?_ | refine qx_ ?_)
   refine s_cond (b := false) rfl (fun hb => by cases hb) (fun _ => ?_)
   repeat (first | refine qs_ ?_ | refine qa_ ?_ | refine qo_ ?_ | refine qd_ ?_ | refine za ?_ | refine zb fun _ _ => ?_ | refine zc ?_ | refine ya ?_ | refine yb fun _ _ => ?_ | refine yc ?_ | refine qk_ ?_ | refine qb_ ?_ | refine qx_ ?_)
   refine o_mset none rfl rfl rfl rfl rfl rfl rfl rfl rfl rfl rfl (hF.miss_sg hae) rfl ?_
   repeat (first | refine qs_ ?_ | refine qa_ ?_ | refine qo_ ?_ | refine qd_ ?_ | refine za ?_ | refine zb fun _ _ => ?_ | refine zc ?_ | refine ya ?_ | refine yb fun _ _ => ?_ | refine yc ?_ | refine qk_ ?_ | refine qb_ ?_ | refine qx_ ?_)
   refine s_ret ?_
   rename_i b' _
   refine .inr ⟨69, [.ptr ⟨900, 0, b, 0, 5, 0, 0, 0, false⟩], [(900, _)], _, _, _, _, rfl, unlock_body, unlock_dfr (L := muLink) muLib row21_ok rfl ⟨⟨⟨⟨rfl, rfl, rfl, Nat.zero_lt_one⟩, rfl⟩, rfl⟩, ⟨rfl, rfl, rfl, Nat.zero_lt_one⟩, rfl⟩, le_close (n := 900) (.reg b (ents ++ [(a, b')]) recs) (IsReg b (ents ++ [(a, b')]) recs) [900, 901, 902, 903, 28, 999] (entBs H b bS bR bG lS lR lG cS cR cG b' a) rfl (by decide) ⟨⟨⟨_, rfl, Blk.le_rowc (Nat.le_refl _) fun _ _ => ⟨rfl, rfl⟩⟩, fun _ h => h⟩, ⟨⟨_, rfl, Blk.le_mapc (by simp only [List.map_append]; rfl)⟩, fun _ h => h⟩, ⟨⟨_, rfl, Blk.le_refl _⟩, fun _ h => h⟩, ⟨⟨_, rfl, Blk.le_refl _⟩, fun _ h => h⟩, ⟨⟨_, rfl, Blk.le_rowc (Nat.le_refl _) fun _ _ => ⟨rfl, rfl⟩⟩, fun _ h => h⟩, ⟨⟨_, rfl, Blk.le_refl _⟩, fun _ h => h⟩, trivial⟩ (fun w hh hp => reg_enter hF hae hh hp), rfl, ⟨trivial, trivial, trivial⟩, (b', _), trivial, rfl, ⟨⟨_, rfl, Blk.le_refl _⟩, fun _ h => h⟩, trivial⟩
  ·
   cases h0
 ·
  cases h0
theorem kv_get {l : List (AV × AV × Nat)} {L : List (AV × AV)} (h : kv l = L) {j : Nat} {q : AV × AV} (hj : L[j]? = some q) : ∃ born, l[j]? = some (q.1, q.2, born) := by
 subst h
 unfold kv at hj
 rw [List.getElem?_map] at hj
 cases hl : l[j]? with
 | none => rw [hl] at hj; cases hj
 | some p => rw [hl] at hj; cases hj; exact ⟨p.2.2, rfl⟩
theorem kv_at {l : List (AV × AV × Nat)} {L : List (AV × AV)} (h : kv l = L) {j : Nat} {p : AV × AV × Nat} (hj : l[j]? = some p) : L[j]? = some (p.1, p.2.1) := by
 subst h
 unfold kv
 rw [List.getElem?_map, hj]; rfl
section
variable {H : Frag} {b bS bR bG : Nat} {ents : List (Int × Nat)} {recs : List (Int × ByteArray)} {gr : List Grp} {lS lR lG : List (AV × AV × Nat)} {cS cR cG : Nat}
theorem RegF.miss_rc (h : RegF H b ents recs bS bR bG gr lS lR lG cS cR cG) {r : Int × ByteArray} (hr : r ∉ recs) : mfind tabs2.tb tabs2.eqs 237 (recK r) lR 0 = some none := by
 refine mfind_miss fun p hp => ?_
 have := kv_mem h.rcv hp
 obtain ⟨e, he, h1⟩ := List.mem_map.1 this
 have h2 : p.1 = recK e := (congrArg Prod.fst h1).symm
 rw [h2]
 exact recK_diff fun e' => hr (e' ▸ he)
theorem RegF.hit_rc (h : RegF H b ents recs bS bR bG gr lS lR lG cS cR cG) {r : Int × ByteArray} (hr : r ∈ recs) : ∃ j, mfind tabs2.tb tabs2.eqs 237 (recK r) lR 0 = some (some (j, .agg .nil)) := by
 obtain ⟨j, hj, hjr⟩ := List.getElem_of_mem hr
 have hj1 : recs[j]? = some r := by rw [List.getElem?_eq_getElem hj, hjr]
 obtain ⟨born, hl⟩ := kv_get h.rcv (j := j) (q := (recK r, .agg .nil)) (by rw [List.getElem?_map, hj1]; rfl)
 refine ⟨0 + j, mfind_hit hl (recK_same r) fun j' hlt q hq => ?_⟩
 have h1 := kv_at h.rcv hq
 rw [List.getElem?_map] at h1
 cases hs : recs[j']? with
 | none => rw [hs] at h1; cases h1
 | some s =>
  rw [hs] at h1
  have h2 : q.1 = recK s := (congrArg Prod.fst (Option.some.inj h1)).symm
  rw [h2]
  refine recK_diff fun e => ?_
  subst e
  have := (List.getElem?_inj hj h.ndr).1 (hj1.trans hs.symm)
  omega
abbrev samBs (H : Frag) (b bS bR bG : Nat) (lS lR lG : List (AV × AV × Nat)) (cS cR cG : Nat) : List Blk := [.row b 74 5 1 (fun _ => regAV 0 bS bR bG) 1, .mp true bS lS cS, .mp true bR lR cR, .mp true bG lG cG, restB H [b, bS, bR, bG]]
theorem reg_same (h : RegF H b ents recs bS bR bG gr lS lR lG cS cR cG) {w : World} (hh : ∀ B ∈ samBs H b bS bR bG lS lR lG cS cR cG, B.holds w) :
  IsReg b ents recs (restr w (ownU (samBs H b bS bR bG lS lR lG cS cR cG))) := by
 have hr : restB H [b, bS, bR, bG] ∈ samBs H b bS bR bG lS lR lG cS cR cG := .tail _ (.tail _ (.tail _ (.tail _ (.head _))))
 exact ⟨bS, bR, bG, gr, lS, lR, lG, cS, cR, cG, closed_row (.head _) hh, closed_map (.tail _ (.head _)) hh, h.sgv, closed_map (.tail _ (.tail _ (.head _))) hh, h.rcv, closed_map (.tail _ (.tail _ (.tail _ (.head _)))) hh, h.gpv, fun e he => (h.kept hr hh (h.dom (List.mem_append_left _ (List.mem_map_of_mem (f := (·.2)) he))).2).1 e he rfl, fun g hg => (h.kept hr hh (h.dom (List.mem_append_right _ (List.mem_map_of_mem (f := (·.blk)) hg))).2).2 g hg rfl, h.all, h.nda, h.nde, h.ndr, h.ndb⟩
end
def ctCk : CtL := [(67, missC), (113, seaC)]
theorem ctCk_ok : CtLOk Tryz.prog ctCk := ⟨CallsOk.fn miss_body miss_read, CallsOk.fn sea_body sea_read, trivial⟩
def hasR (recs : List (Int × ByteArray)) (r : Int × ByteArray) : Bool := recs.any fun q => (q.1 == r.1) && (q.2.toList == r.2.toList)
theorem hasR_iff {recs : List (Int × ByteArray)} {r : Int × ByteArray} : hasR recs r = true ↔ r ∈ recs := by
 unfold hasR
 rw [List.any_eq_true]
 constructor
 ·
  rintro ⟨q, hq, h⟩
  simp only [Bool.and_eq_true, beq_iff_eq] at h
  have : q = r := Prod.ext h.1 (bytes_toList h.2)
  exact this ▸ hq
 ·
  exact fun h => ⟨r, h, by simp⟩
def checkF (K B0 : List Int) (recs : List (Int × ByteArray)) (a : Int) (f : Nat → Int) (m : ByteArray) (n : Nat) (s : List Int) : Bool := hasR recs (a, m) && intsEq 16 s (seaF K B0 a f n)
def checkC (_tag : Nat) (args : List AV) (M : MemF) : Option Res := match args, M 100003, M 100004 with
 | [.ptr p, .v (.int .u64 a), X, .ints .u8 16 s], some (.var 3 (.ints .u32 8 B0)), some (.var 4 (.ints .u32 64 K)) => match regOf M p, seqOf M X with
  | some (c, b, ents, recs, _), some (c2, es, n, fx) => some ⟨Nat → Prop, c ∧ (c2 ∧ (n ≠ 0 → es = 1) ∧ n ≤ 2000000 ∧ ∀ i, i < n → fx i = .v (.int .u8 (fx i).int1)) ∧ tagNe p.n X = true, fun _ => True, fun _ => .v (.bool (checkF K B0 recs a (fun i => (fx i).int1) (strOf n fx) n s)), [p.n], fun x => [regB b ents recs x]⟩
  | _, _ => none
 | _, _, _ => none
theorem check_turn : TurnFn Tryz.prog 55 checkC := by
 intro tag args M r h0 hok O w0 w hS
 unfold checkC at h0
 split at h0
 ·
  rename_i p a X s B0 K hM3 hM4
  split at h0
  ·
   rename_i c b ents recs S c2 es n fx hp hsx
   cases h0
   obtain ⟨hc, ⟨q1, q2, q3, q4⟩, htag⟩ := hok
   obtain ⟨hM, hv⟩ := regOf_spec hp hc
   obtain ⟨base, cap, hvx, hro⟩ := bytes_ro hS hsx q1 q2 q4
   obtain ⟨f, hf0⟩ : ∃ f, f = fun i => (fx i).int1 := ⟨_, rfl⟩
   have hstr : strOf n fx = strOf n fun i => .v (.int .u8 (f i)) := by rw [hf0]; rfl
   rw [← hf0, hstr]
   have hro : (roB base 1 n fun i => .v (.int .u8 (f i))).holds w := by rw [hf0]; exact hro
   have hap : ∀ j, (roB base 1 n fun i => .v (.int .u8 (f i))).reads j → ¬ (regB b ents recs S).own j := ro_apart hS hsx q1 q2 hM htag hvx
   have hB := hS.holds _ _ hM3
   have hK := hS.holds _ _ hM4
   rw [show [AV.ptr p, AV.v (.int .u64 a), X, .ints .u8 16 s].map AV.val = [.ptr ⟨900, 0, b, 0, 5, 0, 0, 0, false⟩, AV.v (.int .u64 a), roS 910 base 1 n cap, .ints .u8 16 s].map AV.val by simp only [List.map_cons, List.map_nil, hv 900, hvx, roS_val]]
   refine turn_oneL tabs2 ctCk_ok crLk_ok Tryz.func55 rfl rfl hS _ hM [(910, roB base 1 n fun i => .v (.int .u8 (f i))), (100003, .var 3 (.ints .u32 8 B0)), (100004, .var 4 (.ints .u32 64 K))] rfl rfl (hS.holds _ _ hM) (fun _ h => h) (fun _ h => h) ⟨hro, hB, hK, trivial⟩ ⟨roB_noOwn, fun _ h => h, fun _ h => h, trivial⟩ ⟨hap, fun k hr ho => hS.roapart _ _ _ _ _ hM hM3 ho hr, fun k hr ho => hS.roapart _ _ _ _ _ hM hM4 ho hr, trivial⟩ ?_
   refine s_open (n := 900) (g := .reg b ents recs) (S := S) (P := IsReg b ents recs) [900, 901, 902, 903, 999] rfl rfl fun H hH hP => ?_
   obtain ⟨bS, bR, bG, gr, lS, lR, lG, cS, cR, cG, hF⟩ := hP
   refine ⟨_, hF.pieces, ?_⟩
   repeat (first | refine qs_ ?_ | refine qa_ ?_ | refine qo_ ?_ | refine qd_ ?_ | refine za ?_ | refine zb fun _ _ => ?_ | refine zc ?_ | refine ya ?_ | refine yb fun _ _ => ?_ | refine yc ?_ | refine qk_ ?_ | refine qb_ ?_ | refine qx_ ?_)
   refine s_cond (b := false) rfl (fun hb => by cases hb) (fun _ => ?_)
   repeat (first | refine qs_ ?_ | refine qa_ ?_ | refine qo_ ?_ | refine qd_ ?_ | refine za ?_ | refine zb fun _ _ => ?_ | refine zc ?_ | refine ya ?_ | refine yb fun _ _ => ?_ | refine yc ?_ | refine qk_ ?_ | refine qb_ ?_ | refine qx_ ?_)
   refine o_defer (f := 69) (l := [(0, .ptr ⟨900, 0, b, 0, 5, 0, 0, 0, false⟩)]) rfl rfl rfl rfl trivial ?_
   repeat (first | refine qs_ ?_ | refine qa_ ?_ | refine qo_ ?_ | refine qd_ ?_ | refine za ?_ | refine zb fun _ _ => ?_ | refine zc ?_ | refine ya ?_ | refine yb fun _ _ => ?_ | refine yc ?_ | refine qk_ ?_ | refine qb_ ?_ | refine qx_ ?_)
   by_cases hin : (a, strOf n fun i => .v (.int .u8 (f i))) ∈ recs
   ·
    obtain ⟨j, hj⟩ := hF.hit_rc hin
    refine s_draw rD55_5 rM55_5 rX55_5 rN55_5 rfl rfl ?_
    repeat (first | refine qs_ ?_ | refine qa_ ?_ | refine qo_ ?_ | refine qd_ ?_ | refine za ?_ | refine zb fun _ _ => ?_ | refine zc ?_ | refine ya ?_ | refine yb fun _ _ => ?_ | refine yc ?_ | refine qk_ ?_ | refine qb_ ?_ | refine qx_ ?_)
    refine d_look (some (j, .agg .nil)) rfl rfl rfl rfl rfl rfl rfl rfl rfl rfl rfl rfl rfl hj ?_
    repeat (first | refine qs_ ?_ | refine qa_ ?_ | refine qo_ ?_ | refine qd_ ?_ | refine za ?_ | refine zb fun _ _ => ?_ | refine zc ?_ | refine ya ?_ | refine yb fun _ _ => ?_ | refine yc ?_ | refine qk_ ?_ | refine qb_ ?_ | refine qx_ ?_)
    refine s_draw rD55_6 rM55_6 rX55_6 rN55_6 rfl rfl ?_
    repeat (first | refine qs_ ?_ | refine qa_ ?_ | refine qo_ ?_ | refine qd_ ?_ | refine za ?_ | refine zb fun _ _ => ?_ | refine zc ?_ | refine ya ?_ | refine yb fun _ _ => ?_ | refine yc ?_ | refine qk_ ?_ | refine qb_ ?_ | refine qx_ ?_)
    refine s_ret ?_
    refine .inr ⟨69, [.ptr ⟨900, 0, b, 0, 5, 0, 0, 0, false⟩], [(900, _)], _, _, _, _, rfl, unlock_body, unlock_dfr (L := muLink) muLib row21_ok rfl ⟨⟨⟨⟨rfl, rfl, rfl, Nat.zero_lt_one⟩, rfl⟩, rfl⟩, ⟨rfl, rfl, rfl, Nat.zero_lt_one⟩, rfl⟩, le_close (n := 900) (.reg b ents recs) (IsReg b ents recs) [900, 901, 902, 903, 999] (samBs H b bS bR bG lS lR lG cS cR cG) rfl (by decide) ⟨⟨⟨_, rfl, Blk.le_rowc (Nat.le_refl _) fun _ _ => ⟨rfl, rfl⟩⟩, fun _ h => h⟩, ⟨⟨_, rfl, Blk.le_refl _⟩, fun _ h => h⟩, ⟨⟨_, rfl, Blk.le_refl _⟩, fun _ h => h⟩, ⟨⟨_, rfl, Blk.le_refl _⟩, fun _ h => h⟩, ⟨⟨_, rfl, Blk.le_refl _⟩, fun _ h => h⟩, trivial⟩ (fun w hh _ => reg_same hF hh), rfl, ⟨trivial, trivial⟩, _, trivial, ?_, ⟨⟨_, rfl, Blk.le_refl _⟩, fun _ h => h⟩, trivial⟩
    show _ = (AV.v (.bool (hasR recs (a, strOf n fun i => .v (.int .u8 (f i))) && intsEq 16 s (seaF K B0 a f n)))).val
    rw [hasR_iff.2 hin]
    rfl
   ·
    skip
    refine s_draw rD55_5 rM55_5 rX55_5 rN55_5 rfl rfl ?_
    repeat (first | refine qs_ ?_ | refine qa_ ?_ | refine qo_ ?_ | refine qd_ ?_ | refine za ?_ | refine zb fun _ _ => ?_ | refine zc ?_ | refine ya ?_ | refine yb fun _ _ => ?_ | refine yc ?_ | refine qk_ ?_ | refine qb_ ?_ | refine qx_ ?_)
    refine d_look none rfl rfl rfl rfl rfl rfl rfl rfl rfl rfl rfl rfl rfl (hF.miss_rc hin) ?_
    repeat (first | refine qs_ ?_ | refine qa_ ?_ | refine qo_ ?_ | refine qd_ ?_ | refine za ?_ | refine zb fun _ _ => ?_ | refine zc ?_ | refine ya ?_ | refine yb fun _ _ => ?_ | refine yc ?_ | refine qk_ ?_ | refine qb_ ?_ | refine qx_ ?_)
    refine s_draw rD55_6 rM55_6 rX55_6 rN55_6 rfl rfl ?_
    repeat (first | refine qs_ ?_ | refine qa_ ?_ | refine qo_ ?_ | refine qd_ ?_ | refine za ?_ | refine zb fun _ _ => ?_ | refine zc ?_ | refine ya ?_ | refine yb fun _ _ => ?_ | refine yc ?_ | refine qk_ ?_ | refine qb_ ?_ | refine qx_ ?_)
    refine s_ret ?_
    refine .inr ⟨69, [.ptr ⟨900, 0, b, 0, 5, 0, 0, 0, false⟩], [(900, _)], _, _, _, _, rfl, unlock_body, unlock_dfr (L := muLink) muLib row21_ok rfl ⟨⟨⟨⟨rfl, rfl, rfl, Nat.zero_lt_one⟩, rfl⟩, rfl⟩, ⟨rfl, rfl, rfl, Nat.zero_lt_one⟩, rfl⟩, le_close (n := 900) (.reg b ents recs) (IsReg b ents recs) [900, 901, 902, 903, 999] (samBs H b bS bR bG lS lR lG cS cR cG) rfl (by decide) ⟨⟨⟨_, rfl, Blk.le_rowc (Nat.le_refl _) fun _ _ => ⟨rfl, rfl⟩⟩, fun _ h => h⟩, ⟨⟨_, rfl, Blk.le_refl _⟩, fun _ h => h⟩, ⟨⟨_, rfl, Blk.le_refl _⟩, fun _ h => h⟩, ⟨⟨_, rfl, Blk.le_refl _⟩, fun _ h => h⟩, ⟨⟨_, rfl, Blk.le_refl _⟩, fun _ h => h⟩, trivial⟩ (fun w hh _ => reg_same hF hh), rfl, ⟨trivial, trivial⟩, _, trivial, ?_, ⟨⟨_, rfl, Blk.le_refl _⟩, fun _ h => h⟩, trivial⟩
    show _ = (AV.v (.bool (hasR recs (a, strOf n fun i => .v (.int .u8 (f i))) && intsEq 16 s (seaF K B0 a f n)))).val
    rw [show hasR recs (a, strOf n fun i => .v (.int .u8 (f i))) = false from Bool.eq_false_iff.2 fun h => hin (hasR_iff.1 h)]
    rfl
  ·
   cases h0
 ·
  cases h0
theorem check_body : HasBody Tryz.prog 55 := ⟨_, Tryz.func55, rfl, by decide⟩
theorem sgOf_same (recs : List (Int × ByteArray)) (a : Int) (m : ByteArray) : sgOf (recs ++ [(a, m)]) a = sgOf recs a ++ [m] := by
 unfold sgOf; simp [List.filter_append]
theorem sgOf_ne (recs : List (Int × ByteArray)) {a a' : Int} (h : a' ≠ a) (m : ByteArray) : sgOf (recs ++ [(a, m)]) a' = sgOf recs a' := by
 unfold sgOf
 rw [List.filter_append]
 have : ([(a, m)] : List (Int × ByteArray)).filter (fun r => r.1 == a') = [] := by
  rw [List.filter_cons_of_neg (by simpa using fun e => h e.symm)]; rfl
 rw [this, List.append_nil]
theorem sgOf_len (recs : List (Int × ByteArray)) (a : Int) : (sgOf recs a).length ≤ recs.length := by
 unfold sgOf; rw [List.length_map]; exact List.length_filter_le _ _
theorem sgOf_nil {recs : List (Int × ByteArray)} {a : Int} (h : ∀ r ∈ recs, r.1 ≠ a) : sgOf recs a = [] := by
 unfold sgOf
 rw [List.filter_eq_nil_iff.2 fun r hr => by simpa using h r hr]; rfl
theorem mset_mid : ∀ {l1 l2 : List (AV × AV × Nat)} {p : AV × AV × Nat} {K X : AV}, mset (l1 ++ p :: l2) l1.length K X = l1 ++ (K, X, p.2.2) :: l2
 | [], l2, (k, v, b), K, X => rfl
 | q :: l1, l2, p, K, X => by
  show q :: mset (l1 ++ p :: l2) l1.length K X = _
  rw [mset_mid]; rfl
def gpF (recs : List (Int × ByteArray)) (g : Grp) : AV × AV := (.v (.int .u64 g.a), .gs 905 0 (some (g.blk, 0)) 1 0 (sgOf recs g.a).length g.cap)
section
variable {H : Frag} {b bS bR bG : Nat} {ents : List (Int × Nat)} {recs : List (Int × ByteArray)} {gr : List Grp} {lS lR lG : List (AV × AV × Nat)} {cS cR cG : Nat}
theorem RegF.miss_gp (h : RegF H b ents recs bS bR bG gr lS lR lG cS cR cG) {a : Int} (ha : ∀ g ∈ gr, g.a ≠ a) : mfind tabs2.tb tabs2.eqs 39 (.v (.int .u64 a)) lG 0 = some none := by
 refine mfind_miss fun p hp => ?_
 have := kv_mem h.gpv hp
 obtain ⟨e, he, h1⟩ := List.mem_map.1 this
 have h2 : p.1 = .v (.int .u64 e.a) := (congrArg Prod.fst h1).symm
 rw [h2, eq_u64]
 simp only [Option.some.injEq, beq_eq_false_iff_ne, ne_eq]
 exact fun e' => ha e he e'.symm
theorem RegF.hit_gp (h : RegF H b ents recs bS bR bG gr lS lR lG cS cR cG) {gr1 gr2 : List Grp} {g : Grp} (hg : gr = gr1 ++ g :: gr2) (h1 : ∀ g' ∈ gr1, g'.a ≠ g.a) : ∃ l1 l2 born, lG = l1 ++ ((gpF recs g).1, (gpF recs g).2, born) :: l2 ∧ kv l1 = gr1.map (gpF recs) ∧ kv l2 = gr2.map (gpF recs) ∧ mfind tabs2.tb tabs2.eqs 39 (.v (.int .u64 g.a)) lG 0 = some (some (l1.length, (gpF recs g).2)) := by
 have hv : kv lG = gr.map (gpF recs) := h.gpv
 rw [hg, List.map_append, List.map_cons] at hv
 unfold kv at hv
 obtain ⟨l1, l', rfl, hl1, hl'⟩ := List.map_eq_append_iff.1 hv
 obtain ⟨p, l2, rfl, hp, hl2⟩ := List.map_eq_cons_iff.1 hl'
 have hp1 : p = ((gpF recs g).1, (gpF recs g).2, p.2.2) := by
  have e1 := congrArg Prod.fst hp
  have e2 := congrArg Prod.snd hp
  exact Prod.ext e1 (Prod.ext e2 rfl)
 refine ⟨l1, l2, p.2.2, by rw [← hp1], hl1, hl2, ?_⟩
 have := mfind_hit (tb := tabs2.tb) (eqs := tabs2.eqs) (kt := 39) (K := .v (.int .u64 g.a)) (i := 0) (l := l1 ++ p :: l2) (j := l1.length) (p := p) (by simp) (by rw [hp1]; show eqT tabs2.tb tabs2.eqs 64 39 _ (.v (.int .u64 g.a)) = _; rw [eq_u64]; simp) (fun j' hj q hq => by
  rw [List.getElem?_append_left hj] at hq
  have hm := kv_mem hl1 (List.mem_of_getElem? hq)
  obtain ⟨g', hg', e⟩ := List.mem_map.1 hm
  have h2 : q.1 = .v (.int .u64 g'.a) := (congrArg Prod.fst e).symm
  rw [h2, eq_u64]
  simp only [Option.some.injEq, beq_eq_false_iff_ne, ne_eq]
  exact fun e' => h1 g' hg' e'.symm)
 rw [Nat.zero_add] at this
 rw [this, hp1]
theorem grp_split {gr : List Grp} {a : Int} (h : ∃ g ∈ gr, g.a = a) : ∃ gr1 g gr2, gr = gr1 ++ g :: gr2 ∧ g.a = a := by
 obtain ⟨g, hg, e⟩ := h
 obtain ⟨l1, l2, h⟩ := List.append_of_mem hg
 exact ⟨l1, g, l2, h, e⟩
theorem RegF.others (h : RegF H b ents recs bS bR bG gr lS lR lG cS cR cG) {gr1 gr2 : List Grp} {g : Grp} (hg : gr = gr1 ++ g :: gr2) : ∀ g' ∈ gr1 ++ gr2, g'.a ≠ g.a := by
 have := h.nda
 rw [hg, List.map_append, List.map_cons] at this
 have := (List.perm_middle.nodup_iff.1 this)
 rw [List.nodup_cons] at this
 intro g' hg' e
 refine this.1 ?_
 rw [← List.map_append, ← e]
 exact List.mem_map_of_mem (f := (·.a)) hg'
theorem RegF.piecesS (h : RegF H b ents recs bS bR bG gr lS lR lG cS cR cG) {e : Int × Nat} (he : e ∈ ents) : Pieces H ([.row b 74 5 1 (fun _ => regAV 0 bS bR bG) 1, .mp true bS lS cS, .mp true bR lR cR, .mp true bG lG cG, .row e.2 222 2 1 (fun _ => sigAV b e.1) 1] ++ [restB H ([b, bS, bR, bG, e.2] ++ [])]) := by
 obtain ⟨h1, h2, h3, h4, h5, h6, h7, h8, h9, h10, h11⟩ := nodup4 h.ndb
 have hm : e.2 ∈ ents.map (·.2) ++ gr.map (·.blk) := List.mem_append_left _ (List.mem_map_of_mem (f := (·.2)) he)
 have k1 : ∀ {x}, x ∉ ents.map (·.2) ++ gr.map (·.blk) → ¬ x = e.2 := fun hx e' => hx (e' ▸ hm)
 refine pieces_of (ks := [b, bS, bR, bG, e.2]) ⟨one_row h.row, one_map h.sg, one_map h.rc, one_map h.gp, one_row (h.sig e he), trivial⟩ ?_
 simp [h1, h2, h3, h4, h5, h6, k1 h7, k1 h8, k1 h9, k1 h10]
theorem RegF.piecesG (h : RegF H b ents recs bS bR bG gr lS lR lG cS cR cG) {e : Int × Nat} (he : e ∈ ents) {g : Grp} (hg : g ∈ gr) : Pieces H ([.row b 74 5 1 (fun _ => regAV 0 bS bR bG) 1, .mp true bS lS cS, .mp true bR lR cR, .mp true bG lG cG, .row e.2 222 2 1 (fun _ => sigAV b e.1) 1, .vrow (some g.blk) 9 1 (sgOf recs g.a).length (fun i => .v (.string ((sgOf recs g.a).getD i ⟨#[]⟩))) g.cap] ++ [restB H ([b, bS, bR, bG, e.2] ++ [g.blk])]) := by
 obtain ⟨h1, h2, h3, h4, h5, h6, h7, h8, h9, h10, h11⟩ := nodup4 h.ndb
 have hm : e.2 ∈ ents.map (·.2) ++ gr.map (·.blk) := List.mem_append_left _ (List.mem_map_of_mem (f := (·.2)) he)
 have hn : g.blk ∈ ents.map (·.2) ++ gr.map (·.blk) := List.mem_append_right _ (List.mem_map_of_mem (f := (·.blk)) hg)
 have k1 : ∀ {x}, x ∉ ents.map (·.2) ++ gr.map (·.blk) → ¬ x = e.2 := fun hx e' => hx (e' ▸ hm)
 have k2 : ∀ {x}, x ∉ ents.map (·.2) ++ gr.map (·.blk) → ¬ x = g.blk := fun hx e' => hx (e' ▸ hn)
 have k3 : ¬ e.2 = g.blk := fun e' => (List.nodup_append.1 h11).2.2 _ (List.mem_map_of_mem (f := (·.2)) he) _ (List.mem_map_of_mem (f := (·.blk)) hg) e'
 refine pieces_of (ks := [b, bS, bR, bG, e.2, g.blk]) ⟨one_row h.row, one_map h.sg, one_map h.rc, one_map h.gp, one_row (h.sig e he), one_vrow (h.grp g hg), trivial⟩ ?_
 simp [h1, h2, h3, h4, h5, h6, k1 h7, k1 h8, k1 h9, k1 h10, k2 h7, k2 h8, k2 h9, k2 h10, k3]
abbrev addBs (H : Frag) (b bS bR bG : Nat) (lS lR lG : List (AV × AV × Nat)) (cS cR cG k : Nat) (a : Int) (v : Option Nat) (l : List ByteArray) (cap : Nat) (ks : List Nat) : List Blk := [.row b 74 5 1 (fun _ => regAV 0 bS bR bG) 1, .mp true bS lS cS, .mp true bR lR cR, .mp true bG lG cG, .row k 222 2 1 (fun _ => sigAV b a) 1, .vrow v 9 1 l.length (fun i => .v (.string (l.getD i ⟨#[]⟩))) cap, restB H ([b, bS, bR, bG, k] ++ ks)]
theorem reg_add (h : RegF H b ents recs bS bR bG gr lS lR lG cS cR cG) {e : Int × Nat} (he : e ∈ ents) {recs' : List (Int × ByteArray)} {gr1 old gr2 : List Grp} (hgr : gr = gr1 ++ old ++ gr2) (hoth : ∀ g ∈ gr1 ++ gr2, g.a ≠ e.1) {lR' lG1 lG2 : List (AV × AV × Nat)} {cR' cG' born : Nat} (hl1 : kv lG1 = gr1.map (gpF recs)) (hl2 : kv lG2 = gr2.map (gpF recs)) (hR' : kv lR' = recs'.map fun r => (recK r, .agg .nil)) {v : Option Nat} {cap : Nat} {w : World} (hne : sgOf recs' e.1 ≠ []) (hsg : ∀ a, a ≠ e.1 → sgOf recs' a = sgOf recs a) (hnd : recs'.Nodup) (hal : ∀ r ∈ recs', r ∈ recs ∨ r.1 = e.1)
  (hold : ∀ g ∈ old, g.a = e.1)
  (hh : ∀ B ∈ addBs H b bS bR bG lS lR' (lG1 ++ (.v (.int .u64 e.1), .gs 905 0 (ownB v) 1 0 (sgOf recs' e.1).length cap, born) :: lG2) cS cR' cG' e.2 e.1 v (sgOf recs' e.1) cap (old.map (·.blk)), B.holds w) (hp : (addBs H b bS bR bG lS lR' (lG1 ++ (.v (.int .u64 e.1), .gs 905 0 (ownB v) 1 0 (sgOf recs' e.1).length cap, born) :: lG2) cS cR' cG' e.2 e.1 v (sgOf recs' e.1) cap (old.map (·.blk))).Pairwise fun B B' => ∀ k, B.own k → ¬ B'.own k) :
  IsReg b ents recs' (restr w (ownU (addBs H b bS bR bG lS lR' (lG1 ++ (.v (.int .u64 e.1), .gs 905 0 (ownB v) 1 0 (sgOf recs' e.1).length cap, born) :: lG2) cS cR' cG' e.2 e.1 v (sgOf recs' e.1) cap (old.map (·.blk))))) := by
 have hlen : 0 < (sgOf recs' e.1).length := List.length_pos_iff.2 hne
 obtain ⟨blk, rfl, _⟩ := vrow_some (hh (.vrow v 9 1 (sgOf recs' e.1).length (fun i => .v (.string ((sgOf recs' e.1).getD i ⟨#[]⟩))) cap) (.tail _ (.tail _ (.tail _ (.tail _ (.tail _ (.head _))))))) hlen
 obtain ⟨n1, n2, n3, n4, n5, n6, n7, n8, n9, n10, n11⟩ := nodup4 h.ndb
 have hsub : ((b :: bS :: bR :: bG :: ents.map (·.2)) ++ (gr1.map (·.blk) ++ gr2.map (·.blk))).Nodup := by
  refine List.Nodup.sublist ?_ h.ndb
  rw [hgr]
  simp only [List.map_append, List.cons_append]
  refine List.Sublist.cons_cons _ (List.Sublist.cons_cons _ (List.Sublist.cons_cons _ (List.Sublist.cons_cons _ (List.Sublist.append_left ?_ _))))
  exact List.Sublist.append_right (List.sublist_append_left _ _) _
 have hr : restB H ([b, bS, bR, bG, e.2] ++ old.map (·.blk)) ∈ addBs H b bS bR bG lS lR' (lG1 ++ (.v (.int .u64 e.1), .gs 905 0 (ownB (some blk)) 1 0 (sgOf recs' e.1).length cap, born) :: lG2) cS cR' cG' e.2 e.1 (some blk) (sgOf recs' e.1) cap (old.map (·.blk)) := .tail _ (.tail _ (.tail _ (.tail _ (.tail _ (.tail _ (.head _))))))
 have ndA := List.nodup_append.1 n11
 have ndG := ndA.2.1
 rw [hgr, List.map_append, List.map_append] at ndG
 have ndG1 := List.nodup_append.1 ndG
 have ndG2 := List.nodup_append.1 ndG1.1
 -- what is left of the old things
 have kE : ∀ e' ∈ ents, e'.2 ≠ e.2 → e'.2 ∉ [b, bS, bR, bG, e.2] ++ old.map (·.blk) := by
  intro e' he' hne' hm
  have hd := (h.dom (k := e'.2) (List.mem_append_left _ (List.mem_map_of_mem (f := (·.2)) he'))).2
  rcases List.mem_append.1 hm with hm | hm
  ·
   simp only [List.mem_cons, List.not_mem_nil, or_false] at hm hd
   rcases hm with hm | hm | hm | hm | hm
   ·
    exact hd (.inl hm)
   ·
    exact hd (.inr (.inl hm))
   ·
    exact hd (.inr (.inr (.inl hm)))
   ·
    exact hd (.inr (.inr (.inr hm)))
   ·
    exact hne' hm
  ·
   refine ndA.2.2 _ (List.mem_map_of_mem (f := (·.2)) he') e'.2 ?_ rfl
   rw [hgr, List.map_append, List.map_append]
   exact List.mem_append_left _ (List.mem_append_right _ hm)
 have kG : ∀ g ∈ gr1 ++ gr2, g ∈ gr ∧ g.blk ∉ [b, bS, bR, bG, e.2] ++ old.map (·.blk) := by
  intro g hg
  have hgm : g ∈ gr := by
   rw [hgr]
   rcases List.mem_append.1 hg with hg | hg
   ·
    exact List.mem_append_left _ (List.mem_append_left _ hg)
   ·
    exact List.mem_append_right _ hg
  refine ⟨hgm, fun hm => ?_⟩
  have hd := (h.dom (k := g.blk) (List.mem_append_right _ (List.mem_map_of_mem (f := (·.blk)) hgm))).2
  rcases List.mem_append.1 hm with hm | hm
  ·
   simp only [List.mem_cons, List.not_mem_nil, or_false] at hm hd
   rcases hm with hm | hm | hm | hm | hm
   ·
    exact hd (.inl hm)
   ·
    exact hd (.inr (.inl hm))
   ·
    exact hd (.inr (.inr (.inl hm)))
   ·
    exact hd (.inr (.inr (.inr hm)))
   ·
    exact ndA.2.2 _ (List.mem_map_of_mem (f := (·.2)) he) g.blk (List.mem_map_of_mem (f := (·.blk)) hgm) hm.symm
  ·
   rcases List.mem_append.1 hg with hg | hg
   ·
    exact ndG2.2.2 _ (List.mem_map_of_mem (f := (·.blk)) hg) _ hm rfl
   ·
    exact ndG1.2.2 _ (List.mem_append_right _ hm) _ (List.mem_map_of_mem (f := (·.blk)) hg) rfl
 have nb : blk ∉ (b :: bS :: bR :: bG :: ents.map (·.2)) ++ (gr1.map (·.blk) ++ gr2.map (·.blk)) := by
  simp only [addBs, List.pairwise_cons, List.mem_cons, List.not_mem_nil, or_false] at hp
  obtain ⟨p1, p2, p3, p4, p5, p6, _⟩ := hp
  have far : ∀ k, H k ≠ none → k ∉ [b, bS, bR, bG, e.2] ++ old.map (·.blk) → k ≠ blk := fun k a1 a2 a3 => p6 _ rfl blk rfl ⟨a3 ▸ a1, a3 ▸ a2⟩
  intro hm
  rcases List.mem_append.1 hm with hm | hm
  ·
   rcases List.mem_cons.1 hm with rfl | hm
   ·
    exact p1 _ (.inr (.inr (.inr (.inr (.inl rfl))))) blk rfl rfl
   rcases List.mem_cons.1 hm with rfl | hm
   ·
    exact p2 _ (.inr (.inr (.inr (.inl rfl)))) blk rfl rfl
   rcases List.mem_cons.1 hm with rfl | hm
   ·
    exact p3 _ (.inr (.inr (.inl rfl))) blk rfl rfl
   rcases List.mem_cons.1 hm with rfl | hm
   ·
    exact p4 _ (.inr (.inl rfl)) blk rfl rfl
   obtain ⟨e', he', h1⟩ := List.mem_map.1 hm
   by_cases h2 : e'.2 = e.2
   ·
    exact p5 _ (.inl rfl) blk (by rw [← h1]; exact h2.symm) rfl
   ·
    exact far e'.2 (h.sig e' he').ne (kE e' he' h2) h1
  ·
   rw [← List.map_append] at hm
   obtain ⟨g, hg, h1⟩ := List.mem_map.1 hm
   exact far g.blk (h.grp g (kG g hg).1).ne (kG g hg).2 h1
 refine ⟨bS, bR, bG, gr1 ++ ⟨e.1, blk, cap⟩ :: gr2, lS, lR', _, cS, cR', cG', closed_row (.head _) hh, closed_map (.tail _ (.head _)) hh, h.sgv, closed_map (.tail _ (.tail _ (.head _))) hh, hR', closed_map (.tail _ (.tail _ (.tail _ (.head _)))) hh, ?_, fun e' he' => ?_, fun g hg => ?_, fun r hr' => ?_, ?_, h.nde, hnd, ?_⟩
 ·
  have f1 : ∀ g ∈ gr1 ++ gr2, gpF recs g = gpF recs' g := fun g hg => by unfold gpF; rw [hsg _ (hoth g hg)]
  show kv _ = (gr1 ++ ⟨e.1, blk, cap⟩ :: gr2).map (gpF recs')
  unfold kv at hl1 hl2 ⊢
  rw [List.map_append, List.map_cons, hl1, hl2, List.map_append, List.map_cons, List.map_congr_left fun g hg => f1 g (List.mem_append_left _ hg), List.map_congr_left fun g hg => f1 g (List.mem_append_right _ hg)]
  rfl
 ·
  by_cases h2 : e'.2 = e.2
  ·
   have he2 : e' = e := by
    obtain ⟨i, hi, h3⟩ := List.getElem_of_mem he
    obtain ⟨j, hj, h4⟩ := List.getElem_of_mem he'
    have h5 : (ents.map (·.2))[i]? = some e.2 := by rw [List.getElem?_map, List.getElem?_eq_getElem hi, h3]; rfl
    have h6 : (ents.map (·.2))[j]? = some e.2 := by rw [List.getElem?_map, List.getElem?_eq_getElem hj, h4, ← h2]; rfl
    have := (List.getElem?_inj (by rw [List.length_map]; exact hi) ndA.1).1 (h5.trans h6.symm)
    subst this
    exact h4.symm.trans h3
   rw [he2]
   exact closed_row (.tail _ (.tail _ (.tail _ (.tail _ (.head _))))) hh
  ·
   exact (h.kept hr hh (kE e' he' h2)).1 e' he' rfl
 ·
  have hg' : g = ⟨e.1, blk, cap⟩ ∨ g ∈ gr1 ++ gr2 := by
   rcases List.mem_append.1 hg with h1 | h1
   ·
    exact .inr (List.mem_append_left _ h1)
   ·
    rcases List.mem_cons.1 h1 with h1 | h1
    ·
     exact .inl h1
    ·
     exact .inr (List.mem_append_right _ h1)
  rcases hg' with rfl | hg'
  ·
   exact closed_vrow (.tail _ (.tail _ (.tail _ (.tail _ (.tail _ (.head _)))))) hh
  ·
   rw [hsg _ (hoth g hg')]
   exact (h.kept hr hh (kG g hg').2).2 g (kG g hg').1 rfl
 ·
  by_cases hr1 : r.1 = e.1
  ·
   exact ⟨_, List.mem_append_right _ (.head _), hr1.symm⟩
  ·
   rcases hal r hr' with h1 | h1
   ·
    obtain ⟨g, hg, h2⟩ := h.all r h1
    rw [hgr] at hg
    rcases List.mem_append.1 hg with hg | hg
    ·
     rcases List.mem_append.1 hg with hg | hg
     ·
      exact ⟨g, List.mem_append_left _ hg, h2⟩
     ·
      exact absurd (h2.symm.trans (hold g hg)) hr1
    ·
     exact ⟨g, List.mem_append_right _ (.tail _ hg), h2⟩
   ·
    exact absurd h1 hr1
 ·
  rw [List.map_append, List.map_cons]
  refine List.perm_middle.nodup_iff.2 (List.nodup_cons.2 ⟨fun hm => ?_, ?_⟩)
  ·
   rw [← List.map_append] at hm
   obtain ⟨g, hg, h1⟩ := List.mem_map.1 hm
   exact hoth g hg h1
  ·
   refine List.Nodup.sublist ?_ h.nda
   rw [hgr, List.map_append, List.map_append]
   exact List.Sublist.append_right (List.sublist_append_left _ _) _
 ·
  have : b :: bS :: bR :: bG :: (ents.map (·.2) ++ (gr1 ++ (⟨e.1, blk, cap⟩ : Grp) :: gr2).map (·.blk)) = ((b :: bS :: bR :: bG :: ents.map (·.2)) ++ gr1.map (·.blk)) ++ blk :: gr2.map (·.blk) := by simp
  rw [this]
  refine List.perm_middle.nodup_iff.2 (List.nodup_cons.2 ⟨?_, ?_⟩)
  ·
   rw [List.append_assoc]; exact nb
  ·
   rw [List.append_assoc]; exact hsub
end
end Go.Proofs.YtofophjfgalhaaaGreatDoor.V
