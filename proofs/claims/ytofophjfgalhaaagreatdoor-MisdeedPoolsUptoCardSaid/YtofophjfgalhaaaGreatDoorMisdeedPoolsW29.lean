import Derived.Test.YtofophjfgalhaaaGreatDoorMisdeedPoolsW12
import Derived.Test.YtofophjfgalhaaaGreatDoorMisdeedPoolsW17
import Derived.Test.YtofophjfgalhaaaGreatDoorMisdeedPoolsW28
set_option linter.unusedVariables false
set_option linter.unusedSimpArgs false
set_option maxRecDepth 100000
set_option maxHeartbeats 8000000
namespace Go.Proofs.YtofophjfgalhaaaGreatDoor.V
open Go Go.RowKit
def dcheckF (K : List Int) (recs : List (Int × ByteArray)) (a : Int) (f : Nat → Int) (m : ByteArray) (n : Nat) (s : List Int) : Bool := hasR recs (a, m) && intsEq 16 s (ofF K b0L a f n)
def dcheckC (args : List AV) (M : MemF) : Option (Prop × AV) := match args, M 100002 with
 | [.ptr p, .v (.int .u64 a), X, .ints .u8 16 s], some (.var 2 (.ints .u32 64 K)) => match docV M p, seqOf M X with
  | some (c, _, recs), some (c2, es, n, fx) => some (c ∧ recs.length ≤ 4000000000000 ∧ (c2 ∧ (n ≠ 0 → es = 1) ∧ n ≤ 2000000 ∧ ∀ i, i < n → fx i = .v (.int .u8 (fx i).int1)), .v (.bool (dcheckF K recs a (fun i => (fx i).int1) (strOf n fx) n s)))
  | _, _ => none
 | _, _ => none
theorem recs_again (recs : List (Int × ByteArray)) : ((List.range recs.length).map fun i => rec1 (recE recs i)) = recs := by
 apply List.ext_getElem?
 intro i
 rw [List.getElem?_map]
 by_cases h : i < recs.length
 ·
  rw [List.getElem?_range h, List.getElem?_eq_getElem h]
  show some (rec1 (recK (recs.getD i (0, ⟨#[]⟩)))) = _
  rw [List.getD_eq_getElem?_getD, List.getElem?_eq_getElem h]; rfl
 ·
  rw [List.getElem?_eq_none (by simpa using h), List.getElem?_eq_none (by omega)]; rfl
def ctDc : CtL := [(56, dgoodC), (126, dhasC), (127, ofC)]
theorem ctDc_ok : CtLOk Tryz.prog ctDc := ⟨CallsOk.fn dgood_body dgood_read, CallsOk.fn dhas_body dhas_read, CallsOk.fn of_body of_read, trivial⟩
theorem dcheck_read : ReadFn Tryz.prog 114 dcheckC := by
 intro args M q res h hq O w0 w hS
 unfold dcheckC at h
 split at h
 ·
  rename_i p a X s K hM2
  split at h
  ·
   rename_i c aa recs c2 es n fx hp hsx
   cases h
   obtain ⟨hq, hn, q1, q2, q3, q4⟩ := hq
   obtain ⟨b, i, x1, c1, x2, c2, hv, h1, h2, h3⟩ := doc_open hS hp hq
   obtain ⟨base, cap, hvx, hro⟩ := bytes_ro hS hsx q1 q2 q4
   obtain ⟨f, hf0⟩ : ∃ f, f = fun i => (fx i).int1 := ⟨_, rfl⟩
   have hstr : strOf n fx = strOf n fun i => .v (.int .u8 (f i)) := by rw [hf0]; rfl
   rw [← hf0, hstr]
   have hro : (roB base 1 n fun i => .v (.int .u8 (f i))).holds w := by rw [hf0]; exact hro
   have hK := hS.holds _ _ hM2
   rw [show [AV.ptr p, AV.v (.int .u64 a), X, .ints .u8 16 s].map AV.val = [roP 900 b i 3, AV.v (.int .u64 a), roS 903 base 1 n cap, .ints .u8 16 s].map AV.val by simp only [List.map_cons, List.map_nil, hv, hvx, roS_val]]
   refine ro_fn tabs2 ctDc_ok (cr := []) trivial Tryz.func114 rfl rfl (M := [(900, roB (some (b, i)) 3 1 fun _ => docAV x1 aa.length c1 x2 recs.length c2), (901, roB x1 1 aa.length (asE aa)), (902, roB x2 2 recs.length (recE recs)), (903, roB base 1 n fun i => .v (.int .u8 (f i))), (100002, .var 2 (.ints .u32 64 K))]) rfl ⟨roB_noOwn, roB_noOwn, roB_noOwn, roB_noOwn, fun _ h => h, trivial⟩ ⟨h1, h2, h3, hro, hK, trivial⟩ ?_
   repeat (first | refine qs_ ?_ | refine qa_ ?_ | refine qo_ ?_ | refine qd_ ?_ | refine za ?_ | refine zb fun _ _ => ?_ | refine zc ?_ | refine ya ?_ | refine yb fun _ _ => ?_ | refine yc ?_ | refine qk_ ?_ | refine qb_ ?_ | refine qx_ ?_)
   refine o_val rfl rfl trivial ?hc ?_
   case hc =>
    refine ⟨⟨(by first | trivial | exact fun h => h | (unfold need; exact fun h => h) | (simp only [need])), (by first | trivial | exact fun h => h | (unfold need; exact fun h => h) | (simp only [need])), (by first | trivial | exact fun h => h | (unfold need; exact fun h => h) | (simp only [need])), trivial⟩, fun _ => ⟨⟨⟨⟨rfl, rfl, Nat.zero_lt_one⟩, rfl⟩, ⟨⟨rfl, rfl, Nat.le_of_eq (Nat.zero_add _)⟩, fun _ => rfl, fun _ _ => rfl⟩, ⟨rfl, rfl, Nat.le_of_eq (Nat.zero_add _)⟩, fun _ => rfl, fun _ _ => rfl⟩, ?_, ⟨rfl, rfl, Nat.le_of_eq (Nat.zero_add _)⟩, fun _ => rfl, fun _ _ => rfl⟩⟩
    rw [List.length_map, List.length_range]; exact hn
   repeat (first | refine qs_ ?_ | refine qa_ ?_ | refine qo_ ?_ | refine qd_ ?_ | refine za ?_ | refine zb fun _ _ => ?_ | refine zc ?_ | refine ya ?_ | refine yb fun _ _ => ?_ | refine yc ?_ | refine qk_ ?_ | refine qb_ ?_ | refine qx_ ?_)
   refine s_cond (b := !(hasR ((List.range recs.length).map fun i => rec1 (recE recs i)) (a, strOf n fun i => .v (.int .u8 (f i))))) rfl (fun hb => ?_) (fun hb => ?_)
   ·
    rw [recs_again] at hb
    repeat (first | refine qs_ ?_ | refine qa_ ?_ | refine qo_ ?_ | refine qd_ ?_ | refine za ?_ | refine zb fun _ _ => ?_ | refine zc ?_ | refine ya ?_ | refine yb fun _ _ => ?_ | refine yc ?_ | refine qk_ ?_ | refine qb_ ?_ | refine qx_ ?_)
    refine s_ret ?_
    refine ⟨_, _, rfl, ⟨trivial, trivial⟩, rfl, ?_⟩
    unfold dcheckF
    rw [show hasR recs (a, strOf n fun i => .v (.int .u8 (f i))) = false by simpa using hb]
    rfl
   ·
    rw [recs_again] at hb
    repeat (first | refine qs_ ?_ | refine qa_ ?_ | refine qo_ ?_ | refine qd_ ?_ | refine za ?_ | refine zb fun _ _ => ?_ | refine zc ?_ | refine ya ?_ | refine yb fun _ _ => ?_ | refine yc ?_ | refine qk_ ?_ | refine qb_ ?_ | refine qx_ ?_)
    refine s_draw rD114_3 rM114_3 rX114_3 rN114_3 rfl rfl ?_
    repeat (first | refine qs_ ?_ | refine qa_ ?_ | refine qo_ ?_ | refine qd_ ?_ | refine za ?_ | refine zb fun _ _ => ?_ | refine zc ?_ | refine ya ?_ | refine yb fun _ _ => ?_ | refine yc ?_ | refine qk_ ?_ | refine qb_ ?_ | refine qx_ ?_)
    refine s_ret ?_
    refine ⟨_, _, rfl, ⟨trivial, trivial⟩, rfl, ?_⟩
    unfold dcheckF
    rw [show hasR recs (a, strOf n fun i => .v (.int .u8 (f i))) = true by simpa using hb]
    rfl
  ·
   cases h
 ·
  cases h
theorem dcheck_body : HasBody Tryz.prog 114 := ⟨_, Tryz.func114, rfl, by decide⟩
def newDC (tag : Nat) (args : List AV) (_M : MemF) : Option Res := match args with
 | [] => some ⟨Nat × (Nat → Prop), True, fun _ => True, fun x => .ptr ⟨tag, 0, x.1, 0, 3, 0, 0, 0, false⟩, [tag], fun x => [docB x.1 [] [] x.2]⟩
 | _ => none
theorem doc_new {w : World} {b : Nat} (hh : ∀ B ∈ ([.row b 220 3 1 (fun _ => docAV none 0 0 none 0 0) 1] : List Blk), B.holds w) : IsDoc b [] [] (restr w (ownU [.row b 220 3 1 (fun _ => docAV none 0 0 none 0 0) 1])) :=
 ⟨none, 0, none, 0, closed_row (.head _) hh, ⟨rfl, rfl⟩, ⟨rfl, rfl⟩, fun _ h => (by cases h), .nil, .nil, by simp⟩
theorem newD_turn : TurnFn Tryz.prog 41 newDC := by
 intro tag args M r h0 hok O w0 w hS
 unfold newDC at h0
 split at h0
 ·
  cases h0
  refine turn_new tabs2 (ct := []) trivial (cr := []) trivial Tryz.func41 rfl rfl hS _ [] [2] rfl trivial trivial (by decide) rfl (s_post ?_)
  repeat (first | refine qs_ ?_ | refine qa_ ?_ | refine qo_ ?_ | refine qd_ ?_ | refine za ?_ | refine zb fun _ _ => ?_ | refine zc ?_ | refine ya ?_ | refine yb fun _ _ => ?_ | refine yc ?_ | refine qk_ ?_ | refine qb_ ?_ | refine qx_ ?_)
  rename_i b _
  refine s_ret ?_
  refine ⟨_, _, le_close (n := 2) (.reg b [] []) (IsDoc b [] []) [2] [.row b 220 3 1 (fun _ => docAV none 0 0 none 0 0) 1] rfl (by decide) ⟨⟨⟨_, rfl, Blk.le_rowc (Nat.le_refl _) fun _ _ => ⟨rfl, rfl⟩⟩, fun _ h => h⟩, trivial⟩ (fun w hh hp => doc_new hh), ?_⟩
  exact ⟨_, _, rfl, ⟨trivial, trivial⟩, rfl, (b, _), trivial, rfl, ⟨⟨_, rfl, Blk.le_refl _⟩, fun _ h => h⟩, trivial⟩
 ·
  cases h0
theorem newD_body : HasBody Tryz.prog 41 := ⟨_, Tryz.func41, rfl, by decide⟩
def dsgnOf (M : MemF) (p : Pt) : Option (Prop × Nat × List (Int × Nat) × List (Int × ByteArray) × (Nat → Prop) × (Int × Nat)) := match M p.n with
 | some (.sep (.reg b ents recs) S φ) => some (Blk.sep (.reg b ents recs) S φ = docB b ents recs S ∧ p.ix < ents.length ∧ (p.b = (ents.getD p.ix (0, 0)).2 ∧ p.o0 = 0 ∧ p.es = 2 ∧ p.idx = 0 ∧ p.off = 0 ∧ p.j = 0), b, ents, recs, S, ents.getD p.ix (0, 0))
 | _ => none
theorem dsgnOf_spec {M : MemF} {p : Pt} {c : Prop} {b : Nat} {ents : List (Int × Nat)} {recs : List (Int × ByteArray)} {S : Nat → Prop} {e : Int × Nat} (h : dsgnOf M p = some (c, b, ents, recs, S, e)) (hc : c) : M p.n = some (docB b ents recs S) ∧ e ∈ ents ∧ ∀ n, (AV.ptr p).val = (AV.ptr ⟨n, 0, e.2, 0, 2, 0, 0, 0, false⟩).val := by
 unfold dsgnOf at h
 split at h
 ·
  rename_i b' e' r' S' φ hM
  cases h
  obtain ⟨h1, h0, h2, h3, h4, h5, h6, h7⟩ := hc
  refine ⟨by rw [hM, h1], getD_mem h0, fun n => ?_⟩
  rw [ptr_val, ptr_val]
  unfold Pt.cell
  simp only [h2, h3, h5, h6, h7]
  simp
 ·
  cases h
def addrC (args : List AV) (M : MemF) : Option (Prop × AV) := match args with
 | [.ptr p] => match dsgnOf M p with
  | some (c, _, _, _, _, e) => some (c, .v (.int .u64 e.1))
  | none => none
 | _ => none
theorem addr_read : ReadFn Tryz.prog 72 addrC := by
 intro args M q res h hq O w0 w hS
 unfold addrC at h
 split at h
 ·
  rename_i p
  split at h
  ·
   rename_i c b ents recs S e hp
   cases h
   obtain ⟨hM, he, hv⟩ := dsgnOf_spec hp hq
   obtain ⟨H, _, ⟨v1, c1, v2, c2, hF⟩, h3⟩ := frB_open (hS.holds _ _ hM)
   have hR := ((hF.sig e he).on h3).reads
   rw [show [AV.ptr p].map AV.val = [roP 904 e.2 0 2].map AV.val by simp only [List.map_cons, List.map_nil, hv 904]; rfl]
   refine ro_fn tabs2 (ct := []) trivial (cr := []) trivial Tryz.func72 rfl rfl (M := [(904, roB (some (e.2, 0)) 2 1 fun _ => dsigAV b e.1)]) rfl ⟨roB_noOwn, trivial⟩ ⟨roB_holds fun _ => ⟨_, _, rfl, hR⟩, trivial⟩ ?_
   repeat (first | refine qs_ ?_ | refine qa_ ?_ | refine qo_ ?_ | refine qd_ ?_ | refine za ?_ | refine zb fun _ _ => ?_ | refine zc ?_ | refine ya ?_ | refine yb fun _ _ => ?_ | refine yc ?_ | refine qk_ ?_ | refine qb_ ?_ | refine qx_ ?_)
   refine s_cond (b := false) rfl (fun hb => by cases hb) (fun _ => ?_)
   repeat (first | refine qs_ ?_ | refine qa_ ?_ | refine qo_ ?_ | refine qd_ ?_ | refine za ?_ | refine zb fun _ _ => ?_ | refine zc ?_ | refine ya ?_ | refine yb fun _ _ => ?_ | refine yc ?_ | refine qk_ ?_ | refine qb_ ?_ | refine qx_ ?_)
   refine s_ret ?_
   exact ⟨_, _, rfl, ⟨trivial, trivial⟩, rfl, rfl⟩
  ·
   cases h
 ·
  cases h
theorem addr_body : HasBody Tryz.prog 72 := ⟨_, Tryz.func72, rfl, by decide⟩
def OwnL : List (List Nat) → List Blk → Prop
 | [], [] => True
 | ks :: kss, B :: Bs => (∀ k ∈ ks, B.own k) ∧ OwnL kss Bs
 | _, _ => False
theorem OwnL.mem : ∀ {kss : List (List Nat)} {Bs : List Blk}, OwnL kss Bs → ∀ ks ∈ kss, ∃ B ∈ Bs, ∀ k ∈ ks, B.own k
 | [], [], _, ks, h => by cases h
 | [], _ :: _, h, _, _ => h.elim
 | _ :: _, [], h, _, _ => h.elim
 | ks0 :: kss, B :: Bs, h, ks, hk => by
  rcases List.mem_cons.1 hk with rfl | hk
  ·
   exact ⟨B, .head _, h.1⟩
  ·
   obtain ⟨C, h1, h2⟩ := h.2.mem ks hk
   exact ⟨C, .tail _ h1, h2⟩
theorem nd_pw : ∀ {kss : List (List Nat)} {Bs : List Blk}, OwnL kss Bs → (Bs.Pairwise fun B B' => ∀ k, B.own k → ¬ B'.own k) → (∀ ks ∈ kss, ks.Nodup) → kss.flatten.Nodup
 | [], [], _, _, _ => .nil
 | [], _ :: _, h, _, _ => h.elim
 | _ :: _, [], h, _, _ => h.elim
 | ks :: kss, B :: Bs, h, hp, hn => by
  rw [List.pairwise_cons] at hp
  rw [List.flatten_cons]
  refine List.nodup_append.2 ⟨hn ks (.head _), nd_pw h.2 hp.2 fun k hk => hn k (.tail _ hk), fun x hx y hy e => ?_⟩
  subst e
  obtain ⟨l, hl, hxl⟩ := List.mem_flatten.1 hy
  obtain ⟨C, hC, h2⟩ := h.2.mem l hl
  exact hp.1 C hC x (h.1 x hx) (h2 x hxl)
theorem toList_own {v : Option Nat} {T es len cap : Nat} {f : Nat → AV} : ∀ k ∈ v.toList, (Blk.vrow v T es len f cap).own k := by
 intro k hk
 cases v with
 | none => cases hk
 | some b => rw [(by simpa using hk : k = b)]; rfl
theorem toList_nd (v : Option Nat) : v.toList.Nodup := by cases v <;> simp
section
variable {H : Frag} {b : Nat} {ents : List (Int × Nat)} {recs : List (Int × ByteArray)} {v1 v2 : Option Nat} {c1 c2 : Nat}
theorem doc_close (h : DocF H b ents recs v1 c1 v2 c2) {ents' : List (Int × Nat)} {recs' : List (Int × ByteArray)} {v1' v2' : Option Nat} {c1' c2' : Nat} {Bs : List Blk} {ks : List Nat} {w : World} (hh : ∀ B ∈ Bs, B.holds w) (hrow : .row b 220 3 1 (fun _ => docAV (ownB v1') ents'.length c1' (ownB v2') recs'.length c2') 1 ∈ Bs) (hen : .vrow v1' 39 1 ents'.length (entE ents') c1' ∈ Bs) (hrc : .vrow v2' 248 2 recs'.length (recE recs') c2' ∈ Bs) (hr : restB H ks ∈ Bs)
  (hsig : ∀ e ∈ ents', (e ∈ ents ∧ e.2 ∉ ks) ∨ .row e.2 224 2 1 (fun _ => dsigAV b e.1) 1 ∈ Bs) (nde : (ents'.map (·.1)).Nodup) (ndr : recs'.Nodup) (ndb : (b :: (v1'.toList ++ (v2'.toList ++ ents'.map (·.2)))).Nodup) : IsDoc b ents' recs' (restr w (ownU Bs)) := by
 refine ⟨v1', c1', v2', c2', closed_row hrow hh, closed_fv hen hh, closed_fv hrc hh, fun e he => ?_, nde, ndr, ndb⟩
 rcases hsig e he with ⟨h1, h2⟩ | h1
 ·
  exact (h.sig e h1).same (closed_same hr hh h2 (h.sig e h1).ne)
 ·
  exact closed_row h1 hh
theorem DocF.far (h : DocF H b ents recs v1 c1 v2 c2) : ∀ e ∈ ents, e.2 ∉ [[b], v1.toList, v2.toList].flatten := by
 intro e he hm
 have hd := h.ndb
 have hm2 := List.mem_map_of_mem (f := fun e : Int × Nat => e.2) he
 rw [← List.cons_append, ← List.append_assoc, List.cons_append] at hd
 have hd : (([[b], v1.toList, v2.toList].flatten) ++ ents.map (·.2)).Nodup := by simpa using h.ndb
 exact (List.nodup_append.1 hd).2.2 _ hm _ hm2 rfl
abbrev dentBs (H : Frag) (b : Nat) (ents : List (Int × Nat)) (recs : List (Int × ByteArray)) (v1 v2 v1' : Option Nat) (c1' c2 : Nat) (a : Int) (b' : Nat) : List Blk := [.row b 220 3 1 (fun _ => docAV (ownB v1') (ents ++ [(a, b')]).length c1' (ownB v2) recs.length c2) 1, .vrow v1' 39 1 (ents ++ [(a, b')]).length (entE (ents ++ [(a, b')])) c1', .vrow v2 248 2 recs.length (recE recs) c2, restB H ([[b], v1.toList, v2.toList].flatten), .row b' 224 2 1 (fun _ => dsigAV b a) 1]
theorem doc_enter (h : DocF H b ents recs v1 c1 v2 c2) {a : Int} (ha : ∀ e ∈ ents, e.1 ≠ a) {v1' : Option Nat} {c1' b' : Nat} {w : World} (hh : ∀ B ∈ dentBs H b ents recs v1 v2 v1' c1' c2 a b', B.holds w) (hp : (dentBs H b ents recs v1 v2 v1' c1' c2 a b').Pairwise fun B B' => ∀ k, B.own k → ¬ B'.own k) : IsDoc b (ents ++ [(a, b')]) recs (restr w (ownU (dentBs H b ents recs v1 v2 v1' c1' c2 a b'))) := by
 refine doc_close h hh (.head _) (.tail _ (.head _)) (.tail _ (.tail _ (.head _))) (.tail _ (.tail _ (.tail _ (.head _)))) (fun e he => ?_) ?_ h.ndr ?_
 ·
  rcases List.mem_append.1 he with he | he
  ·
   exact .inl ⟨he, h.far e he⟩
  ·
   rw [(by simpa using he : e = (a, b'))]
   exact .inr (.tail _ (.tail _ (.tail _ (.tail _ (.head _)))))
 ·
  simp only [List.map_append, List.map_cons, List.map_nil]
  refine List.nodup_append.2 ⟨h.nde, by simp, fun x hx y hy => ?_⟩
  obtain ⟨e, he, rfl⟩ := List.mem_map.1 hx
  rw [(by simpa using hy : y = a)]
  exact ha e he
 ·
  have hnb := List.nodup_cons.1 h.ndb
  have hne : (ents.map (·.2)).Nodup := (List.nodup_append.1 (List.nodup_append.1 hnb.2).2.1).2.1
  have := nd_pw (kss := [[b], v1'.toList, v2.toList, ents.map (·.2), [b']]) (Bs := dentBs H b ents recs v1 v2 v1' c1' c2 a b') ⟨fun k hk => (by rw [(by simpa using hk : k = b)]; rfl), toList_own, toList_own, fun k hk => (by
   obtain ⟨e, he, rfl⟩ := List.mem_map.1 hk
   exact ⟨(h.sig e he).ne, h.far e he⟩), fun k hk => (by rw [(by simpa using hk : k = b')]; rfl), trivial⟩ hp (fun ks hk => by
   simp only [List.mem_cons, List.not_mem_nil, or_false] at hk
   rcases hk with rfl | rfl | rfl | rfl | rfl
   ·
    simp
   ·
    exact toList_nd _
   ·
    exact toList_nd _
   ·
    exact hne
   ·
    simp)
  simpa using this
end
theorem fapp_ent {l : List (Int × Nat)} {a : Int} {b' : Nat} {src : Nat → AV} (hs : src 0 = .v (.int .u64 a)) : ∀ i, i < (l ++ [(a, b')]).length → (entE (l ++ [(a, b')]) i).cells = (fapp l.length (entE l) src i).cells ∧ (entE (l ++ [(a, b')]) i).one = true := by
 intro i hi
 rw [List.length_append] at hi
 have hi : i < l.length + 1 := hi
 refine ⟨?_, rfl⟩
 by_cases h : i < l.length
 ·
  rw [fapp_lt h]
  unfold entE
  rw [List.getD_eq_getElem?_getD, List.getElem?_append_left h, ← List.getD_eq_getElem?_getD]
 ·
  have : i = l.length := by omega
  subst this
  unfold fapp entE
  rw [show Nat.blt l.length l.length = false from Bool.eq_false_iff.2 fun h0 => absurd (blt_lt h0) (Nat.lt_irrefl _), Nat.sub_self]
  show _ = (src 0).cells
  rw [hs]
  simp
def denterC (_tag : Nat) (args : List AV) (M : MemF) : Option Res := match args with
 | [.ptr p, .v (.int .u64 a)] => match docOf M p with
  | some (c, b, ents, recs, _) => some ⟨Nat × (Nat → Prop), c ∧ a ≠ 0 ∧ (∀ e ∈ ents, e.1 ≠ a) ∧ ents.length ≤ 17592186044415, fun _ => True, fun x => .tup (.cons (.ptr ⟨p.n, ents.length, x.1, 0, 2, 0, 0, 0, false⟩) (.cons (.v (.int .i64 0)) .nil)), [p.n], fun x => [docB b (ents ++ [(a, x.1)]) recs x.2]⟩
  | none => none
 | _ => none
def ctDe : CtL := [(56, dgoodC), (42, knownC)]
theorem ctDe_ok : CtLOk Tryz.prog ctDe := ⟨CallsOk.fn dgood_body dgood_read, CallsOk.fn known_body known_read, trivial⟩
theorem denter_turn : TurnFn Tryz.prog 44 denterC := by
 intro tag args M r h0 hok O w0 w hS
 unfold denterC at h0
 split at h0
 ·
  rename_i p a
  split at h0
  ·
   rename_i c b ents recs S hp
   cases h0
   obtain ⟨hc, ha0, hae, hn⟩ := hok
   obtain ⟨hM, hv⟩ := docOf_spec hp hc
   have hkn : knownF (ents.map (·.1)) a = false := by
    unfold knownF
    rw [Bool.eq_false_iff]
    intro h0
    obtain ⟨x, hx, e⟩ := List.any_eq_true.1 h0
    obtain ⟨e', he', rfl⟩ := List.mem_map.1 hx
    exact hae e' he' (by simpa using e)
   rw [show [AV.ptr p, AV.v (.int .u64 a)].map AV.val = [.ptr ⟨900, 0, b, 0, 3, 0, 0, 0, false⟩, AV.v (.int .u64 a)].map AV.val by simp only [List.map_cons, List.map_nil, hv 900]]
   refine turn_one tabs2 ctDe_ok (cr := []) trivial Tryz.func44 rfl rfl hS _ hM [] rfl rfl (hS.holds _ _ hM) (fun _ h => h) (fun _ h => h) trivial trivial trivial (s_post ?_)
   repeat (first | refine qs_ ?_ | refine qa_ ?_ | refine qo_ ?_ | refine qd_ ?_ | refine za ?_ | refine zb fun _ _ => ?_ | refine zc ?_ | refine ya ?_ | refine yb fun _ _ => ?_ | refine yc ?_ | refine qk_ ?_ | refine qb_ ?_ | refine qx_ ?_)
   refine s_cond (b := false) rfl (fun hb => by cases hb) (fun _ => ?_)
   repeat (first | refine qs_ ?_ | refine qa_ ?_ | refine qo_ ?_ | refine qd_ ?_ | refine za ?_ | refine zb fun _ _ => ?_ | refine zc ?_ | refine ya ?_ | refine yb fun _ _ => ?_ | refine yc ?_ | refine qk_ ?_ | refine qb_ ?_ | refine qx_ ?_)
   refine s_cond (b := (a == 0)) rfl (fun hb => absurd (by simpa using hb) ha0) (fun _ => ?_)
   repeat (first | refine qs_ ?_ | refine qa_ ?_ | refine qo_ ?_ | refine qd_ ?_ | refine za ?_ | refine zb fun _ _ => ?_ | refine zc ?_ | refine ya ?_ | refine yb fun _ _ => ?_ | refine yc ?_ | refine qk_ ?_ | refine qb_ ?_ | refine qx_ ?_)
   refine s_cond (b := knownF (ents.map (·.1)) a) rfl (fun hb => by rw [hkn] at hb; cases hb) (fun _ => ?_)
   refine s_open (n := 900) (g := .reg b ents recs) (S := S) (P := IsDoc b ents recs) [900, 901, 902, 999] rfl rfl fun H hH hP => ?_
   obtain ⟨v1, c1, v2, c2, hF⟩ := hP
   refine ⟨_, hF.pieces, ?_⟩
   repeat (first | refine qs_ ?_ | refine qa_ ?_ | refine qo_ ?_ | refine qd_ ?_ | refine za ?_ | refine zb fun _ _ => ?_ | refine zc ?_ | refine ya ?_ | refine yb fun _ _ => ?_ | refine yc ?_ | refine qk_ ?_ | refine qb_ ?_ | refine qx_ ?_)
   refine s_ret ?_
   rename_i v hv2 b' _
   refine ⟨_, _, le_close (n := 900) (.reg b (ents ++ [(a, b')]) recs) (IsDoc b (ents ++ [(a, b')]) recs) [900, 901, 902, 999, 27] (dentBs H b ents recs v1 v2 v.1 v.2 c2 a b') rfl (by decide) ⟨⟨⟨_, rfl, Blk.le_rowc (Nat.le_refl _) fun i hi => (by have h0 : i = 0 := Nat.lt_one_iff.1 hi; subst h0; exact ⟨by rw [List.length_append]; rfl, rfl⟩)⟩, fun _ h => h⟩, ⟨⟨_, rfl, Blk.le_vrowc (by rw [List.length_append]; exact Nat.le_refl _) (fapp_ent rfl)⟩, fun _ h => h⟩, ⟨⟨_, rfl, Blk.le_refl _⟩, fun _ h => h⟩, ⟨⟨_, rfl, Blk.le_refl _⟩, fun _ h => h⟩, ⟨⟨_, rfl, Blk.le_rowc (Nat.le_refl _) fun _ _ => ⟨rfl, rfl⟩⟩, fun _ h => h⟩, trivial⟩ (fun w hh hp => doc_enter hF hae hh hp), ?_⟩
   exact ⟨_, _, rfl, (by repeat (first | exact trivial | constructor)), rfl, (b', _), trivial, rfl, ⟨⟨_, rfl, Blk.le_refl _⟩, fun _ h => h⟩, trivial⟩
  ·
   cases h0
 ·
  cases h0
theorem denter_body : HasBody Tryz.prog 44 := ⟨_, Tryz.func44, rfl, by decide⟩
section
variable {H : Frag} {b : Nat} {ents : List (Int × Nat)} {recs : List (Int × ByteArray)} {v1 v2 : Option Nat} {c1 c2 : Nat}
theorem DocF.piecesS (h : DocF H b ents recs v1 c1 v2 c2) {e : Int × Nat} (he : e ∈ ents) : Pieces H ((docBs H b ents recs v1 c1 v2 c2 ++ [.row e.2 224 2 1 (fun _ => dsigAV b e.1) 1]) ++ [restB H ([[b], v1.toList, v2.toList, [e.2]].flatten)]) := by
 refine pieces_ofL (ks := [[b], v1.toList, v2.toList, [e.2]]) ⟨h.row.oneL, h.en.one, h.rc.one, (h.sig e he).oneL, trivial⟩ ?_
 refine List.Nodup.sublist ?_ h.ndb
 simp only [List.flatten_cons, List.flatten_nil, List.append_nil, List.cons_append, List.nil_append]
 refine List.Sublist.cons_cons _ (List.Sublist.append_left (List.Sublist.append_left ?_ _) _)
 exact List.singleton_sublist.2 (List.mem_map_of_mem (f := fun e : Int × Nat => e.2) he)
abbrev dsgnBs (H : Frag) (b : Nat) (ents : List (Int × Nat)) (recs : List (Int × ByteArray)) (v1 v2 v2' : Option Nat) (c1 c2' : Nat) (e : Int × Nat) : List Blk := [.row b 220 3 1 (fun _ => docAV (ownB v1) ents.length c1 (ownB v2') recs.length c2') 1, .vrow v1 39 1 ents.length (entE ents) c1, .vrow v2' 248 2 recs.length (recE recs) c2', restB H ([[b], v1.toList, v2.toList, [e.2]].flatten), .row e.2 224 2 1 (fun _ => dsigAV b e.1) 1]
theorem doc_sign (h : DocF H b ents recs v1 c1 v2 c2) {e : Int × Nat} (he : e ∈ ents) {recs' : List (Int × ByteArray)} (hnd : recs'.Nodup) {v2' : Option Nat} {c2' : Nat} {w : World} (hh : ∀ B ∈ dsgnBs H b ents recs' v1 v2 v2' c1 c2' e, B.holds w) (hp : (dsgnBs H b ents recs' v1 v2 v2' c1 c2' e).Pairwise fun B B' => ∀ k, B.own k → ¬ B'.own k) : IsDoc b ents recs' (restr w (ownU (dsgnBs H b ents recs' v1 v2 v2' c1 c2' e))) := by
 have hnb := List.nodup_cons.1 h.ndb
 have hne : (ents.map (·.2)).Nodup := (List.nodup_append.1 (List.nodup_append.1 hnb.2).2.1).2.1
 obtain ⟨l1, l2, hl⟩ := List.append_of_mem he
 have hnl : ((l1 ++ e :: l2).map (·.2)).Nodup := hl ▸ hne
 rw [List.map_append, List.map_cons] at hnl
 have hnl := List.nodup_cons.1 (List.perm_middle.nodup_iff.1 hnl)
 have far : ∀ e' ∈ l1 ++ l2, e' ∈ ents ∧ e'.2 ∉ [[b], v1.toList, v2.toList, [e.2]].flatten := by
  intro e' he'
  have hm : e' ∈ ents := by
   rw [hl]
   rcases List.mem_append.1 he' with h1 | h1
   ·
    exact List.mem_append_left _ h1
   ·
    exact List.mem_append_right _ (.tail _ h1)
  refine ⟨hm, fun hk => ?_⟩
  have h0 := h.far e' hm
  have h1 : e'.2 ∈ [[b], v1.toList, v2.toList].flatten ∨ e'.2 = e.2 := by
   simp only [List.flatten_cons, List.flatten_nil, List.append_nil, List.mem_append, List.mem_singleton] at hk ⊢
   rcases hk with h1 | h1 | h1 | h1
   ·
    exact .inl (.inl h1)
   ·
    exact .inl (.inr (.inl h1))
   ·
    exact .inl (.inr (.inr h1))
   ·
    exact .inr h1
  rcases h1 with h1 | h1
  ·
   exact h0 h1
  ·
   refine hnl.1 ?_
   rw [← List.map_append, ← h1]
   exact List.mem_map_of_mem (f := fun e : Int × Nat => e.2) he'
 refine doc_close h hh (.head _) (.tail _ (.head _)) (.tail _ (.tail _ (.head _))) (.tail _ (.tail _ (.tail _ (.head _)))) (fun e' he' => ?_) h.nde hnd ?_
 ·
  rw [hl] at he'
  rcases List.mem_append.1 he' with h1 | h1
  ·
   exact .inl (far e' (List.mem_append_left _ h1))
  ·
   rcases List.mem_cons.1 h1 with rfl | h1
   ·
    exact .inr (.tail _ (.tail _ (.tail _ (.tail _ (.head _)))))
   ·
    exact .inl (far e' (List.mem_append_right _ h1))
 ·
  have := nd_pw (kss := [[b], v1.toList, v2'.toList, (l1 ++ l2).map (·.2), [e.2]]) (Bs := dsgnBs H b ents recs' v1 v2 v2' c1 c2' e) ⟨fun k hk => (by rw [(by simpa using hk : k = b)]; rfl), toList_own, toList_own, fun k hk => (by
   obtain ⟨e', he', rfl⟩ := List.mem_map.1 hk
   exact ⟨(h.sig e' (far e' he').1).ne, (far e' he').2⟩), fun k hk => (by rw [(by simpa using hk : k = e.2)]; rfl), trivial⟩ hp (fun ks hk => by
   simp only [List.mem_cons, List.not_mem_nil, or_false] at hk
   rcases hk with rfl | rfl | rfl | rfl | rfl
   ·
    simp
   ·
    exact toList_nd _
   ·
    exact toList_nd _
   ·
    rw [List.map_append]; exact hnl.2
   ·
    simp)
  have h2 : (b :: (v1.toList ++ (v2'.toList ++ ((l1 ++ l2).map (·.2) ++ [e.2])))).Nodup := by simpa using this
  refine (List.Perm.nodup_iff ?_).1 h2
  refine List.Perm.cons _ (List.Perm.append_left _ (List.Perm.append_left _ ?_))
  rw [hl, List.map_append, List.map_append, List.map_cons]
  exact (List.perm_append_singleton _ _).trans List.perm_middle.symm
theorem fapp_rec {l : List (Int × ByteArray)} {r : Int × ByteArray} {src : Nat → AV} (hs : (src 0).cells = (recK r).cells) : ∀ i, i < (l ++ [r]).length → (recE (l ++ [r]) i).cells = (fapp l.length (recE l) src i).cells ∧ (recE (l ++ [r]) i).one = true := by
 intro i hi
 rw [List.length_append] at hi
 have hi : i < l.length + 1 := hi
 refine ⟨?_, rfl⟩
 by_cases h : i < l.length
 ·
  rw [fapp_lt h]
  unfold recE
  rw [List.getD_eq_getElem?_getD, List.getElem?_append_left h, ← List.getD_eq_getElem?_getD]
 ·
  have : i = l.length := by omega
  subst this
  unfold fapp
  rw [show Nat.blt l.length l.length = false from Bool.eq_false_iff.2 fun h0 => absurd (blt_lt h0) (Nat.lt_irrefl _), Nat.sub_self]
  show _ = (src 0).cells
  rw [hs]
  unfold recE
  simp
end
def dsignC (_tag : Nat) (args : List AV) (M : MemF) : Option Res := match args, M 100002 with
 | [.ptr p, X], some (.var 2 (.ints .u32 64 K)) => match dsgnOf M p, seqOf M X with
  | some (c, b, ents, recs, _, e), some (c2, es, n, fx) => some ⟨Nat → Prop, c ∧ (c2 ∧ (n ≠ 0 → es = 1) ∧ n ≤ 1048576 ∧ ∀ i, i < n → fx i = .v (.int .u8 (fx i).int1)) ∧ tagNe p.n X = true ∧ recs.length ≤ 4000000000000, fun _ => True, fun _ => .tup (.cons (.ints .u8 16 (ofF K b0L e.1 (fun i => (fx i).int1) n)) (.cons (.v (.int .i64 0)) .nil)), [p.n], fun x => [docB b ents (addR recs (e.1, strOf n fx)) x]⟩
  | _, _ => none
 | _, _ => none
theorem le_docR {b : Nat} {ents : List (Int × Nat)} {recs' recs2 : List (Int × ByteArray)} (h : recs2 = recs') {x : Nat → Prop} : (docB b ents recs' x).le (docB b ents recs2 x) := by
 rw [h]; exact Blk.le_refl _
def ctDsg : CtL := [(126, dhasC), (127, ofC)]
theorem ctDsg_ok : CtLOk Tryz.prog ctDsg := ⟨CallsOk.fn dhas_body dhas_read, CallsOk.fn of_body of_read, trivial⟩
theorem dsign_turn : TurnFn Tryz.prog 74 dsignC := by
 intro tag args M r h0 hok O w0 w hS
 unfold dsignC at h0
 split at h0
 ·
  rename_i p X K hM2
  split at h0
  ·
   rename_i c b ents recs S e c2 es n fx hp hsx
   cases h0
   obtain ⟨hc, ⟨q1, q2, q3, q4⟩, htag, hlen⟩ := hok
   obtain ⟨hM, he, hv⟩ := dsgnOf_spec hp hc
   obtain ⟨base, cap, hvx, hro⟩ := bytes_ro hS hsx q1 q2 q4
   obtain ⟨f, hf0⟩ : ∃ f, f = fun i => (fx i).int1 := ⟨_, rfl⟩
   have hstr : strOf n fx = strOf n fun i => .v (.int .u8 (f i)) := by rw [hf0]; rfl
   rw [← hf0, hstr]
   have hro : (roB base 1 n fun i => .v (.int .u8 (f i))).holds w := by rw [hf0]; exact hro
   have hap : ∀ j, (roB base 1 n fun i => .v (.int .u8 (f i))).reads j → ¬ (docB b ents recs S).own j := ro_apart hS hsx q1 q2 hM htag hvx
   have hK := hS.holds _ _ hM2
   rw [show [AV.ptr p, X].map AV.val = [.ptr ⟨904, 0, e.2, 0, 2, 0, 0, 0, false⟩, roS 910 base 1 n cap].map AV.val by simp only [List.map_cons, List.map_nil, hv 904, hvx, roS_val]]
   refine turn_one tabs2 ctDsg_ok (cr := []) trivial Tryz.func74 rfl rfl hS _ hM [(910, roB base 1 n fun i => .v (.int .u8 (f i))), (100002, .var 2 (.ints .u32 64 K))] rfl rfl (hS.holds _ _ hM) (fun _ h => h) (fun _ h => h) ⟨hro, hK, trivial⟩ ⟨roB_noOwn, fun _ h => h, trivial⟩ ⟨hap, fun k hr ho => hS.roapart _ _ _ _ _ hM hM2 ho hr, trivial⟩ (s_post ?_)
   refine s_open (n := 900) (g := .reg b ents recs) (S := S) (P := IsDoc b ents recs) [900, 901, 902, 904, 999] rfl rfl fun H hH hP => ?_
   obtain ⟨v1, c1, v2, c2, hF⟩ := hP
   refine ⟨_, hF.piecesS he, ?_⟩
   repeat (first | refine qs_ ?_ | refine qa_ ?_ | refine qo_ ?_ | refine qd_ ?_ | refine za ?_ | refine zb fun _ _ => ?_ | refine zc ?_ | refine ya ?_ | refine yb fun _ _ => ?_ | refine yc ?_ | refine qk_ ?_ | refine qb_ ?_ | refine qx_ ?_)
   refine s_cond (b := false) rfl (fun hb => by cases hb) (fun _ => ?_)
   repeat (first | refine qs_ ?_ | refine qa_ ?_ | refine qo_ ?_ | refine qd_ ?_ | refine za ?_ | refine zb fun _ _ => ?_ | refine zc ?_ | refine ya ?_ | refine yb fun _ _ => ?_ | refine yc ?_ | refine qk_ ?_ | refine qb_ ?_ | refine qx_ ?_)
   refine s_cond (b := decide ((n : Int) > 1048576)) rfl (fun hb => absurd hb (by simp; omega)) (fun _ => ?_)
   repeat (first | refine qs_ ?_ | refine qa_ ?_ | refine qo_ ?_ | refine qd_ ?_ | refine za ?_ | refine zb fun _ _ => ?_ | refine zc ?_ | refine ya ?_ | refine yb fun _ _ => ?_ | refine yc ?_ | refine qk_ ?_ | refine qb_ ?_ | refine qx_ ?_)
   refine s_draw rD74_5 rM74_5 rX74_5 rN74_5 rfl rfl ?_
   repeat (first | refine qs_ ?_ | refine qa_ ?_ | refine qo_ ?_ | refine qd_ ?_ | refine za ?_ | refine zb fun _ _ => ?_ | refine zc ?_ | refine ya ?_ | refine yb fun _ _ => ?_ | refine yc ?_ | refine qk_ ?_ | refine qb_ ?_ | refine qx_ ?_)
   refine s_cond (b := !(hasR ((List.range recs.length).map fun i => rec1 (recE recs i)) (e.1, strOf n fun i => .v (.int .u8 (f i))))) rfl (fun hb => ?_) (fun hb => ?_)
   ·
    rw [recs_again] at hb
    have hin : (e.1, strOf n fun i => .v (.int .u8 (f i))) ∉ recs := fun h1 => by rw [hasR_iff.2 h1] at hb; cases hb
    have hA : addR recs (e.1, strOf n fun i => .v (.int .u8 (f i))) = recs ++ [(e.1, strOf n fun i => .v (.int .u8 (f i)))] := by unfold addR; rw [if_neg fun h1 => hin (hasR_iff.1 h1)]
    repeat (first | refine qs_ ?_ | refine qa_ ?_ | refine qo_ ?_ | refine qd_ ?_ | refine za ?_ | refine zb fun _ _ => ?_ | refine zc ?_ | refine ya ?_ | refine yb fun _ _ => ?_ | refine yc ?_ | refine qk_ ?_ | refine qb_ ?_ | refine qx_ ?_)
    refine s_draw rD74_6 rM74_6 [(900, [22]), (902, [19])] rN74_6 rfl rfl ?_
    repeat (first | refine qs_ ?_ | refine qa_ ?_ | refine qo_ ?_ | refine qd_ ?_ | refine za ?_ | refine zb fun _ _ => ?_ | refine zc ?_ | refine ya ?_ | refine yb fun _ _ => ?_ | refine yc ?_ | refine qk_ ?_ | refine qb_ ?_ | refine qx_ ?_)
    refine dB rfl rfl rfl (fun v hv2 => ?_) ⟨(none, _), Nat.le_refl _⟩ ?hap
    case hap =>
     (first | ((try simp only [needIf]); (try simp only [need]); (try simp only [imp]); done) | ((try simp only [needIf]); (try simp only [need]); (try simp only [imp]); (try simp only [cutOff]); (repeat' apply And.intro) <;> (first | trivial | rfl | omega | (simp; done) | (simp; omega) | (intros; rfl) | (intros; trivial) | (simp only [IntKind.wrap_i64]; omega) | (exact Nat.le_trans (Nat.mul_le_mul_right _ (show _ ≤ 100000000001 by omega)) (by decide)) | (exact Nat.le_trans (Nat.mul_le_mul_right _ (show _ ≤ 17592186044416 by omega)) (by decide)) | (exact Nat.le_trans (Nat.mul_le_mul_right _ (show _ ≤ 4000000000001 by omega)) (by decide)) | (intro hg_; first | exact hg_ | ((try simp only [decide_eq_true_eq] at hg_); (try rw [wi64 (by omega) (by omega)]); (repeat' apply And.intro) <;> (first | trivial | rfl | omega | (intros; rfl) | (intros; trivial)))))))
    repeat (first | refine qs_ ?_ | refine qa_ ?_ | refine qo_ ?_ | refine qd_ ?_ | refine za ?_ | refine zb fun _ _ => ?_ | refine zc ?_ | refine ya ?_ | refine yb fun _ _ => ?_ | refine yc ?_ | refine qk_ ?_ | refine qb_ ?_ | refine qx_ ?_)
    refine s_ret ?_
    refine ⟨_, _, le_close (n := 900) (.reg b ents (recs ++ [(e.1, strOf n fun i => .v (.int .u8 (f i)))])) (IsDoc b ents (recs ++ [(e.1, strOf n fun i => .v (.int .u8 (f i)))])) [900, 901, 902, 999, 904] (dsgnBs H b ents (recs ++ [(e.1, strOf n fun i => .v (.int .u8 (f i)))]) v1 v2 v.1 c1 v.2 e) rfl (by decide) ⟨⟨⟨_, rfl, Blk.le_rowc (Nat.le_refl _) fun i hi => (by have h0 : i = 0 := Nat.lt_one_iff.1 hi; subst h0; exact ⟨by rw [List.length_append]; rfl, rfl⟩)⟩, fun _ h => h⟩, ⟨⟨_, rfl, Blk.le_refl _⟩, fun _ h => h⟩, ⟨⟨_, rfl, Blk.le_vrowc (by rw [List.length_append]; exact Nat.le_refl _) (fapp_rec rfl)⟩, fun _ h => h⟩, ⟨⟨_, rfl, Blk.le_refl _⟩, fun _ h => h⟩, ⟨⟨_, rfl, Blk.le_refl _⟩, fun _ h => h⟩, trivial⟩ (fun w hh hp => doc_sign hF he (nodup_add hF.ndr hin) hh hp), ?_⟩
    exact ⟨_, _, rfl, (by repeat (first | exact trivial | constructor)), rfl, _, trivial, rfl, ⟨⟨_, rfl, le_docR hA⟩, fun _ h => h⟩, trivial⟩
   ·
    rw [recs_again] at hb
    have hb : hasR recs (e.1, strOf n fun i => .v (.int .u8 (f i))) = true := by simpa using hb
    have hA : addR recs (e.1, strOf n fun i => .v (.int .u8 (f i))) = recs := by unfold addR; rw [if_pos hb]
    repeat (first | refine qs_ ?_ | refine qa_ ?_ | refine qo_ ?_ | refine qd_ ?_ | refine za ?_ | refine zb fun _ _ => ?_ | refine zc ?_ | refine ya ?_ | refine yb fun _ _ => ?_ | refine yc ?_ | refine qk_ ?_ | refine qb_ ?_ | refine qx_ ?_)
    refine s_ret ?_
    refine ⟨_, _, le_close (n := 900) (.reg b ents recs) (IsDoc b ents recs) [900, 901, 902, 999, 904] (dsgnBs H b ents recs v1 v2 v2 c1 c2 e) rfl (by decide) ⟨⟨⟨_, rfl, Blk.le_refl _⟩, fun _ h => h⟩, ⟨⟨_, rfl, Blk.le_refl _⟩, fun _ h => h⟩, ⟨⟨_, rfl, Blk.le_refl _⟩, fun _ h => h⟩, ⟨⟨_, rfl, Blk.le_refl _⟩, fun _ h => h⟩, ⟨⟨_, rfl, Blk.le_refl _⟩, fun _ h => h⟩, trivial⟩ (fun w hh hp => doc_sign hF he hF.ndr hh hp), ?_⟩
    exact ⟨_, _, rfl, (by repeat (first | exact trivial | constructor)), rfl, _, trivial, rfl, ⟨⟨_, rfl, le_docR hA⟩, fun _ h => h⟩, trivial⟩
  ·
   cases h0
 ·
  cases h0
theorem dsign_body : HasBody Tryz.prog 74 := ⟨_, Tryz.func74, rfl, by decide⟩
def offE (l : List (Int × Int)) (i : Nat) : AV := .agg (.cons (.v (.int .u64 (l.getD i (0, 0)).1)) (.cons (.v (.int .u64 (l.getD i (0, 0)).2)) .nil))
def off1 : AV → Int × Int
  | .agg (.cons (.v (.int _ a)) (.cons (.v (.int _ b)) .nil)) => (a, b)
  | _ => (0, 0)
def offIx (r : Int × Int) : List (Int × Int) → Nat → Int
  | [], _ => -1
  | q :: l, i => if (r.1 == q.1 && r.2 == q.2) = true then (i : Int) else offIx r l (i + 1)
def offX (r : Int × Int) : AV := .agg (.cons (.v (.int .u64 r.1)) (.cons (.v (.int .u64 r.2)) .nil))
def offV (M : MemF) (X : AV) : Option (Prop × List (Int × Int)) := match X with
 | .v (.slice a n _) => comeIn M 90002 2 off1 offX a n
 | X => match seqOf M X with
  | some (c, es, n, f) => some (c ∧ (n ≠ 0 → es = 2) ∧ n ≤ 9223372036854775807 ∧ ∀ i, i < n → f i = offX (off1 (f i)), (List.range n).map fun i => off1 (f i))
  | none => none
theorem off_open {O : Nat → Prop} {w0 w : World} {M : MemF} {X : AV} {c : Prop} {l : List (Int × Int)} (hS : Sat O w0 M w) (h : offV M X = some (c, l)) (hc : c) : l.length ≤ 9223372036854775807 ∧ X.cells = [X.val] ∧ ((∃ base cap, X.val = slV base l.length cap ∧ (roB base 2 l.length (offE l)).holds w) ∨ l = [] ∧ ∃ p cap, X = .v (.slice p 0 cap)) := by
  unfold offV at h
  split at h
  · rename_i a n cap
    obtain ⟨h1, h2, _⟩ := comeIn_spec h hc
    refine ⟨by omega, rfl, ?_⟩
    rcases comeIn_ro (cap := cap) hS h hc with ⟨base, h3, h4⟩ | ⟨rfl, h3⟩
    · rw [h2]
      exact .inl ⟨base, cap, h3, h4⟩
    · exact .inr ⟨h3, _, _, rfl⟩
  · split at h
    · rename_i c0 es n f hsx
      cases h
      obtain ⟨q1, q2, q3, q4⟩ := hc
      obtain ⟨base, cap, hv, hr⟩ := seqOf_spec hS hsx q1
      have hln : ((List.range n).map fun i => off1 (f i)).length = n := by simp
      rw [hln]
      refine ⟨q3, seq_cells hsx, .inl ⟨base, cap, hv, roB_holds fun h0 => ?_⟩⟩
      obtain ⟨b, o, e1, e2⟩ := hr h0
      rw [q2 h0] at e2
      refine ⟨b, o, e1, e2.congr fun i hi => ?_⟩
      unfold offE
      rw [List.getD_eq_getElem?_getD, List.getElem?_map, List.getElem?_range hi]
      exact q4 i hi
    · cases h
def noneB (es : Nat) : Blk := .vro es (fun _ => none) (fun _ => 0) (fun _ _ => .nil)
theorem noneB_holds (es : Nat) (w : World) : (noneB es).holds w := fun _ => ⟨fun _ => rfl, fun _ _ h => (by cases h)⟩
def oixC (args : List AV) (M : MemF) : Option (Prop × AV) := match args with
  | [X, .agg (.cons (.v (.int .u64 h)) (.cons (.v (.int .u64 a)) .nil))] => match offV M X with
    | some (c, l) => some (c, .v (.int .i64 (offIx (h, a) l 0)))
    | none => none
  | _ => none
theorem offIx_at {r : Int × Int} : ∀ {l : List (Int × Int)} {i k : Nat}, k < l.length → (∀ j, j < k → (r.1 == (l.getD j (0, 0)).1 && r.2 == (l.getD j (0, 0)).2) = false) → (r.1 == (l.getD k (0, 0)).1 && r.2 == (l.getD k (0, 0)).2) = true → offIx r l i = ((i + k : Nat) : Int)
  | [], _, _, h, _, _ => absurd h (Nat.not_lt_zero _)
  | q :: l, i, 0, _, _, h => by
    unfold offIx
    rw [if_pos (by simpa using h)]; simp
  | q :: l, i, k + 1, hk, hj, h => by
    unfold offIx
    have h0 := hj 0 (by omega)
    rw [if_neg (by intro e; have h0 : (r.1 == q.1 && r.2 == q.2) = false := by simpa using h0
                   rw [h0] at e; cases e)]
    rw [offIx_at (l := l) (i := i + 1) (k := k) (by simpa using hk) (fun j hj' => by simpa using hj (j + 1) (by omega)) (by simpa using h)]
    congr 1; omega
theorem offIx_no {r : Int × Int} : ∀ {l : List (Int × Int)} {i : Nat}, (∀ j, j < l.length → (r.1 == (l.getD j (0, 0)).1 && r.2 == (l.getD j (0, 0)).2) = false) → offIx r l i = -1
  | [], _, _ => rfl
  | q :: l, i, hj => by
    unfold offIx
    have h0 : (r.1 == q.1 && r.2 == q.2) = false := by simpa using hj 0 (by simp)
    rw [if_neg (by intro e; rw [h0] at e; cases e)]
    exact offIx_no fun j hj' => by simpa using hj (j + 1) (by simpa using hj')
theorem oix_read : ReadFn Tryz.prog 150 oixC := by
  intro args M q res h0 hq O w0 w hS
  unfold oixC at h0
  split at h0
  · rename_i X h a
    split at h0
    · rename_i c l hsx
      cases h0
      obtain ⟨q3, hcl, ho⟩ := off_open hS hsx hq
      obtain ⟨n, hln⟩ : ∃ n, n = l.length := ⟨_, rfl⟩
      rw [← hln] at q3 ho
      have hln := hln.symm
      rcases ho with ⟨base, cap, hv, hro⟩ | ⟨rfl, sp, scap, rfl⟩
      · rw [show [X, .agg (.cons (.v (.int .u64 h)) (.cons (.v (.int .u64 a)) .nil))].map AV.val = [roS 900 base 2 n cap, .agg (.cons (.v (.int .u64 h)) (.cons (.v (.int .u64 a)) .nil))].map AV.val by simp only [List.map_cons, List.map_nil, hv, roS_val]]
        refine ro_fn tabs2 (ct := []) trivial (cr := []) trivial Tryz.func150 rfl rfl (M := [(900, roB base 2 n (offE l))]) rfl ⟨roB_noOwn, trivial⟩ ⟨hro, trivial⟩ ?_
        repeat (first | refine qs_ ?_ | refine qa_ ?_ | refine qo_ ?_ | refine qd_ ?_ | refine za ?_ | refine zb fun _ _ => ?_ | refine zc ?_ | refine ya ?_ | refine yb fun _ _ => ?_ | refine yc ?_ | refine qk_ ?_ | refine qb_ ?_ | refine qx_ ?_)
        refine s_loopW (α := Nat) [5, 8, 9, 10, 11, 12, 13, 14, 15, 16, 17, 18] [] (fun k => k ≤ n ∧ ∀ j, j < k → (h == (l.getD j (0, 0)).1 && a == (l.getD j (0, 0)).2) = false) (fun k => [(8, none, .v (.int .i64 k))]) (fun _ => []) (fun k => n - k) 0 ⟨Nat.zero_le _, fun j hj => absurd hj (Nat.not_lt_zero j)⟩ ?_ ?_
        · exact leQ
        · intro k ⟨hk, hno⟩
          repeat (first | refine qs_ ?_ | refine qa_ ?_ | refine qo_ ?_ | refine qd_ ?_ | refine za ?_ | refine zb fun _ _ => ?_ | refine zc ?_ | refine ya ?_ | refine yb fun _ _ => ?_ | refine yc ?_ | refine qk_ ?_ | refine qb_ ?_ | refine qx_ ?_)
          refine s_cond (b := decide ((k : Int) < (n : Int))) rfl (fun hb2 => ?_) (fun hb2 => ?_)
          · have hk8 : k < n := by have := of_decide_eq_true hb2; omega
            repeat (first | refine qs_ ?_ | refine qa_ ?_ | refine qo_ ?_ | refine qd_ ?_ | refine za ?_ | refine zb fun _ _ => ?_ | refine zc ?_ | refine ya ?_ | refine yb fun _ _ => ?_ | refine yc ?_ | refine qk_ ?_ | refine qb_ ?_ | refine qx_ ?_)
            refine s_draw rD150_4 rM150_4 rX150_4 rN150_4 rfl rfl ?_
            repeat (first | refine qs_ ?_ | refine qa_ ?_ | refine qo_ ?_ | refine qd_ ?_ | refine za ?_ | refine zb fun _ _ => ?_ | refine zc ?_ | refine ya ?_ | refine yb fun _ _ => ?_ | refine yc ?_ | refine qk_ ?_ | refine qb_ ?_ | refine qx_ ?_)
            refine s_cond (b := (h == (l.getD k (0, 0)).1 && ((a == (l.getD k (0, 0)).2) && true))) rfl (fun h9 => ?_) (fun h9 => ?_)
            · rw [Bool.and_true] at h9
              repeat (first | refine qs_ ?_ | refine qa_ ?_ | refine qo_ ?_ | refine qd_ ?_ | refine za ?_ | refine zb fun _ _ => ?_ | refine zc ?_ | refine ya ?_ | refine yb fun _ _ => ?_ | refine yc ?_ | refine qk_ ?_ | refine qb_ ?_ | refine qx_ ?_)
              refine s_ret ?_
              refine ⟨_, _, rfl, ⟨trivial, trivial⟩, rfl, ?_⟩
              rw [offIx_at (k := k) (by rw [hln]; exact hk8) hno h9, Nat.zero_add]
              rfl
            · rw [Bool.and_true] at h9
              repeat (first | refine qs_ ?_ | refine qa_ ?_ | refine qo_ ?_ | refine qd_ ?_ | refine za ?_ | refine zb fun _ _ => ?_ | refine zc ?_ | refine ya ?_ | refine yb fun _ _ => ?_ | refine yc ?_ | refine qk_ ?_ | refine qb_ ?_ | refine qx_ ?_)
              refine ⟨k + 1, ⟨by omega, fun j hj => ?_⟩, by omega, ?_⟩
              · rcases Nat.lt_or_ge j k with h1 | h1
                · exact hno j h1
                · rw [show j = k by omega]; exact h9
              · exact leQ
          · have hk8 : k = n := by have := of_decide_eq_false hb2; omega
            repeat (first | refine qs_ ?_ | refine qa_ ?_ | refine qo_ ?_ | refine qd_ ?_ | refine za ?_ | refine zb fun _ _ => ?_ | refine zc ?_ | refine ya ?_ | refine yb fun _ _ => ?_ | refine yc ?_ | refine qk_ ?_ | refine qb_ ?_ | refine qx_ ?_)
            refine s_ret ?_
            refine ⟨_, _, rfl, ⟨trivial, trivial⟩, rfl, ?_⟩
            rw [offIx_no (by rw [hln, ← hk8]; exact hno)]
            rfl
      · refine ro_fn tabs2 (ct := []) trivial (cr := []) trivial Tryz.func150 rfl rfl (M := []) rfl trivial trivial ?_
        repeat (first | refine qs_ ?_ | refine qa_ ?_ | refine qo_ ?_ | refine qd_ ?_ | refine za ?_ | refine zb fun _ _ => ?_ | refine zc ?_ | refine ya ?_ | refine yb fun _ _ => ?_ | refine yc ?_ | refine qk_ ?_ | refine qb_ ?_ | refine qx_ ?_)
        refine s_loopW (α := Unit) [5, 8, 9, 10, 11, 12, 13, 14, 15, 16, 17, 18] [] (fun _ => True) (fun _ => [(8, none, .v (.int .i64 0))]) (fun _ => []) (fun _ => 0) () trivial ?_ ?_
        · exact leQ
        · intro _ _
          repeat (first | refine qs_ ?_ | refine qa_ ?_ | refine qo_ ?_ | refine qd_ ?_ | refine za ?_ | refine zb fun _ _ => ?_ | refine zc ?_ | refine ya ?_ | refine yb fun _ _ => ?_ | refine yc ?_ | refine qk_ ?_ | refine qb_ ?_ | refine qx_ ?_)
          refine s_cond (b := false) rfl (fun hb => by cases hb) (fun _ => ?_)
          repeat (first | refine qs_ ?_ | refine qa_ ?_ | refine qo_ ?_ | refine qd_ ?_ | refine za ?_ | refine zb fun _ _ => ?_ | refine zc ?_ | refine ya ?_ | refine yb fun _ _ => ?_ | refine yc ?_ | refine qk_ ?_ | refine qb_ ?_ | refine qx_ ?_)
          refine s_ret ?_
          exact ⟨_, _, rfl, ⟨trivial, trivial⟩, rfl, rfl⟩
    · cases h0
  · cases h0
theorem oix_body : HasBody Tryz.prog 150 := ⟨_, Tryz.func150, rfl, by decide⟩
theorem off_again {l : List (Int × Int)} {n : Nat} (hn : l.length = n) : ((List.range n).map fun i => off1 (offE l i)) = l := by
  subst hn
  apply List.ext_getElem?
  intro i
  rw [List.getElem?_map]
  by_cases h : i < l.length
  · rw [List.getElem?_range h, List.getElem?_eq_getElem h]
    show some ((l.getD i (0, 0)).1, (l.getD i (0, 0)).2) = _
    rw [List.getD_eq_getElem?_getD, List.getElem?_eq_getElem h]; rfl
  · rw [List.getElem?_eq_none (by simpa using h), List.getElem?_eq_none (by omega)]; rfl
def contC (args : List AV) (M : MemF) : Option (Prop × AV) := match args with
  | [X, .agg (.cons (.v (.int .u64 h)) (.cons (.v (.int .u64 a)) .nil))] => match offV M X with
    | some (c, l) => some (c, .v (.bool (decide (offIx (h, a) l 0 ≥ 0))))
    | none => none
  | _ => none
def ctOx : CtL := [(150, oixC)]
theorem ctOx_ok : CtLOk Tryz.prog ctOx := ⟨CallsOk.fn oix_body oix_read, trivial⟩
theorem cont_read : ReadFn Tryz.prog 108 contC := by
  intro args M q res h0 hq O w0 w hS
  unfold contC at h0
  split at h0
  · rename_i X h a
    split at h0
    · rename_i c l hsx
      cases h0
      obtain ⟨q3, hcl, ho⟩ := off_open hS hsx hq
      obtain ⟨n, hln⟩ : ∃ n, n = l.length := ⟨_, rfl⟩
      rw [← hln] at q3 ho
      have hln := hln.symm
      rcases ho with ⟨base, cap, hv, hro⟩ | ⟨rfl, sp, scap, rfl⟩
      · rw [show [X, .agg (.cons (.v (.int .u64 h)) (.cons (.v (.int .u64 a)) .nil))].map AV.val = [roS 900 base 2 n cap, .agg (.cons (.v (.int .u64 h)) (.cons (.v (.int .u64 a)) .nil))].map AV.val by simp only [List.map_cons, List.map_nil, hv, roS_val]]
        refine ro_fn tabs2 ctOx_ok (cr := []) trivial Tryz.func108 rfl rfl (M := [(900, roB base 2 n (offE l))]) rfl ⟨roB_noOwn, trivial⟩ ⟨hro, trivial⟩ ?_
        repeat (first | refine qs_ ?_ | refine qa_ ?_ | refine qo_ ?_ | refine qd_ ?_ | refine za ?_ | refine zb fun _ _ => ?_ | refine zc ?_ | refine ya ?_ | refine yb fun _ _ => ?_ | refine yc ?_ | refine qk_ ?_ | refine qb_ ?_ | refine qx_ ?_)
        refine s_ret ?_
        refine ⟨_, _, rfl, ⟨trivial, trivial⟩, rfl, ?_⟩
        show (AV.v (.bool (decide (offIx (h, a) ((List.range n).map fun i => off1 (offE l i)) 0 ≥ 0)))).val = _
        rw [off_again hln]
      · refine ro_fn tabs2 ctOx_ok (cr := []) trivial Tryz.func108 rfl rfl (M := [(90002, noneB 2)]) rfl ⟨fun _ h => h, trivial⟩ ⟨noneB_holds _ _, trivial⟩ ?_
        repeat (first | refine qs_ ?_ | refine qa_ ?_ | refine qo_ ?_ | refine qd_ ?_ | refine za ?_ | refine zb fun _ _ => ?_ | refine zc ?_ | refine ya ?_ | refine yb fun _ _ => ?_ | refine yc ?_ | refine qk_ ?_ | refine qb_ ?_ | refine qx_ ?_)
        refine s_ret ?_
        exact ⟨_, _, rfl, ⟨trivial, trivial⟩, rfl, rfl⟩
    · cases h0
  · cases h0
theorem cont_body : HasBody Tryz.prog 108 := ⟨_, Tryz.func108, rfl, by decide⟩
def numIx (a : Int) : List Int → Nat → Int
 | [], _ => -1
 | q :: l, i => if (q == a) = true then (i : Int) else numIx a l (i + 1)
theorem numIx_at {a : Int} : ∀ {l : List Int} {i k : Nat}, k < l.length → (∀ j, j < k → (l.getD j 0 == a) = false) → (l.getD k 0 == a) = true → numIx a l i = ((i + k : Nat) : Int)
 | [], _, _, h, _, _ => absurd h (Nat.not_lt_zero _)
 | q :: l, i, 0, _, _, h => by
  unfold numIx
  rw [if_pos (by simpa using h)]; simp
 | q :: l, i, k + 1, hk, hj, h => by
  unfold numIx
  have h0 : (q == a) = false := by simpa using hj 0 (by omega)
  rw [if_neg (by intro e; rw [h0] at e; cases e)]
  rw [numIx_at (l := l) (i := i + 1) (k := k) (by simpa using hk) (fun j hj' => by simpa using hj (j + 1) (by omega)) (by simpa using h)]
  congr 1; omega
theorem numIx_no {a : Int} : ∀ {l : List Int} {i : Nat}, (∀ j, j < l.length → (l.getD j 0 == a) = false) → numIx a l i = -1
 | [], _, _ => rfl
 | q :: l, i, hj => by
  unfold numIx
  have h0 : (q == a) = false := by simpa using hj 0 (by simp)
  rw [if_neg (by intro e; rw [h0] at e; cases e)]
  exact numIx_no fun j hj' => by simpa using hj (j + 1) (by simpa using hj')
def mb1 : AV → Int × Int × Int
 | .agg (.cons (.v (.int _ a)) (.cons (.v (.int _ p)) (.cons (.v (.int _ q)) .nil))) => (a, p, q)
 | _ => (0, 0, 0)
def mbE (l : List (Int × Int × Int)) (i : Nat) : AV := .agg (.cons (.v (.int .u64 (l.getD i (0, 0, 0)).1)) (.cons (.v (.int .u64 (l.getD i (0, 0, 0)).2.1)) (.cons (.v (.int .i64 (l.getD i (0, 0, 0)).2.2)) .nil)))
def mbX (r : Int × Int × Int) : AV := .agg (.cons (.v (.int .u64 r.1)) (.cons (.v (.int .u64 r.2.1)) (.cons (.v (.int .i64 r.2.2)) .nil)))
def memV (M : MemF) (X : AV) : Option (Prop × List (Int × Int × Int)) := match X with
 | .v (.slice a n _) => comeIn M 90003 3 mb1 mbX a n
 | X => match seqOf M X with
 | some (c, es, n, f) => some (c ∧ (n ≠ 0 → es = 3) ∧ n ≤ 9223372036854775807 ∧ ∀ i, i < n → f i = mbX (mb1 (f i)), (List.range n).map fun i => mb1 (f i))
 | none => none
theorem mem_open {O : Nat → Prop} {w0 w : World} {M : MemF} {X : AV} {c : Prop} {l : List (Int × Int × Int)} (hS : Sat O w0 M w) (h : memV M X = some (c, l)) (hc : c) : l.length ≤ 9223372036854775807 ∧ X.cells = [X.val] ∧ ((∃ base cap, X.val = slV base l.length cap ∧ (roB base 3 l.length (mbE l)).holds w) ∨ l = [] ∧ ∃ p cap, X = .v (.slice p 0 cap)) := by
 unfold memV at h
 split at h
 ·
  rename_i a n cap
  obtain ⟨h1, h2, _⟩ := comeIn_spec h hc
  refine ⟨by omega, rfl, ?_⟩
  rcases comeIn_ro (cap := cap) hS h hc with ⟨base, h3, h4⟩ | ⟨rfl, h3⟩
  ·
   rw [h2]
   exact .inl ⟨base, cap, h3, h4⟩
  ·
   exact .inr ⟨h3, _, _, rfl⟩
 ·
  split at h
  ·
   rename_i c0 es n f hsx
   cases h
   obtain ⟨q1, q2, q3, q4⟩ := hc
   obtain ⟨base, cap, hv, hr⟩ := seqOf_spec hS hsx q1
   have hln : ((List.range n).map fun i => mb1 (f i)).length = n := by simp
   rw [hln]
   refine ⟨q3, seq_cells hsx, .inl ⟨base, cap, hv, roB_holds fun h0 => ?_⟩⟩
   obtain ⟨b, o, e1, e2⟩ := hr h0
   rw [q2 h0] at e2
   refine ⟨b, o, e1, e2.congr fun i hi => ?_⟩
   unfold mbE
   rw [List.getD_eq_getElem?_getD, List.getElem?_map, List.getElem?_range hi]
   exact q4 i hi
  ·
   cases h
def dixC (args : List AV) (M : MemF) : Option (Prop × AV) := match args with
 | [.agg (.cons X .nil), .v (.int .u64 a)] => match memV M X with
  | some (c, l) => some (c, .v (.int .i64 (numIx a (l.map (·.1)) 0)))
  | none => none
 | _ => none
theorem mb_get {l : List (Int × Int × Int)} {k : Nat} : (l.map (·.1)).getD k 0 = (l.getD k (0, 0, 0)).1 := by
 rw [List.getD_eq_getElem?_getD, List.getD_eq_getElem?_getD, List.getElem?_map]
 cases l[k]? <;> rfl
theorem dix_read : ReadFn Tryz.prog 60 dixC := by
 intro args M q res h0 hq O w0 w hS
 unfold dixC at h0
 split at h0
 ·
  rename_i X a
  split at h0
  ·
   rename_i c l hsx
   cases h0
   rcases mem_open hS hsx hq with ⟨hn, hcl, ⟨base, cap, hv, hro⟩ | ⟨rfl, sp, scap, rfl⟩⟩
   ·
    have hx : (AV.agg (.cons X .nil)).val = (AV.agg (.cons (roS 900 base 3 l.length cap) .nil)).val := by
     simp only [AV.val_agg, AV.cells_cons, AV.cells_nil, hcl, hv]
     rw [show (roS 900 base 3 l.length cap).cells = [slV base l.length cap] by rw [← roS_val 900 base 3 l.length cap]; rfl]
    rw [show [.agg (.cons X .nil), .v (.int .u64 a)].map AV.val = [.agg (.cons (roS 900 base 3 l.length cap) .nil), .v (.int .u64 a)].map AV.val by simp only [List.map_cons, List.map_nil, hx]]
    refine ro_fn tabs2 (ct := []) trivial (cr := []) trivial Tryz.func60 rfl rfl (M := [(900, roB base 3 l.length (mbE l))]) rfl ⟨roB_noOwn, trivial⟩ ⟨hro, trivial⟩ ?_
    repeat (first | refine qs_ ?_ | refine qa_ ?_ | refine qo_ ?_ | refine qd_ ?_ | refine za ?_ | refine zb fun _ _ => ?_ | refine zc ?_ | refine ya ?_ | refine yb fun _ _ => ?_ | refine yc ?_ | refine qk_ ?_ | refine qb_ ?_ | refine qx_ ?_)
    refine s_loopW (α := Nat) [5, 6, 7, 8, 9, 10, 11, 12, 13, 14, 15, 16, 17, 18, 19, 20, 21] [] (fun k => k ≤ l.length ∧ ∀ j, j < k → ((l.map (·.1)).getD j 0 == a) = false) (fun k => [(5, none, .v (.int .i64 k))]) (fun _ => []) (fun k => l.length - k) 0 ⟨Nat.zero_le _, fun j hj => absurd hj (Nat.not_lt_zero j)⟩ ?_ ?_
    ·
     exact leQ
    ·
     intro k ⟨hk, hno⟩
     repeat (first | refine qs_ ?_ | refine qa_ ?_ | refine qo_ ?_ | refine qd_ ?_ | refine za ?_ | refine zb fun _ _ => ?_ | refine zc ?_ | refine ya ?_ | refine yb fun _ _ => ?_ | refine yc ?_ | refine qk_ ?_ | refine qb_ ?_ | refine qx_ ?_)
     refine s_cond (b := decide ((k : Int) < (l.length : Int))) rfl (fun hb2 => ?_) (fun hb2 => ?_)
     ·
      have hk8 : k < l.length := by have := of_decide_eq_true hb2; omega
      repeat (first | refine qs_ ?_ | refine qa_ ?_ | refine qo_ ?_ | refine qd_ ?_ | refine za ?_ | refine zb fun _ _ => ?_ | refine zc ?_ | refine ya ?_ | refine yb fun _ _ => ?_ | refine yc ?_ | refine qk_ ?_ | refine qb_ ?_ | refine qx_ ?_)
      refine s_cond (b := ((l.getD k (0, 0, 0)).1 == a)) rfl (fun h9 => ?_) (fun h9 => ?_)
      ·
       repeat (first | refine qs_ ?_ | refine qa_ ?_ | refine qo_ ?_ | refine qd_ ?_ | refine za ?_ | refine zb fun _ _ => ?_ | refine zc ?_ | refine ya ?_ | refine yb fun _ _ => ?_ | refine yc ?_ | refine qk_ ?_ | refine qb_ ?_ | refine qx_ ?_)
       refine s_ret ?_
       refine ⟨_, _, rfl, ⟨trivial, trivial⟩, rfl, ?_⟩
       rw [numIx_at (k := k) (by rw [List.length_map]; exact hk8) hno (by rw [mb_get]; exact h9), Nat.zero_add]
       rfl
      ·
       repeat (first | refine qs_ ?_ | refine qa_ ?_ | refine qo_ ?_ | refine qd_ ?_ | refine za ?_ | refine zb fun _ _ => ?_ | refine zc ?_ | refine ya ?_ | refine yb fun _ _ => ?_ | refine yc ?_ | refine qk_ ?_ | refine qb_ ?_ | refine qx_ ?_)
       refine ⟨k + 1, ⟨by omega, fun j hj => ?_⟩, by omega, ?_⟩
       ·
        rcases Nat.lt_or_ge j k with h1 | h1
        ·
         exact hno j h1
        ·
         rw [show j = k by omega, mb_get]; exact h9
       ·
        exact leQ
     ·
      have hk8 : k = l.length := by have := of_decide_eq_false hb2; omega
      repeat (first | refine qs_ ?_ | refine qa_ ?_ | refine qo_ ?_ | refine qd_ ?_ | refine za ?_ | refine zb fun _ _ => ?_ | refine zc ?_ | refine ya ?_ | refine yb fun _ _ => ?_ | refine yc ?_ | refine qk_ ?_ | refine qb_ ?_ | refine qx_ ?_)
      refine s_ret ?_
      refine ⟨_, _, rfl, ⟨trivial, trivial⟩, rfl, ?_⟩
      rw [numIx_no (by rw [List.length_map, ← hk8]; exact hno)]
      rfl
   ·
    refine ro_fn tabs2 (ct := []) trivial (cr := []) trivial Tryz.func60 rfl rfl (M := []) rfl trivial trivial ?_
    repeat (first | refine qs_ ?_ | refine qa_ ?_ | refine qo_ ?_ | refine qd_ ?_ | refine za ?_ | refine zb fun _ _ => ?_ | refine zc ?_ | refine ya ?_ | refine yb fun _ _ => ?_ | refine yc ?_ | refine qk_ ?_ | refine qb_ ?_ | refine qx_ ?_)
    refine s_loopW (α := Unit) [5, 6, 7, 8, 9, 10, 11, 12, 13, 14, 15, 16, 17, 18, 19, 20, 21] [] (fun _ => True) (fun _ => [(5, none, .v (.int .i64 0))]) (fun _ => []) (fun _ => 0) () trivial ?_ ?_
    ·
     exact leQ
    ·
     intro _ _
     repeat (first | refine qs_ ?_ | refine qa_ ?_ | refine qo_ ?_ | refine qd_ ?_ | refine za ?_ | refine zb fun _ _ => ?_ | refine zc ?_ | refine ya ?_ | refine yb fun _ _ => ?_ | refine yc ?_ | refine qk_ ?_ | refine qb_ ?_ | refine qx_ ?_)
     refine s_cond (b := false) rfl (fun hb => by cases hb) (fun _ => ?_)
     repeat (first | refine qs_ ?_ | refine qa_ ?_ | refine qo_ ?_ | refine qd_ ?_ | refine za ?_ | refine zb fun _ _ => ?_ | refine zc ?_ | refine ya ?_ | refine yb fun _ _ => ?_ | refine yc ?_ | refine qk_ ?_ | refine qb_ ?_ | refine qx_ ?_)
     refine s_ret ?_
     exact ⟨_, _, rfl, ⟨trivial, trivial⟩, rfl, rfl⟩
  ·
   cases h0
 ·
  cases h0
theorem dix_body : HasBody Tryz.prog 60 := ⟨_, Tryz.func60, rfl, by decide⟩
end Go.Proofs.YtofophjfgalhaaaGreatDoor.V
