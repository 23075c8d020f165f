import Derived.Test.YtofophjfgalhaaaGreatDoorMisdeedPoolsW14
import Derived.Test.YtofophjfgalhaaaGreatDoorMisdeedPoolsW15
import Derived.Test.YtofophjfgalhaaaGreatDoorMisdeedPoolsW17
import Derived.Test.YtofophjfgalhaaaGreatDoorMisdeedPoolsW33
import Derived.Shelf.SlLaysF0
import Derived.Test.YtofophjfgalhaaaGreatDoorChecked
import Derived.KernelRfl
import Derived.Shelf.SlSortCmp.WholeK
import Derived.Shelf.SlSortCmp.NoneTotal
set_option linter.unusedVariables false
set_option linter.unusedSimpArgs false
set_option maxRecDepth 100000
set_option maxHeartbeats 8000000
namespace Go.Proofs.YtofophjfgalhaaaGreatDoor.V
open Go Go.Proofs Go.Shelf
def evRen : Ren := ⟨fun x => match x with
 | 6 => 97
 | 14 => 145
 | 15 => 146
 | 20 => 178
 | 21 => 179
 | 22 => 180
 | 23 => 181
 | 24 => 182
 | 25 => 183
 | 26 => 184
 | 27 => 185
 | 28 => 186
 | 29 => 187
 | 46 => 205
 | 47 => 206
 | 48 => 207
 | 49 => 208
 | 50 => 209
 | 57 => 215
 | n => n, fun x => match x with
 | 0 => 0
 | 3 => 3
 | 4 => 4
 | 5 => 5
 | 9 => 9
 | 22 => 123
 | 24 => 52
 | 25 => 212
 | 39 => 270
 | 45 => 302
 | 46 => 303
 | 50 => 307
 | 53 => 65
 | 55 => 22
 | 66 => 325
 | 70 => 329
 | 76 => 336
 | 77 => 337
 | n => n, fun n => n⟩
theorem evLay : SlLaysF0.n6 Tryz.prog evRen := {
 mixed := by kernel_rfl
 f6 := ⟨Tryz.f97.name, by decide, Tryz.func97.trans (congrArg some rfl)⟩
 f14 := ⟨Tryz.f145.name, by decide, Tryz.func145.trans (congrArg some rfl)⟩
 f15 := Tryz.func146.trans (congrArg some rfl)
 f20 := ⟨Tryz.f178.name, by decide, Tryz.func178.trans (congrArg some rfl)⟩
 f21 := ⟨Tryz.f179.name, by decide, Tryz.func179.trans (congrArg some rfl)⟩
 f22 := ⟨Tryz.f180.name, by decide, Tryz.func180.trans (congrArg some rfl)⟩
 f23 := ⟨Tryz.f181.name, by decide, Tryz.func181.trans (congrArg some rfl)⟩
 f24 := ⟨Tryz.f182.name, by decide, Tryz.func182.trans (congrArg some rfl)⟩
 f25 := ⟨Tryz.f183.name, by decide, Tryz.func183.trans (congrArg some rfl)⟩
 f26 := ⟨Tryz.f184.name, by decide, Tryz.func184.trans (congrArg some rfl)⟩
 f27 := ⟨Tryz.f185.name, by decide, Tryz.func185.trans (congrArg some rfl)⟩
 f28 := Tryz.func186.trans (congrArg some rfl)
 f29 := Tryz.func187.trans (congrArg some rfl)
 f46 := ⟨Tryz.f205.name, by decide, Tryz.func205.trans (congrArg some rfl)⟩
 f47 := Tryz.func206.trans (congrArg some rfl)
 f48 := Tryz.func207.trans (congrArg some rfl)
 f49 := ⟨Tryz.f208.name, by decide, Tryz.func208.trans (congrArg some rfl)⟩
 f50 := ⟨Tryz.f209.name, by decide, Tryz.func209.trans (congrArg some rfl)⟩
 f57 := ⟨Tryz.f215.name, by decide, Tryz.func215.trans (congrArg some rfl)⟩
 t0 := Tryz.underlying0
 a0 := Tryz.isAgg0
 z0 := Tryz.sizeOf0
 v0 := Tryz.zeroValue0
 t3 := Tryz.underlying3
 a3 := Tryz.isAgg3
 z3 := Tryz.sizeOf3
 v3 := Tryz.zeroValue3
 t4 := Tryz.underlying4
 a4 := Tryz.isAgg4
 z4 := Tryz.sizeOf4
 v4 := Tryz.zeroValue4
 t5 := Tryz.underlying5
 a5 := Tryz.isAgg5
 z5 := Tryz.sizeOf5
 v5 := Tryz.zeroValue5
 t9 := Tryz.underlying9
 a9 := Tryz.isAgg9
 z9 := Tryz.sizeOf9
 v9 := Tryz.zeroValue9
 t22 := Tryz.underlying123
 a22 := Tryz.isAgg123
 z22 := Tryz.sizeOf123
 v22 := Tryz.zeroValue123
 t25 := Tryz.underlying212
 a25 := Tryz.isAgg212
 z25 := Tryz.sizeOf212
 v25 := Tryz.zeroValue212
 t39 := Tryz.underlying270
 a39 := Tryz.isAgg270
 z39 := Tryz.sizeOf270
 v39 := Tryz.zeroValue270
 t45 := Tryz.underlying302
 a45 := Tryz.isAgg302
 z45 := Tryz.sizeOf302
 v45 := Tryz.zeroValue302
 t46 := Tryz.underlying303
 a46 := Tryz.isAgg303
 z46 := Tryz.sizeOf303
 v46 := Tryz.zeroValue303
 t50 := Tryz.underlying307
 a50 := Tryz.isAgg307
 z50 := Tryz.sizeOf307
 v50 := Tryz.zeroValue307
 t53 := Tryz.underlying65
 a53 := Tryz.isAgg65
 z53 := Tryz.sizeOf65
 v53 := Tryz.zeroValue65
 t55 := Tryz.underlying22
 a55 := Tryz.isAgg22
 z55 := Tryz.sizeOf22
 v55 := Tryz.zeroValue22
 t66 := Tryz.underlying325
 a66 := Tryz.isAgg325
 z66 := Tryz.sizeOf325
 v66 := Tryz.zeroValue325
 t70 := Tryz.underlying329
 a70 := Tryz.isAgg329
 z70 := Tryz.sizeOf329
 v70 := Tryz.zeroValue329
 t76 := Tryz.underlying336
 a76 := Tryz.isAgg336
 z76 := Tryz.sizeOf336
 v76 := Tryz.zeroValue336
 t77 := Tryz.underlying337
 a77 := Tryz.isAgg337
 z77 := Tryz.sizeOf337
 v77 := Tryz.zeroValue337 }
end Go.Proofs.YtofophjfgalhaaaGreatDoor.V
namespace Go.Proofs.YtofophjfgalhaaaGreatDoor.V
open Go Go.RowKit
instance inhE : Inhabited (Vote × Vote) := ⟨(zeroV, zeroV)⟩
def decE : AV → Vote × Vote
 | .agg (.cons a (.cons b .nil)) => (decVz a, decVz b)
 | _ => (zeroV, zeroV)
theorem ltE_eq (x y : Vote × Vote) : ltOf cmpE x y = decide (x.1.height < y.1.height ∨ (x.1.height = y.1.height ∧ x.1.from_ < y.1.from_)) := by
 unfold ltOf cmpE or2 cmp3
 by_cases h1 : x.1.height < y.1.height
 ·
  simp [h1]
 ·
  by_cases h2 : x.1.height > y.1.height
  ·
   simp [h1, h2]; omega
  ·
   have e : x.1.height = y.1.height := by omega
   by_cases h3 : x.1.from_ < y.1.from_
   ·
    simp [h3, e]
   ·
    by_cases h4 : x.1.from_ > y.1.from_ <;> simp [h3, h4, e]
theorem swoE : Go.Sort.SWO (ltOf cmpE) where
 irrefl x := by rw [ltE_eq]; simp
 trans x y z h1 h2 := by rw [ltE_eq] at *; simp only [decide_eq_true_eq] at *; omega
 ntrans x y z h1 h2 := by rw [ltE_eq] at *; simp only [decide_eq_false_iff_not] at *; omega
def SortedE (l l' : List (Vote × Vote)) : Prop := l'.Perm l ∧ ∀ i j, i < j → j < l'.length → ltOf cmpE (l'.getD j default) (l'.getD i default) = false
def sortC (_tag : Nat) (args : List AV) (M : MemF) : Option Res := match args with
 | [.gs n _ A es i0 len cap, .fn 98 .nil] => match M n with
  | some (.vrow a T es' l f cap') => some ⟨List (Vote × Vote), A = ownB a ∧ es = 106 ∧ i0 = 0 ∧ l = len ∧ es' = 106 ∧ cap' = cap ∧ len < 4611686018427387904 ∧ ∀ i, i < len → f i = encE (decE (f i)), fun l' => SortedE ((List.range len).map fun i => decE (f i)) l', fun _ => .tup .nil, [n], fun l' => [.vrow a T 106 len (fun i => encE (l'.getD i default)) cap]⟩
  | _ => none
 | _ => none
theorem sat_none (W : World) : Sat (fun _ => False) W (fun _ => none) W :=
 ⟨Keeps.refl _ _, fun _ _ h => (by cases h), fun _ _ _ h => (by cases h), fun _ _ _ _ _ h => (by cases h), fun _ _ _ _ _ h => (by cases h)⟩
theorem encE_size (x : Vote × Vote) : (encE x).size = 106 := rfl
theorem cmp_lays (b n : Nat) (w : World) : CmpLays Tryz.prog 98 #[] (fun x : Vote × Vote => (encE x).cells) 106 cmpE b 0 n w := by
 intro m os dk hs x y
 have h := cmpE_read [encE x, encE y] (fun _ => none) True (.v (.int .i64 (cmpE x y))) rfl trivial (fun _ => False) _ _ (sat_none (sortWorldK (fun x : Vote × Vote => (encE x).cells) 106 w b 0 m dk os))
 exact h.mono fun e w' ⟨he, hb⟩ => ⟨he, below_grow hb⟩
theorem encE_one (x : Vote × Vote) : (encE x).one = true := rfl
theorem encE_len (x : Vote × Vote) : (encE x).cells.length = 106 := by rw [AV.size_cells]; rfl
theorem ev24 : evRen.t 24 = 52 := rfl
theorem ev6 : evRen.f 6 = 97 := rfl
theorem aggE : ∀ w, (isAgg (evRen.t 24)).run Tryz.prog w = .ok true w := by rw [ev24]; exact Tryz.isAgg52
theorem sizE : ∀ w, (Go.sizeOf (evRen.t 24)).run Tryz.prog w = .ok 106 w := by rw [ev24]; exact Tryz.sizeOf52
theorem sort_at (b cap : Nat) (d : Array (Vote × Vote)) (w : World) (hH : Go.Sort.HoldsK (fun x : Vote × Vote => (encE x).cells) 106 w b 0 d) (hblk : b < w.heap.size) (hsz : d.size < 4611686018427387904) :
  Calls Tryz.prog 97 #[.slice (some ⟨b, 0, none⟩) d.size cap, .func (.func 98) #[] #[]] w fun e w' =>
   e = .returned (.tuple #[]) ∧ ∃ d' n os, Go.Sort.PermIn 0 d.size d d' ∧ Go.Sort.SortedIn (ltOf cmpE) 0 d.size d' ∧ w' = sortWorldK (fun x : Vote × Vote => (encE x).cells) 106 w b 0 n d' os := by
 rw [← ev6]
 exact AnyQ.slices_SortFunc evLay 106 aggE sizE (fun x : Vote × Vote => (encE x).cells) encE_len (fun x => AV.one_cells _ (encE_one x)) cmpE swoE 98 #[] b 0 cap d w (fun args w => cmpE_body.run args w) (cmp_lays b d.size w) hH hblk hsz
theorem bang_at (d : Array (Vote × Vote)) (i : Nat) : d[i]! = d.toList.getD i default := by
 rw [List.getD_eq_getElem?_getD, Array.getElem?_toList]
 rcases Nat.lt_or_ge i d.size with h | h
 ·
  rw [getElem!_pos d i h, Array.getElem?_eq_getElem h]; rfl
 ·
  rw [getElem!_neg d i (by omega), Array.getElem?_eq_none h]; rfl
theorem sortedE_of {d d' : Array (Vote × Vote)} (hp : Go.Sort.PermIn 0 d.size d d') (hs : Go.Sort.SortedIn (ltOf cmpE) 0 d.size d') : SortedE d.toList d'.toList := by
 obtain ⟨p1, _, p3⟩ := hp
 refine ⟨?_, fun i j hij hj => ?_⟩
 ·
  have e1 : d'.extract 0 d.size = d' := by rw [← p1]; simp
  have e2 : d.extract 0 d.size = d := by simp
  rw [e1, e2] at p3
  exact p3
 ·
  have hj' : j < d.size := by rw [← p1]; simpa using hj
  have := hs i j (Nat.zero_le _) hij hj'
  rw [bang_at, bang_at] at this
  exact this
theorem sortedE_some (l : List (Vote × Vote)) : ∃ l', SortedE l l' := by
 have h := Go.Sort.pdq_sorts (ltOf cmpE) swoE l.toArray 0 l.toArray.size (Lib.bitLen l.toArray.size) true true (Nat.zero_le _) (Nat.le_refl _) (Or.inl rfl)
 exact ⟨_, sortedE_of h.1 h.2⟩
theorem sort_turn : TurnFn Tryz.prog 97 sortC := by
 intro tag args M r h0 hok O w0 w hS
 unfold sortC at h0
 split at h0
 ·
  rename_i n ix A es i0 len cap
  split at h0
  ·
   rename_i a T es' l f cap' hM
   cases h0
   obtain ⟨rfl, rfl, rfl, rfl, rfl, rfl, hlt, hf⟩ := hok
   have hh := hS.holds _ _ hM
   cases a with
   | none =>
    obtain ⟨rfl, rfl⟩ : l = 0 ∧ cap' = 0 := hh
    have hcon := AnyF.slices_SortFunc_none evLay none 0 (.func (.func 98) #[] #[]) w
    refine hcon.mono fun e w' ⟨he, hw⟩ => ⟨[], ⟨.nil, fun i j _ h => absurd h (Nat.not_lt_zero j)⟩, he, ?_⟩
    subst hw
    exact Turn.upd hM rfl rfl rfl (Nat.le_refl _) (Nat.le_refl _) (fun _ _ _ => rfl) ⟨rfl, rfl⟩ (fun b hb => by cases hb) fun k hk => hk
   | some b =>
    have hrow : RowHolds w b T 106 l f cap' := hh
    obtain ⟨d, hd⟩ : ∃ d : Array (Vote × Vote), d = ((List.range l).map fun i => decE (f i)).toArray := ⟨_, rfl⟩
    have hds : d.size = l := by rw [hd]; simp
    have hdi : ∀ i, i < d.size → encE d[i]! = f i := fun i hi => by
     rw [hf i (by omega), hd]
     simp [show i < l by omega]
    have hrow2 : RowHolds w b T 106 d.size (fun i => encE d[i]!) cap' := RowHolds.weaken hrow (by omega) hdi
    have hcon := sort_at b cap' d w (holdsK_of encE_size hrow2) (by obtain ⟨c, h1, _⟩ := hrow; exact heap_lt h1) (by omega)
    rw [hds] at hcon
    refine hcon.mono fun e w' ⟨he, d', m, os, hp, hs, hw⟩ => ⟨d'.toList, ?_, he, ?_⟩
    ·
     obtain ⟨p1, _, p3⟩ := hp
     refine ⟨?_, fun i j hij hj => ?_⟩
     ·
      have e1 : d'.extract 0 l = d' := by rw [← hds, ← p1]; simp
      have e2 : d.extract 0 l = d := by rw [← hds]; simp
      rw [e1, e2] at p3
      rw [hd] at p3
      exact p3
     ·
      have hj' : j < l := by rw [← hds, ← p1]; simpa using hj
      have := hs i j (Nat.zero_le _) hij hj'
      rw [bang_at, bang_at] at this
      exact this
    ·
     subst hw
     have p1 : d'.size = d.size := hp.1
     obtain ⟨r1, r2⟩ := sorted_row (n := m) (os := os) encE_size encE_one p1 hrow2
     refine Turn.upd hM rfl rfl rfl (Nat.le_add_right _ _) ?_ (fun j hj hne => r2 j hj fun e => hne (by rw [e]; rfl)) ?_ (fun k hk => .inr hk) fun k hk => hk
     ·
      show w.heap.size ≤ (w.heap.modify b _ ++ os).size
      simp
     ·
      show RowHolds _ b T 106 l (fun i => encE (d'.toList.getD i default)) cap'
      rw [hds] at r1
      exact RowHolds.weaken r1 (Nat.le_refl _) fun i _ => by rw [bang_at]
  ·
   cases h0
 ·
  cases h0
theorem sort_body : HasBody Tryz.prog 97 := ⟨_, Tryz.func97, rfl, by decide⟩
def verE (K B0 : List Int) (s : StV) (l : List PstV) (mb : Nat → List Int) (pun : List (Int × Int)) (recs : List (Int × ByteArray)) (x : Vote × Vote) : Int := verR s l mb pun (pairP x.1 x.2) x.1 x.2 (sealedP K B0 s.nm recs x.1) (sealedP K B0 s.nm recs x.2)
def letE (V : Vote × Vote → Int) (pl : List PEv) : List (Vote × Vote) := (pl.map (·.e)).filter fun x => V x == 0
def pickC (tag : Nat) (args : List AV) (M : MemF) : Option Res := match args, M 100003, M 100004 with
 | [.ptr p, S, .ptr q], some (.var 3 (.ints .u32 8 B0)), some (.var 4 (.ints .u32 64 K)) => match decS S, regOf M q with
  | some s, some (c, br, ents, recs, _) => match mpOf M p, pstV M s.a3 s.n3, comeIn M 90002 2 off1 offX s.a4 s.n4, M 90003 with
   | some (c0, n, bm, pl, clk), some (c1, l), some (c2, pun), some (.vro es3 base3 len3 f3) => some ⟨(Nat → Prop) × List (Vote × Vote) × Option Nat × Nat, (c0 ∧ p.n ≠ q.n ∧ n ≠ q.n) ∧ c ∧ (c1 ∧ c2 ∧ ∀ k, k < l.length → (mbK M (l.getD k default)).1) ∧ (∀ x, x ∈ pl → VR x.e.1 ∧ VR x.e.2) ∧ pl.length ≤ 65536,
     fun z => SortedE (letE (verE K B0 s l (fun k => (mbK M (l.getD k default)).2.map (·.1)) pun recs) pl) z.2.1, fun z => .gs tag 0 (ownB z.2.2.1) 106 0 (Nat.min z.2.1.length 16) (Nat.min z.2.1.length 16), [q.n, tag], fun z => [regB br ents recs z.1, .vrow z.2.2.1 52 106 z.2.1.length (fun i => encE (z.2.1.getD i default)) z.2.2.2]⟩
   | _, _, _, _ => none
  | _, _ => none
 | _, _, _ => none
def ctPk : CtL := [(96, pgoodC), (47, madeC)]
theorem ctPk_ok : CtLOk Tryz.prog ctPk := ⟨.fn pgood_body pgood_read, .fn made_body made_read, trivial⟩
def crPk : CrL := [(12, verC), (97, sortC)]
theorem crPk_ok : CrLOk Tryz.prog crPk := ⟨⟨ver_body, ver_turn⟩, ⟨sort_body, sort_turn⟩, trivial⟩
theorem mp_keep {w : World} {b : Nat} {l : List (AV × AV × Nat)} {clk : Nat} (h : (Blk.mp true b l clk).holds w) : (Blk.mp false b l clk).holds w := h
theorem fapp_E {L : List (Vote × Vote)} {e : Vote × Vote} {f src : Nat → AV} (hf : ∀ i, i < L.length → f i = encE (L.getD i default)) (hs : src 0 = encE e) : ∀ i, i < (L ++ [e]).length → encE ((L ++ [e]).getD i default) = fapp L.length f src i := by
 intro i hi
 rw [List.length_append] at hi
 rcases Nat.lt_or_ge i L.length with h | h
 ·
  rw [fapp_lt h, hf i h, List.getD_eq_getElem?_getD, List.getD_eq_getElem?_getD, List.getElem?_append_left h]
 ·
  have e1 : i = L.length := by simp at hi; omega
  rw [fapp_ge h, e1, Nat.sub_self, hs, List.getD_eq_getElem?_getD, List.getElem?_append_right (Nat.le_refl _), Nat.sub_self]; rfl
theorem range_dec (l : List (Vote × Vote)) : ((List.range l.length).map fun i => decE (encE (l.getD i default))) = l := by
 apply List.ext_getElem?
 intro i
 rw [List.getElem?_map]
 rcases Nat.lt_or_ge i l.length with h | h
 ·
  rw [List.getElem?_range h, List.getElem?_eq_getElem h, Option.map_some, List.getD_eq_getElem?_getD, List.getElem?_eq_getElem h]; rfl
 ·
  rw [List.getElem?_eq_none (by simpa using h), List.getElem?_eq_none h]; rfl
section
attribute [local irreducible] verR sealedP pairP
theorem pick_turn : TurnFn Tryz.prog 29 pickC := by
 intro tag args M r h0 hok O w0 w hS
 unfold pickC at h0
 split at h0
 ·
  rename_i p S q B0 K hM3 hM4
  split at h0
  ·
   rename_i s c br ents recs Sr hs hq
   have hs := decS_enc hs
   subst hs
   split at h0
   ·
    rename_i c0 n bm pl clk c1 l c2 pun es3 base3 len3 f3 hmp hpst hpun hM90003
    cases h0
    obtain ⟨⟨hc0, hn2, hn3⟩, hc, ⟨hc1, hc2, hmb⟩, hvr, hpl⟩ := hok
    obtain ⟨hM, hv⟩ := regOf_spec hq hc
    obtain ⟨hMp, ⟨cp, Xp, hpp, hcp⟩, hrow⟩ := mpOf_spec hS hmp hc0
    have hst := mp_stamps (hS.holds _ _ hMp)
    have hrow : (roB (some (p.b, p.cell)) 1 1 fun _ => .agg (.cons (.mp 903 bm) .nil)).holds w := hrow
    obtain ⟨es1, base1, len1, f1, hM1, _⟩ := comeIn_entry hpst
    obtain ⟨es2, base2, len2, f2, hM2, _⟩ := comeIn_entry hpun
    have hap : ∀ {k : Nat} {B : Blk}, M k = some B → ∀ j, B.reads j → ¬ (regB br ents recs Sr).own j := fun hk j hr ho => hS.roapart _ _ _ _ _ hM hk ho hr
    rw [show [.ptr p, encS s, .ptr q].map AV.val = [roP 902 p.b p.cell 1, encS s, .ptr ⟨900, 0, br, 0, 5, 0, 0, 0, false⟩].map AV.val by simp only [List.map_cons, List.map_nil, hv 900, pt_ro p 902 1]]
    refine turn_oneN tabs2 ctPk_ok crPk_ok Tryz.func29 rfl rfl hS _ hM [(902, roB (some (p.b, p.cell)) 1 1 fun _ => .agg (.cons (.mp 903 bm) .nil)), (903, .mp false bm (pl.map encP) clk), (90001, .vro es1 base1 len1 f1), (90002, .vro es2 base2 len2 f2), (90003, .vro es3 base3 len3 f3), (100003, .var 3 (.ints .u32 8 B0)), (100004, .var 4 (.ints .u32 64 K))] [tag] [36] rfl (by decide) rfl rfl (hS.holds _ _ hM) (fun _ h => h) (fun _ h => h) ⟨hrow, mp_keep (hS.holds _ _ hMp), hS.holds _ _ hM1, hS.holds _ _ hM2, hS.holds _ _ hM90003, hS.holds _ _ hM3, hS.holds _ _ hM4, trivial⟩ ⟨roB_noOwn, fun _ h => h, fun _ h => h, fun _ h => h, fun _ h => h, fun _ h => h, fun _ h => h, trivial⟩ ⟨ptr_apart hS hpp hcp (by decide) hM hn2, fun j hr ho => hn3 (hS.apart _ _ _ _ j hMp hM hr ho), hap hM1, hap hM2, hap hM90003, hap hM3, hap hM4, trivial⟩ ?_
    obtain ⟨V, hV⟩ : ∃ V, V = verE K B0 s l (fun k => (mbK M (l.getD k default)).2.map (·.1)) pun recs := ⟨_, rfl⟩
    rw [← hV]
    unfold pstV comeIn at hpst
    rw [hM1] at hpst
    unfold comeIn at hpun
    rw [hM2] at hpun
    cases hpst
    cases hpun
    simp only [mbK, comeIn, hM90003] at hmb hV
    repeat (first | refine qs_ ?_ | refine qa_ ?_ | refine qo_ ?_ | refine qd_ ?_ | refine za ?_ | refine zb fun _ _ => ?_ | refine zc ?_ | refine ya ?_ | refine yb fun _ _ => ?_ | refine yc ?_ | refine qk_ ?_ | refine qb_ ?_ | refine qx_ ?_)
    refine s_cond (b := false) rfl (fun hb => by cases hb) (fun _ => ?_)
    repeat (first | refine qs_ ?_ | refine qa_ ?_ | refine qo_ ?_ | refine qd_ ?_ | refine za ?_ | refine zb fun _ _ => ?_ | refine zc ?_ | refine ya ?_ | refine yb fun _ _ => ?_ | refine yc ?_ | refine qk_ ?_ | refine qb_ ?_ | refine qx_ ?_)
    refine o_range rfl rfl rfl rfl rfl rfl rfl rfl rfl (fun z => ?_)
    repeat (first | refine qs_ ?_ | refine qa_ ?_ | refine qo_ ?_ | refine qd_ ?_ | refine za ?_ | refine zb fun _ _ => ?_ | refine zc ?_ | refine ya ?_ | refine yb fun _ _ => ?_ | refine yc ?_ | refine qk_ ?_ | refine qb_ ?_ | refine qx_ ?_)
    refine s_le (le_nil (t := 7) (n := 36) 52 106 (fun i => encE (([] : List (Vote × Vote)).getD i default)) rfl rfl) ?_
    refine s_loopW (α := List PEv × List PEv × (Nat → Prop) × Option Nat × Nat) [7, 9, 24, 25, 26, 27, 28, 29, 30, 31, 32, 33, 34, 35, 36] [36, 23, 900] (fun x => (x.1 ++ x.2.1).Perm pl ∧ (letE V x.1).length ≤ x.2.2.2.2) (fun x => [(7, none, .gs 36 0 (ownB x.2.2.2.1) 106 0 (letE V x.1).length x.2.2.2.2)]) (fun x => [(36, .vrow x.2.2.2.1 52 106 (letE V x.1).length (fun i => encE ((letE V x.1).getD i default)) x.2.2.2.2), (23, .it z (some bm) clk (x.1.map (·.st)) clk), (900, regB br ents recs x.2.2.1)]) (fun x => x.2.1.length) ([], pl, Sr, none, 0) ⟨List.Perm.refl _, Nat.le_refl _⟩ ?_ ?_
    ·
     exact leQ
    ·
     intro ⟨sl, rest, S', a, cap⟩ ⟨hperm, hcap⟩
     dsimp only at hperm hcap
     have hnd : ((sl ++ rest).map (·.st)).Nodup := ((hperm.map (·.st)).nodup_iff).2 (by have := hst.2; rw [List.map_map] at this; exact this)
     repeat (first | refine qs_ ?_ | refine qa_ ?_ | refine qo_ ?_ | refine qd_ ?_ | refine za ?_ | refine zb fun _ _ => ?_ | refine zc ?_ | refine ya ?_ | refine yb fun _ _ => ?_ | refine yc ?_ | refine qk_ ?_ | refine qb_ ?_ | refine qx_ ?_)
     refine o_next (ni := 23) (nm := 903) rfl rfl rfl rfl rfl rfl rfl rfl hst.1 (Nat.le_refl _) (fun hover => ?_) (fun p hp hns => ?_)
     ·
      repeat (first | refine qs_ ?_ | refine qa_ ?_ | refine qo_ ?_ | refine qd_ ?_ | refine za ?_ | refine zb fun _ _ => ?_ | refine zc ?_ | refine ya ?_ | refine yb fun _ _ => ?_ | refine yc ?_ | refine qk_ ?_ | refine qb_ ?_ | refine qx_ ?_)
      refine s_cond (b := false) rfl (fun hb => by cases hb) (fun _ => ?_)
      have hrest : rest = [] := by
       cases rest with
       | nil => rfl
       | cons q r =>
        exfalso
        have h1 : q ∈ pl := hperm.mem_iff.1 (List.mem_append_right sl (.head _))
        have h2 : q.st ∈ sl.map (·.st) := hover (encP q) (List.mem_map_of_mem h1)
        rw [List.map_append, List.map_cons, List.nodup_append] at hnd
        exact hnd.2.2 _ h2 _ (.head _) rfl
      rw [hrest, List.append_nil] at hperm
      have hlp : (letE V sl).Perm (letE V pl) := (hperm.map _).filter _
      have hlen : (letE V sl).length ≤ 65536 := by
       rw [hlp.length_eq]
       unfold letE
       exact Nat.le_trans (List.length_filter_le _ _) (by rw [List.length_map]; exact hpl)
      obtain ⟨L0, hL0⟩ := sortedE_some ((List.range (letE V sl).length).map fun i => decE (encE ((letE V sl).getD i default)))
      repeat (first | refine qs_ ?_ | refine qa_ ?_ | refine qo_ ?_ | refine qd_ ?_ | refine za ?_ | refine zb fun _ _ => ?_ | refine zc ?_ | refine ya ?_ | refine yb fun _ _ => ?_ | refine yc ?_ | refine qk_ ?_ | refine qb_ ?_ | refine qx_ ?_)
      refine oB (t := 36) rfl rfl rfl (fun L hL => ?_) ⟨L0, hL0⟩ ⟨by (repeat' apply And.intro) <;> trivial, rfl, rfl, rfl, rfl, rfl, rfl, (show (letE V sl).length < 4611686018427387904 by omega), fun _ _ => rfl⟩
      have hL : SortedE (letE V sl) L := by rw [← range_dec (letE V sl)]; exact hL
      have hLl : (letE V sl).length = L.length := hL.1.length_eq.symm
      rw [hLl]
      repeat (first | refine qs_ ?_ | refine qa_ ?_ | refine qo_ ?_ | refine qd_ ?_ | refine za ?_ | refine zb fun _ _ => ?_ | refine zc ?_ | refine ya ?_ | refine yb fun _ _ => ?_ | refine yc ?_ | refine qk_ ?_ | refine qb_ ?_ | refine qx_ ?_)
      refine o_min rfl rfl rfl rfl rfl rfl ?_
      repeat (first | refine qs_ ?_ | refine qa_ ?_ | refine qo_ ?_ | refine qd_ ?_ | refine za ?_ | refine zb fun _ _ => ?_ | refine zc ?_ | refine ya ?_ | refine yb fun _ _ => ?_ | refine yc ?_ | refine qk_ ?_ | refine qb_ ?_ | refine qx_ ?_)
      refine s_ret ?_
      refine ⟨_, _, rfl, ⟨trivial, trivial⟩, rfl, (S', L, a, cap), ⟨hL.1.trans hlp, hL.2⟩, ?_, ⟨⟨_, rfl, Blk.le_refl _⟩, fun _ h => h⟩, ⟨⟨_, rfl, Blk.le_refl _⟩, fun _ h => h⟩, trivial⟩
      have hm : (if (16 : Int) < (L.length : Int) then (16 : Int) else (L.length : Int)).toNat = Nat.min L.length 16 := by
       show _ = min L.length 16
       split <;> omega
      show (AV.gs 36 0 (ownB a) 106 (0 + 0) ((if (16 : Int) < (L.length : Int) then (16 : Int) else (L.length : Int)).toNat - 0) ((if (16 : Int) < (L.length : Int) then (16 : Int) else (L.length : Int)).toNat - 0)).val = (AV.gs tag 0 (ownB a) 106 0 (Nat.min L.length 16) (Nat.min L.length 16)).val
      rw [hm]
      rfl
     ·
      obtain ⟨q1, hq1, rfl⟩ := List.mem_map.1 hp
      have hq2 : q1 ∈ rest := by
       rcases List.mem_append.1 (hperm.mem_iff.2 hq1) with h | h
       ·
        exact absurd (List.mem_map_of_mem (f := (·.st)) h) hns
       ·
        exact h
      obtain ⟨r1, r2, rfl⟩ := List.append_of_mem hq2
      obtain ⟨hv1, hv2⟩ := hvr q1 hq1
      have hperm2 : ((sl ++ [q1]) ++ (r1 ++ r2)).Perm pl := by
       refine List.Perm.trans ?_ hperm
       rw [List.append_assoc]
       refine List.Perm.append_left sl ?_
       show (q1 :: (r1 ++ r2)).Perm (r1 ++ q1 :: r2)
       exact List.perm_middle.symm
      repeat (first | refine qs_ ?_ | refine qa_ ?_ | refine qo_ ?_ | refine qd_ ?_ | refine za ?_ | refine zb fun _ _ => ?_ | refine zc ?_ | refine ya ?_ | refine yb fun _ _ => ?_ | refine yc ?_ | refine qk_ ?_ | refine qb_ ?_ | refine qx_ ?_)
      refine s_cond (b := true) rfl (fun _ => ?_) (fun hb => by cases hb)
      repeat (first | refine qs_ ?_ | refine qa_ ?_ | refine qo_ ?_ | refine qd_ ?_ | refine za ?_ | refine zb fun _ _ => ?_ | refine zc ?_ | refine ya ?_ | refine yb fun _ _ => ?_ | refine yc ?_ | refine qk_ ?_ | refine qb_ ?_ | refine qx_ ?_)
      refine o_entry (ni := 23) (nm := 903) (encP q1) rfl rfl rfl rfl rfl rfl rfl hp ?_
      repeat ((fail_if_success (first | refine o_at 12 ?_ | refine d_at 12 ?_)); (first | refine qs_ ?_ | refine qa_ ?_ | refine qo_ ?_ | refine qd_ ?_ | refine za ?_ | refine zb fun _ _ => ?_ | refine zc ?_ | refine ya ?_ | refine yb fun _ _ => ?_ | refine yc ?_ | refine qk_ ?_ | refine qb_ ?_ | refine qx_ ?_))
      refine oB rfl rfl rfl (fun z2 _ => ?_) ⟨fun _ => False, trivial⟩ ⟨by (repeat' apply And.intro) <;> trivial, ⟨rfl, rfl, rfl, rfl, rfl, rfl, rfl⟩, ⟨hc1, hc2, hmb⟩, hv1, hv2⟩
      refine o_le (le_val (t := 31) (av' := .v (.int .i64 (V q1.e))) rfl ?hv) ?_
      case hv => rw [hV]; rfl
      repeat (first | refine qs_ ?_ | refine qa_ ?_ | refine qo_ ?_ | refine qd_ ?_ | refine za ?_ | refine zb fun _ _ => ?_ | refine zc ?_ | refine ya ?_ | refine yb fun _ _ => ?_ | refine yc ?_ | refine qk_ ?_ | refine qb_ ?_ | refine qx_ ?_)
      refine s_cond (b := (V q1.e == 0)) rfl (fun hE => ?_) (fun hE => ?_)
      ·
       have hlet : letE V (sl ++ [q1]) = letE V sl ++ [q1.e] := by unfold letE; rw [List.map_append, List.filter_append]; congr 1; exact List.filter_cons_of_pos hE
       have hlen : (letE V sl).length ≤ 65536 := by
        have h1 : (letE V sl).length ≤ sl.length := by unfold letE; exact Nat.le_trans (List.length_filter_le _ _) (by rw [List.length_map]; exact Nat.le_refl _)
        have h2 := hperm.length_eq
        rw [List.length_append] at h2
        omega
       repeat (first | refine qs_ ?_ | refine qa_ ?_ | refine qo_ ?_ | refine qd_ ?_ | refine za ?_ | refine zb fun _ _ => ?_ | refine zc ?_ | refine ya ?_ | refine yb fun _ _ => ?_ | refine yc ?_ | refine qk_ ?_ | refine qb_ ?_ | refine qx_ ?_)
       rename_i _ _ y hy
       refine ⟨(sl ++ [q1], r1 ++ r2, z2, y.1, y.2), ⟨hperm2, by dsimp only; rw [hlet, List.length_append]; exact hy⟩, by dsimp only; rw [List.length_append, List.length_append, List.length_cons]; omega, ?_⟩
       dsimp only
       rw [hlet, List.map_append]
       refine Le.of ?leT ?leM (dfs_nil rfl rfl)
       case leT => (refine And.intro (gs_len (by rw [List.length_append]; rfl)) ?_); repeat (first | exact trivial | refine And.intro (by exact rfl) ?_)
       case leM => (refine And.intro ⟨_, rfl, Blk.le_vrow (by rw [List.length_append]; exact Nat.le_refl _) (fapp_E (fun _ _ => rfl) rfl)⟩ ?_); repeat (first | exact trivial | refine And.intro ⟨_, rfl, Blk.le_refl _⟩ ?_)
      ·
       have hlet : letE V (sl ++ [q1]) = letE V sl := by unfold letE; rw [List.map_append, List.filter_append, show [q1].map (·.e) = [q1.e] from rfl, List.filter_cons_of_neg (by rw [hE]; decide)]; exact List.append_nil _
       repeat (first | refine qs_ ?_ | refine qa_ ?_ | refine qo_ ?_ | refine qd_ ?_ | refine za ?_ | refine zb fun _ _ => ?_ | refine zc ?_ | refine ya ?_ | refine yb fun _ _ => ?_ | refine yc ?_ | refine qk_ ?_ | refine qb_ ?_ | refine qx_ ?_)
       refine ⟨(sl ++ [q1], r1 ++ r2, z2, a, cap), ⟨hperm2, by dsimp only; rw [hlet]; exact hcap⟩, by dsimp only; rw [List.length_append, List.length_append, List.length_cons]; omega, ?_⟩
       dsimp only
       rw [hlet, List.map_append]
       exact leQ
   ·
    cases h0
  ·
   cases h0
 ·
  cases h0
theorem pick_body : HasBody Tryz.prog 29 := ⟨_, Tryz.func29, rfl, by decide⟩
end
end Go.Proofs.YtofophjfgalhaaaGreatDoor.V
