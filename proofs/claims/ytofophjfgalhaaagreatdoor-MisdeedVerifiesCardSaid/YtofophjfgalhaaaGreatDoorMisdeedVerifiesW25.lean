import Derived.Test.YtofophjfgalhaaaGreatDoorMisdeedVerifiesW11
import Derived.Test.YtofophjfgalhaaaGreatDoorMisdeedVerifiesW24
set_option linter.unusedVariables false
set_option linter.unusedSimpArgs false
/-! The program's book of seals: what its entry says; its parts. -/
namespace Go.Proofs.YtofophjfgalhaaaGreatDoor.V
open Go Go.RowKit

/-! ### searches -/
section
variable {tb : Tbl} {eqs : List TypeId} {kt : TypeId} {K : AV}
theorem mfind_miss : ∀ {l : List (AV × AV × Nat)} {i : Nat}, (∀ p ∈ l, eqT tb eqs 64 kt K p.1 = some false) → mfind tb eqs kt K l i = some none
  | [], _, _ => rfl
  | (k, v, b) :: r, i, h => by
    simp only [mfind]
    rw [h (k, v, b) (.head _)]
    exact mfind_miss fun p hp => h p (.tail _ hp)
theorem mfind_hit : ∀ {l : List (AV × AV × Nat)} {i j : Nat} {p : AV × AV × Nat}, l[j]? = some p → eqT tb eqs 64 kt K p.1 = some true → (∀ j', j' < j → ∀ q, l[j']? = some q → eqT tb eqs 64 kt K q.1 = some false) → mfind tb eqs kt K l i = some (some (i + j, p.2.1))
  | [], _, _, _, h, _, _ => by simp at h
  | (k, v, b) :: r, i, j, p, h, h1, h2 => by
    simp only [mfind]
    cases j with
    | zero =>
      rw [List.getElem?_cons_zero] at h
      cases h
      rw [h1]; rfl
    | succ j =>
      rw [h2 0 (by omega) _ (List.getElem?_cons_zero)]
      rw [List.getElem?_cons_succ] at h
      have := mfind_hit (i := i + 1) h h1 fun j' hj q hq => h2 (j' + 1) (by omega) q (by rw [List.getElem?_cons_succ]; exact hq)
      rw [show i + (j + 1) = i + 1 + j by omega]
      exact this
end
set_option maxRecDepth 100000 in
theorem eq_u64 (a b : Int) : eqT tabs2.tb tabs2.eqs 64 39 (.v (.int .u64 a)) (.v (.int .u64 b)) = some (a == b) := rfl
def recK (r : Int × ByteArray) : AV := .agg (.cons (.v (.int .u64 r.1)) (.cons (.v (.string r.2)) .nil))
set_option maxRecDepth 100000 in
theorem eq_rec (r s : Int × ByteArray) : eqT tabs2.tb tabs2.eqs 64 237 (recK r) (recK s) = some ((r.1 == s.1) && ((r.2.toList == s.2.toList) && true)) := rfl
theorem recK_same (r : Int × ByteArray) : eqT tabs2.tb tabs2.eqs 64 237 (recK r) (recK r) = some true := by
  rw [eq_rec]; simp
theorem recK_diff {r s : Int × ByteArray} (h : r ≠ s) : eqT tabs2.tb tabs2.eqs 64 237 (recK r) (recK s) = some false := by
  rw [eq_rec]
  by_cases h1 : r.1 = s.1
  · by_cases h2 : r.2.toList = s.2.toList
    · exact absurd (Prod.ext h1 (bytes_toList h2)) h
    · simp [h2]
  · simp [h1]

/-! ### the book -/
def regAV (mu : Int) (bS bR bG : Nat) : AV := .agg (.cons (.agg (.cons (.agg .nil) (.cons (.agg (.cons (.v (.int .i32 mu)) (.cons (.v (.int .u32 0)) .nil))) .nil))) (.cons (.mp 901 bS) (.cons (.mp 902 bR) (.cons (.mp 903 bG) .nil))))
def sigP (k : Nat) : AV := .ptr ⟨904, 0, k, 0, 2, 0, 0, 0, false⟩
def sigAV (b : Nat) (a : Int) : AV := .agg (.cons (.ptr ⟨900, 0, b, 0, 5, 0, 0, 0, false⟩) (.cons (.v (.int .u64 a)) .nil))
/-- what an address has signed, in order -/
def sgOf (recs : List (Int × ByteArray)) (a : Int) : List ByteArray := (recs.filter fun r => r.1 == a).map (·.2)
structure Grp where
  a : Int
  blk : Nat
  cap : Nat
def kv (l : List (AV × AV × Nat)) : List (AV × AV) := l.map fun p => (p.1, p.2.1)
structure RegF (H : Frag) (b : Nat) (ents : List (Int × Nat)) (recs : List (Int × ByteArray)) (bS bR bG : Nat) (gr : List Grp) (lS lR lG : List (AV × AV × Nat)) (cS cR cG : Nat) : Prop where
  row : FRow H b 74 5 1 (fun _ => regAV 0 bS bR bG) 1
  sg : FMap H bS lS cS
  sgv : kv lS = ents.map fun e => (.v (.int .u64 e.1), sigP e.2)
  rc : FMap H bR lR cR
  rcv : kv lR = recs.map fun r => (recK r, .agg .nil)
  gp : FMap H bG lG cG
  gpv : kv lG = gr.map fun g => (.v (.int .u64 g.a), .gs 905 0 (some (g.blk, 0)) 1 0 (sgOf recs g.a).length g.cap)
  sig : ∀ e ∈ ents, FRow H e.2 222 2 1 (fun _ => sigAV b e.1) 1
  grp : ∀ g ∈ gr, FRow H g.blk 9 1 (sgOf recs g.a).length (fun i => .v (.string ((sgOf recs g.a).getD i ⟨#[]⟩))) g.cap
  all : ∀ r ∈ recs, ∃ g ∈ gr, g.a = r.1
  nda : (gr.map (·.a)).Nodup
  nde : (ents.map (·.1)).Nodup
  ndr : recs.Nodup
  ndb : (b :: bS :: bR :: bG :: (ents.map (·.2) ++ gr.map (·.blk))).Nodup
def IsReg (b : Nat) (ents : List (Int × Nat)) (recs : List (Int × ByteArray)) (H : Frag) : Prop := ∃ bS bR bG gr lS lR lG cS cR cG, RegF H b ents recs bS bR bG gr lS lR lG cS cR cG
def regB (b : Nat) (ents : List (Int × Nat)) (recs : List (Int × ByteArray)) (S : Nat → Prop) : Blk := frB (.reg b ents recs) S (IsReg b ents recs)
/-- the pointer to a book that New made -/
def regOf (M : MemF) (p : Pt) : Option (Prop × Nat × List (Int × Nat) × List (Int × ByteArray) × (Nat → Prop)) := match M p.n with
  | some (.sep (.reg b ents recs) S φ) => some (Blk.sep (.reg b ents recs) S φ = regB b ents recs S ∧ (p.b = b ∧ p.o0 = 0 ∧ p.es = 5 ∧ p.idx = 0 ∧ p.off = 0 ∧ p.j = 0), b, ents, recs, S)
  | _ => none
theorem regOf_spec {M : MemF} {p : Pt} {c : Prop} {b : Nat} {ents : List (Int × Nat)} {recs : List (Int × ByteArray)} {S : Nat → Prop} (h : regOf M p = some (c, b, ents, recs, S)) (hc : c) : M p.n = some (regB b ents recs S) ∧ ∀ n, (AV.ptr p).val = (AV.ptr ⟨n, 0, b, 0, 5, 0, 0, 0, false⟩).val := by
  unfold regOf at h
  split at h
  · rename_i b' e' r' S' φ hM
    cases h
    obtain ⟨h1, h2, h3, h4, h5, h6, h7⟩ := hc
    refine ⟨by rw [hM, h1], fun n => ?_⟩
    rw [ptr_val, ptr_val]
    unfold Pt.cell
    simp only [h2, h3, h5, h6, h7]
    simp
  · cases h

/-! ### missing -/
def missC (args : List AV) (M : MemF) : Option (Prop × AV) := match args with
  | [.v (.pointer none)] => some (True, .v (.bool true))
  | [.ptr p] => match regOf M p with
    | some (c, _, _, _, _) => some (c, .v (.bool false))
    | none => match ptrOf M p true 5 with
      | some (c, .agg (.cons (.agg (.cons (.agg .nil) (.cons (.agg (.cons (.v (.int .i32 _)) (.cons (.v (.int .u32 _)) .nil))) .nil))) (.cons (.v (.map none)) (.cons (.v (.map none)) (.cons (.v (.map none)) .nil))))) => some (c, .v (.bool true))
      | some (c, .agg (.cons (.agg (.cons (.agg .nil) (.cons (.agg (.cons (.v (.int .i32 _)) (.cons (.v (.int .u32 _)) .nil))) .nil))) (.cons (.mp _ _) (.cons (.mp _ _) (.cons (.mp _ _) .nil))))) => some (c, .v (.bool false))
      | _ => none
  | _ => none
def zrAV (x : Int) (y : Int) : AV := .agg (.cons (.agg (.cons (.agg .nil) (.cons (.agg (.cons (.v (.int .i32 x)) (.cons (.v (.int .u32 y)) .nil))) .nil))) (.cons (.v (.map none)) (.cons (.v (.map none)) (.cons (.v (.map none)) .nil))))
def mdAV (x : Int) (y : Int) (t1 b1 t2 b2 t3 b3 : Nat) : AV := .agg (.cons (.agg (.cons (.agg .nil) (.cons (.agg (.cons (.v (.int .i32 x)) (.cons (.v (.int .u32 y)) .nil))) .nil))) (.cons (.mp t1 b1) (.cons (.mp t2 b2) (.cons (.mp t3 b3) .nil))))
theorem miss_open {O : Nat → Prop} {w0 w : World} {M : MemF} {P v : AV} {c : Prop} (hS : Sat O w0 M w) (h : missC [P] M = some (c, v)) (hc : c) :
    (P = .v (.pointer none) ∧ v = .v (.bool true)) ∨ ∃ b i X, P.val = (roP 900 b i 5).val ∧ Reads w b i 5 1 (fun _ => X) ∧ ((∃ x y, X = zrAV x y ∧ v = .v (.bool true)) ∨ ∃ x y t1 b1 t2 b2 t3 b3, X = mdAV x y t1 b1 t2 b2 t3 b3 ∧ v = .v (.bool false)) := by
  unfold missC at h
  split at h
  · rename_i he
    cases he
    cases h
    exact .inl ⟨rfl, rfl⟩
  · rename_i p he
    cases he
    refine .inr ?_
    split at h
    · rename_i c b ents recs S hp
      cases h
      obtain ⟨hM, hv⟩ := regOf_spec hp hc
      obtain ⟨H, _, ⟨bS, bR, bG, gr, lS, lR, lG, cS, cR, cG, hF⟩, h3⟩ := frB_open (hS.holds _ _ hM)
      have hR := hF.row.on h3
      exact ⟨b, 0, regAV 0 bS bR bG, (hv 900).trans rfl, hR.reads, .inr ⟨0, 0, 901, bS, 902, bR, 903, bG, rfl, rfl⟩⟩
    · split at h
      · rename_i c x y hp
        cases h
        exact ⟨_, _, _, pt_ro p 900 5, ptrOf_spec (g := true) hS hp hc, .inl ⟨x, y, rfl, rfl⟩⟩
      · rename_i c x y t1 b1 t2 b2 t3 b3 hp
        cases h
        exact ⟨_, _, _, pt_ro p 900 5, ptrOf_spec (g := true) hS hp hc, .inr ⟨x, y, t1, b1, t2, b2, t3, b3, rfl, rfl⟩⟩
      · cases h
  · cases h
set_option maxRecDepth 100000 in
theorem miss_read : ReadFn Tryz.prog 67 missC := by
  intro args M q res h hq O w0 w hS
  have hargs : ∃ P, args = [P] := by
    unfold missC at h
    split at h
    · exact ⟨_, rfl⟩
    · exact ⟨_, rfl⟩
    · cases h
  obtain ⟨P, rfl⟩ := hargs
  rcases miss_open hS h hq with ⟨rfl, rfl⟩ | ⟨b, i, X, hv, hR, ⟨x, y, rfl, rfl⟩ | ⟨x, y, t1, b1, t2, b2, t3, b3, rfl, rfl⟩⟩
  · refine ro_fn tabs2 (ct := []) trivial (cr := []) trivial Tryz.func67 rfl rfl (M := []) rfl trivial trivial ?_
    repeat (first | refine s_seq ?_ | refine s_region ?_ | refine o_nil ?_ | refine d_nil ?_ | refine oA rfl rfl trivial ?_ | refine oB rfl rfl rfl (fun _ _ => ?_) | refine oC rfl rfl rfl trivial ?_ | refine dA rfl rfl trivial ?_ | refine dB rfl rfl rfl (fun _ _ => ?_) | refine dC rfl rfl rfl trivial ?_ | refine s_skip ?_ | refine s_block ?_ | refine s_exit ?_ | refine s_label ?_)
    refine s_ret ?_
    exact ⟨_, _, rfl, ⟨trivial, trivial⟩, rfl, rfl⟩
  · rw [show [P].map AV.val = [roP 900 b i 5].map AV.val by simp only [List.map_cons, List.map_nil, hv]]
    refine ro_fn tabs2 (ct := []) trivial (cr := []) trivial Tryz.func67 rfl rfl (M := [(900, roB (some (b, i)) 5 1 fun _ => zrAV x y)]) rfl ⟨roB_noOwn, trivial⟩ ⟨roB_holds fun _ => ⟨b, i, rfl, hR⟩, trivial⟩ ?_
    repeat (first | refine s_seq ?_ | refine s_region ?_ | refine o_nil ?_ | refine d_nil ?_ | refine oA rfl rfl trivial ?_ | refine oB rfl rfl rfl (fun _ _ => ?_) | refine oC rfl rfl rfl trivial ?_ | refine dA rfl rfl trivial ?_ | refine dB rfl rfl rfl (fun _ _ => ?_) | refine dC rfl rfl rfl trivial ?_ | refine s_skip ?_ | refine s_block ?_ | refine s_exit ?_ | refine s_label ?_)
    refine s_ret ?_
    exact ⟨_, _, rfl, ⟨trivial, trivial⟩, rfl, rfl⟩
  · rw [show [P].map AV.val = [roP 900 b i 5].map AV.val by simp only [List.map_cons, List.map_nil, hv]]
    refine ro_fn tabs2 (ct := []) trivial (cr := []) trivial Tryz.func67 rfl rfl (M := [(900, roB (some (b, i)) 5 1 fun _ => mdAV x y t1 b1 t2 b2 t3 b3)]) rfl ⟨roB_noOwn, trivial⟩ ⟨roB_holds fun _ => ⟨b, i, rfl, hR⟩, trivial⟩ ?_
    repeat (first | refine s_seq ?_ | refine s_region ?_ | refine o_nil ?_ | refine d_nil ?_ | refine oA rfl rfl trivial ?_ | refine oB rfl rfl rfl (fun _ _ => ?_) | refine oC rfl rfl rfl trivial ?_ | refine dA rfl rfl trivial ?_ | refine dB rfl rfl rfl (fun _ _ => ?_) | refine dC rfl rfl rfl trivial ?_ | refine s_skip ?_ | refine s_block ?_ | refine s_exit ?_ | refine s_label ?_)
    refine s_ret ?_
    exact ⟨_, _, rfl, ⟨trivial, trivial⟩, rfl, rfl⟩
set_option maxRecDepth 100000 in
theorem miss_body : HasBody Tryz.prog 67 := ⟨_, Tryz.func67, rfl, by decide⟩

/-! ### New -/
theorem nodup4 {a b c d : Nat} {l : List Nat} (h : (a :: b :: c :: d :: l).Nodup) : a ≠ b ∧ a ≠ c ∧ a ≠ d ∧ b ≠ c ∧ b ≠ d ∧ c ≠ d ∧ a ∉ l ∧ b ∉ l ∧ c ∉ l ∧ d ∉ l ∧ l.Nodup := by
  simp only [List.nodup_cons, List.mem_cons, not_or] at h
  obtain ⟨⟨h1, h2, h3, h4⟩, ⟨h5, h6, h7⟩, ⟨h8, h9⟩, h10, h11⟩ := h
  exact ⟨h1, h2, h3, h5, h6, h8, h4, h7, h9, h10, h11⟩
def newRC (tag : Nat) (args : List AV) (_M : MemF) : Option Res := match args with
  | [] => some ⟨Nat × (Nat → Prop), True, fun _ => True, fun x => .ptr ⟨tag, 0, x.1, 0, 5, 0, 0, 0, false⟩, [tag], fun x => [regB x.1 [] [] x.2]⟩
  | _ => none
theorem reg_new {w : World} {b bS bR bG : Nat} (hh : ∀ B ∈ ([.row b 74 5 1 (fun _ => regAV 0 bS bR bG) 1, .mp true bS [] 0, .mp true bR [] 0, .mp true bG [] 0] : List Blk), B.holds w) (hp : ([.row b 74 5 1 (fun _ => regAV 0 bS bR bG) 1, .mp true bS [] 0, .mp true bR [] 0, .mp true bG [] 0] : List Blk).Pairwise fun B B' => ∀ k, B.own k → ¬ B'.own k) :
    IsReg b [] [] (restr w (ownU [.row b 74 5 1 (fun _ => regAV 0 bS bR bG) 1, .mp true bS [] 0, .mp true bR [] 0, .mp true bG [] 0])) := by
  refine ⟨bS, bR, bG, [], [], [], [], 0, 0, 0, closed_row (.head _) hh, closed_map (.tail _ (.head _)) hh, rfl, closed_map (.tail _ (.tail _ (.head _))) hh, rfl, closed_map (.tail _ (.tail _ (.tail _ (.head _)))) hh, rfl, fun _ h => (by cases h), fun _ h => (by cases h), fun _ h => (by cases h), .nil, .nil, .nil, ?_⟩
  simp only [List.pairwise_cons, List.mem_cons, List.not_mem_nil, or_false] at hp
  obtain ⟨h1, h2, h3, _⟩ := hp
  simp only [List.map_nil, List.append_nil, List.nodup_cons, List.mem_cons, List.not_mem_nil, or_false, not_or]
  have e1 := h1 _ (.inl rfl) b rfl
  have e2 := h1 _ (.inr (.inl rfl)) b rfl
  have e3 := h1 _ (.inr (.inr rfl)) b rfl
  have e4 := h2 _ (.inl rfl) bS rfl
  have e5 := h2 _ (.inr rfl) bS rfl
  have e6 := h3 _ rfl bR rfl
  exact ⟨⟨fun e => e1 e.symm, fun e => e2 e.symm, fun e => e3 e.symm⟩, ⟨fun e => e4 e.symm, fun e => e5 e.symm⟩, fun e => e6 e.symm, not_false, .nil⟩
set_option maxRecDepth 100000 in
set_option maxHeartbeats 4000000 in
theorem newR_turn : TurnFn Tryz.prog 27 newRC := by
  intro tag args M r h0 hok O w0 w hS
  unfold newRC at h0
  split at h0
  · cases h0
    refine turn_new tabs2 (ct := []) trivial (cr := []) trivial Tryz.func27 rfl rfl hS _ [] [5] rfl trivial trivial (by decide) rfl (s_post ?_)
    repeat (first | refine s_seq ?_ | refine s_region ?_ | refine o_nil ?_ | refine d_nil ?_ | refine oA rfl rfl trivial ?_ | refine oB rfl rfl rfl (fun _ _ => ?_) | refine oC rfl rfl rfl trivial ?_ | refine dA rfl rfl trivial ?_ | refine dB rfl rfl rfl (fun _ _ => ?_) | refine dC rfl rfl rfl trivial ?_ | refine s_skip ?_ | refine s_block ?_ | refine s_exit ?_ | refine s_label ?_)
    rename_i b1 _ b2 _ b3 _ b5 _
    refine s_ret ?_
    refine ⟨_, _, le_close (n := 5) (.reg b5 [] []) (IsReg b5 [] []) [5, 1, 2, 3] [.row b5 74 5 1 (fun _ => regAV 0 b1 b2 b3) 1, .mp true b1 [] 0, .mp true b2 [] 0, .mp true b3 [] 0] rfl (by decide) ⟨⟨⟨_, rfl, Blk.le_rowc (Nat.le_refl _) fun _ _ => ⟨rfl, rfl⟩⟩, fun _ h => h⟩, ⟨⟨_, rfl, Blk.le_refl _⟩, fun _ h => h⟩, ⟨⟨_, rfl, Blk.le_refl _⟩, fun _ h => h⟩, ⟨⟨_, rfl, Blk.le_refl _⟩, fun _ h => h⟩, trivial⟩ (fun w hh hp => reg_new hh hp), ?_⟩
    exact ⟨_, _, rfl, ⟨trivial, trivial⟩, rfl, (b5, _), trivial, rfl, ⟨⟨_, rfl, Blk.le_refl _⟩, fun _ h => h⟩, trivial⟩
  · cases h0
set_option maxRecDepth 100000 in
theorem newR_body : HasBody Tryz.prog 27 := ⟨_, Tryz.func27, rfl, by decide⟩

/-! ### Enter of nobody; made -/
def ent0C (args : List AV) (M : MemF) : Option (Prop × AV) := match args with
  | [P, .v (.int .u64 0)] => match missC [P] M with
    | some (c, .v (.bool b)) => some (c, .tup (.cons (.v (.pointer none)) (.cons (.v (.int .i64 (if b then 1 else 2))) .nil)))
    | _ => none
  | _ => none
set_option maxRecDepth 100000 in
theorem ent0_read : ReadFn Tryz.prog 43 ent0C := by
  intro args M q res h hq O w0 w hS
  unfold ent0C at h
  split at h
  · rename_i P
    split at h
    · rename_i c v hm
      cases h
      have e0 : ∀ {P' : AV}, P.val = P'.val → [P, AV.v (.int .u64 0)].map AV.val = [P', AV.v (.int .u64 0)].map AV.val := fun h => by simp only [List.map_cons, List.map_nil, h]
      rcases miss_open hS hm hq with ⟨rfl, hv⟩ | ⟨b, i, X, hP, hR, ⟨x, y, rfl, hv⟩ | ⟨x, y, t1, b1, t2, b2, t3, b3, rfl, hv⟩⟩
      · cases hv
        refine ro_fn tabs2 (ct := [(67, missC)]) ⟨CallsOk.fn miss_body miss_read, trivial⟩ (cr := []) trivial Tryz.func43 rfl rfl (M := []) rfl trivial trivial ?_
        repeat (first | refine s_seq ?_ | refine s_region ?_ | refine o_nil ?_ | refine d_nil ?_ | refine oA rfl rfl trivial ?_ | refine oB rfl rfl rfl (fun _ _ => ?_) | refine oC rfl rfl rfl trivial ?_ | refine dA rfl rfl trivial ?_ | refine dB rfl rfl rfl (fun _ _ => ?_) | refine dC rfl rfl rfl trivial ?_ | refine s_skip ?_ | refine s_block ?_ | refine s_exit ?_ | refine s_label ?_)
        refine s_cond (b := true) rfl (fun _ => ?_) (fun hb => by cases hb)
        repeat (first | refine s_seq ?_ | refine s_region ?_ | refine o_nil ?_ | refine d_nil ?_ | refine oA rfl rfl trivial ?_ | refine oB rfl rfl rfl (fun _ _ => ?_) | refine oC rfl rfl rfl trivial ?_ | refine dA rfl rfl trivial ?_ | refine dB rfl rfl rfl (fun _ _ => ?_) | refine dC rfl rfl rfl trivial ?_ | refine s_skip ?_ | refine s_block ?_ | refine s_exit ?_ | refine s_label ?_)
        refine s_ret ?_
        exact ⟨_, _, rfl, (by repeat (first | exact trivial | constructor)), rfl, rfl⟩
      · cases hv
        rw [e0 hP]
        refine ro_fn tabs2 (ct := [(67, missC)]) ⟨CallsOk.fn miss_body miss_read, trivial⟩ (cr := []) trivial Tryz.func43 rfl rfl (M := [(900, roB (some (b, i)) 5 1 fun _ => zrAV x y)]) rfl ⟨roB_noOwn, trivial⟩ ⟨roB_holds fun _ => ⟨b, i, rfl, hR⟩, trivial⟩ ?_
        repeat (first | refine s_seq ?_ | refine s_region ?_ | refine o_nil ?_ | refine d_nil ?_ | refine oA rfl rfl trivial ?_ | refine oB rfl rfl rfl (fun _ _ => ?_) | refine oC rfl rfl rfl trivial ?_ | refine dA rfl rfl trivial ?_ | refine dB rfl rfl rfl (fun _ _ => ?_) | refine dC rfl rfl rfl trivial ?_ | refine s_skip ?_ | refine s_block ?_ | refine s_exit ?_ | refine s_label ?_)
        refine s_cond (b := true) rfl (fun _ => ?_) (fun hb => by cases hb)
        repeat (first | refine s_seq ?_ | refine s_region ?_ | refine o_nil ?_ | refine d_nil ?_ | refine oA rfl rfl trivial ?_ | refine oB rfl rfl rfl (fun _ _ => ?_) | refine oC rfl rfl rfl trivial ?_ | refine dA rfl rfl trivial ?_ | refine dB rfl rfl rfl (fun _ _ => ?_) | refine dC rfl rfl rfl trivial ?_ | refine s_skip ?_ | refine s_block ?_ | refine s_exit ?_ | refine s_label ?_)
        refine s_ret ?_
        exact ⟨_, _, rfl, (by repeat (first | exact trivial | constructor)), rfl, rfl⟩
      · cases hv
        rw [e0 hP]
        refine ro_fn tabs2 (ct := [(67, missC)]) ⟨CallsOk.fn miss_body miss_read, trivial⟩ (cr := []) trivial Tryz.func43 rfl rfl (M := [(900, roB (some (b, i)) 5 1 fun _ => mdAV x y t1 b1 t2 b2 t3 b3)]) rfl ⟨roB_noOwn, trivial⟩ ⟨roB_holds fun _ => ⟨b, i, rfl, hR⟩, trivial⟩ ?_
        repeat (first | refine s_seq ?_ | refine s_region ?_ | refine o_nil ?_ | refine d_nil ?_ | refine oA rfl rfl trivial ?_ | refine oB rfl rfl rfl (fun _ _ => ?_) | refine oC rfl rfl rfl trivial ?_ | refine dA rfl rfl trivial ?_ | refine dB rfl rfl rfl (fun _ _ => ?_) | refine dC rfl rfl rfl trivial ?_ | refine s_skip ?_ | refine s_block ?_ | refine s_exit ?_ | refine s_label ?_)
        refine s_cond (b := false) rfl (fun hb => by cases hb) (fun _ => ?_)
        repeat (first | refine s_seq ?_ | refine s_region ?_ | refine o_nil ?_ | refine d_nil ?_ | refine oA rfl rfl trivial ?_ | refine oB rfl rfl rfl (fun _ _ => ?_) | refine oC rfl rfl rfl trivial ?_ | refine dA rfl rfl trivial ?_ | refine dB rfl rfl rfl (fun _ _ => ?_) | refine dC rfl rfl rfl trivial ?_ | refine s_skip ?_ | refine s_block ?_ | refine s_exit ?_ | refine s_label ?_)
        refine s_cond (b := true) rfl (fun _ => ?_) (fun hb => by cases hb)
        repeat (first | refine s_seq ?_ | refine s_region ?_ | refine o_nil ?_ | refine d_nil ?_ | refine oA rfl rfl trivial ?_ | refine oB rfl rfl rfl (fun _ _ => ?_) | refine oC rfl rfl rfl trivial ?_ | refine dA rfl rfl trivial ?_ | refine dB rfl rfl rfl (fun _ _ => ?_) | refine dC rfl rfl rfl trivial ?_ | refine s_skip ?_ | refine s_block ?_ | refine s_exit ?_ | refine s_label ?_)
        refine s_ret ?_
        exact ⟨_, _, rfl, (by repeat (first | exact trivial | constructor)), rfl, rfl⟩
    · cases h
  · cases h
set_option maxRecDepth 100000 in
theorem ent0_body : HasBody Tryz.prog 43 := ⟨_, Tryz.func43, rfl, by decide⟩

/-- made: a book that New made -/
def madeC (args : List AV) (M : MemF) : Option (Prop × AV) := match args with
  | [P] => match missC [P] M with
    | some (c, .v (.bool b)) => some (c, .v (.bool (!b)))
    | _ => none
  | _ => none
set_option maxRecDepth 100000 in
theorem made_read : ReadFn Tryz.prog 47 madeC := by
  intro args M q res h hq O w0 w hS
  unfold madeC at h
  split at h
  · rename_i P
    split at h
    · rename_i c v hm
      cases h
      have e0 : ∀ {P' : AV}, P.val = P'.val → [P].map AV.val = [P'].map AV.val := fun h => by simp only [List.map_cons, List.map_nil, h]
      rcases miss_open hS hm hq with ⟨rfl, hv⟩ | ⟨b, i, X, hP, hR, ⟨x, y, rfl, hv⟩ | ⟨x, y, t1, b1, t2, b2, t3, b3, rfl, hv⟩⟩
      · cases hv
        refine ro_fn tabs2 (ct := [(43, ent0C)]) ⟨CallsOk.fn ent0_body ent0_read, trivial⟩ (cr := []) trivial Tryz.func47 rfl rfl (M := []) rfl trivial trivial ?_
        repeat (first | refine s_seq ?_ | refine s_region ?_ | refine o_nil ?_ | refine d_nil ?_ | refine oA rfl rfl trivial ?_ | refine oB rfl rfl rfl (fun _ _ => ?_) | refine oC rfl rfl rfl trivial ?_ | refine dA rfl rfl trivial ?_ | refine dB rfl rfl rfl (fun _ _ => ?_) | refine dC rfl rfl rfl trivial ?_ | refine s_skip ?_ | refine s_block ?_ | refine s_exit ?_ | refine s_label ?_)
        refine s_cond (b := true) rfl (fun _ => ?_) (fun hb => by cases hb)
        repeat (first | refine s_seq ?_ | refine s_region ?_ | refine o_nil ?_ | refine d_nil ?_ | refine oA rfl rfl trivial ?_ | refine oB rfl rfl rfl (fun _ _ => ?_) | refine oC rfl rfl rfl trivial ?_ | refine dA rfl rfl trivial ?_ | refine dB rfl rfl rfl (fun _ _ => ?_) | refine dC rfl rfl rfl trivial ?_ | refine s_skip ?_ | refine s_block ?_ | refine s_exit ?_ | refine s_label ?_)
        refine s_ret ?_
        exact ⟨_, _, rfl, (by repeat (first | exact trivial | constructor)), rfl, rfl⟩
      · cases hv
        rw [e0 hP]
        refine ro_fn tabs2 (ct := [(43, ent0C)]) ⟨CallsOk.fn ent0_body ent0_read, trivial⟩ (cr := []) trivial Tryz.func47 rfl rfl (M := [(900, roB (some (b, i)) 5 1 fun _ => zrAV x y)]) rfl ⟨roB_noOwn, trivial⟩ ⟨roB_holds fun _ => ⟨b, i, rfl, hR⟩, trivial⟩ ?_
        repeat (first | refine s_seq ?_ | refine s_region ?_ | refine o_nil ?_ | refine d_nil ?_ | refine oA rfl rfl trivial ?_ | refine oB rfl rfl rfl (fun _ _ => ?_) | refine oC rfl rfl rfl trivial ?_ | refine dA rfl rfl trivial ?_ | refine dB rfl rfl rfl (fun _ _ => ?_) | refine dC rfl rfl rfl trivial ?_ | refine s_skip ?_ | refine s_block ?_ | refine s_exit ?_ | refine s_label ?_)
        refine s_cond (b := false) rfl (fun hb => by cases hb) (fun _ => ?_)
        repeat (first | refine s_seq ?_ | refine s_region ?_ | refine o_nil ?_ | refine d_nil ?_ | refine oA rfl rfl trivial ?_ | refine oB rfl rfl rfl (fun _ _ => ?_) | refine oC rfl rfl rfl trivial ?_ | refine dA rfl rfl trivial ?_ | refine dB rfl rfl rfl (fun _ _ => ?_) | refine dC rfl rfl rfl trivial ?_ | refine s_skip ?_ | refine s_block ?_ | refine s_exit ?_ | refine s_label ?_)
        refine s_ret ?_
        exact ⟨_, _, rfl, (by repeat (first | exact trivial | constructor)), rfl, rfl⟩
      · cases hv
        rw [e0 hP]
        refine ro_fn tabs2 (ct := [(43, ent0C)]) ⟨CallsOk.fn ent0_body ent0_read, trivial⟩ (cr := []) trivial Tryz.func47 rfl rfl (M := [(900, roB (some (b, i)) 5 1 fun _ => mdAV x y t1 b1 t2 b2 t3 b3)]) rfl ⟨roB_noOwn, trivial⟩ ⟨roB_holds fun _ => ⟨b, i, rfl, hR⟩, trivial⟩ ?_
        repeat (first | refine s_seq ?_ | refine s_region ?_ | refine o_nil ?_ | refine d_nil ?_ | refine oA rfl rfl trivial ?_ | refine oB rfl rfl rfl (fun _ _ => ?_) | refine oC rfl rfl rfl trivial ?_ | refine dA rfl rfl trivial ?_ | refine dB rfl rfl rfl (fun _ _ => ?_) | refine dC rfl rfl rfl trivial ?_ | refine s_skip ?_ | refine s_block ?_ | refine s_exit ?_ | refine s_label ?_)
        refine s_cond (b := false) rfl (fun hb => by cases hb) (fun _ => ?_)
        repeat (first | refine s_seq ?_ | refine s_region ?_ | refine o_nil ?_ | refine d_nil ?_ | refine oA rfl rfl trivial ?_ | refine oB rfl rfl rfl (fun _ _ => ?_) | refine oC rfl rfl rfl trivial ?_ | refine dA rfl rfl trivial ?_ | refine dB rfl rfl rfl (fun _ _ => ?_) | refine dC rfl rfl rfl trivial ?_ | refine s_skip ?_ | refine s_block ?_ | refine s_exit ?_ | refine s_label ?_)
        refine s_ret ?_
        exact ⟨_, _, rfl, (by repeat (first | exact trivial | constructor)), rfl, rfl⟩
    · cases h
  · cases h
set_option maxRecDepth 100000 in
theorem made_body : HasBody Tryz.prog 47 := ⟨_, Tryz.func47, rfl, by decide⟩
end Go.Proofs.YtofophjfgalhaaaGreatDoor.V
/-! Enter. -/
namespace Go.Proofs.YtofophjfgalhaaaGreatDoor.V
open Go Go.RowKit

section
variable {H : Frag} {b bS bR bG : Nat} {ents : List (Int × Nat)} {recs : List (Int × ByteArray)} {gr : List Grp} {lS lR lG : List (AV × AV × Nat)} {cS cR cG : Nat}
theorem RegF.pieces (h : RegF H b ents recs bS bR bG gr lS lR lG cS cR cG) : Pieces H ([.row b 74 5 1 (fun _ => regAV 0 bS bR bG) 1, .mp true bS lS cS, .mp true bR lR cR, .mp true bG lG cG] ++ [restB H [b, bS, bR, bG]]) := by
  obtain ⟨h1, h2, h3, h4, h5, h6, _⟩ := nodup4 h.ndb
  refine pieces_of (ks := [b, bS, bR, bG]) ⟨one_row h.row, one_map h.sg, one_map h.rc, one_map h.gp, trivial⟩ ?_
  simp [h1, h2, h3, h4, h5, h6]
theorem kv_mem {l : List (AV × AV × Nat)} {L : List (AV × AV)} (h : kv l = L) {p : AV × AV × Nat} (hp : p ∈ l) : (p.1, p.2.1) ∈ L := by rw [← h]; exact List.mem_map_of_mem (f := fun p : AV × AV × Nat => (p.1, p.2.1)) hp
theorem RegF.miss_sg (h : RegF H b ents recs bS bR bG gr lS lR lG cS cR cG) {a : Int} (ha : ∀ e ∈ ents, e.1 ≠ a) : mfind tabs2.tb tabs2.eqs 39 (.v (.int .u64 a)) lS 0 = some none := by
  refine mfind_miss fun p hp => ?_
  have := kv_mem h.sgv hp
  obtain ⟨e, he, h1⟩ := List.mem_map.1 this
  have h2 : p.1 = .v (.int .u64 e.1) := (congrArg Prod.fst h1).symm
  rw [h2, eq_u64]
  simp only [Option.some.injEq, beq_eq_false_iff_ne, ne_eq]
  exact fun e' => ha e he e'.symm
/-- what is kept of the rest -/
theorem RegF.kept (h : RegF H b ents recs bS bR bG gr lS lR lG cS cR cG) {ks : List Nat} {Bs : List Blk} {w : World} (hr : restB H ks ∈ Bs) (hh : ∀ B ∈ Bs, B.holds w) {k : Nat} (hk : k ∉ ks) : (∀ e ∈ ents, e.2 = k → FRow (restr w (ownU Bs)) k 222 2 1 (fun _ => sigAV b e.1) 1) ∧ (∀ g ∈ gr, g.blk = k → FRow (restr w (ownU Bs)) k 9 1 (sgOf recs g.a).length (fun i => .v (.string ((sgOf recs g.a).getD i ⟨#[]⟩))) g.cap) := by
  refine ⟨fun e he e1 => ?_, fun g hg e1 => ?_⟩
  · subst e1
    exact (h.sig e he).same (closed_same hr hh hk (h.sig e he).ne)
  · subst e1
    exact (h.grp g hg).same (closed_same hr hh hk (h.grp g hg).ne)
theorem RegF.dom (h : RegF H b ents recs bS bR bG gr lS lR lG cS cR cG) {k : Nat} (hk : k ∈ ents.map (·.2) ++ gr.map (·.blk)) : H k ≠ none ∧ k ∉ [b, bS, bR, bG] := by
  obtain ⟨_, _, _, _, _, _, h1, h2, h3, h4, _⟩ := nodup4 h.ndb
  refine ⟨?_, ?_⟩
  · rcases List.mem_append.1 hk with hk | hk
    · obtain ⟨e, he, rfl⟩ := List.mem_map.1 hk
      exact (h.sig e he).ne
    · obtain ⟨e, he, rfl⟩ := List.mem_map.1 hk
      exact (h.grp e he).ne
  · intro hm
    simp only [List.mem_cons, List.not_mem_nil, or_false] at hm
    rcases hm with rfl | rfl | rfl | rfl
    · exact h1 hk
    · exact h2 hk
    · exact h3 hk
    · exact h4 hk
abbrev entBs (H : Frag) (b bS bR bG : Nat) (lS lR lG : List (AV × AV × Nat)) (cS cR cG b' : Nat) (a : Int) : List Blk := [.row b 74 5 1 (fun _ => regAV 0 bS bR bG) 1, .mp true bS (lS ++ [(.v (.int .u64 a), sigP b', cS)]) (cS + 1), .mp true bR lR cR, .mp true bG lG cG, .row b' 222 2 1 (fun _ => sigAV b a) 1, restB H [b, bS, bR, bG]]
theorem reg_enter (h : RegF H b ents recs bS bR bG gr lS lR lG cS cR cG) {a : Int} (ha : ∀ e ∈ ents, e.1 ≠ a) {b' : Nat} {w : World} (hh : ∀ B ∈ entBs H b bS bR bG lS lR lG cS cR cG b' a, B.holds w) (hp : (entBs H b bS bR bG lS lR lG cS cR cG b' a).Pairwise fun B B' => ∀ k, B.own k → ¬ B'.own k) :
    IsReg b (ents ++ [(a, b')]) recs (restr w (ownU (entBs H b bS bR bG lS lR lG cS cR cG b' a))) := by
  have hr : restB H [b, bS, bR, bG] ∈ entBs H b bS bR bG lS lR lG cS cR cG b' a := .tail _ (.tail _ (.tail _ (.tail _ (.tail _ (.head _)))))
  have nb : b' ∉ b :: bS :: bR :: bG :: (ents.map (·.2) ++ gr.map (·.blk)) := by
    simp only [entBs, List.pairwise_cons, List.mem_cons, List.not_mem_nil, or_false] at hp
    obtain ⟨h1, h2, h3, h4, h5, _⟩ := hp
    intro hm
    rcases List.mem_cons.1 hm with rfl | hm
    · exact h1 (.row b' 222 2 1 (fun _ => sigAV b' a) 1) (.inr (.inr (.inr (.inl rfl)))) b' rfl rfl
    rcases List.mem_cons.1 hm with rfl | hm
    · exact h2 (.row b' 222 2 1 (fun _ => sigAV b a) 1) (.inr (.inr (.inl rfl))) b' rfl rfl
    rcases List.mem_cons.1 hm with rfl | hm
    · exact h3 (.row b' 222 2 1 (fun _ => sigAV b a) 1) (.inr (.inl rfl)) b' rfl rfl
    rcases List.mem_cons.1 hm with rfl | hm
    · exact h4 (.row b' 222 2 1 (fun _ => sigAV b a) 1) (.inl rfl) b' rfl rfl
    exact h5 _ rfl b' rfl (h.dom hm)
  refine ⟨bS, bR, bG, gr, _, lR, lG, cS + 1, cR, cG, closed_row (.head _) hh, closed_map (.tail _ (.head _)) hh, ?_, closed_map (.tail _ (.tail _ (.head _))) hh, h.rcv, closed_map (.tail _ (.tail _ (.tail _ (.head _)))) hh, h.gpv, fun e he => ?_, fun g hg => ?_, h.all, h.nda, ?_, h.ndr, ?_⟩
  · have := h.sgv
    simp only [kv, List.map_append, List.map_cons, List.map_nil] at this ⊢
    rw [this]
  · rcases List.mem_append.1 he with he | he
    · exact (h.kept hr hh (h.dom (List.mem_append_left _ (List.mem_map_of_mem (f := (·.2)) he))).2).1 e he rfl
    · have : e = (a, b') := by simpa using he
      subst this
      exact closed_row (.tail _ (.tail _ (.tail _ (.tail _ (.head _))))) hh
  · exact (h.kept hr hh (h.dom (List.mem_append_right _ (List.mem_map_of_mem (f := (·.blk)) hg))).2).2 g hg rfl
  · simp only [List.map_append, List.map_cons, List.map_nil]
    refine List.nodup_append.2 ⟨h.nde, by simp, fun x hx y hy => ?_⟩
    obtain ⟨e, he, rfl⟩ := List.mem_map.1 hx
    have : y = a := by simpa using hy
    rw [this]
    exact ha e he
  · have : b :: bS :: bR :: bG :: ((ents ++ [(a, b')]).map (·.2) ++ gr.map (·.blk)) = (b :: bS :: bR :: bG :: ents.map (·.2)) ++ b' :: gr.map (·.blk) := by simp
    rw [this]
    exact List.perm_middle.nodup_iff.2 (List.nodup_cons.2 ⟨nb, h.ndb⟩)
end
def enterC (_tag : Nat) (args : List AV) (M : MemF) : Option Res := match args with
  | [.ptr p, .v (.int .u64 a)] => match regOf M p with
    | some (c, b, ents, recs, _) => some ⟨Nat × (Nat → Prop), c ∧ a ≠ 0 ∧ ∀ e ∈ ents, e.1 ≠ a, fun _ => True, fun x => .tup (.cons (.ptr ⟨p.n, ents.length, x.1, 0, 2, 0, 0, 0, false⟩) (.cons (.v (.int .i64 0)) .nil)), [p.n], fun x => [regB b (ents ++ [(a, x.1)]) recs x.2]⟩
    | none => none
  | _ => none
def ctMs : CtL := [(67, missC)]
set_option maxRecDepth 100000 in
theorem ctMs_ok : CtLOk Tryz.prog ctMs := ⟨CallsOk.fn miss_body miss_read, trivial⟩
def crLk : CrL := [(68, lockC)]
set_option maxRecDepth 100000 in
theorem lock_body : HasBody Tryz.prog 68 := ⟨_, Tryz.func68, rfl, by decide⟩
set_option maxRecDepth 100000 in
theorem unlock_body : HasBody Tryz.prog 69 := ⟨_, Tryz.func69, rfl, by decide⟩
set_option maxRecDepth 100000 in
theorem crLk_ok : CrLOk Tryz.prog crLk := ⟨⟨lock_body, lock_turn (L := muLink) muLib row21_ok⟩, trivial⟩

set_option maxRecDepth 100000 in
set_option maxHeartbeats 4000000 in
theorem enter_turn : TurnFn Tryz.prog 43 enterC := by
  intro tag args M r h0 hok O w0 w hS
  unfold enterC at h0
  split at h0
  · rename_i p a
    split at h0
    · rename_i c b ents recs S hp
      cases h0
      obtain ⟨hc, ha0, hae⟩ := hok
      obtain ⟨hM, hv⟩ := regOf_spec hp hc
      rw [show [AV.ptr p, AV.v (.int .u64 a)].map AV.val = [.ptr ⟨900, 0, b, 0, 5, 0, 0, 0, false⟩, AV.v (.int .u64 a)].map AV.val by simp only [List.map_cons, List.map_nil, hv 900]]
      refine turn_oneL tabs2 ctMs_ok crLk_ok Tryz.func43 rfl rfl hS _ hM [] rfl rfl (hS.holds _ _ hM) (fun _ h => h) (fun _ h => h) trivial trivial trivial ?_
      refine s_open (n := 900) (g := .reg b ents recs) (S := S) (P := IsReg b ents recs) [900, 901, 902, 903, 999] rfl rfl fun H hH hP => ?_
      obtain ⟨bS, bR, bG, gr, lS, lR, lG, cS, cR, cG, hF⟩ := hP
      refine ⟨_, hF.pieces, ?_⟩
      repeat (first | refine s_seq ?_ | refine s_region ?_ | refine o_nil ?_ | refine d_nil ?_ | refine oA rfl rfl trivial ?_ | refine oB rfl rfl rfl (fun _ _ => ?_) | refine oC rfl rfl rfl trivial ?_ | refine dA rfl rfl trivial ?_ | refine dB rfl rfl rfl (fun _ _ => ?_) | refine dC rfl rfl rfl trivial ?_ | refine s_skip ?_ | refine s_block ?_ | refine s_exit ?_ | refine s_label ?_)
      refine s_cond (b := false) rfl (fun hb => by cases hb) (fun _ => ?_)
      repeat (first | refine s_seq ?_ | refine s_region ?_ | refine o_nil ?_ | refine d_nil ?_ | refine oA rfl rfl trivial ?_ | refine oB rfl rfl rfl (fun _ _ => ?_) | refine oC rfl rfl rfl trivial ?_ | refine dA rfl rfl trivial ?_ | refine dB rfl rfl rfl (fun _ _ => ?_) | refine dC rfl rfl rfl trivial ?_ | refine s_skip ?_ | refine s_block ?_ | refine s_exit ?_ | refine s_label ?_)
      refine s_cond (b := (a == 0)) rfl (fun hb => absurd (by simpa using hb) ha0) (fun _ => ?_)
      repeat (first | refine s_seq ?_ | refine s_region ?_ | refine o_nil ?_ | refine d_nil ?_ | refine oA rfl rfl trivial ?_ | refine oB rfl rfl rfl (fun _ _ => ?_) | refine oC rfl rfl rfl trivial ?_ | refine dA rfl rfl trivial ?_ | refine dB rfl rfl rfl (fun _ _ => ?_) | refine dC rfl rfl rfl trivial ?_ | refine s_skip ?_ | refine s_block ?_ | refine s_exit ?_ | refine s_label ?_)
      refine o_defer (f := 69) (l := [(0, .ptr ⟨900, 0, b, 0, 5, 0, 0, 0, false⟩)]) rfl rfl rfl rfl trivial ?_
      repeat (first | refine s_seq ?_ | refine s_region ?_ | refine o_nil ?_ | refine d_nil ?_ | refine oA rfl rfl trivial ?_ | refine oB rfl rfl rfl (fun _ _ => ?_) | refine oC rfl rfl rfl trivial ?_ | refine dA rfl rfl trivial ?_ | refine dB rfl rfl rfl (fun _ _ => ?_) | refine dC rfl rfl rfl trivial ?_ | refine s_skip ?_ | refine s_block ?_ | refine s_exit ?_ | refine s_label ?_)
      refine o_look none rfl rfl rfl rfl rfl rfl rfl rfl rfl rfl rfl rfl (hF.miss_sg hae) ?_
      repeat (first | refine s_seq ?_ | refine s_region ?_ | refine o_nil ?_ | refine d_nil ?_ | refine oA rfl rfl trivial ?_ | refine oB rfl rfl rfl (fun _ _ => ?_) | refine oC rfl rfl rfl trivial ?_ | refine dA rfl rfl trivial ?_ | refine dB rfl rfl rfl (fun _ _ => ?_) | refine dC rfl rfl rfl trivial ?_ | refine s_skip ?_ | refine s_block ?_ | refine s_exit ?_ | refine s_label ?_)
      refine s_cond (b := false) rfl (fun hb => by cases hb) (fun _ => ?_)
      repeat (first | refine s_seq ?_ | refine s_region ?_ | refine o_nil ?_ | refine d_nil ?_ | refine oA rfl rfl trivial ?_ | refine oB rfl rfl rfl (fun _ _ => ?_) | refine oC rfl rfl rfl trivial ?_ | refine dA rfl rfl trivial ?_ | refine dB rfl rfl rfl (fun _ _ => ?_) | refine dC rfl rfl rfl trivial ?_ | refine s_skip ?_ | refine s_block ?_ | refine s_exit ?_ | refine s_label ?_)
      refine o_mset none rfl rfl rfl rfl rfl rfl rfl rfl rfl rfl rfl (hF.miss_sg hae) rfl ?_
      repeat (first | refine s_seq ?_ | refine s_region ?_ | refine o_nil ?_ | refine d_nil ?_ | refine oA rfl rfl trivial ?_ | refine oB rfl rfl rfl (fun _ _ => ?_) | refine oC rfl rfl rfl trivial ?_ | refine dA rfl rfl trivial ?_ | refine dB rfl rfl rfl (fun _ _ => ?_) | refine dC rfl rfl rfl trivial ?_ | refine s_skip ?_ | refine s_block ?_ | refine s_exit ?_ | refine s_label ?_)
      refine s_ret ?_
      rename_i b' _
      refine .inr ⟨69, [.ptr ⟨900, 0, b, 0, 5, 0, 0, 0, false⟩], [(900, _)], _, _, _, _, rfl, unlock_body, unlock_dfr (L := muLink) muLib row21_ok rfl ⟨⟨⟨⟨rfl, rfl, rfl, Nat.zero_lt_one⟩, rfl⟩, rfl⟩, ⟨rfl, rfl, rfl, Nat.zero_lt_one⟩, rfl⟩, le_close (n := 900) (.reg b (ents ++ [(a, b')]) recs) (IsReg b (ents ++ [(a, b')]) recs) [900, 901, 902, 903, 28, 999] (entBs H b bS bR bG lS lR lG cS cR cG b' a) rfl (by decide) ⟨⟨⟨_, rfl, Blk.le_rowc (Nat.le_refl _) fun _ _ => ⟨rfl, rfl⟩⟩, fun _ h => h⟩, ⟨⟨_, rfl, Blk.le_mapc (by simp only [List.map_append]; rfl)⟩, fun _ h => h⟩, ⟨⟨_, rfl, Blk.le_refl _⟩, fun _ h => h⟩, ⟨⟨_, rfl, Blk.le_refl _⟩, fun _ h => h⟩, ⟨⟨_, rfl, Blk.le_rowc (Nat.le_refl _) fun _ _ => ⟨rfl, rfl⟩⟩, fun _ h => h⟩, ⟨⟨_, rfl, Blk.le_refl _⟩, fun _ h => h⟩, trivial⟩ (fun w hh hp => reg_enter hF hae hh hp), rfl, ⟨trivial, trivial, trivial⟩, (b', _), trivial, rfl, ⟨⟨_, rfl, Blk.le_refl _⟩, fun _ h => h⟩, trivial⟩
    · cases h0
  · cases h0
end Go.Proofs.YtofophjfgalhaaaGreatDoor.V
/-! Check. -/
namespace Go.Proofs.YtofophjfgalhaaaGreatDoor.V
open Go Go.RowKit

theorem kv_get {l : List (AV × AV × Nat)} {L : List (AV × AV)} (h : kv l = L) {j : Nat} {q : AV × AV} (hj : L[j]? = some q) : ∃ born, l[j]? = some (q.1, q.2, born) := by
  subst h
  unfold kv at hj
  rw [List.getElem?_map] at hj
  cases hl : l[j]? with
  | none => rw [hl] at hj; cases hj
  | some p => rw [hl] at hj; cases hj; exact ⟨p.2.2, rfl⟩
theorem kv_at {l : List (AV × AV × Nat)} {L : List (AV × AV)} (h : kv l = L) {j : Nat} {p : AV × AV × Nat} (hj : l[j]? = some p) : L[j]? = some (p.1, p.2.1) := by
  subst h
  unfold kv
  rw [List.getElem?_map, hj]; rfl
section
variable {H : Frag} {b bS bR bG : Nat} {ents : List (Int × Nat)} {recs : List (Int × ByteArray)} {gr : List Grp} {lS lR lG : List (AV × AV × Nat)} {cS cR cG : Nat}
theorem RegF.miss_rc (h : RegF H b ents recs bS bR bG gr lS lR lG cS cR cG) {r : Int × ByteArray} (hr : r ∉ recs) : mfind tabs2.tb tabs2.eqs 237 (recK r) lR 0 = some none := by
  refine mfind_miss fun p hp => ?_
  have := kv_mem h.rcv hp
  obtain ⟨e, he, h1⟩ := List.mem_map.1 this
  have h2 : p.1 = recK e := (congrArg Prod.fst h1).symm
  rw [h2]
  exact recK_diff fun e' => hr (e' ▸ he)
theorem RegF.hit_rc (h : RegF H b ents recs bS bR bG gr lS lR lG cS cR cG) {r : Int × ByteArray} (hr : r ∈ recs) : ∃ j, mfind tabs2.tb tabs2.eqs 237 (recK r) lR 0 = some (some (j, .agg .nil)) := by
  obtain ⟨j, hj, hjr⟩ := List.getElem_of_mem hr
  have hj1 : recs[j]? = some r := by rw [List.getElem?_eq_getElem hj, hjr]
  obtain ⟨born, hl⟩ := kv_get h.rcv (j := j) (q := (recK r, .agg .nil)) (by rw [List.getElem?_map, hj1]; rfl)
  refine ⟨0 + j, mfind_hit hl (recK_same r) fun j' hlt q hq => ?_⟩
  have h1 := kv_at h.rcv hq
  rw [List.getElem?_map] at h1
  cases hs : recs[j']? with
  | none => rw [hs] at h1; cases h1
  | some s =>
    rw [hs] at h1
    have h2 : q.1 = recK s := (congrArg Prod.fst (Option.some.inj h1)).symm
    rw [h2]
    refine recK_diff fun e => ?_
    subst e
    have := (List.getElem?_inj hj h.ndr).1 (hj1.trans hs.symm)
    omega
/-- closed again, with nothing turned -/
abbrev samBs (H : Frag) (b bS bR bG : Nat) (lS lR lG : List (AV × AV × Nat)) (cS cR cG : Nat) : List Blk := [.row b 74 5 1 (fun _ => regAV 0 bS bR bG) 1, .mp true bS lS cS, .mp true bR lR cR, .mp true bG lG cG, restB H [b, bS, bR, bG]]
theorem reg_same (h : RegF H b ents recs bS bR bG gr lS lR lG cS cR cG) {w : World} (hh : ∀ B ∈ samBs H b bS bR bG lS lR lG cS cR cG, B.holds w) :
    IsReg b ents recs (restr w (ownU (samBs H b bS bR bG lS lR lG cS cR cG))) := by
  have hr : restB H [b, bS, bR, bG] ∈ samBs H b bS bR bG lS lR lG cS cR cG := .tail _ (.tail _ (.tail _ (.tail _ (.head _))))
  exact ⟨bS, bR, bG, gr, lS, lR, lG, cS, cR, cG, closed_row (.head _) hh, closed_map (.tail _ (.head _)) hh, h.sgv, closed_map (.tail _ (.tail _ (.head _))) hh, h.rcv, closed_map (.tail _ (.tail _ (.tail _ (.head _)))) hh, h.gpv, fun e he => (h.kept hr hh (h.dom (List.mem_append_left _ (List.mem_map_of_mem (f := (·.2)) he))).2).1 e he rfl, fun g hg => (h.kept hr hh (h.dom (List.mem_append_right _ (List.mem_map_of_mem (f := (·.blk)) hg))).2).2 g hg rfl, h.all, h.nda, h.nde, h.ndr, h.ndb⟩
end
def ctCk : CtL := [(67, missC), (113, seaC)]
set_option maxRecDepth 100000 in
theorem ctCk_ok : CtLOk Tryz.prog ctCk := ⟨CallsOk.fn miss_body miss_read, CallsOk.fn sea_body sea_read, trivial⟩
def hasR (recs : List (Int × ByteArray)) (r : Int × ByteArray) : Bool := recs.any fun q => (q.1 == r.1) && (q.2.toList == r.2.toList)
theorem hasR_iff {recs : List (Int × ByteArray)} {r : Int × ByteArray} : hasR recs r = true ↔ r ∈ recs := by
  unfold hasR
  rw [List.any_eq_true]
  constructor
  · rintro ⟨q, hq, h⟩
    simp only [Bool.and_eq_true, beq_iff_eq] at h
    have : q = r := Prod.ext h.1 (bytes_toList h.2)
    exact this ▸ hq
  · exact fun h => ⟨r, h, by simp⟩
def checkF (K B0 : List Int) (recs : List (Int × ByteArray)) (a : Int) (f : Nat → Int) (m : ByteArray) (n : Nat) (s : List Int) : Bool := hasR recs (a, m) && intsEq 16 s (seaF K B0 a f n)
def checkC (_tag : Nat) (args : List AV) (M : MemF) : Option Res := match args, M 100003, M 100004 with
  | [.ptr p, .v (.int .u64 a), X, .ints .u8 16 s], some (.var 3 (.ints .u32 8 B0)), some (.var 4 (.ints .u32 64 K)) => match regOf M p, seqOf M X with
    | some (c, b, ents, recs, _), some (c2, es, n, fx) => some ⟨Nat → Prop, c ∧ (c2 ∧ (n ≠ 0 → es = 1) ∧ n ≤ 2000000 ∧ ∀ i, i < n → fx i = .v (.int .u8 (fx i).int1)) ∧ tagNe p.n X = true, fun _ => True, fun _ => .v (.bool (checkF K B0 recs a (fun i => (fx i).int1) (strOf n fx) n s)), [p.n], fun x => [regB b ents recs x]⟩
    | _, _ => none
  | _, _, _ => none

set_option maxRecDepth 100000 in
set_option maxHeartbeats 4000000 in
theorem check_turn : TurnFn Tryz.prog 55 checkC := by
  intro tag args M r h0 hok O w0 w hS
  unfold checkC at h0
  split at h0
  · rename_i p a X s B0 K hM3 hM4
    split at h0
    · rename_i c b ents recs S c2 es n fx hp hsx
      cases h0
      obtain ⟨hc, ⟨q1, q2, q3, q4⟩, htag⟩ := hok
      obtain ⟨hM, hv⟩ := regOf_spec hp hc
      obtain ⟨base, cap, hvx, hro⟩ := bytes_ro hS hsx q1 q2 q4
      obtain ⟨f, hf0⟩ : ∃ f, f = fun i => (fx i).int1 := ⟨_, rfl⟩
      have hstr : strOf n fx = strOf n fun i => .v (.int .u8 (f i)) := by rw [hf0]; rfl
      rw [← hf0, hstr]
      have hro : (roB base 1 n fun i => .v (.int .u8 (f i))).holds w := by rw [hf0]; exact hro
      have hap : ∀ j, (roB base 1 n fun i => .v (.int .u8 (f i))).reads j → ¬ (regB b ents recs S).own j := ro_apart hS hsx q1 q2 hM htag hvx
      have hB := hS.holds _ _ hM3
      have hK := hS.holds _ _ hM4
      rw [show [AV.ptr p, AV.v (.int .u64 a), X, .ints .u8 16 s].map AV.val = [.ptr ⟨900, 0, b, 0, 5, 0, 0, 0, false⟩, AV.v (.int .u64 a), roS 910 base 1 n cap, .ints .u8 16 s].map AV.val by simp only [List.map_cons, List.map_nil, hv 900, hvx, roS_val]]
      refine turn_oneL tabs2 ctCk_ok crLk_ok Tryz.func55 rfl rfl hS _ hM [(910, roB base 1 n fun i => .v (.int .u8 (f i))), (100003, .var 3 (.ints .u32 8 B0)), (100004, .var 4 (.ints .u32 64 K))] rfl rfl (hS.holds _ _ hM) (fun _ h => h) (fun _ h => h) ⟨hro, hB, hK, trivial⟩ ⟨roB_noOwn, fun _ h => h, fun _ h => h, trivial⟩ ⟨hap, fun k hr ho => hS.roapart _ _ _ _ _ hM hM3 ho hr, fun k hr ho => hS.roapart _ _ _ _ _ hM hM4 ho hr, trivial⟩ ?_
      refine s_open (n := 900) (g := .reg b ents recs) (S := S) (P := IsReg b ents recs) [900, 901, 902, 903, 999] rfl rfl fun H hH hP => ?_
      obtain ⟨bS, bR, bG, gr, lS, lR, lG, cS, cR, cG, hF⟩ := hP
      refine ⟨_, hF.pieces, ?_⟩
      repeat (first | refine s_seq ?_ | refine s_region ?_ | refine o_nil ?_ | refine d_nil ?_ | refine oA rfl rfl trivial ?_ | refine oB rfl rfl rfl (fun _ _ => ?_) | refine oC rfl rfl rfl trivial ?_ | refine dA rfl rfl trivial ?_ | refine dB rfl rfl rfl (fun _ _ => ?_) | refine dC rfl rfl rfl trivial ?_ | refine s_skip ?_ | refine s_block ?_ | refine s_exit ?_ | refine s_label ?_)
      refine s_cond (b := false) rfl (fun hb => by cases hb) (fun _ => ?_)
      repeat (first | refine s_seq ?_ | refine s_region ?_ | refine o_nil ?_ | refine d_nil ?_ | refine oA rfl rfl trivial ?_ | refine oB rfl rfl rfl (fun _ _ => ?_) | refine oC rfl rfl rfl trivial ?_ | refine dA rfl rfl trivial ?_ | refine dB rfl rfl rfl (fun _ _ => ?_) | refine dC rfl rfl rfl trivial ?_ | refine s_skip ?_ | refine s_block ?_ | refine s_exit ?_ | refine s_label ?_)
      refine o_defer (f := 69) (l := [(0, .ptr ⟨900, 0, b, 0, 5, 0, 0, 0, false⟩)]) rfl rfl rfl rfl trivial ?_
      repeat (first | refine s_seq ?_ | refine s_region ?_ | refine o_nil ?_ | refine d_nil ?_ | refine oA rfl rfl trivial ?_ | refine oB rfl rfl rfl (fun _ _ => ?_) | refine oC rfl rfl rfl trivial ?_ | refine dA rfl rfl trivial ?_ | refine dB rfl rfl rfl (fun _ _ => ?_) | refine dC rfl rfl rfl trivial ?_ | refine s_skip ?_ | refine s_block ?_ | refine s_exit ?_ | refine s_label ?_)
      by_cases hin : (a, strOf n fun i => .v (.int .u8 (f i))) ∈ recs
      · obtain ⟨j, hj⟩ := hF.hit_rc hin
        refine s_draw rD55_5 rM55_5 rX55_5 rN55_5 rfl rfl ?_
        repeat (first | refine s_seq ?_ | refine s_region ?_ | refine o_nil ?_ | refine d_nil ?_ | refine oA rfl rfl trivial ?_ | refine oB rfl rfl rfl (fun _ _ => ?_) | refine oC rfl rfl rfl trivial ?_ | refine dA rfl rfl trivial ?_ | refine dB rfl rfl rfl (fun _ _ => ?_) | refine dC rfl rfl rfl trivial ?_ | refine s_skip ?_ | refine s_block ?_ | refine s_exit ?_ | refine s_label ?_)
        refine d_look (some (j, .agg .nil)) rfl rfl rfl rfl rfl rfl rfl rfl rfl rfl rfl rfl rfl hj ?_
        repeat (first | refine s_seq ?_ | refine s_region ?_ | refine o_nil ?_ | refine d_nil ?_ | refine oA rfl rfl trivial ?_ | refine oB rfl rfl rfl (fun _ _ => ?_) | refine oC rfl rfl rfl trivial ?_ | refine dA rfl rfl trivial ?_ | refine dB rfl rfl rfl (fun _ _ => ?_) | refine dC rfl rfl rfl trivial ?_ | refine s_skip ?_ | refine s_block ?_ | refine s_exit ?_ | refine s_label ?_)
        refine s_draw rD55_6 rM55_6 rX55_6 rN55_6 rfl rfl ?_
        repeat (first | refine s_seq ?_ | refine s_region ?_ | refine o_nil ?_ | refine d_nil ?_ | refine oA rfl rfl trivial ?_ | refine oB rfl rfl rfl (fun _ _ => ?_) | refine oC rfl rfl rfl trivial ?_ | refine dA rfl rfl trivial ?_ | refine dB rfl rfl rfl (fun _ _ => ?_) | refine dC rfl rfl rfl trivial ?_ | refine s_skip ?_ | refine s_block ?_ | refine s_exit ?_ | refine s_label ?_)
        refine s_ret ?_
        refine .inr ⟨69, [.ptr ⟨900, 0, b, 0, 5, 0, 0, 0, false⟩], [(900, _)], _, _, _, _, rfl, unlock_body, unlock_dfr (L := muLink) muLib row21_ok rfl ⟨⟨⟨⟨rfl, rfl, rfl, Nat.zero_lt_one⟩, rfl⟩, rfl⟩, ⟨rfl, rfl, rfl, Nat.zero_lt_one⟩, rfl⟩, le_close (n := 900) (.reg b ents recs) (IsReg b ents recs) [900, 901, 902, 903, 999] (samBs H b bS bR bG lS lR lG cS cR cG) rfl (by decide) ⟨⟨⟨_, rfl, Blk.le_rowc (Nat.le_refl _) fun _ _ => ⟨rfl, rfl⟩⟩, fun _ h => h⟩, ⟨⟨_, rfl, Blk.le_refl _⟩, fun _ h => h⟩, ⟨⟨_, rfl, Blk.le_refl _⟩, fun _ h => h⟩, ⟨⟨_, rfl, Blk.le_refl _⟩, fun _ h => h⟩, ⟨⟨_, rfl, Blk.le_refl _⟩, fun _ h => h⟩, trivial⟩ (fun w hh _ => reg_same hF hh), rfl, ⟨trivial, trivial⟩, _, trivial, ?_, ⟨⟨_, rfl, Blk.le_refl _⟩, fun _ h => h⟩, trivial⟩
        show _ = (AV.v (.bool (hasR recs (a, strOf n fun i => .v (.int .u8 (f i))) && intsEq 16 s (seaF K B0 a f n)))).val
        rw [hasR_iff.2 hin]
        rfl
      · skip
        refine s_draw rD55_5 rM55_5 rX55_5 rN55_5 rfl rfl ?_
        repeat (first | refine s_seq ?_ | refine s_region ?_ | refine o_nil ?_ | refine d_nil ?_ | refine oA rfl rfl trivial ?_ | refine oB rfl rfl rfl (fun _ _ => ?_) | refine oC rfl rfl rfl trivial ?_ | refine dA rfl rfl trivial ?_ | refine dB rfl rfl rfl (fun _ _ => ?_) | refine dC rfl rfl rfl trivial ?_ | refine s_skip ?_ | refine s_block ?_ | refine s_exit ?_ | refine s_label ?_)
        refine d_look none rfl rfl rfl rfl rfl rfl rfl rfl rfl rfl rfl rfl rfl (hF.miss_rc hin) ?_
        repeat (first | refine s_seq ?_ | refine s_region ?_ | refine o_nil ?_ | refine d_nil ?_ | refine oA rfl rfl trivial ?_ | refine oB rfl rfl rfl (fun _ _ => ?_) | refine oC rfl rfl rfl trivial ?_ | refine dA rfl rfl trivial ?_ | refine dB rfl rfl rfl (fun _ _ => ?_) | refine dC rfl rfl rfl trivial ?_ | refine s_skip ?_ | refine s_block ?_ | refine s_exit ?_ | refine s_label ?_)
        refine s_draw rD55_6 rM55_6 rX55_6 rN55_6 rfl rfl ?_
        repeat (first | refine s_seq ?_ | refine s_region ?_ | refine o_nil ?_ | refine d_nil ?_ | refine oA rfl rfl trivial ?_ | refine oB rfl rfl rfl (fun _ _ => ?_) | refine oC rfl rfl rfl trivial ?_ | refine dA rfl rfl trivial ?_ | refine dB rfl rfl rfl (fun _ _ => ?_) | refine dC rfl rfl rfl trivial ?_ | refine s_skip ?_ | refine s_block ?_ | refine s_exit ?_ | refine s_label ?_)
        refine s_ret ?_
        refine .inr ⟨69, [.ptr ⟨900, 0, b, 0, 5, 0, 0, 0, false⟩], [(900, _)], _, _, _, _, rfl, unlock_body, unlock_dfr (L := muLink) muLib row21_ok rfl ⟨⟨⟨⟨rfl, rfl, rfl, Nat.zero_lt_one⟩, rfl⟩, rfl⟩, ⟨rfl, rfl, rfl, Nat.zero_lt_one⟩, rfl⟩, le_close (n := 900) (.reg b ents recs) (IsReg b ents recs) [900, 901, 902, 903, 999] (samBs H b bS bR bG lS lR lG cS cR cG) rfl (by decide) ⟨⟨⟨_, rfl, Blk.le_rowc (Nat.le_refl _) fun _ _ => ⟨rfl, rfl⟩⟩, fun _ h => h⟩, ⟨⟨_, rfl, Blk.le_refl _⟩, fun _ h => h⟩, ⟨⟨_, rfl, Blk.le_refl _⟩, fun _ h => h⟩, ⟨⟨_, rfl, Blk.le_refl _⟩, fun _ h => h⟩, ⟨⟨_, rfl, Blk.le_refl _⟩, fun _ h => h⟩, trivial⟩ (fun w hh _ => reg_same hF hh), rfl, ⟨trivial, trivial⟩, _, trivial, ?_, ⟨⟨_, rfl, Blk.le_refl _⟩, fun _ h => h⟩, trivial⟩
        show _ = (AV.v (.bool (hasR recs (a, strOf n fun i => .v (.int .u8 (f i))) && intsEq 16 s (seaF K B0 a f n)))).val
        rw [show hasR recs (a, strOf n fun i => .v (.int .u8 (f i))) = false from Bool.eq_false_iff.2 fun h => hin (hasR_iff.1 h)]
        rfl
    · cases h0
  · cases h0
set_option maxRecDepth 100000 in
theorem check_body : HasBody Tryz.prog 55 := ⟨_, Tryz.func55, rfl, by decide⟩
end Go.Proofs.YtofophjfgalhaaaGreatDoor.V
