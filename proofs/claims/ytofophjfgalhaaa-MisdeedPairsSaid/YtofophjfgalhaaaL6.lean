import Derived.Test.YtofophjfgalhaaaF6
/-! MisdeedPairs: the plain law. -/
namespace Go.Proofs.Ytofophjfgalhaaa.D
open Go

theorem plain_eq (x : Vote) : plainV x = plainR x := by
  have hk : (decide (x.kind < 1) || decide (x.kind > 2)) = ((x.kind != 1) && (x.kind != 2)) := by
    rw [Bool.eq_iff_iff]; simp; omega
  have hh : heightB x.height = !heightR x.height := by
    rw [Bool.eq_iff_iff]; simp [heightB, heightR]
  have hr : roundB x.round = !roundR x.round := by
    rw [Bool.eq_iff_iff]; simp [roundB, roundR]
  have ht : momentB x.time = !timeR x.time := by
    rw [Bool.eq_iff_iff]; simp [momentB, timeR]
  unfold plainV plainR kindF fieldF
  rw [hk, hh, hr, ht]
  generalize ((x.kind != 1) && (x.kind != 2)) = a
  generalize heightR x.height = b
  generalize roundR x.round = c
  generalize timeR x.time = d
  generalize ((x.time != 0) && ((x.kind == 1) || intsEq 32 x.id zeroH)) = e
  generalize (x.from_ == 0) = f
  cases a <;> cases b <;> cases c <;> cases d <;> cases e <;> cases f <;> rfl

/-! ### the order of bytes -/
def byteOk (n : Int) : Prop := 0 ≤ n ∧ n < 256
theorem byte_lt {a b : Int} (ha : byteOk a) (hb : byteOk b) : (a.toNat.toUInt8 < b.toNat.toUInt8) ↔ a < b := by
  obtain ⟨h1, h2⟩ := ha
  obtain ⟨h3, h4⟩ := hb
  rw [UInt8.lt_iff_toNat_lt]
  simp only [Nat.toUInt8, UInt8.toNat_ofNat']
  omega

def bytesAt (a : List Int) (i n : Nat) : List UInt8 := (List.range' i n).map fun j => (a.getD j 0).toNat.toUInt8
theorem bytesAt_succ (a : List Int) (i n : Nat) : bytesAt a i (n + 1) = (a.getD i 0).toNat.toUInt8 :: bytesAt a (i + 1) n := by
  unfold bytesAt; rw [List.range'_succ, List.map_cons]

theorem cmp_at (a b : List Int) (ha : ∀ j, byteOk (a.getD j 0)) (hb : ∀ j, byteOk (b.getD j 0)) : ∀ n i,
    ((Lib.compareBytes (bytesAt a i n) (bytesAt b i n) == 0) = (List.range' i n).all fun j => a.getD j 0 == b.getD j 0) ∧
    decide (Lib.compareBytes (bytesAt a i n) (bytesAt b i n) > 0) = belowN b a n i ∧
    Lib.compareBytes (bytesAt a i n) (bytesAt b i n) = - Lib.compareBytes (bytesAt b i n) (bytesAt a i n)
  | 0, i => ⟨rfl, rfl, rfl⟩
  | n + 1, i => by
    obtain ⟨h1, h2, h3⟩ := cmp_at a b ha hb n (i + 1)
    rw [bytesAt_succ, bytesAt_succ, List.range'_succ, List.all_cons]
    simp only [Lib.compareBytes, byte_lt (ha i) (hb i), byte_lt (hb i) (ha i), belowN]
    rcases Int.lt_trichotomy (a.getD i 0) (b.getD i 0) with h | h | h
    · have hn : ¬ b.getD i 0 < a.getD i 0 := by omega
      have he : (a.getD i 0 == b.getD i 0) = false := by rw [beq_eq_false_iff_ne]; omega
      have hne : (b.getD i 0 != a.getD i 0) = true := by rw [bne_iff_ne]; omega
      rw [if_pos h, he, if_pos hne, if_neg hn, if_pos h]
      exact ⟨rfl, by rw [decide_eq_false hn]; rfl, rfl⟩
    · rw [h]
      simp only [Int.lt_irrefl, if_false, BEq.rfl, Bool.true_and, bne_self_eq_false, Bool.false_eq_true]
      exact ⟨h1, h2, h3⟩
    · have hn : ¬ a.getD i 0 < b.getD i 0 := by omega
      have he : (a.getD i 0 == b.getD i 0) = false := by rw [beq_eq_false_iff_ne]; omega
      have hne : (b.getD i 0 != a.getD i 0) = true := by rw [bne_iff_ne]; omega
      rw [if_neg hn, if_pos h, he, if_pos hne, if_pos h]
      exact ⟨rfl, by rw [decide_eq_true h]; rfl, rfl⟩

theorem bytes_at (a : List Int) (n : Nat) : Lib.bytesOf (intsOf n fun i => .v (.int .u8 (a.getD (0 + i) 0))) = bytesAt a 0 n := by
  unfold Lib.bytesOf intsOf bytesAt
  rw [List.range_eq_range', List.map_map]
  refine List.map_congr_left fun j _ => ?_
  simp [intOfA]

/-- a vote whose id's bytes are bytes -/
def okV (x : Vote) : Prop := ∀ j, byteOk (x.id.getD j 0)
theorem cmpV_eq (x y : Vote) (hx : okV x) (hy : okV y) : (cmpV x y == 0) = intsEq 32 x.id y.id ∧ decide (cmpV x y > 0) = belowN y.id x.id 32 0 ∧ cmpV x y = - cmpV y x := by
  have h := cmp_at x.id y.id hx hy 32 0
  unfold cmpV cmpI
  rw [bytes_at, bytes_at]
  refine ⟨?_, h.2.1, h.2.2⟩
  rw [h.1]; unfold intsEq; rw [List.range_eq_range']

theorem pair_eq (x y : Vote) (hx : okV x) (hy : okV y) : pairP x y = pairR x y := by
  obtain ⟨h1, h2, _⟩ := cmpV_eq x y hx hy
  unfold pairP pairR eR
  rw [h1, h2, plain_eq x, plain_eq y]
  by_cases hz : plainR x = 0
  · rw [hz]; simp
  · have a1 : (plainR x != 0) = true := bne_iff_ne.2 hz
    have a2 : (plainR x == 0) = false := by rw [beq_eq_false_iff_ne]; exact hz
    rw [a1, a2]; simp [a1]

theorem pair_swap (x y : Vote) (hx : okV x) (hy : okV y) (h0 : (pairR x y).2 = 0) : (pairP x y).1 = (pairP y x).1 := by
  rw [← pair_eq x y hx hy] at h0
  obtain ⟨h1, h2, h3⟩ := cmpV_eq x y hx hy
  have e : (((((x.from_ != y.from_) || (x.height != y.height)) || (x.round != y.round)) || (x.kind != y.kind)) || (cmpV x y == 0)) = (((((y.from_ != x.from_) || (y.height != x.height)) || (y.round != x.round)) || (y.kind != x.kind)) || (cmpV y x == 0)) := by
    have e1 : (cmpV x y == 0) = (cmpV y x == 0) := by
      rw [Bool.eq_iff_iff]; simp; omega
    rw [e1, bne_comm (a := x.from_), bne_comm (a := x.height), bne_comm (a := x.round), bne_comm (a := x.kind)]
  unfold pairP at h0 ⊢
  split at h0
  · rename_i hp; simp at hp; exact absurd h0 hp
  · rename_i hp
    rw [if_neg hp]
    split at h0
    · rename_i hq; simp at hq; exact absurd h0 hq
    · rename_i hq
      rw [if_neg hq, if_neg hq, if_neg hp]
      split at h0
      · simp at h0
      · rename_i hc
        have hc0 : cmpV x y ≠ 0 := fun h => hc (by simp [h])
        rw [if_neg hc, if_neg (show ¬ (((((y.from_ != x.from_) || (y.height != x.height)) || (y.round != x.round)) || (y.kind != x.kind)) || (cmpV y x == 0)) = true from e ▸ hc)]
        by_cases hg : cmpV x y > 0
        · rw [if_pos (decide_eq_true hg), if_neg (by simp; omega)]
        · rw [if_neg (by simpa using hg), if_pos (decide_eq_true (by omega))]
end Go.Proofs.Ytofophjfgalhaaa.D
