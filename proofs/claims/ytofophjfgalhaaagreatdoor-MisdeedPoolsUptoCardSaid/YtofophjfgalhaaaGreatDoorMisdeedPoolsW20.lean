import Derived.Test.YtofophjfgalhaaaGreatDoorMisdeedPoolsW07
import Derived.Test.YtofophjfgalhaaaGreatDoorMisdeedPoolsW17
import Derived.Test.YtofophjfgalhaaaGreatDoorMisdeedPoolsW18
import Derived.Test.YtofophjfgalhaaaGreatDoorMisdeedPoolsW19
set_option linter.unusedVariables false
set_option linter.unusedSimpArgs false
set_option maxRecDepth 100000
set_option maxHeartbeats 8000000
namespace Go.Proofs.YtofophjfgalhaaaGreatDoor.V
open Go Go.RowKit
theorem wrap_u64_nonneg (x : Int) : 0 ≤ IntKind.u64.wrap x := by
 unfold IntKind.wrap
 simp only [IntKind.signed, IntKind.bits, Bool.false_and, Bool.false_eq_true, if_false]
 omega
def rotS (k : Int) : Int := IntKind.u64.wrap (BitVec.ofInt 64 (IntKind.u64.wrap k) &&& BitVec.ofInt 64 31).toNat
def rotF (x k : Int) : Int := IntKind.u32.wrap (BitVec.ofInt 32 (IntKind.u32.wrap (x * 2 ^ min (rotS k).toNat 32)) ||| BitVec.ofInt 32 (x.fdiv (2 ^ min (IntKind.u64.wrap (32 - rotS k)).toNat 32))).toNat
def rotC (args : List AV) (_M : MemF) : Option (Prop × AV) := match args with
 | [.v (.int .u32 x), .v (.int .i64 k)] => some (True, .v (.int .u32 (rotF x k)))
 | _ => none
theorem rot_read : ReadFn Tryz.prog 218 rotC := by
 intro args M q res h hq O w0 w hS
 unfold rotC at h
 split at h
 ·
  rename_i x k
  cases h
  refine ro_fn tabs (ct := []) trivial (cr := []) trivial Tryz.func218 rfl rfl (M := []) rfl trivial trivial ?_
  repeat (first | refine qs_ ?_ | refine qa_ ?_ | refine qo_ ?_ | refine qd_ ?_ | refine za ?_ | refine zb fun _ _ => ?_ | refine zc ?_ | refine ya ?_ | refine yb fun _ _ => ?_ | refine yc ?_ | refine qk_ ?_ | refine qb_ ?_ | refine qx_ ?_)
  refine o_val rfl rfl trivial ⟨trivial, trivial, wrap_u64_nonneg _⟩ ?_
  repeat (first | refine qs_ ?_ | refine qa_ ?_ | refine qo_ ?_ | refine qd_ ?_ | refine za ?_ | refine zb fun _ _ => ?_ | refine zc ?_ | refine ya ?_ | refine yb fun _ _ => ?_ | refine yc ?_ | refine qk_ ?_ | refine qb_ ?_ | refine qx_ ?_)
  refine o_val rfl rfl trivial ⟨trivial, trivial, wrap_u64_nonneg _⟩ ?_
  repeat (first | refine qs_ ?_ | refine qa_ ?_ | refine qo_ ?_ | refine qd_ ?_ | refine za ?_ | refine zb fun _ _ => ?_ | refine zc ?_ | refine ya ?_ | refine yb fun _ _ => ?_ | refine yc ?_ | refine qk_ ?_ | refine qb_ ?_ | refine qx_ ?_)
  refine s_ret ?_
  exact ⟨_, _, rfl, ⟨trivial, trivial⟩, rfl, rfl⟩
 ·
  cases h
theorem rot_body : HasBody Tryz.prog 218 := ⟨_, Tryz.func218, rfl, by decide⟩
def aI (l : List Int) (i : Int) : Int := l.getD (0 + i.toNat) 0
def pI (n : Nat) (l : List Int) (i : Int) (x : Int) : List Int := lset n l (0 + i.toNat) x
def i64 (x : Int) : Int := IntKind.i64.wrap x
def addW (a b : Int) : Int := IntKind.u32.wrap (a + b)
def orW (a b : Int) : Int := IntKind.u32.wrap (BitVec.ofInt 32 a ||| BitVec.ofInt 32 b).toNat
def xorW (a b : Int) : Int := IntKind.u32.wrap (BitVec.ofInt 32 a ^^^ BitVec.ofInt 32 b).toNat
def andW (a b : Int) : Int := IntKind.u32.wrap (BitVec.ofInt 32 a &&& BitVec.ofInt 32 b).toNat
def notW (a : Int) : Int := IntKind.u32.wrap (BitVec.ofInt 32 (if IntKind.u32.signed then -1 else IntKind.u32.max) ^^^ BitVec.ofInt 32 a).toNat
def shlW (a n : Int) : Int := IntKind.u32.wrap (a * 2 ^ min n.toNat 32)
def shrW (a n : Int) : Int := a.fdiv (2 ^ min n.toNat 32)
def byW (x : Int) : Int := IntKind.u32.wrap x
def wordF (c : List Int) (i : Int) : Int :=
 orW (orW (orW (shlW (byW (aI c (i64 (4 * i)))) 24) (shlW (byW (aI c (i64 (i64 (4 * i) + 1)))) 16)) (shlW (byW (aI c (i64 (i64 (4 * i) + 2)))) 8)) (byW (aI c (i64 (i64 (4 * i) + 3))))
def sch1 (c : List Int) : Nat → Nat → List Int → List Int
 | 0, _, w => w
 | n + 1, k, w => sch1 c n (k + 1) (pI 64 w k (wordF c k))
def sigA (x : Int) : Int := xorW (xorW (rotF x (-7)) (rotF x (-18))) (shrW x 3)
def sigB (x : Int) : Int := xorW (xorW (rotF x (-17)) (rotF x (-19))) (shrW x 10)
def schF (w : List Int) (i : Int) : Int := addW (addW (addW (aI w (i64 (i - 16))) (sigA (aI w (i64 (i - 15))))) (aI w (i64 (i - 7)))) (sigB (aI w (i64 (i - 2))))
def sch2 : Nat → Nat → List Int → List Int
 | 0, _, w => w
 | n + 1, k, w => sch2 n (k + 1) (pI 64 w k (schF w k))
def rndT (K w v : List Int) (i : Int) : Int :=
 addW (addW (addW (addW (aI v 7) (xorW (xorW (rotF (aI v 4) (-6)) (rotF (aI v 4) (-11))) (rotF (aI v 4) (-25)))) (xorW (andW (aI v 4) (aI v 5)) (andW (notW (aI v 4)) (aI v 6)))) (aI K i)) (aI w i)
def rndU (v : List Int) : Int :=
 addW (xorW (xorW (rotF (aI v 0) (-2)) (rotF (aI v 0) (-13))) (rotF (aI v 0) (-22))) (xorW (xorW (andW (aI v 0) (aI v 1)) (andW (aI v 0) (aI v 2))) (andW (aI v 1) (aI v 2)))
def zs (n : Nat) : List Int := List.replicate n 0
def rnd (K w v : List Int) (i : Int) : List Int :=
 lset 8 (lset 8 (lset 8 (lset 8 (lset 8 (lset 8 (lset 8 (lset 8 (zs 8) 0 (addW (rndT K w v i) (rndU v))) 1 (aI v 0)) 2 (aI v 1)) 3 (aI v 2)) 4 (addW (aI v 3) (rndT K w v i))) 5 (aI v 4)) 6 (aI v 5)) 7 (aI v 6)
def rnds (K w : List Int) : Nat → Nat → List Int → List Int
 | 0, _, v => v
 | n + 1, k, v => rnds K w n (k + 1) (rnd K w v k)
def sumL (v : List Int) : Nat → Nat → List Int → List Int
 | 0, _, s => s
 | n + 1, k, s => sumL v n (k + 1) (pI 8 s k (addW (aI s k) (aI v k)))
def mixF (K s c : List Int) : List Int := sumL (rnds K (sch2 48 16 (sch1 c 16 0 (zs 64))) 64 0 s) 8 0 s
def mixC (args : List AV) (M : MemF) : Option (Prop × AV) := match args, M 100004 with
 | [.ints .u32 8 s, .ints .u8 64 c], some (.var 4 (.ints .u32 64 K)) => some (True, .ints .u32 8 (mixF K s c))
 | _, _ => none
def ctMix : CtL := [(218, rotC)]
theorem ctMix_ok : CtLOk Tryz.prog ctMix := ⟨.fn rot_body rot_read, trivial⟩
theorem mix_read : ReadFn Tryz.prog 217 mixC := by
 intro args M q res h hq O w0 w hS
 unfold mixC at h
 split at h
 ·
  rename_i s c K hM
  cases h
  have hK := hS.holds _ _ hM
  refine ro_fn tabs ctMix_ok (cr := []) trivial Tryz.func217 rfl rfl (M := [(100004, .var 4 (.ints .u32 64 K))]) rfl ⟨fun _ h => h, trivial⟩ ⟨hK, trivial⟩ ?_
  repeat (first | refine qs_ ?_ | refine qa_ ?_ | refine qo_ ?_ | refine qd_ ?_ | refine za ?_ | refine zb fun _ _ => ?_ | refine zc ?_ | refine ya ?_ | refine yb fun _ _ => ?_ | refine yc ?_ | refine qk_ ?_ | refine qb_ ?_ | refine qx_ ?_)
  rename_i b2 _ b3 _ b4 _ b5 _
  refine s_loopW (α := Nat × List Int) [6, 19, 20, 21, 22, 23, 24, 25, 26, 27, 28, 29, 30, 31, 32, 33, 34, 35, 36, 37, 38, 39, 40, 41, 42, 43, 44, 45, 46, 47, 48, 49, 50, 51, 52, 53] [5] (fun x => x.1 ≤ 16 ∧ sch1 c 16 0 (zs 64) = sch1 c (16 - x.1) x.1 x.2) (fun x => [(19, none, .v (.int .i64 x.1))]) (fun x => [(5, .row b5 334 64 1 (fun _ => .ints .u32 64 x.2) 1)]) (fun x => 16 - x.1) (0, zs 64) ⟨by decide, rfl⟩ ?_ ?_
  ·
   exact leQ
  ·
   intro ⟨k, wl⟩ ⟨hk, hz⟩
   dsimp only at hk hz
   repeat (first | refine qs_ ?_ | refine qa_ ?_ | refine qo_ ?_ | refine qd_ ?_ | refine za ?_ | refine zb fun _ _ => ?_ | refine zc ?_ | refine ya ?_ | refine yb fun _ _ => ?_ | refine yc ?_ | refine qk_ ?_ | refine qb_ ?_ | refine qx_ ?_)
   refine s_cond (b := decide ((k : Int) < 16)) rfl (fun hb => ?_) (fun hb => ?_)
   ·
    have hlt : k < 16 := by simp at hb; omega
    have hs : 16 - k = (16 - (k + 1)) + 1 := by omega
    rw [hs, sch1] at hz
    repeat (first | refine qs_ ?_ | refine qa_ ?_ | refine qo_ ?_ | refine qd_ ?_ | refine za ?_ | refine zb fun _ _ => ?_ | refine zc ?_ | refine ya ?_ | refine yb fun _ _ => ?_ | refine yc ?_ | refine qk_ ?_ | refine qb_ ?_ | refine qx_ ?_)
    refine s_draw rD217_5 rM217_5 [(5, [31])] rN217_5 rfl rfl ?_
    repeat (first | refine qs_ ?_ | refine qa_ ?_ | refine qo_ ?_ | refine qd_ ?_ | refine za ?_ | refine zb fun _ _ => ?_ | refine zc ?_ | refine ya ?_ | refine yb fun _ _ => ?_ | refine yc ?_ | refine qk_ ?_ | refine qb_ ?_ | refine qx_ ?_)
    refine ⟨(k + 1, pI 64 wl k (wordF c k)), ⟨by dsimp only; omega, hz⟩, by dsimp only; omega, ?_⟩
    exact leQ
   ·
    have hge : k = 16 := by simp at hb; omega
    subst hge
    have hz1 : sch1 c 16 0 (zs 64) = wl := hz
    repeat (first | refine qs_ ?_ | refine qa_ ?_ | refine qo_ ?_ | refine qd_ ?_ | refine za ?_ | refine zb fun _ _ => ?_ | refine zc ?_ | refine ya ?_ | refine yb fun _ _ => ?_ | refine yc ?_ | refine qk_ ?_ | refine qb_ ?_ | refine qx_ ?_)
    refine s_loopW (α := Nat × List Int) [7, 8, 9, 10, 11, 54, 55, 56, 57, 58, 59, 60, 61, 62, 63, 64, 65, 66, 67, 68, 69, 70, 71, 72, 73, 74, 75, 76, 77, 78, 79, 80, 81, 82, 83, 84, 85, 86, 87, 88, 89, 90, 91, 92, 93, 94, 95, 96] [5] (fun x => (16 ≤ x.1 ∧ x.1 ≤ 64) ∧ sch2 48 16 wl = sch2 (64 - x.1) x.1 x.2) (fun x => [(7, none, .v (.int .i64 x.1))]) (fun x => [(5, .row b5 334 64 1 (fun _ => .ints .u32 64 x.2) 1)]) (fun x => 64 - x.1) (16, wl) ⟨by dsimp only; omega, rfl⟩ ?_ ?_
    ·
     exact leQ
    ·
     intro ⟨k2, w2⟩ ⟨hk2, hz2⟩
     dsimp only at hk2 hz2
     repeat (first | refine qs_ ?_ | refine qa_ ?_ | refine qo_ ?_ | refine qd_ ?_ | refine za ?_ | refine zb fun _ _ => ?_ | refine zc ?_ | refine ya ?_ | refine yb fun _ _ => ?_ | refine yc ?_ | refine qk_ ?_ | refine qb_ ?_ | refine qx_ ?_)
     refine s_cond (b := decide ((k2 : Int) < 64)) rfl (fun hb2 => ?_) (fun hb2 => ?_)
     ·
      have hlt : k2 < 64 := by simp at hb2; omega
      have hs : 64 - k2 = (64 - (k2 + 1)) + 1 := by omega
      rw [hs, sch2] at hz2
      repeat (first | refine qs_ ?_ | refine qa_ ?_ | refine qo_ ?_ | refine qd_ ?_ | refine za ?_ | refine zb fun _ _ => ?_ | refine zc ?_ | refine ya ?_ | refine yb fun _ _ => ?_ | refine yc ?_ | refine qk_ ?_ | refine qb_ ?_ | refine qx_ ?_)
      refine s_draw rD217_10 rM217_10 rX217_10 rN217_10 rfl rfl ?_
      repeat (first | refine qs_ ?_ | refine qa_ ?_ | refine qo_ ?_ | refine qd_ ?_ | refine za ?_ | refine zb fun _ _ => ?_ | refine zc ?_ | refine ya ?_ | refine yb fun _ _ => ?_ | refine yc ?_ | refine qk_ ?_ | refine qb_ ?_ | refine qx_ ?_)
      refine s_draw rD217_13 rM217_13 [(5, [15])] rN217_13 rfl rfl ?_
      repeat (first | refine qs_ ?_ | refine qa_ ?_ | refine qo_ ?_ | refine qd_ ?_ | refine za ?_ | refine zb fun _ _ => ?_ | refine zc ?_ | refine ya ?_ | refine yb fun _ _ => ?_ | refine yc ?_ | refine qk_ ?_ | refine qb_ ?_ | refine qx_ ?_)
      refine ⟨(k2 + 1, pI 64 w2 k2 (schF w2 k2)), ⟨by dsimp only; omega, hz2⟩, by dsimp only; omega, ?_⟩
      exact leQ
     ·
      have hge : k2 = 64 := by simp at hb2; omega
      subst hge
      have hz3 : sch2 48 16 wl = w2 := hz2
      repeat (first | refine qs_ ?_ | refine qa_ ?_ | refine qo_ ?_ | refine qd_ ?_ | refine za ?_ | refine zb fun _ _ => ?_ | refine zc ?_ | refine ya ?_ | refine yb fun _ _ => ?_ | refine yc ?_ | refine qk_ ?_ | refine qb_ ?_ | refine qx_ ?_)
      rename_i b12 _
      refine s_loopW (α := Nat × List Int) [13, 14, 15, 16, 17, 98, 99, 100, 101, 102, 103, 104, 105, 106, 107, 108, 109, 110, 111, 112, 113, 114, 115, 116, 117, 118, 119, 120, 121, 122, 123, 124, 125, 126, 127, 128, 129, 130, 131, 132, 133, 134, 135, 136, 137, 138, 139, 140, 141, 142, 143, 144, 145, 146, 147, 148, 149, 150, 151, 152, 153, 154, 155, 156, 157, 158, 159, 160, 161, 162, 163, 164, 165, 166, 167, 168, 169, 170, 171, 172, 173, 174, 175, 176, 177] [12] (fun x => x.1 ≤ 64 ∧ rnds K w2 64 0 s = rnds K w2 (64 - x.1) x.1 x.2) (fun x => [(98, none, .v (.int .i64 x.1))]) (fun x => [(12, .row b12 339 8 1 (fun _ => .ints .u32 8 x.2) 1)]) (fun x => 64 - x.1) (0, s) ⟨by dsimp only; omega, rfl⟩ ?_ ?_
      ·
       exact leQ
      ·
       intro ⟨k3, v3⟩ ⟨hk3, hz4⟩
       dsimp only at hk3 hz4
       repeat (first | refine qs_ ?_ | refine qa_ ?_ | refine qo_ ?_ | refine qd_ ?_ | refine za ?_ | refine zb fun _ _ => ?_ | refine zc ?_ | refine ya ?_ | refine yb fun _ _ => ?_ | refine yc ?_ | refine qk_ ?_ | refine qb_ ?_ | refine qx_ ?_)
       refine s_cond (b := decide ((k3 : Int) < 64)) rfl (fun hb3 => ?_) (fun hb3 => ?_)
       ·
        have hlt : k3 < 64 := by simp at hb3; omega
        have hs : 64 - k3 = (64 - (k3 + 1)) + 1 := by omega
        rw [hs, rnds] at hz4
        repeat (first | refine qs_ ?_ | refine qa_ ?_ | refine qo_ ?_ | refine qd_ ?_ | refine za ?_ | refine zb fun _ _ => ?_ | refine zc ?_ | refine ya ?_ | refine yb fun _ _ => ?_ | refine yc ?_ | refine qk_ ?_ | refine qb_ ?_ | refine qx_ ?_)
        refine s_draw rD217_18 rM217_18 rX217_18 rN217_18 rfl rfl ?_
        repeat (first | refine qs_ ?_ | refine qa_ ?_ | refine qo_ ?_ | refine qd_ ?_ | refine za ?_ | refine zb fun _ _ => ?_ | refine zc ?_ | refine ya ?_ | refine yb fun _ _ => ?_ | refine yc ?_ | refine qk_ ?_ | refine qb_ ?_ | refine qx_ ?_)
        refine s_draw rD217_19 rM217_19 rX217_19 rN217_19 rfl rfl ?_
        repeat (first | refine qs_ ?_ | refine qa_ ?_ | refine qo_ ?_ | refine qd_ ?_ | refine za ?_ | refine zb fun _ _ => ?_ | refine zc ?_ | refine ya ?_ | refine yb fun _ _ => ?_ | refine yc ?_ | refine qk_ ?_ | refine qb_ ?_ | refine qx_ ?_)
        refine s_draw rD217_20 rM217_20 rX217_20 rN217_20 rfl rfl ?_
        repeat (first | refine qs_ ?_ | refine qa_ ?_ | refine qo_ ?_ | refine qd_ ?_ | refine za ?_ | refine zb fun _ _ => ?_ | refine zc ?_ | refine ya ?_ | refine yb fun _ _ => ?_ | refine yc ?_ | refine qk_ ?_ | refine qb_ ?_ | refine qx_ ?_)
        refine ⟨(k3 + 1, rnd K w2 v3 k3), ⟨by dsimp only; omega, hz4⟩, by dsimp only; omega, ?_⟩
        exact leQ
       ·
        have hge : k3 = 64 := by simp at hb3; omega
        subst hge
        have hz5 : rnds K w2 64 0 s = v3 := hz4
        repeat (first | refine qs_ ?_ | refine qa_ ?_ | refine qo_ ?_ | refine qd_ ?_ | refine za ?_ | refine zb fun _ _ => ?_ | refine zc ?_ | refine ya ?_ | refine yb fun _ _ => ?_ | refine yc ?_ | refine qk_ ?_ | refine qb_ ?_ | refine qx_ ?_)
        refine s_loopW (α := Nat × List Int) [18, 178, 179, 180, 181, 182, 183, 184, 185, 186, 187, 188, 189] [2] (fun x => x.1 ≤ 8 ∧ sumL v3 8 0 s = sumL v3 (8 - x.1) x.1 x.2) (fun x => [(178, none, .v (.int .i64 x.1))]) (fun x => [(2, .row b2 339 8 1 (fun _ => .ints .u32 8 x.2) 1)]) (fun x => 8 - x.1) (0, s) ⟨by dsimp only; omega, rfl⟩ ?_ ?_
        ·
         exact leQ
        ·
         intro ⟨k4, v4⟩ ⟨hk4, hz6⟩
         dsimp only at hk4 hz6
         repeat (first | refine qs_ ?_ | refine qa_ ?_ | refine qo_ ?_ | refine qd_ ?_ | refine za ?_ | refine zb fun _ _ => ?_ | refine zc ?_ | refine ya ?_ | refine yb fun _ _ => ?_ | refine yc ?_ | refine qk_ ?_ | refine qb_ ?_ | refine qx_ ?_)
         refine s_cond (b := decide ((k4 : Int) < 8)) rfl (fun hb4 => ?_) (fun hb4 => ?_)
         ·
          have hlt : k4 < 8 := by simp at hb4; omega
          have hs : 8 - k4 = (8 - (k4 + 1)) + 1 := by omega
          rw [hs, sumL] at hz6
          repeat (first | refine qs_ ?_ | refine qa_ ?_ | refine qo_ ?_ | refine qd_ ?_ | refine za ?_ | refine zb fun _ _ => ?_ | refine zc ?_ | refine ya ?_ | refine yb fun _ _ => ?_ | refine yc ?_ | refine qk_ ?_ | refine qb_ ?_ | refine qx_ ?_)
          refine s_draw rD217_26 rM217_26 [(2, [8])] rN217_26 rfl rfl ?_
          repeat (first | refine qs_ ?_ | refine qa_ ?_ | refine qo_ ?_ | refine qd_ ?_ | refine za ?_ | refine zb fun _ _ => ?_ | refine zc ?_ | refine ya ?_ | refine yb fun _ _ => ?_ | refine yc ?_ | refine qk_ ?_ | refine qb_ ?_ | refine qx_ ?_)
          refine ⟨(k4 + 1, pI 8 v4 k4 (addW (aI v4 k4) (aI v3 k4))), ⟨by dsimp only; omega, hz6⟩, by dsimp only; omega, ?_⟩
          exact leQ
         ·
          have hge : k4 = 8 := by simp at hb4; omega
          subst hge
          have hz7 : sumL v3 8 0 s = v4 := hz6
          have hfin : mixF K s c = v4 := by unfold mixF; rw [hz1, hz3, hz5, hz7]
          repeat (first | refine qs_ ?_ | refine qa_ ?_ | refine qo_ ?_ | refine qd_ ?_ | refine za ?_ | refine zb fun _ _ => ?_ | refine zc ?_ | refine ya ?_ | refine yb fun _ _ => ?_ | refine yc ?_ | refine qk_ ?_ | refine qb_ ?_ | refine qx_ ?_)
          refine s_ret ?_
          exact ⟨_, _, rfl, ⟨⟨⟨rfl, rfl, rfl, Nat.zero_lt_one⟩, rfl⟩, trivial⟩, rfl, by rw [hfin]; rfl⟩
 ·
  cases h
theorem mix_body : HasBody Tryz.prog 217 := ⟨_, Tryz.func217, rfl, by decide⟩
def turnF (x n : Int) : Int := IntKind.u32.wrap (BitVec.ofInt 32 (x.fdiv (2 ^ min n.toNat 32)) ||| BitVec.ofInt 32 (IntKind.u32.wrap (x * 2 ^ min (IntKind.u64.wrap (32 - n)).toNat 32))).toNat
def turnC (args : List AV) (_M : MemF) : Option (Prop × AV) := match args with
 | [.v (.int .u32 x), .v (.int .u64 n)] => some (0 ≤ n, .v (.int .u32 (turnF x n)))
 | _ => none
theorem turn_read : ReadFn Tryz.prog 214 turnC := by
 intro args M q res h hq O w0 w hS
 unfold turnC at h
 split at h
 ·
  rename_i x n
  cases h
  refine ro_fn tabs (ct := []) trivial (cr := []) trivial Tryz.func214 rfl rfl (M := []) rfl trivial trivial ?_
  repeat (first | refine qs_ ?_ | refine qa_ ?_ | refine qo_ ?_ | refine qd_ ?_ | refine za ?_ | refine zb fun _ _ => ?_ | refine zc ?_ | refine ya ?_ | refine yb fun _ _ => ?_ | refine yc ?_ | refine qk_ ?_ | refine qb_ ?_ | refine qx_ ?_)
  refine o_val rfl rfl trivial ⟨trivial, trivial, wrap_u64_nonneg _⟩ ?_
  repeat (first | refine qs_ ?_ | refine qa_ ?_ | refine qo_ ?_ | refine qd_ ?_ | refine za ?_ | refine zb fun _ _ => ?_ | refine zc ?_ | refine ya ?_ | refine yb fun _ _ => ?_ | refine yc ?_ | refine qk_ ?_ | refine qb_ ?_ | refine qx_ ?_)
  refine s_ret ?_
  exact ⟨_, _, rfl, ⟨trivial, trivial⟩, rfl, rfl⟩
 ·
  cases h
theorem turn_body : HasBody Tryz.prog 214 := ⟨_, Tryz.func214, rfl, by decide⟩
theorem seq_plain {M : MemF} {x : AV} {r : Prop × Nat × Nat × (Nat → AV)} (h : seqOf M x = some r) : x.cells = [x.val] := by
 cases x <;> first | rfl | (simp [seqOf] at h)
theorem bytes_ro {O : Nat → Prop} {w0 w : World} {M : MemF} (hS : Sat O w0 M w) {x : AV} {c : Prop} {es n : Nat} {f : Nat → AV} (h : seqOf M x = some (c, es, n, f)) (hc : c) (he : n ≠ 0 → es = 1) (hf : ∀ i, i < n → f i = .v (.int .u8 (f i).int1)) :
  ∃ base cap, x.val = slV base n cap ∧ (roB base 1 n fun i => .v (.int .u8 (f i).int1)).holds w := by
 obtain ⟨base, cap, hv, hr⟩ := seqOf_spec hS h hc
 refine ⟨base, cap, hv, roB_holds fun h0 => ?_⟩
 obtain ⟨b, o, hb, hR⟩ := hr h0
 rw [he h0] at hR
 exact ⟨b, o, hb, hR.congr hf⟩
def bI (b : Nat → Int) (e : Int) : Int := b (e.toNat + 0)
def wordR (b : Nat → Int) (i : Int) : Int :=
 orW (orW (orW (shlW (byW (bI b (i64 (4 * i)))) 24) (shlW (byW (bI b (i64 (i64 (4 * i) + 1)))) 16)) (shlW (byW (bI b (i64 (i64 (4 * i) + 2)))) 8)) (byW (bI b (i64 (i64 (4 * i) + 3))))
def schR1 (b : Nat → Int) : Nat → Nat → List Int → List Int
 | 0, _, w => w
 | n + 1, k, w => schR1 b n (k + 1) (pI 64 w k (wordR b k))
def sigAR (x : Int) : Int := xorW (xorW (turnF x 7) (turnF x 18)) (shrW x 3)
def sigBR (x : Int) : Int := xorW (xorW (turnF x 17) (turnF x 19)) (shrW x 10)
def schRF (w : List Int) (i : Int) : Int := addW (addW (addW (aI w (i64 (i - 16))) (sigAR (aI w (i64 (i - 15))))) (aI w (i64 (i - 7)))) (sigBR (aI w (i64 (i - 2))))
def schR2 : Nat → Nat → List Int → List Int
 | 0, _, w => w
 | n + 1, k, w => schR2 n (k + 1) (pI 64 w k (schRF w k))
def rndRT (K w v : List Int) (i : Int) : Int :=
 addW (addW (addW (addW (aI v 7) (xorW (xorW (turnF (aI v 4) 6) (turnF (aI v 4) 11)) (turnF (aI v 4) 25))) (xorW (andW (aI v 4) (aI v 5)) (andW (notW (aI v 4)) (aI v 6)))) (aI K i)) (aI w i)
def rndRZ (v : List Int) : Int := xorW (xorW (turnF (aI v 0) 2) (turnF (aI v 0) 13)) (turnF (aI v 0) 22)
def rndRM (v : List Int) : Int := xorW (xorW (andW (aI v 0) (aI v 1)) (andW (aI v 0) (aI v 2))) (andW (aI v 1) (aI v 2))
def rv1 (v : List Int) : List Int := pI 8 v 7 (aI v 6)
def rv2 (v : List Int) : List Int := pI 8 (rv1 v) 6 (aI (rv1 v) 5)
def rv3 (v : List Int) : List Int := pI 8 (rv2 v) 5 (aI (rv2 v) 4)
def rv4 (t : Int) (v : List Int) : List Int := pI 8 (rv3 v) 4 (addW (aI (rv3 v) 3) t)
def rv5 (t : Int) (v : List Int) : List Int := pI 8 (rv4 t v) 3 (aI (rv4 t v) 2)
def rv6 (t : Int) (v : List Int) : List Int := pI 8 (rv5 t v) 2 (aI (rv5 t v) 1)
def rv7 (t : Int) (v : List Int) : List Int := pI 8 (rv6 t v) 1 (aI (rv6 t v) 0)
def rndR (K w v : List Int) (i : Int) : List Int := pI 8 (rv7 (rndRT K w v i) v) 0 (addW (addW (rndRT K w v i) (rndRZ v)) (rndRM v))
def rndsR (K w : List Int) : Nat → Nat → List Int → List Int
 | 0, _, v => v
 | n + 1, k, v => rndsR K w n (k + 1) (rndR K w v k)
def blkF (K s : List Int) (b : Nat → Int) : List Int := sumL (rndsR K (schR2 48 16 (schR1 b 16 0 (zs 64))) 64 0 s) 8 0 s
def blkC (args : List AV) (M : MemF) : Option (Prop × AV) := match args, M 100002 with
 | [.ints .u32 8 s, X], some (.var 2 (.ints .u32 64 K)) => match seqOf M X with
  | some (c, es, n, f) => some (c ∧ (n ≠ 0 → es = 1) ∧ n = 64 ∧ ∀ i, i < n → f i = .v (.int .u8 (f i).int1), .ints .u32 8 (blkF K s fun i => (f i).int1))
  | none => none
 | _, _ => none
def ctBlk : CtL := [(214, turnC)]
theorem ctBlk_ok : CtLOk Tryz.prog ctBlk := ⟨.fn turn_body turn_read, trivial⟩
theorem blk_read : ReadFn Tryz.prog 200 blkC := by
 intro args M q res h hq O w0 w hS
 unfold blkC at h
 split at h
 ·
  rename_i s X K hM
  split at h
  ·
   rename_i c es n f hsq
   cases h
   obtain ⟨q1, q2, rfl, q4⟩ := hq
   have hK := hS.holds _ _ hM
   obtain ⟨base, cap, hv, hro⟩ := bytes_ro hS hsq q1 q2 q4
   obtain ⟨b, hb0⟩ : ∃ b, b = fun i => (f i).int1 := ⟨_, rfl⟩
   rw [← hb0]
   have hro : (roB base 1 64 fun i => .v (.int .u8 (b i))).holds w := by rw [hb0]; exact hro
   rw [show [.ints .u32 8 s, X].map AV.val = [.ints .u32 8 s, roS 900 base 1 64 cap].map AV.val by simp only [List.map_cons, List.map_nil, hv, roS_val]]
   refine ro_fn tabs ctBlk_ok (cr := []) trivial Tryz.func200 rfl rfl (M := [(100002, .var 2 (.ints .u32 64 K)), (900, roB base 1 64 fun i => .v (.int .u8 (b i)))]) rfl ⟨fun _ h => h, roB_noOwn, trivial⟩ ⟨hK, hro, trivial⟩ ?_
   repeat (first | refine qs_ ?_ | refine qa_ ?_ | refine qo_ ?_ | refine qd_ ?_ | refine za ?_ | refine zb fun _ _ => ?_ | refine zc ?_ | refine ya ?_ | refine yb fun _ _ => ?_ | refine yc ?_ | refine qk_ ?_ | refine qb_ ?_ | refine qx_ ?_)
   rename_i b2 _ b4 _ b5 _
   refine s_loopW (α := Nat × List Int) [6, 18, 19, 20, 21, 22, 23, 24, 25, 26, 27, 28, 29, 30, 31, 32, 33, 34, 35, 36, 37, 38, 39, 40, 41, 42, 43, 44, 45, 46, 47, 48, 49, 50, 51, 52, 53, 54, 55, 56] [5] (fun x => x.1 ≤ 16 ∧ schR1 b 16 0 (zs 64) = schR1 b (16 - x.1) x.1 x.2) (fun x => [(6, none, .v (.int .i64 x.1))]) (fun x => [(5, .row b5 334 64 1 (fun _ => .ints .u32 64 x.2) 1)]) (fun x => 16 - x.1) (0, zs 64) ⟨by decide, rfl⟩ ?_ ?_
   ·
    exact leQ
   ·
    intro ⟨k, wl⟩ ⟨hk, hz⟩
    dsimp only at hk hz
    repeat (first | refine qs_ ?_ | refine qa_ ?_ | refine qo_ ?_ | refine qd_ ?_ | refine za ?_ | refine zb fun _ _ => ?_ | refine zc ?_ | refine ya ?_ | refine yb fun _ _ => ?_ | refine yc ?_ | refine qk_ ?_ | refine qb_ ?_ | refine qx_ ?_)
    refine s_cond (b := decide ((k : Int) < 16)) rfl (fun hb => ?_) (fun hb => ?_)
    ·
     have hlt : k < 16 := by simp at hb; omega
     have hs : 16 - k = (16 - (k + 1)) + 1 := by omega
     rw [hs, schR1] at hz
     repeat (first | refine qs_ ?_ | refine qa_ ?_ | refine qo_ ?_ | refine qd_ ?_ | refine za ?_ | refine zb fun _ _ => ?_ | refine zc ?_ | refine ya ?_ | refine yb fun _ _ => ?_ | refine yc ?_ | refine qk_ ?_ | refine qb_ ?_ | refine qx_ ?_)
     refine s_draw rD200_5 rM200_5 [(5, [35])] rN200_5 rfl rfl ?_
     repeat (first | refine qs_ ?_ | refine qa_ ?_ | refine qo_ ?_ | refine qd_ ?_ | refine za ?_ | refine zb fun _ _ => ?_ | refine zc ?_ | refine ya ?_ | refine yb fun _ _ => ?_ | refine yc ?_ | refine qk_ ?_ | refine qb_ ?_ | refine qx_ ?_)
     refine ⟨(k + 1, pI 64 wl k (wordR b k)), ⟨by dsimp only; omega, hz⟩, by dsimp only; omega, ?_⟩
     exact leQ
    ·
     have hge : k = 16 := by simp at hb; omega
     subst hge
     have hz1 : schR1 b 16 0 (zs 64) = wl := hz
     repeat (first | refine qs_ ?_ | refine qa_ ?_ | refine qo_ ?_ | refine qd_ ?_ | refine za ?_ | refine zb fun _ _ => ?_ | refine zc ?_ | refine ya ?_ | refine yb fun _ _ => ?_ | refine yc ?_ | refine qk_ ?_ | refine qb_ ?_ | refine qx_ ?_)
     refine s_loopW (α := Nat × List Int) [7, 8, 9, 57, 58, 59, 60, 61, 62, 63, 64, 65, 66, 67, 68, 69, 70, 71, 72, 73, 74, 75, 76, 77, 78, 79, 80, 81, 82, 83, 84, 85, 86, 87, 88, 89, 90, 91, 92, 93, 94, 95, 96, 97, 98, 99, 100, 101, 102, 103, 104, 105, 106, 107, 108, 109] [5] (fun x => (16 ≤ x.1 ∧ x.1 ≤ 64) ∧ schR2 48 16 wl = schR2 (64 - x.1) x.1 x.2) (fun x => [(7, none, .v (.int .i64 x.1))]) (fun x => [(5, .row b5 334 64 1 (fun _ => .ints .u32 64 x.2) 1)]) (fun x => 64 - x.1) (16, wl) ⟨by dsimp only; omega, rfl⟩ ?_ ?_
     ·
      exact leQ
     ·
      intro ⟨k2, w2⟩ ⟨hk2, hz2⟩
      dsimp only at hk2 hz2
      repeat (first | refine qs_ ?_ | refine qa_ ?_ | refine qo_ ?_ | refine qd_ ?_ | refine za ?_ | refine zb fun _ _ => ?_ | refine zc ?_ | refine ya ?_ | refine yb fun _ _ => ?_ | refine yc ?_ | refine qk_ ?_ | refine qb_ ?_ | refine qx_ ?_)
      refine s_cond (b := decide ((k2 : Int) < 64)) rfl (fun hb2 => ?_) (fun hb2 => ?_)
      ·
       have hlt : k2 < 64 := by simp at hb2; omega
       have hs : 64 - k2 = (64 - (k2 + 1)) + 1 := by omega
       rw [hs, schR2] at hz2
       repeat (first | refine qs_ ?_ | refine qa_ ?_ | refine qo_ ?_ | refine qd_ ?_ | refine za ?_ | refine zb fun _ _ => ?_ | refine zc ?_ | refine ya ?_ | refine yb fun _ _ => ?_ | refine yc ?_ | refine qk_ ?_ | refine qb_ ?_ | refine qx_ ?_)
       refine s_draw rD200_9 rM200_9 rX200_9 rN200_9 rfl rfl ?_
       repeat (first | refine qs_ ?_ | refine qa_ ?_ | refine qo_ ?_ | refine qd_ ?_ | refine za ?_ | refine zb fun _ _ => ?_ | refine zc ?_ | refine ya ?_ | refine yb fun _ _ => ?_ | refine yc ?_ | refine qk_ ?_ | refine qb_ ?_ | refine qx_ ?_)
       refine s_draw rD200_10 rM200_10 rX200_10 rN200_10 rfl rfl ?_
       repeat (first | refine qs_ ?_ | refine qa_ ?_ | refine qo_ ?_ | refine qd_ ?_ | refine za ?_ | refine zb fun _ _ => ?_ | refine zc ?_ | refine ya ?_ | refine yb fun _ _ => ?_ | refine yc ?_ | refine qk_ ?_ | refine qb_ ?_ | refine qx_ ?_)
       refine s_draw rD200_11 rM200_11 [(5, [15])] rN200_11 rfl rfl ?_
       repeat (first | refine qs_ ?_ | refine qa_ ?_ | refine qo_ ?_ | refine qd_ ?_ | refine za ?_ | refine zb fun _ _ => ?_ | refine zc ?_ | refine ya ?_ | refine yb fun _ _ => ?_ | refine yc ?_ | refine qk_ ?_ | refine qb_ ?_ | refine qx_ ?_)
       refine ⟨(k2 + 1, pI 64 w2 k2 (schRF w2 k2)), ⟨by dsimp only; omega, hz2⟩, by dsimp only; omega, ?_⟩
       exact leQ
      ·
       have hge : k2 = 64 := by simp at hb2; omega
       subst hge
       have hz3 : schR2 48 16 wl = w2 := hz2
       repeat (first | refine qs_ ?_ | refine qa_ ?_ | refine qo_ ?_ | refine qd_ ?_ | refine za ?_ | refine zb fun _ _ => ?_ | refine zc ?_ | refine ya ?_ | refine yb fun _ _ => ?_ | refine yc ?_ | refine qk_ ?_ | refine qb_ ?_ | refine qx_ ?_)
       rename_i b10 _
       refine s_loopW (α := Nat × List Int) [11, 12, 13, 14, 15, 16, 111, 112, 113, 114, 115, 116, 117, 118, 119, 120, 121, 122, 123, 124, 125, 126, 127, 128, 129, 130, 131, 132, 133, 134, 135, 136, 137, 138, 139, 140, 141, 142, 143, 144, 145, 146, 147, 148, 149, 150, 151, 152, 153, 154, 155, 156, 157, 158, 159, 160, 161, 162, 163, 164, 165, 166, 167, 168, 169, 170, 171, 172, 173, 174, 175, 176, 177, 178, 179, 180, 181, 182, 183, 184, 185, 186, 187, 188, 189, 190, 191, 192, 193, 194, 195, 196, 197, 198, 199, 200, 201, 202, 203, 204, 205, 206, 207, 208] [10] (fun x => x.1 ≤ 64 ∧ rndsR K w2 64 0 s = rndsR K w2 (64 - x.1) x.1 x.2) (fun x => [(11, none, .v (.int .i64 x.1))]) (fun x => [(10, .row b10 320 8 1 (fun _ => .ints .u32 8 x.2) 1)]) (fun x => 64 - x.1) (0, s) ⟨by dsimp only; omega, rfl⟩ ?_ ?_
       ·
        exact leQ
       ·
        intro ⟨k3, v3⟩ ⟨hk3, hz4⟩
        dsimp only at hk3 hz4
        repeat (first | refine qs_ ?_ | refine qa_ ?_ | refine qo_ ?_ | refine qd_ ?_ | refine za ?_ | refine zb fun _ _ => ?_ | refine zc ?_ | refine ya ?_ | refine yb fun _ _ => ?_ | refine yc ?_ | refine qk_ ?_ | refine qb_ ?_ | refine qx_ ?_)
        refine s_cond (b := decide ((k3 : Int) < 64)) rfl (fun hb3 => ?_) (fun hb3 => ?_)
        ·
         have hlt : k3 < 64 := by simp at hb3; omega
         have hs : 64 - k3 = (64 - (k3 + 1)) + 1 := by omega
         rw [hs, rndsR] at hz4
         repeat (first | refine qs_ ?_ | refine qa_ ?_ | refine qo_ ?_ | refine qd_ ?_ | refine za ?_ | refine zb fun _ _ => ?_ | refine zc ?_ | refine ya ?_ | refine yb fun _ _ => ?_ | refine yc ?_ | refine qk_ ?_ | refine qb_ ?_ | refine qx_ ?_)
         refine s_draw rD200_16 rM200_16 rX200_16 rN200_16 rfl rfl ?_
         repeat (first | refine qs_ ?_ | refine qa_ ?_ | refine qo_ ?_ | refine qd_ ?_ | refine za ?_ | refine zb fun _ _ => ?_ | refine zc ?_ | refine ya ?_ | refine yb fun _ _ => ?_ | refine yc ?_ | refine qk_ ?_ | refine qb_ ?_ | refine qx_ ?_)
         refine s_draw rD200_18 rM200_18 rX200_18 rN200_18 rfl rfl ?_
         repeat (first | refine qs_ ?_ | refine qa_ ?_ | refine qo_ ?_ | refine qd_ ?_ | refine za ?_ | refine zb fun _ _ => ?_ | refine zc ?_ | refine ya ?_ | refine yb fun _ _ => ?_ | refine yc ?_ | refine qk_ ?_ | refine qb_ ?_ | refine qx_ ?_)
         refine s_draw rD200_19 rM200_19 rX200_19 rN200_19 rfl rfl ?_
         repeat (first | refine qs_ ?_ | refine qa_ ?_ | refine qo_ ?_ | refine qd_ ?_ | refine za ?_ | refine zb fun _ _ => ?_ | refine zc ?_ | refine ya ?_ | refine yb fun _ _ => ?_ | refine yc ?_ | refine qk_ ?_ | refine qb_ ?_ | refine qx_ ?_)
         refine ⟨(k3 + 1, rndR K w2 v3 k3), ⟨by dsimp only; omega, hz4⟩, by dsimp only; omega, ?_⟩
         exact leQ
        ·
         have hge : k3 = 64 := by simp at hb3; omega
         subst hge
         have hz5 : rndsR K w2 64 0 s = v3 := hz4
         repeat (first | refine qs_ ?_ | refine qa_ ?_ | refine qo_ ?_ | refine qd_ ?_ | refine za ?_ | refine zb fun _ _ => ?_ | refine zc ?_ | refine ya ?_ | refine yb fun _ _ => ?_ | refine yc ?_ | refine qk_ ?_ | refine qb_ ?_ | refine qx_ ?_)
         refine s_loopW (α := Nat × List Int) [17, 209, 210, 211, 212, 213, 214, 215, 216, 217, 218, 219, 220, 221] [2] (fun x => x.1 ≤ 8 ∧ sumL v3 8 0 s = sumL v3 (8 - x.1) x.1 x.2) (fun x => [(17, none, .v (.int .i64 x.1))]) (fun x => [(2, .row b2 320 8 1 (fun _ => .ints .u32 8 x.2) 1)]) (fun x => 8 - x.1) (0, s) ⟨by dsimp only; omega, rfl⟩ ?_ ?_
         ·
          exact leQ
         ·
          intro ⟨k4, v4⟩ ⟨hk4, hz6⟩
          dsimp only at hk4 hz6
          repeat (first | refine qs_ ?_ | refine qa_ ?_ | refine qo_ ?_ | refine qd_ ?_ | refine za ?_ | refine zb fun _ _ => ?_ | refine zc ?_ | refine ya ?_ | refine yb fun _ _ => ?_ | refine yc ?_ | refine qk_ ?_ | refine qb_ ?_ | refine qx_ ?_)
          refine s_cond (b := decide ((k4 : Int) < 8)) rfl (fun hb4 => ?_) (fun hb4 => ?_)
          ·
           have hlt : k4 < 8 := by simp at hb4; omega
           have hs : 8 - k4 = (8 - (k4 + 1)) + 1 := by omega
           rw [hs, sumL] at hz6
           repeat (first | refine qs_ ?_ | refine qa_ ?_ | refine qo_ ?_ | refine qd_ ?_ | refine za ?_ | refine zb fun _ _ => ?_ | refine zc ?_ | refine ya ?_ | refine yb fun _ _ => ?_ | refine yc ?_ | refine qk_ ?_ | refine qb_ ?_ | refine qx_ ?_)
           refine s_draw rD200_32 rM200_32 [(2, [9])] rN200_32 rfl rfl ?_
           repeat (first | refine qs_ ?_ | refine qa_ ?_ | refine qo_ ?_ | refine qd_ ?_ | refine za ?_ | refine zb fun _ _ => ?_ | refine zc ?_ | refine ya ?_ | refine yb fun _ _ => ?_ | refine yc ?_ | refine qk_ ?_ | refine qb_ ?_ | refine qx_ ?_)
           refine ⟨(k4 + 1, pI 8 v4 k4 (addW (aI v4 k4) (aI v3 k4))), ⟨by dsimp only; omega, hz6⟩, by dsimp only; omega, ?_⟩
           exact leQ
          ·
           have hge : k4 = 8 := by simp at hb4; omega
           subst hge
           have hz7 : sumL v3 8 0 s = v4 := hz6
           have hfin : blkF K s b = v4 := by unfold blkF; rw [hz1, hz3, hz5, hz7]
           repeat (first | refine qs_ ?_ | refine qa_ ?_ | refine qo_ ?_ | refine qd_ ?_ | refine za ?_ | refine zb fun _ _ => ?_ | refine zc ?_ | refine ya ?_ | refine yb fun _ _ => ?_ | refine yc ?_ | refine qk_ ?_ | refine qb_ ?_ | refine qx_ ?_)
           refine s_ret ?_
           exact ⟨_, _, rfl, ⟨⟨⟨rfl, rfl, rfl, Nat.zero_lt_one⟩, rfl⟩, trivial⟩, rfl, by rw [hfin]; rfl⟩
  ·
   cases h
 ·
  cases h
theorem blk_body : HasBody Tryz.prog 200 := ⟨_, Tryz.func200, rfl, by decide⟩
theorem rot_turn (x : Int) (k n : Int) (hk : min (rotS k).toNat 32 = min (IntKind.u64.wrap (32 - n)).toNat 32) (hn : min (IntKind.u64.wrap (32 - rotS k)).toNat 32 = min n.toNat 32) : rotF x k = turnF x n := by
 unfold rotF turnF
 rw [hk, hn, BitVec.or_comm]
theorem rot7 (x : Int) : rotF x (-7) = turnF x 7 := rot_turn x _ _ (by decide) (by decide)
theorem rot18 (x : Int) : rotF x (-18) = turnF x 18 := rot_turn x _ _ (by decide) (by decide)
theorem rot17 (x : Int) : rotF x (-17) = turnF x 17 := rot_turn x _ _ (by decide) (by decide)
theorem rot19 (x : Int) : rotF x (-19) = turnF x 19 := rot_turn x _ _ (by decide) (by decide)
theorem rot6 (x : Int) : rotF x (-6) = turnF x 6 := rot_turn x _ _ (by decide) (by decide)
theorem rot11 (x : Int) : rotF x (-11) = turnF x 11 := rot_turn x _ _ (by decide) (by decide)
theorem rot25 (x : Int) : rotF x (-25) = turnF x 25 := rot_turn x _ _ (by decide) (by decide)
theorem rot2 (x : Int) : rotF x (-2) = turnF x 2 := rot_turn x _ _ (by decide) (by decide)
theorem rot13 (x : Int) : rotF x (-13) = turnF x 13 := rot_turn x _ _ (by decide) (by decide)
theorem rot22 (x : Int) : rotF x (-22) = turnF x 22 := rot_turn x _ _ (by decide) (by decide)
theorem wrap_add (a b : Int) : IntKind.u32.wrap (IntKind.u32.wrap a + b) = IntKind.u32.wrap (a + b) := by
 have hp : (2 : Int) ^ 32 = 4294967296 := by decide
 unfold IntKind.wrap
 simp only [IntKind.signed, IntKind.bits, Bool.false_and, Bool.false_eq_true, if_false, hp]
 omega
theorem addW_assoc (a b c : Int) : addW (addW a b) c = addW a (addW b c) := by
 unfold addW
 rw [wrap_add, Int.add_comm a (IntKind.u32.wrap (b + c)), wrap_add]
 congr 1; omega
theorem word_eq {c : List Int} {b : Nat → Int} (h : ∀ i, i < 64 → b i = c.getD i 0) {k : Nat} (hk : k < 16) : wordR b k = wordF c k := by
 have key : ∀ e : Int, 0 ≤ e → e < 64 → bI b e = aI c e := fun e h0 h1 => by
  unfold bI aI
  rw [Nat.add_zero, Nat.zero_add]
  exact h _ (by omega)
 have i0 : i64 (4 * (k : Int)) = 4 * k := wi64 (by omega) (by omega)
 unfold wordR wordF
 rw [i0]
 have i1 : i64 (4 * (k : Int) + 1) = 4 * k + 1 := wi64 (by omega) (by omega)
 have i2 : i64 (4 * (k : Int) + 2) = 4 * k + 2 := wi64 (by omega) (by omega)
 have i3 : i64 (4 * (k : Int) + 3) = 4 * k + 3 := wi64 (by omega) (by omega)
 rw [i1, i2, i3, key _ (by omega) (by omega), key _ (by omega) (by omega), key _ (by omega) (by omega), key _ (by omega) (by omega)]
theorem sch1_eq {c : List Int} {b : Nat → Int} (h : ∀ i, i < 64 → b i = c.getD i 0) : ∀ (n k : Nat) (w : List Int), n + k = 16 → schR1 b n k w = sch1 c n k w
 | 0, _, _, _ => rfl
 | n + 1, k, w, hn => by rw [schR1, sch1, word_eq h (by omega), sch1_eq h n (k + 1) _ (by omega)]
theorem schF_eq (w : List Int) (i : Int) : schRF w i = schF w i := by
 unfold schRF schF sigAR sigBR sigA sigB
 rw [rot7, rot18, rot17, rot19]
theorem sch2_eq : ∀ (n k : Nat) (w : List Int), schR2 n k w = sch2 n k w
 | 0, _, _ => rfl
 | n + 1, k, w => by rw [schR2, sch2, schF_eq, sch2_eq]
def gI (v : List Int) (j : Nat) : Int := v.getD j 0
theorem rv1_eq (v : List Int) : rv1 v = [gI v 0, gI v 1, gI v 2, gI v 3, gI v 4, gI v 5, gI v 6, gI v 6] := rfl
theorem rv2_eq (v : List Int) : rv2 v = [gI v 0, gI v 1, gI v 2, gI v 3, gI v 4, gI v 5, gI v 5, gI v 6] := by unfold rv2; rw [rv1_eq]; rfl
theorem rv3_eq (v : List Int) : rv3 v = [gI v 0, gI v 1, gI v 2, gI v 3, gI v 4, gI v 4, gI v 5, gI v 6] := by unfold rv3; rw [rv2_eq]; rfl
theorem rv4_eq (t : Int) (v : List Int) : rv4 t v = [gI v 0, gI v 1, gI v 2, gI v 3, addW (gI v 3) t, gI v 4, gI v 5, gI v 6] := by unfold rv4; rw [rv3_eq]; rfl
theorem rv5_eq (t : Int) (v : List Int) : rv5 t v = [gI v 0, gI v 1, gI v 2, gI v 2, addW (gI v 3) t, gI v 4, gI v 5, gI v 6] := by unfold rv5; rw [rv4_eq]; rfl
theorem rv6_eq (t : Int) (v : List Int) : rv6 t v = [gI v 0, gI v 1, gI v 1, gI v 2, addW (gI v 3) t, gI v 4, gI v 5, gI v 6] := by unfold rv6; rw [rv5_eq]; rfl
theorem rv7_eq (t : Int) (v : List Int) : rv7 t v = [gI v 0, gI v 0, gI v 1, gI v 2, addW (gI v 3) t, gI v 4, gI v 5, gI v 6] := by unfold rv7; rw [rv6_eq]; rfl
theorem s0 (u : Int) : lset 8 (zs 8) 0 u = [u, 0, 0, 0, 0, 0, 0, 0] := rfl
theorem s1 (u a : Int) : lset 8 [u, 0, 0, 0, 0, 0, 0, 0] 1 a = [u, a, 0, 0, 0, 0, 0, 0] := rfl
theorem s2 (u a b : Int) : lset 8 [u, a, 0, 0, 0, 0, 0, 0] 2 b = [u, a, b, 0, 0, 0, 0, 0] := rfl
theorem s3 (u a b c : Int) : lset 8 [u, a, b, 0, 0, 0, 0, 0] 3 c = [u, a, b, c, 0, 0, 0, 0] := rfl
theorem s4 (u a b c d : Int) : lset 8 [u, a, b, c, 0, 0, 0, 0] 4 d = [u, a, b, c, d, 0, 0, 0] := rfl
theorem s5 (u a b c d e : Int) : lset 8 [u, a, b, c, d, 0, 0, 0] 5 e = [u, a, b, c, d, e, 0, 0] := rfl
theorem s6 (u a b c d e f : Int) : lset 8 [u, a, b, c, d, e, 0, 0] 6 f = [u, a, b, c, d, e, f, 0] := rfl
theorem s7 (u a b c d e f g : Int) : lset 8 [u, a, b, c, d, e, f, 0] 7 g = [u, a, b, c, d, e, f, g] := rfl
theorem rnd_eq (K w v : List Int) (i : Int) : rndR K w v i = rnd K w v i := by
 have hT : rndRT K w v i = rndT K w v i := by
  unfold rndRT rndT
  rw [rot6, rot11, rot25]
 have hU : addW (rndRZ v) (rndRM v) = rndU v := by
  unfold rndRZ rndRM rndU
  rw [rot2, rot13, rot22]
 unfold rndR rnd
 rw [hT, addW_assoc, hU]
 generalize rndT K w v i = t
 generalize addW t (rndU v) = u
 rw [rv7_eq, s0, s1, s2, s3, s4, s5, s6, s7]
 rfl
theorem rnds_eq (K w : List Int) : ∀ (n k : Nat) (v : List Int), rndsR K w n k v = rnds K w n k v
 | 0, _, _ => rfl
 | n + 1, k, v => by rw [rndsR, rnds, rnd_eq, rnds_eq]
theorem blk_mix {K s c : List Int} {b : Nat → Int} (h : ∀ i, i < 64 → b i = c.getD i 0) : blkF K s b = mixF K s c := by
 unfold blkF mixF
 rw [sch1_eq h 16 0 _ rfl, sch2_eq, rnds_eq]
def hsAV (m : Bool) (ws pt : List Int) (hl tk : Int) : AV := .agg (.cons (.v (.bool m)) (.cons (.ints .u32 8 ws) (.cons (.ints .u8 64 pt) (.cons (.v (.int .i64 hl)) (.cons (.v (.int .u64 tk)) .nil)))))
def newHC (tag : Nat) (args : List AV) (M : MemF) : Option Res := match args, M 100003 with
 | [], some (.var 3 (.ints .u32 8 B0)) => some ⟨Nat, True, fun _ => True, fun b => .ptr ⟨tag, 0, b, 0, 75, 0, 0, 0, false⟩, [tag], fun b => [.row b 342 75 1 (fun _ => hsAV true B0 (zs 64) 0 0) 1]⟩
 | _, _ => none
theorem newH_turn : TurnFn Tryz.prog 211 newHC := by
 intro tag args M r h0 hok O w0 w hS
 unfold newHC at h0
 split at h0
 ·
  rename_i B0 hM
  cases h0
  have hB := hS.holds _ _ hM
  refine turn_fn tabs (ct := []) trivial (cr := []) trivial Tryz.func211 rfl rfl hS _ [(100003, .var 3 (.ints .u32 8 B0))] [] [3] rfl ⟨hB, trivial⟩ (fun n' B' k hn ho => (noOwn_get (M := [(100003, .var 3 (.ints .u32 8 B0))]) ⟨fun _ h => h, trivial⟩ _ _ _ hn ho).elim) (fun _ _ _ _ _ _ _ _ h => (by cases h)) (fun _ _ _ h => (by cases h)) (fun _ _ h => (by cases h)) (by decide) rfl ?_
  repeat (first | refine qs_ ?_ | refine qa_ ?_ | refine qo_ ?_ | refine qd_ ?_ | refine za ?_ | refine zb fun _ _ => ?_ | refine zc ?_ | refine ya ?_ | refine yb fun _ _ => ?_ | refine yc ?_ | refine qk_ ?_ | refine qb_ ?_ | refine qx_ ?_)
  rename_i b _
  refine s_ret ?_
  exact ⟨_, _, rfl, ⟨trivial, trivial⟩, rfl, b, trivial, rfl, ⟨⟨_, rfl, Blk.le_refl _⟩, fun _ h => h⟩, trivial⟩
 ·
  cases h0
theorem newH_body : HasBody Tryz.prog 211 := ⟨_, Tryz.func211, rfl, by decide⟩
def goodC (args : List AV) (M : MemF) : Option (Prop × AV) := match args with
 | [.ptr p] => match ptrOf M p true 75 with
  | some (c, .agg (.cons (.v (.bool m)) (.cons (.ints .u32 8 _) (.cons (.ints .u8 64 _) (.cons (.v (.int .i64 _)) (.cons (.v (.int .u64 _)) .nil)))))) => some (c, .v (.bool m))
  | _ => none
 | _ => none
theorem good_read : ReadFn Tryz.prog 216 goodC := by
 intro args M q res h hq O w0 w hS
 unfold goodC at h
 split at h
 ·
  rename_i p
  split at h
  ·
   rename_i c m ws pt hl tk hp
   cases h
   have hR := ptrOf_spec hS hp hq
   rw [show [AV.ptr p].map AV.val = [roP 901 p.b p.cell 75].map AV.val by simp only [List.map_cons, List.map_nil, ptr_val, roP_val]]
   refine ro_fn tabs (ct := []) trivial (cr := []) trivial Tryz.func216 rfl rfl (M := [(901, roB (some (p.b, p.cell)) 75 1 fun _ => hsAV m ws pt hl tk)]) rfl ⟨roB_noOwn, trivial⟩ ⟨roB_holds fun _ => ⟨p.b, p.cell, rfl, hR⟩, trivial⟩ ?_
   repeat (first | refine qs_ ?_ | refine qa_ ?_ | refine qo_ ?_ | refine qd_ ?_ | refine za ?_ | refine zb fun _ _ => ?_ | refine zc ?_ | refine ya ?_ | refine yb fun _ _ => ?_ | refine yc ?_ | refine qk_ ?_ | refine qb_ ?_ | refine qx_ ?_)
   refine s_ret ?_
   exact ⟨_, _, rfl, ⟨trivial, trivial⟩, rfl, rfl⟩
  ·
   cases h
 ·
  cases h
theorem good_body : HasBody Tryz.prog 216 := ⟨_, Tryz.func216, rfl, by decide⟩
structure Hs where
 ws : List Int
 pt : List Int
 held : Nat
def full (K : List Int) (ws pt : List Int) (h : Nat) : Hs := if h = 64 then ⟨mixF K ws pt, pt, 0⟩ else ⟨ws, pt, h⟩
def stp (K : List Int) (s : Hs) (x : Int) : Hs := full K s.ws (lset 64 s.pt s.held x) (s.held + 1)
def ab (K : List Int) (b : Nat → Int) : Nat → Nat → Hs → Hs
 | 0, _, s => s
 | n + 1, i, s => ab K b n (i + 1) (stp K s (b i))
theorem lcopy_one (l : List Int) (h : Nat) (b : Nat → Int) : lcopy 64 l h 1 b = lset 64 l h (b 0) := by
 unfold lcopy lset
 refine List.map_congr_left fun i hi => ?_
 by_cases e : i = h
 ·
  subst e; rw [if_pos (by omega), if_pos rfl, Nat.sub_self]
 ·
  rw [if_neg (by omega), if_neg e]
theorem lcopy_succ (l : List Int) (h c : Nat) (b : Nat → Int) : lcopy 64 l h (c + 1) b = lcopy 64 (lset 64 l h (b 0)) (h + 1) c fun i => b (i + 1) := by
 unfold lcopy
 refine List.map_congr_left fun i hi => ?_
 have hi := List.mem_range.1 hi
 by_cases h1 : h + 1 ≤ i ∧ i < h + 1 + c
 ·
  rw [if_pos (by omega), if_pos h1]; congr 1; omega
 ·
  rw [if_neg h1, lset_get 64 l h _ hi]
  by_cases e : i = h
  ·
   subst e; rw [if_pos (by omega), if_pos rfl, Nat.sub_self]
  ·
   rw [if_neg (by omega), if_neg e]
theorem ab_chunk (K : List Int) (b : Nat → Int) : ∀ (c n i : Nat) (ws pt : List Int) (h : Nat), h + (c + 1) ≤ 64 →
  ab K b (n + (c + 1)) i ⟨ws, pt, h⟩ = ab K b n (i + (c + 1)) (full K ws (lcopy 64 pt h (c + 1) fun j => b (j + i)) (h + (c + 1)))
 | 0, n, i, ws, pt, h, hle => by
  rw [lcopy_one, Nat.zero_add]
  show ab K b n (i + 1) (stp K ⟨ws, pt, h⟩ (b i)) = _
  unfold stp
  rw [Nat.zero_add]
 | c + 1, n, i, ws, pt, h, hle => by
  show ab K b (n + (c + 1)) (i + 1) (stp K ⟨ws, pt, h⟩ (b i)) = _
  have hs : stp K ⟨ws, pt, h⟩ (b i) = ⟨ws, lset 64 pt h (b i), h + 1⟩ := by
   unfold stp full
   rw [if_neg (by dsimp only; omega)]
  rw [hs, ab_chunk K b c n (i + 1) ws _ (h + 1) (by omega), lcopy_succ pt h (c + 1)]
  rw [show i + 1 + (c + 1) = i + (c + 1 + 1) by omega, show h + 1 + (c + 1) = h + (c + 1 + 1) by omega, Nat.zero_add]
  congr 3
  funext j
  congr 1; omega
def capGe : AV → Prop
 | .gs _ _ _ _ _ len cap => len ≤ cap
 | .sl _ len cap => len ≤ cap
 | .v _ => True
 | _ => False
theorem cap_of {M : MemF} {X : AV} {c : Prop} {es n : Nat} {f : Nat → AV} (h : seqOf M X = some (c, es, n, f)) (hc : c) {base : Option (Nat × Nat)} {cap : Nat} (hv : X.val = slV base n cap) (hg : capGe X) : n ≤ cap := by
 unfold seqOf at h
 split at h
 ·
  rw [gs_val] at hv
  unfold slV at hv
  injection hv with _ h2 h3
  have hg := hg
  unfold capGe at hg
  omega
 ·
  rename_i p len cap0
  have hv : Value.slice (some p.addr) len cap0 = slV base n cap := hv
  unfold slV at hv
  injection hv with _ h2 h3
  have hg : len ≤ cap0 := hg
  omega
 ·
  cases h; exact Nat.zero_le _
 ·
  cases h
def writeC (_tag : Nat) (args : List AV) (M : MemF) : Option Res := match args with
 | [.ptr p, X] => match M p.n, seqOf M X, M 100004 with
  | some (.row b 342 75 1 f 1), some (c, es, n, fx), some (.var 4 (.ints .u32 64 K)) => match f 0 with
   | .agg (.cons (.v (.bool true)) (.cons (.ints .u32 8 ws) (.cons (.ints .u8 64 pt) (.cons (.v (.int .i64 (.ofNat h))) (.cons (.v (.int .u64 tk)) .nil))))) =>
    some ⟨Unit, (p.b = b ∧ p.o0 = 0 ∧ p.es = 75 ∧ p.idx = 0 ∧ p.off = 0 ∧ p.j = 0) ∧ (c ∧ (n ≠ 0 → es = 1) ∧ n < 4611686018427387904 ∧ ∀ i, i < n → fx i = .v (.int .u8 (fx i).int1)) ∧ h < 64 ∧ tagNe p.n X = true ∧ capGe X, fun _ => True, fun _ => .tup .nil, [p.n],
     fun _ => [.row b 342 75 1 (fun _ => hsAV true (ab K (fun i => (fx i).int1) n 0 ⟨ws, pt, h⟩).ws (ab K (fun i => (fx i).int1) n 0 ⟨ws, pt, h⟩).pt (ab K (fun i => (fx i).int1) n 0 ⟨ws, pt, h⟩).held (IntKind.u64.wrap (tk + IntKind.u64.wrap n))) 1]⟩
   | _ => none
  | _, _, _ => none
 | _ => none
def ctWr : CtL := [(216, goodC), (217, mixC)]
theorem ctWr_ok : CtLOk Tryz.prog ctWr := ⟨.fn good_body good_read, .fn mix_body mix_read, trivial⟩
theorem write_turn : TurnFn Tryz.prog 212 writeC := by
 intro tag args M r h0 hok O w0 w hS
 unfold writeC at h0
 split at h0
 ·
  rename_i p X
  split at h0
  ·
   rename_i bb f c es n fx K hM hsq hMK
   split at h0
   ·
    rename_i ws pt h tk hf0
    cases h0
    obtain ⟨⟨p1, p2, p3, p4, p5, p6⟩, ⟨q1, q2, q3, q4⟩, hlt, htag, hcg⟩ := hok
    obtain ⟨base, cap, hv, hro⟩ := bytes_ro hS hsq q1 q2 q4
    obtain ⟨b, hb0⟩ : ∃ b, b = fun i => (fx i).int1 := ⟨_, rfl⟩
    rw [← hb0]
    have hro : (roB base 1 n fun i => .v (.int .u8 (b i))).holds w := by rw [hb0]; exact hro
    have hK := hS.holds _ _ hMK
    have hrow : RowHolds w bb 342 75 1 (fun _ => hsAV true ws pt h tk) 1 := RowHolds.weaken (hS.holds _ _ hM : RowHolds w bb 342 75 1 f 1) (Nat.le_refl _) (fun i hi => by
     have : i = 0 := by omega
     subst this; exact hf0.symm)
    have hpa : p = ⟨p.n, p.ix, bb, 0, 75, 0, 0, 0, p.lf⟩ := by
     obtain ⟨a1, a2, a3, a4, a5, a6, a7, a8, a9⟩ := p
     simp only at p1 p2 p3 p4 p5 p6
     subst p1 p2 p3 p4 p5 p6; rfl
    have hpv : (AV.ptr p).val = (AV.ptr ⟨900, 0, bb, 0, 75, 0, 0, 0, false⟩).val := by rw [hpa]; rfl
    rw [show [AV.ptr p, X].map AV.val = [AV.ptr ⟨900, 0, bb, 0, 75, 0, 0, 0, false⟩, roS 901 base 1 n cap].map AV.val by simp only [List.map_cons, List.map_nil, hpv, hv, roS_val]]
    refine turn_fn tabs ctWr_ok (cr := []) trivial Tryz.func212 rfl rfl hS _ [(900, .row bb 342 75 1 (fun _ => hsAV true ws pt h tk) 1), (901, roB base 1 n fun i => .v (.int .u8 (b i))), (100004, .var 4 (.ints .u32 64 K))] [(900, p.n)] [900] rfl ⟨hrow, hro, hK, trivial⟩ (fun n' B' k hn ho => ?_) (fun n' B' k hn hr => ?_) (fun a c n h1 h2 => ?_) (fun a n h => ?_) (by decide) rfl ?_
    ·
     rw [Mem.get_cons] at hn
     split at hn
     ·
      rename_i e; cases hn; subst e; exact ⟨p.n, _, .head _, hM, ho⟩
     ·
      rw [Mem.get_cons] at hn
      split at hn
      ·
       cases hn; exact (roB_noOwn k ho).elim
      ·
       rw [Mem.get_cons] at hn
       split at hn
       ·
        cases hn; cases ho
       ·
        cases hn
    ·
     intro n2 B2 n3 hin hM2 ho2
     simp at hin
     obtain ⟨_, rfl⟩ := hin
     rw [Mem.get_cons] at hn
     split at hn
     ·
      cases hn; cases hr
     ·
      rw [Mem.get_cons] at hn
      split at hn
      ·
       cases hn
       obtain ⟨_, ix, o, hl, hbb⟩ := hr
       exact seq_apart hS hsq q1 (fun h => by rw [q2 h]; decide) hM2 htag hv (fun h0 => by have hl : 0 < n := hl; omega) hbb ho2
      ·
       rw [Mem.get_cons] at hn
       split at hn
       ·
        cases hn; exact hS.roapart _ _ _ _ _ hM2 hMK ho2 hr
       ·
        cases hn
    ·
     simp at h1 h2; rw [h1.1, h2.1]
    ·
     simp at h; rw [h.2]; exact .head _
    repeat (first | refine qs_ ?_ | refine qa_ ?_ | refine qo_ ?_ | refine qd_ ?_ | refine za ?_ | refine zb fun _ _ => ?_ | refine zc ?_ | refine ya ?_ | refine yb fun _ _ => ?_ | refine yc ?_ | refine qk_ ?_ | refine qb_ ?_ | refine qx_ ?_)
    refine s_cond (b := false) rfl (fun h1 => by cases h1) (fun _ => ?_)
    repeat (first | refine qs_ ?_ | refine qa_ ?_ | refine qo_ ?_ | refine qd_ ?_ | refine za ?_ | refine zb fun _ _ => ?_ | refine zc ?_ | refine ya ?_ | refine yb fun _ _ => ?_ | refine yc ?_ | refine qk_ ?_ | refine qb_ ?_ | refine qx_ ?_)
    refine s_loopW (α := Hs × Nat × Nat × Nat) [1, 4, 5, 6, 7, 8, 9, 10, 11, 12, 13, 14, 15, 16, 17, 18, 19, 20, 21, 22, 23, 24, 25, 26, 27, 28, 29, 30, 31, 32, 33, 34, 35, 36, 37, 38, 39, 40, 41, 42, 43, 44, 45, 46, 47, 48, 49, 50, 51, 52, 53, 54, 55, 56, 57, 58, 59, 60, 61] [900] (fun x => x.1.held < 64 ∧ (x.2.2.1 ≠ 0 → x.2.1 + x.2.2.1 = n) ∧ x.2.2.1 ≤ x.2.2.2 ∧ x.2.2.1 ≤ n ∧ ab K b n 0 ⟨ws, pt, h⟩ = ab K b x.2.2.1 x.2.1 x.1) (fun x => [(1, none, .gs 901 0 base 1 x.2.1 x.2.2.1 x.2.2.2)])
     (fun x => [(900, .row bb 342 75 1 (fun _ => hsAV true x.1.ws x.1.pt x.1.held (IntKind.u64.wrap (tk + IntKind.u64.wrap n))) 1)]) (fun x => x.2.2.1) (⟨ws, pt, h⟩, 0, n, cap) ⟨hlt, fun _ => by dsimp only; omega, ?_, Nat.le_refl _, rfl⟩ ?_ ?_
    ·
     exact cap_of hsq q1 hv hcg
    ·
     exact leQ
    ·
     intro ⟨⟨ws2, pt2, h2⟩, i2, n2, c2⟩ ⟨v1, v2, v3, v4, v5⟩
     dsimp only at v1 v2 v3 v4 v5
     repeat (first | refine qs_ ?_ | refine qa_ ?_ | refine qo_ ?_ | refine qd_ ?_ | refine za ?_ | refine zb fun _ _ => ?_ | refine zc ?_ | refine ya ?_ | refine yb fun _ _ => ?_ | refine yc ?_ | refine qk_ ?_ | refine qb_ ?_ | refine qx_ ?_)
     refine s_cond (b := decide ((n2 : Int) > 0)) rfl (fun hb2 => ?_) (fun hb2 => ?_)
     ·
      have hn2 : 0 < n2 := by simp at hb2; omega
      have v2 := v2 (by omega)
      repeat (first | refine qs_ ?_ | refine qa_ ?_ | refine qo_ ?_ | refine qd_ ?_ | refine za ?_ | refine zb fun _ _ => ?_ | refine zc ?_ | refine ya ?_ | refine yb fun _ _ => ?_ | refine yc ?_ | refine qk_ ?_ | refine qb_ ?_ | refine qx_ ?_)
      refine s_draw rD212_3 rM212_3 [(900, [9])] rN212_3 rfl rfl ?_
      repeat (first | refine qs_ ?_ | refine qa_ ?_ | refine qo_ ?_ | refine qd_ ?_ | refine za ?_ | refine zb fun _ _ => ?_ | refine zc ?_ | refine ya ?_ | refine yb fun _ _ => ?_ | refine yc ?_ | refine qk_ ?_ | refine qb_ ?_ | refine qx_ ?_)
      obtain ⟨cc, hcc⟩ : ∃ cc, cc = Nat.min n2 (64 - h2) := ⟨_, rfl⟩
      have hc1 : cc ≤ n2 := by rw [hcc]; exact Nat.min_le_left _ _
      have hc2 : cc ≤ 64 - h2 := by rw [hcc]; exact Nat.min_le_right _ _
      have hc3 : 1 ≤ cc := by rw [hcc]; exact Nat.le_min.2 ⟨hn2, by omega⟩
      have hcut : 0 + cutOff (some (h2 : Int)) 64 h2 = h2 := by unfold cutOff; simp only; rw [if_neg (by omega)]; omega
      refine d_new rfl rfl rfl ⟨(), trivial⟩ ?hc (fun _ _ => ?_)
      case hc =>
       refine ⟨⟨rfl, rfl, rfl, Nat.zero_lt_one⟩, ?_, ⟨rfl, rfl, ?_⟩, fun _ => rfl, fun _ _ => rfl⟩
       ·
        show 0 + cutOff (some (h2 : Int)) 64 h2 + (64 - h2) ≤ 64
        rw [hcut]; omega
       ·
        show i2 + n2 ≤ n
        omega
      repeat (first | refine qs_ ?_ | refine qa_ ?_ | refine qo_ ?_ | refine qd_ ?_ | refine za ?_ | refine zb fun _ _ => ?_ | refine zc ?_ | refine ya ?_ | refine yb fun _ _ => ?_ | refine yc ?_ | refine qk_ ?_ | refine qb_ ?_ | refine qx_ ?_)
      have hw : IntKind.i64.wrap ((h2 : Int) + ((Nat.min n2 (64 - h2) : Nat) : Int)) = ((h2 + cc : Nat) : Int) := by
       rw [← hcc, wi64 (by omega) (by omega)]; omega
      have hle : ∀ {tm0 : Tm} {M0 : Mem} {X0 : Cx}, tm0.get 0 = some (none, AV.ptr ⟨900, 0, bb, 0, 75, 0, 0, 0, false⟩) → tm0.get 1 = some (none, AV.gs 901 0 base 1 (cutOff (some ((Nat.min n2 (64 - h2) : Nat) : Int)) c2 (Nat.min n2 (64 - h2)) + i2) (n2 - Nat.min n2 (64 - h2)) (c2 - Nat.min n2 (64 - h2))) →
        M0.get 900 = some (.row bb 342 75 1 (fun _ => hsAV true ws2 (lcopy 64 pt2 (0 + cutOff (some (h2 : Int)) 64 h2) (Nat.min n2 (64 - h2)) fun j => b (j + i2)) (IntKind.i64.wrap ((h2 : Int) + ((Nat.min n2 (64 - h2) : Nat) : Int))) (IntKind.u64.wrap (tk + IntKind.u64.wrap n))) 1) →
        M0.get 901 = some (roB base 1 n fun i => .v (.int .u8 (b i))) → M0.get 100004 = some (.var 4 (.ints .u32 64 K)) → M0.dfs = [] →
        Le X0 tm0 M0 [(0, none, AV.ptr ⟨900, 0, bb, 0, 75, 0, 0, 0, false⟩), (1, none, AV.gs 901 0 base 1 (cutOff (some (cc : Int)) c2 cc + i2) (n2 - cc) (c2 - cc))]
         [(900, .row bb 342 75 1 (fun _ => hsAV true ws2 (lcopy 64 pt2 h2 cc fun j => b (j + i2)) ((h2 + cc : Nat) : Int) (IntKind.u64.wrap (tk + IntKind.u64.wrap n))) 1), (901, roB base 1 n fun i => .v (.int .u8 (b i))), (100004, .var 4 (.ints .u32 64 K))] := by
       intro tm0 M0 X0 e0 e1 e2 e3 e4 e5
       rw [← hcc] at e1
       rw [hw, hcut, ← hcc] at e2
       exact Le.of ⟨e0, e1, trivial⟩ ⟨⟨_, e2, Blk.le_refl _⟩, ⟨_, e3, Blk.le_refl _⟩, ⟨_, e4, Blk.le_refl _⟩, trivial⟩ (by rw [e5]; rfl)
      have hbool : (IntKind.i64.wrap ((h2 : Int) + ((Nat.min n2 (64 - h2) : Nat) : Int)) == 64) = decide (h2 + cc = 64) := by
       rw [hw]
       by_cases e : h2 + cc = 64
       ·
        rw [e]; rfl
       ·
        rw [decide_eq_false e]
        simp
        omega
      have hoff : n2 - cc ≠ 0 → cutOff (some (cc : Int)) c2 cc + i2 + (n2 - cc) = n := fun h0 => by
       unfold cutOff; simp only; rw [if_neg (by omega)]; omega
      have hnext : ab K b n 0 ⟨ws, pt, h⟩ = ab K b (n2 - cc) (cutOff (some (cc : Int)) c2 cc + i2) (full K ws2 (lcopy 64 pt2 h2 cc fun j => b (j + i2)) (h2 + cc)) := by
       have e1 := ab_chunk K b (cc - 1) (n2 - cc) i2 ws2 pt2 h2 (by omega)
       rw [show cc - 1 + 1 = cc by omega, show n2 - cc + cc = n2 by omega] at e1
       rw [v5, e1]
       rcases Nat.eq_zero_or_pos (n2 - cc) with h0 | h0
       ·
        rw [h0]; rfl
       ·
        have : cutOff (some (cc : Int)) c2 cc + i2 = i2 + cc := by unfold cutOff; simp only; rw [if_neg (by omega)]; omega
        rw [this]
      refine s_cond (b := decide (h2 + cc = 64)) (by rw [← hbool]; rfl) (fun hb3 => ?_) (fun hb3 => ?_)
      ·
       refine s_le (hle rfl rfl rfl rfl rfl rfl) ?_
       repeat (first | refine qs_ ?_ | refine qa_ ?_ | refine qo_ ?_ | refine qd_ ?_ | refine za ?_ | refine zb fun _ _ => ?_ | refine zc ?_ | refine ya ?_ | refine yb fun _ _ => ?_ | refine yc ?_ | refine qk_ ?_ | refine qb_ ?_ | refine qx_ ?_)
       refine s_draw rD212_7 rM212_7 [(900, [13, 16])] rN212_7 rfl rfl ?_
       repeat (first | refine qs_ ?_ | refine qa_ ?_ | refine qo_ ?_ | refine qd_ ?_ | refine za ?_ | refine zb fun _ _ => ?_ | refine zc ?_ | refine ya ?_ | refine yb fun _ _ => ?_ | refine yc ?_ | refine qk_ ?_ | refine qb_ ?_ | refine qx_ ?_)
       have hfull : full K ws2 (lcopy 64 pt2 h2 cc fun j => b (j + i2)) (h2 + cc) = ⟨mixF K ws2 (lcopy 64 pt2 h2 cc fun j => b (j + i2)), lcopy 64 pt2 h2 cc fun j => b (j + i2), 0⟩ := by
        unfold full; rw [if_pos (by simpa using hb3)]
       rw [hfull] at hnext
       refine ⟨(⟨mixF K ws2 (lcopy 64 pt2 h2 cc fun j => b (j + i2)), lcopy 64 pt2 h2 cc fun j => b (j + i2), 0⟩, cutOff (some (cc : Int)) c2 cc + i2, n2 - cc, c2 - cc), ⟨by dsimp only; omega, hoff, by dsimp only; omega, by dsimp only; omega, hnext⟩, by dsimp only; omega, ?_⟩
       exact leQ
      ·
       refine s_le (hle rfl rfl rfl rfl rfl rfl) ?_
       have hfull : full K ws2 (lcopy 64 pt2 h2 cc fun j => b (j + i2)) (h2 + cc) = ⟨ws2, lcopy 64 pt2 h2 cc fun j => b (j + i2), h2 + cc⟩ := by
        unfold full; rw [if_neg (by simpa using hb3)]
       rw [hfull] at hnext
       have hne64 : h2 + cc ≠ 64 := by simpa using hb3
       repeat (first | refine qs_ ?_ | refine qa_ ?_ | refine qo_ ?_ | refine qd_ ?_ | refine za ?_ | refine zb fun _ _ => ?_ | refine zc ?_ | refine ya ?_ | refine yb fun _ _ => ?_ | refine yc ?_ | refine qk_ ?_ | refine qb_ ?_ | refine qx_ ?_)
       refine ⟨(⟨ws2, lcopy 64 pt2 h2 cc fun j => b (j + i2), h2 + cc⟩, cutOff (some (cc : Int)) c2 cc + i2, n2 - cc, c2 - cc), ⟨by dsimp only; omega, hoff, by dsimp only; omega, by dsimp only; omega, hnext⟩, by dsimp only; omega, ?_⟩
       exact leQ
     ·
      have hn2 : n2 = 0 := by simp at hb2; omega
      subst hn2
      repeat (first | refine qs_ ?_ | refine qa_ ?_ | refine qo_ ?_ | refine qd_ ?_ | refine za ?_ | refine zb fun _ _ => ?_ | refine zc ?_ | refine ya ?_ | refine yb fun _ _ => ?_ | refine yc ?_ | refine qk_ ?_ | refine qb_ ?_ | refine qx_ ?_)
      refine ⟨_, _, rfl, trivial, rfl, (), trivial, rfl, ⟨⟨_, rfl, ?_⟩, fun _ h => h⟩, trivial⟩
      rw [v5]
      exact Blk.le_refl _
   ·
    cases h0
  ·
   cases h0
 ·
  cases h0
def zN (h : Nat) : Nat := (120 - h) % 64
def tailB (nb : Int) (i : Int) : Int := IntKind.u8.wrap (nb.fdiv (2 ^ min (i64 (56 - i64 (8 * i))).toNat 64))
def tl (nb : Int) : Nat → Nat → List Int → List Int
 | 0, _, l => l
 | n + 1, k, l => tl nb n (k + 1) (pI 8 l k (tailB nb k))
def outB (w k : Int) : Int := IntKind.u8.wrap (w.fdiv (2 ^ min (i64 (24 - i64 (8 * k))).toNat 32))
def out4 (w i : Int) : Nat → Nat → List Int → List Int
 | 0, _, l => l
 | n + 1, k, l => out4 w i n (k + 1) (pI 32 l (i64 (i64 (4 * i) + k)) (outB w k))
def out8 (ws : List Int) : Nat → Nat → List Int → List Int
 | 0, _, l => l
 | n + 1, k, l => out8 ws n (k + 1) (out4 (ws.getD k 0) k 4 0 l)
def tailL (tk : Int) : List Int := tl (IntKind.u64.wrap (tk * 8)) 8 0 (zs 8)
def pad1 (K : List Int) (s : Hs) : Hs := ab K (fun _ => 0) (zN (stp K s 128).held) 0 (stp K s 128)
def pad2 (K : List Int) (s : Hs) (tk : Int) : Hs := ab K (fun i => (tailL tk).getD i 0) 8 0 (pad1 K s)
def sumF (K : List Int) (s : Hs) (tk : Int) : List Int := out8 (pad2 K s tk).ws 8 0 (zs 32)
theorem stp_held (K : List Int) (s : Hs) (x : Int) (h : s.held < 64) : (stp K s x).held = (s.held + 1) % 64 := by
 unfold stp full
 split
 ·
  rename_i e; rw [e]
 ·
  show s.held + 1 = _; omega
theorem stp_lt (K : List Int) (s : Hs) (x : Int) (h : s.held < 64) : (stp K s x).held < 64 := by rw [stp_held K s x h]; omega
theorem ab_lt (K : List Int) (b : Nat → Int) : ∀ (n i : Nat) (s : Hs), s.held < 64 → (ab K b n i s).held < 64
 | 0, _, _, h => h
 | n + 1, i, s, h => ab_lt K b n (i + 1) _ (stp_lt K s _ h)
theorem ab_const (K : List Int) (z : Int) : ∀ (n i j : Nat) (s : Hs), ab K (fun _ => z) n i s = ab K (fun _ => z) n j s
 | 0, _, _, _ => rfl
 | n + 1, i, j, s => ab_const K z n (i + 1) (j + 1) _
theorem zN_stp (K : List Int) (s : Hs) (h : s.held < 64) (hne : s.held ≠ 56) : zN s.held = zN (stp K s 0).held + 1 := by
 rw [stp_held K s 0 h]
 unfold zN
 omega
theorem sh_ok {k : Nat} (h : k < 4) : (0 : Int) ≤ IntKind.i64.wrap (24 - IntKind.i64.wrap (8 * (k : Int))) := by
 rw [wi64 (n := 8 * (k : Int)) (by omega) (by omega), wi64 (by omega) (by omega)]; omega
theorem ix_ok {k j : Nat} (h : k < 8) (h2 : j < 4) : (0 : Int) ≤ IntKind.i64.wrap (IntKind.i64.wrap (4 * (k : Int)) + (j : Int)) ∧ IntKind.i64.wrap (IntKind.i64.wrap (4 * (k : Int)) + (j : Int)) < 32 := by
 rw [wi64 (n := 4 * (k : Int)) (by omega) (by omega), wi64 (by omega) (by omega)]; omega
def digF (K B0 : List Int) (b : Nat → Int) (n : Nat) : List Int := sumF K (ab K b n 0 ⟨B0, zs 64, 0⟩) (IntKind.u64.wrap (0 + IntKind.u64.wrap n))
end Go.Proofs.YtofophjfgalhaaaGreatDoor.V
