import Derived.Test.YtofophjfgalhaaaGreatDoorMisdeedPoolsW08
import Derived.Test.YtofophjfgalhaaaGreatDoorMisdeedPoolsW17
import Derived.Test.YtofophjfgalhaaaGreatDoorMisdeedPoolsW20
set_option linter.unusedVariables false
set_option linter.unusedSimpArgs false
set_option maxRecDepth 100000
set_option maxHeartbeats 8000000
namespace Go.Proofs.YtofophjfgalhaaaGreatDoor.V
open Go Go.RowKit
def hsumC (args : List AV) (M : MemF) : Option (Prop × AV) := match args, M 100004 with
 | [.ptr p], some (.var 4 (.ints .u32 64 K)) => match ptrOf M p true 75 with
  | some (c, .agg (.cons (.v (.bool true)) (.cons (.ints .u32 8 ws) (.cons (.ints .u8 64 pt) (.cons (.v (.int .i64 (.ofNat h))) (.cons (.v (.int .u64 tk)) .nil)))))) => some (c ∧ h < 64, .ints .u8 32 (sumF K ⟨ws, pt, h⟩ tk))
  | _ => none
 | _, _ => none
def ctSu : CtL := [(216, goodC)]
theorem ctSu_ok : CtLOk Tryz.prog ctSu := ⟨.fn good_body good_read, trivial⟩
theorem write_body : HasBody Tryz.prog 212 := ⟨_, Tryz.func212, rfl, by decide⟩
def crSu : CrL := [(212, writeC)]
theorem crSu_ok : CrLOk Tryz.prog crSu := ⟨⟨write_body, write_turn⟩, trivial⟩
theorem hsum_read : ReadFn Tryz.prog 213 hsumC := by
 intro args M q res h0 hq O w0 w hS
 unfold hsumC at h0
 split at h0
 ·
  rename_i p K hMK
  split at h0
  ·
   rename_i c ws pt h tk hp
   cases h0
   obtain ⟨hc, hlt⟩ := hq
   have hR := ptrOf_spec hS hp hc
   have hK := hS.holds _ _ hMK
   rw [show [AV.ptr p].map AV.val = [roP 901 p.b p.cell 75].map AV.val by simp only [List.map_cons, List.map_nil, ptr_val, roP_val]]
   refine ro_fn tabs ctSu_ok crSu_ok Tryz.func213 rfl rfl (M := [(901, roB (some (p.b, p.cell)) 75 1 fun _ => hsAV true ws pt h tk), (100004, .var 4 (.ints .u32 64 K))]) rfl ⟨roB_noOwn, fun _ h => h, trivial⟩ ⟨roB_holds fun _ => ⟨p.b, p.cell, rfl, hR⟩, hK, trivial⟩ ?_
   repeat (first | refine qs_ ?_ | refine qa_ ?_ | refine qo_ ?_ | refine qd_ ?_ | refine za ?_ | refine zb fun _ _ => ?_ | refine zc ?_ | refine ya ?_ | refine yb fun _ _ => ?_ | refine yc ?_ | refine qk_ ?_ | refine qb_ ?_ | refine qx_ ?_)
   refine s_cond (b := false) rfl (fun h1 => by cases h1) (fun _ => ?_)
   repeat (first | refine qs_ ?_ | refine qa_ ?_ | refine qo_ ?_ | refine qd_ ?_ | refine za ?_ | refine zb fun _ _ => ?_ | refine zc ?_ | refine ya ?_ | refine yb fun _ _ => ?_ | refine yc ?_ | refine qk_ ?_ | refine qb_ ?_ | refine qx_ ?_)
   rename_i bR _ _ b3 _ b21 _
   refine o_new rfl rfl rfl ⟨(), trivial⟩ ?hc (fun _ _ => ?_)
   case hc =>
    refine ⟨trivial, ⟨rfl, rfl, rfl, rfl, rfl, rfl⟩, ⟨⟨rfl, rfl, Nat.le_refl _⟩, fun _ => rfl, by decide, fun i hi => ?_⟩, hlt, rfl, Nat.le_refl _⟩
    have : i = 0 := by omega
    subst this; rfl
   obtain ⟨s1, hs1⟩ : ∃ s1, s1 = stp K ⟨ws, pt, h⟩ 128 := ⟨_, rfl⟩
   have hl1 : s1.held < 64 := by rw [hs1]; exact stp_lt K _ _ hlt
   obtain ⟨nb, hnb⟩ : ∃ nb, nb = IntKind.u64.wrap (tk * 8) := ⟨_, rfl⟩
   repeat (first | refine qs_ ?_ | refine qa_ ?_ | refine qo_ ?_ | refine qd_ ?_ | refine za ?_ | refine zb fun _ _ => ?_ | refine zc ?_ | refine ya ?_ | refine yb fun _ _ => ?_ | refine yc ?_ | refine qk_ ?_ | refine qb_ ?_ | refine qx_ ?_)
   refine s_le (tm' := [(2, none, .ptr ⟨2, 0, bR, 0, 32, 0, 0, 0, false⟩), (3, none, .ptr ⟨3, 0, b3, 0, 75, 0, 0, 0, false⟩), (4, none, .v (.int .u64 nb))]) (M' := [(3, .row b3 342 75 1 (fun _ => hsAV true s1.ws s1.pt s1.held (IntKind.u64.wrap (tk + IntKind.u64.wrap 1))) 1), (2, .row bR 26 32 1 (fun _ => .ints .u8 32 (zs 32)) 1), (100004, .var 4 (.ints .u32 64 K))]) ?_ ?_
   ·
    rw [hnb]
    refine Le.of ?leT ⟨⟨_, rfl, Blk.le_row (Nat.le_refl _) ?le⟩, ?leM⟩ (dfs_nil rfl rfl)
    case leT => repeat (first | exact trivial | refine And.intro (by exact rfl) ?_)
    case leM => repeat (first | exact trivial | refine And.intro ⟨_, rfl, Blk.le_refl _⟩ ?_)
    case le =>
     intro i hi
     rw [hs1]; rfl
   refine s_loopW (α := Hs × Int) [23, 24, 25, 26, 27] [3] (fun x => x.1.held < 64 ∧ pad1 K ⟨ws, pt, h⟩ = ab K (fun _ => 0) (zN x.1.held) 0 x.1) (fun _ => []) (fun x => [(3, .row b3 342 75 1 (fun _ => hsAV true x.1.ws x.1.pt x.1.held x.2) 1)]) (fun x => zN x.1.held) (s1, IntKind.u64.wrap (tk + IntKind.u64.wrap 1)) ⟨hl1, by unfold pad1; rw [← hs1]⟩ ?_ ?_
   ·
    exact leQ
   ·
    intro ⟨s2, t2⟩ ⟨v1, v2⟩
    dsimp only at v1 v2
    repeat (first | refine qs_ ?_ | refine qa_ ?_ | refine qo_ ?_ | refine qd_ ?_ | refine za ?_ | refine zb fun _ _ => ?_ | refine zc ?_ | refine ya ?_ | refine yb fun _ _ => ?_ | refine yc ?_ | refine qk_ ?_ | refine qb_ ?_ | refine qx_ ?_)
    refine s_cond (b := decide ((s2.held : Int) ≠ 56)) (by rw [show decide ((s2.held : Int) ≠ 56) = ((s2.held : Int) != 56) from by rw [bne, decide_not]; rfl]; rfl) (fun hb => ?_) (fun hb => ?_)
    ·
     have hne : s2.held ≠ 56 := by simp at hb; omega
     repeat (first | refine qs_ ?_ | refine qa_ ?_ | refine qo_ ?_ | refine qd_ ?_ | refine za ?_ | refine zb fun _ _ => ?_ | refine zc ?_ | refine ya ?_ | refine yb fun _ _ => ?_ | refine yc ?_ | refine qk_ ?_ | refine qb_ ?_ | refine qx_ ?_)
     rename_i b26 _
     refine o_new rfl rfl rfl ⟨(), trivial⟩ ?hc (fun _ _ => ?_)
     case hc =>
      refine ⟨trivial, ⟨rfl, rfl, rfl, rfl, rfl, rfl⟩, ⟨⟨rfl, rfl, Nat.le_refl _⟩, fun _ => rfl, by decide, fun i hi => ?_⟩, v1, rfl, Nat.le_refl _⟩
      have : i = 0 := by omega
      subst this; rfl
     repeat (first | refine qs_ ?_ | refine qa_ ?_ | refine qo_ ?_ | refine qd_ ?_ | refine za ?_ | refine zb fun _ _ => ?_ | refine zc ?_ | refine ya ?_ | refine yb fun _ _ => ?_ | refine yc ?_ | refine qk_ ?_ | refine qb_ ?_ | refine qx_ ?_)
     have hz := zN_stp K s2 v1 hne
     refine ⟨(stp K s2 0, IntKind.u64.wrap (t2 + IntKind.u64.wrap 1)), ⟨stp_lt K _ _ v1, ?_⟩, by dsimp only; omega, ?_⟩
     ·
      rw [v2, hz]
      exact ab_const K 0 _ 1 0 _
     ·
      exact leQ
    ·
     have he : s2.held = 56 := by simp at hb; omega
     have hp1 : pad1 K ⟨ws, pt, h⟩ = s2 := by rw [v2, he]; rfl
     repeat (first | refine qs_ ?_ | refine qa_ ?_ | refine qo_ ?_ | refine qd_ ?_ | refine za ?_ | refine zb fun _ _ => ?_ | refine zc ?_ | refine ya ?_ | refine yb fun _ _ => ?_ | refine yc ?_ | refine qk_ ?_ | refine qb_ ?_ | refine qx_ ?_)
     rename_i b5 _
     refine s_le (tm' := [(2, none, .ptr ⟨2, 0, bR, 0, 32, 0, 0, 0, false⟩), (3, none, .ptr ⟨3, 0, b3, 0, 75, 0, 0, 0, false⟩), (4, none, .v (.int .u64 nb)), (5, none, .ptr ⟨5, 0, b5, 0, 8, 0, 0, 0, false⟩), (28, none, .v (.int .i64 0))]) (M' := [(5, .row b5 344 8 1 (fun _ => .ints .u8 8 (zs 8)) 1), (3, .row b3 342 75 1 (fun _ => hsAV true s2.ws s2.pt s2.held t2) 1), (2, .row bR 26 32 1 (fun _ => .ints .u8 32 (zs 32)) 1), (100004, .var 4 (.ints .u32 64 K))]) (by exact leQ) ?_
     refine s_loopW (α := Nat × List Int) [6, 28, 29, 30, 31, 32, 33, 34, 35, 36, 37, 38, 39] [5] (fun x => x.1 ≤ 8 ∧ tailL tk = tl nb (8 - x.1) x.1 x.2) (fun x => [(28, none, .v (.int .i64 x.1))]) (fun x => [(5, .row b5 344 8 1 (fun _ => .ints .u8 8 x.2) 1)]) (fun x => 8 - x.1) (0, zs 8) ⟨by dsimp only; omega, by rw [hnb]; rfl⟩ ?_ ?_
     ·
      exact leQ
     ·
      intro ⟨k, l⟩ ⟨hk, hz⟩
      dsimp only at hk hz
      repeat (first | refine qs_ ?_ | refine qa_ ?_ | refine qo_ ?_ | refine qd_ ?_ | refine za ?_ | refine zb fun _ _ => ?_ | refine zc ?_ | refine ya ?_ | refine yb fun _ _ => ?_ | refine yc ?_ | refine qk_ ?_ | refine qb_ ?_ | refine qx_ ?_)
      refine s_cond (b := decide ((k : Int) < 8)) rfl (fun hb2 => ?_) (fun hb2 => ?_)
      ·
       have hlt2 : k < 8 := by simp at hb2; omega
       have hs : 8 - k = (8 - (k + 1)) + 1 := by omega
       rw [hs, tl] at hz
       repeat (first | refine qs_ ?_ | refine qa_ ?_ | refine qo_ ?_ | refine qd_ ?_ | refine za ?_ | refine zb fun _ _ => ?_ | refine zc ?_ | refine ya ?_ | refine yb fun _ _ => ?_ | refine yc ?_ | refine qk_ ?_ | refine qb_ ?_ | refine qx_ ?_)
       refine ⟨(k + 1, pI 8 l k (tailB nb k)), ⟨by dsimp only; omega, hz⟩, by dsimp only; omega, ?_⟩
       exact leQ
      ·
       have hge : k = 8 := by simp at hb2; omega
       subst hge
       have hz2 : tailL tk = l := hz
       repeat (first | refine qs_ ?_ | refine qa_ ?_ | refine qo_ ?_ | refine qd_ ?_ | refine za ?_ | refine zb fun _ _ => ?_ | refine zc ?_ | refine ya ?_ | refine yb fun _ _ => ?_ | refine yc ?_ | refine qk_ ?_ | refine qb_ ?_ | refine qx_ ?_)
       rename_i b7 _
       obtain ⟨s3, hs3⟩ : ∃ s3, s3 = pad2 K ⟨ws, pt, h⟩ tk := ⟨_, rfl⟩
       have e3 : ab K (fun i => l.getD i 0) 8 0 s2 = s3 := by rw [hs3]; unfold pad2; rw [hp1, hz2]
       have hle : ∀ {tm0 : Tm} {M0 : Mem} {X0 : Cx}, tm0.get 44 = some (none, AV.v (.int .i64 0)) → tm0.get 43 = some (none, AV.ints .u32 8 (ab K (fun i => l.getD i 0) 8 0 s2).ws) → tm0.get 2 = some (none, AV.ptr ⟨2, 0, bR, 0, 32, 0, 0, 0, false⟩) → tm0.get 7 = some (none, AV.ptr ⟨7, 0, b7, 0, 32, 0, 0, 0, false⟩) →
         M0.get 7 = some (.row b7 26 32 1 (fun _ => .ints .u8 32 (zs 32)) 1) → M0.get 2 = some (.row bR 26 32 1 (fun _ => .ints .u8 32 (zs 32)) 1) → M0.dfs = [] →
         Le X0 tm0 M0 [(44, none, .v (.int .i64 0)), (43, none, .ints .u32 8 s3.ws), (2, none, .ptr ⟨2, 0, bR, 0, 32, 0, 0, 0, false⟩), (7, none, .ptr ⟨7, 0, b7, 0, 32, 0, 0, 0, false⟩)] [(7, .row b7 26 32 1 (fun _ => .ints .u8 32 (zs 32)) 1), (2, .row bR 26 32 1 (fun _ => .ints .u8 32 (zs 32)) 1)] := by
        intro tm0 M0 X0 g1 g2 g3 g4 g5 g6 g7
        rw [e3] at g2
        exact Le.of ⟨g1, g2, g3, g4, trivial⟩ ⟨⟨_, g5, Blk.le_refl _⟩, ⟨_, g6, Blk.le_refl _⟩, trivial⟩ (by rw [g7]; rfl)
       refine s_le (hle rfl rfl rfl rfl rfl rfl rfl) ?_
       obtain ⟨wz, hwz⟩ : ∃ wz, wz = s3.ws := ⟨_, rfl⟩
       rw [← hwz]
       have hsu : sumF K ⟨ws, pt, h⟩ tk = out8 wz 8 0 (zs 32) := by unfold sumF; rw [← hs3, ← hwz]
       refine s_loopW (α := Nat × List Int) [8, 9, 10, 44, 45, 46, 47, 48, 49, 50, 51, 52, 53, 54, 55, 56, 57, 58, 59, 60, 61, 62, 63] [7] (fun x => x.1 ≤ 8 ∧ out8 wz 8 0 (zs 32) = out8 wz (8 - x.1) x.1 x.2) (fun x => [(44, none, .v (.int .i64 x.1)), (43, none, .ints .u32 8 wz)]) (fun x => [(7, .row b7 26 32 1 (fun _ => .ints .u8 32 x.2) 1)]) (fun x => 8 - x.1) (0, zs 32) ⟨by dsimp only; omega, rfl⟩ ?_ ?_
       ·
        exact leQ
       ·
        intro ⟨k2, l2⟩ ⟨hk2, hz3⟩
        dsimp only at hk2 hz3
        repeat (first | refine qs_ ?_ | refine qa_ ?_ | refine qo_ ?_ | refine qd_ ?_ | refine za ?_ | refine zb fun _ _ => ?_ | refine zc ?_ | refine ya ?_ | refine yb fun _ _ => ?_ | refine yc ?_ | refine qk_ ?_ | refine qb_ ?_ | refine qx_ ?_)
        refine s_cond (b := decide ((k2 : Int) < 8)) rfl (fun hb3 => ?_) (fun hb3 => ?_)
        ·
         have hlt3 : k2 < 8 := by simp at hb3; omega
         have hs2 : 8 - k2 = (8 - (k2 + 1)) + 1 := by omega
         rw [hs2, out8] at hz3
         repeat (first | refine qs_ ?_ | refine qa_ ?_ | refine qo_ ?_ | refine qd_ ?_ | refine za ?_ | refine zb fun _ _ => ?_ | refine zc ?_ | refine ya ?_ | refine yb fun _ _ => ?_ | refine yc ?_ | refine qk_ ?_ | refine qb_ ?_ | refine qx_ ?_)
         refine s_le (tm' := [(44, none, .v (.int .i64 (k2 : Int))), (43, none, .ints .u32 8 wz), (2, none, .ptr ⟨2, 0, bR, 0, 32, 0, 0, 0, false⟩), (7, none, .ptr ⟨7, 0, b7, 0, 32, 0, 0, 0, false⟩), (8, none, .v (.int .i64 (k2 : Int))), (9, none, .v (.int .u32 (wz.getD k2 0))), (48, none, .v (.int .i64 0))]) (M' := [(7, .row b7 26 32 1 (fun _ => .ints .u8 32 l2) 1), (2, .row bR 26 32 1 (fun _ => .ints .u8 32 (zs 32)) 1)]) (by exact leQ) ?_
         refine s_loopW (α := Nat × List Int) [10, 48, 49, 50, 51, 52, 53, 54, 55, 56, 57, 58, 59, 60, 61, 62] [7] (fun x => x.1 ≤ 4 ∧ out4 (wz.getD k2 0) k2 4 0 l2 = out4 (wz.getD k2 0) k2 (4 - x.1) x.1 x.2) (fun x => [(48, none, .v (.int .i64 x.1))]) (fun x => [(7, .row b7 26 32 1 (fun _ => .ints .u8 32 x.2) 1)]) (fun x => 4 - x.1) (0, l2) ⟨by dsimp only; omega, rfl⟩ ?_ ?_
         ·
          exact leQ
         ·
          intro ⟨k3, l3⟩ ⟨hk3, hz4⟩
          dsimp only at hk3 hz4
          repeat (first | refine qs_ ?_ | refine qa_ ?_ | refine qo_ ?_ | refine qd_ ?_ | refine za ?_ | refine zb fun _ _ => ?_ | refine zc ?_ | refine ya ?_ | refine yb fun _ _ => ?_ | refine yc ?_ | refine qk_ ?_ | refine qb_ ?_ | refine qx_ ?_)
          refine s_cond (b := decide ((k3 : Int) < 4)) rfl (fun hb4 => ?_) (fun hb4 => ?_)
          ·
           have hlt4 : k3 < 4 := by simp at hb4; omega
           have hs4 : 4 - k3 = (4 - (k3 + 1)) + 1 := by omega
           rw [hs4, out4] at hz4
           have hix := ix_ok hlt3 hlt4
           repeat (first | refine qs_ ?_ | refine qa_ ?_ | refine qo_ ?_ | refine qd_ ?_ | refine za ?_ | refine zb fun _ _ => ?_ | refine zc ?_ | refine ya ?_ | refine yb fun _ _ => ?_ | refine yc ?_ | refine qk_ ?_ | refine qb_ ?_ | refine qx_ ?_)
           refine o_val rfl rfl trivial ⟨trivial, trivial, sh_ok hlt4⟩ ?_
           repeat (first | refine qs_ ?_ | refine qa_ ?_ | refine qo_ ?_ | refine qd_ ?_ | refine za ?_ | refine zb fun _ _ => ?_ | refine zc ?_ | refine ya ?_ | refine yb fun _ _ => ?_ | refine yc ?_ | refine qk_ ?_ | refine qb_ ?_ | refine qx_ ?_)
           refine ⟨(k3 + 1, pI 32 l3 (i64 (i64 (4 * (k2 : Int)) + k3)) (outB (wz.getD k2 0) k3)), ⟨by dsimp only; omega, hz4⟩, by dsimp only; omega, ?_⟩
           exact leQ
          ·
           have hge4 : k3 = 4 := by simp at hb4; omega
           subst hge4
           have hz5 : out4 (wz.getD k2 0) k2 4 0 l2 = l3 := hz4
           repeat (first | refine qs_ ?_ | refine qa_ ?_ | refine qo_ ?_ | refine qd_ ?_ | refine za ?_ | refine zb fun _ _ => ?_ | refine zc ?_ | refine ya ?_ | refine yb fun _ _ => ?_ | refine yc ?_ | refine qk_ ?_ | refine qb_ ?_ | refine qx_ ?_)
           refine ⟨(k2 + 1, l3), ⟨by dsimp only; omega, by rw [← hz5]; exact hz3⟩, by dsimp only; omega, ?_⟩
           exact leQ
        ·
         have hge3 : k2 = 8 := by simp at hb3; omega
         subst hge3
         have hz6 : out8 wz 8 0 (zs 32) = l2 := hz3
         repeat (first | refine qs_ ?_ | refine qa_ ?_ | refine qo_ ?_ | refine qd_ ?_ | refine za ?_ | refine zb fun _ _ => ?_ | refine zc ?_ | refine ya ?_ | refine yb fun _ _ => ?_ | refine yc ?_ | refine qk_ ?_ | refine qb_ ?_ | refine qx_ ?_)
         refine s_ret ?_
         exact ⟨_, _, rfl, ⟨⟨⟨rfl, rfl, rfl, Nat.zero_lt_one⟩, rfl⟩, trivial⟩, rfl, by rw [hsu, hz6]; rfl⟩
  ·
   cases h0
 ·
  cases h0
theorem hsum_body : HasBody Tryz.prog 213 := ⟨_, Tryz.func213, rfl, by decide⟩
end Go.Proofs.YtofophjfgalhaaaGreatDoor.V
