import Derived.Test.YtofophjfgalhaaaGreatDoorT
import Derived.Test.YtofophjfgalhaaaGreatDoorR
import Derived.Test.YtofophjfgalhaaaGreatDoorD21
/-! The program's plain looks (wire), each function by its contract. -/
namespace Go.Proofs.YtofophjfgalhaaaGreatDoor.D
open Go
set_option maxRecDepth 100000
theorem mixed : Tryz.prog.follows .mixedOrders = true := by kernel_rfl

def fieldF (b : Bool) : Int := if b then 41 else 0
def fieldC : List AV → Option (Prop × AV)
  | [.v (.bool b)] => some (True, .v (.int .i64 (fieldF b)))
  | _ => none
theorem field_pure : PureFn Tryz.prog 134 fieldC := by
  intro args q res h hq w
  unfold fieldC at h
  split at h
  · rename_i b
    cases h
    refine pure_fn tb_ok eqs_ok (ct := []) trivial mixed Tryz.func134 rfl rfl ?_
    repeat (first
      | refine s_seq ?_
      | refine s_region ?_
      | refine o_val rfl rfl trivial ?_
      | (refine o_val rfl rfl ?hc ?_; (case hc => (first | (simp only [need, imp, needIf]; done) | ((try simp only [need, imp, needIf]); (repeat' apply And.intro) <;> (first | trivial | rfl | omega | (simp; done) | (simp; omega))))))
      | refine o_new rfl rfl trivial (fun _ => ?_)
      | (refine o_new rfl rfl ?hc (fun _ => ?_); (case hc => (first | (simp only [need, imp, needIf]; done) | ((try simp only [need, imp, needIf]); (repeat' apply And.intro) <;> (first | trivial | rfl | omega | (simp; done) | (simp; omega))))))
      | refine d_val rfl rfl trivial ?_
      | (refine d_val rfl rfl ?hc ?_; (case hc => (first | (simp only [need, imp, needIf]; done) | ((try simp only [need, imp, needIf]); (repeat' apply And.intro) <;> (first | trivial | rfl | omega | (simp; done) | (simp; omega))))))
      | refine d_new rfl rfl trivial rfl (fun _ => ?_)
      | (refine d_new rfl rfl ?hc rfl (fun _ => ?_); (case hc => (first | (simp only [need, imp, needIf]; done) | ((try simp only [need, imp, needIf]); (repeat' apply And.intro) <;> (first | trivial | rfl | omega | (simp; done) | (simp; omega))))))
      | refine o_eff (e_store rfl rfl rfl rfl rfl rfl rfl trivial ?_)
      | (refine o_eff (e_store rfl rfl rfl rfl rfl rfl rfl ?hc ?_); (case hc => (first | (simp only [need, imp, needIf]; done) | ((try simp only [need, imp, needIf]); (repeat' apply And.intro) <;> (first | trivial | rfl | omega | (simp; done) | (simp; omega))))))
      | refine o_nil ?_
      | refine d_nil ?_
      | refine s_skip ?_
      | refine s_block ?_
      | refine s_exit ?_
      | refine s_label ?_)
    refine s_cond rfl (fun hb => ?_) (fun hb => ?_)
    all_goals
      repeat (first
        | refine s_seq ?_
        | refine s_region ?_
        | refine o_val rfl rfl trivial ?_
        | (refine o_val rfl rfl ?hc ?_; (case hc => (first | (simp only [need, imp, needIf]; done) | ((try simp only [need, imp, needIf]); (repeat' apply And.intro) <;> (first | trivial | rfl | omega | (simp; done) | (simp; omega))))))
        | refine o_new rfl rfl trivial (fun _ => ?_)
        | (refine o_new rfl rfl ?hc (fun _ => ?_); (case hc => (first | (simp only [need, imp, needIf]; done) | ((try simp only [need, imp, needIf]); (repeat' apply And.intro) <;> (first | trivial | rfl | omega | (simp; done) | (simp; omega))))))
        | refine d_val rfl rfl trivial ?_
        | (refine d_val rfl rfl ?hc ?_; (case hc => (first | (simp only [need, imp, needIf]; done) | ((try simp only [need, imp, needIf]); (repeat' apply And.intro) <;> (first | trivial | rfl | omega | (simp; done) | (simp; omega))))))
        | refine d_new rfl rfl trivial rfl (fun _ => ?_)
        | (refine d_new rfl rfl ?hc rfl (fun _ => ?_); (case hc => (first | (simp only [need, imp, needIf]; done) | ((try simp only [need, imp, needIf]); (repeat' apply And.intro) <;> (first | trivial | rfl | omega | (simp; done) | (simp; omega))))))
        | refine o_eff (e_store rfl rfl rfl rfl rfl rfl rfl trivial ?_)
        | (refine o_eff (e_store rfl rfl rfl rfl rfl rfl rfl ?hc ?_); (case hc => (first | (simp only [need, imp, needIf]; done) | ((try simp only [need, imp, needIf]); (repeat' apply And.intro) <;> (first | trivial | rfl | omega | (simp; done) | (simp; omega))))))
        | refine o_nil ?_
        | refine d_nil ?_
        | refine s_skip ?_
        | refine s_block ?_
        | refine s_exit ?_
        | refine s_label ?_)
      refine s_ret ?_
      exact ⟨_, _, rfl, ⟨trivial, trivial⟩, by subst hb; rfl⟩
  · cases h
theorem field_body : HasBody Tryz.prog 134 := ⟨_, Tryz.func134, rfl, by decide⟩

def kindF (k lo hi : Int) : Int := if (decide (k < lo) || decide (k > hi)) = true then 40 else 0
def kindC : List AV → Option (Prop × AV)
  | [.v (.int .i64 k), .v (.int .i64 lo), .v (.int .i64 hi)] => some (True, .v (.int .i64 (kindF k lo hi)))
  | _ => none
theorem kind_pure : PureFn Tryz.prog 130 kindC := by
  intro args q res h hq w
  unfold kindC at h
  split at h
  · rename_i k lo hi
    cases h
    refine pure_fn tb_ok eqs_ok (ct := []) trivial mixed Tryz.func130 rfl rfl ?_
    repeat (first
      | refine s_seq ?_
      | refine s_region ?_
      | refine o_val rfl rfl trivial ?_
      | (refine o_val rfl rfl ?hc ?_; (case hc => (first | (simp only [need, imp, needIf]; done) | ((try simp only [need, imp, needIf]); (repeat' apply And.intro) <;> (first | trivial | rfl | omega | (simp; done) | (simp; omega))))))
      | refine o_new rfl rfl trivial (fun _ => ?_)
      | (refine o_new rfl rfl ?hc (fun _ => ?_); (case hc => (first | (simp only [need, imp, needIf]; done) | ((try simp only [need, imp, needIf]); (repeat' apply And.intro) <;> (first | trivial | rfl | omega | (simp; done) | (simp; omega))))))
      | refine d_val rfl rfl trivial ?_
      | (refine d_val rfl rfl ?hc ?_; (case hc => (first | (simp only [need, imp, needIf]; done) | ((try simp only [need, imp, needIf]); (repeat' apply And.intro) <;> (first | trivial | rfl | omega | (simp; done) | (simp; omega))))))
      | refine d_new rfl rfl trivial rfl (fun _ => ?_)
      | (refine d_new rfl rfl ?hc rfl (fun _ => ?_); (case hc => (first | (simp only [need, imp, needIf]; done) | ((try simp only [need, imp, needIf]); (repeat' apply And.intro) <;> (first | trivial | rfl | omega | (simp; done) | (simp; omega))))))
      | refine o_eff (e_store rfl rfl rfl rfl rfl rfl rfl trivial ?_)
      | (refine o_eff (e_store rfl rfl rfl rfl rfl rfl rfl ?hc ?_); (case hc => (first | (simp only [need, imp, needIf]; done) | ((try simp only [need, imp, needIf]); (repeat' apply And.intro) <;> (first | trivial | rfl | omega | (simp; done) | (simp; omega))))))
      | refine o_nil ?_
      | refine d_nil ?_
      | refine s_skip ?_
      | refine s_block ?_
      | refine s_exit ?_
      | refine s_label ?_)
    refine s_cond rfl (fun hb => ?_) (fun hb => ?_)
    all_goals
      repeat (first
        | refine s_seq ?_
        | refine s_region ?_
        | refine o_val rfl rfl trivial ?_
        | (refine o_val rfl rfl ?hc ?_; (case hc => (first | (simp only [need, imp, needIf]; done) | ((try simp only [need, imp, needIf]); (repeat' apply And.intro) <;> (first | trivial | rfl | omega | (simp; done) | (simp; omega))))))
        | refine o_new rfl rfl trivial (fun _ => ?_)
        | (refine o_new rfl rfl ?hc (fun _ => ?_); (case hc => (first | (simp only [need, imp, needIf]; done) | ((try simp only [need, imp, needIf]); (repeat' apply And.intro) <;> (first | trivial | rfl | omega | (simp; done) | (simp; omega))))))
        | refine d_val rfl rfl trivial ?_
        | (refine d_val rfl rfl ?hc ?_; (case hc => (first | (simp only [need, imp, needIf]; done) | ((try simp only [need, imp, needIf]); (repeat' apply And.intro) <;> (first | trivial | rfl | omega | (simp; done) | (simp; omega))))))
        | refine d_new rfl rfl trivial rfl (fun _ => ?_)
        | (refine d_new rfl rfl ?hc rfl (fun _ => ?_); (case hc => (first | (simp only [need, imp, needIf]; done) | ((try simp only [need, imp, needIf]); (repeat' apply And.intro) <;> (first | trivial | rfl | omega | (simp; done) | (simp; omega))))))
        | refine o_eff (e_store rfl rfl rfl rfl rfl rfl rfl trivial ?_)
        | (refine o_eff (e_store rfl rfl rfl rfl rfl rfl rfl ?hc ?_); (case hc => (first | (simp only [need, imp, needIf]; done) | ((try simp only [need, imp, needIf]); (repeat' apply And.intro) <;> (first | trivial | rfl | omega | (simp; done) | (simp; omega))))))
        | refine o_nil ?_
        | refine d_nil ?_
        | refine s_skip ?_
        | refine s_block ?_
        | refine s_exit ?_
        | refine s_label ?_)
      refine s_ret ?_
      refine ⟨_, _, rfl, ⟨trivial, trivial⟩, ?_⟩
      simp only [kindF, hb]; rfl
  · cases h
theorem kind_body : HasBody Tryz.prog 130 := ⟨_, Tryz.func130, rfl, by decide⟩

def ct1 : CtL := [(134, fun a _ => fieldC a)]
theorem ct1_ok : CtLOk Tryz.prog ct1 := ⟨.fn field_body field_pure.read, trivial⟩

def heightB (h : Int) : Bool := decide (h < 1) || decide (h > 1099511627776)
def heightC : List AV → Option (Prop × AV)
  | [.v (.int .u64 k)] => some (True, .v (.int .i64 (fieldF (heightB k))))
  | _ => none
theorem height_pure : PureFn Tryz.prog 131 heightC := by
  intro args q res h hq w
  unfold heightC at h
  split at h
  · rename_i k
    cases h
    refine pure_fn tb_ok eqs_ok ct1_ok mixed Tryz.func131 rfl rfl ?_
    repeat (first
      | refine s_seq ?_
      | refine s_region ?_
      | refine o_val rfl rfl trivial ?_
      | (refine o_val rfl rfl ?hc ?_; (case hc => (first | (simp only [need, imp, needIf]; done) | ((try simp only [need, imp, needIf]); (repeat' apply And.intro) <;> (first | trivial | rfl | omega | (simp; done) | (simp; omega))))))
      | refine o_new rfl rfl trivial (fun _ => ?_)
      | (refine o_new rfl rfl ?hc (fun _ => ?_); (case hc => (first | (simp only [need, imp, needIf]; done) | ((try simp only [need, imp, needIf]); (repeat' apply And.intro) <;> (first | trivial | rfl | omega | (simp; done) | (simp; omega))))))
      | refine d_val rfl rfl trivial ?_
      | (refine d_val rfl rfl ?hc ?_; (case hc => (first | (simp only [need, imp, needIf]; done) | ((try simp only [need, imp, needIf]); (repeat' apply And.intro) <;> (first | trivial | rfl | omega | (simp; done) | (simp; omega))))))
      | refine d_new rfl rfl trivial rfl (fun _ => ?_)
      | (refine d_new rfl rfl ?hc rfl (fun _ => ?_); (case hc => (first | (simp only [need, imp, needIf]; done) | ((try simp only [need, imp, needIf]); (repeat' apply And.intro) <;> (first | trivial | rfl | omega | (simp; done) | (simp; omega))))))
      | refine o_eff (e_store rfl rfl rfl rfl rfl rfl rfl trivial ?_)
      | (refine o_eff (e_store rfl rfl rfl rfl rfl rfl rfl ?hc ?_); (case hc => (first | (simp only [need, imp, needIf]; done) | ((try simp only [need, imp, needIf]); (repeat' apply And.intro) <;> (first | trivial | rfl | omega | (simp; done) | (simp; omega))))))
      | refine o_nil ?_
      | refine d_nil ?_
      | refine s_skip ?_
      | refine s_block ?_
      | refine s_exit ?_
      | refine s_label ?_)
    refine s_ret ?_
    exact ⟨_, _, rfl, ⟨trivial, trivial⟩, rfl⟩
  · cases h
theorem height_body : HasBody Tryz.prog 131 := ⟨_, Tryz.func131, rfl, by decide⟩

def roundB (h : Int) : Bool := decide (h < 0) || decide (h > 65535)
def roundC : List AV → Option (Prop × AV)
  | [.v (.int .i64 k)] => some (True, .v (.int .i64 (fieldF (roundB k))))
  | _ => none
theorem round_pure : PureFn Tryz.prog 132 roundC := by
  intro args q res h hq w
  unfold roundC at h
  split at h
  · rename_i k
    cases h
    refine pure_fn tb_ok eqs_ok ct1_ok mixed Tryz.func132 rfl rfl ?_
    repeat (first
      | refine s_seq ?_
      | refine s_region ?_
      | refine o_val rfl rfl trivial ?_
      | (refine o_val rfl rfl ?hc ?_; (case hc => (first | (simp only [need, imp, needIf]; done) | ((try simp only [need, imp, needIf]); (repeat' apply And.intro) <;> (first | trivial | rfl | omega | (simp; done) | (simp; omega))))))
      | refine o_new rfl rfl trivial (fun _ => ?_)
      | (refine o_new rfl rfl ?hc (fun _ => ?_); (case hc => (first | (simp only [need, imp, needIf]; done) | ((try simp only [need, imp, needIf]); (repeat' apply And.intro) <;> (first | trivial | rfl | omega | (simp; done) | (simp; omega))))))
      | refine d_val rfl rfl trivial ?_
      | (refine d_val rfl rfl ?hc ?_; (case hc => (first | (simp only [need, imp, needIf]; done) | ((try simp only [need, imp, needIf]); (repeat' apply And.intro) <;> (first | trivial | rfl | omega | (simp; done) | (simp; omega))))))
      | refine d_new rfl rfl trivial rfl (fun _ => ?_)
      | (refine d_new rfl rfl ?hc rfl (fun _ => ?_); (case hc => (first | (simp only [need, imp, needIf]; done) | ((try simp only [need, imp, needIf]); (repeat' apply And.intro) <;> (first | trivial | rfl | omega | (simp; done) | (simp; omega))))))
      | refine o_eff (e_store rfl rfl rfl rfl rfl rfl rfl trivial ?_)
      | (refine o_eff (e_store rfl rfl rfl rfl rfl rfl rfl ?hc ?_); (case hc => (first | (simp only [need, imp, needIf]; done) | ((try simp only [need, imp, needIf]); (repeat' apply And.intro) <;> (first | trivial | rfl | omega | (simp; done) | (simp; omega))))))
      | refine o_nil ?_
      | refine d_nil ?_
      | refine s_skip ?_
      | refine s_block ?_
      | refine s_exit ?_
      | refine s_label ?_)
    refine s_ret ?_
    exact ⟨_, _, rfl, ⟨trivial, trivial⟩, rfl⟩
  · cases h
theorem round_body : HasBody Tryz.prog 132 := ⟨_, Tryz.func132, rfl, by decide⟩

def momentB (h : Int) : Bool := decide (h > 1125899906842624)
def momentC : List AV → Option (Prop × AV)
  | [.v (.int .u64 k)] => some (True, .v (.int .i64 (fieldF (momentB k))))
  | _ => none
theorem moment_pure : PureFn Tryz.prog 133 momentC := by
  intro args q res h hq w
  unfold momentC at h
  split at h
  · rename_i k
    cases h
    refine pure_fn tb_ok eqs_ok ct1_ok mixed Tryz.func133 rfl rfl ?_
    repeat (first
      | refine s_seq ?_
      | refine s_region ?_
      | refine o_val rfl rfl trivial ?_
      | (refine o_val rfl rfl ?hc ?_; (case hc => (first | (simp only [need, imp, needIf]; done) | ((try simp only [need, imp, needIf]); (repeat' apply And.intro) <;> (first | trivial | rfl | omega | (simp; done) | (simp; omega))))))
      | refine o_new rfl rfl trivial (fun _ => ?_)
      | (refine o_new rfl rfl ?hc (fun _ => ?_); (case hc => (first | (simp only [need, imp, needIf]; done) | ((try simp only [need, imp, needIf]); (repeat' apply And.intro) <;> (first | trivial | rfl | omega | (simp; done) | (simp; omega))))))
      | refine d_val rfl rfl trivial ?_
      | (refine d_val rfl rfl ?hc ?_; (case hc => (first | (simp only [need, imp, needIf]; done) | ((try simp only [need, imp, needIf]); (repeat' apply And.intro) <;> (first | trivial | rfl | omega | (simp; done) | (simp; omega))))))
      | refine d_new rfl rfl trivial rfl (fun _ => ?_)
      | (refine d_new rfl rfl ?hc rfl (fun _ => ?_); (case hc => (first | (simp only [need, imp, needIf]; done) | ((try simp only [need, imp, needIf]); (repeat' apply And.intro) <;> (first | trivial | rfl | omega | (simp; done) | (simp; omega))))))
      | refine o_eff (e_store rfl rfl rfl rfl rfl rfl rfl trivial ?_)
      | (refine o_eff (e_store rfl rfl rfl rfl rfl rfl rfl ?hc ?_); (case hc => (first | (simp only [need, imp, needIf]; done) | ((try simp only [need, imp, needIf]); (repeat' apply And.intro) <;> (first | trivial | rfl | omega | (simp; done) | (simp; omega))))))
      | refine o_nil ?_
      | refine d_nil ?_
      | refine s_skip ?_
      | refine s_block ?_
      | refine s_exit ?_
      | refine s_label ?_)
    refine s_ret ?_
    exact ⟨_, _, rfl, ⟨trivial, trivial⟩, rfl⟩
  · cases h
theorem moment_body : HasBody Tryz.prog 133 := ⟨_, Tryz.func133, rfl, by decide⟩

/-- the first that is not 0 -/
def firstE : List Int → Int
  | [] => 0
  | x :: r => if (x != 0) = true then x else firstE r
def allC (args : List AV) (M : MemF) : Option (Prop × AV) := match args with
  | [.sl p len cap] => match sliceOf M p len with
    | some (c, es, f) => some (c ∧ es = 1 ∧ len < 1000000 ∧ ∀ i, i < len → isI64 (f i) = true, .v (.int .i64 (firstE ((List.range len).map fun i => intOfA (f i)))))
    | none => none
  | _ => none
theorem firstE_skip (f : Nat → Int) : ∀ (k n : Nat), (∀ i, i < k → f i = 0) → k ≤ n → firstE ((List.range n).map f) = firstE ((List.range' k (n - k)).map f)
  | 0, n, _, _ => by rw [List.range_eq_range']; rfl
  | k + 1, n, h, hk => by
    rw [firstE_skip f k n (fun i hi => h i (by omega)) (by omega), show n - k = (n - (k + 1)) + 1 by omega, List.range'_succ, List.map_cons, firstE]
    rw [if_neg (by simp [h k (by omega)])]

theorem all_read : ReadFn Tryz.prog 129 allC := by
  intro args M q res h hq O w0 w hS
  unfold allC at h
  split at h
  · rename_i p len cap
    split at h
    · rename_i c es f hs
      cases h
      obtain ⟨hc, rfl, hlen, hint⟩ := hq
      have hr := sliceOf_reads hS hs hc
      have hargs : ([AV.sl p len cap].map AV.val) = [roSl 900 p.b p.cell 1 len cap].map AV.val := by
        simp only [List.map_cons, List.map_nil, roSl_val, sl_val]
      rw [hargs]
      obtain ⟨xs, hxs⟩ : ∃ xs : Nat → Int, ∀ i, intOfA (f i) = xs i := ⟨_, fun _ => rfl⟩
      have hr' := hr.congr (g := fun i => .v (.int .i64 (xs i))) (fun i hi => by rw [← hxs]; exact isI64_eq (hint i hi))
      simp only [hxs]
      refine ro_fn tb_ok eqs_ok (ct := []) trivial mixed Tryz.func129 rfl (args := [roSl 900 p.b p.cell 1 len cap]) rfl (M := [(900, roB p.b p.cell 1 len fun i => .v (.int .i64 (xs i)))]) trivial ⟨hr'.ro, trivial⟩ ?_
      repeat (first
        | refine s_seq ?_
        | refine s_region ?_
        | refine o_val rfl rfl trivial ?_
        | (refine o_val rfl rfl ?hc ?_; (case hc => (first | (simp only [need, imp, needIf]; done) | ((try simp only [need, imp, needIf]); (repeat' apply And.intro) <;> (first | trivial | rfl | omega | (simp; done) | (simp; omega))))))
        | refine o_new rfl rfl trivial (fun _ => ?_)
        | (refine o_new rfl rfl ?hc (fun _ => ?_); (case hc => (first | (simp only [need, imp, needIf]; done) | ((try simp only [need, imp, needIf]); (repeat' apply And.intro) <;> (first | trivial | rfl | omega | (simp; done) | (simp; omega))))))
        | refine d_val rfl rfl trivial ?_
        | (refine d_val rfl rfl ?hc ?_; (case hc => (first | (simp only [need, imp, needIf]; done) | ((try simp only [need, imp, needIf]); (repeat' apply And.intro) <;> (first | trivial | rfl | omega | (simp; done) | (simp; omega))))))
        | refine d_new rfl rfl trivial rfl (fun _ => ?_)
        | (refine d_new rfl rfl ?hc rfl (fun _ => ?_); (case hc => (first | (simp only [need, imp, needIf]; done) | ((try simp only [need, imp, needIf]); (repeat' apply And.intro) <;> (first | trivial | rfl | omega | (simp; done) | (simp; omega))))))
        | refine o_eff (e_store rfl rfl rfl rfl rfl rfl rfl trivial ?_)
        | (refine o_eff (e_store rfl rfl rfl rfl rfl rfl rfl ?hc ?_); (case hc => (first | (simp only [need, imp, needIf]; done) | ((try simp only [need, imp, needIf]); (repeat' apply And.intro) <;> (first | trivial | rfl | omega | (simp; done) | (simp; omega))))))
        | refine o_nil ?_
        | refine d_nil ?_
        | refine s_skip ?_
        | refine s_block ?_
        | refine s_exit ?_
        | refine s_label ?_)
      refine s_loop (α := Nat) (fun k => k ≤ len ∧ ∀ i, i < k → xs i = 0) (fun k => [(5, none, roSl 900 p.b p.cell 1 len cap), (6, none, .v (.int .i64 len)), (7, none, .v (.int .i64 k)), (2, none, .v (.int .i64 0))]) (fun _ => [(900, roB p.b p.cell 1 len fun i => .v (.int .i64 (xs i)))]) (fun k => len - k) 0 ⟨Nat.zero_le _, fun i hi => by omega⟩ ?_ ?_
      · exact Le.of ⟨rfl, rfl, rfl, rfl, trivial⟩ ⟨⟨_, rfl, Blk.le_refl _⟩, trivial⟩
      · intro k ⟨hk, hz⟩
        repeat (first
          | refine s_seq ?_
          | refine s_region ?_
          | refine o_val rfl rfl trivial ?_
          | (refine o_val rfl rfl ?hc ?_; (case hc => (first | (simp only [need, imp, needIf]; done) | ((try simp only [need, imp, needIf]); (repeat' apply And.intro) <;> (first | trivial | rfl | omega | (simp; done) | (simp; omega))))))
          | refine o_new rfl rfl trivial (fun _ => ?_)
          | (refine o_new rfl rfl ?hc (fun _ => ?_); (case hc => (first | (simp only [need, imp, needIf]; done) | ((try simp only [need, imp, needIf]); (repeat' apply And.intro) <;> (first | trivial | rfl | omega | (simp; done) | (simp; omega))))))
          | refine d_val rfl rfl trivial ?_
          | (refine d_val rfl rfl ?hc ?_; (case hc => (first | (simp only [need, imp, needIf]; done) | ((try simp only [need, imp, needIf]); (repeat' apply And.intro) <;> (first | trivial | rfl | omega | (simp; done) | (simp; omega))))))
          | refine d_new rfl rfl trivial rfl (fun _ => ?_)
          | (refine d_new rfl rfl ?hc rfl (fun _ => ?_); (case hc => (first | (simp only [need, imp, needIf]; done) | ((try simp only [need, imp, needIf]); (repeat' apply And.intro) <;> (first | trivial | rfl | omega | (simp; done) | (simp; omega))))))
          | refine o_eff (e_store rfl rfl rfl rfl rfl rfl rfl trivial ?_)
          | (refine o_eff (e_store rfl rfl rfl rfl rfl rfl rfl ?hc ?_); (case hc => (first | (simp only [need, imp, needIf]; done) | ((try simp only [need, imp, needIf]); (repeat' apply And.intro) <;> (first | trivial | rfl | omega | (simp; done) | (simp; omega))))))
          | refine o_nil ?_
          | refine d_nil ?_
          | refine s_skip ?_
          | refine s_block ?_
          | refine s_exit ?_
          | refine s_label ?_)
        refine s_cond rfl (fun hb => ?_) (fun hb => ?_)
        · have hlt : k < len := by simpa using hb
          repeat (first
            | refine s_seq ?_
            | refine s_region ?_
            | refine o_val rfl rfl trivial ?_
            | (refine o_val rfl rfl ?hc ?_; (case hc => (first | (simp only [need, imp, needIf]; done) | ((try simp only [need, imp, needIf]); (repeat' apply And.intro) <;> (first | trivial | rfl | omega | (simp; done) | (simp; omega))))))
            | refine o_new rfl rfl trivial (fun _ => ?_)
            | (refine o_new rfl rfl ?hc (fun _ => ?_); (case hc => (first | (simp only [need, imp, needIf]; done) | ((try simp only [need, imp, needIf]); (repeat' apply And.intro) <;> (first | trivial | rfl | omega | (simp; done) | (simp; omega))))))
            | refine d_val rfl rfl trivial ?_
            | (refine d_val rfl rfl ?hc ?_; (case hc => (first | (simp only [need, imp, needIf]; done) | ((try simp only [need, imp, needIf]); (repeat' apply And.intro) <;> (first | trivial | rfl | omega | (simp; done) | (simp; omega))))))
            | refine d_new rfl rfl trivial rfl (fun _ => ?_)
            | (refine d_new rfl rfl ?hc rfl (fun _ => ?_); (case hc => (first | (simp only [need, imp, needIf]; done) | ((try simp only [need, imp, needIf]); (repeat' apply And.intro) <;> (first | trivial | rfl | omega | (simp; done) | (simp; omega))))))
            | refine o_eff (e_store rfl rfl rfl rfl rfl rfl rfl trivial ?_)
            | (refine o_eff (e_store rfl rfl rfl rfl rfl rfl rfl ?hc ?_); (case hc => (first | (simp only [need, imp, needIf]; done) | ((try simp only [need, imp, needIf]); (repeat' apply And.intro) <;> (first | trivial | rfl | omega | (simp; done) | (simp; omega))))))
            | refine o_nil ?_
            | refine d_nil ?_
            | refine s_skip ?_
            | refine s_block ?_
            | refine s_exit ?_
            | refine s_label ?_)
          refine s_cond rfl (fun hb2 => ?_) (fun hb2 => ?_)
          · repeat (first
              | refine s_seq ?_
              | refine s_region ?_
              | refine o_val rfl rfl trivial ?_
              | (refine o_val rfl rfl ?hc ?_; (case hc => (first | (simp only [need, imp, needIf]; done) | ((try simp only [need, imp, needIf]); (repeat' apply And.intro) <;> (first | trivial | rfl | omega | (simp; done) | (simp; omega))))))
              | refine o_new rfl rfl trivial (fun _ => ?_)
              | (refine o_new rfl rfl ?hc (fun _ => ?_); (case hc => (first | (simp only [need, imp, needIf]; done) | ((try simp only [need, imp, needIf]); (repeat' apply And.intro) <;> (first | trivial | rfl | omega | (simp; done) | (simp; omega))))))
              | refine d_val rfl rfl trivial ?_
              | (refine d_val rfl rfl ?hc ?_; (case hc => (first | (simp only [need, imp, needIf]; done) | ((try simp only [need, imp, needIf]); (repeat' apply And.intro) <;> (first | trivial | rfl | omega | (simp; done) | (simp; omega))))))
              | refine d_new rfl rfl trivial rfl (fun _ => ?_)
              | (refine d_new rfl rfl ?hc rfl (fun _ => ?_); (case hc => (first | (simp only [need, imp, needIf]; done) | ((try simp only [need, imp, needIf]); (repeat' apply And.intro) <;> (first | trivial | rfl | omega | (simp; done) | (simp; omega))))))
              | refine o_eff (e_store rfl rfl rfl rfl rfl rfl rfl trivial ?_)
              | (refine o_eff (e_store rfl rfl rfl rfl rfl rfl rfl ?hc ?_); (case hc => (first | (simp only [need, imp, needIf]; done) | ((try simp only [need, imp, needIf]); (repeat' apply And.intro) <;> (first | trivial | rfl | omega | (simp; done) | (simp; omega))))))
              | refine o_nil ?_
              | refine d_nil ?_
              | refine s_skip ?_
              | refine s_block ?_
              | refine s_exit ?_
              | refine s_label ?_)
            refine s_ret ?_
            refine ⟨_, _, rfl, ⟨trivial, trivial⟩, ?_⟩
            rw [firstE_skip xs k len hz hk, show len - k = (len - (k + 1)) + 1 by omega, List.range'_succ, List.map_cons, firstE]
            simp at hb2
            simp [hb2]
            rfl
          · repeat (first
              | refine s_seq ?_
              | refine s_region ?_
              | refine o_val rfl rfl trivial ?_
              | (refine o_val rfl rfl ?hc ?_; (case hc => (first | (simp only [need, imp, needIf]; done) | ((try simp only [need, imp, needIf]); (repeat' apply And.intro) <;> (first | trivial | rfl | omega | (simp; done) | (simp; omega))))))
              | refine o_new rfl rfl trivial (fun _ => ?_)
              | (refine o_new rfl rfl ?hc (fun _ => ?_); (case hc => (first | (simp only [need, imp, needIf]; done) | ((try simp only [need, imp, needIf]); (repeat' apply And.intro) <;> (first | trivial | rfl | omega | (simp; done) | (simp; omega))))))
              | refine d_val rfl rfl trivial ?_
              | (refine d_val rfl rfl ?hc ?_; (case hc => (first | (simp only [need, imp, needIf]; done) | ((try simp only [need, imp, needIf]); (repeat' apply And.intro) <;> (first | trivial | rfl | omega | (simp; done) | (simp; omega))))))
              | refine d_new rfl rfl trivial rfl (fun _ => ?_)
              | (refine d_new rfl rfl ?hc rfl (fun _ => ?_); (case hc => (first | (simp only [need, imp, needIf]; done) | ((try simp only [need, imp, needIf]); (repeat' apply And.intro) <;> (first | trivial | rfl | omega | (simp; done) | (simp; omega))))))
              | refine o_eff (e_store rfl rfl rfl rfl rfl rfl rfl trivial ?_)
              | (refine o_eff (e_store rfl rfl rfl rfl rfl rfl rfl ?hc ?_); (case hc => (first | (simp only [need, imp, needIf]; done) | ((try simp only [need, imp, needIf]); (repeat' apply And.intro) <;> (first | trivial | rfl | omega | (simp; done) | (simp; omega))))))
              | refine o_nil ?_
              | refine d_nil ?_
              | refine s_skip ?_
              | refine s_block ?_
              | refine s_exit ?_
              | refine s_label ?_)
            refine ⟨k + 1, ⟨by omega, ?_⟩, by omega, ?_⟩
            · intro i hi
              by_cases hik : i = k
              · subst hik; simpa using hb2
              · exact hz i (by omega)
            · refine Le.of ⟨rfl, rfl, ?_, rfl, trivial⟩ ⟨⟨_, rfl, Blk.le_refl _⟩, trivial⟩
              show some (none, AV.v (.int .i64 (IntKind.i64.wrap (↑k + 1)))) = _
              rw [wi64 (by omega) (by omega)]; rfl
        · have hge : k = len := by simp at hb; omega
          repeat (first
            | refine s_seq ?_
            | refine s_region ?_
            | refine o_val rfl rfl trivial ?_
            | (refine o_val rfl rfl ?hc ?_; (case hc => (first | (simp only [need, imp, needIf]; done) | ((try simp only [need, imp, needIf]); (repeat' apply And.intro) <;> (first | trivial | rfl | omega | (simp; done) | (simp; omega))))))
            | refine o_new rfl rfl trivial (fun _ => ?_)
            | (refine o_new rfl rfl ?hc (fun _ => ?_); (case hc => (first | (simp only [need, imp, needIf]; done) | ((try simp only [need, imp, needIf]); (repeat' apply And.intro) <;> (first | trivial | rfl | omega | (simp; done) | (simp; omega))))))
            | refine d_val rfl rfl trivial ?_
            | (refine d_val rfl rfl ?hc ?_; (case hc => (first | (simp only [need, imp, needIf]; done) | ((try simp only [need, imp, needIf]); (repeat' apply And.intro) <;> (first | trivial | rfl | omega | (simp; done) | (simp; omega))))))
            | refine d_new rfl rfl trivial rfl (fun _ => ?_)
            | (refine d_new rfl rfl ?hc rfl (fun _ => ?_); (case hc => (first | (simp only [need, imp, needIf]; done) | ((try simp only [need, imp, needIf]); (repeat' apply And.intro) <;> (first | trivial | rfl | omega | (simp; done) | (simp; omega))))))
            | refine o_eff (e_store rfl rfl rfl rfl rfl rfl rfl trivial ?_)
            | (refine o_eff (e_store rfl rfl rfl rfl rfl rfl rfl ?hc ?_); (case hc => (first | (simp only [need, imp, needIf]; done) | ((try simp only [need, imp, needIf]); (repeat' apply And.intro) <;> (first | trivial | rfl | omega | (simp; done) | (simp; omega))))))
            | refine o_nil ?_
            | refine d_nil ?_
            | refine s_skip ?_
            | refine s_block ?_
            | refine s_exit ?_
            | refine s_label ?_)
          refine s_ret ?_
          refine ⟨_, _, rfl, ⟨trivial, trivial⟩, ?_⟩
          rw [firstE_skip xs k len hz hk, hge, Nat.sub_self]; rfl
    · cases h
  · cases h
theorem all_body : HasBody Tryz.prog 129 := ⟨_, Tryz.func129, rfl, by decide⟩

end Go.Proofs.YtofophjfgalhaaaGreatDoor.D
