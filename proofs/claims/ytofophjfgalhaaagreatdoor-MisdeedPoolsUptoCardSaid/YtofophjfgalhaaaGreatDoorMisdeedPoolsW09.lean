import Derived.Test.YtofophjfgalhaaaGreatDoorMisdeedPoolsW08
import Derived.Lib.BytesEntry
set_option linter.unusedVariables false
set_option linter.unusedSimpArgs false
set_option maxRecDepth 100000
set_option maxHeartbeats 8000000
namespace Go.Proofs.YtofophjfgalhaaaGreatDoor.V
open Go Go.RowKit
def cmpI (a b : List Int) : Int := Lib.compareBytes (Lib.bytesOf a) (Lib.bytesOf b)
def intsOf (n : Nat) (f : Nat → AV) : List Int := (List.range n).map fun i => (f i).int1
theorem intsOf_length (n : Nat) (f : Nat → AV) : (intsOf n f).length = n := by simp [intsOf]
theorem intsOf_get {n : Nat} {f : Nat → AV} {i : Nat} (h : i < n) : (intsOf n f)[i]? = some (f i).int1 := by
 simp [intsOf, List.getElem?_range h]
def cmpC (args : List AV) (M : MemF) : Option (Prop × AV) := match args with
 | [x, y] => match seqOf M x, seqOf M y with
  | some (c, es, n, f), some (c', es', n', g) => some ((c ∧ (n ≠ 0 → es = 1) ∧ n ≠ 0 ∧ ∀ i, i < n → f i = .v (.int .u8 (f i).int1)) ∧ (c' ∧ (n' ≠ 0 → es' = 1) ∧ n' ≠ 0 ∧ ∀ i, i < n' → g i = .v (.int .u8 (g i).int1)), .v (.int .i64 (cmpI (intsOf n f) (intsOf n' g))))
  | _, _ => none
 | _ => none
theorem Reads.bytes {w : World} {b o len : Nat} {f : Nat → AV} (h : Reads w b o 1 len f) (hu : ∀ i, i < len → f i = .v (.int .u8 (f i).int1)) (cap : Nat) {P : Program} :
  (Extern.Bytes.bytesOf (.slice (some ⟨b, o, none⟩) len cap)).run P w = .ok ⟨(Lib.bytesOf (intsOf len f)).toArray⟩ w := by
 have hl := Lib.run_loadBytesX (P := P) w (intsOf len f) ⟨b, o, none⟩ .empty (fun j x hj => by
  have hjl : j < len := by have := (List.getElem?_eq_some_iff.1 hj).1; rw [intsOf_length] at this; exact this
  rw [intsOf_get hjl] at hj
  cases hj
  have hx := (h j hjl).2.2 0 Nat.zero_lt_one
  rw [Addr.add_none]
  rw [Nat.mul_one, Nat.add_zero] at hx
  rw [hx, hu j hjl]; rfl)
 rw [intsOf_length] at hl
 have he : (⟨ByteArray.empty.data ++ (Lib.bytesOf (intsOf len f)).toArray⟩ : ByteArray) = ⟨(Lib.bytesOf (intsOf len f)).toArray⟩ := by
  apply ByteArray.ext
  show (#[] : Array UInt8) ++ (Lib.bytesOf (intsOf len f)).toArray = (Lib.bytesOf (intsOf len f)).toArray
  simp
 rw [he] at hl
 exact hl
theorem compare_eq (u v : Value) : Extern.BytealgCompare.compare #[u, v] = (do pure (goInt (Extern.BytealgCompare.cmp (← Extern.Bytes.bytesOf u) (← Extern.Bytes.bytesOf v))) : Sem Value) := rfl
theorem cmp_extern {P : Program} {f : FuncId} {fn : Func} (hf : P.funcs[f]? = some fn) (hname : (fn.name == "runtime.NumGoroutine") = false) (hb : fn.body.isNone = true) (hn : Extern.findNext fn = none)
  (he : Extern.find fn = some Extern.BytealgCompare.compare) : CallsOk P f cmpC := by
 intro args M q res h hq O w0 w hS o a next Q hk
 unfold cmpC at h
 split at h
 ·
  rename_i x y
  split at h
  ·
   rename_i c es n f c' es' n' g h1 h2
   cases h
   obtain ⟨⟨a1, a2, a3, a4⟩, ⟨b1, b2, b3, b4⟩⟩ := hq
   obtain ⟨base, cap, v1, r1⟩ := seqOf_spec hS h1 a1
   obtain ⟨base', cap', v2, r2⟩ := seqOf_spec hS h2 b1
   obtain ⟨b1', o1, rfl, hr1⟩ := r1 a3
   obtain ⟨b2', o2, rfl, hr2⟩ := r2 b3
   have he1 := a2 a3
   have he2 := b2 b3
   subst he1 he2
   have g1 := hr1.bytes (P := P) a4 cap
   have g2 := hr2.bytes (P := P) b4 cap'
   have hrun : (Extern.BytealgCompare.compare ([x, y].map AV.val).toArray).run P w = .ok (.int .i64 (cmpI (intsOf n f) (intsOf n' g))) w := by
    simp only [List.map_cons, List.map_nil, v1, v2]
    refine (congrArg (fun s => Sem.run P s w) (compare_eq _ _)).trans ?_
    show ((Extern.Bytes.bytesOf (.slice (some ⟨b1', o1, none⟩) n cap)) >>= fun u => (Extern.Bytes.bytesOf (.slice (some ⟨b2', o2, none⟩) n' cap')) >>= fun v => pure (goInt (Extern.BytealgCompare.cmp u v))).run P w = _
    simp only [Sem.run_bind, g1, g2, Result.andThen_ok, Sem.run_pure]
    rw [Lib.cmp_eq]; rfl
   rw [run_callFunc_extern hf hname hb hn he, hrun]
   exact hk w (Below.refl _ _)
  ·
   cases h
 ·
  cases h
end Go.Proofs.YtofophjfgalhaaaGreatDoor.V
