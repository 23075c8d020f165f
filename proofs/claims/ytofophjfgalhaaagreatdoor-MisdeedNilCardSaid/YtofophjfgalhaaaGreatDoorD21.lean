import Derived.Test.YtofophjfgalhaaaGreatDoorD20
import Derived.Lib.BytesEntry
/-! bytes.Compare: the machine's own routine, and what calls it. -/
namespace Go.Proofs.YtofophjfgalhaaaGreatDoor.D
open Go Go.RowKit

def intOfA : AV → Int
  | .v (.int _ n) => n
  | _ => 0
def isI64 : AV → Bool
  | .v (.int .i64 _) => true
  | _ => false
def isU8 : AV → Bool
  | .v (.int .u8 _) => true
  | _ => false
theorem isI64_eq {a : AV} (h : isI64 a = true) : a = .v (.int .i64 (intOfA a)) := by
  unfold isI64 at h
  split at h
  · rfl
  · cases h
theorem isU8_eq {a : AV} (h : isU8 a = true) : a = .v (.int .u8 (intOfA a)) := by
  unfold isU8 at h
  split at h
  · rfl
  · cases h

def intsOf (len : Nat) (f : Nat → AV) : List Int := (List.range len).map fun i => intOfA (f i)
theorem intsOf_length (len : Nat) (f : Nat → AV) : (intsOf len f).length = len := by simp [intsOf]
theorem intsOf_get {len : Nat} {f : Nat → AV} {i : Nat} (h : i < len) : (intsOf len f)[i]? = some (intOfA (f i)) := by
  simp [intsOf, List.getElem?_range h]
theorem intsOf_congr {len : Nat} {f g : Nat → AV} (h : ∀ i, i < len → f i = g i) : intsOf len f = intsOf len g := by
  unfold intsOf
  exact List.map_congr_left fun i hi => by rw [h i (List.mem_range.1 hi)]

def cmpI (a b : List Int) : Int := Lib.compareBytes (Lib.bytesOf a) (Lib.bytesOf b)
def cmpC (args : List AV) (M : MemF) : Option (Prop × AV) := match args with
  | [.sl p la _, .sl q lb _] => match sliceOf M p la, sliceOf M q lb with
    | some (c, es, f), some (c', es', g) => some ((c ∧ es = 1 ∧ ∀ i, i < la → isU8 (f i) = true) ∧ (c' ∧ es' = 1 ∧ ∀ i, i < lb → isU8 (g i) = true), .v (.int .i64 (cmpI (intsOf la f) (intsOf lb g))))
    | _, _ => none
  | _ => none

theorem Reads.bytes {w : World} {b o len : Nat} {f : Nat → AV} (h : Reads w b o 1 len f) (hu : ∀ i, i < len → isU8 (f i) = true) (cap : Nat) {P : Program} :
    (Extern.Bytes.bytesOf (.slice (some ⟨b, o, none⟩) len cap)).run P w = .ok ⟨(Lib.bytesOf (intsOf len f)).toArray⟩ w := by
  have hl := Lib.run_loadBytesX (P := P) w (intsOf len f) ⟨b, o, none⟩ .empty (fun j x hj => by
    have hjl : j < len := by have := (List.getElem?_eq_some_iff.1 hj).1; rw [intsOf_length] at this; exact this
    rw [intsOf_get hjl] at hj
    cases hj
    have hx := (h.2 j hjl).2 0 Nat.zero_lt_one
    rw [Addr.add_none]
    rw [Nat.mul_one, Nat.add_zero] at hx
    rw [hx, isU8_eq (hu j hjl)]; rfl)
  rw [intsOf_length] at hl
  have he : (⟨ByteArray.empty.data ++ (Lib.bytesOf (intsOf len f)).toArray⟩ : ByteArray) = ⟨(Lib.bytesOf (intsOf len f)).toArray⟩ := by
    apply ByteArray.ext
    show (#[] : Array UInt8) ++ (Lib.bytesOf (intsOf len f)).toArray = (Lib.bytesOf (intsOf len f)).toArray
    simp
  rw [he] at hl
  exact hl

theorem compare_eq (u v : Value) : Extern.BytealgCompare.compare #[u, v] = (do pure (goInt (Extern.BytealgCompare.cmp (← Extern.Bytes.bytesOf u) (← Extern.Bytes.bytesOf v))) : Sem Value) := rfl

theorem cmp_extern {P : Program} {f : FuncId} {fn : Func} (hf : P.funcs[f]? = some fn) (hname : (fn.name == "runtime.NumGoroutine") = false) (hb : fn.body.isNone = true) (hn : Extern.findNext fn = none)
    (he : Extern.find fn = some Extern.BytealgCompare.compare) : CallsOk P f cmpC := by
  intro args M q res h hq O w0 w hS o a next Q hk
  unfold cmpC at h
  split at h
  · rename_i p la ca p' lb cb
    split at h
    · rename_i c es f c' es' g h1 h2
      cases h
      obtain ⟨⟨hc, rfl, hu⟩, ⟨hc', rfl, hu'⟩⟩ := hq
      have r1 := (sliceOf_reads hS h1 hc).bytes (P := P) hu ca
      have r2 := (sliceOf_reads hS h2 hc').bytes (P := P) hu' cb
      have hrun : (Extern.BytealgCompare.compare ([AV.sl p la ca, AV.sl p' lb cb].map AV.val).toArray).run P w = .ok (.int .i64 (cmpI (intsOf la f) (intsOf lb g))) w := by
        simp only [List.map_cons, List.map_nil, sl_val]
        refine (congrArg (fun s => Sem.run P s w) (compare_eq _ _)).trans ?_
        simp only [Sem.run_bind, r1, r2, Result.andThen_ok, Sem.run_pure]
        rw [Lib.cmp_eq]; rfl
      rw [run_callFunc_extern hf hname hb hn he, hrun]
      exact hk w (Below.refl _ _)
    · cases h
  · cases h

theorem val2 (p q : Pt) (la ca lb cb : Nat) : ([AV.sl p la ca, AV.sl q lb cb].map AV.val) = [roSl 900 p.b p.cell 1 la ca, roSl 901 q.b q.cell 1 lb cb].map AV.val := by
  simp only [List.map_cons, List.map_nil, roSl_val, sl_val]
end Go.Proofs.YtofophjfgalhaaaGreatDoor.D
