import Derived.Test.YtofophjfgalhaaaGreatDoorMisdeedPoolsW07
import Derived.Test.YtofophjfgalhaaaGreatDoorMisdeedPoolsW08
import Derived.Test.YtofophjfgalhaaaGreatDoorMisdeedPoolsW13
import Derived.Shelf.GgSortFunc.InsertionK
set_option linter.unusedVariables false
set_option linter.unusedSimpArgs false
set_option maxRecDepth 100000
set_option maxHeartbeats 8000000
namespace Go.Proofs.YtofophjfgalhaaaGreatDoor.V
open Go Go.RowKit
theorem below_grow {w w' : World} (h : Below w.heap.size w w') : ∃ q os', w' = Go.Sort.grow (w.drewN q) os' := by
 refine ⟨w'.drawn - w.drawn, w'.heap.extract w.heap.size w'.heap.size, ?_⟩
 have hd : w.drawn + (w'.drawn - w.drawn) = w'.drawn := by have := h.drawn; omega
 have hh : w.heap ++ w'.heap.extract w.heap.size w'.heap.size = w'.heap := by
  apply Array.ext_getElem?
  intro i
  rcases Nat.lt_or_ge i w.heap.size with hi | hi
  ·
   rw [Array.getElem?_append_left hi, h.block i hi]
  ·
   rw [Array.getElem?_append_right hi, Array.getElem?_extract]
   split
   ·
    congr 1; omega
   ·
    rw [Array.getElem?_eq_none (by omega)]
 have e : Go.Sort.grow (w.drewN (w'.drawn - w.drawn)) (w'.heap.extract w.heap.size w'.heap.size) = { w with heap := w.heap ++ w'.heap.extract w.heap.size w'.heap.size, drawn := w.drawn + (w'.drawn - w.drawn) } := rfl
 rw [e, hd, hh]
 have h1 := h.os
 have h2 := h.tape
 have h3 := h.output
 cases w
 cases w'
 simp only at h1 h2 h3
 subst h1 h2 h3
 rfl
section
variable {α : Type} [Inhabited α] {en : α → AV} {es : Nat}
theorem flat_at (hes : ∀ x, (en x).size = es) (d : Array α) {i k : Nat} (hi : i < d.size) (hk : k < es) : some ((Go.Sort.flatK (fun x => (en x).cells) es d)[i * es + k]!) = (en d[i]!).cells[k]? := by
 have hlt : i * es + k < d.size * es := Nat.lt_of_lt_of_le (by rw [Nat.succ_mul]; omega) (Nat.mul_le_mul_right es (Nat.succ_le_of_lt hi))
 rw [Go.Sort.get_flatK _ _ _ _ hlt, Nat.mul_comm i es, Nat.mul_add_div (by omega), Nat.div_eq_of_lt hk, Nat.add_zero, Nat.mul_add_mod, Nat.mod_eq_of_lt hk]
 have hlen : k < (en d[i]!).cells.length := by rw [AV.size_cells, hes]; exact hk
 rw [List.getElem?_eq_getElem hlen, List.getElem!_eq_getElem?_getD, List.getElem?_eq_getElem hlen]; rfl
theorem holdsK_of (hes : ∀ x, (en x).size = es) {w : World} {b T cap : Nat} {d : Array α} (h : RowHolds w b T es d.size (fun i => en d[i]!) cap) : Go.Sort.HoldsK (fun x => (en x).cells) es w b 0 d := by
 obtain ⟨c, h1, h2, h3, h4⟩ := h
 intro t ht
 have ht' : t < d.size * es := by simpa using ht
 have e0 : 0 < es := by
  rcases Nat.eq_zero_or_pos es with h | h
  ·
   rw [h] at ht'; simp at ht'
  ·
   exact h
 have hi : t / es < d.size := (Nat.div_lt_iff_lt_mul e0).2 ht'
 have hk : t % es < es := Nat.mod_lt _ e0
 have et : t / es * es + t % es = t := Nat.div_add_mod' t es
 have hf := flat_at hes d hi hk
 rw [et] at hf
 constructor
 ·
  unfold World.cell?
  simp only [h1, Nat.zero_add]
  have := (h4 _ hi).2.2 _ hk
  rw [et] at this
  rw [if_neg (by simp), this, ← hf]; rfl
 ·
  unfold World.frozen?
  simp only [h1]
  simp
theorem sorted_row (hes : ∀ x, (en x).size = es) (hone : ∀ x, (en x).one = true) {w : World} {b T cap n : Nat} {d d' : Array α} {os : Array Obj} (hs : d'.size = d.size) (h : RowHolds w b T es d.size (fun i => en d[i]!) cap) :
  RowHolds (Go.Proofs.sortWorldK (fun x => (en x).cells) es w b 0 n d' os) b T es d.size (fun i => en d'[i]!) cap ∧ ∀ j, j < w.heap.size → j ≠ b → (Go.Proofs.sortWorldK (fun x => (en x).cells) es w b 0 n d' os).heap[j]? = w.heap[j]? := by
 obtain ⟨c, h1, h2, h3, h4⟩ := h
 have hblk := heap_lt h1
 have hheap : (Go.Proofs.sortWorldK (fun x => (en x).cells) es w b 0 n d' os).heap = w.heap.modify b (Go.Sort.onCells (Go.Sort.putCells id 0 (Go.Sort.flatK (fun x => (en x).cells) es d'))) ++ os := rfl
 constructor
 ·
  refine ⟨Go.Sort.putCells id 0 (Go.Sort.flatK (fun x => (en x).cells) es d') c, ?_, ?_, h3, fun i hi => ⟨hes _, hone _, fun k hk => ?_⟩⟩
  ·
   rw [hheap, Array.getElem?_append_left (by simpa using hblk), Array.getElem?_modify, if_pos rfl, h1]; rfl
  ·
   rw [← h2]; unfold Go.Sort.putCells; simp
  ·
   have hlt : i * es + k < c.size := by
    rw [h2]
    have h5 : i * es + k < (i + 1) * es := by rw [Nat.succ_mul]; omega
    exact Nat.lt_of_lt_of_le h5 (Nat.mul_le_mul_right es (Nat.lt_of_lt_of_le hi h3))
   have hlt2 : i * es + k < d'.size * es := by
    have h5 : i * es + k < (i + 1) * es := by rw [Nat.succ_mul]; omega
    exact Nat.lt_of_lt_of_le h5 (Nat.mul_le_mul_right es (by rw [hs]; exact hi))
   unfold Go.Sort.putCells
   rw [Array.getElem?_mapIdx, Array.getElem?_eq_getElem hlt, Option.map_some, if_pos ⟨Nat.zero_le _, by rw [Go.Sort.size_flatK]; omega⟩, Nat.sub_zero]
   exact flat_at hes d' (by rw [hs]; exact hi) hk
 ·
  intro j hj hne
  rw [hheap, Array.getElem?_append_left (by simpa using hj), Array.getElem?_modify, if_neg (fun e => hne e.symm)]
end
section
variable {P : Program} {ct : CtL} {cr : CrL} {f : FuncId} {fn : Func} {c : Code}
theorem turn_oneN (B : Tabs P) (hct : CtLOk P ct) (hcr : CrLOk P cr) (hf : P.funcs[f]? = some fn) (hbd : fn.body = some c) {args : List AV} (hlen : Nat.ble args.length fn.ntmps = true) {M : MemF} {O0 : Nat → Prop} {w0 w : World} (hS0 : Sat O0 w0 M w) (r : Res) {n : Nat} {B0 B1 : Blk} (hM : M n = some B0) (ro : Mem) (ts us : List Nat) (htag : r.tags = n :: ts) (hnd : (900 :: us).Nodup) (hl : ts.length = us.length) (hd : Mem.dfs ((900, B1) :: ro) = [])
  (h1 : B1.holds w) (hown : ∀ k, B1.own k → B0.own k) (hrd : ∀ k, ¬ B1.reads k) (hro : allHold w ro) (hno : noOwn ro) (hap : apartL B0 ro)
  (h : CodeS (cx B ct hct cr hcr (fun b => ∃ a m C, (a, m) ∈ [(900, n)] ∧ M m = some C ∧ C.own b) w fn.ntmps) c (argsTm 0 args) ((900, B1) :: ro) (retK (cx B ct hct cr hcr (fun b => ∃ a m C, (a, m) ∈ [(900, n)] ∧ M m = some C ∧ C.own b) w fn.ntmps) fn fun av M' => ∃ x, r.can x ∧ av.val = (r.out x).val ∧ outsOk M' (900 :: us) (r.mem x))) :
  Calls P f (args.map AV.val).toArray w fun e w' => ∃ x, r.can x ∧ e = .returned (r.out x).val ∧ Turn M w w' (zipM r.tags (r.mem x)).get := by
 refine turn_fn B hct hcr hf hbd hlen hS0 r ((900, B1) :: ro) [(900, n)] (900 :: us) hd ⟨h1, hro⟩ (fun n' B' k hn ho => ?_) (fun n' B' k hn hr n2 C n3 hin hM2 ho2 => ?_) (fun a b m e1 e2 => ?_) (fun a m e => ?_) hnd (by rw [htag, List.length_cons, List.length_cons, hl]) h
 ·
  rw [Mem.get_cons] at hn
  split at hn
  ·
   rename_i e
   cases hn
   exact ⟨n, B0, by rw [← e]; exact .head _, hM, hown k ho⟩
  ·
   exact (noOwn_get hno _ _ _ hn ho).elim
 ·
  simp only [List.mem_singleton, Prod.mk.injEq] at hin
  rw [hin.2] at hM2
  rw [hM] at hM2
  cases hM2
  rw [Mem.get_cons] at hn
  split at hn
  ·
   cases hn; exact hrd k hr
  ·
   exact apartL_get hap _ _ _ hn hr ho2
 ·
  simp only [List.mem_singleton, Prod.mk.injEq] at e1 e2
  rw [e1.1, e2.1]
 ·
  simp only [List.mem_singleton, Prod.mk.injEq] at e
  rw [htag, e.2]; exact .head _
end
theorem mp_stamps {w : World} {mine : Bool} {b clk : Nat} {l : List (AV × AV × Nat)} (h : (Blk.mp mine b l clk).holds w) : (∀ p, p ∈ l → p.2.2 < clk) ∧ (l.map (·.2.2)).Nodup := by
 obtain ⟨es, q1, q2, q3⟩ := mp_mem h
 have e : es.toList.map (·.born) = l.map (·.2.2) := by
  have := congrArg (List.map (·.2.2)) q3
  rw [List.map_map, List.map_map] at this
  exact this
 refine ⟨fun p hp => ?_, by rw [← e]; exact q2.2.1⟩
 have hm : p.2.2 ∈ es.toList.map (·.born) := by rw [e]; exact List.mem_map_of_mem hp
 obtain ⟨x, hx, hxe⟩ := List.mem_map.1 hm
 rw [← hxe]
 exact q2.1 x hx
end Go.Proofs.YtofophjfgalhaaaGreatDoor.V
