import Derived.Test.YtofophjfgalhaaaGreatDoorMisdeedPoolsW10
import Derived.Maps.RangeRun
set_option linter.unusedVariables false
set_option linter.unusedSimpArgs false
set_option maxRecDepth 100000
set_option maxHeartbeats 8000000
namespace Go.Proofs.YtofophjfgalhaaaGreatDoor.V
open Go Go.RowKit
theorem wp_of_run {P : Program} {o : Oper} {a : Act} {w w' : World} {v : Value} {next : Act → World → Prop} {Q : Exit → Act → World → Prop} (h : (execOp a.eval o).run P w = .ok (.value v) w') (hn : next (a.put o.dst v) w') : o.wp P a w next Q := by
 unfold Oper.wp
 rw [h]
 exact hn
theorem wanted_none {ops : Array Oper} {a : Act} {o : Oper} (hg : o.guard = none) : Region.wanted o (yielded ops a.tmps) = true := by
 unfold Region.wanted
 rw [hg]
theorem mp_mem {w : World} {mine : Bool} {b clk : Nat} {l : List (AV × AV × Nat)} (h : (Blk.mp mine b l clk).holds w) : ∃ es, w.heap[b]? = some (.map es clk) ∧ MapKept.Stamped es clk ∧ es.toList.map tripE = l.map trip := h
theorem leftOf_mem {es : Array MapEntry} {seen : Array Nat} {e : MapEntry} : e ∈ (leftOf es seen).toList ↔ e ∈ es.toList ∧ e.born ∉ seen.toList := by
 unfold leftOf
 simp
section
variable {X : Cx} {tm : Tm} {M : Mem}
theorem o_run {l0 : List Oper} {i : Nat} {o : Oper} {rest : List Oper} {K : Tm → Mem → Prop} {d : Nat} (hd : o.dst = some d) (hlt : Nat.blt d X.N = true) (hg : o.guard = none)
  (h : ∀ a w, At X tm M a w → ∃ (av : AV) (L : Mem) (w' : World), (execOp a.eval o).run X.P w = .ok (.value av.val) w' ∧ Turn M.get w w' L.get ∧ L.get 777777 = none ∧ OpsS X l0 (i + 1) rest ((d, none, av) :: tm) (Mem.app L M) K) : OpsS X l0 i (o :: rest) tm M K := by
 intro hl a w Q ha hQ
 obtain ⟨h1, h2⟩ := drop_succ hl
 rw [List.length_cons]
 refine wpOps_step h1 ?_
 rw [if_pos (wanted_none hg)]
 obtain ⟨av, L, w', hr, ht, hdf, hk⟩ := h a w ha
 refine wp_of_run hr ?_
 exact hk h2 _ w' Q (ha.put (g := none) (av := av) (v := av.val) (fun d' hd' => by rw [hd] at hd'; cases hd'; exact hlt) rfl ht (by rw [hd]; rfl) (Mem.app_get _ _) (app_dfs hdf)) hQ
theorem it_one {k : Nat} {B : Blk} (hk : Nat.beq k 777777 = false) : Mem.get [(k, B)] 777777 = none := by
 rw [Mem.get_cons, if_neg (fun e => by rw [e] at hk; simp at hk)]; rfl
theorem o_range {l0 : List Oper} {i : Nat} {o : Oper} {rest : List Oper} {K : Tm → Mem → Prop} {d n b clk : Nat} {t kt e : TypeId} {x : Operand} {mine : Bool} {l : List (AV × AV × Nat)} {r : TRow} (hd : o.dst = some d) (hlt : Nat.blt d X.N = true) (ho : o.op = .range t x) (hg : o.guard = none) (hx : opd tm.get x = some (none, .mp n b)) (hr : X.E.tb.get t = some r) (hrd : r.d = .map kt e)
  (hM : M.get n = some (.mp mine b l clk)) (hnd : Nat.beq d 777777 = false) (hk : ∀ z, OpsS X l0 (i + 1) rest ((d, none, .v (.pointer (some ⟨z, 0, none⟩))) :: tm) ((d, .it z (some b) clk [] clk) :: M) K) : OpsS X l0 i (o :: rest) tm M K := by
 refine o_run hd hlt hg fun a w ha => ?_
 obtain ⟨es, q1, q2, q3⟩ := mp_mem (ha.S.holds _ _ hM)
 obtain ⟨dd, hu, hv⟩ := (X.hb.get hr).under
 rw [hrd] at hv
 have hu := viewD_map hv ▸ hu
 have hxe : a.eval x = .map (some b) := opd_s ha.T hx (g := none) trivial trivial
 refine ⟨.v (.pointer (some ⟨w.heap.size, 0, none⟩)), [(d, .it w.heap.size (some b) clk [] clk)], w.alloc (.mapIter (some b) clk #[] clk), ?_, Turn.new ((Below.refl _ _).alloc (Nat.le_refl _) _) (heap_alloc_new w _) (fun k hk => by have : w.heap.size = k := hk; omega) (fun k hk => hk), it_one hnd, hk _⟩
 unfold execOp
 rw [ho]
 simp only [Sem.run_bind, Instr.range, hxe]
 rw [run_underlying hu w]
 simp only [Result.andThen, MapKept.run_getObj_map q1, Sem.run_bind, Sem.run_pure]
 rfl
theorem o_next {l0 : List Oper} {i : Nat} {o : Oper} {rest : List Oper} {K : Tm → Mem → Prop} {d ni nm z b since c0 clk : Nat} {x : Operand} {mine : Bool} {seen : List Nat} {l : List (AV × AV × Nat)} (hd : o.dst = some d) (hlt : Nat.blt d X.N = true) (ho : o.op = .next x false) (hg : o.guard = none) (hx : opd tm.get x = some (none, .v (.pointer (some ⟨z, 0, none⟩))))
  (hI : M.get ni = some (.it z (some b) since seen c0)) (hM : M.get nm = some (.mp mine b l clk)) (hnd : Nat.beq ni 777777 = false) (hold : ∀ p, p ∈ l → p.2.2 < since) (hsc : since ≤ c0)
  (hover : (∀ p, p ∈ l → p.2.2 ∈ seen) → OpsS X l0 (i + 1) rest ((d, none, .tup (.cons (.v (.bool false)) .nil)) :: tm) M K)
  (hstep : ∀ p, p ∈ l → p.2.2 ∉ seen → OpsS X l0 (i + 1) rest ((d, none, .tup (.cons (.v (.bool true)) (.cons p.1 (.cons p.2.1 .nil)))) :: tm) ((ni, .it z (some b) since (seen ++ [p.2.2]) clk) :: M) K) : OpsS X l0 i (o :: rest) tm M K := by
 refine o_run hd hlt hg fun a w ha => ?_
 obtain ⟨es, q1, q2, q3⟩ := mp_mem (ha.S.holds _ _ hM)
 have qi : w.heap[z]? = some (.mapIter (some b) since seen.toArray c0) := ha.S.holds _ _ hI
 have hxe : a.eval x = .pointer (some ⟨z, 0, none⟩) := opd_s ha.T hx (g := none) trivial trivial
 have tr : ∀ e, e ∈ es.toList → ∃ p, p ∈ l ∧ p.1.val = e.key ∧ p.2.1.val = e.val ∧ p.2.2 = e.born := fun e he => by
  obtain ⟨p, hp, hpe⟩ := List.mem_map.1 (show tripE e ∈ l.map trip by rw [← q3]; exact List.mem_map_of_mem he)
  exact ⟨p, hp, congrArg (·.1) hpe, congrArg (·.2.1) hpe, congrArg (·.2.2) hpe⟩
 have rt : ∀ p, p ∈ l → ∃ e, e ∈ es.toList ∧ e.born = p.2.2 := fun p hp => by
  obtain ⟨e, he, hpe⟩ := List.mem_map.1 (show trip p ∈ es.toList.map tripE by rw [q3]; exact List.mem_map_of_mem hp)
  exact ⟨e, he, congrArg (·.2.2) hpe⟩
 have run : ∀ v w', (Instr.next (.pointer (some ⟨z, 0, none⟩)) false o.type).run X.P w = .ok v w' → (execOp a.eval o).run X.P w = .ok (.value v) w' := fun v w' h => by
  unfold execOp
  rw [ho]
  simp only [Sem.run_bind, hxe, h]
  rfl
 rcases run_next_at (P := X.P) w o.type z b since c0 seen.toArray es clk qi q1 (fun e he => by
  obtain ⟨p, hp, _, _, hb⟩ := tr e he
  rw [← hb]; exact hold p hp) hsc with ⟨h0, hrun⟩ | ⟨e, he, w1, hw1, hrun⟩
 ·
  refine ⟨.tup (.cons (.v (.bool false)) .nil), [], w, run _ _ hrun, Turn.below (Below.refl _ _), rfl, hover fun p hp => ?_⟩
  obtain ⟨e, he, hb⟩ := rt p hp
  rcases Classical.em (p.2.2 ∈ seen) with h | h
  ·
   exact h
  ·
   have hm : e ∈ (leftOf es seen.toArray).toList := leftOf_mem.2 ⟨he, by rw [hb]; exact h⟩
   have : (leftOf es seen.toArray).toList = [] := List.length_eq_zero_iff.1 (by rw [Array.length_toList]; exact h0)
   rw [this] at hm
   cases hm
 ·
  obtain ⟨he1, he2⟩ := leftOf_mem.1 he
  obtain ⟨p, hp, p1, p2, p3⟩ := tr e he1
  have hk := hstep p hp (by rw [p3]; exact he2)
  have hrun2 : (Instr.next (.pointer (some ⟨z, 0, none⟩)) false o.type).run X.P w = .ok (AV.tup (.cons (.v (.bool true)) (.cons p.1 (.cons p.2.1 .nil)))).val (Go.ChangeMaps.setBlock w1 z (.mapIter (some b) since (seen.toArray.push e.born) clk)) := by
   rw [hrun, ← p1, ← p2]; rfl
  have hheap : w1.heap = w.heap := by rcases hw1 with rfl | rfl <;> rfl
  refine ⟨_, [(ni, .it z (some b) since (seen ++ [p.2.2]) clk)], _, run _ _ hrun2, ?_, it_one hnd, hk⟩
  obtain ⟨s1, s2⟩ := MapKept.heap_set (o' := .mapIter (some b) since (seen.toArray.push e.born) clk) qi
  refine Turn.upd hI ?_ ?_ ?_ ?_ ?_ (fun j _ hj => ?_) ?_ (fun k hk => .inr hk) fun k hk => hk
  ·
   rcases hw1 with rfl | rfl <;> rfl
  ·
   rcases hw1 with rfl | rfl <;> rfl
  ·
   rcases hw1 with rfl | rfl <;> rfl
  ·
   rcases hw1 with rfl | rfl
   ·
    exact Nat.le_refl _
   ·
    exact Nat.le_succ _
  ·
   show w.heap.size ≤ (w1.heap.setIfInBounds z _).size
   rw [hheap]; simp
  ·
   show (w1.heap.setIfInBounds z _)[j]? = _
   rw [hheap]
   exact s2 j fun e => hj e.symm
  ·
   show (w1.heap.setIfInBounds z _)[z]? = _
   rw [hheap, s1, p3]
   simp
theorem o_entry {l0 : List Oper} {i : Nat} {o : Oper} {rest : List Oper} {K : Tm → Mem → Prop} {d ni nm z b since clk : Nat} {x : Operand} {mine : Bool} {seen : List Nat} {l : List (AV × AV × Nat)} (p : AV × AV × Nat) (hd : o.dst = some d) (hlt : Nat.blt d X.N = true) (ho : o.op = .entry x) (hg : o.guard = none) (hx : opd tm.get x = some (none, .v (.pointer (some ⟨z, 0, none⟩))))
  (hI : M.get ni = some (.it z (some b) since (seen ++ [p.2.2]) clk)) (hM : M.get nm = some (.mp mine b l clk)) (hp : p ∈ l)
  (hk : OpsS X l0 (i + 1) rest ((d, none, .tup (.cons p.1 (.cons p.2.1 .nil))) :: tm) M K) : OpsS X l0 i (o :: rest) tm M K := by
 refine o_run hd hlt hg fun a w ha => ?_
 obtain ⟨es, q1, q2, q3⟩ := mp_mem (ha.S.holds _ _ hM)
 have qi : w.heap[z]? = some (.mapIter (some b) since (seen ++ [p.2.2]).toArray clk) := ha.S.holds _ _ hI
 have hxe : a.eval x = .pointer (some ⟨z, 0, none⟩) := opd_s ha.T hx (g := none) trivial trivial
 obtain ⟨e, he, hpe⟩ := List.mem_map.1 (show trip p ∈ es.toList.map tripE by rw [q3]; exact List.mem_map_of_mem hp)
 have p1 : e.key = p.1.val := congrArg (·.1) hpe
 have p2 : e.val = p.2.1.val := congrArg (·.2.1) hpe
 have p3 : e.born = p.2.2 := congrArg (·.2.2) hpe
 have hrun := run_entry_at (P := X.P) w z b since seen.toArray es clk e (by rw [qi, p3]; simp) q1 he q2.2.1
 refine ⟨.tup (.cons p.1 (.cons p.2.1 .nil)), [], w, ?_, Turn.below (Below.refl _ _), rfl, hk⟩
 unfold execOp
 rw [ho]
 simp only [Sem.run_bind, hxe, hrun, p1, p2]
 rfl
end
end Go.Proofs.YtofophjfgalhaaaGreatDoor.V
