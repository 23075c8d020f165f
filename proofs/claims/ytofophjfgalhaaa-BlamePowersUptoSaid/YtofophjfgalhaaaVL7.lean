import Derived.Test.YtofophjfgalhaaaVF6
/-! BlamePowers: the plain law. -/
namespace Go.Proofs.Ytofophjfgalhaaa.V
open Go Go.RowKit

/-! ### what depends on the members alone that are there -/
theorem totG_eq {g g' : Nat → Mb} : ∀ {n k : Nat} {t : Int}, (∀ i, i < k + n → g i = g' i) → totG g n k t = totG g' n k t
  | 0, _, _, _ => rfl
  | n + 1, k, t, h => by
    rw [totG, totG, h k (by omega), totG_eq fun i hi => h i (by omega)]
theorem memG_eq {g g' : Nat → Mb} : ∀ {n k : Nat}, k + n < 4611686018427387904 → (∀ i, i < k + n → g i = g' i) → memG g n k = memG g' n k
  | 0, _, _, _ => rfl
  | n + 1, k, hk, h => by
    have ho : ordBad g k = ordBad g' k := by
      unfold ordBad
      by_cases h0 : (k : Int) > 0
      · rw [wi64 (by omega) (by omega), h k (by omega), h (((k : Int) - 1).toNat) (by omega)]
      · rw [decide_eq_false h0]; rfl
    rw [memG, memG, ho, h k (by omega), memG_eq (by omega) fun i hi => h i (by omega)]
theorem firstI_eq {p p' : Nat → Bool} : ∀ {n k : Nat}, (∀ i, k ≤ i → i < k + n → p i = p' i) → firstI p n k = firstI p' n k
  | 0, _, _ => rfl
  | n + 1, k, h => by
    rw [firstI, firstI, h k (by omega) (by omega), firstI_eq fun i h1 h2 => h i (by omega) (by omega)]
theorem powG_eq {g g' : Nat → Mb} {p p' : Nat → Bool} : ∀ {n k : Nat} {t : Int}, (∀ i, i < k + n → g i = g' i) → (∀ i, i < k + n → p i = p' i) → powG g p n k t = powG g' p' n k t
  | 0, _, _, _, _ => rfl
  | n + 1, k, t, h, h' => by
    rw [powG, powG, h k (by omega), h' k (by omega), powG_eq (fun i hi => h i (by omega)) fun i hi => h' i (by omega)]
theorem membersF_eq {g g' : Nat → Mb} {n : Nat} (hn : n < 4611686018427387904) (h : ∀ i, i < n → g i = g' i) : membersF g n = membersF g' n := by
  unfold membersF
  rw [memG_eq (by omega) (fun i hi => h i (by omega)), totG_eq (fun i hi => h i (by omega))]
theorem soundF_eq {g g' : Nat → Mb} {n : Nat} (hn : n < 4611686018427387904) (h : ∀ i, i < n → g i = g' i) : soundF g n = soundF g' n := by
  unfold soundF
  rw [membersF_eq hn h, firstI_eq (p' := fun i => prioBad (mostOf (membersF g' n).1) (g' i)) fun i _ hi => by rw [h i (by omega)]]
theorem PowerF_eq {g g' : Nat → Mb} {h h' : Nat → Gt} {n m : Nat} (hn : n < 4611686018427387904) (hg : ∀ i, i < n → g i = g' i) (hh : ∀ i, i < m → h i = h' i) : PowerF g n h m = PowerF g' n h' m := by
  unfold PowerF
  rw [soundF_eq hn hg, powG_eq (p' := named g' h' m) (fun i hi => hg i (by omega)) fun i hi => ?_]
  unfold named
  rw [hg i (by omega), firstI_eq (p' := fun j => isAddr (g' i).addr (h' j)) fun j _ hj => by rw [hh j (by omega)]]

/-! ### the two agree -/
theorem firstI_ge {p : Nat → Bool} : ∀ {n k : Nat}, firstI p n k = -1 ∨ 0 ≤ firstI p n k
  | 0, _ => .inl rfl
  | n + 1, k => by
    rw [firstI]
    split
    · exact .inr (by omega)
    · exact firstI_ge
theorem anyR_first {p : Nat → Bool} : ∀ {n k : Nat} {f : Bool}, anyR p n k f = (f || decide (firstI p n k ≥ 0))
  | 0, _, f => by rw [anyR, firstI]; cases f <;> rfl
  | n + 1, k, f => by
    rw [anyR, anyR_first, firstI]
    cases hp : p k with
    | true => simp
    | false => simp
theorem prioR_first {g : Nat → Mb} {t : Int} {p : Nat → Bool} (hp : ∀ i, p i = prioBadR t (g i)) : ∀ {n k : Nat}, prioR g t n k = if decide (firstI p n k ≥ 0) = true then 2 else 0
  | 0, _ => rfl
  | n + 1, k => by
    rw [prioR, firstI, ← hp k]
    cases h : p k with
    | true => simp
    | false => simp [prioR_first hp]
def okMb (x : Mb) : Prop := (0 ≤ x.addr ∧ x.addr < 18446744073709551616) ∧ (0 ≤ x.power ∧ x.power < 18446744073709551616) ∧ -9223372036854775808 ≤ x.prio ∧ x.prio < 9223372036854775808
theorem memG_pow {g : Nat → Mb} : ∀ {n k : Nat}, memG g n k = 0 → ∀ i, k ≤ i → i < k + n → (g i).power ≤ 1152921504606846975
  | 0, k, _, i, h1, h2 => by omega
  | n + 1, k, h, i, h1, h2 => by
    rw [memG] at h
    split at h
    · cases h
    · split at h
      · cases h
      · split at h
        · cases h
        · rename_i hp
          by_cases hik : i = k
          · subst hik
            simp [powBad] at hp
            omega
          · exact memG_pow h i (by omega) (by omega)
theorem totR_big {g : Nat → Mb} : ∀ {n k : Nat} {t : Int}, t > 1152921504606846975 → totR g n k t > 1152921504606846975
  | 0, _, _, h => h
  | n + 1, k, t, h => by
    rw [totR, if_pos (by simp [h])]; decide
theorem tot_agree {g : Nat → Mb} : ∀ {n k : Nat} {t : Int}, 0 ≤ t → t ≤ 1152921504606846975 → (∀ i, k ≤ i → i < k + n → 0 ≤ (g i).power ∧ (g i).power ≤ 1152921504606846975) →
    ((totG g n k t).2 = true → totR g n k t = (totG g n k t).1 ∧ 0 ≤ (totG g n k t).1 ∧ (totG g n k t).1 ≤ 1152921504606846975) ∧ ((totG g n k t).2 = false → totR g n k t > 1152921504606846975)
  | 0, k, t, h0, h1, _ => ⟨fun _ => ⟨rfl, h0, h1⟩, fun h => by cases h⟩
  | n + 1, k, t, h0, h1, h => by
    obtain ⟨p0, p1⟩ := h k (by omega) (by omega)
    rw [totG, totR, wu64 (by omega) (by omega), if_neg (show ¬ (decide (t > 1152921504606846975) || decide ((g k).power > 1152921504606846975)) = true by simp; omega), wu64 (by omega) (by omega)]
    split
    · rename_i hb
      refine ⟨fun h => (by cases h), fun _ => totR_big ?_⟩
      simp at hb; omega
    · rename_i hb
      simp at hb
      exact tot_agree (by omega) (by omega) fun i h1 h2 => h i (by omega) (by omega)
theorem sound_agree {g : Nat → Mb} {n : Nat} (hg : ∀ i, i < n → okMb (g i)) : (soundF g n).2 = SoundRF g n := by
  unfold soundF SoundRF membersF
  by_cases h1 : ((n : Int) == 0) = true
  · simp only [if_pos h1]; rfl
  rw [if_neg h1, if_neg h1]
  by_cases h2 : decide ((n : Int) > 64) = true
  · simp only [if_pos h2]; rfl
  rw [if_neg h2, if_neg h2]
  by_cases h3 : memG g n 0 ≠ 0
  · rw [if_pos h3, if_pos h3]
    rw [if_pos (by simpa using h3)]
  rw [if_neg h3, if_neg h3]
  have h3' : memG g n 0 = 0 := by simpa using h3
  have hp : ∀ i, 0 ≤ i → i < 0 + n → 0 ≤ (g i).power ∧ (g i).power ≤ 1152921504606846975 := fun i _ hi => ⟨(hg i (by omega)).2.1.1, memG_pow h3' i (by omega) hi⟩
  obtain ⟨ta, tb⟩ := tot_agree (t := 0) (by omega) (by omega) hp
  cases ht : (totG g n 0 0).2 with
  | false =>
    have := tb ht
    rw [if_pos (show (!false) = true from rfl), if_pos (decide_eq_true this)]
    rfl
  | true =>
    obtain ⟨e1, e2, e3⟩ := ta ht
    rw [if_neg (show ¬ decide (totR g n 0 0 > 1152921504606846975) = true by simp; omega)]
    simp only [Bool.not_true, bne_self_eq_false, Bool.false_eq_true, if_false]
    have hm : mostOf (totG g n 0 0).1 = 7 * (totG g n 0 0).1 := by
      unfold mostOf; rw [wi64 (n := (totG g n 0 0).1) (by omega) (by omega), wi64 (by omega) (by omega)]
    rw [hm, prioR_first (p := fun i => prioBad (7 * (totG g n 0 0).1) (g i)) (fun i => by
      unfold prioBad prioBadR
      rw [e1, wi64 (n := (totG g n 0 0).1) (by omega) (by omega), wi64 (n := 0 - 7 * (totG g n 0 0).1) (by omega) (by omega), wi64 (n := -7 * (totG g n 0 0).1) (by omega) (by omega), wi64 (n := 7 * (totG g n 0 0).1) (by omega) (by omega)]
      rw [show 0 - 7 * (totG g n 0 0).1 = -7 * (totG g n 0 0).1 by omega])]
    split <;> rfl
theorem power_agree {g : Nat → Mb} {h : Nat → Gt} {n m : Nat} (hg : ∀ i, i < n → okMb (g i)) : PowerF g n h m = PowerRF g n h m := by
  unfold PowerF PowerRF
  rw [sound_agree hg]
  split
  · rfl
  · refine powG_eq (fun _ _ => rfl) fun i _ => ?_
    unfold named namedR
    rw [anyR_first]; rfl
/-- THE LAW -/
theorem law_agree {g : Nat → Mb} {h : Nat → Gt} {n m : Nat} (hn : n < 4611686018427387904) (hg : ∀ i, i < n → okMb (g i)) : PowerF (ext n g mbX) n (ext m h gtX) m = PowerRF g n h m := by
  rw [PowerF_eq hn (fun i hi => ext_lt hi) (fun i hi => ext_lt hi)]
  exact power_agree hg
end Go.Proofs.Ytofophjfgalhaaa.V
