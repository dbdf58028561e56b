/- A sorted list, its runs joined, is the set of its members; nothing here speaks of a program. -/
import Derived.Test.YtcecgbjolngdbaaGreatDoorPlainSort
import Derived.Lib.SlicesCompact
namespace Go.Proofs.YtcecgbjolngdbaaGreatDoor
open Go.Lib Go.Sort

def IsUp (d : Array Int) : Prop := ∀ i j, i ≤ j → j < d.size → d[i]! ≤ d[j]!
theorem upTo_inv {d : Array Int} (hd : IsUp d) (m : Nat) (hm : m ≤ d.size) :
    SS (compactUpTo d m) ∧ (∀ x, x ∈ compactUpTo d m ↔ ∃ j, j < m ∧ d[j]! = x) ∧ ∀ x ∈ compactUpTo d m, x ≤ d[m - 1]! := by
  induction m with
  | zero => exact ⟨by simp [compactUpTo, SS], fun x => by simp [compactUpTo], fun x hx => by simp [compactUpTo] at hx⟩
  | succ m ih =>
    obtain ⟨h1, h2, h3⟩ := ih (by omega)
    rw [compactUpTo_succ, Nat.add_sub_cancel]
    by_cases hk : m = 0 ∨ d[m]! ≠ d[m - 1]!
    · have ek : keeps d m = true := by simp [keeps, hk]
      rw [ek, if_pos rfl]
      have hlt : ∀ x ∈ compactUpTo d m, x < d[m]! := fun x hx => by
        have h4 := h3 x hx
        have hm0 : m ≠ 0 := by rintro rfl; simp [compactUpTo] at hx
        have h5 := hd (m - 1) m (by omega) (by omega)
        have h6 := hk.resolve_left hm0
        omega
      refine ⟨?_, fun x => ?_, fun x hx => ?_⟩
      · rw [SS, List.pairwise_append]
        exact ⟨h1, by simp, fun x hx y hy => by rw [List.mem_singleton] at hy; rw [hy]; exact hlt x hx⟩
      · rw [List.mem_append, h2, List.mem_singleton]
        constructor
        · rintro (⟨j, hj, e⟩ | rfl)
          · exact ⟨j, by omega, e⟩
          · exact ⟨m, by omega, rfl⟩
        · rintro ⟨j, hj, e⟩
          by_cases hjm : j = m
          · subst hjm; exact .inr e.symm
          · exact .inl ⟨j, by omega, e⟩
      · rw [List.mem_append, List.mem_singleton] at hx
        rcases hx with hx | rfl
        · have := hlt x hx; omega
        · exact Int.le_refl _
    · rw [not_or, Decidable.not_not] at hk
      have ek : keeps d m = false := by simp [keeps, hk]
      rw [ek]
      simp only [Bool.false_eq_true, if_false, List.append_nil]
      refine ⟨h1, fun x => ?_, fun x hx => by rw [hk.2]; exact h3 x hx⟩
      rw [h2]
      constructor
      · rintro ⟨j, hj, e⟩; exact ⟨j, by omega, e⟩
      · rintro ⟨j, hj, e⟩
        by_cases hjm : j = m
        · subst hjm; exact ⟨j - 1, by omega, by rw [← hk.2]; exact e⟩
        · exact ⟨j, by omega, e⟩
theorem compact_sort (l : List Int) : compact (l.mergeSort fun x y => decide (x ≤ y)) = setOf l := by
  have hp : (l.mergeSort fun x y => decide (x ≤ y)).Pairwise (fun x y => decide (x ≤ y) = true) :=
    List.pairwise_mergeSort (fun a b c h1 h2 => by simp only [decide_eq_true_eq] at *; omega) (fun a b => by simp only [Bool.or_eq_true, decide_eq_true_eq]; omega) l
  generalize hz : (l.mergeSort fun x y => decide (x ≤ y)) = z at hp
  have hup : IsUp z.toArray := by
    intro i j hij hj
    have hj' : j < z.length := by simpa using hj
    by_cases e : i = j
    · subst e; exact Int.le_refl _
    · have := List.pairwise_iff_getElem.1 hp i j (by omega) hj' (by omega)
      rw [decide_eq_true_eq] at this
      simpa [getElem!_pos, hj', show i < z.length by omega] using this
  obtain ⟨h1, h2, _⟩ := upTo_inv hup z.length (by simp)
  refine setOf_of h1 fun x => ?_
  unfold compact
  rw [h2]
  have hm : x ∈ z ↔ x ∈ l := by rw [← hz]; exact List.mem_mergeSort
  rw [← hm]
  constructor
  · rintro ⟨j, hj, e⟩
    rw [← e]
    simp [getElem!_pos, hj]
  · intro hx
    obtain ⟨j, hj, e⟩ := List.getElem_of_mem hx
    exact ⟨j, hj, by simp [getElem!_pos, hj, e]⟩
end Go.Proofs.YtcecgbjolngdbaaGreatDoor
