/- An element of an owned row is changed: what the call owns behind it. -/
import Derived.Test.YtcecgbjolngdbaaGreatDoorKitOw
namespace Go.Proofs.YtcecgbjolngdbaaGreatDoor
open Go.ChangeShapes Go.WideShapes Go.ChangeAt Go.RowKit

theorem RowB.tight {w : World} {e : TypeId} {sz : Nat} {A : Option Addr} {n c : Nat} {xs : List Value} {bs : List Nat} (h : RowB w e sz A n c xs bs) : ∃ lo hi, OwnR w lo hi e sz A n c xs ∧ (∀ k, lo ≤ k → k < hi → k ∈ bs) ∧ (∀ N, (∀ k ∈ bs, k < N) → hi ≤ N) := by
  rcases h.2 with ⟨rfl, rfl⟩ | ⟨g, rfl, rfl⟩
  · exact ⟨0, 0, h.own (fun b hb => by cases hb), fun k h1 h2 => by omega, fun N _ => Nat.zero_le _⟩
  · exact ⟨g, g + 1, h.own (fun b hb => by simp at hb; omega), fun k h1 h2 => by simp; omega, fun N hN => hN g (by simp)⟩
section
variable {α : Type} {sz : Nat} {e : TypeId} {O : Owns α} {d : α} {w : World} {l : List α} {bs : List Nat} {A : Option Addr} {c : Nat}
/-- One element of an owned row, and how the row is shut again when it has been changed. -/
theorem OwG.open_ (K : OKeeps O) (h : OwG sz e O d w A c l bs) (hn : bs.Nodup) {i : Nat} (hi : i < l.length) :
    ∃ (b0 : List Nat) (xs : List Value) (v : Array Value) (b : List Nat), RowB w e sz A l.length c xs b0 ∧ O w v (l.getD i d) b ∧ (∀ q, q < sz → xs[i * sz + q]? = v[q]?) ∧ (∀ x ∈ b, x ∈ bs) ∧ (∀ x ∈ b0, x ∈ bs) ∧ (∀ x ∈ b, x ∉ b0) ∧ b.Nodup ∧
      ∀ (w' : World) (xs' : List Value) (v' : Array Value) (m' : α), RowB w' e sz A l.length c xs' b0 → (∀ m, (m < i * sz ∨ (i + 1) * sz ≤ m) → xs'[m]? = xs[m]?) → (∀ q, q < sz → xs'[i * sz + q]? = v'[q]?) → O w' v' m' b →
        (∀ x ∈ bs, x ∉ b → x ∉ b0 → w'.heap[x]? = w.heap[x]?) → OwG sz e O d w' A c (l.set i m') bs := by
  obtain ⟨b0, b1, xs, h1, ⟨vs, bss, rfl, h2⟩, rfl⟩ := h
  obtain ⟨hn0, hn1, hn2⟩ := List.nodup_append.1 hn
  have hpw := hn1
  rw [List.Nodup, List.pairwise_flatMap] at hpw
  obtain ⟨hp1, hp2⟩ := hpw
  have hmem : ∀ j, j < l.length → ∀ x ∈ bss j, x ∈ (List.range l.length).flatMap bss := fun j hj x hx => List.mem_flatMap.2 ⟨j, List.mem_range.2 hj, hx⟩
  have hdis : ∀ j, j < l.length → j ≠ i → ∀ x ∈ bss j, x ∉ bss i := by
    intro j hj hne x hx hx'
    rw [List.pairwise_iff_getElem] at hp2
    rcases Nat.lt_or_gt_of_ne hne with hlt | hlt
    · exact hp2 j i (by simpa using hj) (by simpa using hi) hlt x (by simpa using hx) x (by simpa using hx') rfl
    · exact hp2 i j (by simpa using hi) (by simpa using hj) hlt x (by simpa using hx') x (by simpa using hx) rfl
  refine ⟨b0, xs, vs i, bss i, h1, (h2 i hi).2, (h2 i hi).1, fun x hx => List.mem_append_right _ (hmem i hi x hx), fun x hx => List.mem_append_left _ hx,
    fun x hx hx0 => hn2 x hx0 x (hmem i hi x hx) rfl, hp1 i (List.mem_range.2 hi), fun w' xs' v' m' r1 r2 r3 r4 r5 => ?_⟩
  refine ⟨b0, (List.range l.length).flatMap bss, xs', by rw [List.length_set]; exact r1, ⟨fun j => if j = i then v' else vs j, bss, by rw [List.length_set], fun j hj => ?_⟩, rfl⟩
  rw [List.length_set] at hj
  dsimp only
  by_cases e : j = i
  · subst e
    rw [if_pos rfl]
    refine ⟨r3, ?_⟩
    have : (l.set j m').getD j d = m' := by simp [hi]
    rw [this]
    exact r4
  · rw [if_neg e]
    refine ⟨fun q hq => ?_, ?_⟩
    · rw [← (h2 j hj).1 q hq]
      apply r2
      rcases Nat.lt_or_gt_of_ne e with hlt | hlt
      · left
        have : (j + 1) * sz ≤ i * sz := Nat.mul_le_mul_right _ (by omega)
        rw [Nat.succ_mul] at this
        omega
      · right
        have : (i + 1) * sz ≤ j * sz := Nat.mul_le_mul_right _ (by omega)
        omega
    · have : (l.set i m').getD j d = l.getD j d := by
        simp only [List.getD_eq_getElem?_getD]
        rw [List.getElem?_set_ne (fun h => e h.symm)]
      rw [this]
      refine K _ _ _ _ _ (fun x hx => r5 x (List.mem_append_right _ (hmem j hj x hx)) (hdis j hj e x hx) (fun hx0 => hn2 x hx0 x (hmem j hj x hx) rfl)) (h2 j hj).2
end
end Go.Proofs.YtcecgbjolngdbaaGreatDoor
