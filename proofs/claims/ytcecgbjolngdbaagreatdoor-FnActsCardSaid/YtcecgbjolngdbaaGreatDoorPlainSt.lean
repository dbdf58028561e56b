/- Steps, plainly: what the functions on steps compute, and their laws; nothing here speaks of a program. -/
import Derived.Test.YtcecgbjolngdbaaGreatDoorPlain
namespace Go.Proofs.YtcecgbjolngdbaaGreatDoor

/-- The i-th step: its time and its capacity. -/
def stA (l : List (Int × Int)) (i : Nat) : Int := (l.getD i (0, 0)).1
def stC (l : List (Int × Int)) (i : Nat) : Int := (l.getD i (0, 0)).2
def stAt (l : List (Int × Int)) (i : Nat) : Bool :=
  (decide (0 ≤ stA l i ∧ stA l i ≤ 60) && decide (0 ≤ stC l i ∧ stC l i ≤ 20)) && (if i = 0 then decide (stA l 0 = 0) else decide (stA l (i - 1) < stA l i))
def stOkB (l : List (Int × Int)) : Bool := (List.range l.length).all (stAt l) && decide (1 ≤ (l.length : Int) ∧ (l.length : Int) ≤ 8)
theorem stOk_no {l : List (Int × Int)} {k : Nat} (h : k < l.length) (hg : stAt l k = false) : false = stOkB l := by
  symm
  unfold stOkB
  rw [Bool.and_eq_false_iff]
  left
  rw [List.all_eq_false]
  exact ⟨k, List.mem_range.2 h, by rw [hg]; decide⟩
theorem stOk_end {l : List (Int × Int)} (h : ∀ j, j < l.length → stAt l j = true) : decide (1 ≤ (l.length : Int) ∧ (l.length : Int) ≤ 8) = stOkB l := by
  unfold stOkB
  rw [List.all_eq_true.2 (fun x hx => h x (List.mem_range.1 hx)), Bool.true_and]
theorem stOk_all {l : List (Int × Int)} (h : stOkB l = true) : (∀ j, j < l.length → stAt l j = true) ∧ 1 ≤ l.length ∧ l.length ≤ 8 := by
  unfold stOkB at h
  rw [Bool.and_eq_true, List.all_eq_true, decide_eq_true_eq] at h
  exact ⟨fun j hj => h.1 j (List.mem_range.2 hj), by omega, by omega⟩
theorem stOk_intro {l : List (Int × Int)} (h : ∀ j, j < l.length → stAt l j = true) (h1 : 1 ≤ l.length) (h2 : l.length ≤ 8) : stOkB l = true := by
  rw [← stOk_end h, decide_eq_true_eq]
  omega

/-- As the reference asks it: the first step's time is asked at the end. -/
def stAtS (l : List (Int × Int)) (i : Nat) : Bool :=
  (decide (0 ≤ stA l i ∧ stA l i ≤ 60) && decide (0 ≤ stC l i ∧ stC l i ≤ 20)) && (decide (i = 0) || decide (stA l (i - 1) < stA l i))
theorem stAtS_no {l : List (Int × Int)} {k : Nat} (hg : stAtS l k = false) : stAt l k = false := by
  unfold stAtS at hg
  unfold stAt
  by_cases h0 : k = 0
  · subst h0
    simp only [decide_true, Bool.true_or, Bool.and_true] at hg
    rw [hg, Bool.false_and]
  · rw [if_neg h0]
    simpa [h0] using hg
theorem stOkS_end {l : List (Int × Int)} (h : ∀ j, j < l.length → stAtS l j = true) (h1 : 1 ≤ l.length) (h2 : l.length ≤ 8) : decide (stA l 0 = 0) = stOkB l := by
  by_cases h0 : stA l 0 = 0
  · rw [decide_eq_true h0]
    refine (stOk_intro (fun j hj => ?_) h1 h2).symm
    have := h j hj
    unfold stAtS at this
    unfold stAt
    by_cases hj0 : j = 0
    · subst hj0
      simpa [h0] using this
    · rw [if_neg hj0]
      simpa [hj0] using this
  · rw [decide_eq_false h0]
    refine stOk_no (k := 0) (by omega) ?_
    unfold stAt
    rw [if_pos rfl, decide_eq_false h0, Bool.and_false]
theorem stOkS_len {l : List (Int × Int)} (h : ¬ (1 ≤ (l.length : Int) ∧ (l.length : Int) ≤ 8)) : false = stOkB l := by
  symm
  unfold stOkB
  rw [decide_eq_false h, Bool.and_false]

/-- The capacity at a time: that of the last step that is not later. -/
def capF (l : List (Int × Int)) (t : Int) : Int := l.foldl (fun n s => if s.1 ≤ t then s.2 else n) 0
theorem capF_zero (t : Int) : capF [] t = 0 := rfl
theorem capF_succ {l : List (Int × Int)} {k : Nat} (t : Int) (h : k < l.length) : capF (l.take (k + 1)) t = if stA l k ≤ t then stC l k else capF (l.take k) t := by
  rw [take_snoc (0, 0) h]
  simp only [capF, List.foldl_append, List.foldl_cons, List.foldl_nil, stA, stC]
  rfl
theorem capF_bd {l : List (Int × Int)} (h : stOkB l = true) (t : Int) : 0 ≤ capF l t ∧ capF l t ≤ 20 := by
  have h1 := (stOk_all h).1
  have : ∀ k, k ≤ l.length → 0 ≤ capF (l.take k) t ∧ capF (l.take k) t ≤ 20 := by
    intro k
    induction k with
    | zero => intro _; simp [capF]
    | succ k ih =>
      intro hk
      have h2 := h1 k hk
      unfold stAt at h2
      simp only [Bool.and_eq_true, decide_eq_true_eq] at h2
      rw [capF_succ t hk]
      have := ih (by omega)
      split <;> omega
  have := this l.length (Nat.le_refl _)
  rwa [List.take_length] at this
def capAtM (l : List (Int × Int)) (t : Int) : Int := if stOkB l = true ∧ (0 ≤ t ∧ t ≤ 60) then capF l t else 0

def spanB (l : List (Int × Int)) (x y : Int) : Bool := stOkB l && decide (0 ≤ x ∧ x ≤ 60) && decide (0 ≤ y ∧ y ≤ 60)
def minTo (l : List (Int × Int)) (x : Int) : Nat → Int
  | 0 => 20
  | k + 1 => min (minTo l x k) (capF l (x + k))
def minCap (l : List (Int × Int)) (x y : Int) : Int := if spanB l x y = true then minTo l x (y - x).toNat else 0
def sumTo (l : List (Int × Int)) (x : Int) : Nat → Int
  | 0 => 0
  | k + 1 => sumTo l x k + capF l (x + k)
def totCap (l : List (Int × Int)) (x y : Int) : Int := if spanB l x y = true then sumTo l x (y - x).toNat else 0
theorem minTo_succ (l : List (Int × Int)) (x : Int) (k : Nat) : minTo l x (k + 1) = min (minTo l x k) (capF l (x + k)) := rfl
theorem sumTo_succ (l : List (Int × Int)) (x : Int) (k : Nat) : sumTo l x (k + 1) = sumTo l x k + capF l (x + k) := rfl
theorem minTo_bd {l : List (Int × Int)} (h : stOkB l = true) (x : Int) (k : Nat) : 0 ≤ minTo l x k ∧ minTo l x k ≤ 20 := by
  induction k with
  | zero => simp [minTo]
  | succ k ih => have := capF_bd h (x + k); simp only [minTo]; omega
theorem sumTo_bd {l : List (Int × Int)} (h : stOkB l = true) (x : Int) (k : Nat) : 0 ≤ sumTo l x k ∧ sumTo l x k ≤ 20 * k := by
  induction k with
  | zero => simp [sumTo]
  | succ k ih => have := capF_bd h (x + k); simp only [sumTo]; push_cast; omega
theorem minTo_le {l : List (Int × Int)} {x : Int} {j k : Nat} (h : j < k) : minTo l x k ≤ capF l (x + j) := by
  induction k with
  | zero => omega
  | succ k ih =>
    simp only [minTo]
    by_cases e : j = k
    · subst e; omega
    · have := ih (by omega); omega

/-- Steps of one capacity in a row are joined. -/
def mergeTo (l : List (Int × Int)) : Nat → List (Int × Int)
  | 0 => []
  | k + 1 => if k = 0 ∨ stC l k ≠ stC l (k - 1) then mergeTo l k ++ [l.getD k (0, 0)] else mergeTo l k
def mergeM (l : List (Int × Int)) : List (Int × Int) := if stOkB l = true then mergeTo l l.length else []
theorem mergeTo_len (l : List (Int × Int)) (k : Nat) : (mergeTo l k).length ≤ k := by
  induction k with
  | zero => simp [mergeTo]
  | succ k ih =>
    simp only [mergeTo]
    split
    · simp; omega
    · omega
theorem mergeM_len (l : List (Int × Int)) : (mergeM l).length ≤ l.length := by
  unfold mergeM
  split
  · exact mergeTo_len l _
  · simp
/-- The last of what was kept has the capacity of the last step seen. -/
theorem mergeTo_last {l : List (Int × Int)} {k : Nat} (h : k < l.length) : ∃ m, (mergeTo l (k + 1)).length = m + 1 ∧ stC (mergeTo l (k + 1)) m = stC l k := by
  induction k with
  | zero => exact ⟨0, by simp [mergeTo], by simp [mergeTo, stC]⟩
  | succ k ih =>
    rw [mergeTo]
    by_cases c : k + 1 = 0 ∨ stC l (k + 1) ≠ stC l (k + 1 - 1)
    · rw [if_pos c]
      refine ⟨(mergeTo l (k + 1)).length, by simp, ?_⟩
      simp [stC]
    · rw [if_neg c]
      obtain ⟨m, h1, h2⟩ := ih (by omega)
      refine ⟨m, h1, ?_⟩
      rw [h2]
      simp only [not_or, Decidable.not_not] at c
      rw [Nat.add_sub_cancel] at c
      exact c.2.symm
end Go.Proofs.YtcecgbjolngdbaaGreatDoor
