/- A capacity reduced over a span, plainly; nothing here speaks of a program. -/
import Derived.Test.YtcecgbjolngdbaaGreatDoorPlainSt
namespace Go.Proofs.YtcecgbjolngdbaaGreatDoor

def redAt (l : List (Int × Int)) (x y n t : Int) : Int := if x ≤ t ∧ t < y then capF l t - n else capF l t
/-- The capacities at the times 0 to 60. -/
def redList (l : List (Int × Int)) (x y n : Int) : List (Int × Int) := (List.range 61).map fun (t : Nat) => ((t : Int), redAt l x y n t)
theorem redList_len (l : List (Int × Int)) (x y n : Int) : (redList l x y n).length = 61 := by simp [redList]
theorem redList_get (l : List (Int × Int)) (x y n : Int) {t : Nat} (h : t < 61) : (redList l x y n).getD t (0, 0) = ((t : Int), redAt l x y n t) := by
  rw [getD_get _ (by rw [redList_len]; exact h)]
  simp [redList]
def redOkB (l : List (Int × Int)) (x y n : Int) : Bool := spanB l x y && decide (x < y) && decide (0 ≤ n ∧ n ≤ minCap l x y)
def redOut (l : List (Int × Int)) (x y n : Int) : List (Int × Int) := mergeTo (redList l x y n) 61
def redM (l : List (Int × Int)) (x y n : Int) : List (Int × Int) × Bool := if redOkB l x y n = true ∧ (redOut l x y n).length ≤ 8 then (redOut l x y n, true) else ([], false)
theorem redM_len (l : List (Int × Int)) (x y n : Int) : (redM l x y n).1.length ≤ 8 := by
  unfold redM
  split
  · rename_i h; exact h.2
  · simp
theorem redOk_out {l : List (Int × Int)} {x y n : Int} (h : redOkB l x y n = true) : stOkB l = true ∧ (0 ≤ x ∧ x ≤ 60) ∧ (0 ≤ y ∧ y ≤ 60) ∧ x < y ∧ (0 ≤ n ∧ n ≤ 20) ∧ ∀ t, x ≤ t → t < y → n ≤ capF l t := by
  unfold redOkB at h
  rw [Bool.and_eq_true, Bool.and_eq_true, decide_eq_true_eq, decide_eq_true_eq] at h
  obtain ⟨⟨hs, hxy⟩, h0, h1⟩ := h
  have hs' := hs
  unfold spanB at hs'
  rw [Bool.and_eq_true, Bool.and_eq_true, decide_eq_true_eq, decide_eq_true_eq] at hs'
  obtain ⟨⟨hk, hx⟩, hy⟩ := hs'
  unfold minCap at h1
  rw [if_pos hs] at h1
  have hb := minTo_bd hk x (y - x).toNat
  refine ⟨hk, hx, hy, hxy, ⟨h0, by omega⟩, fun t h2 h3 => ?_⟩
  have := minTo_le (l := l) (x := x) (j := (t - x).toNat) (k := (y - x).toNat) (by omega)
  rw [show x + ((t - x).toNat : Int) = t from by omega] at this
  omega
theorem redAt_bd {l : List (Int × Int)} {x y n : Int} (h : redOkB l x y n = true) (t : Int) : 0 ≤ redAt l x y n t ∧ redAt l x y n t ≤ 20 := by
  obtain ⟨hk, _, _, _, hn, hc⟩ := redOk_out h
  have hb := capF_bd hk t
  unfold redAt
  split
  · rename_i ht
    have := hc t ht.1 ht.2
    omega
  · exact hb
/-- What is kept of the first k: times of their own below k, rising, from 0 on. -/
theorem mergeTo_inv {L : List (Int × Int)} (hA : ∀ t, t < L.length → stA L t = t ∧ 0 ≤ stC L t ∧ stC L t ≤ 20) {k : Nat} (hk : k ≤ L.length) :
    (∀ j, j < (mergeTo L k).length → 0 ≤ stA (mergeTo L k) j ∧ stA (mergeTo L k) j < k ∧ 0 ≤ stC (mergeTo L k) j ∧ stC (mergeTo L k) j ≤ 20) ∧
    (∀ j, j + 1 < (mergeTo L k).length → stA (mergeTo L k) j < stA (mergeTo L k) (j + 1)) ∧ (0 < k → 0 < (mergeTo L k).length ∧ stA (mergeTo L k) 0 = 0) := by
  induction k with
  | zero => exact ⟨fun j h => by simp [mergeTo] at h, fun j h => by simp [mergeTo] at h, fun h => absurd h (by omega)⟩
  | succ k ih =>
    obtain ⟨i1, i2, i3⟩ := ih (by omega)
    obtain ⟨a1, a2, a3⟩ := hA k (by omega)
    rw [mergeTo]
    by_cases c : k = 0 ∨ stC L k ≠ stC L (k - 1)
    · rw [if_pos c]
      have hl : (mergeTo L k ++ [L.getD k (0, 0)]).length = (mergeTo L k).length + 1 := by simp
      have gA : ∀ j, j < (mergeTo L k).length → stA (mergeTo L k ++ [L.getD k (0, 0)]) j = stA (mergeTo L k) j ∧ stC (mergeTo L k ++ [L.getD k (0, 0)]) j = stC (mergeTo L k) j := fun j hj => by
        unfold stA stC
        simp only [List.getD_eq_getElem?_getD, List.getElem?_append_left hj, and_self]
      have gL : stA (mergeTo L k ++ [L.getD k (0, 0)]) (mergeTo L k).length = stA L k ∧ stC (mergeTo L k ++ [L.getD k (0, 0)]) (mergeTo L k).length = stC L k := by
        unfold stA stC
        simp
      refine ⟨fun j hj => ?_, fun j hj => ?_, fun _ => ⟨by omega, ?_⟩⟩
      · rw [hl] at hj
        by_cases e : j = (mergeTo L k).length
        · subst e; rw [gL.1, gL.2, a1]; omega
        · rw [(gA j (by omega)).1, (gA j (by omega)).2]
          have := i1 j (by omega)
          omega
      · rw [hl] at hj
        rw [(gA j (by omega)).1]
        by_cases e : j + 1 = (mergeTo L k).length
        · rw [e, gL.1, a1]
          exact (i1 j (by omega)).2.1
        · rw [(gA (j + 1) (by omega)).1]
          exact i2 j (by omega)
      · by_cases k0 : k = 0
        · subst k0
          have e0 : (mergeTo L 0).length = 0 := rfl
          rw [e0] at gL
          rw [gL.1, a1]; rfl
        · rw [(gA 0 (i3 (by omega)).1).1]
          exact (i3 (by omega)).2
    · rw [if_neg c]
      rw [not_or] at c
      refine ⟨fun j hj => ?_, i2, fun _ => i3 (by omega)⟩
      have := i1 j hj
      omega
theorem redOut_ok {l : List (Int × Int)} {x y n : Int} (h : redOkB l x y n = true) : stOkB (redOut l x y n) = decide ((redOut l x y n).length ≤ 8) := by
  have hA : ∀ t, t < (redList l x y n).length → stA (redList l x y n) t = t ∧ 0 ≤ stC (redList l x y n) t ∧ stC (redList l x y n) t ≤ 20 := fun t ht => by
    rw [redList_len] at ht
    unfold stA stC
    rw [redList_get _ _ _ _ ht]
    have := redAt_bd h t
    exact ⟨rfl, this.1, this.2⟩
  obtain ⟨i1, i2, i3⟩ := mergeTo_inv hA (k := 61) (by rw [redList_len]; omega)
  unfold redOut
  by_cases hl : (mergeTo (redList l x y n) 61).length ≤ 8
  · rw [decide_eq_true hl]
    refine stOk_intro (fun j hj => ?_) (i3 (by omega)).1 hl
    have := i1 j hj
    unfold stAt
    rw [decide_eq_true (by omega), decide_eq_true (by omega)]
    by_cases j0 : j = 0
    · rw [if_pos j0, decide_eq_true (i3 (by omega)).2]; rfl
    · rw [if_neg j0]
      have := i2 (j - 1) (by omega)
      rw [show j - 1 + 1 = j from by omega] at this
      rw [decide_eq_true this]; rfl
  · rw [decide_eq_false hl]
    unfold stOkB
    rw [decide_eq_false (p := 1 ≤ _ ∧ _ ≤ _) (by omega), Bool.and_false]
end Go.Proofs.YtcecgbjolngdbaaGreatDoor
