/- Plain functions that the Go functions compute, and their laws; nothing here speaks of a program. -/
import Derived.Test.YtmiibhegfbgloaaKit
namespace Go.Proofs.Ytmiibhegfbgloaa

/-! ## Sets -/
def setOkB (l : List Int) : Bool := (List.range (l.length - 1)).all fun i => decide (l.getD i 0 < l.getD (i + 1) 0)
theorem setOk_true {l : List Int} (h : ∀ j, j + 1 < l.length → l.getD j 0 < l.getD (j + 1) 0) : true = setOkB l := by
  symm
  unfold setOkB
  rw [List.all_eq_true]
  intro j hj
  rw [List.mem_range] at hj
  exact decide_eq_true (h j (by omega))
theorem setOk_false {l : List Int} (j : Nat) (hj : j + 1 < l.length) (h : l.getD (j + 1) 0 ≤ l.getD j 0) : false = setOkB l := by
  symm
  unfold setOkB
  rw [List.all_eq_false]
  exact ⟨j, by rw [List.mem_range]; omega, by simp only [decide_eq_true_eq]; omega⟩

def hasB (l : List Int) (n : Int) : Bool := decide (n ∈ l)
theorem has_take {l : List Int} {n : Int} {k : Nat} (h : n ∉ l.take k) (hk : k < l.length) (hx : l.getD k 0 ≠ n) : n ∉ l.take (k + 1) := by
  rw [take_snoc 0 hk]
  simp only [List.mem_append, List.mem_singleton, not_or]
  exact ⟨h, fun e => hx e.symm⟩
theorem has_yes {l : List Int} {n : Int} {k : Nat} (hk : k < l.length) (hx : l.getD k 0 = n) : true = hasB l n := by
  symm
  unfold hasB
  rw [decide_eq_true_eq, ← hx, getD_get 0 hk]
  exact List.getElem_mem hk
theorem has_no {l : List Int} {n : Int} {k : Nat} (h : n ∉ l.take k) (hk : l.length ≤ k) : false = hasB l n := by
  symm
  unfold hasB
  rw [List.take_of_length_le hk] at h
  exact decide_eq_false h

def subB (a b : List Int) : Bool := a.all (hasB b)
theorem sub_no {a b : List Int} {k : Nat} (hk : k < a.length) (h : hasB b (a.getD k 0) = false) : false = subB a b := by
  symm
  unfold subB
  rw [List.all_eq_false]
  exact ⟨a.getD k 0, by rw [getD_get 0 hk]; exact List.getElem_mem hk, by rw [h]; decide⟩
theorem sub_yes {a b : List Int} {k : Nat} (hk : a.length ≤ k) (h : (a.take k).all (hasB b) = true) : true = subB a b := by
  unfold subB
  rw [List.take_of_length_le hk] at h
  exact h.symm
theorem all_step {p : Int → Bool} {l : List Int} {k : Nat} (h : (l.take k).all p = true) (hk : k < l.length) (hx : p (l.getD k 0) = true) : (l.take (k + 1)).all p = true := by
  rw [take_snoc 0 hk, List.all_append, h]
  simp only [List.all_cons, List.all_nil, hx, Bool.and_self]

def clamp (n : Int) : Int := min (max n (-100000)) 100000
theorem clamp_ite (X : Int) : (if 100000 < (if X < -100000 then -100000 else X) then 100000 else if X < -100000 then -100000 else X) = clamp X := by unfold clamp; omega
theorem clamp_bd (n : Int) : -100000 ≤ clamp n ∧ clamp n ≤ 100000 := by unfold clamp; omega
def clampSum (l : List Int) : Int := (l.map clamp).sum
theorem clampSum_snoc (l : List Int) (n : Int) : clampSum (l ++ [n]) = clampSum l + clamp n := by simp [clampSum]
theorem clampSum_bd (l : List Int) : -(100000 * (l.length : Int)) ≤ clampSum l ∧ clampSum l ≤ 100000 * (l.length : Int) := by
  induction l with
  | nil => simp [clampSum]
  | cons a l ih =>
    have h1 := clamp_bd a
    have h2 : clampSum (a :: l) = clamp a + clampSum l := by simp [clampSum]
    rw [h2, List.length_cons]
    push_cast
    omega
theorem clampSum_take {l : List Int} {k : Nat} (hk : k < l.length) : clampSum (l.take (k + 1)) = clampSum (l.take k) + clamp (l.getD k 0) := by
  rw [take_snoc 0 hk, clampSum_snoc]

def intRange (n : Int) : List Int := if 0 ≤ n ∧ n ≤ 200 then (List.range n.toNat).map fun (i : Nat) => (i : Int) else []
def firstN (n : Nat) : List Int := (List.range n).map fun (i : Nat) => (i : Int)
theorem firstN_succ (n : Nat) : firstN (n + 1) = firstN n ++ [(n : Int)] := by simp [firstN, List.range_succ]
theorem firstN_len (n : Nat) : (firstN n).length = n := by simp [firstN]
theorem intRange_yes {n : Nat} (h : n ≤ 200) : intRange n = firstN n := by
  unfold intRange firstN
  rw [if_pos (by omega)]
  simp
theorem intRange_no {n : Int} (h : ¬ (0 ≤ n ∧ n ≤ 200)) : intRange n = [] := by
  unfold intRange
  rw [if_neg h]

def keepI (p : Int → Bool) (l : List Int) : List Int := l.filter p
theorem keepI_take {p : Int → Bool} {l : List Int} {k : Nat} (hk : k < l.length) : keepI p (l.take (k + 1)) = keepI p (l.take k) ++ (if p (l.getD k 0) then [l.getD k 0] else []) := by
  rw [take_snoc 0 hk]
  simp [keepI, List.filter_cons]
theorem keepI_len (p : Int → Bool) (l : List Int) (k : Nat) : (keepI p (l.take k)).length ≤ k := Nat.le_trans (List.length_filter_le _ _) (by rw [List.length_take]; omega)
def remB (n : Int) (x : Int) : Bool := x != n
def remI (l : List Int) (n : Int) : List Int := keepI (remB n) l
theorem remI_len (l : List Int) (n : Int) : (remI l n).length ≤ l.length := List.length_filter_le _ _
theorem intRange_len (n : Int) : (intRange n).length ≤ 200 := by
  unfold intRange
  split
  · simp; omega
  · simp
end Go.Proofs.Ytmiibhegfbgloaa
