/- Modes, activities, resources, projects, plainly; nothing here speaks of a program. -/
import Derived.Test.YtejimjpflbhhnaaPlainSt
namespace Go.Proofs.Ytejimjpflbhhnaa

structure Md where
  dur : Int
  use : List Int
  con : List Int
deriving DecidableEq
structure Ac where
  name : ByteArray
  fam : Int
  modes : List Md
deriving DecidableEq
def md0 : Md := ⟨0, [], []⟩
instance : Inhabited Md := ⟨md0⟩

def amtB (x : Int) : Bool := decide (0 ≤ x ∧ x ≤ 20)
def amtsB (l : List Int) (n : Int) : Bool := l.all amtB && decide ((l.length : Int) = n)
theorem amts_no {l : List Int} {n : Int} {k : Nat} (hk : k < l.length) (h : amtB (l.getD k 0) = false) : false = amtsB l n := by
  symm
  unfold amtsB
  rw [Bool.and_eq_false_iff]
  left
  rw [List.all_eq_false]
  exact ⟨l.getD k 0, by rw [getD_get 0 hk]; exact List.getElem_mem hk, by rw [h]; decide⟩
theorem amts_end {l : List Int} {n : Int} {k : Nat} (hk : l.length ≤ k) (h : (l.take k).all amtB = true) : decide ((l.length : Int) = n) = amtsB l n := by
  unfold amtsB
  rw [List.take_of_length_le hk] at h
  rw [h, Bool.true_and]
def mdOkB (m : Md) (r s : Int) : Bool := decide (1 ≤ m.dur ∧ m.dur ≤ 12) && amtsB m.use r && amtsB m.con s
def acOkB (a : Ac) (r s : Int) : Bool := a.modes.all (fun m => mdOkB m r s) && ((isNm a.name && decide (0 ≤ a.fam ∧ a.fam ≤ 3)) && decide (1 ≤ (a.modes.length : Int) ∧ (a.modes.length : Int) ≤ 3))

/-- The chosen modes among the first k. -/
def chosenTo (l : List Md) (s : List Int) : Nat → List Md
  | 0 => []
  | k + 1 => if hasB s k then chosenTo l s k ++ [l.getD k md0] else chosenTo l s k
theorem chosenTo_len (l : List Md) (s : List Int) (k : Nat) : (chosenTo l s k).length ≤ k := by
  induction k with
  | zero => simp [chosenTo]
  | succ k ih =>
    simp only [chosenTo]
    split
    · simp; omega
    · omega
def leastD : List Md → Int
  | [] => 0
  | m :: r => r.foldl (fun n x => min n x.dur) m.dur
def mostD : List Md → Int
  | [] => 0
  | m :: r => r.foldl (fun n x => max n x.dur) m.dur
theorem leastD_snoc (l : List Md) (m : Md) : leastD (l ++ [m]) = if l.length = 0 ∨ m.dur < leastD l then m.dur else leastD l := by
  cases l with
  | nil => simp [leastD]
  | cons a l =>
    simp only [List.cons_append, leastD, List.foldl_append, List.foldl_cons, List.foldl_nil, List.length_cons]
    have hz : ∀ z : Int, min z m.dur = if l.length + 1 = 0 ∨ m.dur < z then m.dur else z := by
      intro z
      by_cases h : m.dur < z
      · rw [if_pos (.inr h)]; omega
      · rw [if_neg (by omega)]; omega
    exact hz _
theorem mostD_snoc (l : List Md) (m : Md) : mostD (l ++ [m]) = if l.length = 0 ∨ mostD l < m.dur then m.dur else mostD l := by
  cases l with
  | nil => simp [mostD]
  | cons a l =>
    simp only [List.cons_append, mostD, List.foldl_append, List.foldl_cons, List.foldl_nil, List.length_cons]
    have hz : ∀ z : Int, max z m.dur = if l.length + 1 = 0 ∨ z < m.dur then m.dur else z := by
      intro z
      by_cases h : z < m.dur
      · rw [if_pos (.inr h)]; omega
      · rw [if_neg (by omega)]; omega
    exact hz _
def minDur (l : List Md) (s : List Int) : Int := leastD (chosenTo l s l.length)
def maxDur (l : List Md) (s : List Int) : Int := mostD (chosenTo l s l.length)
end Go.Proofs.Ytejimjpflbhhnaa
