/- Plain functions that the Go functions compute, and their laws; nothing here speaks of a program. -/
import Derived.Test.YtcecgbjolngdbaaGreatDoorKit
import Derived.Lib.Bytealg
import Derived.Lib.Join
import Derived.Lib.JoinFns
namespace Go.Proofs.YtcecgbjolngdbaaGreatDoor

/-! ## Sets -/
def setOkB (l : List Int) : Bool := (List.range (l.length - 1)).all fun i => decide (l.getD i 0 < l.getD (i + 1) 0)
theorem setOk_true {l : List Int} (h : ∀ j, j + 1 < l.length → l.getD j 0 < l.getD (j + 1) 0) : true = setOkB l := by
  symm
  unfold setOkB
  rw [List.all_eq_true]
  intro j hj
  rw [List.mem_range] at hj
  exact decide_eq_true (h j (by omega))
theorem setOk_false {l : List Int} (j : Nat) (hj : j + 1 < l.length) (h : l.getD (j + 1) 0 ≤ l.getD j 0) : false = setOkB l := by
  symm
  unfold setOkB
  rw [List.all_eq_false]
  exact ⟨j, by rw [List.mem_range]; omega, by simp only [decide_eq_true_eq]; omega⟩

def hasB (l : List Int) (n : Int) : Bool := decide (n ∈ l)
theorem has_take {l : List Int} {n : Int} {k : Nat} (h : n ∉ l.take k) (hk : k < l.length) (hx : l.getD k 0 ≠ n) : n ∉ l.take (k + 1) := by
  rw [take_snoc 0 hk]
  simp only [List.mem_append, List.mem_singleton, not_or]
  exact ⟨h, fun e => hx e.symm⟩
theorem has_yes {l : List Int} {n : Int} {k : Nat} (hk : k < l.length) (hx : l.getD k 0 = n) : true = hasB l n := by
  symm
  unfold hasB
  rw [decide_eq_true_eq, ← hx, getD_get 0 hk]
  exact List.getElem_mem hk
theorem has_no {l : List Int} {n : Int} {k : Nat} (h : n ∉ l.take k) (hk : l.length ≤ k) : false = hasB l n := by
  symm
  unfold hasB
  rw [List.take_of_length_le hk] at h
  exact decide_eq_false h

def subB (a b : List Int) : Bool := a.all (hasB b)
theorem sub_no {a b : List Int} {k : Nat} (hk : k < a.length) (h : hasB b (a.getD k 0) = false) : false = subB a b := by
  symm
  unfold subB
  rw [List.all_eq_false]
  exact ⟨a.getD k 0, by rw [getD_get 0 hk]; exact List.getElem_mem hk, by rw [h]; decide⟩
theorem sub_yes {a b : List Int} {k : Nat} (hk : a.length ≤ k) (h : (a.take k).all (hasB b) = true) : true = subB a b := by
  unfold subB
  rw [List.take_of_length_le hk] at h
  exact h.symm
theorem all_step {p : Int → Bool} {l : List Int} {k : Nat} (h : (l.take k).all p = true) (hk : k < l.length) (hx : p (l.getD k 0) = true) : (l.take (k + 1)).all p = true := by
  rw [take_snoc 0 hk, List.all_append, h]
  simp only [List.all_cons, List.all_nil, hx, Bool.and_self]

def clamp (n : Int) : Int := min (max n (-100000)) 100000
theorem clamp_ite (X : Int) : (if 100000 < (if X < -100000 then -100000 else X) then 100000 else if X < -100000 then -100000 else X) = clamp X := by unfold clamp; omega
theorem clamp_bd (n : Int) : -100000 ≤ clamp n ∧ clamp n ≤ 100000 := by unfold clamp; omega
def clampSum (l : List Int) : Int := (l.map clamp).sum
theorem clampSum_snoc (l : List Int) (n : Int) : clampSum (l ++ [n]) = clampSum l + clamp n := by simp [clampSum]
theorem clampSum_bd (l : List Int) : -(100000 * (l.length : Int)) ≤ clampSum l ∧ clampSum l ≤ 100000 * (l.length : Int) := by
  induction l with
  | nil => simp [clampSum]
  | cons a l ih =>
    have h1 := clamp_bd a
    have h2 : clampSum (a :: l) = clamp a + clampSum l := by simp [clampSum]
    rw [h2, List.length_cons]
    push_cast
    omega
theorem clampSum_take {l : List Int} {k : Nat} (hk : k < l.length) : clampSum (l.take (k + 1)) = clampSum (l.take k) + clamp (l.getD k 0) := by
  rw [take_snoc 0 hk, clampSum_snoc]

def intRange (n : Int) : List Int := if 0 ≤ n ∧ n ≤ 200 then (List.range n.toNat).map fun (i : Nat) => (i : Int) else []
def firstN (n : Nat) : List Int := (List.range n).map fun (i : Nat) => (i : Int)
theorem firstN_succ (n : Nat) : firstN (n + 1) = firstN n ++ [(n : Int)] := by simp [firstN, List.range_succ]
theorem firstN_len (n : Nat) : (firstN n).length = n := by simp [firstN]
theorem intRange_yes {n : Nat} (h : n ≤ 200) : intRange n = firstN n := by
  unfold intRange firstN
  rw [if_pos (by omega)]
  simp
theorem intRange_no {n : Int} (h : ¬ (0 ≤ n ∧ n ≤ 200)) : intRange n = [] := by
  unfold intRange
  rw [if_neg h]

def keepI (p : Int → Bool) (l : List Int) : List Int := l.filter p
theorem keepI_take {p : Int → Bool} {l : List Int} {k : Nat} (hk : k < l.length) : keepI p (l.take (k + 1)) = keepI p (l.take k) ++ (if p (l.getD k 0) then [l.getD k 0] else []) := by
  rw [take_snoc 0 hk]
  simp [keepI, List.filter_cons]
theorem keepI_len (p : Int → Bool) (l : List Int) (k : Nat) : (keepI p (l.take k)).length ≤ k := Nat.le_trans (List.length_filter_le _ _) (by rw [List.length_take]; omega)
def remB (n : Int) (x : Int) : Bool := x != n
def remI (l : List Int) (n : Int) : List Int := keepI (remB n) l
theorem remI_len (l : List Int) (n : Int) : (remI l n).length ≤ l.length := List.length_filter_le _ _
theorem intRange_len (n : Int) : (intRange n).length ≤ 200 := by
  unfold intRange
  split
  · simp; omega
  · simp

/-! ## Words -/
theorem str_ext {a b : ByteArray} (h : a.data.toList = b.data.toList) : a = b := ByteArray.ext (Array.toList_inj.1 h)
theorem str_empty_yes {s : ByteArray} (h : s = ByteArray.empty) : s.toList.isEmpty = true := by subst h; rw [ByteArray.toList_eq]; rfl
theorem str_empty_no {s : ByteArray} (h : ¬ s = ByteArray.empty) : s.toList.isEmpty = false := by
  rw [ByteArray.toList_eq]
  cases e : s.data.toList with
  | nil => exact absurd (str_ext (by rw [e]; rfl)) h
  | cons a l => rfl
theorem indexByte_bd (l : List UInt8) (c : UInt8) : (Lib.indexByte l c = -1 ∧ c ∉ l) ∨ (0 ≤ Lib.indexByte l c ∧ Lib.indexByte l c < l.length ∧ c ∈ l) := by
  induction l with
  | nil => left; simp [Lib.indexByte]
  | cons b l ih =>
    rw [Lib.indexByte]
    by_cases h : b = c
    · right; subst h; simp
    · have hb : (b == c) = false := by simp [h]
      have hc : ¬ c = b := fun e => h e.symm
      rw [hb]
      rcases ih with ⟨e, hn⟩ | ⟨h0, h1, hm⟩
      · left; rw [e]; simp [hc, hn]
      · right
        have : ¬ (Lib.indexByte l c = -1) := by omega
        simp [this, hm]
        omega
def memB (y : ByteArray) (c : UInt8) : Bool := decide (c ∈ y.data.toList)
theorem mem_yes {y : ByteArray} {c : UInt8} {k : Nat} (h : k < y.size) (e : y[k] = c) : memB y c = true := by
  unfold memB
  rw [decide_eq_true_eq, ← e]
  exact Array.mem_toList_iff.2 (Array.getElem_mem (xs := y.data) h)
theorem mem_no {y : ByteArray} {c : UInt8} (h : ∀ j (hj : j < y.size), y[j] ≠ c) : memB y c = false := by
  unfold memB
  rw [decide_eq_false_iff_not]
  intro hm
  obtain ⟨j, hj, e⟩ := Array.getElem_of_mem (Array.mem_toList_iff.1 hm)
  exact h j hj e
/-- What the first k bytes have been cut to, and where the next piece begins. -/
def splitTo (s y : ByteArray) : Nat → List ByteArray × Nat
  | 0 => ([], 0)
  | k + 1 => if h : k < s.size then (if memB y s[k] then ((splitTo s y k).1 ++ [s.extract (splitTo s y k).2 k], k + 1) else splitTo s y k) else splitTo s y k
theorem splitTo_succ {s y : ByteArray} {k : Nat} (h : k < s.size) : splitTo s y (k + 1) = if memB y s[k] then ((splitTo s y k).1 ++ [s.extract (splitTo s y k).2 k], k + 1) else splitTo s y k := by
  rw [splitTo, dif_pos h]
theorem splitTo_bd (s y : ByteArray) (k : Nat) : (splitTo s y k).1.length ≤ k ∧ (splitTo s y k).2 ≤ k := by
  induction k with
  | zero => simp [splitTo]
  | succ k ih =>
    rw [splitTo]
    split
    · split
      · simp; omega
      · omega
    · omega
def goodAt (s : ByteArray) (i : Nat) : Bool :=
  match s.data[i]? with
  | none => false
  | some c => (decide (97 ≤ (c.toNat : Int)) && decide ((c.toNat : Int) ≤ 122)) || (i != 0 && (decide (48 ≤ (c.toNat : Int)) && decide ((c.toNat : Int) ≤ 57)))
theorem goodAt_def {s : ByteArray} {k : Nat} (h : k < s.size) : goodAt s k = ((decide (97 ≤ (s[k].toNat : Int)) && decide ((s[k].toNat : Int) ≤ 122)) || (k != 0 && (decide (48 ≤ (s[k].toNat : Int)) && decide ((s[k].toNat : Int) ≤ 57)))) := by
  unfold goodAt
  have e : s.data[k]? = some s[k] := Array.getElem?_eq_getElem (xs := s.data) h
  rw [e]
def isNm (s : ByteArray) : Bool := (List.range s.size).all (goodAt s) && decide (1 ≤ (s.size : Int) ∧ (s.size : Int) ≤ 8)
theorem isNm_no {s : ByteArray} {k : Nat} (h : k < s.size) (hg : goodAt s k = false) : false = isNm s := by
  symm
  unfold isNm
  rw [Bool.and_eq_false_iff]
  left
  rw [List.all_eq_false]
  exact ⟨k, List.mem_range.2 h, by rw [hg]; decide⟩
theorem isNm_end {s : ByteArray} (h : ∀ j, j < s.size → goodAt s j = true) : decide (1 ≤ (s.size : Int) ∧ (s.size : Int) ≤ 8) = isNm s := by
  unfold isNm
  rw [List.all_eq_true.2 (fun x hx => h x (List.mem_range.1 hx)), Bool.true_and]
def splitAny (s y : ByteArray) : List ByteArray := (splitTo s y s.size).1 ++ [s.extract (splitTo s y s.size).2 s.size]
theorem splitAny_len (s y : ByteArray) : (splitAny s y).length ≤ s.size + 1 := by
  unfold splitAny
  have := (splitTo_bd s y s.size).1
  simp; omega
theorem splitAny_pos (s y : ByteArray) : 0 < (splitAny s y).length := by unfold splitAny; simp
def newline : ByteArray := ⟨#[10]⟩
def splitLines (s : ByteArray) : List ByteArray :=
  if (splitAny s newline).getD ((splitAny s newline).length - 1) ByteArray.empty = ByteArray.empty then (splitAny s newline).take ((splitAny s newline).length - 1) else splitAny s newline
theorem splitLines_cut {s : ByteArray} {m : Nat} (hm : (splitAny s newline).length = m + 1) (h : (splitAny s newline).getD m ByteArray.empty = ByteArray.empty) : splitLines s = (splitAny s newline).take m := by
  unfold splitLines
  rw [hm, Nat.add_sub_cancel, if_pos h]
theorem splitLines_all {s : ByteArray} {m : Nat} (hm : (splitAny s newline).length = m + 1) (h : ¬ (splitAny s newline).getD m ByteArray.empty = ByteArray.empty) : splitLines s = splitAny s newline := by
  unfold splitLines
  rw [hm, Nat.add_sub_cancel, if_neg h]
theorem splitLines_len (s : ByteArray) : (splitLines s).length ≤ s.size + 1 := by
  have := splitAny_len s newline
  unfold splitLines
  split
  · rw [List.length_take]; omega
  · omega
def joinB (l : List ByteArray) (y : ByteArray) : ByteArray := ⟨(Lib.join (l.map (·.data.toList)) y.data.toList).toArray⟩
theorem joinTail_snoc (sep : List UInt8) (r : List (List UInt8)) (x : List UInt8) : Lib.joinTail sep (r ++ [x]) = Lib.joinTail sep r ++ (sep ++ x) := by simp [Lib.joinTail]
theorem joinB_zero (y : ByteArray) : joinB [] y = ⟨#[]⟩ := by simp [joinB, Lib.join_nil]
theorem joinB_one {l : List ByteArray} (y : ByteArray) (h : 0 < l.length) : joinB (l.take 1) y = l.getD 0 ByteArray.empty := by
  rw [take_snoc ByteArray.empty h]
  apply str_ext
  simp [joinB, Lib.join_one]
theorem joinB_succ {l : List ByteArray} (y : ByteArray) {k : Nat} (h0 : 0 < k) (h : k < l.length) : joinB (l.take (k + 1)) y = joinB (l.take k) y ++ y ++ l.getD k ByteArray.empty := by
  rw [take_snoc ByteArray.empty h]
  cases l with
  | nil => simp at h
  | cons a l =>
    obtain ⟨m, rfl⟩ : ∃ m, k = m + 1 := ⟨k - 1, by omega⟩
    apply str_ext
    rw [List.take_succ_cons]
    simp only [joinB, List.map_cons, List.map_append, List.map_nil, List.cons_append, Lib.join_cons, joinTail_snoc, ByteArray.data_append, Array.toList_append]
    simp
theorem joinB_len {l : List ByteArray} {y : ByteArray} {a b : Nat} (ha : l.length + (l.map ByteArray.size).sum ≤ a) (hb : y.size ≤ b) : (Lib.join (l.map (·.data.toList)) y.data.toList).length ≤ a * b + a := by
  cases l with
  | nil => simp [Lib.join_nil]
  | cons x l =>
    rw [List.map_cons, Lib.join_length]
    have h1 : y.data.toList.length = y.size := by simp
    have h2 : Lib.lens (x.data.toList :: l.map (·.data.toList)) = ((x :: l).map ByteArray.size).sum := by
      simp [Lib.lens, Function.comp_def]
    have h3 : (l.map (·.data.toList)).length ≤ a := by simp at ha ⊢; omega
    rw [h1, h2]
    have h4 : y.size * (l.map (·.data.toList)).length ≤ b * a := Nat.mul_le_mul hb h3
    rw [Nat.mul_comm b a] at h4
    omega

theorem joinB_take {l : List ByteArray} {y : ByteArray} {a b : Nat} (ha : l.length + (l.map ByteArray.size).sum ≤ a) (hb : y.size ≤ b) (k : Nat) : (joinB (l.take k) y).size ≤ a * b + a := by
  have h : (l.take k).length + ((l.take k).map ByteArray.size).sum ≤ a := by
    have h1 : (l.map ByteArray.size).sum = ((l.take k).map ByteArray.size).sum + ((l.drop k).map ByteArray.size).sum := by
      conv => lhs; rw [← List.take_append_drop k l]
      rw [List.map_append, List.sum_append]
    have h2 : (l.take k).length ≤ l.length := by rw [List.length_take]; omega
    omega
  have := joinB_len h hb
  simpa [joinB, ByteArray.size] using this
end Go.Proofs.YtcecgbjolngdbaaGreatDoor
