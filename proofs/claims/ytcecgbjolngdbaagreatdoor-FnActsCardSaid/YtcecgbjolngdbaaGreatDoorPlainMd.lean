/- Modes, activities, resources, projects, plainly; nothing here speaks of a program. -/
import Derived.Test.YtcecgbjolngdbaaGreatDoorPlainSt
namespace Go.Proofs.YtcecgbjolngdbaaGreatDoor

structure Md where
  dur : Int
  use : List Int
  con : List Int
deriving DecidableEq
structure Ac where
  name : ByteArray
  fam : Int
  modes : List Md
deriving DecidableEq
structure Rs where
  steps : List (Int × Int)
  setup : List (List Int)
deriving DecidableEq
structure Lk where
  src : Int
  dst : Int
  fe : Bool
  lag : Int
deriving DecidableEq
structure Pj where
  dead : Int
  acts : List Ac
  links : List Lk
  res : List Rs
  stocks : List Int
deriving DecidableEq
def md0 : Md := ⟨0, [], []⟩
def ac0 : Ac := ⟨ByteArray.empty, 0, []⟩
def rs0 : Rs := ⟨[], []⟩
def lk0 : Lk := ⟨0, 0, false, 0⟩
instance : Inhabited Md := ⟨md0⟩

/-! ## Sizes and what is asked of data that is handed in -/
def szL {α : Type} (f : α → Nat) (l : List α) : Nat := l.length + (l.map f).sum
def szTo {α : Type} (f : α → Nat) (l : List α) (k : Nat) : Nat := l.length + ((l.take k).map f).sum
section
variable {α : Type} (f : α → Nat)
theorem szTo_zero (l : List α) : szTo f l 0 = l.length := by simp [szTo]
theorem szTo_succ (d : α) {l : List α} {k : Nat} (h : k < l.length) : szTo f l (k + 1) = szTo f l k + f (l.getD k d) := by
  unfold szTo
  rw [take_snoc d h, List.map_append, List.sum_append]
  simp
  omega
theorem szTo_all (l : List α) : szTo f l l.length = szL f l := by unfold szTo szL; rw [List.take_length]
theorem szL_len (l : List α) : l.length ≤ szL f l := by unfold szL; omega
theorem szL_at (d : α) {l : List α} {k : Nat} (h : k < l.length) : f (l.getD k d) + l.length ≤ szL f l := by
  unfold szL
  rw [getD_get d h]
  have : f l[k] ≤ (l.map f).sum := by
    induction l generalizing k with
    | nil => simp at h
    | cons a l ih =>
      rw [List.map_cons, List.sum_cons]
      cases k with
      | zero => simp
      | succ k => have := ih (k := k) (by simpa using h); rw [List.getElem_cons_succ]; omega
  omega
end
def szMd (m : Md) : Nat := m.use.length + m.con.length
def szAc (a : Ac) : Nat := a.name.size + szL szMd a.modes
def szRs (r : Rs) : Nat := r.steps.length + szL List.length r.setup
def szPj (p : Pj) : Nat := szL szAc p.acts + (p.links.length + (szL szRs p.res + p.stocks.length))
def WfL {α : Type} (W : α → Prop) (d : α) (l : List α) : Prop := l.length ≤ 9223372036854775807 ∧ ∀ j, j < l.length → W (l.getD j d)
def WfII (r : List Int) : Prop := r.length ≤ 9223372036854775807
def WfMd (m : Md) : Prop := m.use.length ≤ 9223372036854775807 ∧ m.con.length ≤ 9223372036854775807
def WfAc (a : Ac) : Prop := a.name.size ≤ 9223372036854775807 ∧ WfL WfMd md0 a.modes
def WfRs (r : Rs) : Prop := r.steps.length ≤ 9223372036854775807 ∧ WfL WfII [] r.setup
def WfPj (p : Pj) : Prop := WfL WfAc ac0 p.acts ∧ p.links.length ≤ 9223372036854775807 ∧ WfL WfRs rs0 p.res ∧ p.stocks.length ≤ 9223372036854775807

def amtB (x : Int) : Bool := decide (0 ≤ x ∧ x ≤ 20)
def amtsB (l : List Int) (n : Int) : Bool := l.all amtB && decide ((l.length : Int) = n)
theorem amts_no {l : List Int} {n : Int} {k : Nat} (hk : k < l.length) (h : amtB (l.getD k 0) = false) : false = amtsB l n := by
  symm
  unfold amtsB
  rw [Bool.and_eq_false_iff]
  left
  rw [List.all_eq_false]
  exact ⟨l.getD k 0, by rw [getD_get 0 hk]; exact List.getElem_mem hk, by rw [h]; decide⟩
theorem amts_end {l : List Int} {n : Int} {k : Nat} (hk : l.length ≤ k) (h : (l.take k).all amtB = true) : decide ((l.length : Int) = n) = amtsB l n := by
  unfold amtsB
  rw [List.take_of_length_le hk] at h
  rw [h, Bool.true_and]
def mdOkB (m : Md) (r s : Int) : Bool := decide (1 ≤ m.dur ∧ m.dur ≤ 12) && amtsB m.use r && amtsB m.con s
def acOkB (a : Ac) (r s : Int) : Bool := a.modes.all (fun m => mdOkB m r s) && ((isNm a.name && decide (0 ≤ a.fam ∧ a.fam ≤ 3)) && decide (1 ≤ (a.modes.length : Int) ∧ (a.modes.length : Int) ≤ 3))

theorem all_stepG {α : Type} {p : α → Bool} {l : List α} {k : Nat} (d : α) (h : (l.take k).all p = true) (hk : k < l.length) (hx : p (l.getD k d) = true) : (l.take (k + 1)).all p = true := by
  rw [take_snoc d hk, List.all_append, h]
  simp only [List.all_cons, List.all_nil, hx, Bool.and_self]
theorem all_endG {α : Type} {p : α → Bool} {l : List α} {k : Nat} (hk : l.length ≤ k) (h : (l.take k).all p = true) : l.all p = true := by
  rwa [List.take_of_length_le hk] at h
theorem all_noG {α : Type} {p : α → Bool} {l : List α} {k : Nat} (d : α) (hk : k < l.length) (h : p (l.getD k d) = false) : l.all p = false := by
  rw [List.all_eq_false]
  exact ⟨l.getD k d, by rw [getD_get d hk]; exact List.getElem_mem hk, by rw [h]; decide⟩
def durB (n : Int) : Bool := decide (0 ≤ n ∧ n ≤ 12)
def rowB (r : List Int) : Bool := decide (r.length = 4) && r.all durB
def rsOkB (r : Rs) : Bool := r.setup.all rowB && (stOkB r.steps && (decide (r.setup.length = 0) || decide (r.setup.length = 4)))
/-- The chosen modes among the first k. -/
def chosenTo (l : List Md) (s : List Int) : Nat → List Md
  | 0 => []
  | k + 1 => if hasB s k then chosenTo l s k ++ [l.getD k md0] else chosenTo l s k
theorem chosenTo_len (l : List Md) (s : List Int) (k : Nat) : (chosenTo l s k).length ≤ k := by
  induction k with
  | zero => simp [chosenTo]
  | succ k ih =>
    simp only [chosenTo]
    split
    · simp; omega
    · omega
def leastD : List Md → Int
  | [] => 0
  | m :: r => r.foldl (fun n x => min n x.dur) m.dur
def mostD : List Md → Int
  | [] => 0
  | m :: r => r.foldl (fun n x => max n x.dur) m.dur
theorem leastD_snoc (l : List Md) (m : Md) : leastD (l ++ [m]) = if l.length = 0 ∨ m.dur < leastD l then m.dur else leastD l := by
  cases l with
  | nil => simp [leastD]
  | cons a l =>
    simp only [List.cons_append, leastD, List.foldl_append, List.foldl_cons, List.foldl_nil, List.length_cons]
    have hz : ∀ z : Int, min z m.dur = if l.length + 1 = 0 ∨ m.dur < z then m.dur else z := by
      intro z
      by_cases h : m.dur < z
      · rw [if_pos (.inr h)]; omega
      · rw [if_neg (by omega)]; omega
    exact hz _
theorem mostD_snoc (l : List Md) (m : Md) : mostD (l ++ [m]) = if l.length = 0 ∨ mostD l < m.dur then m.dur else mostD l := by
  cases l with
  | nil => simp [mostD]
  | cons a l =>
    simp only [List.cons_append, mostD, List.foldl_append, List.foldl_cons, List.foldl_nil, List.length_cons]
    have hz : ∀ z : Int, max z m.dur = if l.length + 1 = 0 ∨ z < m.dur then m.dur else z := by
      intro z
      by_cases h : z < m.dur
      · rw [if_pos (.inr h)]; omega
      · rw [if_neg (by omega)]; omega
    exact hz _
def minDur (l : List Md) (s : List Int) : Int := leastD (chosenTo l s l.length)
def maxDur (l : List Md) (s : List Int) : Int := mostD (chosenTo l s l.length)

/-! ## The least of what modes have -/
def leastV : List Int → Int
  | [] => 0
  | x :: r => r.foldl (fun n x => min n x) x
theorem leastV_snoc (l : List Int) (x : Int) : leastV (l ++ [x]) = if l.length = 0 ∨ x < leastV l then x else leastV l := by
  cases l with
  | nil => simp [leastV]
  | cons a l =>
    simp only [List.cons_append, leastV, List.foldl_append, List.foldl_cons, List.foldl_nil, List.length_cons]
    have hz : ∀ z : Int, min z x = if l.length + 1 = 0 ∨ x < z then x else z := by
      intro z
      by_cases h : x < z
      · rw [if_pos (.inr h)]; omega
      · rw [if_neg (by omega)]; omega
    exact hz _
def elemO (l : List Int) (i : Int) : Option Int := if 0 ≤ i ∧ i ≤ (l.length : Int) - 1 then some (l.getD i.toNat 0) else none
theorem elemO_yes {l : List Int} {i : Int} (h : 0 ≤ i ∧ i ≤ (l.length : Int) - 1) : elemO l i = some (l.getD i.toNat 0) := by unfold elemO; rw [if_pos h]
theorem elemO_no {l : List Int} {i : Int} (h : ¬ (0 ≤ i ∧ i ≤ (l.length : Int) - 1)) : elemO l i = none := by unfold elemO; rw [if_neg h]
def valO (f : Md → Option Int) (m : Md) : Int := (f m).getD 0
def someO (f : Md → Option Int) (m : Md) : Bool := (f m).isSome
/-- The least of what the modes have of something, 0 if one of them has none of it, or there are none. -/
def leastM (f : Md → Option Int) (l : List Md) : Int := if l.all (someO f) = true then leastV (l.map (valO f)) else 0
theorem leastM_no {f : Md → Option Int} {l : List Md} {m : Md} (h : m ∈ l) (hm : someO f m = false) : leastM f l = 0 := by
  unfold leastM
  rw [if_neg]
  intro h'
  rw [List.all_eq_true] at h'
  rw [h' m h] at hm
  cases hm
theorem leastM_yes {f : Md → Option Int} {l : List Md} (h : l.all (someO f) = true) : leastM f l = leastV (l.map (valO f)) := by unfold leastM; rw [if_pos h]
theorem chosenTo_sub {l : List Md} {s : List Int} {k n : Nat} (h : k ≤ n) {m : Md} (hm : m ∈ chosenTo l s k) : m ∈ chosenTo l s n := by
  induction n with
  | zero => rwa [show k = 0 from by omega] at hm
  | succ n ih =>
    by_cases e : k = n + 1
    · rwa [e] at hm
    · have := ih (by omega)
      rw [chosenTo]
      split
      · exact List.mem_append_left _ this
      · exact this
theorem chosenTo_mem {l : List Md} {s : List Int} {k : Nat} (h : k ≤ l.length) {m : Md} (hm : m ∈ chosenTo l s k) : m ∈ l := by
  induction k with
  | zero => simp [chosenTo] at hm
  | succ k ih =>
    rw [chosenTo] at hm
    split at hm
    · rcases List.mem_append.1 hm with h' | h'
      · exact ih (by omega) h'
      · rw [List.mem_singleton] at h'
        rw [h', getD_get md0 (by omega)]
        exact List.getElem_mem (by omega)
    · exact ih (by omega) hm
theorem szL_mem {α : Type} {f : α → Nat} {l : List α} {m : α} (h : m ∈ l) : f m + l.length ≤ szL f l := by
  obtain ⟨k, hk, rfl⟩ := List.getElem_of_mem h
  have := szL_at f (l[k]) (k := k) hk
  rwa [getD_get _ hk] at this
theorem chosenTo_sz {l : List Md} {s : List Int} {k : Nat} (h : k ≤ l.length) (j : Nat) (hj : j < (chosenTo l s k).length) : szMd ((chosenTo l s k).getD j md0) + l.length ≤ szL szMd l := by
  rw [getD_get md0 hj]
  exact szL_mem (chosenTo_mem h (List.getElem_mem hj))
/-- What is asked for: the usage (false) or the consumption (true), times the duration if it is work. -/
def pickL (take : Bool) (m : Md) : List Int := if take then m.con else m.use
def useO (i : Int) (m : Md) : Option Int := elemO m.use i
def conO (i : Int) (m : Md) : Option Int := elemO m.con i
def workO (i : Int) (m : Md) : Option Int := (elemO m.use i).map fun x => Go.RowKit.wrap64 (m.dur * x)

/-! ## The first place where something holds -/
def idxI {α : Type} (p : α → Bool) (l : List α) : Int :=
  match l.findIdx? p with
  | some i => (i : Int)
  | none => -1
section
variable {α : Type} {p : α → Bool} {l : List α}
theorem idxI_at (d : α) {k : Nat} (hk : k < l.length) (h : ∀ j, j < k → p (l.getD j d) = false) (hp : p (l.getD k d) = true) : idxI p l = (k : Int) := by
  have : l.findIdx? p = some k := by
    rw [List.findIdx?_eq_some_iff_getElem]
    refine ⟨hk, by rw [← getD_get d hk]; exact hp, fun j hj => ?_⟩
    have := h j hj
    rw [getD_get d (by omega)] at this
    rw [this]; decide
  unfold idxI
  rw [this]
theorem idxI_none (d : α) (h : ∀ j, j < l.length → p (l.getD j d) = false) : idxI p l = -1 := by
  have : l.findIdx? p = none := by
    rw [List.findIdx?_eq_none_iff]
    intro x hx
    obtain ⟨k, hk, rfl⟩ := List.getElem_of_mem hx
    have := h k hk
    rwa [getD_get d hk] at this
  unfold idxI
  rw [this]
theorem idxI_bd : -1 ≤ idxI p l ∧ idxI p l < (l.length : Int) := by
  unfold idxI
  split
  · rename_i i h
    rw [List.findIdx?_eq_some_iff_getElem] at h
    obtain ⟨hi, _⟩ := h
    omega
  · omega
theorem idxI_any : decide (0 ≤ idxI p l) = l.any p := by
  unfold idxI
  split
  · rename_i i h
    rw [List.findIdx?_eq_some_iff_getElem] at h
    obtain ⟨hi, hp, _⟩ := h
    rw [decide_eq_true (by omega), eq_comm, List.any_eq_true]
    exact ⟨_, List.getElem_mem hi, hp⟩
  · rename_i h
    rw [List.findIdx?_eq_none_iff] at h
    rw [decide_eq_false (by omega), eq_comm, List.any_eq_false]
    intro x hx
    rw [h x hx]; decide
end
def nameB (nm : ByteArray) (a : Ac) : Bool := decide (a.name = nm)
def actIdx (l : List Ac) (nm : ByteArray) : Int := idxI (nameB nm) l
theorem getD_mem {α : Type} {l : List α} {k : Nat} (d : α) (h : k < l.length) : l.getD k d ∈ l := by rw [getD_get d h]; exact List.getElem_mem h

/-! ## Projects that are valid -/
def lkOkB (n : Nat) (k : Lk) : Bool := (decide (0 ≤ k.src ∧ k.src ≤ (n : Int) - 1) && decide (0 ≤ k.dst ∧ k.dst ≤ (n : Int) - 1)) && (decide (k.src ≠ k.dst) && decide (-60 ≤ k.lag ∧ k.lag ≤ 60))
def acAtB (p : Pj) (i : Nat) : Bool := acOkB (p.acts.getD i ac0) p.res.length p.stocks.length && decide (actIdx p.acts (p.acts.getD i ac0).name = (i : Int))
def stkB (n : Int) : Bool := decide (0 ≤ n ∧ n ≤ 100)
def pjHeadB (p : Pj) : Bool := (decide (1 ≤ p.dead ∧ p.dead ≤ 60) && decide (1 ≤ (p.acts.length : Int) ∧ (p.acts.length : Int) ≤ 6)) && ((decide (p.res.length ≤ 3) && decide (p.stocks.length ≤ 2)) && decide (p.links.length ≤ 12))
def pjOkB (p : Pj) : Bool := pjHeadB p && ((List.range p.acts.length).all (acAtB p) && (p.res.all rsOkB && (p.stocks.all stkB && p.links.all (lkOkB p.acts.length))))
theorem range_no {f : Nat → Bool} {n k : Nat} (hk : k < n) (h : f k = false) : (List.range n).all f = false := by
  rw [List.all_eq_false]
  exact ⟨k, List.mem_range.2 hk, by rw [h]; decide⟩
theorem range_yes {f : Nat → Bool} {n : Nat} (h : ∀ j, j < n → f j = true) : (List.range n).all f = true := by
  rw [List.all_eq_true]
  exact fun x hx => h x (List.mem_range.1 hx)
theorem any_not {α : Type} (f : α → Bool) (l : List α) : (!(l.any fun k => !f k)) = l.all f := by
  induction l with
  | nil => rfl
  | cons a l ih => rw [List.any_cons, List.all_cons, Bool.not_or, Bool.not_not, ih]

def isMachB (p : Pj) (i : Int) : Bool := decide (0 ≤ i ∧ i ≤ (p.res.length : Int) - 1) && decide (0 < (p.res.getD i.toNat rs0).setup.length)
theorem isMachB_no {p : Pj} {i : Int} (h : ¬ (0 ≤ i ∧ i ≤ (p.res.length : Int) - 1)) : false = isMachB p i := by unfold isMachB; rw [decide_eq_false h]; rfl
theorem isMachB_in {p : Pj} {n : Nat} (h : 0 ≤ (n : Int) ∧ (n : Int) ≤ (p.res.length : Int) - 1) : decide (0 < (p.res.getD n rs0).setup.length) = isMachB p n := by unfold isMachB; rw [decide_eq_true h, Bool.true_and, Int.toNat_natCast]
def famAt (p : Pj) (a : Int) : Int := (p.acts.getD a.toNat ac0).fam
def inActs (p : Pj) (a : Int) : Bool := decide (0 ≤ a ∧ a ≤ (p.acts.length : Int) - 1)
/-- The setup time between two activities on a machine. -/
def setupM (p : Pj) (r a b : Int) : Int := if (pjOkB p && isMachB p r) && (inActs p a && inActs p b) then ((p.res.getD r.toNat rs0).setup.getD (famAt p a).toNat []).getD (famAt p b).toNat 0 else 0
theorem pjOk_acts {p : Pj} (h : pjOkB p = true) {k : Nat} (hk : k < p.acts.length) : acOkB (p.acts.getD k ac0) p.res.length p.stocks.length = true := by
  unfold pjOkB at h
  rw [Bool.and_eq_true, Bool.and_eq_true, List.all_eq_true] at h
  have := h.2.1 k (List.mem_range.2 hk)
  unfold acAtB at this
  rw [Bool.and_eq_true] at this
  exact this.1
theorem pjOk_res {p : Pj} (h : pjOkB p = true) {k : Nat} (hk : k < p.res.length) : rsOkB (p.res.getD k rs0) = true := by
  unfold pjOkB at h
  rw [Bool.and_eq_true, Bool.and_eq_true, Bool.and_eq_true, List.all_eq_true (p := rsOkB)] at h
  exact h.2.2.1 _ (getD_mem rs0 hk)
theorem acOk_fam {a : Ac} {r s : Int} (h : acOkB a r s = true) : 0 ≤ a.fam ∧ a.fam ≤ 3 := by
  unfold acOkB at h
  simp only [Bool.and_eq_true, decide_eq_true_eq] at h
  exact h.2.1.2
theorem rsOk_setup {r : Rs} (h : rsOkB r = true) (h0 : 0 < r.setup.length) : r.setup.length = 4 ∧ ∀ k, k < 4 → (r.setup.getD k []).length = 4 := by
  unfold rsOkB at h
  simp only [Bool.and_eq_true, Bool.or_eq_true, decide_eq_true_eq, List.all_eq_true] at h
  have h4 : r.setup.length = 4 := by omega
  refine ⟨h4, fun k hk => ?_⟩
  have := h.1 _ (getD_mem (k := k) [] (by omega))
  unfold rowB at this
  simp only [Bool.and_eq_true, decide_eq_true_eq] at this
  exact this.1
def modesTo (l : List Ac) (k : Nat) : Nat := ((l.take k).map fun a => a.modes.length).sum
theorem modesTo_succ {l : List Ac} {k : Nat} (h : k < l.length) : modesTo l (k + 1) = modesTo l k + (l.getD k ac0).modes.length := by
  unfold modesTo
  rw [take_snoc ac0 h, List.map_append, List.sum_append]
  simp
theorem modesTo_le {l : List Ac} {k : Nat} : modesTo l k ≤ szL szAc l := by
  have h1 : ∀ m : List Ac, (m.map fun a => a.modes.length).sum ≤ (m.map szAc).sum := by
    intro m
    induction m with
    | nil => simp
    | cons a m ih =>
      have := szL_len szMd a.modes
      have e : szAc a = a.name.size + szL szMd a.modes := rfl
      simp only [List.map_cons, List.sum_cons]
      omega
  have h2 : ((l.take k).map szAc).sum ≤ (l.map szAc).sum := by
    conv => rhs; rw [← List.take_append_drop k l, List.map_append, List.sum_append]
    omega
  have := h1 (l.take k)
  unfold modesTo szL
  omega
def statsM (p : Pj) : List Int := if pjOkB p = true then [(p.acts.length : Int), (modesTo p.acts p.acts.length : Int), (p.links.length : Int), (p.res.length : Int), (p.stocks.length : Int)] else []
theorem statsM_len (p : Pj) : (statsM p).length ≤ 5 := by unfold statsM; split <;> simp
end Go.Proofs.YtcecgbjolngdbaaGreatDoor
