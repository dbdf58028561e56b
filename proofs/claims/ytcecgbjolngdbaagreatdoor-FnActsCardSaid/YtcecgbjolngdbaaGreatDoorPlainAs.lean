/- What FnActs asks of an activity that is drawn. Nothing here speaks of a program. -/
import Derived.Test.YtcecgbjolngdbaaGreatDoorPlainLw
import Derived.Test.YtcecgbjolngdbaaGreatDoorPlainTx
import Derived.Test.YtcecgbjolngdbaaGreatDoorPlainSort
namespace Go.Proofs.YtcecgbjolngdbaaGreatDoor
set_option linter.unusedVariables false

/-- What the law asks of a mode of an activity. -/
structure ModeAsk (a : Ac) (nr ns : Int) (m : Md) : Prop where
  dur : 1 ≤ m.dur ∧ m.dur ≤ 12
  use0 : 1 ≤ m.use.length ∧ m.use.length ≤ 2
  con0 : m.con.length ≤ 1
  u : 0 ≤ m.use.getD 0 0 ∧ m.use.getD 0 0 ≤ 20
  ok : mdOkB m nr ns = true
  fmtB : parMdB (fmtMd m) = true
  fmt : parMd (fmtMd m) = m
  durs : minDur a.modes (firstN a.modes.length) ≤ m.dur
  durm : m.dur ≤ maxDur a.modes (firstN a.modes.length)
  uses : leastM (useO 0) (chosenTo a.modes (firstN a.modes.length) a.modes.length) ≤ m.use.getD 0 0
  works : leastM (workO 0) (chosenTo a.modes (firstN a.modes.length) a.modes.length) ≤ m.dur * m.use.getD 0 0
  cons : 0 < m.con.length → leastM (conO 0) (chosenTo a.modes (firstN a.modes.length) a.modes.length) ≤ m.con.getD 0 0
theorem amts_iff (l : List Int) (n : Int) : amtsB l n = true ↔ (∀ x ∈ l, 0 ≤ x ∧ x ≤ 20) ∧ (l.length : Int) = n := by
  unfold amtsB amtB
  rw [Bool.and_eq_true, List.all_eq_true, decide_eq_true_eq]
  simp only [decide_eq_true_eq]
theorem mdOk_iff (m : Md) (r s : Int) : mdOkB m r s = true ↔ ((1 ≤ m.dur ∧ m.dur ≤ 12) ∧ ((∀ x ∈ m.use, 0 ≤ x ∧ x ≤ 20) ∧ (m.use.length : Int) = r)) ∧ ((∀ x ∈ m.con, 0 ≤ x ∧ x ≤ 20) ∧ (m.con.length : Int) = s) := by
  unfold mdOkB
  rw [Bool.and_eq_true, Bool.and_eq_true, decide_eq_true_eq, amts_iff, amts_iff]
theorem acOk_iff (a : Ac) (r s : Int) : acOkB a r s = true ↔ (∀ m ∈ a.modes, mdOkB m r s = true) ∧ (isNm a.name = true ∧ (0 ≤ a.fam ∧ a.fam ≤ 3)) ∧ 1 ≤ a.modes.length ∧ a.modes.length ≤ 3 := by
  unfold acOkB
  rw [Bool.and_eq_true, Bool.and_eq_true, Bool.and_eq_true, List.all_eq_true, decide_eq_true_eq, decide_eq_true_eq]
  constructor
  · rintro ⟨h1, h2, h3⟩
    exact ⟨h1, h2, by omega⟩
  · rintro ⟨h1, h2, h3⟩
    exact ⟨h1, h2, by omega⟩
theorem use_some {m : Md} {r s : Int} (h : mdOkB m r s = true) (hr : 1 ≤ r) : someO (useO 0) m = true ∧ valO (useO 0) m = m.use.getD 0 0 := by
  rw [mdOk_iff] at h
  have e : useO 0 m = some (m.use.getD 0 0) := elemO_yes (l := m.use) (i := 0) (by omega)
  unfold someO valO
  rw [e]; exact ⟨rfl, rfl⟩
theorem con_some {m : Md} {r s : Int} (h : mdOkB m r s = true) (hr : 1 ≤ s) : someO (conO 0) m = true ∧ valO (conO 0) m = m.con.getD 0 0 := by
  rw [mdOk_iff] at h
  have e : conO 0 m = some (m.con.getD 0 0) := elemO_yes (l := m.con) (i := 0) (by omega)
  unfold someO valO
  rw [e]; exact ⟨rfl, rfl⟩
theorem getD0_in {l : List Int} (h : ∀ x ∈ l, 0 ≤ x ∧ x ≤ 20) : 0 ≤ l.getD 0 0 ∧ l.getD 0 0 ≤ 20 := by
  cases l with
  | nil => exact ⟨Int.le_refl _, by decide⟩
  | cons a t => exact h a (by simp)
theorem work_in {d u : Int} (hd : 1 ≤ d ∧ d ≤ 12) (hu : 0 ≤ u ∧ u ≤ 20) : 0 ≤ d * u ∧ d * u ≤ 240 := by
  have h1 := Int.mul_nonneg (by omega : 0 ≤ d) hu.1
  have h2 := Int.mul_le_mul hd.2 hu.2 hu.1 (by omega : (0 : Int) ≤ 12)
  omega
theorem work_some {m : Md} {r s : Int} (h : mdOkB m r s = true) (hr : 1 ≤ r) : someO (workO 0) m = true ∧ valO (workO 0) m = m.dur * m.use.getD 0 0 := by
  have hm := (mdOk_iff m r s).1 h
  have e : elemO m.use 0 = some (m.use.getD 0 0) := elemO_yes (l := m.use) (i := 0) (by omega)
  have hw := work_in hm.1.1 (getD0_in hm.1.2.1)
  unfold someO valO workO
  rw [e]
  refine ⟨rfl, ?_⟩
  show Go.RowKit.wrap64 (m.dur * m.use.getD 0 0) = m.dur * m.use.getD 0 0
  unfold Go.RowKit.wrap64
  omega
theorem mode_ask {a : Ac} {nr ns : Int} (h : acOkB a nr ns = true) (hr : 1 ≤ nr ∧ nr ≤ 2) (hs : 0 ≤ ns ∧ ns ≤ 1) {m : Md} (hm : m ∈ a.modes) : ModeAsk a nr ns m := by
  have ha := (acOk_iff a nr ns).1 h
  have hk := ha.1 m hm
  obtain ⟨⟨h1, h2, h3⟩, h4, h5⟩ := (mdOk_iff m nr ns).1 hk
  have hin : ∀ l : List Int, (∀ x ∈ l, 0 ≤ x ∧ x ≤ 20) → l.all inI = true := fun l hl => by
    rw [List.all_eq_true]
    intro x hx
    rw [inI_iff]
    have := hl x hx
    omega
  have hf := parMd_fmt (m := m) (by
    rw [Bool.and_eq_true, Bool.and_eq_true]
    exact ⟨by unfold durInB; rw [decide_eq_true_eq]; exact h1, hin _ h2, hin _ h4⟩)
  have hd := acts_dur hm
  have hu := leastM_le (f := useO 0) (fun x hx => (use_some (ha.1 x hx) hr.1).1) hm
  have hw := leastM_le (f := workO 0) (fun x hx => (work_some (ha.1 x hx) hr.1).1) hm
  rw [(use_some hk hr.1).2] at hu
  rw [(work_some hk hr.1).2] at hw
  refine ⟨h1, by omega, by omega, getD0_in h2, hk, hf.1, hf.2, hd.1, hd.2, hu, hw, fun hc => ?_⟩
  have hc2 := leastM_le (f := conO 0) (fun x hx => (con_some (ha.1 x hx) (by omega : 1 ≤ ns)).1) hm
  rwa [(con_some hk (by omega : 1 ≤ ns)).2] at hc2
theorem acts_end {a : Ac} {nr ns : Int} (h : acOkB a nr ns = true) (hr : 1 ≤ nr) (l : List Int) {S : List Int} (hS : S = setOf (keepI (fun y => hasB l y) (firstN a.modes.length))) (h0 : S ≠ []) :
    minDur a.modes (firstN a.modes.length) ≤ minDur a.modes S ∧ leastM (useO 0) (chosenTo a.modes (firstN a.modes.length) a.modes.length) ≤ leastM (useO 0) (chosenTo a.modes S a.modes.length) := by
  have ha := (acOk_iff a nr ns).1 h
  have hs : ∀ i ∈ S, 0 ≤ i ∧ i < (a.modes.length : Int) := fun i hi => by
    rw [hS, setOf_mem] at hi
    exact (firstN_mem _ _).1 (List.mem_filter.1 hi).1
  exact ⟨acts_some h0 hs, leastM_some (fun x hx => (use_some (ha.1 x hx) hr).1) h0 hs⟩
theorem sum_le_mul {α : Type} (f : α → Nat) (b : Nat) : ∀ l : List α, (∀ x ∈ l, f x ≤ b) → (l.map f).sum ≤ b * l.length
  | [], _ => by simp
  | x :: t, h => by
    have h1 := h x (by simp)
    have h2 := sum_le_mul f b t fun y hy => h y (by simp [hy])
    simp only [List.map_cons, List.sum_cons, List.length_cons, Nat.mul_add, Nat.mul_one]
    omega
/-- An activity of a project that is drawn is small. -/
theorem acOk_small {a : Ac} {nr ns : Int} (h : acOkB a nr ns = true) (hr : nr ≤ 2) (hs : ns ≤ 1) : szL szMd a.modes ≤ 16 ∧ 1 ≤ a.modes.length ∧ a.modes.length ≤ 3 ∧ a.name.size ≤ 8 := by
  have ha := (acOk_iff a nr ns).1 h
  have hm := sum_le_mul szMd 3 a.modes fun m hm => by
    have := (mdOk_iff m nr ns).1 (ha.1 m hm)
    unfold szMd
    omega
  have hn : a.name.size ≤ 8 := by
    have := ha.2.1.1
    unfold isNm at this
    simp only [Bool.and_eq_true, decide_eq_true_eq] at this
    omega
  refine ⟨?_, ha.2.2.1, ha.2.2.2, hn⟩
  unfold szL
  omega
end Go.Proofs.YtcecgbjolngdbaaGreatDoor
