/- The plain laws on steps and on activities that FnSteps and FnActs ask. Nothing here speaks of a program. -/
import Derived.Test.YtcecgbjolngdbaaGreatDoorPlainRed
import Derived.Test.YtcecgbjolngdbaaGreatDoorPlainMd
namespace Go.Proofs.YtcecgbjolngdbaaGreatDoor
set_option linter.unusedVariables false

/-! ## Steps -/
theorem capF_same {l : List (Int × Int)} {t t' : Int} (h : ∀ s ∈ l, (s.1 ≤ t ↔ s.1 ≤ t')) : capF l t = capF l t' := by
  unfold capF
  generalize (0 : Int) = z
  induction l generalizing z with
  | nil => rfl
  | cons a l ih =>
    rw [List.foldl_cons, List.foldl_cons]
    have ha := h a (by simp)
    have e : (if a.1 ≤ t then a.2 else z) = (if a.1 ≤ t' then a.2 else z) := by simp [ha]
    rw [e]
    exact ih (fun s hs => h s (by simp [hs])) _
theorem capF_snoc (l : List (Int × Int)) (s : Int × Int) (t : Int) : capF (l ++ [s]) t = if s.1 ≤ t then s.2 else capF l t := by
  unfold capF; rw [List.foldl_append]; rfl
theorem mergeTo_sub (l : List (Int × Int)) (k : Nat) (hk : k ≤ l.length) : (mergeTo l k).Sublist (l.take k) := by
  induction k with
  | zero => simp [mergeTo]
  | succ k ih =>
    rw [mergeTo, take_snoc (0, 0) (by omega)]
    split
    · exact (ih (by omega)).append (List.Sublist.refl _)
    · exact (ih (by omega)).trans (List.sublist_append_left _ _)
theorem mem_stA {l : List (Int × Int)} {s : Int × Int} (h : s ∈ l) : ∃ i, i < l.length ∧ stA l i = s.1 ∧ stC l i = s.2 := by
  obtain ⟨i, hi, e⟩ := List.getElem_of_mem h
  refine ⟨i, hi, ?_, ?_⟩
  · unfold stA; rw [getD_get _ hi, e]
  · unfold stC; rw [getD_get _ hi, e]
/-- The capacity at a time, of the merged row of the times' capacities. -/
theorem capF_merge {L : List (Int × Int)} (hA : ∀ i, i < L.length → stA L i = i) : ∀ m, m ≤ L.length → ∀ t, t < m → capF (mergeTo L m) t = stC L t := by
  intro m
  induction m with
  | zero => intro _ t ht; omega
  | succ m ih =>
    intro hm t ht
    have e1 : (L.getD m (0, 0)).1 = (m : Int) := hA m (by omega)
    rw [mergeTo]
    by_cases c : m = 0 ∨ stC L m ≠ stC L (m - 1)
    · rw [if_pos c, capF_snoc, e1]
      by_cases e : t = m
      · subst e; rw [if_pos (Int.le_refl _)]; rfl
      · rw [if_neg (by omega)]
        exact ih (by omega) t (by omega)
    · rw [if_neg c]
      rw [not_or, Decidable.not_not] at c
      by_cases e : t = m
      · subst e
        rw [c.2, ← ih (by omega) (t - 1) (by omega)]
        refine capF_same fun s hs => ?_
        have hs2 := (mergeTo_sub L t (by omega)).subset hs
        obtain ⟨i, hi, e1, _⟩ := mem_stA hs2
        rw [List.length_take] at hi
        have e3 : stA (L.take t) i = stA L i := by
          unfold stA
          rw [List.getD_eq_getElem?_getD, List.getD_eq_getElem?_getD, List.getElem?_take_of_lt (by omega)]
        rw [e3, hA i (by omega)] at e1
        omega
      · exact ih (by omega) t (by omega)
theorem stOk_inc {l : List (Int × Int)} (h : stOkB l = true) : ∀ j, j < l.length → ∀ i, i < j → stA l i < stA l j := by
  obtain ⟨h1, _, _⟩ := stOk_all h
  intro j
  induction j with
  | zero => intro _ i hi; omega
  | succ j ih =>
    intro hj i hi
    have hs := h1 (j + 1) hj
    unfold stAt at hs
    rw [Bool.and_eq_true, if_neg (by omega), decide_eq_true_eq, Nat.add_sub_cancel] at hs
    by_cases e : i = j
    · subst e; exact hs.2
    · have := ih (by omega) i (by omega)
      omega
theorem stOk_iff (l : List (Int × Int)) : stOkB l = true ↔ ((∀ s ∈ l, (0 ≤ s.1 ∧ s.1 ≤ 60) ∧ (0 ≤ s.2 ∧ s.2 ≤ 20)) ∧ l.Pairwise (fun a b => a.1 < b.1) ∧ stA l 0 = 0 ∧ 1 ≤ l.length ∧ l.length ≤ 8) := by
  constructor
  · intro h
    obtain ⟨h1, h2, h3⟩ := stOk_all h
    refine ⟨fun s hs => ?_, ?_, ?_, h2, h3⟩
    · obtain ⟨i, hi, e1, e2⟩ := mem_stA hs
      have := h1 i hi
      unfold stAt at this
      rw [Bool.and_eq_true, Bool.and_eq_true, decide_eq_true_eq, decide_eq_true_eq, e1, e2] at this
      exact this.1
    · rw [List.pairwise_iff_getElem]
      intro i j hi hj hij
      have := stOk_inc h j hj i hij
      unfold stA at this
      rwa [getD_get _ hi, getD_get _ hj] at this
    · have := h1 0 (by omega)
      unfold stAt at this
      rw [Bool.and_eq_true, if_pos rfl, decide_eq_true_eq] at this
      exact this.2
  · rintro ⟨h1, h2, h3, h4, h5⟩
    refine stOk_intro (fun j hj => ?_) h4 h5
    have hj1 := h1 _ (List.getElem_mem hj)
    have ea : stA l j = (l[j]).1 := by unfold stA; rw [getD_get _ hj]
    have ec : stC l j = (l[j]).2 := by unfold stC; rw [getD_get _ hj]
    unfold stAt
    rw [ea, ec, decide_eq_true hj1.1, decide_eq_true hj1.2]
    by_cases j0 : j = 0
    · rw [if_pos j0, decide_eq_true h3]; rfl
    · rw [if_neg j0]
      have := List.pairwise_iff_getElem.1 h2 (j - 1) j (by omega) hj (by omega)
      have ep : stA l (j - 1) = (l[j - 1]).1 := by unfold stA; rw [getD_get _ (by omega)]
      rw [ep, decide_eq_true this]; rfl
theorem mergeTo_head (l : List (Int × Int)) (k : Nat) (hk : 0 < k) : ∃ r, mergeTo l k = l.getD 0 (0, 0) :: r := by
  induction k with
  | zero => omega
  | succ k ih =>
    by_cases k0 : k = 0
    · subst k0; exact ⟨[], by simp [mergeTo]⟩
    · obtain ⟨r, e⟩ := ih (by omega)
      rw [mergeTo, e]
      split
      · exact ⟨_, rfl⟩
      · exact ⟨r, rfl⟩
theorem merge_ok {l : List (Int × Int)} (h : stOkB l = true) : stOkB (mergeTo l l.length) = true := by
  obtain ⟨h1, h2, h3, h4, h5⟩ := (stOk_iff l).1 h
  have hs := mergeTo_sub l l.length (Nat.le_refl _)
  rw [List.take_length] at hs
  obtain ⟨r, e⟩ := mergeTo_head l l.length (by omega)
  refine (stOk_iff _).2 ⟨fun s hm => h1 s (hs.subset hm), h2.sublist hs, ?_, ?_, Nat.le_trans hs.length_le h5⟩
  · rw [e]; exact h3
  · rw [e]; simp
theorem merge_cap {l : List (Int × Int)} (h : stOkB l = true) (t : Int) : ∀ k, k ≤ l.length → capF (mergeTo l k) t = capF (l.take k) t := by
  intro k
  induction k with
  | zero => intro _; rfl
  | succ k ih =>
    intro hk
    rw [capF_succ t (by omega), mergeTo]
    by_cases c : k = 0 ∨ stC l k ≠ stC l (k - 1)
    · rw [if_pos c, capF_snoc, ih (by omega)]; rfl
    · rw [if_neg c, ih (by omega)]
      rw [not_or, Decidable.not_not] at c
      by_cases e : stA l k ≤ t
      · rw [if_pos e]
        obtain ⟨k', rfl⟩ : ∃ k', k = k' + 1 := ⟨k - 1, by omega⟩
        have := stOk_inc h (k' + 1) (by omega) k' (by omega)
        rw [capF_succ t (by omega), if_pos (by omega)]
        have := c.2
        rw [Nat.add_sub_cancel] at this
        exact this.symm
      · rw [if_neg e]
theorem steps_merge {l : List (Int × Int)} (h : stOkB l = true) (t : Int) : capAtM (mergeM l) t = capAtM l t := by
  have e : mergeM l = mergeTo l l.length := by unfold mergeM; rw [if_pos h]
  unfold capAtM
  rw [e, merge_ok h, h, merge_cap h t _ (Nat.le_refl _), List.take_length]
def cntB (ps : List Int) (k : Int) : Nat := (ps.filter fun p => decide (p < k)).length
theorem cntB_succ (ps : List Int) (k : Int) : cntB ps k ≤ cntB ps (k + 1) ∧ (k ∈ ps → cntB ps k + 1 ≤ cntB ps (k + 1)) := by
  induction ps with
  | nil => exact ⟨Nat.le_refl _, fun h => by cases h⟩
  | cons a ps ih =>
    have e : ∀ j, cntB (a :: ps) j = (if a < j then 1 else 0) + cntB ps j := fun j => by
      unfold cntB
      rw [List.filter_cons]
      by_cases h : a < j
      · simp [h]; omega
      · simp [h]
    rw [e, e]
    refine ⟨?_, fun hm => ?_⟩
    · split <;> split <;> omega
    · rcases List.mem_cons.1 hm with rfl | hm
      · rw [if_neg (by omega), if_pos (by omega)]; omega
      · have := ih.2 hm
        split <;> split <;> omega
theorem cntB_le (ps : List Int) (k : Int) : cntB ps k ≤ ps.length := List.length_filter_le _ _
theorem mergeTo_cnt {L : List (Int × Int)} {ps : List Int} (hc : ∀ k, k < L.length → (k = 0 ∨ stC L k ≠ stC L (k - 1)) → (k : Int) ∈ ps) : ∀ k, k ≤ L.length → (mergeTo L k).length ≤ cntB ps k := by
  intro k
  induction k with
  | zero => intro _; exact Nat.zero_le _
  | succ k ih =>
    intro hk
    have h1 := ih (by omega)
    obtain ⟨c1, c2⟩ := cntB_succ ps (k : Int)
    rw [mergeTo]
    have e : ((k + 1 : Nat) : Int) = (k : Int) + 1 := by omega
    rw [e]
    split
    · rename_i c
      have := c2 (hc k (by omega) c)
      rw [List.length_append, List.length_singleton]; omega
    · omega
theorem redOut_len {l : List (Int × Int)} {x y n : Int} (h : stOkB l = true) : (redOut l x y n).length ≤ l.length + 2 := by
  have hl : (redList l x y n).length = 61 := redList_len _ _ _ _
  have hc := mergeTo_cnt (L := redList l x y n) (ps := l.map (·.1) ++ [x, y]) (fun k hk hch => by
    rw [hl] at hk
    rw [List.mem_append]
    by_cases k0 : k = 0
    · subst k0
      left
      obtain ⟨h1, h2, h3, h4, h5⟩ := (stOk_iff l).1 h
      refine List.mem_map.2 ⟨l[0], List.getElem_mem (by omega), ?_⟩
      unfold stA at h3
      rw [getD_get _ (by omega)] at h3
      rw [h3]; rfl
    · apply Decidable.byContradiction
      intro hn
      rw [not_or] at hn
      obtain ⟨n1, n2⟩ := hn
      simp only [List.mem_cons, List.not_mem_nil, or_false, not_or] at n2
      rcases hch with hch | hch
      · exact k0 hch
      · apply hch
        unfold stC
        rw [redList_get _ _ _ _ hk, redList_get _ _ _ _ (by omega : k - 1 < 61)]
        show redAt l x y n k = redAt l x y n ((k - 1 : Nat) : Int)
        have ek : ((k - 1 : Nat) : Int) = (k : Int) - 1 := by omega
        rw [ek]
        have e1 : capF l k = capF l ((k : Int) - 1) := capF_same fun s hs => by
          have : s.1 ≠ (k : Int) := fun e => n1 (List.mem_map.2 ⟨s, hs, e⟩)
          omega
        unfold redAt
        rw [e1]
        have e2 : (x ≤ (k : Int) ∧ (k : Int) < y) ↔ (x ≤ (k : Int) - 1 ∧ (k : Int) - 1 < y) := by omega
        simp only [e2]) 61 (by rw [hl]; omega)
  have := cntB_le (l.map (·.1) ++ [x, y]) (61 : Nat)
  rw [List.length_append, List.length_map] at this
  exact Nat.le_trans hc this
theorem minTo_hit {l : List (Int × Int)} (h : stOkB l = true) (x : Int) (k : Nat) (hk : 0 < k) : ∃ j, j < k ∧ minTo l x k = capF l (x + j) := by
  induction k with
  | zero => omega
  | succ k ih =>
    rw [minTo_succ]
    by_cases k0 : k = 0
    · subst k0
      have := capF_bd h (x + (0 : Nat))
      exact ⟨0, by omega, by simp only [minTo]; omega⟩
    · obtain ⟨j, hj, e⟩ := ih (by omega)
      by_cases c : minTo l x k ≤ capF l (x + k)
      · exact ⟨j, by omega, by omega⟩
      · exact ⟨k, by omega, by omega⟩
theorem minCap_in {l : List (Int × Int)} {x y : Int} (h : spanB l x y = true) : minCap l x y = minTo l x (y - x).toNat := by unfold minCap; rw [if_pos h]
theorem totCap_in {l : List (Int × Int)} {x y : Int} (h : spanB l x y = true) : totCap l x y = sumTo l x (y - x).toNat := by unfold totCap; rw [if_pos h]
theorem steps_law {l : List (Int × Int)} {x y : Int} (h : stOkB l = true) (h3 : l.length ≤ 3) (hx : 0 ≤ x) (hxy : x < y) (hy : y ≤ 60) :
    redM l x y (minCap l x y) = (redOut l x y (minCap l x y), true) ∧ (redM l x y (minCap l x y + 1)).2 = false ∧ stOkB (redOut l x y (minCap l x y)) = true ∧
    totCap (redOut l x y (minCap l x y)) x y = totCap l x y - minCap l x y * (y - x) ∧ minCap (redOut l x y (minCap l x y)) x y = 0 ∧
    (∀ t, 0 ≤ t → t ≤ 60 → capAtM (redOut l x y (minCap l x y)) t = if x ≤ t ∧ t < y then capAtM l t - minCap l x y else capAtM l t) ∧ (0 ≤ minCap l x y ∧ minCap l x y ≤ 20) ∧ (0 ≤ totCap l x y ∧ totCap l x y ≤ 1200) := by
  have hsp : spanB l x y = true := by unfold spanB; rw [h, decide_eq_true (by omega), decide_eq_true (by omega)]; rfl
  have hmin : minCap l x y = minTo l x (y - x).toNat := minCap_in hsp
  have hb := minTo_bd h x (y - x).toNat
  have hok : redOkB l x y (minCap l x y) = true := by
    unfold redOkB
    rw [hsp, decide_eq_true hxy, decide_eq_true (by omega)]; rfl
  have hlen : (redOut l x y (minCap l x y)).length ≤ 8 := by have := redOut_len (l := l) (x := x) (y := y) (n := minCap l x y) h; omega
  have hst : stOkB (redOut l x y (minCap l x y)) = true := by rw [redOut_ok hok, decide_eq_true hlen]
  have hno : redOkB l x y (minCap l x y + 1) = false := by
    unfold redOkB
    rw [decide_eq_false (p := 0 ≤ minCap l x y + 1 ∧ _) (by omega), Bool.and_false]
  have hcap : ∀ t : Int, 0 ≤ t → t ≤ 60 → capF (redOut l x y (minCap l x y)) t = redAt l x y (minCap l x y) t := fun t t0 t1 => by
    obtain ⟨i, rfl⟩ : ∃ i : Nat, t = i := ⟨t.toNat, by omega⟩
    unfold redOut
    rw [capF_merge (fun i hi => by rw [redList_len] at hi; unfold stA; rw [redList_get _ _ _ _ hi]) 61 (by rw [redList_len]; omega) i (by omega)]
    unfold stC
    rw [redList_get _ _ _ _ (by omega)]
  have hsp2 : spanB (redOut l x y (minCap l x y)) x y = true := by unfold spanB; rw [hst, decide_eq_true (by omega), decide_eq_true (by omega)]; rfl
  refine ⟨by unfold redM; rw [if_pos ⟨hok, hlen⟩], by unfold redM; rw [if_neg (by rw [hno]; simp)], hst, ?_, ?_, ?_, by omega, ?_⟩
  · rw [totCap_in hsp, totCap_in hsp2]
    have hs : ∀ k : Nat, k ≤ (y - x).toNat → sumTo (redOut l x y (minCap l x y)) x k = sumTo l x k - minCap l x y * k := by
      intro k
      induction k with
      | zero => intro _; simp [sumTo]
      | succ k ih =>
        intro hk
        rw [sumTo_succ, sumTo_succ, ih (by omega), hcap (x + k) (by omega) (by omega)]
        unfold redAt
        rw [if_pos (by omega)]
        have e : minCap l x y * ((k + 1 : Nat) : Int) = minCap l x y * k + minCap l x y := by rw [Int.natCast_add, Int.mul_add]; simp
        rw [e]; omega
    rw [hs _ (Nat.le_refl _)]
    have e : (((y - x).toNat : Nat) : Int) = y - x := by omega
    rw [e]
  · have hb2 := minTo_bd hst x (y - x).toNat
    have e2 : minCap (redOut l x y (minCap l x y)) x y = minTo (redOut l x y (minCap l x y)) x (y - x).toNat := minCap_in hsp2
    rw [e2]
    obtain ⟨j, hj, e⟩ := minTo_hit h x (y - x).toNat (by omega)
    have h1 := minTo_le (l := redOut l x y (minCap l x y)) (x := x) hj
    rw [hcap (x + j) (by omega) (by omega)] at h1
    unfold redAt at h1
    rw [if_pos (by omega), ← e, ← hmin] at h1
    omega
  · intro t t0 t1
    have c1 : capAtM (redOut l x y (minCap l x y)) t = capF (redOut l x y (minCap l x y)) t := if_pos ⟨hst, t0, t1⟩
    have c2 : capAtM l t = capF l t := if_pos ⟨h, t0, t1⟩
    rw [c1, c2, hcap t t0 t1]; rfl
  · have := sumTo_bd h x (y - x).toNat
    rw [totCap_in hsp]
    omega

/-! ## Activities -/
theorem leastV_fold (l : List Int) : ∀ z : Int, l.foldl (fun n x => min n x) z ≤ z ∧ (∀ x ∈ l, l.foldl (fun n x => min n x) z ≤ x) ∧ (l.foldl (fun n x => min n x) z = z ∨ l.foldl (fun n x => min n x) z ∈ l) := by
  induction l with
  | nil => intro z; exact ⟨Int.le_refl _, fun x hx => (by cases hx), .inl rfl⟩
  | cons a l ih =>
    intro z
    obtain ⟨h1, h2, h3⟩ := ih (min z a)
    rw [List.foldl_cons]
    refine ⟨by omega, fun x hx => ?_, ?_⟩
    · rcases List.mem_cons.1 hx with rfl | hx
      · omega
      · exact h2 x hx
    · rcases h3 with h3 | h3
      · rw [h3]
        by_cases c : z ≤ a
        · left; omega
        · right; rw [show min z a = a from by omega]; simp
      · right; exact List.mem_cons_of_mem _ h3
theorem leastV_le {l : List Int} {x : Int} (h : x ∈ l) : leastV l ≤ x := by
  cases l with
  | nil => cases h
  | cons a l =>
    obtain ⟨h1, h2, _⟩ := leastV_fold l a
    rcases List.mem_cons.1 h with rfl | h
    · exact h1
    · exact h2 x h
theorem leastV_mem {l : List Int} (h : l ≠ []) : leastV l ∈ l := by
  cases l with
  | nil => exact absurd rfl h
  | cons a l =>
    obtain ⟨_, _, h3⟩ := leastV_fold l a
    rcases h3 with h3 | h3
    · show l.foldl _ a ∈ _; rw [h3]; simp
    · exact List.mem_cons_of_mem _ h3
theorem leastD_eq (l : List Md) : leastD l = leastV (l.map (·.dur)) := by
  cases l with
  | nil => rfl
  | cons a l => simp only [leastD, leastV, List.map_cons, List.foldl_map]
theorem mostD_ge {l : List Md} {m : Md} (h : m ∈ l) : m.dur ≤ mostD l := by
  have hf : ∀ (l : List Md) (z : Int), z ≤ l.foldl (fun n x => max n x.dur) z ∧ ∀ m ∈ l, m.dur ≤ l.foldl (fun n x => max n x.dur) z := by
    intro l
    induction l with
    | nil => intro z; exact ⟨Int.le_refl _, fun m hm => (by cases hm)⟩
    | cons a l ih =>
      intro z
      obtain ⟨h1, h2⟩ := ih (max z a.dur)
      rw [List.foldl_cons]
      refine ⟨by omega, fun m hm => ?_⟩
      rcases List.mem_cons.1 hm with rfl | hm
      · omega
      · exact h2 m hm
  cases l with
  | nil => cases h
  | cons a l =>
    obtain ⟨h1, h2⟩ := hf l a.dur
    rcases List.mem_cons.1 h with rfl | h
    · exact h1
    · exact h2 m h
theorem chosen_all (l : List Md) {s : List Int} (h : ∀ i : Nat, i < l.length → (i : Int) ∈ s) : ∀ k, k ≤ l.length → chosenTo l s k = l.take k := by
  intro k
  induction k with
  | zero => intro _; simp [chosenTo]
  | succ k ih =>
    intro hk
    rw [chosenTo, ih (by omega), take_snoc md0 (by omega)]
    have : hasB s k = true := by unfold hasB; rw [decide_eq_true_eq]; exact h k (by omega)
    rw [if_pos this]
theorem chosen_some {l : List Md} {s : List Int} {i : Nat} (h : i < l.length) (hm : (i : Int) ∈ s) : ∀ k, i < k → chosenTo l s k ≠ [] := by
  intro k
  induction k with
  | zero => intro hk; omega
  | succ k ih =>
    intro hk
    rw [chosenTo]
    by_cases e : i = k
    · subst e
      have : hasB s i = true := by unfold hasB; rw [decide_eq_true_eq]; exact hm
      rw [if_pos this]; simp
    · split
      · simp
      · exact ih (by omega)
theorem firstN_mem (n : Nat) (i : Int) : i ∈ firstN n ↔ 0 ≤ i ∧ i < n := by
  unfold firstN
  rw [List.mem_map]
  constructor
  · rintro ⟨k, hk, rfl⟩
    rw [List.mem_range] at hk; omega
  · rintro ⟨h1, h2⟩
    exact ⟨i.toNat, List.mem_range.2 (by omega), by omega⟩
theorem chosen_first (l : List Md) : chosenTo l (firstN l.length) l.length = l := by
  rw [chosen_all l (fun i hi => (firstN_mem _ _).2 (by omega)) _ (Nat.le_refl _), List.take_length]
/-- The shortest of some modes is not shorter than that of all. -/
theorem acts_some {l : List Md} {s : List Int} (h0 : s ≠ []) (hs : ∀ i ∈ s, 0 ≤ i ∧ i < (l.length : Int)) : minDur l (firstN l.length) ≤ minDur l s := by
  obtain ⟨i, r, rfl⟩ : ∃ i r, s = i :: r := by
    cases s with
    | nil => exact absurd rfl h0
    | cons i r => exact ⟨i, r, rfl⟩
  have hi := hs i (by simp)
  unfold minDur
  rw [chosen_first, leastD_eq, leastD_eq]
  have hne := chosen_some (l := l) (s := i :: r) (i := i.toNat) (by omega) (by rw [Int.toNat_of_nonneg hi.1]; simp) l.length (by omega)
  have hm := leastV_mem (l := (chosenTo l (i :: r) l.length).map (·.dur)) (by simpa using hne)
  obtain ⟨m, hm1, hm2⟩ := List.mem_map.1 hm
  exact leastV_le (List.mem_map.2 ⟨m, chosenTo_mem (Nat.le_refl _) hm1, hm2⟩)
theorem acts_dur {l : List Md} {m : Md} (h : m ∈ l) : minDur l (firstN l.length) ≤ m.dur ∧ m.dur ≤ maxDur l (firstN l.length) := by
  unfold minDur maxDur
  rw [chosen_first, leastD_eq]
  exact ⟨leastV_le (List.mem_map.2 ⟨m, h, rfl⟩), mostD_ge h⟩
theorem leastM_le {f : Md → Option Int} {l : List Md} (h : ∀ m ∈ l, someO f m = true) {m : Md} (hm : m ∈ l) : leastM f (chosenTo l (firstN l.length) l.length) ≤ valO f m := by
  rw [chosen_first, leastM_yes (by rw [List.all_eq_true]; exact h)]
  exact leastV_le (List.mem_map.2 ⟨m, hm, rfl⟩)
theorem leastM_some {f : Md → Option Int} {l : List Md} {s : List Int} (h : ∀ m ∈ l, someO f m = true) (h0 : s ≠ []) (hs : ∀ i ∈ s, 0 ≤ i ∧ i < (l.length : Int)) :
    leastM f (chosenTo l (firstN l.length) l.length) ≤ leastM f (chosenTo l s l.length) := by
  obtain ⟨i, r, rfl⟩ : ∃ i r, s = i :: r := by
    cases s with
    | nil => exact absurd rfl h0
    | cons i r => exact ⟨i, r, rfl⟩
  have hi := hs i (by simp)
  have hne := chosen_some (l := l) (s := i :: r) (i := i.toNat) (by omega) (by rw [Int.toNat_of_nonneg hi.1]; simp) l.length (by omega)
  rw [leastM_yes (l := chosenTo l (i :: r) l.length) (by rw [List.all_eq_true]; exact fun m hm => h m (chosenTo_mem (Nat.le_refl _) hm))]
  have hm := leastV_mem (l := (chosenTo l (i :: r) l.length).map (valO f)) (by simpa using hne)
  obtain ⟨m, hm1, hm2⟩ := List.mem_map.1 hm
  rw [← hm2]
  exact leastM_le h (chosenTo_mem (Nat.le_refl _) hm1)
end Go.Proofs.YtcecgbjolngdbaaGreatDoor
