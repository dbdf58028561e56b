/- A capacity reduced over a span. -/
import Derived.Test.YtebfijjcmmlbjaaDoorPlainRed
import Derived.Test.YtebfijjcmmlbjaaDoorSteps3
import Derived.Test.YtebfijjcmmlbjaaDoorSteps4
namespace Go.Proofs.YtebfijjcmmlbjaaDoor
open Go.ChangeShapes Go.WideShapes Go.ChangeAt Go.RowKit
set_option linter.unusedVariables false

theorem redOk_no1 {l : List (Int × Int)} {x y n : Int} (h : spanB l x y = false) : redM l x y n = ([], false) := by
  unfold redM redOkB; rw [h]; simp
theorem redOk_no2 {l : List (Int × Int)} {x y n : Int} (h : ¬ x < y) : redM l x y n = ([], false) := by
  unfold redM redOkB; rw [decide_eq_false h]; simp
theorem redOk_no3 {l : List (Int × Int)} {x y n : Int} (h : ¬ (0 ≤ n ∧ n ≤ minCap l x y)) : redM l x y n = ([], false) := by
  unfold redM redOkB; rw [decide_eq_false h]; simp
theorem redOk_yes {l : List (Int × Int)} {x y n : Int} (h1 : spanB l x y = true) (h2 : x < y) (h3 : 0 ≤ n ∧ n ≤ minCap l x y) : redOkB l x y n = true := by
  unfold redOkB; rw [h1, decide_eq_true h2, decide_eq_true h3]; rfl
theorem redM_yes {l : List (Int × Int)} {x y n : Int} (h : redOkB l x y n = true) (h2 : (redOut l x y n).length ≤ 8) : redM l x y n = (redOut l x y n, true) := by
  unfold redM; rw [if_pos ⟨h, h2⟩]
theorem redM_no {l : List (Int × Int)} {x y n : Int} (h2 : ¬ (redOut l x y n).length ≤ 8) : redM l x y n = ([], false) := by
  unfold redM; rw [if_neg fun h => h2 h.2]
theorem redAt_in {l : List (Int × Int)} {x y n t : Int} (h : x ≤ t ∧ t < y) : redAt l x y n t = capF l t - n := by unfold redAt; rw [if_pos h]
theorem redAt_out {l : List (Int × Int)} {x y n t : Int} (h : ¬ (x ≤ t ∧ t < y)) : redAt l x y n t = capF l t := by unfold redAt; rw [if_neg h]
theorem redList_take {l : List (Int × Int)} {x y n : Int} {k : Nat} (h : k < 61) : (redList l x y n).take (k + 1) = (redList l x y n).take k ++ [((k : Int), redAt l x y n k)] := by
  rw [take_snoc (0, 0) (by rw [redList_len]; exact h), redList_get _ _ _ _ h]
set_option maxHeartbeats 6400000 in
theorem implReduceCapacity_any (A : Option Addr) (l : List (Int × Int)) (c lo hi : Nat) (x y n : Int) (w : World) (hl : l.length ≤ 16777216) (ha : RdSt w lo hi A l) (hhi : hi ≤ w.heap.size) :
    Calls Tryd.prog 19 #[.slice A l.length c, .int .i64 x, .int .i64 y, .int .i64 n] w fun e w' => ∃ A' c', e = .returned (.tuple #[.slice A' (redM l x y n).1.length c', .bool (redM l x y n).2]) ∧ OwnR w' w.heap.size w'.heap.size 66 2 A' (redM l x y n).1.length c' (flatSt (redM l x y n).1) ∧ Below w.heap.size w w' := by
  go_enter Tryd.func19, Tryd.ntmps19
  go_wp2_with fail
  refine (implStepsOk_any A l c lo hi _ hl ha hhi).mono ?_
  rintro e w1 ⟨rfl, hB⟩
  have hs1 := hB.size
  cases hok : stOkB l
  · have hs : spanB l x y = false := by unfold spanB; rw [hok]; rfl
    have HK := hide (redOk_no1 (n := n) hs)
    go_wp2
    go_ret2
    exact ⟨_, _, by rw [HK.out]; rfl, by rw [HK.out]; exact OwnR.empty _ _ _ _ _, hB⟩
  by_cases hx : 0 ≤ x ∧ x ≤ 60
  case neg =>
    have hs : spanB l x y = false := by unfold spanB; rw [hok, decide_eq_false hx]; rfl
    go_wp2_with fail
    refine (isTime_no _ hx).mono ?_
    rintro e w3 ⟨rfl, rfl⟩
    have HK := hide (redOk_no1 (n := n) hs)
    go_wp2
    go_ret2
    exact ⟨_, _, by rw [HK.out]; rfl, by rw [HK.out]; exact OwnR.empty _ _ _ _ _, hB⟩
  go_wp2_with fail
  refine (isTime_yes _ hx).mono ?_
  rintro e w3 ⟨rfl, rfl⟩
  by_cases hy : 0 ≤ y ∧ y ≤ 60
  case neg =>
    have hs : spanB l x y = false := by unfold spanB; rw [hok, decide_eq_true hx, decide_eq_false hy]; rfl
    go_wp2_with fail
    refine (isTime_no _ hy).mono ?_
    rintro e w3 ⟨rfl, rfl⟩
    have HK := hide (redOk_no1 (n := n) hs)
    go_wp2
    go_ret2
    exact ⟨_, _, by rw [HK.out]; rfl, by rw [HK.out]; exact OwnR.empty _ _ _ _ _, hB⟩
  go_wp2_with fail
  refine (isTime_yes _ hy).mono ?_
  rintro e w3 ⟨rfl, rfl⟩
  have hs : spanB l x y = true := by unfold spanB; rw [hok, decide_eq_true hx, decide_eq_true hy]; rfl
  by_cases hxy : x < y
  case neg =>
    have HK := hide (redOk_no2 (l := l) (n := n) hxy)
    go_wp2
    go_ret2
    exact ⟨_, _, by rw [HK.out]; rfl, by rw [HK.out]; exact OwnR.empty _ _ _ _ _, hB⟩
  have har := ha.below hB hhi
  go_wp2_with fail
  refine (implMinCapacity_any A l c lo hi x y _ hl har (by omega)).mono ?_
  rintro e w2 ⟨rfl, hB2⟩
  have hs2 := hB2.size
  have hB := hB.trans (hB2.mono hs1)
  have har := har.below hB2 (by omega)
  clear hB2
  by_cases hn : 0 ≤ n ∧ n ≤ minCap l x y
  case neg =>
    go_wp2_with fail
    refine (within_no _ hn).mono ?_
    rintro e w3 ⟨rfl, rfl⟩
    have HK := hide (redOk_no3 hn)
    go_wp2
    go_ret2
    exact ⟨_, _, by rw [HK.out]; rfl, by rw [HK.out]; exact OwnR.empty _ _ _ _ _, hB⟩
  have HOK := hide (redOk_yes hs hxy hn)
  go_wp2_with fail
  refine (within_yes _ hn).mono ?_
  rintro e w3 ⟨rfl, rfl⟩
  clear hs hxy hn hok hx hy
  obtain ⟨hk, hx, hy, _, hn20, _⟩ := redOk_out HOK.out
  have HKK := hide hk; clear hk
  have hO0 := OwnR.made w2 w.heap.size 66 2 #[] 0 (by omega) (by unfold maxLen; omega) rfl
  have hsw : w.heap.size ≤ w2.heap.size := by omega
  go_wp2_with fail
  go_loopw [10, 41] (fun v i wr => ∃ (k : Nat) (A : Option Addr) (c : Nat), k ≤ 61 ∧ i = .int .i64 k ∧ v = .slice A (mergeTo (redList l x y n) k).length c ∧ OwnR wr w.heap.size wr.heap.size 66 2 A (mergeTo (redList l x y n) k).length c (flatSt (mergeTo (redList l x y n) k)) ∧ Below w.heap.size w wr) (fun _ i _ => 61 - (intOf i).toNat)
  case atStart => exact ⟨0, _, _, by omega, rfl, rfl, by simpa [flatSt, mergeTo] using hO0, hB.alloc hsw _⟩
  case round =>
    obtain ⟨k, A1, c1, hk, rfl, rfl, hO, hBr⟩ := hrel
    clear hO0
    by_cases hlt : (k : Int) < 61
    · have hsz := hBr.size
      have har := ha.below hBr hhi
      have HT : Hid (mergeTo (redList l x y n) (k + 1) = if k = 0 ∨ stC (redList l x y n) k ≠ stC (redList l x y n) (k - 1) then mergeTo (redList l x y n) k ++ [(redList l x y n).getD k (0, 0)] else mergeTo (redList l x y n) k) := rfl
      have HC : Hid (stC (redList l x y n) k = redAt l x y n k) := by unfold stC; rw [redList_get _ _ _ _ (by omega)]; exact hide rfl
      rw [redList_get _ _ _ _ (by omega)] at HT
      have HL := hide (mergeTo_len (redList l x y n) k)
      have HLL : Hid (0 < k → ∃ m, (mergeTo (redList l x y n) k).length = m + 1 ∧ stC (mergeTo (redList l x y n) k) m = stC (redList l x y n) (k - 1)) := by
        intro h0
        obtain ⟨k', rfl⟩ : ∃ k', k = k' + 1 := ⟨k - 1, by omega⟩
        exact mergeTo_last (by rw [redList_len]; omega)
      have hcb := capF_bd HKK.out k
      go_wp2_with fail
      refine (capacityAt_any A l c lo hi k _ hl har (by omega)).mono ?_
      rintro e w2 ⟨rfl, hB2⟩
      have hO2 := (hO.below hB2 (Nat.le_refl _)).mono (Nat.le_refl _) hB2.size
      have hs2 : w.heap.size ≤ w2.heap.size := Nat.le_trans hsz hB2.size
      have hB2 := hBr.trans (hB2.mono hsz)
      clear hO hBr har hB
      by_cases hin : x ≤ k ∧ (k : Int) < y
      · have HR := hide (redAt_in (l := l) (n := n) hin)
        obtain ⟨hin1, hin2⟩ := hin
        rw [HR.out] at HT HC
        generalize capF l k = cf at HT HC hcb
        generalize hown : cf - n = own at HT HC
        have hown' : IntKind.i64.wrap own = own := by rw [← hown]; exact IntWalk.i64_in _ (by omega)
        have HW := hide hown
        generalize hM : mergeTo (redList l x y n) k = M at hO2 HT HLL HL
        clear hM
        have hM : M.length ≤ 16777216 := by have := HL.out; omega
        by_cases hk0 : k = 0
        · have HK := hide (show mergeTo (redList l x y n) (k + 1) = M ++ [((k : Int), own)] from by rw [HT.out, if_pos (.inl hk0)])
          have hd0 : ((k : Int) == 0) = true := by rw [hk0]; rfl
          clear HT HLL hk0
          go_wp2_with (at_builtin; go_must (refine wpList_push _ (.tmp 71) (.tmp 75) 40 66 _ 2 16 Tryd.underlying40 Tryd.infoSt rfl (by omega) w.heap.size _ A1 M.length c1 _ (hO2.alloc _) w2.heap.size 0 1 1 [.int .i64 k, .int .i64 own] rfl (two_new _ _ _ _) (two_cell rfl rfl) (by omega) (by omega) (by simp; omega) w.heap.size w (hB2.alloc hs2 _) (Nat.le_refl _) ?_ rfl rfl rfl rfl))
          intro A' c' w' hO' hB' hs' _
          clear hO2 hB2
          go_wp2
          go_roundw
          case rel => exact ⟨k + 1, A', c', by omega, by go_num, by rw [HK.out]; simp, hO'.eqn (by rw [HK.out]; simp) (by rw [HK.out, flatSt_app]; rfl), hB'⟩
          case measure => simp [intOf]; omega
        · have hd0 : ((k : Int) == 0) = false := by rw [beq_eq_false_iff_ne]; omega
          have hd1 : ¬ (k : Int) = 0 := by omega
          obtain ⟨m, hm1, hm2⟩ := HLL.out (by omega)
          have HM1 := hide hm1
          rw [hm1] at hO2 ⊢
          obtain ⟨g, rfl, hg1, hg2, hg3⟩ := hO2.some_ (by omega)
          have g3 : w2.cell? ⟨g, m * 2 + 1, none⟩ = some (.int .i64 (stC M m)) := by
            rw [hO2.cellAt _ (by omega)]
            exact flat_get (fun s : Int × Int => [Value.int .i64 s.1, Value.int .i64 s.2]) 2 (fun _ => rfl) M (0, 0) m 1 (by omega) (by omega)
          have hmi : IntKind.i64.wrap (m : Int) = (m : Int) := wrap_nat m (by omega)
          have hmb : m ≤ 16777216 := by omega
          have hm0 : (0 : Int) ≤ (m : Int) := by omega
          have hm2' : m < m + 1 := by omega
          have HM2 := hide hm2
          clear hm2 hm1 hM HL
          generalize stC M m = z at g3 HM2
          by_cases hzy : own = z
          · have hd : (own != z) = false := by simp [hzy]
            have HK := hide (show mergeTo (redList l x y n) (k + 1) = M from by rw [HT.out, if_neg]; rw [not_or, Decidable.not_not]; exact ⟨hk0, by rw [HC.out, ← HM2.out, hzy]⟩)
            clear hzy HT HLL
            go_wp2
            go_roundw
            case rel => exact ⟨k + 1, _, c1, by omega, by go_num, by rw [HK.out, HM1.out], by rw [HK.out, HM1.out]; exact hO2, hB2⟩
            case measure => simp [intOf]; omega
          · have hd : (own != z) = true := by simp [hzy]
            have HK := hide (show mergeTo (redList l x y n) (k + 1) = M ++ [((k : Int), own)] from by rw [HT.out, if_pos (.inr (by rw [HC.out, ← HM2.out]; exact hzy))])
            clear hzy HT HLL
            go_wp2_with (at_builtin; go_must (refine wpList_push _ (.tmp 71) (.tmp 75) 40 66 _ 2 16 Tryd.underlying40 Tryd.infoSt rfl (by omega) w.heap.size _ (some ⟨g, 0, none⟩) (m + 1) c1 _ (hO2.alloc _) w2.heap.size 0 1 1 [.int .i64 k, .int .i64 own] rfl (two_new _ _ _ _) (two_cell rfl rfl) (by omega) (by omega) (by simp; omega) w.heap.size w (hB2.alloc hs2 _) (Nat.le_refl _) ?_ rfl rfl rfl rfl))
            intro A' c' w' hO' hB' hs' _
            clear hO2 hB2
            go_wp2
            go_roundw
            case rel => exact ⟨k + 1, A', c', by omega, by go_num, by rw [HK.out]; simp [HM1.out], hO'.eqn (by rw [HK.out]; simp [HM1.out]) (by rw [HK.out, flatSt_app]; rfl), hB'⟩
            case measure => simp [intOf]; omega
      · have HR := hide (redAt_out (l := l) (n := n) hin)
        rw [HR.out] at HT HC
        generalize capF l k = own at HT HC hcb
        by_cases hin1 : x ≤ k
        · have hin2 : ¬ (k : Int) < y := fun h => hin ⟨hin1, h⟩
          clear hin
          generalize hM : mergeTo (redList l x y n) k = M at hO2 HT HLL HL
          clear hM
          have hM : M.length ≤ 16777216 := by have := HL.out; omega
          by_cases hk0 : k = 0
          · have HK := hide (show mergeTo (redList l x y n) (k + 1) = M ++ [((k : Int), own)] from by rw [HT.out, if_pos (.inl hk0)])
            have hd0 : ((k : Int) == 0) = true := by rw [hk0]; rfl
            clear HT HLL hk0
            go_wp2_with (at_builtin; go_must (refine wpList_push _ (.tmp 71) (.tmp 75) 40 66 _ 2 16 Tryd.underlying40 Tryd.infoSt rfl (by omega) w.heap.size _ A1 M.length c1 _ (hO2.alloc _) w2.heap.size 0 1 1 [.int .i64 k, .int .i64 own] rfl (two_new _ _ _ _) (two_cell rfl rfl) (by omega) (by omega) (by simp; omega) w.heap.size w (hB2.alloc hs2 _) (Nat.le_refl _) ?_ rfl rfl rfl rfl))
            intro A' c' w' hO' hB' hs' _
            clear hO2 hB2
            go_wp2
            go_roundw
            case rel => exact ⟨k + 1, A', c', by omega, by go_num, by rw [HK.out]; simp, hO'.eqn (by rw [HK.out]; simp) (by rw [HK.out, flatSt_app]; rfl), hB'⟩
            case measure => simp [intOf]; omega
          · have hd0 : ((k : Int) == 0) = false := by rw [beq_eq_false_iff_ne]; omega
            have hd1 : ¬ (k : Int) = 0 := by omega
            obtain ⟨m, hm1, hm2⟩ := HLL.out (by omega)
            have HM1 := hide hm1
            rw [hm1] at hO2 ⊢
            obtain ⟨g, rfl, hg1, hg2, hg3⟩ := hO2.some_ (by omega)
            have g3 : w2.cell? ⟨g, m * 2 + 1, none⟩ = some (.int .i64 (stC M m)) := by
              rw [hO2.cellAt _ (by omega)]
              exact flat_get (fun s : Int × Int => [Value.int .i64 s.1, Value.int .i64 s.2]) 2 (fun _ => rfl) M (0, 0) m 1 (by omega) (by omega)
            have hmi : IntKind.i64.wrap (m : Int) = (m : Int) := wrap_nat m (by omega)
            have hmb : m ≤ 16777216 := by omega
            have hm0 : (0 : Int) ≤ (m : Int) := by omega
            have hm2' : m < m + 1 := by omega
            have HM2 := hide hm2
            clear hm2 hm1 hM HL
            generalize stC M m = z at g3 HM2
            by_cases hzy : own = z
            · have hd : (own != z) = false := by simp [hzy]
              have HK := hide (show mergeTo (redList l x y n) (k + 1) = M from by rw [HT.out, if_neg]; rw [not_or, Decidable.not_not]; exact ⟨hk0, by rw [HC.out, ← HM2.out, hzy]⟩)
              clear hzy HT HLL
              go_wp2
              go_roundw
              case rel => exact ⟨k + 1, _, c1, by omega, by go_num, by rw [HK.out, HM1.out], by rw [HK.out, HM1.out]; exact hO2, hB2⟩
              case measure => simp [intOf]; omega
            · have hd : (own != z) = true := by simp [hzy]
              have HK := hide (show mergeTo (redList l x y n) (k + 1) = M ++ [((k : Int), own)] from by rw [HT.out, if_pos (.inr (by rw [HC.out, ← HM2.out]; exact hzy))])
              clear hzy HT HLL
              go_wp2_with (at_builtin; go_must (refine wpList_push _ (.tmp 71) (.tmp 75) 40 66 _ 2 16 Tryd.underlying40 Tryd.infoSt rfl (by omega) w.heap.size _ (some ⟨g, 0, none⟩) (m + 1) c1 _ (hO2.alloc _) w2.heap.size 0 1 1 [.int .i64 k, .int .i64 own] rfl (two_new _ _ _ _) (two_cell rfl rfl) (by omega) (by omega) (by simp; omega) w.heap.size w (hB2.alloc hs2 _) (Nat.le_refl _) ?_ rfl rfl rfl rfl))
              intro A' c' w' hO' hB' hs' _
              clear hO2 hB2
              go_wp2
              go_roundw
              case rel => exact ⟨k + 1, A', c', by omega, by go_num, by rw [HK.out]; simp [HM1.out], hO'.eqn (by rw [HK.out]; simp [HM1.out]) (by rw [HK.out, flatSt_app]; rfl), hB'⟩
              case measure => simp [intOf]; omega
        · clear hin
          generalize hM : mergeTo (redList l x y n) k = M at hO2 HT HLL HL
          clear hM
          have hM : M.length ≤ 16777216 := by have := HL.out; omega
          by_cases hk0 : k = 0
          · have HK := hide (show mergeTo (redList l x y n) (k + 1) = M ++ [((k : Int), own)] from by rw [HT.out, if_pos (.inl hk0)])
            have hd0 : ((k : Int) == 0) = true := by rw [hk0]; rfl
            clear HT HLL hk0
            go_wp2_with (at_builtin; go_must (refine wpList_push _ (.tmp 71) (.tmp 75) 40 66 _ 2 16 Tryd.underlying40 Tryd.infoSt rfl (by omega) w.heap.size _ A1 M.length c1 _ (hO2.alloc _) w2.heap.size 0 1 1 [.int .i64 k, .int .i64 own] rfl (two_new _ _ _ _) (two_cell rfl rfl) (by omega) (by omega) (by simp; omega) w.heap.size w (hB2.alloc hs2 _) (Nat.le_refl _) ?_ rfl rfl rfl rfl))
            intro A' c' w' hO' hB' hs' _
            clear hO2 hB2
            go_wp2
            go_roundw
            case rel => exact ⟨k + 1, A', c', by omega, by go_num, by rw [HK.out]; simp, hO'.eqn (by rw [HK.out]; simp) (by rw [HK.out, flatSt_app]; rfl), hB'⟩
            case measure => simp [intOf]; omega
          · have hd0 : ((k : Int) == 0) = false := by rw [beq_eq_false_iff_ne]; omega
            have hd1 : ¬ (k : Int) = 0 := by omega
            obtain ⟨m, hm1, hm2⟩ := HLL.out (by omega)
            have HM1 := hide hm1
            rw [hm1] at hO2 ⊢
            obtain ⟨g, rfl, hg1, hg2, hg3⟩ := hO2.some_ (by omega)
            have g3 : w2.cell? ⟨g, m * 2 + 1, none⟩ = some (.int .i64 (stC M m)) := by
              rw [hO2.cellAt _ (by omega)]
              exact flat_get (fun s : Int × Int => [Value.int .i64 s.1, Value.int .i64 s.2]) 2 (fun _ => rfl) M (0, 0) m 1 (by omega) (by omega)
            have hmi : IntKind.i64.wrap (m : Int) = (m : Int) := wrap_nat m (by omega)
            have hmb : m ≤ 16777216 := by omega
            have hm0 : (0 : Int) ≤ (m : Int) := by omega
            have hm2' : m < m + 1 := by omega
            have HM2 := hide hm2
            clear hm2 hm1 hM HL
            generalize stC M m = z at g3 HM2
            by_cases hzy : own = z
            · have hd : (own != z) = false := by simp [hzy]
              have HK := hide (show mergeTo (redList l x y n) (k + 1) = M from by rw [HT.out, if_neg]; rw [not_or, Decidable.not_not]; exact ⟨hk0, by rw [HC.out, ← HM2.out, hzy]⟩)
              clear hzy HT HLL
              go_wp2
              go_roundw
              case rel => exact ⟨k + 1, _, c1, by omega, by go_num, by rw [HK.out, HM1.out], by rw [HK.out, HM1.out]; exact hO2, hB2⟩
              case measure => simp [intOf]; omega
            · have hd : (own != z) = true := by simp [hzy]
              have HK := hide (show mergeTo (redList l x y n) (k + 1) = M ++ [((k : Int), own)] from by rw [HT.out, if_pos (.inr (by rw [HC.out, ← HM2.out]; exact hzy))])
              clear hzy HT HLL
              go_wp2_with (at_builtin; go_must (refine wpList_push _ (.tmp 71) (.tmp 75) 40 66 _ 2 16 Tryd.underlying40 Tryd.infoSt rfl (by omega) w.heap.size _ (some ⟨g, 0, none⟩) (m + 1) c1 _ (hO2.alloc _) w2.heap.size 0 1 1 [.int .i64 k, .int .i64 own] rfl (two_new _ _ _ _) (two_cell rfl rfl) (by omega) (by omega) (by simp; omega) w.heap.size w (hB2.alloc hs2 _) (Nat.le_refl _) ?_ rfl rfl rfl rfl))
              intro A' c' w' hO' hB' hs' _
              clear hO2 hB2
              go_wp2
              go_roundw
              case rel => exact ⟨k + 1, A', c', by omega, by go_num, by rw [HK.out]; simp [HM1.out], hO'.eqn (by rw [HK.out]; simp [HM1.out]) (by rw [HK.out, flatSt_app]; rfl), hB'⟩
              case measure => simp [intOf]; omega
    · obtain rfl : k = 61 := by omega
      have HML := hide (mergeTo_len (redList l x y n) 61)
      have HD : Hid (redOut l x y n = mergeTo (redList l x y n) 61) := rfl
      rw [← HD.out] at hO HML ⊢
      clear HD
      have hm8 : (redOut l x y n).length ≤ 61 := HML.out
      by_cases h8 : (redOut l x y n).length ≤ 8
      · have HK := hide (redM_yes HOK.out h8)
        go_wp2
        go_ret2
        exact ⟨_, _, by rw [HK.out]; rfl, by rw [HK.out]; exact hO, hBr⟩
      · have HK := hide (redM_no h8)
        go_wp2
        go_ret2
        exact ⟨_, _, by rw [HK.out]; rfl, by rw [HK.out]; exact OwnR.empty _ _ _ _ _, hBr⟩
end Go.Proofs.YtebfijjcmmlbjaaDoor
