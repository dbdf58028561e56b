/- Capacities over a span. -/
import Derived.Test.YtebfijjcmmlbjaaDoorKit
import Derived.Test.YtebfijjcmmlbjaaDoorPlain
import Derived.Test.YtebfijjcmmlbjaaDoorPlainSt
import Derived.Test.YtebfijjcmmlbjaaDoorSets
import Derived.Test.YtebfijjcmmlbjaaDoorSteps2
namespace Go.Proofs.YtebfijjcmmlbjaaDoor
open Go.ChangeShapes Go.WideShapes Go.ChangeAt Go.RowKit
set_option linter.unusedVariables false

theorem span_out {l : List (Int × Int)} {x y : Int} (h : spanB l x y = true) : stOkB l = true ∧ (0 ≤ x ∧ x ≤ 60) ∧ (0 ≤ y ∧ y ≤ 60) := by
  unfold spanB at h
  rw [Bool.and_eq_true, Bool.and_eq_true, decide_eq_true_eq, decide_eq_true_eq] at h
  exact ⟨h.1.1, h.1.2, h.2⟩
theorem span_in {l : List (Int × Int)} {x y : Int} (h : stOkB l = true) (hx : 0 ≤ x ∧ x ≤ 60) (hy : 0 ≤ y ∧ y ≤ 60) : spanB l x y = true := by
  unfold spanB
  rw [h, decide_eq_true hx, decide_eq_true hy]
  rfl
set_option maxHeartbeats 1600000 in
theorem implMinCapacity_any (A : Option Addr) (l : List (Int × Int)) (c lo hi : Nat) (x y : Int) (w : World) (hl : l.length ≤ 16777216) (ha : RdSt w lo hi A l) (hhi : hi ≤ w.heap.size) :
    Calls Tryd.prog 18 #[.slice A l.length c, .int .i64 x, .int .i64 y] w fun e w' => e = .returned (.int .i64 (minCap l x y)) ∧ Below w.heap.size w w' := by
  have HM := hide (show minCap l x y = if spanB l x y = true then minTo l x (y - x).toNat else 0 from rfl)
  have HSP := hide (show spanB l x y = (stOkB l && decide (0 ≤ x ∧ x ≤ 60) && decide (0 ≤ y ∧ y ≤ 60)) from rfl)
  go_enter Tryd.func18, Tryd.ntmps18
  go_wp2_with fail
  refine (implStepsOk_any A l c lo hi _ hl ha hhi).mono ?_
  rintro e w1 ⟨rfl, hB⟩
  cases hok : stOkB l
  · have HK := hide hok; clear hok
    go_wp2
    go_ret
    exact ⟨ret_int (by rw [HM.out, HSP.out, HK.out]; simp), hB⟩
  · have HK0 := hide hok; clear hok
    by_cases hx : 0 ≤ x ∧ x ≤ 60
    · go_wp2_with fail
      refine (isTime_yes _ hx).mono ?_
      rintro e w2 ⟨rfl, rfl⟩
      by_cases hy : 0 ≤ y ∧ y ≤ 60
      case neg =>
        go_wp2_with fail
        refine (isTime_no _ hy).mono ?_
        rintro e w2 ⟨rfl, rfl⟩
        go_wp2
        go_ret
        exact ⟨ret_int (by rw [HM.out, HSP.out, HK0.out, decide_eq_true hx, decide_eq_false hy]; simp), hB⟩
      go_wp2_with fail
      refine (isTime_yes _ hy).mono ?_
      rintro e w2 ⟨rfl, rfl⟩
      have HS := hide (span_in HK0.out hx hy)
      clear hx hy HSP
      obtain ⟨hok, hx, hy⟩ := span_out HS.out
      have HK := hide hok; clear hok
      go_wp2_with fail
      go_loopw [7, 8] (fun v i wr => ∃ k : Nat, (k = 0 ∨ x + k ≤ y) ∧ i = .int .i64 (x + k) ∧ v = .int .i64 (minTo l x k) ∧ Below w.heap.size w wr) (fun _ i _ => (y - intOf i).toNat)
      case atStart => exact ⟨0, .inl rfl, val_int (by omega), by simp [minTo], hB⟩
      case round =>
        obtain ⟨k, hk, rfl, rfl, hBr⟩ := hrel
        have hsz := hBr.size
        have har := ha.below hBr hhi
        by_cases hlt : x + k < y
        · have hb1 := minTo_bd HK.out x k
          have hb2 := capF_bd HK.out (x + k)
          have HT := hide (minTo_succ l x k)
          generalize minTo l x k = S at hb1 HT
          go_wp2_with fail
          refine (capacityAt_any A l c lo hi (x + k) _ hl har (by omega)).mono ?_
          rintro e w2 ⟨rfl, hB2⟩
          generalize capF l (x + k) = C at hb2 HT
          have hB3 := hBr.trans (hB2.mono hsz)
          clear hB2 hBr har
          go_wp2
          go_roundw
          case rel => exact ⟨k + 1, .inr (by omega), val_int (by omega), val_int (by rw [HT.out]; first | omega | (split <;> omega)), hB3⟩
          case measure => simp [intOf]; omega
        · go_wp2
          go_ret
          refine ⟨ret_int ?_, hBr⟩
          rw [HM.out, if_pos HS.out]
          have e : (y - x).toNat = k := by omega
          rw [e]
    · go_wp2_with fail
      refine (isTime_no _ hx).mono ?_
      rintro e w2 ⟨rfl, rfl⟩
      go_wp2
      go_ret
      exact ⟨ret_int (by rw [HM.out, HSP.out, HK0.out, decide_eq_false hx]; simp), hB⟩
set_option maxHeartbeats 1600000 in
theorem implTotalCapacity_any (A : Option Addr) (l : List (Int × Int)) (c lo hi : Nat) (x y : Int) (w : World) (hl : l.length ≤ 16777216) (ha : RdSt w lo hi A l) (hhi : hi ≤ w.heap.size) :
    Calls Tryd.prog 24 #[.slice A l.length c, .int .i64 x, .int .i64 y] w fun e w' => e = .returned (.int .i64 (totCap l x y)) ∧ Below w.heap.size w w' := by
  have HM := hide (show totCap l x y = if spanB l x y = true then sumTo l x (y - x).toNat else 0 from rfl)
  have HSP := hide (show spanB l x y = (stOkB l && decide (0 ≤ x ∧ x ≤ 60) && decide (0 ≤ y ∧ y ≤ 60)) from rfl)
  go_enter Tryd.func24, Tryd.ntmps24
  go_wp2_with fail
  refine (implStepsOk_any A l c lo hi _ hl ha hhi).mono ?_
  rintro e w1 ⟨rfl, hB⟩
  cases hok : stOkB l
  · have HK := hide hok; clear hok
    go_wp2
    go_ret
    exact ⟨ret_int (by rw [HM.out, HSP.out, HK.out]; simp), hB⟩
  · have HK0 := hide hok; clear hok
    by_cases hx : 0 ≤ x ∧ x ≤ 60
    · go_wp2_with fail
      refine (isTime_yes _ hx).mono ?_
      rintro e w2 ⟨rfl, rfl⟩
      by_cases hy : 0 ≤ y ∧ y ≤ 60
      case neg =>
        go_wp2_with fail
        refine (isTime_no _ hy).mono ?_
        rintro e w2 ⟨rfl, rfl⟩
        go_wp2
        go_ret
        exact ⟨ret_int (by rw [HM.out, HSP.out, HK0.out, decide_eq_true hx, decide_eq_false hy]; simp), hB⟩
      go_wp2_with fail
      refine (isTime_yes _ hy).mono ?_
      rintro e w2 ⟨rfl, rfl⟩
      have HS := hide (span_in HK0.out hx hy)
      clear hx hy HSP
      obtain ⟨hok, hx, hy⟩ := span_out HS.out
      have HK := hide hok; clear hok
      go_wp2_with fail
      go_loopw [7, 8] (fun v i wr => ∃ k : Nat, (k = 0 ∨ x + k ≤ y) ∧ i = .int .i64 (x + k) ∧ v = .int .i64 (sumTo l x k) ∧ Below w.heap.size w wr) (fun _ i _ => (y - intOf i).toNat)
      case atStart => exact ⟨0, .inl rfl, val_int (by omega), by simp [sumTo], hB⟩
      case round =>
        obtain ⟨k, hk, rfl, rfl, hBr⟩ := hrel
        have hsz := hBr.size
        have har := ha.below hBr hhi
        by_cases hlt : x + k < y
        · have hb1 := sumTo_bd HK.out x k
          have hb2 := capF_bd HK.out (x + k)
          have HT := hide (sumTo_succ l x k)
          generalize sumTo l x k = S at hb1 HT
          go_wp2_with fail
          refine (capacityAt_any A l c lo hi (x + k) _ hl har (by omega)).mono ?_
          rintro e w2 ⟨rfl, hB2⟩
          generalize capF l (x + k) = C at hb2 HT
          have hB3 := hBr.trans (hB2.mono hsz)
          clear hB2 hBr har
          go_wp2
          go_roundw
          case rel => exact ⟨k + 1, .inr (by omega), val_int (by omega), val_int HT.out.symm, hB3⟩
          case measure => simp [intOf]; omega
        · go_wp2
          go_ret
          refine ⟨ret_int ?_, hBr⟩
          rw [HM.out, if_pos HS.out]
          have e : (y - x).toNat = k := by omega
          rw [e]
    · go_wp2_with fail
      refine (isTime_no _ hx).mono ?_
      rintro e w2 ⟨rfl, rfl⟩
      go_wp2
      go_ret
      exact ⟨ret_int (by rw [HM.out, HSP.out, HK0.out, decide_eq_false hx]; simp), hB⟩
end Go.Proofs.YtebfijjcmmlbjaaDoor
