/- More functions on steps: equality, the capacity at a time, over a span. -/
import Derived.Test.YtebfijjcmmlbjaaDoorKit
import Derived.Test.YtebfijjcmmlbjaaDoorPlain
import Derived.Test.YtebfijjcmmlbjaaDoorPlainSt
import Derived.Test.YtebfijjcmmlbjaaDoorSets
import Derived.Test.YtebfijjcmmlbjaaDoorSteps
namespace Go.Proofs.YtebfijjcmmlbjaaDoor
open Go.ChangeShapes Go.WideShapes Go.ChangeAt Go.RowKit
set_option linter.unusedVariables false

set_option maxHeartbeats 1600000 in
theorem slicesEqualSt_any (A B : Option Addr) (xs ys : List (Int × Int)) (c d lo hi lo' hi' : Nat) (w : World) (hx : xs.length ≤ 16777216) (ha : RdSt w lo hi A xs) (hb : RdSt w lo' hi' B ys) :
    Calls Tryd.prog 41 #[.slice A xs.length c, .slice B ys.length d] w fun e w' => e = .returned (.bool (decide (xs = ys))) ∧ Qt w w' := by
  by_cases hl : xs.length = ys.length
  · have hne : ((xs.length : Int) != (ys.length : Int)) = false := by simp [hl]
    have HL := hide hl; clear hl
    go_enter Tryd.func41, Tryd.ntmps41
    go_wp2
    go_loopw [13] (fun i wr => ∃ k : Nat, k ≤ xs.length ∧ i = .int .i64 k ∧ Qt w wr ∧ Hid (xs.take k = ys.take k)) (fun i _ => xs.length - (intOf i).toNat)
    case atStart => exact ⟨0, Nat.zero_le _, rfl, Qt.refl _, hide (by simp)⟩
    case round =>
      obtain ⟨k, hk, rfl, ⟨n, rfl⟩, HT⟩ := hrel
      clear hne
      by_cases hlt : k < xs.length
      · obtain ⟨b, off, rfl, h1, h2, hc⟩ := ha (by omega)
        obtain ⟨b', off', rfl, h1', h2', hc'⟩ := hb (by have := HL.out; omega)
        have hlt' : k < ys.length := by have := HL.out; omega
        obtain ⟨g1, g2⟩ := hc k hlt
        obtain ⟨g3, g4⟩ := hc' k hlt'
        clear hc hc' ha hb
        generalize hX : xs.getD k (0, 0) = X at g1 g2
        generalize hY : ys.getD k (0, 0) = Y at g3 g4
        have HX := hide hX; have HY := hide hY; clear hX hY
        obtain ⟨x1, x2⟩ := X
        obtain ⟨y1, y2⟩ := Y
        simp only at g1 g2 g3 g4
        by_cases hxy : x1 = y1 ∧ x2 = y2
        · have hd1 : (x1 == y1) = true := by simp [hxy.1]
          have hd2 : (x2 == y2) = true := by simp [hxy.2]
          have HXY := hide hxy; clear hxy
          go_wp2_with fail
          go_quiet (fail)
          go_wp2
          go_roundw
          case rel => exact ⟨k + 1, by omega, by go_num, (by repeat (first | exact Qt.refl _ | apply Qt.drewN | apply Qt.drew)), hide (take_succ_eq HT.out hlt hlt' (by rw [HX.out, HY.out, HXY.out.1, HXY.out.2]))⟩
          case measure => simp [intOf]; omega
        · have hfin : false = decide (xs = ys) := by
            symm
            rw [decide_eq_false_iff_not]
            intro e
            apply hxy
            have h3 : (x1, x2) = (y1, y2) := by rw [← HX.out, ← HY.out, e]
            simpa using h3
          have HF := hide hfin; clear hfin
          by_cases hx1 : x1 = y1
          · have hd1 : (x1 == y1) = true := by simp [hx1]
            have hd2 : (x2 == y2) = false := by simp; exact fun e => hxy ⟨hx1, e⟩
            clear hxy hx1
            go_wp2_with fail
            go_quiet (fail)
            go_wp2
            go_ret
            exact ⟨ret_bool HF.out, (by repeat (first | exact Qt.refl _ | apply Qt.drewN | apply Qt.drew))⟩
          · have hd1 : (x1 == y1) = false := by simp [hx1]
            clear hxy hx1
            go_wp2_with fail
            go_quiet (fail)
            go_wp2
            go_ret
            exact ⟨ret_bool HF.out, (by repeat (first | exact Qt.refl _ | apply Qt.drewN | apply Qt.drew))⟩
      · go_wp2
        go_ret
        have hl := HL.out
        have ht := HT.out
        rw [List.take_of_length_le (by omega), List.take_of_length_le (by omega)] at ht
        exact ⟨ret_bool (by simp [ht]), ⟨_, rfl⟩⟩
  · have hne : ((xs.length : Int) != (ys.length : Int)) = true := by simp; omega
    have HL := hide hl; clear hl
    go_enter Tryd.func41, Tryd.ntmps41
    go_wp2
    go_ret
    exact ⟨ret_bool (by rw [eq_comm, decide_eq_false]; intro h; exact HL.out (by rw [h])), Qt.refl _⟩
theorem implStepsEqual_any (A B : Option Addr) (xs ys : List (Int × Int)) (c d lo hi lo' hi' : Nat) (w : World) (hx : xs.length ≤ 16777216) (ha : RdSt w lo hi A xs) (hb : RdSt w lo' hi' B ys) :
    Calls Tryd.prog 23 #[.slice A xs.length c, .slice B ys.length d] w fun e w' => e = .returned (.bool (decide (xs = ys))) ∧ Qt w w' := by
  go_enter Tryd.func23, Tryd.ntmps23
  go_wp2_with fail
  refine (slicesEqualSt_any A B xs ys c d lo hi lo' hi' _ hx ha hb).mono ?_
  rintro e w1 ⟨rfl, ⟨d', rfl⟩⟩
  go_wp2
  go_ret
  exact ⟨rfl, ⟨_, rfl⟩⟩
set_option maxHeartbeats 1600000 in
theorem capacityAt_any (A : Option Addr) (l : List (Int × Int)) (c lo hi : Nat) (t : Int) (w : World) (hl : l.length ≤ 16777216) (ha : RdSt w lo hi A l) (hhi : hi ≤ w.heap.size) :
    Calls Tryd.prog 38 #[.slice A l.length c, .int .i64 t] w fun e w' => e = .returned (.int .i64 (capF l t)) ∧ Below w.heap.size w w' := by
  go_enter Tryd.func38, Tryd.ntmps38
  go_wp2
  go_loopw [5, 10] (fun v i wr => ∃ k : Nat, k ≤ l.length ∧ i = .int .i64 k ∧ v = .int .i64 (capF (l.take k) t) ∧ Below w.heap.size w wr) (fun _ i _ => l.length - (intOf i).toNat)
  case atStart => exact ⟨0, Nat.zero_le _, rfl, by rw [List.take_zero, capF_zero], Below.refl _ _⟩
  case round =>
    obtain ⟨k, hk, rfl, rfl, hB⟩ := hrel
    by_cases hlt : k < l.length
    · obtain ⟨b, off, rfl, h1, h2, hc⟩ := ha (by omega)
      obtain ⟨hc1, hc2⟩ := hc k hlt
      have hbb : b < w.heap.size := by omega
      have g1 := (hB.cell (p := ⟨b, off + k * 2, none⟩) hbb).trans hc1
      have g2 := (hB.cell (p := ⟨b, off + k * 2 + 1, none⟩) hbb).trans hc2
      have hsz := hB.size
      have HX := hide (capF_succ t hlt)
      unfold stA stC at HX
      clear hc hc1 hc2 ha
      generalize l.getD k (0, 0) = X at g1 g2 HX
      obtain ⟨x, y⟩ := X
      simp only at g1 g2 HX
      generalize capF (l.take k) t = N at HX
      by_cases ht : x ≤ t
      · have HT := hide ht
        go_wp2
        go_roundw
        case rel => exact ⟨k + 1, by omega, by go_num, val_int (by rw [HX.out, if_pos HT.out]), hB.alloc hsz _⟩
        case measure => simp [intOf]; omega
      · have HT := hide ht
        go_wp2
        go_roundw
        case rel => exact ⟨k + 1, by omega, by go_num, val_int (by rw [HX.out, if_neg HT.out]), hB.alloc hsz _⟩
        case measure => simp [intOf]; omega
    · go_wp2
      go_ret
      exact ⟨ret_int (by rw [List.take_of_length_le (by omega)]), hB⟩
set_option maxHeartbeats 1600000 in
theorem implCapacityAt_any (A : Option Addr) (l : List (Int × Int)) (c lo hi : Nat) (t : Int) (w : World) (hl : l.length ≤ 16777216) (ha : RdSt w lo hi A l) (hhi : hi ≤ w.heap.size) :
    Calls Tryd.prog 25 #[.slice A l.length c, .int .i64 t] w fun e w' => e = .returned (.int .i64 (capAtM l t)) ∧ Below w.heap.size w w' := by
  have HM := hide (show capAtM l t = if stOkB l = true ∧ (0 ≤ t ∧ t ≤ 60) then capF l t else 0 from rfl)
  go_enter Tryd.func25, Tryd.ntmps25
  go_wp2_with fail
  refine (implStepsOk_any A l c lo hi _ hl ha hhi).mono ?_
  rintro e w1 ⟨rfl, hB⟩
  have ha1 := ha.below hB hhi
  have hs1 := hB.size
  cases hok : stOkB l
  · have HK := hide hok; clear hok
    go_wp2
    go_ret
    exact ⟨ret_int (by rw [HM.out, HK.out]; simp), hB⟩
  · have HK := hide hok; clear hok
    by_cases ht : 0 ≤ t ∧ t ≤ 60
    · go_wp2_with fail
      refine (isTime_yes _ ht).mono ?_
      rintro e w2 ⟨rfl, rfl⟩
      go_wp2_with fail
      refine (capacityAt_any A l c lo hi t _ hl ha1 (by omega)).mono ?_
      rintro e w2 ⟨rfl, hB2⟩
      go_wp2
      go_ret
      exact ⟨ret_int (by rw [HM.out, HK.out, if_pos ⟨rfl, ht⟩]), hB.trans (hB2.mono hs1)⟩
    · go_wp2_with fail
      refine (isTime_no _ ht).mono ?_
      rintro e w2 ⟨rfl, rfl⟩
      go_wp2
      go_ret
      exact ⟨ret_int (by rw [HM.out, if_neg (fun h => ht h.2)]), hB⟩
end Go.Proofs.YtebfijjcmmlbjaaDoor
