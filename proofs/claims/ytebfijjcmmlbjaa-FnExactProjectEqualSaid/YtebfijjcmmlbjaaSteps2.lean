/- More functions on steps: equality, the capacity at a time, over a span. -/
import Derived.Test.YtebfijjcmmlbjaaKit
import Derived.Test.YtebfijjcmmlbjaaPlain
import Derived.Test.YtebfijjcmmlbjaaPlainSt
import Derived.Test.YtebfijjcmmlbjaaSets
import Derived.Test.YtebfijjcmmlbjaaSteps
namespace Go.Proofs.Ytebfijjcmmlbjaa
open Go.ChangeShapes Go.WideShapes Go.ChangeAt Go.RowKit
set_option linter.unusedVariables false

set_option maxHeartbeats 1600000 in
theorem slicesEqualSt_any (A B : Option Addr) (xs ys : List (Int × Int)) (c d lo hi lo' hi' : Nat) (w : World) (hx : xs.length ≤ 16777216) (ha : RdSt w lo hi A xs) (hb : RdSt w lo' hi' B ys) :
    Calls Try.prog 53 #[.slice A xs.length c, .slice B ys.length d] w fun e w' => e = .returned (.bool (decide (xs = ys))) ∧ Qt w w' := by
  by_cases hl : xs.length = ys.length
  · have hne : ((xs.length : Int) != (ys.length : Int)) = false := by simp [hl]
    have HL := hide hl; clear hl
    go_enter Try.func53, Try.ntmps53
    go_wp2
    go_loopw [13] (fun i wr => ∃ k : Nat, k ≤ xs.length ∧ i = .int .i64 k ∧ Qt w wr ∧ Hid (xs.take k = ys.take k)) (fun i _ => xs.length - (intOf i).toNat)
    case atStart => exact ⟨0, Nat.zero_le _, rfl, Qt.refl _, hide (by simp)⟩
    case round =>
      obtain ⟨k, hk, rfl, ⟨n, rfl⟩, HT⟩ := hrel
      clear hne
      by_cases hlt : k < xs.length
      · obtain ⟨b, off, rfl, h1, h2, hc⟩ := ha (by omega)
        obtain ⟨b', off', rfl, h1', h2', hc'⟩ := hb (by have := HL.out; omega)
        have hlt' : k < ys.length := by have := HL.out; omega
        obtain ⟨g1, g2⟩ := hc k hlt
        obtain ⟨g3, g4⟩ := hc' k hlt'
        clear hc hc' ha hb
        generalize hX : xs.getD k (0, 0) = X at g1 g2
        generalize hY : ys.getD k (0, 0) = Y at g3 g4
        have HX := hide hX; have HY := hide hY; clear hX hY
        obtain ⟨x1, x2⟩ := X
        obtain ⟨y1, y2⟩ := Y
        simp only at g1 g2 g3 g4
        by_cases hxy : x1 = y1 ∧ x2 = y2
        · have hd1 : (x1 == y1) = true := by simp [hxy.1]
          have hd2 : (x2 == y2) = true := by simp [hxy.2]
          have HXY := hide hxy; clear hxy
          go_wp2_with fail
          go_quiet (fail)
          go_wp2
          go_roundw
          case rel => exact ⟨k + 1, by omega, by go_num, (by repeat (first | exact Qt.refl _ | apply Qt.drewN | apply Qt.drew)), hide (take_succ_eq HT.out hlt hlt' (by rw [HX.out, HY.out, HXY.out.1, HXY.out.2]))⟩
          case measure => simp [intOf]; omega
        · have hfin : false = decide (xs = ys) := by
            symm
            rw [decide_eq_false_iff_not]
            intro e
            apply hxy
            have h3 : (x1, x2) = (y1, y2) := by rw [← HX.out, ← HY.out, e]
            simpa using h3
          have HF := hide hfin; clear hfin
          by_cases hx1 : x1 = y1
          · have hd1 : (x1 == y1) = true := by simp [hx1]
            have hd2 : (x2 == y2) = false := by simp; exact fun e => hxy ⟨hx1, e⟩
            clear hxy hx1
            go_wp2_with fail
            go_quiet (fail)
            go_wp2
            go_ret
            exact ⟨ret_bool HF.out, (by repeat (first | exact Qt.refl _ | apply Qt.drewN | apply Qt.drew))⟩
          · have hd1 : (x1 == y1) = false := by simp [hx1]
            clear hxy hx1
            go_wp2_with fail
            go_quiet (fail)
            go_wp2
            go_ret
            exact ⟨ret_bool HF.out, (by repeat (first | exact Qt.refl _ | apply Qt.drewN | apply Qt.drew))⟩
      · go_wp2
        go_ret
        have hl := HL.out
        have ht := HT.out
        rw [List.take_of_length_le (by omega), List.take_of_length_le (by omega)] at ht
        exact ⟨ret_bool (by simp [ht]), ⟨_, rfl⟩⟩
  · have hne : ((xs.length : Int) != (ys.length : Int)) = true := by simp; omega
    have HL := hide hl; clear hl
    go_enter Try.func53, Try.ntmps53
    go_wp2
    go_ret
    exact ⟨ret_bool (by rw [eq_comm, decide_eq_false]; intro h; exact HL.out (by rw [h])), Qt.refl _⟩
set_option maxHeartbeats 1600000 in
theorem specStepsEqual_any (A B : Option Addr) (xs ys : List (Int × Int)) (c d lo hi lo' hi' : Nat) (w : World) (hx : xs.length ≤ 16777216) (ha : RdSt w lo hi A xs) (hb : RdSt w lo' hi' B ys) :
    Calls Try.prog 22 #[.slice A xs.length c, .slice B ys.length d] w fun e w' => e = .returned (.bool (decide (xs = ys))) ∧ Qt w w' := by
  by_cases hl : xs.length = ys.length
  · have hne : ((xs.length : Int) != (ys.length : Int)) = false := by simp [hl]
    have HL := hide hl; clear hl
    go_enter Try.func22, Try.ntmps22
    go_wp2
    go_loopw [13] (fun i wr => ∃ k : Nat, k ≤ xs.length ∧ i = .int .i64 k ∧ Qt w wr ∧ Hid (xs.take k = ys.take k)) (fun i _ => xs.length - (intOf i).toNat)
    case atStart => exact ⟨0, Nat.zero_le _, rfl, Qt.refl _, hide (by simp)⟩
    case round =>
      obtain ⟨k, hk, rfl, ⟨n, rfl⟩, HT⟩ := hrel
      clear hne
      by_cases hlt : k < xs.length
      · obtain ⟨b, off, rfl, h1, h2, hc⟩ := ha (by omega)
        obtain ⟨b', off', rfl, h1', h2', hc'⟩ := hb (by have := HL.out; omega)
        have hlt' : k < ys.length := by have := HL.out; omega
        obtain ⟨g1, g2⟩ := hc k hlt
        obtain ⟨g3, g4⟩ := hc' k hlt'
        clear hc hc' ha hb
        generalize hX : xs.getD k (0, 0) = X at g1 g2
        generalize hY : ys.getD k (0, 0) = Y at g3 g4
        have HX := hide hX; have HY := hide hY; clear hX hY
        obtain ⟨x1, x2⟩ := X
        obtain ⟨y1, y2⟩ := Y
        simp only at g1 g2 g3 g4
        by_cases hxy : x1 = y1 ∧ x2 = y2
        · have hd1 : (x1 == y1) = true := by simp [hxy.1]
          have hd2 : (x2 == y2) = true := by simp [hxy.2]
          have HXY := hide hxy; clear hxy
          go_wp2_with fail
          go_quiet (fail)
          go_wp2
          go_roundw
          case rel => exact ⟨k + 1, by omega, by go_num, (by repeat (first | exact Qt.refl _ | apply Qt.drewN | apply Qt.drew)), hide (take_succ_eq HT.out hlt hlt' (by rw [HX.out, HY.out, HXY.out.1, HXY.out.2]))⟩
          case measure => simp [intOf]; omega
        · have hfin : false = decide (xs = ys) := by
            symm
            rw [decide_eq_false_iff_not]
            intro e
            apply hxy
            have h3 : (x1, x2) = (y1, y2) := by rw [← HX.out, ← HY.out, e]
            simpa using h3
          have HF := hide hfin; clear hfin
          by_cases hx1 : x1 = y1
          · have hd1 : (x1 == y1) = true := by simp [hx1]
            have hd2 : (x2 == y2) = false := by simp; exact fun e => hxy ⟨hx1, e⟩
            clear hxy hx1
            go_wp2_with fail
            go_quiet (fail)
            go_wp2
            go_ret
            exact ⟨ret_bool HF.out, (by repeat (first | exact Qt.refl _ | apply Qt.drewN | apply Qt.drew))⟩
          · have hd1 : (x1 == y1) = false := by simp [hx1]
            clear hxy hx1
            go_wp2_with fail
            go_quiet (fail)
            go_wp2
            go_ret
            exact ⟨ret_bool HF.out, (by repeat (first | exact Qt.refl _ | apply Qt.drewN | apply Qt.drew))⟩
      · go_wp2
        go_ret
        have hl := HL.out
        have ht := HT.out
        rw [List.take_of_length_le (by omega), List.take_of_length_le (by omega)] at ht
        exact ⟨ret_bool (by simp [ht]), ⟨_, rfl⟩⟩
  · have hne : ((xs.length : Int) != (ys.length : Int)) = true := by simp; omega
    have HL := hide hl; clear hl
    go_enter Try.func22, Try.ntmps22
    go_wp2
    go_ret
    exact ⟨ret_bool (by rw [eq_comm, decide_eq_false]; intro h; exact HL.out (by rw [h])), Qt.refl _⟩
end Go.Proofs.Ytebfijjcmmlbjaa
