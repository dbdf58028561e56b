/- The functions on sets of integers: what they compute. -/
import Derived.Test.YtebfijjcmmlbjaaDoorKit
import Derived.Test.YtebfijjcmmlbjaaDoorPlain
import Derived.Test.YtebfijjcmmlbjaaDoorLaw
namespace Go.Proofs.YtebfijjcmmlbjaaDoor
open Go.ChangeShapes Go.WideShapes Go.ChangeAt Go.RowKit
set_option linter.unusedVariables false

theorem within_any (n lo hi : Int) (w : World) :
    Calls Tryd.prog 31 #[.int .i64 n, .int .i64 lo, .int .i64 hi] w fun e w' => e = .returned (.bool (decide (lo ≤ n ∧ n ≤ hi))) ∧ w = w' := by
  go_enter Tryd.func31, Tryd.ntmps31
  go_wp2
  all_goals go_ret
  all_goals exact ⟨by congr 2; simp; omega, rfl⟩
theorem within_yes {n lo hi : Int} (w : World) (h : lo ≤ n ∧ n ≤ hi) : Calls Tryd.prog 31 #[.int .i64 n, .int .i64 lo, .int .i64 hi] w fun e w' => e = .returned (.bool true) ∧ w = w' :=
  (within_any n lo hi w).mono fun _ _ ⟨he, hw⟩ => ⟨by rw [he, decide_eq_true h], hw⟩
theorem within_no {n lo hi : Int} (w : World) (h : ¬ (lo ≤ n ∧ n ≤ hi)) : Calls Tryd.prog 31 #[.int .i64 n, .int .i64 lo, .int .i64 hi] w fun e w' => e = .returned (.bool false) ∧ w = w' :=
  (within_any n lo hi w).mono fun _ _ ⟨he, hw⟩ => ⟨by rw [he, decide_eq_false h], hw⟩
set_option maxHeartbeats 800000 in
theorem specSetHas_any (A : Option Addr) (l : List Int) (c lo hi : Nat) (x : Int) (w : World) (hl : l.length ≤ 16777216) (ha : RdI w lo hi A l) :
    Calls Tryd.prog 64 #[.slice A l.length c, .int .i64 x] w fun e w' => e = .returned (.bool (hasB l x)) ∧ Qt w w' := by
  go_enter Tryd.func64, Tryd.ntmps64
  go_wp2
  go_loopw [9] (fun i wr => ∃ k : Nat, k ≤ l.length ∧ i = .int .i64 k ∧ Qt w wr ∧ Hid (x ∉ l.take k)) (fun i _ => l.length - (intOf i).toNat)
  case atStart => exact ⟨0, Nat.zero_le _, rfl, Qt.refl _, hide (by simp)⟩
  case round =>
    obtain ⟨k, hk, rfl, ⟨n, rfl⟩, H⟩ := hrel
    by_cases hlt : k < l.length
    · obtain ⟨b, off, rfl, h1, h2, hc⟩ := ha (by omega)
      have g1 := hc k hlt
      clear hc ha
      generalize hX : l.getD k 0 = X at g1
      have HX := hide hX; clear hX
      by_cases hxy : X = x
      · have hd : (X == x) = true := by simp [hxy]
        have HXY := hide hxy; clear hxy
        go_wp2
        go_ret
        exact ⟨ret_bool (has_yes hlt (HX.out.trans HXY.out)), (by repeat (first | exact Qt.refl _ | apply Qt.drewN | apply Qt.drew))⟩
      · have hd : (X == x) = false := by simp [hxy]
        go_wp2
        go_roundw
        case rel => exact ⟨k + 1, by omega, by go_num, (by repeat (first | exact Qt.refl _ | apply Qt.drewN | apply Qt.drew)), hide (has_take H.out hlt (by rw [HX.out]; exact hxy))⟩
        case measure => simp [intOf]; omega
    · go_wp2
      go_ret
      exact ⟨ret_bool (has_no H.out (by omega)), ⟨_, rfl⟩⟩
set_option maxHeartbeats 800000 in
theorem slicesEqual_any (A B : Option Addr) (xs ys : List Int) (c d lo hi lo' hi' : Nat) (w : World) (hx : xs.length ≤ 16777216) (ha : RdI w lo hi A xs) (hb : RdI w lo' hi' B ys) :
    Calls Tryd.prog 34 #[.slice A xs.length c, .slice B ys.length d] w fun e w' => e = .returned (.bool (decide (xs = ys))) ∧ Qt w w' := by
  by_cases hl : xs.length = ys.length
  · have hne : ((xs.length : Int) != (ys.length : Int)) = false := by simp [hl]
    have HL := Lib.hid hl; clear hl
    go_enter Tryd.func34, Tryd.ntmps34
    go_wp2
    go_loopw [13] (fun i wr => ∃ k : Nat, k ≤ xs.length ∧ i = .int .i64 k ∧ Qt w wr ∧ xs.take k = ys.take k) (fun i _ => xs.length - (intOf i).toNat)
    case atStart => exact ⟨0, Nat.zero_le _, rfl, Qt.refl _, by simp⟩
    case round =>
      obtain ⟨k, hk, rfl, ⟨n, rfl⟩, ht⟩ := hrel
      have HT := Lib.hid ht; clear ht hne
      by_cases hlt : k < xs.length
      · obtain ⟨b, off, rfl, h1, h2, hc⟩ := ha (by omega)
        obtain ⟨b', off', rfl, h1', h2', hc'⟩ := hb (by have := HL.out; omega)
        have hlt' : k < ys.length := by have := HL.out; omega
        have g1 := hc k hlt
        have g2 := hc' k hlt'
        clear hc hc' ha hb
        generalize hX : xs.getD k 0 = X at g1
        generalize hY : ys.getD k 0 = Y at g2
        have HX := Lib.hid hX; have HY := Lib.hid hY; clear hX hY
        by_cases hxy : X = Y
        · have hd : (X != Y) = false := by simp [hxy]
          have HXY := Lib.hid hxy; clear hxy
          go_wp2_with fail
          go_quiet (fail)
          go_wp2
          go_roundw
          case rel => exact ⟨k + 1, by omega, by go_num, (by repeat (first | exact Qt.refl _ | apply Qt.drewN | apply Qt.drew)), take_succ_eq HT.out hlt hlt' (by rw [HX.out, HY.out]; exact HXY.out)⟩
          case measure => simp [intOf]; omega
        · have hd : (X != Y) = true := by simp [hxy]
          go_wp2_with fail
          go_quiet (fail)
          go_wp2
          go_ret
          exact ⟨ret_bool (by rw [decide_eq_false]; intro h; apply hxy; rw [← HX.out, ← HY.out, h]), (by repeat (first | exact Qt.refl _ | apply Qt.drewN | apply Qt.drew))⟩
      · go_wp2
        go_ret
        have hl := HL.out
        have ht := HT.out
        rw [List.take_of_length_le (by omega), List.take_of_length_le (by omega)] at ht
        exact ⟨ret_bool (by simp [ht]), ⟨_, rfl⟩⟩
  · have hne : ((xs.length : Int) != (ys.length : Int)) = true := by simp; omega
    have HL := Lib.hid hl; clear hl
    go_enter Tryd.func34, Tryd.ntmps34
    go_wp2
    go_ret
    exact ⟨ret_bool (by rw [eq_comm, decide_eq_false]; intro h; exact HL.out (by rw [h])), Qt.refl _⟩
theorem implSetEqual_any (A B : Option Addr) (xs ys : List Int) (c d lo hi lo' hi' : Nat) (w : World) (hx : xs.length ≤ 16777216) (ha : RdI w lo hi A xs) (hb : RdI w lo' hi' B ys) :
    Calls Tryd.prog 11 #[.slice A xs.length c, .slice B ys.length d] w fun e w' => e = .returned (.bool (decide (xs = ys))) ∧ Qt w w' := by
  go_enter Tryd.func11, Tryd.ntmps11
  go_wp2_with fail
  refine (slicesEqual_any A B xs ys c d lo hi lo' hi' _ hx ha hb).mono ?_
  rintro e w1 ⟨rfl, ⟨d', rfl⟩⟩
  go_wp2
  go_ret
  exact ⟨rfl, ⟨_, rfl⟩⟩
set_option maxHeartbeats 800000 in
theorem implClampedSum_any (A : Option Addr) (l : List Int) (c lo hi : Nat) (w : World) (hl : l.length ≤ 16777216) (ha : RdI w lo hi A l) :
    Calls Tryd.prog 16 #[.slice A l.length c] w fun e w' => e = .returned (.int .i64 (clampSum l)) ∧ Qt w w' := by
  go_enter Tryd.func16, Tryd.ntmps16
  go_wp2
  go_loopw [3, 8] (fun s i wr => ∃ k : Nat, k ≤ l.length ∧ i = .int .i64 k ∧ s = .int .i64 (clampSum (l.take k)) ∧ Qt w wr) (fun _ i _ => l.length - (intOf i).toNat)
  case atStart => exact ⟨0, Nat.zero_le _, rfl, by simp [clampSum], Qt.refl _⟩
  case round =>
    obtain ⟨k, hk, rfl, rfl, ⟨n, rfl⟩⟩ := hrel
    have hbd := clampSum_bd (l.take k)
    have hlk : (l.take k).length ≤ k := by rw [List.length_take]; omega
    by_cases hlt : k < l.length
    · obtain ⟨b, off, rfl, h1, h2, hc⟩ := ha (by omega)
      have g1 := hc k hlt
      have HX := hide (clampSum_take hlt)
      clear hc ha
      generalize l.getD k 0 = X at g1 HX
      generalize clampSum (l.take k) = S at hbd HX
      have hcx := clamp_bd X
      go_wp2
      go_roundw
      case rel => exact ⟨k + 1, by omega, by go_num, val_int (by rw [clamp_ite, HX.out]), ⟨_, rfl⟩⟩
      case measure => simp [intOf]; omega
    · go_wp2
      go_ret
      exact ⟨ret_int (by rw [List.take_of_length_le (by omega)]), ⟨_, rfl⟩⟩
end Go.Proofs.YtebfijjcmmlbjaaDoor
