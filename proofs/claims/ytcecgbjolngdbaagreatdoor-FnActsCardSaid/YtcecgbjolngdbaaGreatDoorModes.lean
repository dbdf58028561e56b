/- The functions on modes: what they compute. -/
import Derived.Test.YtcecgbjolngdbaaGreatDoorKit
import Derived.Test.YtcecgbjolngdbaaGreatDoorPlain
import Derived.Test.YtcecgbjolngdbaaGreatDoorPlainMd
import Derived.Test.YtcecgbjolngdbaaGreatDoorSets
import Derived.Test.YtcecgbjolngdbaaGreatDoorSteps
namespace Go.Proofs.YtcecgbjolngdbaaGreatDoor
open Go.ChangeShapes Go.WideShapes Go.ChangeAt Go.RowKit
set_option linter.unusedVariables false

set_option maxHeartbeats 1600000 in
theorem l04Nums_any (A : Option Addr) (l : List Int) (c lo hi : Nat) (n : Int) (w : World) (hl : l.length ≤ 16777216) (ha : RdI w lo hi A l) :
    Calls Tryz.prog 173 #[.slice A l.length c, .int .i64 n] w fun e w' => e = .returned (.bool (amtsB l n)) ∧ Qt w w' := by
  go_enter Tryz.func173, Tryz.ntmps173
  go_wp2
  go_loopw [9] (fun i wr => ∃ k : Nat, k ≤ l.length ∧ i = .int .i64 k ∧ Qt w wr ∧ Hid ((l.take k).all amtB = true)) (fun i _ => l.length - (intOf i).toNat)
  case atStart => exact ⟨0, Nat.zero_le _, rfl, Qt.refl _, hide (by simp)⟩
  case round =>
    obtain ⟨k, hk, rfl, ⟨d, rfl⟩, H⟩ := hrel
    by_cases hlt : k < l.length
    · obtain ⟨b, off, rfl, h1, h2, hc⟩ := ha (by omega)
      have g1 := hc k hlt
      clear hc ha
      generalize hX : l.getD k 0 = X at g1
      have HX := hide hX; clear hX
      by_cases hx : 0 ≤ X ∧ X ≤ 20
      · have HA := hide (show amtB X = true from decide_eq_true hx)
        go_wp2_with fail
        refine (l01In_yes _ hx).mono ?_
        rintro e w1 ⟨rfl, rfl⟩
        go_wp2
        go_roundw
        case rel => exact ⟨k + 1, by omega, by go_num, ⟨_, rfl⟩, hide (all_step H.out hlt (by rw [HX.out]; exact HA.out))⟩
        case measure => simp [intOf]; omega
      · have HA := hide (show amtB X = false from decide_eq_false hx)
        go_wp2_with fail
        refine (l01In_no _ hx).mono ?_
        rintro e w1 ⟨rfl, rfl⟩
        go_wp2
        go_ret
        exact ⟨ret_bool (amts_no hlt (by rw [HX.out]; exact HA.out)), ⟨_, rfl⟩⟩
    · have HE := hide (amts_end (n := n) (show l.length ≤ k from by omega) H.out)
      by_cases hn : (l.length : Int) = n
      · have hd : ((l.length : Int) == n) = true := by simp [hn]
        have HN := hide hn; clear hn
        go_wp2
        go_ret
        exact ⟨ret_bool (by rw [← HE.out, decide_eq_true HN.out]), ⟨_, rfl⟩⟩
      · have hd : ((l.length : Int) == n) = false := by simp [hn]
        have HN := hide hn; clear hn
        go_wp2
        go_ret
        exact ⟨ret_bool (by rw [← HE.out, decide_eq_false HN.out]), ⟨_, rfl⟩⟩
set_option maxHeartbeats 1600000 in
theorem areAmounts_any (A : Option Addr) (l : List Int) (c lo hi : Nat) (n : Int) (w : World) (hl : l.length ≤ 16777216) (ha : RdI w lo hi A l) :
    Calls Tryz.prog 86 #[.slice A l.length c, .int .i64 n] w fun e w' => e = .returned (.bool (amtsB l n)) ∧ Qt w w' := by
  go_enter Tryz.func86, Tryz.ntmps86
  go_wp2
  go_loopw [9] (fun i wr => ∃ k : Nat, k ≤ l.length ∧ i = .int .i64 k ∧ Qt w wr ∧ Hid ((l.take k).all amtB = true)) (fun i _ => l.length - (intOf i).toNat)
  case atStart => exact ⟨0, Nat.zero_le _, rfl, Qt.refl _, hide (by simp)⟩
  case round =>
    obtain ⟨k, hk, rfl, ⟨d, rfl⟩, H⟩ := hrel
    by_cases hlt : k < l.length
    · obtain ⟨b, off, rfl, h1, h2, hc⟩ := ha (by omega)
      have g1 := hc k hlt
      clear hc ha
      generalize hX : l.getD k 0 = X at g1
      have HX := hide hX; clear hX
      by_cases hx : 0 ≤ X ∧ X ≤ 20
      · have HA := hide (show amtB X = true from decide_eq_true hx)
        go_wp2_with fail
        refine (isAmount_yes _ hx).mono ?_
        rintro e w1 ⟨rfl, rfl⟩
        go_wp2
        go_roundw
        case rel => exact ⟨k + 1, by omega, by go_num, ⟨_, rfl⟩, hide (all_step H.out hlt (by rw [HX.out]; exact HA.out))⟩
        case measure => simp [intOf]; omega
      · have HA := hide (show amtB X = false from decide_eq_false hx)
        go_wp2_with fail
        refine (isAmount_no _ hx).mono ?_
        rintro e w1 ⟨rfl, rfl⟩
        go_wp2
        go_ret
        exact ⟨ret_bool (amts_no hlt (by rw [HX.out]; exact HA.out)), ⟨_, rfl⟩⟩
    · have HE := hide (amts_end (n := n) (show l.length ≤ k from by omega) H.out)
      by_cases hn : (l.length : Int) = n
      · have hd : ((l.length : Int) == n) = true := by simp [hn]
        have HN := hide hn; clear hn
        go_wp2
        go_ret
        exact ⟨ret_bool (by rw [← HE.out, decide_eq_true HN.out]), ⟨_, rfl⟩⟩
      · have hd : ((l.length : Int) == n) = false := by simp [hn]
        have HN := hide hn; clear hn
        go_wp2
        go_ret
        exact ⟨ret_bool (by rw [← HE.out, decide_eq_false HN.out]), ⟨_, rfl⟩⟩
set_option maxHeartbeats 1600000 in
theorem specModeOk_any (U C : Option Addr) (m : Md) (cu cc lo hi : Nat) (r s : Int) (w : World) (hu : m.use.length ≤ 16777216) (hc : m.con.length ≤ 16777216) (fu : RdI w lo hi U m.use) (fc : RdI w lo hi C m.con) (hhi : hi ≤ w.heap.size) :
    Calls Tryz.prog 146 #[.agg #[.int .i64 m.dur, .slice U m.use.length cu, .slice C m.con.length cc], .int .i64 r, .int .i64 s] w fun e w' => e = .returned (.bool (mdOkB m r s)) ∧ Below w.heap.size w w' := by
  have HM := hide (show mdOkB m r s = (decide (1 ≤ m.dur ∧ m.dur ≤ 12) && amtsB m.use r && amtsB m.con s) from rfl)
  have hB : ∀ o, Below w.heap.size w (w.alloc o) := fun o => (Below.refl _ _).alloc (Nat.le_refl _) _
  have fu1 : ∀ o, RdI (w.alloc o) lo hi U m.use := fun o => fu.below (hB o) hhi
  have fc1 : ∀ o, RdI (w.alloc o) lo hi C m.con := fun o => fc.below (hB o) hhi
  have HB := hide hB; clear hB
  have HU := hide fu1; clear fu1 fu
  have HC := hide fc1; clear fc1 fc
  by_cases hd : 1 ≤ m.dur ∧ m.dur ≤ 12
  · have HD := hide (decide_eq_true hd)
    go_enter Tryz.func146, Tryz.ntmps146
    go_wp2_with fail
    refine (l01In_yes _ hd).mono ?_
    rintro e w1 ⟨rfl, rfl⟩
    go_wp2_with fail
    refine (l04Nums_any U m.use cu lo hi r _ hu (HU.out _)).mono ?_
    rintro e w1 ⟨rfl, ⟨d, rfl⟩⟩
    cases h1 : amtsB m.use r
    · have H1 := hide h1; clear h1
      go_wp2
      go_ret
      exact ⟨ret_bool (by rw [HM.out, H1.out]; simp), below_quiet (HB.out _) _⟩
    · have H1 := hide h1; clear h1
      go_wp2_with fail
      refine (l04Nums_any C m.con cc lo hi s _ hc (by exact HC.out _)).mono ?_
      rintro e w1 ⟨rfl, ⟨d2, rfl⟩⟩
      have HF := hide (show amtsB m.con s = mdOkB m r s from by rw [HM.out, HD.out, H1.out]; rfl)
      rw [HF.out]
      go_wp2
      go_ret
      exact ⟨rfl, (by first | exact below_quiet (HB.out _) _ | exact below_quiet (below_quiet (HB.out _) _) _)⟩
  · have HD := hide (decide_eq_false hd)
    go_enter Tryz.func146, Tryz.ntmps146
    go_wp2_with fail
    refine (l01In_no _ hd).mono ?_
    rintro e w1 ⟨rfl, rfl⟩
    go_wp2
    go_ret
    exact ⟨ret_bool (by rw [HM.out, HD.out]; simp), HB.out _⟩
set_option maxHeartbeats 1600000 in
theorem implModeOk_any (U C : Option Addr) (m : Md) (cu cc lo hi : Nat) (r s : Int) (w : World) (hu : m.use.length ≤ 16777216) (hc : m.con.length ≤ 16777216) (fu : RdI w lo hi U m.use) (fc : RdI w lo hi C m.con) (hhi : hi ≤ w.heap.size) :
    Calls Tryz.prog 23 #[.agg #[.int .i64 m.dur, .slice U m.use.length cu, .slice C m.con.length cc], .int .i64 r, .int .i64 s] w fun e w' => e = .returned (.bool (mdOkB m r s)) ∧ Below w.heap.size w w' := by
  have HM := hide (show mdOkB m r s = (decide (1 ≤ m.dur ∧ m.dur ≤ 12) && amtsB m.use r && amtsB m.con s) from rfl)
  have hB : ∀ o, Below w.heap.size w (w.alloc o) := fun o => (Below.refl _ _).alloc (Nat.le_refl _) _
  have fu1 : ∀ o, RdI (w.alloc o) lo hi U m.use := fun o => fu.below (hB o) hhi
  have fc1 : ∀ o, RdI (w.alloc o) lo hi C m.con := fun o => fc.below (hB o) hhi
  have HB := hide hB; clear hB
  have HU := hide fu1; clear fu1 fu
  have HC := hide fc1; clear fc1 fc
  by_cases hd : 1 ≤ m.dur ∧ m.dur ≤ 12
  · have HD := hide (decide_eq_true hd)
    go_enter Tryz.func23, Tryz.ntmps23
    go_wp2_with fail
    refine (within_yes _ hd).mono ?_
    rintro e w1 ⟨rfl, rfl⟩
    go_wp2_with fail
    refine (areAmounts_any U m.use cu lo hi r _ hu (HU.out _)).mono ?_
    rintro e w1 ⟨rfl, ⟨d, rfl⟩⟩
    cases h1 : amtsB m.use r
    · have H1 := hide h1; clear h1
      go_wp2
      go_ret
      exact ⟨ret_bool (by rw [HM.out, H1.out]; simp), below_quiet (HB.out _) _⟩
    · have H1 := hide h1; clear h1
      go_wp2_with fail
      refine (areAmounts_any C m.con cc lo hi s _ hc (by exact HC.out _)).mono ?_
      rintro e w1 ⟨rfl, ⟨d2, rfl⟩⟩
      have HF := hide (show amtsB m.con s = mdOkB m r s from by rw [HM.out, HD.out, H1.out]; rfl)
      rw [HF.out]
      go_wp2
      go_ret
      exact ⟨rfl, (by first | exact below_quiet (HB.out _) _ | exact below_quiet (below_quiet (HB.out _) _) _)⟩
  · have HD := hide (decide_eq_false hd)
    go_enter Tryz.func23, Tryz.ntmps23
    go_wp2_with fail
    refine (within_no _ hd).mono ?_
    rintro e w1 ⟨rfl, rfl⟩
    go_wp2
    go_ret
    exact ⟨ret_bool (by rw [HM.out, HD.out]; simp), HB.out _⟩
end Go.Proofs.YtcecgbjolngdbaaGreatDoor
