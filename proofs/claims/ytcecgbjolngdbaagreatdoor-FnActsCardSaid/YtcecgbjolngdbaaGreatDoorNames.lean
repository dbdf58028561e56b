/- Names that are valid. -/
import Derived.Test.YtcecgbjolngdbaaGreatDoorKit
import Derived.Test.YtcecgbjolngdbaaGreatDoorPlain
import Derived.Test.YtcecgbjolngdbaaGreatDoorSets
namespace Go.Proofs.YtcecgbjolngdbaaGreatDoor
open Go.ChangeShapes Go.WideShapes Go.ChangeAt Go.RowKit
set_option linter.unusedVariables false

set_option maxHeartbeats 1600000 in
theorem specIsName_any (s : ByteArray) (w : World) (hs : s.size ≤ 16777216) :
    Calls Tryz.prog 147 #[.string s] w fun e w' => e = .returned (.bool (isNm s)) ∧ w = w' := by
  go_enter Tryz.func147, Tryz.ntmps147
  go_wp2
  go_loop [3] (fun i => ∃ k : Nat, k ≤ s.size ∧ i = .int .i64 k ∧ Hid (∀ j, j < k → goodAt s j = true)) (fun i => s.size - (intOf i).toNat)
  case atStart => exact ⟨0, Nat.zero_le _, rfl, hide (fun j h => absurd h (by omega))⟩
  case round =>
    obtain ⟨k, hk, rfl, H⟩ := hrel
    by_cases hlt : k < s.size
    · have HG := hide (goodAt_def hlt)
      by_cases ha : 97 ≤ (s[k].toNat : Int) ∧ (s[k].toNat : Int) ≤ 122
      · obtain ⟨ha1, ha2⟩ := ha
        have hd1 : decide ((s[k].toNat : Int) ≤ 122) = true := by simpa using ha2
        go_wp2
        go_round
        case rel =>
          refine ⟨k + 1, by omega, by go_num, hide (fun j hj => ?_)⟩
          by_cases e : j = k
          · subst e; rw [HG.out]; simp [ha1, ha2]
          · exact H.out j (by omega)
        case measure => simp [intOf]; omega
      · have hlow : (decide (97 ≤ (s[k].toNat : Int)) && decide ((s[k].toNat : Int) ≤ 122)) = false := by simp; omega
        have HL := hide hlow; clear hlow
        by_cases hk0 : k = 0
        · have hfin : false = isNm s := isNm_no hlt (by rw [HG.out, HL.out]; simp [hk0])
          have HF := hide hfin; clear hfin HG HL H
          subst hk0
          by_cases h1 : 97 ≤ (s[0].toNat : Int)
          · have h2 : ¬ (s[0].toNat : Int) ≤ 122 := by omega
            have hd2 : decide ((s[0].toNat : Int) ≤ 122) = false := decide_eq_false h2
            go_wp2
            all_goals go_ret
            all_goals exact ⟨ret_bool HF.out, rfl⟩
          · have hd1 : decide (97 ≤ (s[0].toNat : Int)) = false := decide_eq_false h1
            go_wp2
            all_goals go_ret
            all_goals exact ⟨ret_bool HF.out, rfl⟩
        · have HK := hide hk0
          have hke : ((k : Int) == 0) = false := by simp; omega
          clear hk0
          by_cases hc : 48 ≤ (s[k].toNat : Int) ∧ (s[k].toNat : Int) ≤ 57
          · have h1 : ¬ 97 ≤ (s[k].toNat : Int) := by omega
            have hd1 : decide (97 ≤ (s[k].toNat : Int)) = false := decide_eq_false h1
            have hd3 : decide ((s[k].toNat : Int) < 48) = false := decide_eq_false (by omega)
            have hd4 : decide (57 < (s[k].toNat : Int)) = false := decide_eq_false (by omega)
            go_wp2
            go_round
            case rel =>
              refine ⟨k + 1, by omega, by go_num, hide (fun j hj => ?_)⟩
              by_cases e : j = k
              · subst e; rw [HG.out]; simp [HK.out, hc.1, hc.2]
              · exact H.out j (by omega)
            case measure => simp [intOf]; omega
          · have HC := hide (show (decide (48 ≤ (s[k].toNat : Int)) && decide ((s[k].toNat : Int) ≤ 57)) = false from by simp; omega)
            have hfin : false = isNm s := isNm_no hlt (by rw [HG.out, HL.out, HC.out]; simp)
            have HF := hide hfin; clear hfin
            clear HG H HL HC
            by_cases h0 : (s[k].toNat : Int) < 48
            · have hd1 : decide (97 ≤ (s[k].toNat : Int)) = false := decide_eq_false (by omega)
              have hd3 : decide ((s[k].toNat : Int) < 48) = true := decide_eq_true h0
              go_wp2
              go_ret
              exact ⟨ret_bool HF.out, rfl⟩
            · have h4 : 57 < (s[k].toNat : Int) := by omega
              have hd3 : decide ((s[k].toNat : Int) < 48) = false := decide_eq_false h0
              have hd4 : decide (57 < (s[k].toNat : Int)) = true := decide_eq_true h4
              clear hc
              by_cases h1 : 97 ≤ (s[k].toNat : Int)
              · have h2 : ¬ (s[k].toNat : Int) ≤ 122 := by omega
                have hd2 : decide ((s[k].toNat : Int) ≤ 122) = false := decide_eq_false h2
                go_wp2
                go_ret
                exact ⟨ret_bool HF.out, rfl⟩
              · have hd1 : decide (97 ≤ (s[k].toNat : Int)) = false := decide_eq_false h1
                go_wp2
                go_ret
                exact ⟨ret_bool HF.out, rfl⟩
    · have HF := hide (isNm_end (s := s) (fun j hj => H.out j (by omega)))
      clear H
      go_wp2_with fail
      refine (l01In_any _ _ _ _).mono ?_
      rintro e w1 ⟨rfl, rfl⟩
      rw [HF.out]
      go_wp2
      go_ret
      exact ⟨rfl, rfl⟩
set_option maxHeartbeats 1600000 in
theorem implIsName_any (s : ByteArray) (w : World) (hs : s.size ≤ 16777216) :
    Calls Tryz.prog 79 #[.string s] w fun e w' => e = .returned (.bool (isNm s)) ∧ w = w' := by
  go_enter Tryz.func79, Tryz.ntmps79
  go_wp2
  go_loop [7] (fun i => ∃ k : Nat, k ≤ s.size ∧ i = .int .i64 k ∧ Hid (∀ j, j < k → goodAt s j = true)) (fun i => s.size - (intOf i).toNat)
  case atStart => exact ⟨0, Nat.zero_le _, rfl, hide (fun j h => absurd h (by omega))⟩
  case round =>
    obtain ⟨k, hk, rfl, H⟩ := hrel
    by_cases hlt : k < s.size
    · have HG := hide (goodAt_def hlt)
      by_cases ha : 97 ≤ (s[k].toNat : Int) ∧ (s[k].toNat : Int) ≤ 122
      · obtain ⟨ha1, ha2⟩ := ha
        have hd1 : decide ((s[k].toNat : Int) ≤ 122) = true := by simpa using ha2
        go_wp2
        go_round
        case rel =>
          refine ⟨k + 1, by omega, by go_num, hide (fun j hj => ?_)⟩
          by_cases e : j = k
          · subst e; rw [HG.out]; simp [ha1, ha2]
          · exact H.out j (by omega)
        case measure => simp [intOf]; omega
      · have hlow : (decide (97 ≤ (s[k].toNat : Int)) && decide ((s[k].toNat : Int) ≤ 122)) = false := by simp; omega
        have HL := hide hlow; clear hlow
        by_cases hk0 : k = 0
        · have hfin : false = isNm s := isNm_no hlt (by rw [HG.out, HL.out]; simp [hk0])
          have HF := hide hfin; clear hfin HG HL H
          subst hk0
          by_cases h1 : 97 ≤ (s[0].toNat : Int)
          · have h2 : ¬ (s[0].toNat : Int) ≤ 122 := by omega
            have hd2 : decide ((s[0].toNat : Int) ≤ 122) = false := decide_eq_false h2
            go_wp2
            all_goals go_ret
            all_goals exact ⟨ret_bool HF.out, rfl⟩
          · have hd1 : decide (97 ≤ (s[0].toNat : Int)) = false := decide_eq_false h1
            go_wp2
            all_goals go_ret
            all_goals exact ⟨ret_bool HF.out, rfl⟩
        · have HK := hide hk0
          have hke : ((k : Int) == 0) = false := by simp; omega
          clear hk0
          by_cases hc : 48 ≤ (s[k].toNat : Int) ∧ (s[k].toNat : Int) ≤ 57
          · have h1 : ¬ 97 ≤ (s[k].toNat : Int) := by omega
            have hd1 : decide (97 ≤ (s[k].toNat : Int)) = false := decide_eq_false h1
            have hd3 : decide ((s[k].toNat : Int) < 48) = false := decide_eq_false (by omega)
            have hd4 : decide (57 < (s[k].toNat : Int)) = false := decide_eq_false (by omega)
            go_wp2
            go_round
            case rel =>
              refine ⟨k + 1, by omega, by go_num, hide (fun j hj => ?_)⟩
              by_cases e : j = k
              · subst e; rw [HG.out]; simp [HK.out, hc.1, hc.2]
              · exact H.out j (by omega)
            case measure => simp [intOf]; omega
          · have HC := hide (show (decide (48 ≤ (s[k].toNat : Int)) && decide ((s[k].toNat : Int) ≤ 57)) = false from by simp; omega)
            have hfin : false = isNm s := isNm_no hlt (by rw [HG.out, HL.out, HC.out]; simp)
            have HF := hide hfin; clear hfin
            clear HG H HL HC
            by_cases h0 : (s[k].toNat : Int) < 48
            · have hd1 : decide (97 ≤ (s[k].toNat : Int)) = false := decide_eq_false (by omega)
              have hd3 : decide ((s[k].toNat : Int) < 48) = true := decide_eq_true h0
              go_wp2
              go_ret
              exact ⟨ret_bool HF.out, rfl⟩
            · have h4 : 57 < (s[k].toNat : Int) := by omega
              have hd3 : decide ((s[k].toNat : Int) < 48) = false := decide_eq_false h0
              have hd4 : decide (57 < (s[k].toNat : Int)) = true := decide_eq_true h4
              clear hc
              by_cases h1 : 97 ≤ (s[k].toNat : Int)
              · have h2 : ¬ (s[k].toNat : Int) ≤ 122 := by omega
                have hd2 : decide ((s[k].toNat : Int) ≤ 122) = false := decide_eq_false h2
                go_wp2
                go_ret
                exact ⟨ret_bool HF.out, rfl⟩
              · have hd1 : decide (97 ≤ (s[k].toNat : Int)) = false := decide_eq_false h1
                go_wp2
                go_ret
                exact ⟨ret_bool HF.out, rfl⟩
    · have HF := hide (isNm_end (s := s) (fun j hj => H.out j (by omega)))
      clear H
      go_wp2_with fail
      refine (within_any _ _ _ _).mono ?_
      rintro e w1 ⟨rfl, rfl⟩
      rw [HF.out]
      go_wp2
      go_ret
      exact ⟨rfl, rfl⟩
end Go.Proofs.YtcecgbjolngdbaaGreatDoor
