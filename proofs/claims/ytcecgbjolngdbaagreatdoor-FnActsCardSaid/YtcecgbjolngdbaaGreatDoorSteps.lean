/- The functions on steps: what they compute. -/
import Derived.Test.YtcecgbjolngdbaaGreatDoorKit
import Derived.Test.YtcecgbjolngdbaaGreatDoorPlain
import Derived.Test.YtcecgbjolngdbaaGreatDoorPlainSt
import Derived.Test.YtcecgbjolngdbaaGreatDoorSets
import Derived.Test.YtcecgbjolngdbaaGreatDoorLawSt
namespace Go.Proofs.YtcecgbjolngdbaaGreatDoor
open Go.ChangeShapes Go.WideShapes Go.ChangeAt Go.RowKit
set_option linter.unusedVariables false

theorem isTime_any (n : Int) (w : World) : Calls Tryz.prog 156 #[.int .i64 n] w fun e w' => e = .returned (.bool (decide (0 ≤ n ∧ n ≤ 60))) ∧ w = w' := by
  go_enter Tryz.func156, Tryz.ntmps156
  go_wp2_with fail
  refine (within_any _ _ _ _).mono ?_
  rintro e w1 ⟨rfl, rfl⟩
  go_wp2
  go_ret
  exact ⟨ret_bool (by simp), rfl⟩
theorem isTime_yes {n : Int} (w : World) (h : 0 ≤ n ∧ n ≤ 60) : Calls Tryz.prog 156 #[.int .i64 n] w fun e w' => e = .returned (.bool true) ∧ w = w' :=
  (isTime_any n w).mono fun _ _ ⟨he, hw⟩ => ⟨by rw [he, decide_eq_true h], hw⟩
theorem isTime_no {n : Int} (w : World) (h : ¬ (0 ≤ n ∧ n ≤ 60)) : Calls Tryz.prog 156 #[.int .i64 n] w fun e w' => e = .returned (.bool false) ∧ w = w' :=
  (isTime_any n w).mono fun _ _ ⟨he, hw⟩ => ⟨by rw [he, decide_eq_false h], hw⟩
theorem isAmount_any (n : Int) (w : World) : Calls Tryz.prog 142 #[.int .i64 n] w fun e w' => e = .returned (.bool (decide (0 ≤ n ∧ n ≤ 20))) ∧ w = w' := by
  go_enter Tryz.func142, Tryz.ntmps142
  go_wp2_with fail
  refine (within_any _ _ _ _).mono ?_
  rintro e w1 ⟨rfl, rfl⟩
  go_wp2
  go_ret
  exact ⟨ret_bool (by simp), rfl⟩
theorem isAmount_yes {n : Int} (w : World) (h : 0 ≤ n ∧ n ≤ 20) : Calls Tryz.prog 142 #[.int .i64 n] w fun e w' => e = .returned (.bool true) ∧ w = w' :=
  (isAmount_any n w).mono fun _ _ ⟨he, hw⟩ => ⟨by rw [he, decide_eq_true h], hw⟩
theorem isAmount_no {n : Int} (w : World) (h : ¬ (0 ≤ n ∧ n ≤ 20)) : Calls Tryz.prog 142 #[.int .i64 n] w fun e w' => e = .returned (.bool false) ∧ w = w' :=
  (isAmount_any n w).mono fun _ _ ⟨he, hw⟩ => ⟨by rw [he, decide_eq_false h], hw⟩
set_option maxHeartbeats 3200000 in
theorem specStepsOk_any (A : Option Addr) (l : List (Int × Int)) (c lo hi : Nat) (w : World) (hl : l.length ≤ 16777216) (ha : RdSt w lo hi A l) (hhi : hi ≤ w.heap.size) :
    Calls Tryz.prog 98 #[.slice A l.length c] w fun e w' => e = .returned (.bool (stOkB l)) ∧ Below w.heap.size w w' := by
  go_enter Tryz.func98, Tryz.ntmps98
  go_wp2
  go_loopw [7] (fun i wr => ∃ k : Nat, k ≤ l.length ∧ i = .int .i64 k ∧ Below w.heap.size w wr ∧ Hid (∀ j, j < k → stAtS l j = true)) (fun i _ => l.length - (intOf i).toNat)
  case atStart => exact ⟨0, Nat.zero_le _, rfl, Below.refl _ _, hide (fun j h => absurd h (by omega))⟩
  case round =>
    obtain ⟨k, hk, rfl, hB, H⟩ := hrel
    by_cases hlt : k < l.length
    · obtain ⟨b, off, rfl, h1, h2, hc⟩ := ha (by omega)
      obtain ⟨hc1, hc2⟩ := hc k hlt
      have hbb : b < w.heap.size := by omega
      have g1 := (hB.cell (p := ⟨b, off + k * 2, none⟩) hbb).trans hc1
      have g2 := (hB.cell (p := ⟨b, off + k * 2 + 1, none⟩) hbb).trans hc2
      have hsz := hB.size
      have hB1 : ∀ v : Array Value, Below w.heap.size w (wr.alloc (.cells v 128)) := fun v => hB.alloc hsz _
      have HB1 := hide hB1; clear hB1
      have HD := hide (show stAtS l k = ((decide (0 ≤ stA l k ∧ stA l k ≤ 60) && decide (0 ≤ stC l k ∧ stC l k ≤ 20)) && (decide (k = 0) || decide (stA l (k - 1) < stA l k))) from rfl)
      have HX : Hid (stA l k = (l.getD k (0, 0)).1 ∧ stC l k = (l.getD k (0, 0)).2) := ⟨rfl, rfl⟩
      clear hc1 hc2
      generalize l.getD k (0, 0) = X at g1 g2 HX
      obtain ⟨x, y⟩ := X
      simp only at g1 g2 HX
      by_cases hx : 0 ≤ x ∧ x ≤ 60
      · by_cases hy : 0 ≤ y ∧ y ≤ 20
        · by_cases hk0 : k = 0
          · subst hk0
            have hd0 : decide ((0 : Int) < ((0 : Nat) : Int)) = false := by simp
            simp only [Nat.zero_mul, Nat.add_zero] at g1 g2
            clear hc
            go_wp2_with fail
            go_quiet ((go_at_call 95; first | exact qeq rfl (l01In_yes _ (by omega))))
            go_wp2
            go_roundw
            case rel =>
              refine ⟨1, by omega, by go_num, below_quiet (HB1.out _) _, hide (fun j hj => ?_)⟩
              obtain rfl : j = 0 := by omega
              rw [HD.out, HX.out.1, HX.out.2]
              simp [hx, hy]
            case measure => simp [intOf]; omega
          · obtain ⟨m, rfl⟩ : ∃ m, k = m + 1 := ⟨k - 1, by omega⟩
            obtain ⟨hp1, _⟩ := hc m (by omega)
            have g3 := (hB.cell (p := ⟨b, off + m * 2, none⟩) hbb).trans hp1
            have HP : Hid (stA l m = (l.getD m (0, 0)).1) := rfl
            have hd0 : decide ((0 : Int) < ((m + 1 : Nat) : Int)) = true := by rw [decide_eq_true_eq]; omega
            have hwm : IntKind.i64.wrap (m : Int) = (m : Int) := wrap_nat m (by omega)
            have hm0 : (0 : Int) ≤ (m : Int) := by omega
            have hm1 : (m : Int) < (l.length : Int) := by omega
            have hm2 : m < l.length := by omega
            clear hc hp1
            generalize (l.getD m (0, 0)).1 = z at g3 HP
            have g4 : ∀ o, (wr.alloc o).cell? ⟨b, off + m * 2, none⟩ = some (.int .i64 z) := fun o => (World.cell?_alloc_lt wr o ⟨b, off + m * 2, none⟩ (by show b < _; omega)).trans g3
            by_cases hz : x ≤ z
            · go_wp2_with fail
              go_quiet ((go_at_call 95; first | exact qeq rfl (l01In_yes _ (by omega))))
              go_wp2
              go_ret
              refine ⟨ret_bool (stOk_no hlt (stAtS_no ?_)), below_quiet (HB1.out _) _⟩
              rw [HD.out, HX.out.1, HX.out.2, Nat.add_sub_cancel, HP.out]
              simp; omega
            · have hz' : z < x := by omega
              go_wp2_with fail
              go_quiet ((go_at_call 95; first | exact qeq rfl (l01In_yes _ (by omega))))
              go_wp2
              go_roundw
              case rel =>
                refine ⟨m + 2, by omega, by go_num, below_quiet (HB1.out _) _, hide (fun j hj => ?_)⟩
                by_cases e : j = m + 1
                · subst e
                  rw [HD.out, HX.out.1, HX.out.2, Nat.add_sub_cancel, HP.out]
                  simp [hx, hy, hz']
                · exact H.out j (by omega)
              case measure => simp [intOf]; omega
        · clear hc
          go_wp2_with fail
          go_quiet ((go_at_call 95; first | exact qeq rfl (l01In_yes _ (by omega)) | exact qeq rfl (l01In_no _ (by omega))))
          go_wp2
          go_ret
          refine ⟨ret_bool (stOk_no hlt (stAtS_no ?_)), below_quiet (HB1.out _) _⟩
          rw [HD.out, HX.out.1, HX.out.2, decide_eq_false hy]
          simp
      · clear hc
        go_wp2_with fail
        go_quiet ((go_at_call 95; first | exact qeq rfl (l01In_no _ (by omega))))
        go_wp2
        go_ret
        refine ⟨ret_bool (stOk_no hlt (stAtS_no ?_)), below_quiet (HB1.out _) _⟩
        rw [HD.out, HX.out.1, decide_eq_false hx]
        simp
    · obtain rfl : k = l.length := by omega
      by_cases hin : 1 ≤ (l.length : Int) ∧ (l.length : Int) ≤ 8
      · obtain ⟨b, off, rfl, h1, h2, hc⟩ := ha (by omega)
        obtain ⟨hc1, _⟩ := hc 0 (by omega)
        have hbb : b < w.heap.size := by omega
        have g1 := (hB.cell (p := ⟨b, off + 0 * 2, none⟩) hbb).trans hc1
        have HE := hide (stOkS_end (l := l) (fun j hj => H.out j hj) (by omega) (by omega))
        have HX : Hid (stA l 0 = (l.getD 0 (0, 0)).1) := rfl
        simp only [Nat.zero_mul, Nat.add_zero] at g1
        clear hc hc1 H
        generalize (l.getD 0 (0, 0)).1 = x at g1 HX
        go_wp2_with fail
        refine (l01In_yes _ hin).mono ?_
        rintro e w1 ⟨rfl, rfl⟩
        go_wp2
        go_ret
        exact ⟨ret_bool (by rw [← HE.out, HX.out]; rfl), hB⟩
      · have HE := hide (stOkS_len (l := l) hin)
        go_wp2_with fail
        refine (l01In_no _ hin).mono ?_
        rintro e w1 ⟨rfl, rfl⟩
        go_wp2
        go_ret
        exact ⟨ret_bool HE.out, hB⟩
set_option maxHeartbeats 3200000 in
theorem implStepsOk_any (A : Option Addr) (l : List (Int × Int)) (c lo hi : Nat) (w : World) (hl : l.length ≤ 16777216) (ha : RdSt w lo hi A l) (hhi : hi ≤ w.heap.size) :
    Calls Tryz.prog 108 #[.slice A l.length c] w fun e w' => e = .returned (.bool (stOkB l)) ∧ Below w.heap.size w w' := by
  go_enter Tryz.func108, Tryz.ntmps108
  go_wp2
  go_loopw [7] (fun i wr => ∃ k : Nat, k ≤ l.length ∧ i = .int .i64 k ∧ Below w.heap.size w wr ∧ Hid (∀ j, j < k → stAt l j = true)) (fun i _ => l.length - (intOf i).toNat)
  case atStart => exact ⟨0, Nat.zero_le _, rfl, Below.refl _ _, hide (fun j h => absurd h (by omega))⟩
  case round =>
    obtain ⟨k, hk, rfl, hB, H⟩ := hrel
    by_cases hlt : k < l.length
    · obtain ⟨b, off, rfl, h1, h2, hc⟩ := ha (by omega)
      obtain ⟨hc1, hc2⟩ := hc k hlt
      have hbb : b < w.heap.size := by omega
      have g1 := (hB.cell (p := ⟨b, off + k * 2, none⟩) hbb).trans hc1
      have g2 := (hB.cell (p := ⟨b, off + k * 2 + 1, none⟩) hbb).trans hc2
      have hsz := hB.size
      have hB1 : ∀ v : Array Value, Below w.heap.size w (wr.alloc (.cells v 128)) := fun v => hB.alloc hsz _
      have HB1 := hide hB1; clear hB1
      have HD := hide (show stAt l k = ((decide (0 ≤ stA l k ∧ stA l k ≤ 60) && decide (0 ≤ stC l k ∧ stC l k ≤ 20)) && (if k = 0 then decide (stA l 0 = 0) else decide (stA l (k - 1) < stA l k))) from rfl)
      have HX : Hid (stA l k = (l.getD k (0, 0)).1 ∧ stC l k = (l.getD k (0, 0)).2) := ⟨rfl, rfl⟩
      clear hc1 hc2
      generalize l.getD k (0, 0) = X at g1 g2 HX
      obtain ⟨x, y⟩ := X
      simp only at g1 g2 HX
      by_cases hx : 0 ≤ x ∧ x ≤ 60
      · by_cases hy : 0 ≤ y ∧ y ≤ 20
        · by_cases hk0 : k = 0
          · subst hk0
            have hd0 : decide ((0 : Int) < ((0 : Nat) : Int)) = false := by simp
            simp only [Nat.zero_mul, Nat.add_zero] at g1 g2
            clear hc
            by_cases hx0 : x = 0
            · have hxe : (x != 0) = false := by simp [hx0]
              have HX0 := hide hx0; clear hx0
              go_wp2_with fail
              go_quiet ((first | (go_at_call 156; first | exact qeq rfl (isTime_yes _ (by omega)) | exact qeq rfl (isTime_no _ (by omega))) | (go_at_call 142; first | exact qeq rfl (isAmount_yes _ (by omega)) | exact qeq rfl (isAmount_no _ (by omega)))))
              go_wp2
              go_roundw
              case rel =>
                refine ⟨1, by omega, by go_num, below_quiet (HB1.out _) _, hide (fun j hj => ?_)⟩
                obtain rfl : j = 0 := by omega
                rw [HD.out, HX.out.1, HX.out.2, HX0.out]
                simp [hy]
              case measure => simp [intOf]; omega
            · have hxe : (x != 0) = true := by simp [hx0]
              have HX0 := hide hx0; clear hx0
              go_wp2_with fail
              go_quiet ((first | (go_at_call 156; first | exact qeq rfl (isTime_yes _ (by omega)) | exact qeq rfl (isTime_no _ (by omega))) | (go_at_call 142; first | exact qeq rfl (isAmount_yes _ (by omega)) | exact qeq rfl (isAmount_no _ (by omega)))))
              go_wp2
              go_ret
              refine ⟨ret_bool (stOk_no hlt ?_), below_quiet (HB1.out _) _⟩
              rw [HD.out, HX.out.1, HX.out.2]
              simp [HX0.out]
          · obtain ⟨m, rfl⟩ : ∃ m, k = m + 1 := ⟨k - 1, by omega⟩
            obtain ⟨hp1, _⟩ := hc m (by omega)
            have g3 := (hB.cell (p := ⟨b, off + m * 2, none⟩) hbb).trans hp1
            have HP : Hid (stA l m = (l.getD m (0, 0)).1) := rfl
            have hd0 : decide ((0 : Int) < ((m + 1 : Nat) : Int)) = true := by rw [decide_eq_true_eq]; omega
            have hd1 : ((m : Int) + 1 == 0) = false := by rw [beq_eq_false_iff_ne]; omega
            have hd2 : ¬ (m : Int) + 1 = 0 := by omega
            have hwm : IntKind.i64.wrap (m : Int) = (m : Int) := wrap_nat m (by omega)
            have hm0 : (0 : Int) ≤ (m : Int) := by omega
            have hm1 : (m : Int) < (l.length : Int) := by omega
            have hm2 : m < l.length := by omega
            clear hc hp1
            generalize (l.getD m (0, 0)).1 = z at g3 HP
            have g4 : ∀ o, (wr.alloc o).cell? ⟨b, off + m * 2, none⟩ = some (.int .i64 z) := fun o => (World.cell?_alloc_lt wr o ⟨b, off + m * 2, none⟩ (by show b < _; omega)).trans g3
            by_cases hz : x ≤ z
            · go_wp2_with fail
              go_quiet ((first | (go_at_call 156; first | exact qeq rfl (isTime_yes _ (by omega)) | exact qeq rfl (isTime_no _ (by omega))) | (go_at_call 142; first | exact qeq rfl (isAmount_yes _ (by omega)) | exact qeq rfl (isAmount_no _ (by omega)))))
              go_wp2
              go_ret
              refine ⟨ret_bool (stOk_no hlt ?_), below_quiet (HB1.out _) _⟩
              rw [HD.out, HX.out.1, HX.out.2, if_neg (by omega), Nat.add_sub_cancel, HP.out]
              simp; omega
            · have hz' : z < x := by omega
              go_wp2_with fail
              go_quiet ((first | (go_at_call 156; first | exact qeq rfl (isTime_yes _ (by omega)) | exact qeq rfl (isTime_no _ (by omega))) | (go_at_call 142; first | exact qeq rfl (isAmount_yes _ (by omega)) | exact qeq rfl (isAmount_no _ (by omega)))))
              go_wp2
              go_roundw
              case rel =>
                refine ⟨m + 2, by omega, by go_num, below_quiet (HB1.out _) _, hide (fun j hj => ?_)⟩
                by_cases e : j = m + 1
                · subst e
                  rw [HD.out, HX.out.1, HX.out.2, if_neg (by omega), Nat.add_sub_cancel, HP.out]
                  simp [hx, hy, hz']
                · exact H.out j (by omega)
              case measure => simp [intOf]; omega
        · clear hc
          go_wp2_with fail
          go_quiet ((first | (go_at_call 156; first | exact qeq rfl (isTime_yes _ (by omega)) | exact qeq rfl (isTime_no _ (by omega))) | (go_at_call 142; first | exact qeq rfl (isAmount_yes _ (by omega)) | exact qeq rfl (isAmount_no _ (by omega)))))
          go_wp2
          go_ret
          refine ⟨ret_bool (stOk_no hlt ?_), below_quiet (HB1.out _) _⟩
          rw [HD.out, HX.out.1, HX.out.2, decide_eq_false hy]
          simp
      · clear hc
        go_wp2_with fail
        go_quiet ((first | (go_at_call 156; first | exact qeq rfl (isTime_yes _ (by omega)) | exact qeq rfl (isTime_no _ (by omega))) | (go_at_call 142; first | exact qeq rfl (isAmount_yes _ (by omega)) | exact qeq rfl (isAmount_no _ (by omega)))))
        go_wp2
        go_ret
        refine ⟨ret_bool (stOk_no hlt ?_), below_quiet (HB1.out _) _⟩
        rw [HD.out, HX.out.1, decide_eq_false hx]
        simp
    · obtain rfl : k = l.length := by omega
      have HE := hide (stOk_end (l := l) (fun j hj => H.out j hj))
      clear H ha
      go_wp2_with fail
      refine (within_any _ _ _ _).mono ?_
      rintro e w1 ⟨rfl, rfl⟩
      rw [HE.out]
      go_wp2
      go_ret
      exact ⟨rfl, hB⟩
end Go.Proofs.YtcecgbjolngdbaaGreatDoor
