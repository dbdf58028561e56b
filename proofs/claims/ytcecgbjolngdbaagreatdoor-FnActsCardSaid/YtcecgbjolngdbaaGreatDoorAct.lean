/- Activities that are valid. -/
import Derived.Test.YtcecgbjolngdbaaGreatDoorKitMd
import Derived.Test.YtcecgbjolngdbaaGreatDoorModes
import Derived.Test.YtcecgbjolngdbaaGreatDoorNames
namespace Go.Proofs.YtcecgbjolngdbaaGreatDoor
open Go.ChangeShapes Go.WideShapes Go.ChangeAt Go.RowKit
set_option linter.unusedVariables false

set_option maxHeartbeats 3200000 in
theorem specActivityOk_any (a : Ac) (M : Option Addr) (cm lo hi : Nat) (r s : Int) (w : World) (hs : szAc a ≤ 16777216) (fM : RdMs w lo hi M a.modes) (hhi : hi ≤ w.heap.size) :
    Calls Tryz.prog 96 #[.agg #[.string a.name, .int .i64 a.fam, .slice M a.modes.length cm], .int .i64 r, .int .i64 s] w fun e w' => e = .returned (.bool (acOkB a r s)) ∧ Below w.heap.size w w' := by
  unfold szAc at hs
  obtain ⟨nm, fam, l⟩ := a
  simp only at hs fM ⊢
  have hl : l.length ≤ 16777216 := by have := szL_len szMd l; omega
  have hnm : nm.size ≤ 16777216 := by omega
  have HS := hide (show szL szMd l ≤ 16777216 from by omega); clear hs
  have HM := hide (show acOkB ⟨nm, fam, l⟩ r s = (l.all (fun m => mdOkB m r s) && ((isNm nm && decide (0 ≤ fam ∧ fam ≤ 3)) && decide (1 ≤ (l.length : Int) ∧ (l.length : Int) ≤ 3))) from rfl)
  obtain ⟨W0, hW0⟩ : ∃ W0, W0 = w.alloc (.cells #[.string nm, .int .i64 fam, .slice M l.length cm] 46) := ⟨_, rfl⟩
  have hB0 : Below w.heap.size w W0 := by rw [hW0]; exact (Below.refl _ _).alloc (Nat.le_refl _) _
  have k0 : Bk W0 w.heap.size 46 #[.string nm, .int .i64 fam, .slice M l.length cm] := by rw [hW0]; exact Bk.made w _ _
  have z0 : W0.heap.size = w.heap.size + 1 := by rw [hW0]; simp
  have f0 := fM.below hB0 hhi
  have HB := hide hB0; clear hB0 fM
  go_enter Tryz.func96, Tryz.ntmps96
  go_wp2
  go_loopw [12] (fun i wr => ∃ k : Nat, k ≤ l.length ∧ i = .int .i64 k ∧ Below W0.heap.size W0 wr ∧ Hid ((l.take k).all (fun m => mdOkB m r s) = true)) (fun i _ => l.length - (intOf i).toNat)
  case atStart => exact ⟨0, Nat.zero_le _, rfl, by rw [← hW0]; exact Below.refl _ _, hide (by simp)⟩
  case round =>
    obtain ⟨k, hk, rfl, hB, H⟩ := hrel
    have hsz := hB.size
    by_cases hlt : k < l.length
    · have har := f0.below hB (by omega)
      have hhr : hi ≤ wr.heap.size := by omega
      have HB2 : Hid (∀ o, Below wr.heap.size wr (wr.alloc o)) := fun o => (Below.refl _ _).alloc (Nat.le_refl _) _
      obtain ⟨b, off, U, cu, C, cc, rfl, h1, h2, g0, g1, g2, fU, fC⟩ := har.at hlt
      have hs3 : szMd (l.getD k md0) ≤ 16777216 := by have := szL_at szMd md0 hlt; have := HS.out; omega
      clear har f0 hW0
      generalize hX : l.getD k md0 = m at g0 g1 g2 fU fC hs3
      have HX := hide hX; clear hX
      have hs4 : m.use.length ≤ 16777216 := by unfold szMd at hs3; omega
      have hs5 : m.con.length ≤ 16777216 := by unfold szMd at hs3; omega
      go_wp2_with fail
      refine (specModeOk_any U C m cu cc lo hi r s _ hs4 hs5 (by exact fU.below (HB2.out _) hhr) (by exact fC.below (HB2.out _) hhr) (by simp; omega)).mono ?_
      rintro e w1 ⟨rfl, hB1⟩
      have hB2 := hB.trans (((HB2.out _).trans (hB1.mono (by simp))).mono hsz)
      clear hB1 g0 g1 g2 fU fC
      cases hm : mdOkB m r s
      · have HF := hide (show false = acOkB ⟨nm, fam, l⟩ r s from by rw [HM.out, all_noG md0 hlt (by rw [HX.out]; exact hm)]; rfl)
        clear hm
        go_wp2
        go_ret
        exact ⟨ret_bool HF.out, HB.out.trans (hB2.mono (by omega))⟩
      · have HF := hide (all_stepG md0 H.out hlt (by rw [HX.out]; exact hm))
        clear hm
        go_wp2
        go_roundw
        case rel => exact ⟨k + 1, by omega, by go_num, hB2, HF⟩
        case measure => simp [intOf]; omega
    · have HA := hide (show acOkB ⟨nm, fam, l⟩ r s = ((isNm nm && decide (0 ≤ fam ∧ fam ≤ 3)) && decide (1 ≤ (l.length : Int) ∧ (l.length : Int) ≤ 3)) from by rw [HM.out, all_endG (by omega) H.out, Bool.true_and])
      have k1 := k0.below hB (by omega)
      have c0 := k1.cell 0
      have c1 := k1.cell 1
      have c2 := k1.cell 2
      simp only [List.getElem?_toArray, List.getElem?_cons_succ, List.getElem?_cons_zero] at c0 c1 c2
      have hBF := HB.out.trans (hB.mono (by omega))
      clear f0 H HM k0 k1 hW0
      go_wp2_with fail
      refine (specIsName_any nm _ hnm).mono ?_
      rintro e w1 ⟨rfl, rfl⟩
      cases hn : isNm nm
      · have HF := hide (show false = acOkB ⟨nm, fam, l⟩ r s from by rw [HA.out, hn]; rfl)
        clear hn
        go_wp2
        go_ret
        exact ⟨ret_bool HF.out, hBF⟩
      · by_cases hf : 0 ≤ fam ∧ fam ≤ 3
        case neg =>
          have HF := hide (show false = acOkB ⟨nm, fam, l⟩ r s from by rw [HA.out, decide_eq_false hf]; simp)
          clear hn
          go_wp2_with fail
          refine (l01In_no _ hf).mono ?_
          rintro e w1 ⟨rfl, rfl⟩
          go_wp2
          go_ret
          exact ⟨ret_bool HF.out, hBF⟩
        by_cases hq : 1 ≤ (l.length : Int) ∧ (l.length : Int) ≤ 3
        case neg =>
          have HF := hide (show false = acOkB ⟨nm, fam, l⟩ r s from by rw [HA.out, decide_eq_false hq]; simp)
          clear hn
          go_wp2_with fail
          refine (l01In_yes _ hf).mono ?_
          rintro e w1 ⟨rfl, rfl⟩
          go_wp2_with fail
          refine (l01In_no _ hq).mono ?_
          rintro e w1 ⟨rfl, rfl⟩
          go_wp2
          go_ret
          exact ⟨ret_bool HF.out, hBF⟩
        have HF := hide (show true = acOkB ⟨nm, fam, l⟩ r s from by rw [HA.out, hn, decide_eq_true hf, decide_eq_true hq]; rfl)
        clear hn
        go_wp2_with fail
        refine (l01In_yes _ hf).mono ?_
        rintro e w1 ⟨rfl, rfl⟩
        go_wp2_with fail
        refine (l01In_yes _ hq).mono ?_
        rintro e w1 ⟨rfl, rfl⟩
        go_wp2
        go_ret
        exact ⟨ret_bool HF.out, hBF⟩
set_option maxHeartbeats 3200000 in
theorem implActivityOk_any (a : Ac) (M : Option Addr) (cm lo hi : Nat) (r s : Int) (w : World) (hs : szAc a ≤ 16777216) (fM : RdMs w lo hi M a.modes) (hhi : hi ≤ w.heap.size) :
    Calls Tryz.prog 19 #[.agg #[.string a.name, .int .i64 a.fam, .slice M a.modes.length cm], .int .i64 r, .int .i64 s] w fun e w' => e = .returned (.bool (acOkB a r s)) ∧ Below w.heap.size w w' := by
  unfold szAc at hs
  obtain ⟨nm, fam, l⟩ := a
  simp only at hs fM ⊢
  have hl : l.length ≤ 16777216 := by have := szL_len szMd l; omega
  have hnm : nm.size ≤ 16777216 := by omega
  have HS := hide (show szL szMd l ≤ 16777216 from by omega); clear hs
  have HM := hide (show acOkB ⟨nm, fam, l⟩ r s = (l.all (fun m => mdOkB m r s) && ((isNm nm && decide (0 ≤ fam ∧ fam ≤ 3)) && decide (1 ≤ (l.length : Int) ∧ (l.length : Int) ≤ 3))) from rfl)
  obtain ⟨W0, hW0⟩ : ∃ W0, W0 = w.alloc (.cells #[.string nm, .int .i64 fam, .slice M l.length cm] 46) := ⟨_, rfl⟩
  have hB0 : Below w.heap.size w W0 := by rw [hW0]; exact (Below.refl _ _).alloc (Nat.le_refl _) _
  have k0 : Bk W0 w.heap.size 46 #[.string nm, .int .i64 fam, .slice M l.length cm] := by rw [hW0]; exact Bk.made w _ _
  have z0 : W0.heap.size = w.heap.size + 1 := by rw [hW0]; simp
  have f0 := fM.below hB0 hhi
  have HB := hide hB0; clear hB0 fM
  go_enter Tryz.func19, Tryz.ntmps19
  go_wp2
  go_loopw [12] (fun i wr => ∃ k : Nat, k ≤ l.length ∧ i = .int .i64 k ∧ Below W0.heap.size W0 wr ∧ Hid ((l.take k).all (fun m => mdOkB m r s) = true)) (fun i _ => l.length - (intOf i).toNat)
  case atStart => exact ⟨0, Nat.zero_le _, rfl, by rw [← hW0]; exact Below.refl _ _, hide (by simp)⟩
  case round =>
    obtain ⟨k, hk, rfl, hB, H⟩ := hrel
    have hsz := hB.size
    by_cases hlt : k < l.length
    · have har := f0.below hB (by omega)
      have hhr : hi ≤ wr.heap.size := by omega
      have HB2 : Hid (∀ o, Below wr.heap.size wr (wr.alloc o)) := fun o => (Below.refl _ _).alloc (Nat.le_refl _) _
      obtain ⟨b, off, U, cu, C, cc, rfl, h1, h2, g0, g1, g2, fU, fC⟩ := har.at hlt
      have hs3 : szMd (l.getD k md0) ≤ 16777216 := by have := szL_at szMd md0 hlt; have := HS.out; omega
      clear har f0 hW0
      generalize hX : l.getD k md0 = m at g0 g1 g2 fU fC hs3
      have HX := hide hX; clear hX
      have hs4 : m.use.length ≤ 16777216 := by unfold szMd at hs3; omega
      have hs5 : m.con.length ≤ 16777216 := by unfold szMd at hs3; omega
      go_wp2_with fail
      refine (implModeOk_any U C m cu cc lo hi r s _ hs4 hs5 (by exact fU.below (HB2.out _) hhr) (by exact fC.below (HB2.out _) hhr) (by simp; omega)).mono ?_
      rintro e w1 ⟨rfl, hB1⟩
      have hB2 := hB.trans (((HB2.out _).trans (hB1.mono (by simp))).mono hsz)
      clear hB1 g0 g1 g2 fU fC
      cases hm : mdOkB m r s
      · have HF := hide (show false = acOkB ⟨nm, fam, l⟩ r s from by rw [HM.out, all_noG md0 hlt (by rw [HX.out]; exact hm)]; rfl)
        clear hm
        go_wp2
        go_ret
        exact ⟨ret_bool HF.out, HB.out.trans (hB2.mono (by omega))⟩
      · have HF := hide (all_stepG md0 H.out hlt (by rw [HX.out]; exact hm))
        clear hm
        go_wp2
        go_roundw
        case rel => exact ⟨k + 1, by omega, by go_num, hB2, HF⟩
        case measure => simp [intOf]; omega
    · have HA := hide (show acOkB ⟨nm, fam, l⟩ r s = ((isNm nm && decide (0 ≤ fam ∧ fam ≤ 3)) && decide (1 ≤ (l.length : Int) ∧ (l.length : Int) ≤ 3)) from by rw [HM.out, all_endG (by omega) H.out, Bool.true_and])
      have k1 := k0.below hB (by omega)
      have c0 := k1.cell 0
      have c1 := k1.cell 1
      have c2 := k1.cell 2
      simp only [List.getElem?_toArray, List.getElem?_cons_succ, List.getElem?_cons_zero] at c0 c1 c2
      have hBF := HB.out.trans (hB.mono (by omega))
      clear f0 H HM k0 k1 hW0
      go_wp2_with fail
      refine (implIsName_any nm _ hnm).mono ?_
      rintro e w1 ⟨rfl, rfl⟩
      cases hn : isNm nm
      · have HF := hide (show false = acOkB ⟨nm, fam, l⟩ r s from by rw [HA.out, hn]; rfl)
        clear hn
        go_wp2
        go_ret
        exact ⟨ret_bool HF.out, hBF⟩
      · by_cases hf : 0 ≤ fam ∧ fam ≤ 3
        case neg =>
          have HF := hide (show false = acOkB ⟨nm, fam, l⟩ r s from by rw [HA.out, decide_eq_false hf]; simp)
          clear hn
          go_wp2_with fail
          refine (within_no _ hf).mono ?_
          rintro e w1 ⟨rfl, rfl⟩
          go_wp2
          go_ret
          exact ⟨ret_bool HF.out, hBF⟩
        by_cases hq : 1 ≤ (l.length : Int) ∧ (l.length : Int) ≤ 3
        case neg =>
          have HF := hide (show false = acOkB ⟨nm, fam, l⟩ r s from by rw [HA.out, decide_eq_false hq]; simp)
          clear hn
          go_wp2_with fail
          refine (within_yes _ hf).mono ?_
          rintro e w1 ⟨rfl, rfl⟩
          go_wp2_with fail
          refine (within_no _ hq).mono ?_
          rintro e w1 ⟨rfl, rfl⟩
          go_wp2
          go_ret
          exact ⟨ret_bool HF.out, hBF⟩
        have HF := hide (show true = acOkB ⟨nm, fam, l⟩ r s from by rw [HA.out, hn, decide_eq_true hf, decide_eq_true hq]; rfl)
        clear hn
        go_wp2_with fail
        refine (within_yes _ hf).mono ?_
        rintro e w1 ⟨rfl, rfl⟩
        go_wp2_with fail
        refine (within_yes _ hq).mono ?_
        rintro e w1 ⟨rfl, rfl⟩
        go_wp2
        go_ret
        exact ⟨ret_bool HF.out, hBF⟩
theorem implModeIndexes_any (a : Ac) (M : Option Addr) (cm : Nat) (w : World) :
    Calls Tryz.prog 16 #[.agg #[.string a.name, .int .i64 a.fam, .slice M a.modes.length cm]] w fun e w' => ∃ A c, e = .returned (.slice A (intRange a.modes.length).length c) ∧ OwnR w' w.heap.size w'.heap.size 3 1 A (intRange a.modes.length).length c ((intRange a.modes.length).map (.int .i64)) ∧ Below w.heap.size w w' := by
  have HB : Hid (∀ o, Below w.heap.size w (w.alloc o)) := fun o => (Below.refl _ _).alloc (Nat.le_refl _) _
  go_enter Tryz.func16, Tryz.ntmps16
  go_wp2_with fail
  refine (implIntRange_any _ _).mono ?_
  rintro e w1 ⟨A, c, rfl, hO, hB1⟩
  have hO := hO.mono (lo' := w.heap.size) (by simp) (Nat.le_refl _)
  have hB := (HB.out _).trans (hB1.mono (by simp))
  clear hB1
  go_wp2
  go_ret
  exact ⟨A, c, rfl, hO, hB⟩
end Go.Proofs.YtcecgbjolngdbaaGreatDoor
