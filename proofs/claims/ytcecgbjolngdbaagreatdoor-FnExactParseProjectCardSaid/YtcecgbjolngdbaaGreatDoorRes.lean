/- Resources that are valid. -/
import Derived.Test.YtcecgbjolngdbaaGreatDoorKitMd
import Derived.Test.YtcecgbjolngdbaaGreatDoorSets
import Derived.Test.YtcecgbjolngdbaaGreatDoorSteps
namespace Go.Proofs.YtcecgbjolngdbaaGreatDoor
open Go.ChangeShapes Go.WideShapes Go.ChangeAt Go.RowKit
set_option linter.unusedVariables false

set_option maxHeartbeats 3200000 in
theorem specResourceOk_any (r : Rs) (S T : Option Addr) (cs ct lo hi : Nat) (w : World) (hs : szRs r ≤ 16777216) (fS : RdSt w lo hi S r.steps) (fT : RdSS w lo hi T r.setup) (hhi : hi ≤ w.heap.size) :
    Calls Tryz.prog 97 #[.agg #[.slice S r.steps.length cs, .slice T r.setup.length ct]] w fun e w' => e = .returned (.bool (rsOkB r)) ∧ Below w.heap.size w w' := by
  unfold szRs at hs
  obtain ⟨st, l⟩ := r
  simp only at hs fS fT ⊢
  have hl1 : st.length ≤ 16777216 := by omega
  have hl : l.length ≤ 16777216 := by have := szL_len List.length l; omega
  have HS := hide hs; clear hs
  have HM := hide (show rsOkB ⟨st, l⟩ = (l.all rowB && (stOkB st && (decide (l.length = 0) || decide (l.length = 4)))) from rfl)
  obtain ⟨W0, hW0⟩ : ∃ W0, W0 = w.alloc (.cells #[.slice S st.length cs, .slice T l.length ct] 71) := ⟨_, rfl⟩
  have hB0 : Below w.heap.size w W0 := by rw [hW0]; exact (Below.refl _ _).alloc (Nat.le_refl _) _
  have k0 : Bk W0 w.heap.size 71 #[.slice S st.length cs, .slice T l.length ct] := by rw [hW0]; exact Bk.made w _ _
  have z0 : W0.heap.size = w.heap.size + 1 := by rw [hW0]; simp
  have fS0 := fS.below hB0 hhi
  have fT0 := fT.below hB0 hhi
  clear fS fT
  have HB := hide hB0; clear hB0
  go_enter Tryz.func97, Tryz.ntmps97
  go_wp2
  go_loopw [10] (fun i wr => ∃ k : Nat, k ≤ l.length ∧ i = .int .i64 k ∧ Qt W0 wr ∧ Hid ((l.take k).all rowB = true)) (fun i _ => l.length - (intOf i).toNat)
  case atStart => exact ⟨0, Nat.zero_le _, rfl, by rw [← hW0]; exact Qt.refl _, hide (by simp)⟩
  case round =>
    obtain ⟨k, hk, rfl, ⟨d, rfl⟩, H⟩ := hrel
    by_cases hlt : k < l.length
    · have fT1 := fT0.drewN d
      obtain ⟨b, off, R, cr, rfl, h1, h2, g0, fR⟩ := fT1.at hlt
      have hrl : (l.getD k []).length ≤ 16777216 := by have := szL_at List.length [] hlt; have := HS.out; omega
      clear fT0 fS0 fT1 hW0
      generalize hX : l.getD k [] = row at g0 fR hrl
      have HX := hide hX; clear hX
      by_cases h4 : row.length = 4
      · have hd : ((row.length : Int) != 4) = false := by rw [h4]; rfl
        have HR := hide (show ∀ b, row.all durB = b → rowB row = b from fun b e => by unfold rowB; rw [decide_eq_true h4, e]; rfl)
        clear h4
        go_wp2
        go_loopw [19] (fun i wr => ∃ j : Nat, j ≤ row.length ∧ i = .int .i64 j ∧ Qt W0 wr ∧ Hid ((row.take j).all durB = true)) (fun i _ => row.length - (intOf i).toNat)
        case atStart => exact ⟨0, Nat.zero_le _, rfl, ⟨_, rfl⟩, hide (by simp)⟩
        case round =>
          obtain ⟨j, hj, rfl, ⟨d2, rfl⟩, H2⟩ := hrel
          by_cases hlt2 : j < row.length
          · obtain ⟨b2, off2, rfl, h3, h4, hc⟩ := fR (by omega)
            have g1 : (W0.drewN d2).cell? ⟨b2, off2 + j, none⟩ = some (.int .i64 (row.getD j 0)) := hc j hlt2
            clear hc fR g0
            generalize hY : row.getD j 0 = x at g1
            have HY := hide hY; clear hY
            by_cases hx : 0 ≤ x ∧ x ≤ 12
            · go_wp2_with fail
              refine (l01In_yes _ hx).mono ?_
              rintro e w1 ⟨rfl, rfl⟩
              go_wp2
              go_roundw
              case rel => exact ⟨j + 1, by omega, by go_num, ⟨_, rfl⟩, hide (all_stepG 0 H2.out hlt2 (by rw [HY.out]; exact decide_eq_true hx))⟩
              case measure => simp [intOf]; omega
            · have HF := hide (show rowB row = false from HR.out _ (all_noG 0 hlt2 (by rw [HY.out]; exact decide_eq_false hx)))
              go_wp2_with fail
              refine (l01In_no _ hx).mono ?_
              rintro e w1 ⟨rfl, rfl⟩
              go_wp2
              go_ret
              exact ⟨ret_bool (by rw [HM.out, all_noG [] hlt (by rw [HX.out]; exact HF.out)]; rfl), below_quiet HB.out _⟩
          · have HF := hide (show rowB row = true from HR.out _ (all_endG (by omega) H2.out))
            clear g0 fR
            go_wp2
            go_roundw
            case rel => exact ⟨k + 1, by omega, by go_num, ⟨_, rfl⟩, hide (all_stepG [] H.out hlt (by rw [HX.out]; exact HF.out))⟩
            case measure => simp [intOf]; omega
      · have hd : ((row.length : Int) != 4) = true := by rw [bne_iff_ne]; omega
        have HF := hide (show rowB row = false from by unfold rowB; rw [decide_eq_false h4]; rfl)
        clear h4
        go_wp2
        go_ret
        exact ⟨ret_bool (by rw [HM.out, all_noG [] hlt (by rw [HX.out]; exact HF.out)]; rfl), below_quiet HB.out _⟩
    · have HA := hide (show rsOkB ⟨st, l⟩ = (stOkB st && (decide (l.length = 0) || decide (l.length = 4))) from by rw [HM.out, all_endG (by omega) H.out]; rfl)
      have fS1 := fS0.drewN d
      have k0 := k0.qt ⟨d, rfl⟩
      have c1 := k0.cell 0
      simp only [List.getElem?_toArray, List.getElem?_cons_zero] at c1
      clear fT0 fS0 H hW0
      go_wp2_with fail
      clear c1
      refine (specStepsOk_any S st cs lo hi _ hl1 (by exact fS1) (by show hi ≤ W0.heap.size; omega)).mono ?_
      rintro e w1 ⟨rfl, hB1⟩
      have k0 := k0.below hB1 (by show w.heap.size < W0.heap.size; omega)
      have hB2 := (below_quiet HB.out d).trans (hB1.mono (by show w.heap.size ≤ W0.heap.size; omega))
      clear hB1
      have c1 := k0.cell 1
      simp only [List.getElem?_toArray, List.getElem?_cons_succ, List.getElem?_cons_zero] at c1
      cases hst : stOkB st
      · have HF := hide (show false = rsOkB ⟨st, l⟩ from by rw [HA.out, hst]; rfl)
        clear hst
        go_wp2
        go_ret
        exact ⟨ret_bool HF.out, hB2⟩
      · by_cases h0 : l.length = 0
        · have hd : ((l.length : Int) == 0) = true := by rw [h0]; rfl
          have HF := hide (show true = rsOkB ⟨st, l⟩ from by rw [HA.out, hst, decide_eq_true h0]; rfl)
          clear hst h0
          go_wp2
          go_ret
          exact ⟨ret_bool HF.out, hB2⟩
        · have hd : ((l.length : Int) == 0) = false := by rw [beq_eq_false_iff_ne]; omega
          by_cases h4 : l.length = 4
          · have hd4 : ((l.length : Int) == 4) = true := by rw [h4]; rfl
            have HF := hide (show true = rsOkB ⟨st, l⟩ from by rw [HA.out, hst, decide_eq_true h4]; simp)
            clear hst h0 h4
            go_wp2
            go_ret
            exact ⟨ret_bool HF.out, hB2⟩
          · have hd4 : ((l.length : Int) == 4) = false := by rw [beq_eq_false_iff_ne]; omega
            have HF := hide (show false = rsOkB ⟨st, l⟩ from by rw [HA.out, hst, decide_eq_false h4, decide_eq_false h0]; rfl)
            clear hst h0 h4
            go_wp2
            go_ret
            exact ⟨ret_bool HF.out, hB2⟩
set_option maxHeartbeats 3200000 in
theorem implResourceOk_any (r : Rs) (S T : Option Addr) (cs ct lo hi : Nat) (w : World) (hs : szRs r ≤ 16777216) (fS : RdSt w lo hi S r.steps) (fT : RdSS w lo hi T r.setup) (hhi : hi ≤ w.heap.size) :
    Calls Tryz.prog 103 #[.agg #[.slice S r.steps.length cs, .slice T r.setup.length ct]] w fun e w' => e = .returned (.bool (rsOkB r)) ∧ Below w.heap.size w w' := by
  unfold szRs at hs
  obtain ⟨st, l⟩ := r
  simp only at hs fS fT ⊢
  have hl1 : st.length ≤ 16777216 := by omega
  have hl : l.length ≤ 16777216 := by have := szL_len List.length l; omega
  have HS := hide hs; clear hs
  have HM := hide (show rsOkB ⟨st, l⟩ = (l.all rowB && (stOkB st && (decide (l.length = 0) || decide (l.length = 4)))) from rfl)
  obtain ⟨W0, hW0⟩ : ∃ W0, W0 = w.alloc (.cells #[.slice S st.length cs, .slice T l.length ct] 71) := ⟨_, rfl⟩
  have hB0 : Below w.heap.size w W0 := by rw [hW0]; exact (Below.refl _ _).alloc (Nat.le_refl _) _
  have k0 : Bk W0 w.heap.size 71 #[.slice S st.length cs, .slice T l.length ct] := by rw [hW0]; exact Bk.made w _ _
  have z0 : W0.heap.size = w.heap.size + 1 := by rw [hW0]; simp
  have fS0 := fS.below hB0 hhi
  have fT0 := fT.below hB0 hhi
  clear fS fT
  have HB := hide hB0; clear hB0
  go_enter Tryz.func103, Tryz.ntmps103
  go_wp2
  go_loopw [10] (fun i wr => ∃ k : Nat, k ≤ l.length ∧ i = .int .i64 k ∧ Qt W0 wr ∧ Hid ((l.take k).all rowB = true)) (fun i _ => l.length - (intOf i).toNat)
  case atStart => exact ⟨0, Nat.zero_le _, rfl, by rw [← hW0]; exact Qt.refl _, hide (by simp)⟩
  case round =>
    obtain ⟨k, hk, rfl, ⟨d, rfl⟩, H⟩ := hrel
    by_cases hlt : k < l.length
    · have fT1 := fT0.drewN d
      obtain ⟨b, off, R, cr, rfl, h1, h2, g0, fR⟩ := fT1.at hlt
      have hrl : (l.getD k []).length ≤ 16777216 := by have := szL_at List.length [] hlt; have := HS.out; omega
      clear fT0 fS0 fT1 hW0
      generalize hX : l.getD k [] = row at g0 fR hrl
      have HX := hide hX; clear hX
      by_cases h4 : row.length = 4
      · have hd : ((row.length : Int) != 4) = false := by rw [h4]; rfl
        have HR := hide (show ∀ b, row.all durB = b → rowB row = b from fun b e => by unfold rowB; rw [decide_eq_true h4, e]; rfl)
        clear h4
        go_wp2
        go_loopw [19] (fun i wr => ∃ j : Nat, j ≤ row.length ∧ i = .int .i64 j ∧ Qt W0 wr ∧ Hid ((row.take j).all durB = true)) (fun i _ => row.length - (intOf i).toNat)
        case atStart => exact ⟨0, Nat.zero_le _, rfl, ⟨_, rfl⟩, hide (by simp)⟩
        case round =>
          obtain ⟨j, hj, rfl, ⟨d2, rfl⟩, H2⟩ := hrel
          by_cases hlt2 : j < row.length
          · obtain ⟨b2, off2, rfl, h3, h4, hc⟩ := fR (by omega)
            have g1 : (W0.drewN d2).cell? ⟨b2, off2 + j, none⟩ = some (.int .i64 (row.getD j 0)) := hc j hlt2
            clear hc fR g0
            generalize hY : row.getD j 0 = x at g1
            have HY := hide hY; clear hY
            by_cases hx : 0 ≤ x ∧ x ≤ 12
            · go_wp2_with fail
              refine (within_yes _ hx).mono ?_
              rintro e w1 ⟨rfl, rfl⟩
              go_wp2
              go_roundw
              case rel => exact ⟨j + 1, by omega, by go_num, ⟨_, rfl⟩, hide (all_stepG 0 H2.out hlt2 (by rw [HY.out]; exact decide_eq_true hx))⟩
              case measure => simp [intOf]; omega
            · have HF := hide (show rowB row = false from HR.out _ (all_noG 0 hlt2 (by rw [HY.out]; exact decide_eq_false hx)))
              go_wp2_with fail
              refine (within_no _ hx).mono ?_
              rintro e w1 ⟨rfl, rfl⟩
              go_wp2
              go_ret
              exact ⟨ret_bool (by rw [HM.out, all_noG [] hlt (by rw [HX.out]; exact HF.out)]; rfl), below_quiet HB.out _⟩
          · have HF := hide (show rowB row = true from HR.out _ (all_endG (by omega) H2.out))
            clear g0 fR
            go_wp2
            go_roundw
            case rel => exact ⟨k + 1, by omega, by go_num, ⟨_, rfl⟩, hide (all_stepG [] H.out hlt (by rw [HX.out]; exact HF.out))⟩
            case measure => simp [intOf]; omega
      · have hd : ((row.length : Int) != 4) = true := by rw [bne_iff_ne]; omega
        have HF := hide (show rowB row = false from by unfold rowB; rw [decide_eq_false h4]; rfl)
        clear h4
        go_wp2
        go_ret
        exact ⟨ret_bool (by rw [HM.out, all_noG [] hlt (by rw [HX.out]; exact HF.out)]; rfl), below_quiet HB.out _⟩
    · have HA := hide (show rsOkB ⟨st, l⟩ = (stOkB st && (decide (l.length = 0) || decide (l.length = 4))) from by rw [HM.out, all_endG (by omega) H.out]; rfl)
      have fS1 := fS0.drewN d
      have k0 := k0.qt ⟨d, rfl⟩
      have c1 := k0.cell 0
      simp only [List.getElem?_toArray, List.getElem?_cons_zero] at c1
      clear fT0 fS0 H hW0
      go_wp2_with fail
      clear c1
      refine (implStepsOk_any S st cs lo hi _ hl1 (by exact fS1) (by show hi ≤ W0.heap.size; omega)).mono ?_
      rintro e w1 ⟨rfl, hB1⟩
      have k0 := k0.below hB1 (by show w.heap.size < W0.heap.size; omega)
      have hB2 := (below_quiet HB.out d).trans (hB1.mono (by show w.heap.size ≤ W0.heap.size; omega))
      clear hB1
      have c1 := k0.cell 1
      simp only [List.getElem?_toArray, List.getElem?_cons_succ, List.getElem?_cons_zero] at c1
      cases hst : stOkB st
      · have HF := hide (show false = rsOkB ⟨st, l⟩ from by rw [HA.out, hst]; rfl)
        clear hst
        go_wp2
        go_ret
        exact ⟨ret_bool HF.out, hB2⟩
      · by_cases h0 : l.length = 0
        · have hd : ((l.length : Int) == 0) = true := by rw [h0]; rfl
          have HF := hide (show true = rsOkB ⟨st, l⟩ from by rw [HA.out, hst, decide_eq_true h0]; rfl)
          clear hst h0
          go_wp2
          go_ret
          exact ⟨ret_bool HF.out, hB2⟩
        · have hd : ((l.length : Int) == 0) = false := by rw [beq_eq_false_iff_ne]; omega
          by_cases h4 : l.length = 4
          · have hd4 : ((l.length : Int) == 4) = true := by rw [h4]; rfl
            have HF := hide (show true = rsOkB ⟨st, l⟩ from by rw [HA.out, hst, decide_eq_true h4]; simp)
            clear hst h0 h4
            go_wp2
            go_ret
            exact ⟨ret_bool HF.out, hB2⟩
          · have hd4 : ((l.length : Int) == 4) = false := by rw [beq_eq_false_iff_ne]; omega
            have HF := hide (show false = rsOkB ⟨st, l⟩ from by rw [HA.out, hst, decide_eq_false h4, decide_eq_false h0]; rfl)
            clear hst h0 h4
            go_wp2
            go_ret
            exact ⟨ret_bool HF.out, hB2⟩
end Go.Proofs.YtcecgbjolngdbaaGreatDoor
