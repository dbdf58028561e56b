/- The shortest and the longest duration, the chosen modes. -/
import Derived.Test.YtcecgbjolngdbaaGreatDoorKitMd
import Derived.Test.YtcecgbjolngdbaaGreatDoorLawAc
import Derived.Test.YtcecgbjolngdbaaGreatDoorModes
namespace Go.Proofs.YtcecgbjolngdbaaGreatDoor
open Go.ChangeShapes Go.WideShapes Go.ChangeAt Go.RowKit
set_option linter.unusedVariables false

set_option maxHeartbeats 3200000 in
theorem chosen_any (a : Ac) (s : List Int) (M B : Option Addr) (cm cb lo hi lo' hi' : Nat) (w : World) (hm : a.modes.length ≤ 16777216) (hs : s.length ≤ 16777216) (fM : RdMs w lo hi M a.modes) (fS : RdI w lo' hi' B s) (hhi : hi ≤ w.heap.size) (hhi' : hi' ≤ w.heap.size) :
    Calls Tryz.prog 87 #[.agg #[.string a.name, .int .i64 a.fam, .slice M a.modes.length cm], .slice B s.length cb] w fun e w' => ∃ A' c', e = .returned (.slice A' (chosenTo a.modes s a.modes.length).length c') ∧ RdMs w' 0 w'.heap.size A' (chosenTo a.modes s a.modes.length) ∧ Below w.heap.size w w' := by
  obtain ⟨nm, fam, l⟩ := a
  simp only at hm fM ⊢
  have HO0 := hide (OwnR.made (w.alloc (.cells #[.string nm, .int .i64 fam, .slice M l.length cm] 46)) w.heap.size 53 3 #[] 0 (by simp) (by unfold maxLen; omega) rfl)
  go_enter Tryz.func87, Tryz.ntmps87
  go_wp2
  go_loopw [5, 12] (fun v i wr => ∃ (k : Nat) (A : Option Addr) (c : Nat) (xs : List Value), k ≤ l.length ∧ i = .int .i64 k ∧ v = .slice A (chosenTo l s k).length c ∧ OwnR wr w.heap.size wr.heap.size 53 3 A (chosenTo l s k).length c xs ∧ Part 3 (Lent RdM lo hi) md0 w xs (chosenTo l s k) (chosenTo l s k).length [] ∧ Below w.heap.size w wr) (fun _ i _ => l.length - (intOf i).toNat)
  case atStart => exact ⟨0, _, _, [], Nat.zero_le _, rfl, rfl, by simpa [chosenTo] using HO0.out, Part.nil_, ((Below.refl _ _).alloc (Nat.le_refl _) _).alloc (by simp) _⟩
  case round =>
    obtain ⟨k, A1, c1, xs, hk, rfl, rfl, hO, hP, hB⟩ := hrel
    clear HO0
    by_cases hlt : k < l.length
    · have har := fM.below hB hhi
      have fS1 := fS.below hB hhi'
      have hsz := hB.size
      obtain ⟨b, off, U, cu, C, cc, rfl, h1, h2, g0, g1, g2, fU, fC⟩ := har.at hlt
      have HT : Hid (chosenTo l s (k + 1) = if hasB s k then chosenTo l s k ++ [l.getD k md0] else chosenTo l s k) := rfl
      have HL := hide (chosenTo_len l s k)
      have HR : Hid (RdM w lo hi #[.int .i64 (l.getD k md0).dur, .slice U (l.getD k md0).use.length cu, .slice C (l.getD k md0).con.length cc] (l.getD k md0)) :=
        ⟨U, cu, C, cc, rfl, fU.keep fun i _ h => ((hB.block i (by omega))).symm, fC.keep fun i _ h => ((hB.block i (by omega))).symm⟩
      clear har fM fU fC
      generalize l.getD k md0 = m at g0 g1 g2 HT HR
      generalize hC : chosenTo l s k = D at hO hP HT HL
      clear hC
      have hD : D.length ≤ 16777216 := by have := HL.out; omega
      have FS : Hid (∀ o, RdI (wr.alloc o) lo' hi' B s) := fun o => fS1.below ((Below.refl wr.heap.size wr).alloc (Nat.le_refl _) o) (by omega)
      clear fS1
      have HP := hide hP; clear hP
      have HN : Hid (∀ (d : Nat) (j : Nat) (u : Value), [Value.int .i64 m.dur, .slice U m.use.length cu, .slice C m.con.length cc][j]? = some u → (((wr.alloc (.cells #[.int .i64 m.dur, .slice U m.use.length cu, .slice C m.con.length cc] 53)).drewN d).alloc (.cells #[.int .i64 m.dur, .slice U m.use.length cu, .slice C m.con.length cc] 53)).cell? ⟨wr.heap.size + 1, 0 + j, none⟩ = some u) := by
        intro d j u hj
        have := three_new ((wr.alloc (.cells #[.int .i64 m.dur, .slice U m.use.length cu, .slice C m.con.length cc] 53)).drewN d) (.int .i64 m.dur) (.slice U m.use.length cu) (.slice C m.con.length cc) 53 j u hj
        simpa using this
      go_wp2_with fail
      refine (implSetHas_any B s cb lo' hi' k _ hs (by exact FS.out _)).mono ?_
      rintro e w1 ⟨rfl, ⟨d, rfl⟩⟩
      cases hh : hasB s k
      · have HH := hide (show chosenTo l s (k + 1) = D from by rw [HT.out, hh]; rfl)
        clear hh HT
        go_wp2
        go_roundw
        case rel => exact ⟨k + 1, A1, c1, xs, by omega, by go_num, by rw [HH.out], by rw [HH.out]; exact ((hO.alloc _).drewN _).mono (Nat.le_refl _) (by simp), by rw [HH.out]; exact HP.out, below_quiet (hB.alloc hsz _) _⟩
        case measure => simp [intOf]; omega
      · have HH := hide (show chosenTo l s (k + 1) = D ++ [m] from by rw [HT.out, hh]; rfl)
        clear hh HT
        have HX := hide hO.len
        go_wp2_with (at_builtin; go_must (refine wpList_push _ (.tmp 20) (.tmp 22) 44 53 _ 3 56 Tryz.underlying44 Tryz.infoMd rfl (by omega) w.heap.size _ A1 D.length c1 xs (((hO.alloc _).drewN _).alloc _) (wr.heap.size + 1) 0 1 1 [.int .i64 m.dur, .slice U m.use.length cu, .slice C m.con.length cc] rfl (HN.out _) (three_cell rfl rfl rfl) (by omega) (by omega) (by simp; omega) w.heap.size w ((below_quiet (hB.alloc hsz _) _).alloc (by simp; omega) _) (Nat.le_refl _) ?_ rfl rfl rfl rfl))
        intro A' c' w' hO' hB' hs' _
        clear hO hB
        go_wp2
        go_roundw
        case rel => exact ⟨k + 1, A', c', _, by omega, by go_num, by rw [HH.out]; simp, hO'.eqn (by rw [HH.out]; simp) rfl, by rw [HH.out]; exact HP.out.push_ HX.out (v := #[.int .i64 m.dur, .slice U m.use.length cu, .slice C m.con.length cc]) rfl ⟨HR.out, rfl⟩, hB'⟩
        case measure => simp [intOf]; omega
    · obtain rfl : k = l.length := by omega
      go_wp2
      go_ret
      have hP' : Part 3 (Lent RdM lo hi) md0 wr xs (chosenTo l s l.length) (chosenTo l s l.length).length [] := hP.imp_ fun v a bs h => ⟨RdMs.keeps _ _ _ _ _ _ (fun i _ h => hB.block i (by omega)) h.1, h.2⟩
      exact ⟨_, _, rfl, lent_rd RdMs.monos hO hP' (Nat.zero_le _) (Nat.le_refl _) (Nat.zero_le _) (by have := hB.size; omega), hB⟩
set_option maxHeartbeats 1600000 in
theorem implMinDuration_any (a : Ac) (s : List Int) (M B : Option Addr) (cm cb lo hi lo' hi' : Nat) (w : World) (hm : a.modes.length ≤ 16777216) (hs : s.length ≤ 16777216) (fM : RdMs w lo hi M a.modes) (fS : RdI w lo' hi' B s) (hhi : hi ≤ w.heap.size) (hhi' : hi' ≤ w.heap.size) :
    Calls Tryz.prog 24 #[.agg #[.string a.name, .int .i64 a.fam, .slice M a.modes.length cm], .slice B s.length cb] w fun e w' => e = .returned (.int .i64 (minDur a.modes s)) ∧ Below w.heap.size w w' := by
  have HM : Hid (minDur a.modes s = leastD (chosenTo a.modes s a.modes.length)) := rfl
  have HL := hide (chosenTo_len a.modes s a.modes.length)
  have HB0 : Hid (∀ o, Below w.heap.size w (w.alloc o)) := fun o => (Below.refl _ _).alloc (Nat.le_refl _) _
  go_enter Tryz.func24, Tryz.ntmps24
  go_wp2_with fail
  refine (chosen_any a s M B cm cb lo hi lo' hi' _ hm hs (by exact fM.below (HB0.out _) hhi) (by exact fS.below (HB0.out _) hhi') (by simp; omega) (by simp; omega)).mono ?_
  rintro e W0 ⟨A', c', rfl, fD, hB1⟩
  have hB0 := (HB0.out _).trans (hB1.mono (by simp))
  clear hB1 fM fS
  generalize chosenTo a.modes s a.modes.length = D at HM HL fD
  have hD : D.length ≤ 16777216 := by have := HL.out; omega
  go_wp2
  go_loopw [5, 12] (fun v i wr => ∃ k : Nat, k ≤ D.length ∧ i = .int .i64 k ∧ v = .int .i64 (leastD (D.take k)) ∧ Below W0.heap.size W0 wr) (fun _ i _ => D.length - (intOf i).toNat)
  case atStart => exact ⟨0, Nat.zero_le _, rfl, rfl, Below.refl _ _⟩
  case round =>
    obtain ⟨k, hk, rfl, rfl, hB⟩ := hrel
    by_cases hlt : k < D.length
    · have har := fD.below hB (Nat.le_refl _)
      have hsz := hB.size
      obtain ⟨b, off, U, cu, C, cc, rfl, h1, h2, g0, g1, g2, fU, fC⟩ := har.at hlt
      have HT := hide (take_snoc md0 hlt)
      clear har fD fU fC
      generalize D.getD k md0 = m at g0 g1 g2 HT
      have HN := hide (leastD_snoc (D.take k) m)
      have HZ : Hid ((D.take k).length = k) := by rw [List.length_take]; exact hide (by omega)
      generalize leastD (D.take k) = n at HN
      by_cases hk0 : k = 0
      · have hd : ((k : Int) == 0) = true := by rw [hk0]; rfl
        have HK := hide hk0; clear hk0
        go_wp2
        go_roundw
        case rel => exact ⟨k + 1, by omega, by go_num, by rw [HT.out, HN.out, if_pos (.inl (by rw [HZ.out]; exact HK.out))], hB.alloc hsz _⟩
        case measure => simp [intOf]; omega
      · have hd : ((k : Int) == 0) = false := by rw [beq_eq_false_iff_ne]; omega
        have hd2 : ¬ (k : Int) = 0 := by omega
        by_cases hlt2 : m.dur < n
        · go_wp2
          go_roundw
          case rel => exact ⟨k + 1, by omega, by go_num, by rw [HT.out, HN.out, if_pos (.inr hlt2)], hB.alloc hsz _⟩
          case measure => simp [intOf]; omega
        · go_wp2
          go_roundw
          case rel => exact ⟨k + 1, by omega, by go_num, by rw [HT.out, HN.out, if_neg (by rw [not_or, HZ.out]; exact ⟨hk0, by omega⟩)], hB.alloc hsz _⟩
          case measure => simp [intOf]; omega
    · obtain rfl : k = D.length := by omega
      go_wp2
      go_ret
      exact ⟨ret_int (by rw [HM.out, List.take_length]), hB0.trans (hB.mono hB0.size)⟩
set_option maxHeartbeats 1600000 in
theorem implMaxDuration_any (a : Ac) (s : List Int) (M B : Option Addr) (cm cb lo hi lo' hi' : Nat) (w : World) (hm : a.modes.length ≤ 16777216) (hs : s.length ≤ 16777216) (fM : RdMs w lo hi M a.modes) (fS : RdI w lo' hi' B s) (hhi : hi ≤ w.heap.size) (hhi' : hi' ≤ w.heap.size) :
    Calls Tryz.prog 25 #[.agg #[.string a.name, .int .i64 a.fam, .slice M a.modes.length cm], .slice B s.length cb] w fun e w' => e = .returned (.int .i64 (maxDur a.modes s)) ∧ Below w.heap.size w w' := by
  have HM : Hid (maxDur a.modes s = mostD (chosenTo a.modes s a.modes.length)) := rfl
  have HL := hide (chosenTo_len a.modes s a.modes.length)
  have HB0 : Hid (∀ o, Below w.heap.size w (w.alloc o)) := fun o => (Below.refl _ _).alloc (Nat.le_refl _) _
  go_enter Tryz.func25, Tryz.ntmps25
  go_wp2_with fail
  refine (chosen_any a s M B cm cb lo hi lo' hi' _ hm hs (by exact fM.below (HB0.out _) hhi) (by exact fS.below (HB0.out _) hhi') (by simp; omega) (by simp; omega)).mono ?_
  rintro e W0 ⟨A', c', rfl, fD, hB1⟩
  have hB0 := (HB0.out _).trans (hB1.mono (by simp))
  clear hB1 fM fS
  generalize chosenTo a.modes s a.modes.length = D at HM HL fD
  have hD : D.length ≤ 16777216 := by have := HL.out; omega
  go_wp2
  go_loopw [5, 12] (fun v i wr => ∃ k : Nat, k ≤ D.length ∧ i = .int .i64 k ∧ v = .int .i64 (mostD (D.take k)) ∧ Below W0.heap.size W0 wr) (fun _ i _ => D.length - (intOf i).toNat)
  case atStart => exact ⟨0, Nat.zero_le _, rfl, rfl, Below.refl _ _⟩
  case round =>
    obtain ⟨k, hk, rfl, rfl, hB⟩ := hrel
    by_cases hlt : k < D.length
    · have har := fD.below hB (Nat.le_refl _)
      have hsz := hB.size
      obtain ⟨b, off, U, cu, C, cc, rfl, h1, h2, g0, g1, g2, fU, fC⟩ := har.at hlt
      have HT := hide (take_snoc md0 hlt)
      clear har fD fU fC
      generalize D.getD k md0 = m at g0 g1 g2 HT
      have HN := hide (mostD_snoc (D.take k) m)
      have HZ : Hid ((D.take k).length = k) := by rw [List.length_take]; exact hide (by omega)
      generalize mostD (D.take k) = n at HN
      by_cases hk0 : k = 0
      · have hd : ((k : Int) == 0) = true := by rw [hk0]; rfl
        have HK := hide hk0; clear hk0
        go_wp2
        go_roundw
        case rel => exact ⟨k + 1, by omega, by go_num, by rw [HT.out, HN.out, if_pos (.inl (by rw [HZ.out]; exact HK.out))], hB.alloc hsz _⟩
        case measure => simp [intOf]; omega
      · have hd : ((k : Int) == 0) = false := by rw [beq_eq_false_iff_ne]; omega
        have hd2 : ¬ (k : Int) = 0 := by omega
        by_cases hlt2 : n < m.dur
        · go_wp2
          go_roundw
          case rel => exact ⟨k + 1, by omega, by go_num, by rw [HT.out, HN.out, if_pos (.inr hlt2)], hB.alloc hsz _⟩
          case measure => simp [intOf]; omega
        · go_wp2
          go_roundw
          case rel => exact ⟨k + 1, by omega, by go_num, by rw [HT.out, HN.out, if_neg (by rw [not_or, HZ.out]; exact ⟨hk0, by omega⟩)], hB.alloc hsz _⟩
          case measure => simp [intOf]; omega
    · obtain rfl : k = D.length := by omega
      go_wp2
      go_ret
      exact ⟨ret_int (by rw [HM.out, List.take_length]), hB0.trans (hB.mono hB0.size)⟩
end Go.Proofs.YtcecgbjolngdbaaGreatDoor
