/- What is asked of a valid project: its machines, its setup times, its numbers. -/
import Derived.Test.YtfjohklcapekkaaKitMd
import Derived.Test.YtfjohklcapekkaaPrj2
namespace Go.Proofs.Ytfjohklcapekkaa
open Go.ChangeShapes Go.WideShapes Go.ChangeAt Go.RowKit
set_option linter.unusedVariables false

theorem hasResource_any (p : Pj) (A L R S : Option Addr) (ca cl cr cs : Nat) (a : Int) (w : World) (hs : p.res.length ≤ 16777216) :
    Calls Try.prog 77 #[.agg #[.int .i64 p.dead, .slice A p.acts.length ca, .slice L p.links.length cl, .slice R p.res.length cr, .slice S p.stocks.length cs], .int .i64 a] w fun e w' => e = .returned (.bool (decide (0 ≤ a ∧ a ≤ (p.res.length : Int) - 1))) ∧ Below w.heap.size w w' := by
  have HB2 : Hid (∀ o, Below w.heap.size w (w.alloc o)) := fun o => (Below.refl _ _).alloc (Nat.le_refl _) _
  by_cases h : 0 ≤ a ∧ a ≤ (p.res.length : Int) - 1
  · rw [decide_eq_true h]
    go_enter Try.func77, Try.ntmps77
    go_wp2_with fail
    refine (within_yes _ h).mono ?_
    rintro e w1 ⟨rfl, rfl⟩
    go_wp2
    go_ret
    exact ⟨rfl, HB2.out _⟩
  · rw [decide_eq_false h]
    go_enter Try.func77, Try.ntmps77
    go_wp2_with fail
    refine (within_no _ h).mono ?_
    rintro e w1 ⟨rfl, rfl⟩
    go_wp2
    go_ret
    exact ⟨rfl, HB2.out _⟩
set_option maxHeartbeats 1600000 in
theorem specIsMachine_any (p : Pj) (i : Int) (A L R S : Option Addr) (ca cl cr cs lo hi : Nat) (w : World) (hs : p.res.length ≤ 16777216) (fR : RdRs w lo hi R p.res) (hhi : hi ≤ w.heap.size) :
    Calls Try.prog 34 #[.agg #[.int .i64 p.dead, .slice A p.acts.length ca, .slice L p.links.length cl, .slice R p.res.length cr, .slice S p.stocks.length cs], .int .i64 i] w fun e w' => e = .returned (.bool (isMachB p i)) ∧ Below w.heap.size w w' := by
  by_cases h : 0 ≤ i ∧ i ≤ (p.res.length : Int) - 1
  case neg =>
    have HF := hide (isMachB_no h)
    have HB2 : Hid (∀ o, Below w.heap.size w (w.alloc o)) := fun o => (Below.refl _ _).alloc (Nat.le_refl _) _
    go_enter Try.func34, Try.ntmps34
    go_wp2_with fail
    refine (l01In_no _ h).mono ?_
    rintro e w1 ⟨rfl, rfl⟩
    have hB := HB2.out (.cells #[.int .i64 p.dead, .slice A p.acts.length ca, .slice L p.links.length cl, .slice R p.res.length cr, .slice S p.stocks.length cs] 53)
    go_wp2
    go_ret
    exact ⟨ret_bool HF.out, hB⟩
  obtain ⟨n, rfl⟩ : ∃ n : Nat, i = n := ⟨i.toNat, by omega⟩
  have HF := hide (isMachB_in h)
  go_enter Try.func34, Try.ntmps34
  go_wp2_with fail
  refine at_world fun W0 hW => ?_
  have z0 : W0.heap.size = w.heap.size + 1 := by rw [hW]; simp
  have hB0 : Below w.heap.size w W0 := by rw [hW]; exact (Below.refl _ _).alloc (Nat.le_refl _) _
  have k0 : Bk W0 w.heap.size 53 #[.int .i64 p.dead, .slice A p.acts.length ca, .slice L p.links.length cl, .slice R p.res.length cr, .slice S p.stocks.length cs] := by rw [hW]; exact Bk.made w _ _
  clear hW
  have fR := fR.below hB0 hhi
  refine (l01In_yes _ h).mono ?_
  rintro e w1 ⟨rfl, rfl⟩
  have hB := hB0
  have c3 := k0.cell 3
  simp only [List.getElem?_toArray, List.getElem?_cons_succ, List.getElem?_cons_zero] at c3
  obtain ⟨b, off, S1, cs1, T1, ct1, hR0, h1, h2, g0, g1, fS1, fT1⟩ := fR.at (k := n) (by omega)
  subst hR0
  have hn0 : (0 : Int) ≤ (n : Int) := by omega
  have hn1 : (n : Int) < (p.res.length : Int) := by omega
  have hn2 : n < p.res.length := by omega
  clear fR fS1 fT1
  generalize (p.res.getD n rs0).setup.length = m at g1 HF
  go_wp2
  go_ret
  exact ⟨ret_bool HF.out, hB⟩
set_option maxHeartbeats 1600000 in
theorem implIsMachine_any (p : Pj) (i : Int) (A L R S : Option Addr) (ca cl cr cs lo hi : Nat) (w : World) (hs : p.res.length ≤ 16777216) (fR : RdRs w lo hi R p.res) (hhi : hi ≤ w.heap.size) :
    Calls Try.prog 36 #[.agg #[.int .i64 p.dead, .slice A p.acts.length ca, .slice L p.links.length cl, .slice R p.res.length cr, .slice S p.stocks.length cs], .int .i64 i] w fun e w' => e = .returned (.bool (isMachB p i)) ∧ Below w.heap.size w w' := by
  by_cases h : 0 ≤ i ∧ i ≤ (p.res.length : Int) - 1
  case neg =>
    have HF := hide (isMachB_no h)
    have HB2 : Hid (∀ o, Below w.heap.size w (w.alloc o)) := fun o => (Below.refl _ _).alloc (Nat.le_refl _) _
    go_enter Try.func36, Try.ntmps36
    go_wp2_with fail
    refine (hasResource_any p A L R S ca cl cr cs i _ hs).mono ?_
    rintro e w1 ⟨rfl, hB1⟩
    rw [decide_eq_false h]
    have hB := (HB2.out _).trans (hB1.mono (by simp))
    go_wp2
    go_ret
    exact ⟨ret_bool HF.out, hB⟩
  obtain ⟨n, rfl⟩ : ∃ n : Nat, i = n := ⟨i.toNat, by omega⟩
  have HF := hide (isMachB_in h)
  go_enter Try.func36, Try.ntmps36
  go_wp2_with fail
  refine at_world fun W0 hW => ?_
  have z0 : W0.heap.size = w.heap.size + 1 := by rw [hW]; simp
  have hB0 : Below w.heap.size w W0 := by rw [hW]; exact (Below.refl _ _).alloc (Nat.le_refl _) _
  have k0 : Bk W0 w.heap.size 53 #[.int .i64 p.dead, .slice A p.acts.length ca, .slice L p.links.length cl, .slice R p.res.length cr, .slice S p.stocks.length cs] := by rw [hW]; exact Bk.made w _ _
  clear hW
  have fR := fR.below hB0 hhi
  refine (hasResource_any p A L R S ca cl cr cs n _ hs).mono ?_
  rintro e w1 ⟨rfl, hB1⟩
  rw [decide_eq_true h]
  have hB := hB0.trans (hB1.mono (by omega))
  have k0 := k0.below hB1 (by omega)
  have fR := fR.below hB1 (by omega)
  have c3 := k0.cell 3
  simp only [List.getElem?_toArray, List.getElem?_cons_succ, List.getElem?_cons_zero] at c3
  obtain ⟨b, off, S1, cs1, T1, ct1, hR0, h1, h2, g0, g1, fS1, fT1⟩ := fR.at (k := n) (by omega)
  subst hR0
  have hn0 : (0 : Int) ≤ (n : Int) := by omega
  have hn1 : (n : Int) < (p.res.length : Int) := by omega
  have hn2 : n < p.res.length := by omega
  clear fR fS1 fT1
  generalize (p.res.getD n rs0).setup.length = m at g1 HF
  go_wp2
  go_ret
  exact ⟨ret_bool HF.out, hB⟩
set_option maxHeartbeats 1600000 in
theorem specProjectStats_any (p : Pj) (A L R S : Option Addr) (ca cl cr cs lo hi : Nat) (w : World) (hs : szPj p ≤ 16777216) (fA : RdAs w lo hi A p.acts) (fL : RdLs w lo hi L p.links) (fR : RdRs w lo hi R p.res) (fS : RdI w lo hi S p.stocks) (hhi : hi ≤ w.heap.size) :
    Calls Try.prog 46 #[.agg #[.int .i64 p.dead, .slice A p.acts.length ca, .slice L p.links.length cl, .slice R p.res.length cr, .slice S p.stocks.length cs]] w fun e w' => ∃ A' c', e = .returned (.slice A' (statsM p).length c') ∧ OwnR w' w.heap.size w'.heap.size 3 1 A' (statsM p).length c' ((statsM p).map (.int .i64)) ∧ Below w.heap.size w w' := by
  have HSA := hide (show szL szAc p.acts ≤ 16777216 from by unfold szPj at hs; omega)
  have hl0 : p.acts.length ≤ 16777216 := Nat.le_trans (szL_len szAc _) HSA.out
  have hl1 : p.res.length ≤ 16777216 := by unfold szPj at hs; have := szL_len szRs p.res; omega
  have hl2 : p.stocks.length ≤ 16777216 := by unfold szPj at hs; omega
  have hl3 : p.links.length ≤ 16777216 := by unfold szPj at hs; omega
  have HM := hide (show statsM p = if pjOkB p = true then [(p.acts.length : Int), (modesTo p.acts p.acts.length : Int), (p.links.length : Int), (p.res.length : Int), (p.stocks.length : Int)] else [] from rfl)
  go_enter Try.func46, Try.ntmps46
  go_wp2_with fail
  refine at_world fun W0 hW => ?_
  have z0 : W0.heap.size = w.heap.size + 1 := by rw [hW]; simp
  have hB0 : Below w.heap.size w W0 := by rw [hW]; exact (Below.refl _ _).alloc (Nat.le_refl _) _
  have k0 : Bk W0 w.heap.size 53 #[.int .i64 p.dead, .slice A p.acts.length ca, .slice L p.links.length cl, .slice R p.res.length cr, .slice S p.stocks.length cs] := by rw [hW]; exact Bk.made w _ _
  clear hW
  refine (specProjectOk_any p A L R S ca cl cr cs lo hi W0 hs (fA.below hB0 hhi) (fL.below hB0 hhi) (fR.below hB0 hhi) (fS.below hB0 hhi) (by omega)).mono ?_
  rintro e W1 ⟨rfl, hB1⟩
  have hB := hB0.trans (hB1.mono (by omega))
  have k0 := k0.below hB1 (by omega)
  have z1 := hB1.size
  clear fL fR fS hB0 hB1 hs
  cases hok : pjOkB p
  · have HK := hide (show statsM p = [] from by rw [HM.out, hok]; rfl)
    clear hok
    go_wp2
    go_ret
    exact ⟨_, _, by rw [HK.out]; rfl, by rw [HK.out]; exact OwnR.empty _ _ _ _ _, hB⟩
  have HK := hide (show statsM p = [(p.acts.length : Int), (modesTo p.acts p.acts.length : Int), (p.links.length : Int), (p.res.length : Int), (p.stocks.length : Int)] from by rw [HM.out, hok]; rfl)
  have fA := fA.below hB hhi
  have c1 := k0.cell 1
  simp only [List.getElem?_toArray, List.getElem?_cons_succ, List.getElem?_cons_zero] at c1
  clear hok HM
  go_wp2
  clear c1
  go_loopw [3, 12] (fun v i wr => ∃ k : Nat, k ≤ p.acts.length ∧ i = .int .i64 k ∧ v = .int .i64 (modesTo p.acts k) ∧ Below W1.heap.size W1 wr) (fun _ i _ => p.acts.length - (intOf i).toNat)
  case atStart => exact ⟨0, Nat.zero_le _, rfl, rfl, Below.refl _ _⟩
  case round =>
    obtain ⟨k, hk, rfl, rfl, hBr⟩ := hrel
    have hsz := hBr.size
    have HLE := hide (modesTo_le (l := p.acts) (k := k))
    have hle : modesTo p.acts k ≤ 16777216 := by have := HLE.out; have := HSA.out; omega
    by_cases hlt : k < p.acts.length
    · have har := fA.below hBr (by omega)
      obtain ⟨b, off, M, cm, hA0, h1, h2, g0, g1, g2, fU⟩ := har.at hlt
      have HT := hide (modesTo_succ hlt)
      have hs3 : (p.acts.getD k ac0).modes.length ≤ 16777216 := by
        have := szL_at szAc ac0 hlt; have := HSA.out; have := szL_len szMd (p.acts.getD k ac0).modes
        have e : szAc (p.acts.getD k ac0) = (p.acts.getD k ac0).name.size + szL szMd (p.acts.getD k ac0).modes := rfl
        omega
      subst hA0
      clear har fA fU k0
      generalize p.acts.getD k ac0 = m at g0 g1 g2 HT hs3
      generalize modesTo p.acts k = q at HT hle
      generalize m.modes.length = t at g2 HT hs3
      go_wp2
      go_roundw
      case rel => exact ⟨k + 1, by omega, by go_num, val_int (by rw [HT.out]; push_cast; rfl), hBr.alloc hsz _⟩
      case measure => simp [intOf]; omega
    · obtain rfl : k = p.acts.length := by omega
      have k1 := k0.below hBr (by omega)
      have c1 := k1.cell 1
      have c2 := k1.cell 2
      have c3 := k1.cell 3
      have c4 := k1.cell 4
      simp only [List.getElem?_toArray, List.getElem?_cons_succ, List.getElem?_cons_zero] at c1 c2 c3 c4
      have hBw := hB.trans (hBr.mono (by omega))
      have hO := OwnR.made wr w.heap.size 3 1 #[.int .i64 p.acts.length, .int .i64 (modesTo p.acts p.acts.length), .int .i64 p.links.length, .int .i64 p.res.length, .int .i64 p.stocks.length] 5 (by omega) (by unfold maxLen; omega) rfl
      have HO := hide hO; clear hO
      generalize hq : modesTo p.acts p.acts.length = q at HK HO hle
      clear hq fA
      go_wp2
      go_ret
      exact ⟨_, _, by rw [HK.out]; rfl, by rw [HK.out]; exact HO.out.mono (Nat.le_refl _) (by simp), hBw.alloc (by omega) _⟩
set_option maxHeartbeats 1600000 in
theorem implProjectStats_any (p : Pj) (A L R S : Option Addr) (ca cl cr cs lo hi : Nat) (w : World) (hs : szPj p ≤ 16777216) (fA : RdAs w lo hi A p.acts) (fL : RdLs w lo hi L p.links) (fR : RdRs w lo hi R p.res) (fS : RdI w lo hi S p.stocks) (hhi : hi ≤ w.heap.size) :
    Calls Try.prog 47 #[.agg #[.int .i64 p.dead, .slice A p.acts.length ca, .slice L p.links.length cl, .slice R p.res.length cr, .slice S p.stocks.length cs]] w fun e w' => ∃ A' c', e = .returned (.slice A' (statsM p).length c') ∧ OwnR w' w.heap.size w'.heap.size 3 1 A' (statsM p).length c' ((statsM p).map (.int .i64)) ∧ Below w.heap.size w w' := by
  have HSA := hide (show szL szAc p.acts ≤ 16777216 from by unfold szPj at hs; omega)
  have hl0 : p.acts.length ≤ 16777216 := Nat.le_trans (szL_len szAc _) HSA.out
  have hl1 : p.res.length ≤ 16777216 := by unfold szPj at hs; have := szL_len szRs p.res; omega
  have hl2 : p.stocks.length ≤ 16777216 := by unfold szPj at hs; omega
  have hl3 : p.links.length ≤ 16777216 := by unfold szPj at hs; omega
  have HM := hide (show statsM p = if pjOkB p = true then [(p.acts.length : Int), (modesTo p.acts p.acts.length : Int), (p.links.length : Int), (p.res.length : Int), (p.stocks.length : Int)] else [] from rfl)
  go_enter Try.func47, Try.ntmps47
  go_wp2_with fail
  refine at_world fun W0 hW => ?_
  have z0 : W0.heap.size = w.heap.size + 1 := by rw [hW]; simp
  have hB0 : Below w.heap.size w W0 := by rw [hW]; exact (Below.refl _ _).alloc (Nat.le_refl _) _
  have k0 : Bk W0 w.heap.size 53 #[.int .i64 p.dead, .slice A p.acts.length ca, .slice L p.links.length cl, .slice R p.res.length cr, .slice S p.stocks.length cs] := by rw [hW]; exact Bk.made w _ _
  clear hW
  refine (implProjectOk_any p A L R S ca cl cr cs lo hi W0 hs (fA.below hB0 hhi) (fL.below hB0 hhi) (fR.below hB0 hhi) (fS.below hB0 hhi) (by omega)).mono ?_
  rintro e W1 ⟨rfl, hB1⟩
  have hB := hB0.trans (hB1.mono (by omega))
  have k0 := k0.below hB1 (by omega)
  have z1 := hB1.size
  clear fL fR fS hB0 hB1 hs
  cases hok : pjOkB p
  · have HK := hide (show statsM p = [] from by rw [HM.out, hok]; rfl)
    clear hok
    go_wp2
    go_ret
    exact ⟨_, _, by rw [HK.out]; rfl, by rw [HK.out]; exact OwnR.empty _ _ _ _ _, hB⟩
  have HK := hide (show statsM p = [(p.acts.length : Int), (modesTo p.acts p.acts.length : Int), (p.links.length : Int), (p.res.length : Int), (p.stocks.length : Int)] from by rw [HM.out, hok]; rfl)
  have fA := fA.below hB hhi
  have c1 := k0.cell 1
  simp only [List.getElem?_toArray, List.getElem?_cons_succ, List.getElem?_cons_zero] at c1
  clear hok HM
  go_wp2
  clear c1
  go_loopw [3, 12] (fun v i wr => ∃ k : Nat, k ≤ p.acts.length ∧ i = .int .i64 k ∧ v = .int .i64 (modesTo p.acts k) ∧ Below W1.heap.size W1 wr) (fun _ i _ => p.acts.length - (intOf i).toNat)
  case atStart => exact ⟨0, Nat.zero_le _, rfl, rfl, Below.refl _ _⟩
  case round =>
    obtain ⟨k, hk, rfl, rfl, hBr⟩ := hrel
    have hsz := hBr.size
    have HLE := hide (modesTo_le (l := p.acts) (k := k))
    have hle : modesTo p.acts k ≤ 16777216 := by have := HLE.out; have := HSA.out; omega
    by_cases hlt : k < p.acts.length
    · have har := fA.below hBr (by omega)
      obtain ⟨b, off, M, cm, hA0, h1, h2, g0, g1, g2, fU⟩ := har.at hlt
      have HT := hide (modesTo_succ hlt)
      have hs3 : (p.acts.getD k ac0).modes.length ≤ 16777216 := by
        have := szL_at szAc ac0 hlt; have := HSA.out; have := szL_len szMd (p.acts.getD k ac0).modes
        have e : szAc (p.acts.getD k ac0) = (p.acts.getD k ac0).name.size + szL szMd (p.acts.getD k ac0).modes := rfl
        omega
      subst hA0
      clear har fA fU k0
      generalize p.acts.getD k ac0 = m at g0 g1 g2 HT hs3
      generalize modesTo p.acts k = q at HT hle
      generalize m.modes.length = t at g2 HT hs3
      go_wp2
      go_roundw
      case rel => exact ⟨k + 1, by omega, by go_num, val_int (by rw [HT.out]; push_cast; rfl), hBr.alloc hsz _⟩
      case measure => simp [intOf]; omega
    · obtain rfl : k = p.acts.length := by omega
      have k1 := k0.below hBr (by omega)
      have c1 := k1.cell 1
      have c2 := k1.cell 2
      have c3 := k1.cell 3
      have c4 := k1.cell 4
      simp only [List.getElem?_toArray, List.getElem?_cons_succ, List.getElem?_cons_zero] at c1 c2 c3 c4
      have hBw := hB.trans (hBr.mono (by omega))
      have hO := OwnR.made wr w.heap.size 3 1 #[.int .i64 p.acts.length, .int .i64 (modesTo p.acts p.acts.length), .int .i64 p.links.length, .int .i64 p.res.length, .int .i64 p.stocks.length] 5 (by omega) (by unfold maxLen; omega) rfl
      have HO := hide hO; clear hO
      generalize hq : modesTo p.acts p.acts.length = q at HK HO hle
      clear hq fA
      go_wp2
      go_ret
      exact ⟨_, _, by rw [HK.out]; rfl, by rw [HK.out]; exact HO.out.mono (Nat.le_refl _) (by simp), hBw.alloc (by omega) _⟩
end Go.Proofs.Ytfjohklcapekkaa
