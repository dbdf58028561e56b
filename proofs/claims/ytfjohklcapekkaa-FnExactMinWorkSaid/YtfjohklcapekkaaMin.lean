/- The least usage, consumption, work of the chosen modes. -/
import Derived.Test.YtfjohklcapekkaaKitMd
import Derived.Test.YtfjohklcapekkaaModes2
namespace Go.Proofs.Ytfjohklcapekkaa
open Go.ChangeShapes Go.WideShapes Go.ChangeAt Go.RowKit
set_option linter.unusedVariables false

theorem chosenTo_no {l : List Md} {s : List Int} {k : Nat} (h : hasB s k = false) : chosenTo l s (k + 1) = chosenTo l s k := by rw [chosenTo, h]; rfl
theorem chosenTo_yes {l : List Md} {s : List Int} {k : Nat} (h : hasB s k = true) : chosenTo l s (k + 1) = chosenTo l s k ++ [l.getD k md0] := by rw [chosenTo, h]; rfl
theorem useO_some {i : Int} {m : Md} (h : 0 ≤ i ∧ i ≤ (m.use.length : Int) - 1) : someO (useO i) m = true ∧ valO (useO i) m = m.use.getD i.toNat 0 := by unfold someO valO useO; rw [elemO_yes h]; exact ⟨rfl, rfl⟩
theorem conO_some {i : Int} {m : Md} (h : 0 ≤ i ∧ i ≤ (m.con.length : Int) - 1) : someO (conO i) m = true ∧ valO (conO i) m = m.con.getD i.toNat 0 := by unfold someO valO conO; rw [elemO_yes h]; exact ⟨rfl, rfl⟩
theorem workO_some {i : Int} {m : Md} (h : 0 ≤ i ∧ i ≤ (m.use.length : Int) - 1) : someO (workO i) m = true ∧ valO (workO i) m = wrap64 (m.dur * m.use.getD i.toNat 0) := by unfold someO valO workO; rw [elemO_yes h]; exact ⟨rfl, rfl⟩
theorem useO_none {i : Int} {m : Md} (h : ¬ (0 ≤ i ∧ i ≤ (m.use.length : Int) - 1)) : someO (useO i) m = false ∧ valO (useO i) m = 0 := by unfold someO valO useO; rw [elemO_no h]; exact ⟨rfl, rfl⟩
theorem conO_none {i : Int} {m : Md} (h : ¬ (0 ≤ i ∧ i ≤ (m.con.length : Int) - 1)) : someO (conO i) m = false ∧ valO (conO i) m = 0 := by unfold someO valO conO; rw [elemO_no h]; exact ⟨rfl, rfl⟩
theorem workO_none {i : Int} {m : Md} (h : ¬ (0 ≤ i ∧ i ≤ (m.use.length : Int) - 1)) : someO (workO i) m = false ∧ valO (workO i) m = 0 := by unfold someO valO workO; rw [elemO_no h]; exact ⟨rfl, rfl⟩
set_option maxHeartbeats 3200000 in
theorem specLeastUse_any (a : Ac) (s : List Int) (i : Int) (M B : Option Addr) (cm cb lo hi lo' hi' : Nat) (w : World) (hm : a.modes.length ≤ 16777216) (hsm : szL szMd a.modes ≤ 16777216) (hs : s.length ≤ 16777216) (fM : RdMs w lo hi M a.modes) (fS : RdI w lo' hi' B s) (hhi : hi ≤ w.heap.size) (hhi' : hi' ≤ w.heap.size) :
    Calls Try.prog 63 #[.agg #[.string a.name, .int .i64 a.fam, .slice M a.modes.length cm], .slice B s.length cb, .int .i64 i, .bool false, .bool false] w fun e w' => e = .returned (.int .i64 (leastM (useO i) (chosenTo a.modes s a.modes.length))) ∧ Below w.heap.size w w' := by
  obtain ⟨nm, fam, l⟩ := a
  simp only at hm hsm fM ⊢
  have HSM := hide hsm; clear hsm
  go_enter Try.func63, Try.ntmps63
  go_wp2
  go_loopw [11, 12, 20] (fun v h j wr => ∃ (k : Nat) (hb : Bool), k ≤ l.length ∧ j = .int .i64 k ∧ v = .int .i64 (leastV ((chosenTo l s k).map (valO (useO i)))) ∧ h = .bool hb ∧ Hid (hb = decide (0 < (chosenTo l s k).length)) ∧ Hid ((chosenTo l s k).all (someO (useO i)) = true) ∧ Below w.heap.size w wr) (fun _ _ j _ => l.length - (intOf j).toNat)
  case atStart => exact ⟨0, false, Nat.zero_le _, rfl, rfl, rfl, hide rfl, hide rfl, (Below.refl _ _).alloc (Nat.le_refl _) _⟩
  case round =>
    obtain ⟨k, hb, hk, rfl, rfl, rfl, HB, HA, hB⟩ := hrel
    by_cases hlt : k < l.length
    · have har := fM.below hB hhi
      have fS1 := fS.below hB hhi'
      have hsz := hB.size
      obtain ⟨b, off, U, cu, C, cc, rfl, h1, h2, g0, g1, g2, fU, fC⟩ := har.at hlt
      have HN := hide (chosenTo_no (l := l) (s := s) (k := k))
      have HY := hide (chosenTo_yes (l := l) (s := s) (k := k))
      have hs3 : szMd (l.getD k md0) ≤ 16777216 := by have := szL_at szMd md0 hlt; have := HSM.out; omega
      clear har fM
      generalize l.getD k md0 = m at g0 g1 g2 HY fU fC hs3
      have hs4 : (m.use).length ≤ 16777216 := by unfold szMd at hs3; omega
      have HSN := hide (leastV_snoc ((chosenTo l s k).map (valO (useO i))) (valO (useO i) m))
      have HLM : Hid (((chosenTo l s k).map (valO (useO i))).length = (chosenTo l s k).length) := List.length_map _
      have HAS : Hid (someO (useO i) m = true → (chosenTo l s k ++ [m]).all (someO (useO i)) = true) := fun h => by rw [List.all_append, HA.out, List.all_cons, h]; rfl
      have HNO : Hid (hasB s k = true → someO (useO i) m = false → (0 : Int) = leastM (useO i) (chosenTo l s l.length)) := fun h1 h2 => (leastM_no (chosenTo_sub (k := k + 1) (by omega) (by rw [HY.out h1]; simp)) h2).symm
      have FS : Hid (∀ o, RdI (wr.alloc o) lo' hi' B s) := fun o => fS1.below ((Below.refl wr.heap.size wr).alloc (Nat.le_refl _) o) (by omega)
      clear fS1
      have HFX := hide fU; clear fU fC
      go_wp2_with fail
      refine (specSetHas_any B s cb lo' hi' k _ hs (by exact FS.out _)).mono ?_
      rintro e w1 ⟨rfl, ⟨d, rfl⟩⟩
      cases hh : hasB s k
      · have HH := hide (HN.out hh)
        clear hh HN HY HNO
        go_wp2
        go_roundw
        case rel => exact ⟨k + 1, hb, by omega, by go_num, by rw [HH.out], rfl, by rw [HH.out]; exact HB, by rw [HH.out]; exact HA, below_quiet (hB.alloc hsz _) _⟩
        case measure => simp [intOf]; omega
      · have HH := hide (HY.out hh)
        have HNO := hide (HNO.out hh)
        clear hh HN HY
        by_cases hin : 0 ≤ i ∧ i ≤ ((m.use).length : Int) - 1
        case neg =>
          have HZ := hide (HNO.out (useO_none hin).1)
          go_wp2_with fail
          refine (l01In_no _ hin).mono ?_
          rintro e w2 ⟨rfl, rfl⟩
          go_wp2
          go_ret
          exact ⟨ret_int HZ.out, below_quiet (hB.alloc hsz _) _⟩
        obtain ⟨hso, hva⟩ := useO_some hin
        have HAS := hide (HAS.out hso)
        have HVA := hide hva
        clear hso hva HNO
        obtain ⟨bb, oo, hbb, hb1, hb2, hcc0⟩ := HFX.out (by omega)
        have hcc := hcc0 i.toNat (by omega)
        clear hcc0
        have hi0 := hin.1
        have hi1 : i < ((m.use).length : Int) := by omega
        subst hbb
        have q0 := fun o => (World.cell?_alloc_lt wr o ⟨bb, oo + i.toNat, none⟩ (by show bb < _; omega)).trans hcc
        clear HFX hcc
        go_wp2_with fail
        refine (l01In_yes _ hin).mono ?_
        rintro e w2 ⟨rfl, rfl⟩
        generalize (m.use).getD i.toNat 0 = X at q0 HVA
        have hva2 : valO (useO i) m = X := by first | exact HVA.out | (rw [HVA.out, Int.mul_comm])
        have HVV := hide hva2; clear hva2
        rw [HVV.out] at HSN
        generalize leastV ((chosenTo l s k).map (valO (useO i))) = n at HSN
        cases hb
        · have hz := hide (show (chosenTo l s k).length = 0 from by have := HB.out.symm; rw [decide_eq_false_iff_not] at this; omega)
          go_wp2
          go_roundw
          case rel => exact ⟨k + 1, true, by omega, by go_num, by rw [HH.out, List.map_append, List.map_cons, List.map_nil, HVV.out, HSN.out, if_pos (.inl (by rw [HLM.out]; exact hz.out))], rfl, by rw [HH.out]; exact hide (by simp), by rw [HH.out]; exact HAS, below_quiet (hB.alloc hsz _) _⟩
          case measure => simp [intOf]; omega
        · have hz := hide (show ¬ (chosenTo l s k).length = 0 from by have := HB.out.symm; rw [decide_eq_true_eq] at this; omega)
          by_cases hlt2 : X < n
          · go_wp2
            go_roundw
            case rel => exact ⟨k + 1, true, by omega, by go_num, by rw [HH.out, List.map_append, List.map_cons, List.map_nil, HVV.out, HSN.out, if_pos (.inr hlt2)], rfl, by rw [HH.out]; exact hide (by simp), by rw [HH.out]; exact HAS, below_quiet (hB.alloc hsz _) _⟩
            case measure => simp [intOf]; omega
          · go_wp2
            go_roundw
            case rel => exact ⟨k + 1, true, by omega, by go_num, by rw [HH.out, List.map_append, List.map_cons, List.map_nil, HVV.out, HSN.out, if_neg (by rw [not_or, HLM.out]; exact ⟨hz.out, by omega⟩)], rfl, by rw [HH.out]; exact hide (by simp), by rw [HH.out]; exact HAS, below_quiet (hB.alloc hsz _) _⟩
            case measure => simp [intOf]; omega
    · obtain rfl : k = l.length := by omega
      have HZ := hide (leastM_yes HA.out)
      go_wp2
      go_ret
      exact ⟨ret_int HZ.out.symm, hB⟩
set_option maxHeartbeats 3200000 in
theorem specLeastCon_any (a : Ac) (s : List Int) (i : Int) (M B : Option Addr) (cm cb lo hi lo' hi' : Nat) (w : World) (hm : a.modes.length ≤ 16777216) (hsm : szL szMd a.modes ≤ 16777216) (hs : s.length ≤ 16777216) (fM : RdMs w lo hi M a.modes) (fS : RdI w lo' hi' B s) (hhi : hi ≤ w.heap.size) (hhi' : hi' ≤ w.heap.size) :
    Calls Try.prog 63 #[.agg #[.string a.name, .int .i64 a.fam, .slice M a.modes.length cm], .slice B s.length cb, .int .i64 i, .bool true, .bool false] w fun e w' => e = .returned (.int .i64 (leastM (conO i) (chosenTo a.modes s a.modes.length))) ∧ Below w.heap.size w w' := by
  obtain ⟨nm, fam, l⟩ := a
  simp only at hm hsm fM ⊢
  have HSM := hide hsm; clear hsm
  go_enter Try.func63, Try.ntmps63
  go_wp2
  go_loopw [11, 12, 20] (fun v h j wr => ∃ (k : Nat) (hb : Bool), k ≤ l.length ∧ j = .int .i64 k ∧ v = .int .i64 (leastV ((chosenTo l s k).map (valO (conO i)))) ∧ h = .bool hb ∧ Hid (hb = decide (0 < (chosenTo l s k).length)) ∧ Hid ((chosenTo l s k).all (someO (conO i)) = true) ∧ Below w.heap.size w wr) (fun _ _ j _ => l.length - (intOf j).toNat)
  case atStart => exact ⟨0, false, Nat.zero_le _, rfl, rfl, rfl, hide rfl, hide rfl, (Below.refl _ _).alloc (Nat.le_refl _) _⟩
  case round =>
    obtain ⟨k, hb, hk, rfl, rfl, rfl, HB, HA, hB⟩ := hrel
    by_cases hlt : k < l.length
    · have har := fM.below hB hhi
      have fS1 := fS.below hB hhi'
      have hsz := hB.size
      obtain ⟨b, off, U, cu, C, cc, rfl, h1, h2, g0, g1, g2, fU, fC⟩ := har.at hlt
      have HN := hide (chosenTo_no (l := l) (s := s) (k := k))
      have HY := hide (chosenTo_yes (l := l) (s := s) (k := k))
      have hs3 : szMd (l.getD k md0) ≤ 16777216 := by have := szL_at szMd md0 hlt; have := HSM.out; omega
      clear har fM
      generalize l.getD k md0 = m at g0 g1 g2 HY fU fC hs3
      have hs4 : (m.con).length ≤ 16777216 := by unfold szMd at hs3; omega
      have HSN := hide (leastV_snoc ((chosenTo l s k).map (valO (conO i))) (valO (conO i) m))
      have HLM : Hid (((chosenTo l s k).map (valO (conO i))).length = (chosenTo l s k).length) := List.length_map _
      have HAS : Hid (someO (conO i) m = true → (chosenTo l s k ++ [m]).all (someO (conO i)) = true) := fun h => by rw [List.all_append, HA.out, List.all_cons, h]; rfl
      have HNO : Hid (hasB s k = true → someO (conO i) m = false → (0 : Int) = leastM (conO i) (chosenTo l s l.length)) := fun h1 h2 => (leastM_no (chosenTo_sub (k := k + 1) (by omega) (by rw [HY.out h1]; simp)) h2).symm
      have FS : Hid (∀ o, RdI (wr.alloc o) lo' hi' B s) := fun o => fS1.below ((Below.refl wr.heap.size wr).alloc (Nat.le_refl _) o) (by omega)
      clear fS1
      have HFX := hide fC; clear fU fC
      go_wp2_with fail
      refine (specSetHas_any B s cb lo' hi' k _ hs (by exact FS.out _)).mono ?_
      rintro e w1 ⟨rfl, ⟨d, rfl⟩⟩
      cases hh : hasB s k
      · have HH := hide (HN.out hh)
        clear hh HN HY HNO
        go_wp2
        go_roundw
        case rel => exact ⟨k + 1, hb, by omega, by go_num, by rw [HH.out], rfl, by rw [HH.out]; exact HB, by rw [HH.out]; exact HA, below_quiet (hB.alloc hsz _) _⟩
        case measure => simp [intOf]; omega
      · have HH := hide (HY.out hh)
        have HNO := hide (HNO.out hh)
        clear hh HN HY
        by_cases hin : 0 ≤ i ∧ i ≤ ((m.con).length : Int) - 1
        case neg =>
          have HZ := hide (HNO.out (conO_none hin).1)
          go_wp2_with fail
          refine (l01In_no _ hin).mono ?_
          rintro e w2 ⟨rfl, rfl⟩
          go_wp2
          go_ret
          exact ⟨ret_int HZ.out, below_quiet (hB.alloc hsz _) _⟩
        obtain ⟨hso, hva⟩ := conO_some hin
        have HAS := hide (HAS.out hso)
        have HVA := hide hva
        clear hso hva HNO
        obtain ⟨bb, oo, hbb, hb1, hb2, hcc0⟩ := HFX.out (by omega)
        have hcc := hcc0 i.toNat (by omega)
        clear hcc0
        have hi0 := hin.1
        have hi1 : i < ((m.con).length : Int) := by omega
        subst hbb
        have q0 := fun o => (World.cell?_alloc_lt wr o ⟨bb, oo + i.toNat, none⟩ (by show bb < _; omega)).trans hcc
        clear HFX hcc
        go_wp2_with fail
        refine (l01In_yes _ hin).mono ?_
        rintro e w2 ⟨rfl, rfl⟩
        generalize (m.con).getD i.toNat 0 = X at q0 HVA
        have hva2 : valO (conO i) m = X := by first | exact HVA.out | (rw [HVA.out, Int.mul_comm])
        have HVV := hide hva2; clear hva2
        rw [HVV.out] at HSN
        generalize leastV ((chosenTo l s k).map (valO (conO i))) = n at HSN
        cases hb
        · have hz := hide (show (chosenTo l s k).length = 0 from by have := HB.out.symm; rw [decide_eq_false_iff_not] at this; omega)
          go_wp2
          go_roundw
          case rel => exact ⟨k + 1, true, by omega, by go_num, by rw [HH.out, List.map_append, List.map_cons, List.map_nil, HVV.out, HSN.out, if_pos (.inl (by rw [HLM.out]; exact hz.out))], rfl, by rw [HH.out]; exact hide (by simp), by rw [HH.out]; exact HAS, below_quiet (hB.alloc hsz _) _⟩
          case measure => simp [intOf]; omega
        · have hz := hide (show ¬ (chosenTo l s k).length = 0 from by have := HB.out.symm; rw [decide_eq_true_eq] at this; omega)
          by_cases hlt2 : X < n
          · go_wp2
            go_roundw
            case rel => exact ⟨k + 1, true, by omega, by go_num, by rw [HH.out, List.map_append, List.map_cons, List.map_nil, HVV.out, HSN.out, if_pos (.inr hlt2)], rfl, by rw [HH.out]; exact hide (by simp), by rw [HH.out]; exact HAS, below_quiet (hB.alloc hsz _) _⟩
            case measure => simp [intOf]; omega
          · go_wp2
            go_roundw
            case rel => exact ⟨k + 1, true, by omega, by go_num, by rw [HH.out, List.map_append, List.map_cons, List.map_nil, HVV.out, HSN.out, if_neg (by rw [not_or, HLM.out]; exact ⟨hz.out, by omega⟩)], rfl, by rw [HH.out]; exact hide (by simp), by rw [HH.out]; exact HAS, below_quiet (hB.alloc hsz _) _⟩
            case measure => simp [intOf]; omega
    · obtain rfl : k = l.length := by omega
      have HZ := hide (leastM_yes HA.out)
      go_wp2
      go_ret
      exact ⟨ret_int HZ.out.symm, hB⟩
set_option maxHeartbeats 3200000 in
theorem specLeastWork_any (a : Ac) (s : List Int) (i : Int) (M B : Option Addr) (cm cb lo hi lo' hi' : Nat) (w : World) (hm : a.modes.length ≤ 16777216) (hsm : szL szMd a.modes ≤ 16777216) (hs : s.length ≤ 16777216) (fM : RdMs w lo hi M a.modes) (fS : RdI w lo' hi' B s) (hhi : hi ≤ w.heap.size) (hhi' : hi' ≤ w.heap.size) :
    Calls Try.prog 63 #[.agg #[.string a.name, .int .i64 a.fam, .slice M a.modes.length cm], .slice B s.length cb, .int .i64 i, .bool false, .bool true] w fun e w' => e = .returned (.int .i64 (leastM (workO i) (chosenTo a.modes s a.modes.length))) ∧ Below w.heap.size w w' := by
  obtain ⟨nm, fam, l⟩ := a
  simp only at hm hsm fM ⊢
  have HSM := hide hsm; clear hsm
  go_enter Try.func63, Try.ntmps63
  go_wp2
  go_loopw [11, 12, 20] (fun v h j wr => ∃ (k : Nat) (hb : Bool), k ≤ l.length ∧ j = .int .i64 k ∧ v = .int .i64 (leastV ((chosenTo l s k).map (valO (workO i)))) ∧ h = .bool hb ∧ Hid (hb = decide (0 < (chosenTo l s k).length)) ∧ Hid ((chosenTo l s k).all (someO (workO i)) = true) ∧ Below w.heap.size w wr) (fun _ _ j _ => l.length - (intOf j).toNat)
  case atStart => exact ⟨0, false, Nat.zero_le _, rfl, rfl, rfl, hide rfl, hide rfl, (Below.refl _ _).alloc (Nat.le_refl _) _⟩
  case round =>
    obtain ⟨k, hb, hk, rfl, rfl, rfl, HB, HA, hB⟩ := hrel
    by_cases hlt : k < l.length
    · have har := fM.below hB hhi
      have fS1 := fS.below hB hhi'
      have hsz := hB.size
      obtain ⟨b, off, U, cu, C, cc, rfl, h1, h2, g0, g1, g2, fU, fC⟩ := har.at hlt
      have HN := hide (chosenTo_no (l := l) (s := s) (k := k))
      have HY := hide (chosenTo_yes (l := l) (s := s) (k := k))
      have hs3 : szMd (l.getD k md0) ≤ 16777216 := by have := szL_at szMd md0 hlt; have := HSM.out; omega
      clear har fM
      generalize l.getD k md0 = m at g0 g1 g2 HY fU fC hs3
      have hs4 : (m.use).length ≤ 16777216 := by unfold szMd at hs3; omega
      have HSN := hide (leastV_snoc ((chosenTo l s k).map (valO (workO i))) (valO (workO i) m))
      have HLM : Hid (((chosenTo l s k).map (valO (workO i))).length = (chosenTo l s k).length) := List.length_map _
      have HAS : Hid (someO (workO i) m = true → (chosenTo l s k ++ [m]).all (someO (workO i)) = true) := fun h => by rw [List.all_append, HA.out, List.all_cons, h]; rfl
      have HNO : Hid (hasB s k = true → someO (workO i) m = false → (0 : Int) = leastM (workO i) (chosenTo l s l.length)) := fun h1 h2 => (leastM_no (chosenTo_sub (k := k + 1) (by omega) (by rw [HY.out h1]; simp)) h2).symm
      have FS : Hid (∀ o, RdI (wr.alloc o) lo' hi' B s) := fun o => fS1.below ((Below.refl wr.heap.size wr).alloc (Nat.le_refl _) o) (by omega)
      clear fS1
      have HFX := hide fU; clear fU fC
      go_wp2_with fail
      refine (specSetHas_any B s cb lo' hi' k _ hs (by exact FS.out _)).mono ?_
      rintro e w1 ⟨rfl, ⟨d, rfl⟩⟩
      cases hh : hasB s k
      · have HH := hide (HN.out hh)
        clear hh HN HY HNO
        go_wp2
        go_roundw
        case rel => exact ⟨k + 1, hb, by omega, by go_num, by rw [HH.out], rfl, by rw [HH.out]; exact HB, by rw [HH.out]; exact HA, below_quiet (hB.alloc hsz _) _⟩
        case measure => simp [intOf]; omega
      · have HH := hide (HY.out hh)
        have HNO := hide (HNO.out hh)
        clear hh HN HY
        by_cases hin : 0 ≤ i ∧ i ≤ ((m.use).length : Int) - 1
        case neg =>
          have HZ := hide (HNO.out (workO_none hin).1)
          go_wp2_with fail
          refine (l01In_no _ hin).mono ?_
          rintro e w2 ⟨rfl, rfl⟩
          go_wp2
          go_ret
          exact ⟨ret_int HZ.out, below_quiet (hB.alloc hsz _) _⟩
        obtain ⟨hso, hva⟩ := workO_some hin
        have HAS := hide (HAS.out hso)
        have HVA := hide hva
        clear hso hva HNO
        obtain ⟨bb, oo, hbb, hb1, hb2, hcc0⟩ := HFX.out (by omega)
        have hcc := hcc0 i.toNat (by omega)
        clear hcc0
        have hi0 := hin.1
        have hi1 : i < ((m.use).length : Int) := by omega
        subst hbb
        have q0 := fun o => (World.cell?_alloc_lt wr o ⟨bb, oo + i.toNat, none⟩ (by show bb < _; omega)).trans hcc
        clear HFX hcc
        go_wp2_with fail
        refine (l01In_yes _ hin).mono ?_
        rintro e w2 ⟨rfl, rfl⟩
        generalize (m.use).getD i.toNat 0 = X at q0 HVA
        have hva2 : valO (workO i) m = wrap64 (X * m.dur) := by first | exact HVA.out | (rw [HVA.out, Int.mul_comm])
        have HVV := hide hva2; clear hva2
        rw [HVV.out] at HSN
        generalize leastV ((chosenTo l s k).map (valO (workO i))) = n at HSN
        cases hb
        · have hz := hide (show (chosenTo l s k).length = 0 from by have := HB.out.symm; rw [decide_eq_false_iff_not] at this; omega)
          go_wp2
          go_roundw
          case rel => exact ⟨k + 1, true, by omega, by go_num, by rw [HH.out, List.map_append, List.map_cons, List.map_nil, HVV.out, HSN.out, if_pos (.inl (by rw [HLM.out]; exact hz.out))], rfl, by rw [HH.out]; exact hide (by simp), by rw [HH.out]; exact HAS, below_quiet (hB.alloc hsz _) _⟩
          case measure => simp [intOf]; omega
        · have hz := hide (show ¬ (chosenTo l s k).length = 0 from by have := HB.out.symm; rw [decide_eq_true_eq] at this; omega)
          by_cases hlt2 : wrap64 (X * m.dur) < n
          · go_wp2
            go_roundw
            case rel => exact ⟨k + 1, true, by omega, by go_num, by rw [HH.out, List.map_append, List.map_cons, List.map_nil, HVV.out, HSN.out, if_pos (.inr hlt2)], rfl, by rw [HH.out]; exact hide (by simp), by rw [HH.out]; exact HAS, below_quiet (hB.alloc hsz _) _⟩
            case measure => simp [intOf]; omega
          · go_wp2
            go_roundw
            case rel => exact ⟨k + 1, true, by omega, by go_num, by rw [HH.out, List.map_append, List.map_cons, List.map_nil, HVV.out, HSN.out, if_neg (by rw [not_or, HLM.out]; exact ⟨hz.out, by omega⟩)], rfl, by rw [HH.out]; exact hide (by simp), by rw [HH.out]; exact HAS, below_quiet (hB.alloc hsz _) _⟩
            case measure => simp [intOf]; omega
    · obtain rfl : k = l.length := by omega
      have HZ := hide (leastM_yes HA.out)
      go_wp2
      go_ret
      exact ⟨ret_int HZ.out.symm, hB⟩
theorem specMinUsage_any (a : Ac) (s : List Int) (i : Int) (M B : Option Addr) (cm cb lo hi lo' hi' : Nat) (w : World) (hs0 : szAc a ≤ 16777216) (hs : s.length ≤ 16777216) (fM : RdMs w lo hi M a.modes) (fS : RdI w lo' hi' B s) (hhi : hi ≤ w.heap.size) (hhi' : hi' ≤ w.heap.size) :
    Calls Try.prog 29 #[.agg #[.string a.name, .int .i64 a.fam, .slice M a.modes.length cm], .slice B s.length cb, .int .i64 i] w fun e w' => e = .returned (.int .i64 (leastM (useO i) (chosenTo a.modes s a.modes.length))) ∧ Below w.heap.size w w' := by
  have HSM := hide (show szL szMd a.modes ≤ 16777216 from by unfold szAc at hs0; omega)
  have hm : a.modes.length ≤ 16777216 := Nat.le_trans (szL_len szMd _) HSM.out
  have HB0 : Hid (∀ o, Below w.heap.size w (w.alloc o)) := fun o => (Below.refl _ _).alloc (Nat.le_refl _) _
  clear hs0
  go_enter Try.func29, Try.ntmps29
  go_wp2_with fail
  refine (specLeastUse_any a s i M B cm cb lo hi lo' hi' _ hm HSM.out hs (by exact fM.below (HB0.out _) hhi) (by exact fS.below (HB0.out _) hhi') (by simp; omega) (by simp; omega)).mono ?_
  rintro e W0 ⟨rfl, hB1⟩
  have hB0 := (HB0.out _).trans (hB1.mono (by simp))
  clear hB1
  go_wp2
  go_ret
  exact ⟨rfl, hB0⟩
theorem specMinConsumption_any (a : Ac) (s : List Int) (i : Int) (M B : Option Addr) (cm cb lo hi lo' hi' : Nat) (w : World) (hs0 : szAc a ≤ 16777216) (hs : s.length ≤ 16777216) (fM : RdMs w lo hi M a.modes) (fS : RdI w lo' hi' B s) (hhi : hi ≤ w.heap.size) (hhi' : hi' ≤ w.heap.size) :
    Calls Try.prog 26 #[.agg #[.string a.name, .int .i64 a.fam, .slice M a.modes.length cm], .slice B s.length cb, .int .i64 i] w fun e w' => e = .returned (.int .i64 (leastM (conO i) (chosenTo a.modes s a.modes.length))) ∧ Below w.heap.size w w' := by
  have HSM := hide (show szL szMd a.modes ≤ 16777216 from by unfold szAc at hs0; omega)
  have hm : a.modes.length ≤ 16777216 := Nat.le_trans (szL_len szMd _) HSM.out
  have HB0 : Hid (∀ o, Below w.heap.size w (w.alloc o)) := fun o => (Below.refl _ _).alloc (Nat.le_refl _) _
  clear hs0
  go_enter Try.func26, Try.ntmps26
  go_wp2_with fail
  refine (specLeastCon_any a s i M B cm cb lo hi lo' hi' _ hm HSM.out hs (by exact fM.below (HB0.out _) hhi) (by exact fS.below (HB0.out _) hhi') (by simp; omega) (by simp; omega)).mono ?_
  rintro e W0 ⟨rfl, hB1⟩
  have hB0 := (HB0.out _).trans (hB1.mono (by simp))
  clear hB1
  go_wp2
  go_ret
  exact ⟨rfl, hB0⟩
theorem specMinWork_any (a : Ac) (s : List Int) (i : Int) (M B : Option Addr) (cm cb lo hi lo' hi' : Nat) (w : World) (hs0 : szAc a ≤ 16777216) (hs : s.length ≤ 16777216) (fM : RdMs w lo hi M a.modes) (fS : RdI w lo' hi' B s) (hhi : hi ≤ w.heap.size) (hhi' : hi' ≤ w.heap.size) :
    Calls Try.prog 31 #[.agg #[.string a.name, .int .i64 a.fam, .slice M a.modes.length cm], .slice B s.length cb, .int .i64 i] w fun e w' => e = .returned (.int .i64 (leastM (workO i) (chosenTo a.modes s a.modes.length))) ∧ Below w.heap.size w w' := by
  have HSM := hide (show szL szMd a.modes ≤ 16777216 from by unfold szAc at hs0; omega)
  have hm : a.modes.length ≤ 16777216 := Nat.le_trans (szL_len szMd _) HSM.out
  have HB0 : Hid (∀ o, Below w.heap.size w (w.alloc o)) := fun o => (Below.refl _ _).alloc (Nat.le_refl _) _
  clear hs0
  go_enter Try.func31, Try.ntmps31
  go_wp2_with fail
  refine (specLeastWork_any a s i M B cm cb lo hi lo' hi' _ hm HSM.out hs (by exact fM.below (HB0.out _) hhi) (by exact fS.below (HB0.out _) hhi') (by simp; omega) (by simp; omega)).mono ?_
  rintro e W0 ⟨rfl, hB1⟩
  have hB0 := (HB0.out _).trans (hB1.mono (by simp))
  clear hB1
  go_wp2
  go_ret
  exact ⟨rfl, hB0⟩
theorem element_any (A : Option Addr) (l : List Int) (c lo hi : Nat) (i : Int) (w : World) (hl : l.length ≤ 16777216) (ha : RdI w lo hi A l) :
    Calls Try.prog 67 #[.slice A l.length c, .int .i64 i] w fun e w' => e = .returned (.tuple #[.int .i64 ((elemO l i).getD 0), .bool (elemO l i).isSome]) ∧ w = w' := by
  by_cases hin : 0 ≤ i ∧ i ≤ (l.length : Int) - 1
  · obtain ⟨bb, oo, rfl, hb1, hb2, hcc0⟩ := ha (by omega)
    have hcc := hcc0 i.toNat (by omega)
    clear hcc0
    have hi0 := hin.1
    have hi1 : i < (l.length : Int) := by omega
    have HE := hide (elemO_yes hin)
    clear ha
    generalize l.getD i.toNat 0 = X at hcc HE
    go_enter Try.func67, Try.ntmps67
    go_wp2_with fail
    refine (within_yes _ hin).mono ?_
    rintro e w2 ⟨rfl, rfl⟩
    go_wp2
    go_ret2
    exact ⟨by rw [HE.out]; rfl, rfl⟩
  · have HE := hide (elemO_no hin)
    go_enter Try.func67, Try.ntmps67
    go_wp2_with fail
    refine (within_no _ hin).mono ?_
    rintro e w2 ⟨rfl, rfl⟩
    go_wp2
    go_ret2
    exact ⟨by rw [HE.out]; rfl, rfl⟩
set_option maxHeartbeats 3200000 in
theorem leastOf_any (F : FuncId) (caps : Array Value) (f : Md → Option Int) (A : Option Addr) (l : List Md) (c lo hi : Nat) (w : World) (hl : l.length ≤ 16777216) (hsz : ∀ j, j < l.length → szMd (l.getD j md0) ≤ 16777216) (ha : RdMs w lo hi A l) (hhi : hi ≤ w.heap.size)
    (hE : ∀ (args : Array Value) (W : World), (callFunc F args).run Try.prog W = .ok (.enter F args) W)
    (hf : ∀ (W : World) (m : Md) (U C : Option Addr) (cu cc lo' hi' : Nat), Below w.heap.size w W → szMd m ≤ 16777216 → RdI W lo' hi' U m.use → RdI W lo' hi' C m.con → hi' ≤ W.heap.size →
      Calls Try.prog F (#[.agg #[.int .i64 m.dur, .slice U m.use.length cu, .slice C m.con.length cc]] ++ caps) W fun e w' => e = .returned (.tuple #[.int .i64 (valO f m), .bool (someO f m)]) ∧ Below W.heap.size W w') :
    Calls Try.prog 64 #[.slice A l.length c, .func (.func F) #[] caps] w fun e w' => e = .returned (.int .i64 (leastM f l)) ∧ Below w.heap.size w w' := by
  have HF := hide hf; clear hf
  have HSZ := hide hsz; clear hsz
  go_enter Try.func64, Try.ntmps64
  go_wp2
  go_loopw [5, 12] (fun v i wr => ∃ k : Nat, k ≤ l.length ∧ i = .int .i64 k ∧ v = .int .i64 (leastV ((l.take k).map (valO f))) ∧ Hid ((l.take k).all (someO f) = true) ∧ Below w.heap.size w wr) (fun _ i _ => l.length - (intOf i).toNat)
  case atStart => exact ⟨0, Nat.zero_le _, rfl, rfl, hide rfl, Below.refl _ _⟩
  case round =>
    obtain ⟨k, hk, rfl, rfl, HA, hB⟩ := hrel
    by_cases hlt : k < l.length
    · have har := ha.below hB hhi
      have hsz := hB.size
      obtain ⟨b, off, U, cu, C, cc, rfl, h1, h2, g0, g1, g2, fU, fC⟩ := har.at hlt
      have HT := hide (take_snoc md0 hlt)
      have HMEM := hide (show l.getD k md0 ∈ l from by rw [getD_get md0 hlt]; exact List.getElem_mem hlt)
      have HS3 := hide (HSZ.out k hlt)
      clear har ha
      generalize l.getD k md0 = m at g0 g1 g2 HT fU fC HS3 HMEM
      have HSN := hide (leastV_snoc ((l.take k).map (valO f)) (valO f m))
      have HLM : Hid (((l.take k).map (valO f)).length = k) := by rw [List.length_map, List.length_take]; exact hide (by omega)
      have HAS : Hid (someO f m = true → (l.take k ++ [m]).all (someO f) = true) := fun h => by rw [List.all_append, HA.out, List.all_cons, h]; rfl
      have HB2 : Hid (∀ o, Below wr.heap.size wr (wr.alloc o)) := fun o => (Below.refl _ _).alloc (Nat.le_refl _) _
      have HCALL := hide (fun o => HF.out (wr.alloc o) m U C cu cc lo hi (hB.trans ((HB2.out o).mono hsz)) HS3.out (fU.below (HB2.out o) (by omega)) (fC.below (HB2.out o) (by omega)) (by simp; omega))
      clear fU fC HF
      go_wp2_with fail
      refine (HCALL.out _).mono ?_
      rintro e w1 ⟨rfl, hB1⟩
      have hB2 := hB.trans (((HB2.out _).trans (hB1.mono (by simp))).mono hsz)
      clear hB1 HCALL
      cases hso : someO f m
      · have HZ := hide (leastM_no HMEM.out hso).symm
        clear hso
        go_wp2
        go_ret
        exact ⟨ret_int HZ.out, hB2⟩
      · have HAS := hide (HAS.out hso)
        clear hso
        generalize hVV : valO f m = V at HSN
        have HVV := hide hVV; clear hVV
        generalize leastV ((l.take k).map (valO f)) = n at HSN
        by_cases hk0 : k = 0
        · have hd : ((k : Int) == 0) = true := by rw [hk0]; rfl
          have HK := hide hk0; clear hk0
          go_wp2
          go_roundw
          case rel => exact ⟨k + 1, by omega, by go_num, by rw [HT.out, List.map_append, List.map_cons, List.map_nil, HVV.out, HSN.out, if_pos (.inl (by rw [HLM.out]; exact HK.out))], by rw [HT.out]; exact HAS, hB2⟩
          case measure => simp [intOf]; omega
        · have hd : ((k : Int) == 0) = false := by rw [beq_eq_false_iff_ne]; omega
          have hd2 : ¬ (k : Int) = 0 := by omega
          by_cases hlt2 : V < n
          · go_wp2
            go_roundw
            case rel => exact ⟨k + 1, by omega, by go_num, by rw [HT.out, List.map_append, List.map_cons, List.map_nil, HVV.out, HSN.out, if_pos (.inr hlt2)], by rw [HT.out]; exact HAS, hB2⟩
            case measure => simp [intOf]; omega
          · go_wp2
            go_roundw
            case rel => exact ⟨k + 1, by omega, by go_num, by rw [HT.out, List.map_append, List.map_cons, List.map_nil, HVV.out, HSN.out, if_neg (by rw [not_or, HLM.out]; exact ⟨hk0, by omega⟩)], by rw [HT.out]; exact HAS, hB2⟩
            case measure => simp [intOf]; omega
    · obtain rfl : k = l.length := by omega
      have HZ := hide (leastM_yes (f := f) (l := l) (by rw [List.take_length] at HA; exact HA.out))
      go_wp2
      go_ret
      exact ⟨ret_int (by rw [HZ.out, List.take_length]), hB⟩
set_option maxHeartbeats 800000 in
theorem useClosure (i : Int) (g : Nat) (W : World) (m : Md) (U C : Option Addr) (cu cc lo hi : Nat) (hg : W.cell? ⟨g, 0, none⟩ = some (.int .i64 i)) (hs : szMd m ≤ 16777216) (fU : RdI W lo hi U m.use) (fC : RdI W lo hi C m.con) (hhi : hi ≤ W.heap.size) :
    Calls Try.prog 68 (#[.agg #[.int .i64 m.dur, .slice U m.use.length cu, .slice C m.con.length cc]] ++ #[.pointer (some ⟨g, 0, none⟩)]) W fun e w' => e = .returned (.tuple #[.int .i64 (valO (useO i) m), .bool (someO (useO i) m)]) ∧ Below W.heap.size W w' := by
  have HB2 : Hid (∀ o, Below W.heap.size W (W.alloc o)) := fun o => (Below.refl _ _).alloc (Nat.le_refl _) _
  have hl : (m.use).length ≤ 16777216 := by unfold szMd at hs; omega
  have hgl := World.block_lt_of_cell? _ _ hg
  have g1 := fun o => (World.cell?_alloc_lt W o ⟨g, 0, none⟩ hgl).trans hg
  have HX : Hid (∀ o, RdI (W.alloc o) lo hi U (m.use)) := fun o => by first | exact fU.below (HB2.out o) hhi | exact fC.below (HB2.out o) hhi
  clear fU fC hg
  go_enter Try.func68, Try.ntmps68
  go_wp2_with fail
  refine (element_any U (m.use) _ lo hi i _ hl (by exact HX.out _)).mono ?_
  rintro e w1 ⟨rfl, rfl⟩
  have HVV : Hid (valO (useO i) m = (elemO m.use i).getD 0) := by
    unfold valO useO
    cases elemO (m.use) i <;> first | rfl | (exact hide (by simp [wrap64]))
  have HSS : Hid (someO (useO i) m = (elemO (m.use) i).isSome) := by
    unfold someO useO
    cases elemO (m.use) i <;> rfl
  generalize (elemO (m.use) i).isSome = sb at HSS ⊢
  generalize (elemO (m.use) i).getD 0 = X at HVV ⊢
  go_wp2
  go_ret2
  exact ⟨by rw [HVV.out, HSS.out]; rfl, HB2.out _⟩
set_option maxHeartbeats 800000 in
theorem conClosure (i : Int) (g : Nat) (W : World) (m : Md) (U C : Option Addr) (cu cc lo hi : Nat) (hg : W.cell? ⟨g, 0, none⟩ = some (.int .i64 i)) (hs : szMd m ≤ 16777216) (fU : RdI W lo hi U m.use) (fC : RdI W lo hi C m.con) (hhi : hi ≤ W.heap.size) :
    Calls Try.prog 66 (#[.agg #[.int .i64 m.dur, .slice U m.use.length cu, .slice C m.con.length cc]] ++ #[.pointer (some ⟨g, 0, none⟩)]) W fun e w' => e = .returned (.tuple #[.int .i64 (valO (conO i) m), .bool (someO (conO i) m)]) ∧ Below W.heap.size W w' := by
  have HB2 : Hid (∀ o, Below W.heap.size W (W.alloc o)) := fun o => (Below.refl _ _).alloc (Nat.le_refl _) _
  have hl : (m.con).length ≤ 16777216 := by unfold szMd at hs; omega
  have hgl := World.block_lt_of_cell? _ _ hg
  have g1 := fun o => (World.cell?_alloc_lt W o ⟨g, 0, none⟩ hgl).trans hg
  have HX : Hid (∀ o, RdI (W.alloc o) lo hi C (m.con)) := fun o => by first | exact fU.below (HB2.out o) hhi | exact fC.below (HB2.out o) hhi
  clear fU fC hg
  go_enter Try.func66, Try.ntmps66
  go_wp2_with fail
  refine (element_any C (m.con) _ lo hi i _ hl (by exact HX.out _)).mono ?_
  rintro e w1 ⟨rfl, rfl⟩
  have HVV : Hid (valO (conO i) m = (elemO m.con i).getD 0) := by
    unfold valO conO
    cases elemO (m.con) i <;> first | rfl | (exact hide (by simp [wrap64]))
  have HSS : Hid (someO (conO i) m = (elemO (m.con) i).isSome) := by
    unfold someO conO
    cases elemO (m.con) i <;> rfl
  generalize (elemO (m.con) i).isSome = sb at HSS ⊢
  generalize (elemO (m.con) i).getD 0 = X at HVV ⊢
  go_wp2
  go_ret2
  exact ⟨by rw [HVV.out, HSS.out]; rfl, HB2.out _⟩
set_option maxHeartbeats 800000 in
theorem workClosure (i : Int) (g : Nat) (W : World) (m : Md) (U C : Option Addr) (cu cc lo hi : Nat) (hg : W.cell? ⟨g, 0, none⟩ = some (.int .i64 i)) (hs : szMd m ≤ 16777216) (fU : RdI W lo hi U m.use) (fC : RdI W lo hi C m.con) (hhi : hi ≤ W.heap.size) :
    Calls Try.prog 69 (#[.agg #[.int .i64 m.dur, .slice U m.use.length cu, .slice C m.con.length cc]] ++ #[.pointer (some ⟨g, 0, none⟩)]) W fun e w' => e = .returned (.tuple #[.int .i64 (valO (workO i) m), .bool (someO (workO i) m)]) ∧ Below W.heap.size W w' := by
  have HB2 : Hid (∀ o, Below W.heap.size W (W.alloc o)) := fun o => (Below.refl _ _).alloc (Nat.le_refl _) _
  have hl : (m.use).length ≤ 16777216 := by unfold szMd at hs; omega
  have hgl := World.block_lt_of_cell? _ _ hg
  have g1 := fun o => (World.cell?_alloc_lt W o ⟨g, 0, none⟩ hgl).trans hg
  have HX : Hid (∀ o, RdI (W.alloc o) lo hi U (m.use)) := fun o => by first | exact fU.below (HB2.out o) hhi | exact fC.below (HB2.out o) hhi
  clear fU fC hg
  go_enter Try.func69, Try.ntmps69
  go_wp2_with fail
  refine (element_any U (m.use) _ lo hi i _ hl (by exact HX.out _)).mono ?_
  rintro e w1 ⟨rfl, rfl⟩
  have HVV : Hid (valO (workO i) m = wrap64 (m.dur * (elemO m.use i).getD 0)) := by
    unfold valO workO
    cases elemO (m.use) i <;> first | rfl | (exact hide (by simp [wrap64]))
  have HSS : Hid (someO (workO i) m = (elemO (m.use) i).isSome) := by
    unfold someO workO
    cases elemO (m.use) i <;> rfl
  generalize (elemO (m.use) i).isSome = sb at HSS ⊢
  generalize (elemO (m.use) i).getD 0 = X at HVV ⊢
  go_wp2
  go_ret2
  exact ⟨by rw [HVV.out, HSS.out]; rfl, HB2.out _⟩
set_option maxHeartbeats 1600000 in
theorem implMinUsage_any (a : Ac) (s : List Int) (i : Int) (M B : Option Addr) (cm cb lo hi lo' hi' : Nat) (w : World) (hs0 : szAc a ≤ 16777216) (hs : s.length ≤ 16777216) (fM : RdMs w lo hi M a.modes) (fS : RdI w lo' hi' B s) (hhi : hi ≤ w.heap.size) (hhi' : hi' ≤ w.heap.size) :
    Calls Try.prog 30 #[.agg #[.string a.name, .int .i64 a.fam, .slice M a.modes.length cm], .slice B s.length cb, .int .i64 i] w fun e w' => e = .returned (.int .i64 (leastM (useO i) (chosenTo a.modes s a.modes.length))) ∧ Below w.heap.size w w' := by
  have hmf : ∀ (fn : Fn) (first cap : Array Value) (w : World), (Instr.makeFunc fn first cap).run Try.prog w = .ok (.func fn first cap) w := fun _ _ _ _ => rfl
  have HSM := hide (show szL szMd a.modes ≤ 16777216 from by unfold szAc at hs0; omega)
  have hm : a.modes.length ≤ 16777216 := Nat.le_trans (szL_len szMd _) HSM.out
  have HC1 := hide (chosenTo_len a.modes s a.modes.length)
  have HC2 : Hid (∀ j, j < (chosenTo a.modes s a.modes.length).length → szMd ((chosenTo a.modes s a.modes.length).getD j md0) ≤ 16777216) := fun j hj => by
    have := chosenTo_sz (Nat.le_refl a.modes.length) j hj
    have := HSM.out
    omega
  clear hs0
  go_enter Try.func30, Try.ntmps30
  go_wp2_with fail
  refine at_world fun W0 hW => ?_
  have z0 : W0.heap.size = w.heap.size + 2 := by rw [hW]; simp
  have hB0 : Below w.heap.size w W0 := by rw [hW]; exact ((Below.refl _ _).alloc (Nat.le_refl _) _).alloc (by simp) _
  have c0 : W0.cell? ⟨w.heap.size + 1, 0, none⟩ = some (.int .i64 i) := by
    rw [hW]; simp
  clear hW
  refine (chosen_any a s M B cm cb lo hi lo' hi' W0 hm hs (fM.below hB0 hhi) (fS.below hB0 hhi') (by omega) (by omega)).mono ?_
  rintro e W1 ⟨A', c', rfl, fD, hB1⟩
  have z1 := hB1.size
  have hB := hB0.trans (hB1.mono (by omega))
  have c1 : W1.cell? ⟨w.heap.size + 1, 0, none⟩ = some (.int .i64 i) := (hB1.cell (p := ⟨w.heap.size + 1, 0, none⟩) (by show w.heap.size + 1 < _; omega)).trans c0
  clear fM fS hB0 hB1 c0
  generalize hDD : chosenTo a.modes s a.modes.length = D at fD HC1 HC2
  have HDD := hide hDD; clear hDD
  have hD : D.length ≤ 16777216 := by have := HC1.out; omega
  have HC := hide c1
  go_wp2_with fail
  refine (leastOf_any 68 #[.pointer (some ⟨w.heap.size + 1, 0, none⟩)] (useO i) A' D c' 0 W1.heap.size W1 hD HC2.out fD (Nat.le_refl _) (run_enter Try.func68 (by kernel_rfl) rfl) (fun W m U C cu cc lo' hi' hW h1 h2 h3 h4 => useClosure i (w.heap.size + 1) W m U C cu cc lo' hi' ((hW.cell (p := ⟨w.heap.size + 1, 0, none⟩) (by show w.heap.size + 1 < _; omega)).trans HC.out) h1 h2 h3 h4)).mono ?_
  rintro e W2 ⟨rfl, hB2⟩
  have hB := hB.trans (hB2.mono (by omega))
  clear hB2
  go_wp2
  go_ret
  exact ⟨ret_int (by rw [HDD.out]), hB⟩
set_option maxHeartbeats 1600000 in
theorem implMinConsumption_any (a : Ac) (s : List Int) (i : Int) (M B : Option Addr) (cm cb lo hi lo' hi' : Nat) (w : World) (hs0 : szAc a ≤ 16777216) (hs : s.length ≤ 16777216) (fM : RdMs w lo hi M a.modes) (fS : RdI w lo' hi' B s) (hhi : hi ≤ w.heap.size) (hhi' : hi' ≤ w.heap.size) :
    Calls Try.prog 28 #[.agg #[.string a.name, .int .i64 a.fam, .slice M a.modes.length cm], .slice B s.length cb, .int .i64 i] w fun e w' => e = .returned (.int .i64 (leastM (conO i) (chosenTo a.modes s a.modes.length))) ∧ Below w.heap.size w w' := by
  have hmf : ∀ (fn : Fn) (first cap : Array Value) (w : World), (Instr.makeFunc fn first cap).run Try.prog w = .ok (.func fn first cap) w := fun _ _ _ _ => rfl
  have HSM := hide (show szL szMd a.modes ≤ 16777216 from by unfold szAc at hs0; omega)
  have hm : a.modes.length ≤ 16777216 := Nat.le_trans (szL_len szMd _) HSM.out
  have HC1 := hide (chosenTo_len a.modes s a.modes.length)
  have HC2 : Hid (∀ j, j < (chosenTo a.modes s a.modes.length).length → szMd ((chosenTo a.modes s a.modes.length).getD j md0) ≤ 16777216) := fun j hj => by
    have := chosenTo_sz (Nat.le_refl a.modes.length) j hj
    have := HSM.out
    omega
  clear hs0
  go_enter Try.func28, Try.ntmps28
  go_wp2_with fail
  refine at_world fun W0 hW => ?_
  have z0 : W0.heap.size = w.heap.size + 2 := by rw [hW]; simp
  have hB0 : Below w.heap.size w W0 := by rw [hW]; exact ((Below.refl _ _).alloc (Nat.le_refl _) _).alloc (by simp) _
  have c0 : W0.cell? ⟨w.heap.size + 1, 0, none⟩ = some (.int .i64 i) := by
    rw [hW]; simp
  clear hW
  refine (chosen_any a s M B cm cb lo hi lo' hi' W0 hm hs (fM.below hB0 hhi) (fS.below hB0 hhi') (by omega) (by omega)).mono ?_
  rintro e W1 ⟨A', c', rfl, fD, hB1⟩
  have z1 := hB1.size
  have hB := hB0.trans (hB1.mono (by omega))
  have c1 : W1.cell? ⟨w.heap.size + 1, 0, none⟩ = some (.int .i64 i) := (hB1.cell (p := ⟨w.heap.size + 1, 0, none⟩) (by show w.heap.size + 1 < _; omega)).trans c0
  clear fM fS hB0 hB1 c0
  generalize hDD : chosenTo a.modes s a.modes.length = D at fD HC1 HC2
  have HDD := hide hDD; clear hDD
  have hD : D.length ≤ 16777216 := by have := HC1.out; omega
  have HC := hide c1
  go_wp2_with fail
  refine (leastOf_any 66 #[.pointer (some ⟨w.heap.size + 1, 0, none⟩)] (conO i) A' D c' 0 W1.heap.size W1 hD HC2.out fD (Nat.le_refl _) (run_enter Try.func66 (by kernel_rfl) rfl) (fun W m U C cu cc lo' hi' hW h1 h2 h3 h4 => conClosure i (w.heap.size + 1) W m U C cu cc lo' hi' ((hW.cell (p := ⟨w.heap.size + 1, 0, none⟩) (by show w.heap.size + 1 < _; omega)).trans HC.out) h1 h2 h3 h4)).mono ?_
  rintro e W2 ⟨rfl, hB2⟩
  have hB := hB.trans (hB2.mono (by omega))
  clear hB2
  go_wp2
  go_ret
  exact ⟨ret_int (by rw [HDD.out]), hB⟩
set_option maxHeartbeats 1600000 in
theorem implMinWork_any (a : Ac) (s : List Int) (i : Int) (M B : Option Addr) (cm cb lo hi lo' hi' : Nat) (w : World) (hs0 : szAc a ≤ 16777216) (hs : s.length ≤ 16777216) (fM : RdMs w lo hi M a.modes) (fS : RdI w lo' hi' B s) (hhi : hi ≤ w.heap.size) (hhi' : hi' ≤ w.heap.size) :
    Calls Try.prog 32 #[.agg #[.string a.name, .int .i64 a.fam, .slice M a.modes.length cm], .slice B s.length cb, .int .i64 i] w fun e w' => e = .returned (.int .i64 (leastM (workO i) (chosenTo a.modes s a.modes.length))) ∧ Below w.heap.size w w' := by
  have hmf : ∀ (fn : Fn) (first cap : Array Value) (w : World), (Instr.makeFunc fn first cap).run Try.prog w = .ok (.func fn first cap) w := fun _ _ _ _ => rfl
  have HSM := hide (show szL szMd a.modes ≤ 16777216 from by unfold szAc at hs0; omega)
  have hm : a.modes.length ≤ 16777216 := Nat.le_trans (szL_len szMd _) HSM.out
  have HC1 := hide (chosenTo_len a.modes s a.modes.length)
  have HC2 : Hid (∀ j, j < (chosenTo a.modes s a.modes.length).length → szMd ((chosenTo a.modes s a.modes.length).getD j md0) ≤ 16777216) := fun j hj => by
    have := chosenTo_sz (Nat.le_refl a.modes.length) j hj
    have := HSM.out
    omega
  clear hs0
  go_enter Try.func32, Try.ntmps32
  go_wp2_with fail
  refine at_world fun W0 hW => ?_
  have z0 : W0.heap.size = w.heap.size + 2 := by rw [hW]; simp
  have hB0 : Below w.heap.size w W0 := by rw [hW]; exact ((Below.refl _ _).alloc (Nat.le_refl _) _).alloc (by simp) _
  have c0 : W0.cell? ⟨w.heap.size + 1, 0, none⟩ = some (.int .i64 i) := by
    rw [hW]; simp
  clear hW
  refine (chosen_any a s M B cm cb lo hi lo' hi' W0 hm hs (fM.below hB0 hhi) (fS.below hB0 hhi') (by omega) (by omega)).mono ?_
  rintro e W1 ⟨A', c', rfl, fD, hB1⟩
  have z1 := hB1.size
  have hB := hB0.trans (hB1.mono (by omega))
  have c1 : W1.cell? ⟨w.heap.size + 1, 0, none⟩ = some (.int .i64 i) := (hB1.cell (p := ⟨w.heap.size + 1, 0, none⟩) (by show w.heap.size + 1 < _; omega)).trans c0
  clear fM fS hB0 hB1 c0
  generalize hDD : chosenTo a.modes s a.modes.length = D at fD HC1 HC2
  have HDD := hide hDD; clear hDD
  have hD : D.length ≤ 16777216 := by have := HC1.out; omega
  have HC := hide c1
  go_wp2_with fail
  refine (leastOf_any 69 #[.pointer (some ⟨w.heap.size + 1, 0, none⟩)] (workO i) A' D c' 0 W1.heap.size W1 hD HC2.out fD (Nat.le_refl _) (run_enter Try.func69 (by kernel_rfl) rfl) (fun W m U C cu cc lo' hi' hW h1 h2 h3 h4 => workClosure i (w.heap.size + 1) W m U C cu cc lo' hi' ((hW.cell (p := ⟨w.heap.size + 1, 0, none⟩) (by show w.heap.size + 1 < _; omega)).trans HC.out) h1 h2 h3 h4)).mono ?_
  rintro e W2 ⟨rfl, hB2⟩
  have hB := hB.trans (hB2.mono (by omega))
  clear hB2
  go_wp2
  go_ret
  exact ⟨ret_int (by rw [HDD.out]), hB⟩
end Go.Proofs.Ytfjohklcapekkaa
