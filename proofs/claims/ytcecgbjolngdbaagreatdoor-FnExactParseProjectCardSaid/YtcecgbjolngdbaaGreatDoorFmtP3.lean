/- Projects are formatted: the reference. -/
import Derived.Test.YtcecgbjolngdbaaGreatDoorFmtP2
import Derived.Deep.RegionHeld3
namespace Go.Proofs.YtcecgbjolngdbaaGreatDoor
open Go.ChangeShapes Go.WideShapes Go.ChangeAt Go.RowKit
set_option linter.unusedVariables false
set_option linter.unusedSimpArgs false

set_option maxRecDepth 20000 in
set_option maxHeartbeats 12800000 in
theorem specFormatProject_any (p : Pj) (A L R S : Option Addr) (ca cl cr cs lo hi : Nat) (w : World) (hs : szPj p ≤ 16777216) (fA : RdAs w lo hi A p.acts) (fL : RdLs w lo hi L p.links) (fR : RdRs w lo hi R p.res) (fS : RdI w lo hi S p.stocks) (hhi : hi ≤ w.heap.size) :
    Calls Tryz.prog 7 #[.agg #[.int .i64 p.dead, .slice A p.acts.length ca, .slice L p.links.length cl, .slice R p.res.length cr, .slice S p.stocks.length cs]] w fun e w' => e = .returned (.string (fmtPj p)) ∧ Below w.heap.size w w' := by
  have HC : Hid (∀ (x : Int) (W : World), Below w.heap.size w W → Calls Tryz.prog 34 #[.int .i64 x] W fun e w' => e = .returned (.string (fmtI x)) ∧ Below W.heap.size W w') := hide (fun x W _ => specFormatInt_any x W)
  have HSA := hide (show szL szAc p.acts ≤ 16777216 from by unfold szPj at hs; omega)
  have HSR := hide (show szL szRs p.res ≤ 16777216 from by unfold szPj at hs; omega)
  go_enter Tryz.func7, Tryz.ntmps7
  go_wp2_with fail
  refine at_world fun W0 hW => ?_
  have z0 : W0.heap.size = w.heap.size + 1 := by rw [hW]; simp
  have hB0 : Below w.heap.size w W0 := by rw [hW]; exact (Below.refl _ _).alloc (Nat.le_refl _) _
  have k0 : Bk W0 w.heap.size 34 #[.int .i64 p.dead, .slice A p.acts.length ca, .slice L p.links.length cl, .slice R p.res.length cr, .slice S p.stocks.length cs] := by rw [hW]; exact Bk.made w _ _
  clear hW
  have fA := fA.below hB0 hhi
  have fL := fL.below hB0 hhi
  have fR := fR.below hB0 hhi
  have fS := fS.below hB0 hhi
  refine (specProjectOk_any p A L R S ca cl cr cs lo hi W0 hs fA fL fR fS (by omega)).mono ?_
  rintro e W1 ⟨rfl, hB1⟩
  have hB := hB0.trans (hB1.mono (by omega))
  have k0 := k0.below hB1 (by omega)
  have z1 := hB1.size
  have fA := fA.below hB1 (by omega)
  have fL := fL.below hB1 (by omega)
  have fR := fR.below hB1 (by omega)
  have fS := fS.below hB1 (by omega)
  clear hB0 hB1 hs
  cases hok : pjOkB p
  · have HF := hide (show fmtPj p = ByteArray.empty from by unfold fmtPj; rw [hok]; rfl)
    clear hok
    go_wp2
    go_ret
    exact ⟨ret_str HF.out.symm, hB⟩
  have HOK := hide hok
  have HF := hide (show fmtPj p = joinB (linesPj p) newline ++ newline from by unfold fmtPj; rw [hok]; rfl)
  have HLC := hide (lines_sz hok)
  obtain ⟨hp1, hp2, hp3, hp4, hp5, hpA, hpR, hpS, hpL⟩ := pjOk_parts hok
  have HPA := hide hpA; have HPR := hide hpR; have HPS := hide hpS; have HPL := hide hpL
  clear hok hpA hpR hpS hpL
  have c0 := k0.cell 0
  simp only [List.getElem?_toArray, List.getElem?_cons_succ, List.getElem?_cons_zero] at c0
  have hfd := fmtI_size p.dead
  have HD := hide (show (⟨#[100, 101, 97, 100, 108, 105, 110, 101, 32]⟩ : ByteArray) ++ fmtI p.dead = deadL p.dead from by rw [dead_sp]; rfl)
  go_wp2_with fail
  refine (HC.out p.dead W1 hB).mono ?_
  rintro e W2 ⟨rfl, r⟩
  have z2 := r.size
  have hB2 : Below (w.heap.size + 1) W1 W2 := r.mono (by omega)
  clear r c0
  have HL0 := hide (Lns.one W2 (w.heap.size + 1) (deadL p.dead) (by omega))
  have HB3 := hide (hB2.alloc (by omega) (.cells #[.string (deadL p.dead)] 9))
  have c3 := fun o => ((k0.below hB2 (by omega)).alloc o).cell 3
  simp only [List.getElem?_toArray, List.getElem?_cons_succ, List.getElem?_cons_zero] at c3
  clear hB2
  go_wp2
  rw [HD.out]
  clear c3
  go_loopw [3, 30] (fun v i wr => ∃ k : Nat, k ≤ p.res.length ∧ i = .int .i64 k ∧ Lns wr (w.heap.size + 1) ([deadL p.dead] ++ (p.res.take k).map resL) v ∧ Below (w.heap.size + 1) W1 wr) (fun _ i _ => p.res.length - (intOf i).toNat)
  case atStart => exact ⟨0, Nat.zero_le _, rfl, by simpa using HL0.out, HB3.out⟩
  case round =>
    clear HL0 HB3
    obtain ⟨k, hk, rfl, hLn, hBr⟩ := hrel
    have hsz := hBr.size
    by_cases hlt : k < p.res.length
    · have hrok := HPR.out _ (getD_mem (k := k) rs0 hlt)
      obtain ⟨hst, hsu⟩ := rsOk_parts hrok
      have h44 : ∀ r ∈ (p.res.getD k rs0).setup, r.length = 4 := fun r hr => by
        unfold rsOkB at hrok
        rw [Bool.and_eq_true, List.all_eq_true] at hrok
        have := hrok.1 r hr
        unfold rowB at this
        rw [Bool.and_eq_true, decide_eq_true_eq] at this
        exact this.1
      have H44 := hide h44
      obtain ⟨b, off, S1, cs1, T1, ct1, rfl, h1, h2, g0, g1, fS1, fT1⟩ := (fR.below (hBr.mono (by omega) : Below hi W1 wr) (Nat.le_refl _)).at hlt
      have HTK := hide (map_take_succ resL rs0 hlt [deadL p.dead])
      have hll : ([deadL p.dead] ++ (p.res.take k).map resL).length ≤ 65536 := by simp; omega
      have hstl := (stOk_all hst).2.2
      have HST := hide hst
      clear hrok h44 fA fL fR fS hst
      generalize p.res.getD k rs0 = m at g0 g1 fS1 fT1 hsu H44 HTK hstl HST
      generalize [deadL p.dead] ++ (p.res.take k).map resL = LL at hLn HTK hll
      have hfs := fmtSt_sz m.steps
      go_wp2_with fail
      refine at_world fun V hV => ?_
      have bV : Below wr.heap.size wr V := by rw [hV]; exact (Below.refl _ _).alloc (Nat.le_refl _) _
      have kV : Bk V wr.heap.size 71 #[.slice S1 m.steps.length cs1, .slice T1 m.setup.length ct1] := by rw [hV]; exact Bk.made _ _ _
      have zV : V.heap.size = wr.heap.size + 1 := by rw [hV]; simp
      clear hV g0 g1
      refine (specFormatSteps_any S1 m.steps cs1 lo hi V (by omega) (fS1.below bV (by omega)) (by omega)).mono ?_
      rintro e V1 ⟨rfl, r⟩
      have y1 := r.size
      have kV := kV.below r (by omega)
      have bV := bV.trans (r.mono (by omega))
      have fT1 := fT1.below bV (by omega)
      have hLn := hLn.below bV
      have hBV := hBr.trans (bV.mono (by omega))
      clear r fS1 bV hBr
      have d1 := kV.cell 1
      simp only [List.getElem?_toArray, List.getElem?_cons_succ, List.getElem?_cons_zero] at d1
      by_cases h0 : m.setup.length = 0
      · have HS := hide (resL0 h0)
        have hpos : ¬ (0 : Int) < (m.setup.length : Int) := by omega
        clear hsu fT1 kV
        go_wp2_with (at_builtin; go_must (refine wpList_line _ (.tmp 59) (.tmp 61) (w.heap.size + 1) LL _ (hLn.below ((Below.refl _ _).alloc (Nat.le_refl _) _)) (by simp; omega) hll W1 (hBV.alloc (by omega) _) V1.heap.size _ (cell_one V1 _ _) ?_ rfl rfl rfl rfl))
        intro v' w' hLn' hB' hz'
        rw [HS.out, HTK.out] at hLn'
        clear hLn hBV d1
        go_wp2
        go_roundw
        case rel => exact ⟨k + 1, by omega, by go_num, hLn', hB'⟩
        case measure => simp [intOf]; omega
      · have hsu := hsu.resolve_left h0
        have HS := hide (resL1 h0)
        have hpos : (0 : Int) < (m.setup.length : Int) := by omega
        have hm4 : m.setup.length ≤ 4 := by omega
        have d2 := fun o => (kV.alloc o).cell 1
        simp only [List.getElem?_toArray, List.getElem?_cons_succ, List.getElem?_cons_zero] at d2
        have hO0 := OwnR.made V1 V1.heap.size 3 1 #[] 0 (Nat.le_refl _) (by unfold maxLen; omega) rfl
        have HO0 := hide hO0
        clear kV hO0
        go_wp2
        clear d1 d2
        go_loopw [7, 46] (fun v i wr => ∃ (j : Nat) (A2 : Option Addr) (c2 : Nat), j ≤ m.setup.length ∧ i = .int .i64 j ∧ v = .slice A2 (m.setup.take j).flatten.length c2 ∧ OwnR wr V1.heap.size wr.heap.size 3 1 A2 (m.setup.take j).flatten.length c2 ((m.setup.take j).flatten.map (.int .i64)) ∧ Below V1.heap.size V1 wr) (fun _ i _ => m.setup.length - (intOf i).toNat)
        case atStart => exact ⟨0, _, _, Nat.zero_le _, rfl, rfl, by simpa using HO0.out, (Below.refl _ _).alloc (Nat.le_refl _) _⟩
        case round =>
          clear HO0
          obtain ⟨j, A2, c2, hj, rfl, rfl, hO, hBz⟩ := hrel
          have hsz2 := hBz.size
          by_cases hlj : j < m.setup.length
          · obtain ⟨b, off, X, cx, rfl, h1, h2, g0, fX⟩ := (fT1.below hBz (by omega)).at hlj
            have hr := H44.out _ (getD_mem (k := j) [] hlj)
            have HF2 := hide (flatR_snoc hlj)
            have HLN := hide (flat4 H44.out j hj)
            have hln : (m.setup.take j).flatten.length ≤ 16 := by have := HLN.out; omega
            clear fT1
            generalize m.setup.getD j [] = q at g0 hr fX HF2
            generalize (m.setup.take j).flatten = F at hO HF2 HLN hln ⊢
            obtain ⟨b', off', rfl, x1, x2, xc⟩ := fX (by omega)
            have HNW := hide (row_news (w := wr) hr xc)
            rw [hr] at g0
            clear xc fX
            go_wp2_with (at_builtin; go_must (refine wpList_push _ (.tmp 50) (.tmp 51) 25 3 _ 1 8 Tryz.underlying25 Tryz.infoInt rfl (by omega) V1.heap.size _ A2 F.length c2 _ hO b' off' 4 cx (q.map (.int .i64)) (by rw [List.length_map, hr]) HNW.out (fun u hu => by obtain ⟨z, _, rfl⟩ := List.mem_map.1 hu; rfl) (by omega) (by omega) hsz2 V1.heap.size V1 hBz (Nat.le_refl _) ?_ rfl rfl rfl rfl))
            intro A' c' w' hO' hB' hs' _
            have HE := hide (show (m.setup.take (j + 1)).flatten.length = F.length + 4 from by rw [HF2.out, List.length_append, hr])
            have hO2 : OwnR w' V1.heap.size w'.heap.size 3 1 A' (m.setup.take (j + 1)).flatten.length c' ((m.setup.take (j + 1)).flatten.map (.int .i64)) := hO'.eqn HE.out.symm (by rw [HF2.out, List.map_append])
            clear hO hBz hO'
            go_wp2
            go_roundw
            case rel => exact ⟨j + 1, A', c', by omega, by go_num, by rw [HE.out], hO2, hB'⟩
            case measure => simp [intOf]; omega
          · obtain rfl : j = m.setup.length := by omega
            rw [List.take_length] at hO ⊢
            have hfl : m.setup.flatten.length ≤ 16 := by omega
            have hfz := fmtIs_size m.setup.flatten
            have hfz2 : (fmtIs m.setup.flatten).size ≤ 300 := by omega
            have hLn := hLn.below hBz
            have hBV := hBV.trans (hBz.mono (by omega))
            clear hBz fT1 hsu
            generalize m.setup.flatten = F at hO HS hfl hfz hfz2 ⊢
            generalize fmtSt m.steps = FS at HS hfs ⊢
            clear hfz
            go_wp2_with fail
            refine (specFormatInts_any A2 F c2 V1.heap.size wr.heap.size wr (by omega) hO.rdI (Nat.le_refl _)).mono ?_
            rintro e V2 ⟨rfl, r⟩
            have y2 := r.size
            have hLn := hLn.below r
            have hBV := hBV.trans (r.mono (by omega))
            clear r hO
            go_wp2_with (at_builtin; go_must (refine wpList_line _ (.tmp 59) (.tmp 61) (w.heap.size + 1) LL _ (hLn.below ((Below.refl _ _).alloc (Nat.le_refl _) _)) (by simp; omega) hll W1 (hBV.alloc (by omega) _) V2.heap.size _ (cell_one V2 _ _) ?_ rfl rfl rfl rfl))
            intro v' w' hLn' hB' hz'
            rw [HS.out, HTK.out] at hLn'
            clear hLn hBV
            go_wp2
            go_roundw
            case rel => exact ⟨k + 1, by omega, by go_num, hLn', hB'⟩
            case measure => simp [intOf]; omega
    · skip
      obtain rfl : k = p.res.length := by omega
      rw [List.take_length] at hLn
      have c4 := (k0.below hBr (by omega)).cell 4
      simp only [List.getElem?_toArray, List.getElem?_cons_succ, List.getElem?_cons_zero] at c4
      have hl1 : ([deadL p.dead] ++ p.res.map resL).length ≤ 4 := by simp; omega
      have HL1 := hide (show linesPj p = [deadL p.dead] ++ p.res.map resL ++ p.stocks.map stkL ++ p.acts.map actL ++ p.links.map (linkL p) from rfl)
      generalize [deadL p.dead] ++ p.res.map resL = L1 at hLn hl1 HL1
      clear fR hk hlt
      go_wp2
      clear c4
      go_loopw [3, 67] (fun v i wr => ∃ k : Nat, k ≤ p.stocks.length ∧ i = .int .i64 k ∧ Lns wr (w.heap.size + 1) (L1 ++ (p.stocks.take k).map stkL) v ∧ Below (w.heap.size + 1) W1 wr) (fun _ i _ => p.stocks.length - (intOf i).toNat)
      case atStart => exact ⟨0, Nat.zero_le _, rfl, by simpa using hLn, hBr⟩
      case round =>
        clear hLn hBr hsz
        obtain ⟨k, hk, rfl, hLn, hBr⟩ := hrel
        have hsz := hBr.size
        by_cases hlt : k < p.stocks.length
        · have hBw := hB.trans (hBr.mono (by omega))
          obtain ⟨b, off, rfl, h1, h2, hc⟩ := (fS.below (hBr.mono (by omega) : Below hi W1 wr) (Nat.le_refl _)) (by omega)
          have g0 := hc k hlt
          have HTK := hide (map_take_succ stkL 0 hlt L1)
          have hll : (L1 ++ (p.stocks.take k).map stkL).length ≤ 65536 := by simp; omega
          clear hc fS fA fL
          generalize p.stocks.getD k 0 = x at g0 HTK
          generalize L1 ++ (p.stocks.take k).map stkL = LL at hLn HTK hll
          have HS := hide (show (⟨#[115, 116, 111, 99, 107, 32]⟩ : ByteArray) ++ fmtI x = stkL x from by rw [stk_sp]; rfl)
          have hxs := fmtI_size x
          go_wp2_with fail
          refine (HC.out x wr hBw).mono ?_
          rintro e V1 ⟨rfl, r⟩
          have hLn := hLn.below r
          have y1 := r.size
          have hBV := hBr.trans (r.mono (by omega))
          clear r g0 hBr
          go_wp2_with (at_builtin; go_must (refine wpList_line _ (.tmp 71) (.tmp 75) (w.heap.size + 1) LL _ (hLn.below ((Below.refl _ _).alloc (Nat.le_refl _) _)) (by simp; omega) hll W1 (hBV.alloc (by omega) _) V1.heap.size _ (cell_one V1 _ _) ?_ rfl rfl rfl rfl))
          intro v' w' hLn' hB' hz'
          rw [HS.out, HTK.out] at hLn'
          clear hLn hBV
          go_wp2
          go_roundw
          case rel => exact ⟨k + 1, by omega, by go_num, hLn', hB'⟩
          case measure => simp [intOf]; omega
        · obtain rfl : k = p.stocks.length := by omega
          rw [List.take_length] at hLn
          have c1 := (k0.below hBr (by omega)).cell 1
          simp only [List.getElem?_toArray, List.getElem?_cons_succ, List.getElem?_cons_zero] at c1
          have hl2 : (L1 ++ p.stocks.map stkL).length ≤ 6 := by simp; omega
          generalize L1 ++ p.stocks.map stkL = L2 at hLn hl2 HL1
          clear fS hk hlt
          go_wp2
          clear c1
          go_loopw [3, 81] (fun v i wr => ∃ k : Nat, k ≤ p.acts.length ∧ i = .int .i64 k ∧ Lns wr (w.heap.size + 1) (L2 ++ (p.acts.take k).map actL) v ∧ Below (w.heap.size + 1) W1 wr) (fun _ i _ => p.acts.length - (intOf i).toNat)
          case atStart => exact ⟨0, Nat.zero_le _, rfl, by simpa using hLn, hBr⟩
          case round =>
            clear hLn hBr hsz
            obtain ⟨k, hk, rfl, hLn, hBr⟩ := hrel
            have hsz := hBr.size
            by_cases hlt : k < p.acts.length
            · have hBw := hB.trans (hBr.mono (by omega))
              obtain ⟨hmo, hnm, hfam, hm1, hm3⟩ := acOk_parts (HPA.out _ (getD_mem (k := k) ac0 hlt))
              obtain ⟨b, off, M, cm, rfl, h1, h2, g0, g1, g2, fM⟩ := (fA.below (hBr.mono (by omega) : Below hi W1 wr) (Nat.le_refl _)).at hlt
              have HTK := hide (map_take_succ actL ac0 hlt L2)
              have hll : (L2 ++ (p.acts.take k).map actL).length ≤ 65536 := by simp; omega
              clear fA fL
              generalize p.acts.getD k ac0 = m at g0 g1 g2 fM hmo hnm hfam hm1 hm3 HTK
              generalize L2 ++ (p.acts.take k).map actL = LL at hLn HTK hll
              have hmz : ∀ q ∈ m.modes, q.use.length ≤ 3 ∧ q.con.length ≤ 2 := fun q hq => by have := mdOk_len (hmo q hq); omega
              have HMZ := hide hmz
              have HAS := hide (actTo_sz m (isNm_sz hnm) (fun q hq => by have := fmtMd_sz q; have := hmz q hq; omega))
              have hns := isNm_sz hnm
              have hfs := fmtI_size m.fam
              have HS := hide (show (⟨#[97, 99, 116, 105, 118, 105, 116, 121, 32]⟩ : ByteArray) ++ m.name ++ ⟨#[32]⟩ ++ fmtI m.fam = actTo m 0 from by rw [act_sp]; rfl)
              clear hmo hnm hmz
              obtain ⟨V, hV⟩ : ∃ V, V = wr.alloc (.cells #[.string m.name, .int .i64 m.fam, .slice M m.modes.length cm] 46) := ⟨_, rfl⟩
              have bV : Below wr.heap.size wr V := by rw [hV]; exact (Below.refl _ _).alloc (Nat.le_refl _) _
              have kb : Bk V wr.heap.size 46 #[.string m.name, .int .i64 m.fam, .slice M m.modes.length cm] := by rw [hV]; exact Bk.made _ _ _
              have zV : V.heap.size = wr.heap.size + 1 := by rw [hV]; simp
              have p0 := kb.cell 0
              have p1 := kb.cell 1
              simp only [List.getElem?_toArray, List.getElem?_cons_succ, List.getElem?_cons_zero] at p0 p1
              have HBV := hide (hBw.trans (bV.mono (by omega)))
              have HBR := hide (hBr.trans (bV.mono (by omega)))
              have HV := hide hV
              have HbV := hide bV
              have hL : V.heap.size ≤ V.heap.size := Nat.le_refl _
              have a1 : (9223372036854775807 < 9 + m.name.size) = False := eq_false (by omega)
              have a2 : (9223372036854775807 < 9 + m.name.size + 1) = False := eq_false (by omega)
              have a3 : (9223372036854775807 < 9 + m.name.size + 1 + (fmtI m.fam).size) = False := eq_false (by omega)
              clear hV bV hBw hBr
              go_wp2_with fail
              rw [← HV.out]
              clear g0 g1 g2
              go_region_held3 (fun w' => (w'.cell? ⟨wr.heap.size, 0, none⟩ = some (.string m.name) ∧ w'.cell? ⟨wr.heap.size, 1, none⟩ = some (.int .i64 m.fam)) ∧ Only V.heap.size V.heap.size V w' ∧ V.heap.size ≤ w'.heap.size)
                (first | exact ⟨⟨p0, p1⟩, (Only.refl _ _ _).drew, hL⟩ | (go_split_ands; exact (fun hO => ⟨⟨only_cell hO p0, only_cell hO p1⟩, hO, hO.size⟩) (only_grow (by assumption) r_e)))
                (first | (go_at_call 34; (try go_split_ands); refine (HC.out _ _ (below_only HBV.out (by assumption) (by omega) (by omega))).mono ?_; rintro e w' ⟨rfl, r_e⟩))
              go_split_ands
              have hO : Only V.heap.size V.heap.size V w' := by assumption
              have zw := hO.size
              have bU := below_only HbV.out hO (by omega) (by omega)
              have hBU := below_only HBR.out hO (by omega) (by omega)
              have kb := kb.only hO (by omega)
              have hLn := hLn.below bU
              have fM := fM.below bU (by omega)
              rw [HS.out]
              have d2 := kb.cell 2
              simp only [List.getElem?_toArray, List.getElem?_cons_succ, List.getElem?_cons_zero] at d2
              clear hO bU p0 p1 a1 a2 a3 kb
              generalize w' = U at zw hBU hLn fM d2 ⊢
              go_wp2
              clear d2
              go_loopw [14, 96] (fun t i wr => ∃ j : Nat, j ≤ m.modes.length ∧ i = .int .i64 j ∧ t = .string (actTo m j) ∧ Below U.heap.size U wr) (fun _ i _ => m.modes.length - (intOf i).toNat)
              case atStart => exact ⟨0, Nat.zero_le _, rfl, rfl, Below.refl _ _⟩
              case round =>
                obtain ⟨j, hj, rfl, rfl, hBz⟩ := hrel
                have hsz2 := hBz.size
                have hts := HAS.out j hj
                by_cases hlj : j < m.modes.length
                · obtain ⟨b, off, X, cx, Y, cy, rfl, h1, h2, g0, g1, g2, fX, fY⟩ := (fM.below hBz (by omega)).at hlj
                  have hqz := HMZ.out _ (getD_mem (k := j) md0 hlj)
                  have HTS := hide (show actTo m j ++ ⟨#[32]⟩ ++ fmtMd (m.modes.getD j md0) = actTo m (j + 1) from rfl)
                  have HTS2 := hide (show actTo m j ++ ((⟨#[32]⟩ : ByteArray) ++ fmtMd (m.modes.getD j md0)) = actTo m (j + 1) from by rw [← ByteArray.append_assoc]; rfl)
                  clear fM
                  generalize m.modes.getD j md0 = q at g0 g1 g2 fX fY hqz HTS HTS2
                  have hqs := fmtMd_sz q
                  have hqs2 : (fmtMd q).size ≤ 200 := by omega
                  clear hqs
                  generalize actTo m j = TJ at hts HTS HTS2 ⊢
                  have hts2 : TJ.size ≤ 1000 := by omega
                  go_wp2_with fail
                  refine at_world fun V2 hV2 => ?_
                  have bV2 : Below wr.heap.size wr V2 := by rw [hV2]; exact (Below.refl _ _).alloc (Nat.le_refl _) _
                  have zV2 := bV2.size
                  have hBW : Below w.heap.size w V2 := hB.trans ((hBU.trans ((hBz.trans (bV2.mono (by omega))).mono (by omega))).mono (by omega))
                  clear hV2 g0 g1 g2
                  refine (specFormatMode_any q X Y cx cy lo hi V2 (by omega) (by omega) (fX.below bV2 (by omega)) (fY.below bV2 (by omega)) (by omega)).mono ?_
                  rintro e V3 ⟨rfl, r⟩
                  have hBz := hBz.trans ((bV2.trans (r.mono (by omega))).mono (by omega))
                  clear r bV2 fX fY
                  go_wp2
                  go_roundw
                  case rel => exact ⟨j + 1, by omega, by go_num, (by first | rw [HTS.out] | rw [HTS2.out]), hBz⟩
                  case measure => simp [intOf]; omega
                · obtain rfl : j = m.modes.length := by omega
                  have hLn := hLn.below hBz
                  have hBV := hBU.trans (hBz.mono (by omega))
                  have HTL := hide (show actTo m m.modes.length = actL m from rfl)
                  clear fM hBz
                  generalize actTo m m.modes.length = TL at HTL hts ⊢
                  go_wp2_with (at_builtin; go_must (refine wpList_line _ (.tmp 106) (.tmp 108) (w.heap.size + 1) LL _ (hLn.below ((Below.refl _ _).alloc (Nat.le_refl _) _)) (by simp; omega) hll W1 (hBV.alloc (by omega) _) wr.heap.size _ (cell_one wr _ _) ?_ rfl rfl rfl rfl))
                  intro v' w' hLn' hB' hz'
                  rw [HTL.out, HTK.out] at hLn'
                  clear hLn hBV
                  go_wp2
                  go_roundw
                  case rel => exact ⟨k + 1, by omega, by go_num, hLn', hB'⟩
                  case measure => simp [intOf]; omega
            · obtain rfl : k = p.acts.length := by omega
              rw [List.take_length] at hLn
              have c2 := (k0.below hBr (by omega)).cell 2
              simp only [List.getElem?_toArray, List.getElem?_cons_succ, List.getElem?_cons_zero] at c2
              have hl3 : (L2 ++ p.acts.map actL).length ≤ 12 := by simp; omega
              generalize L2 ++ p.acts.map actL = L3 at hLn hl3 HL1
              clear hk hlt
              go_wp2
              clear c2
              go_loopw [3, 114] (fun v i wr => ∃ k : Nat, k ≤ p.links.length ∧ i = .int .i64 k ∧ Lns wr (w.heap.size + 1) (L3 ++ (p.links.take k).map (linkL p)) v ∧ Below (w.heap.size + 1) W1 wr) (fun _ i _ => p.links.length - (intOf i).toNat)
              case atStart => exact ⟨0, Nat.zero_le _, rfl, by simpa using hLn, hBr⟩
              case round =>
                clear hLn hBr hsz
                obtain ⟨k, hk, rfl, hLn, hBr⟩ := hrel
                have hsz := hBr.size
                by_cases hlt : k < p.links.length
                · have hBw := hB.trans (hBr.mono (by omega))
                  obtain ⟨hls, hld, hlg⟩ := lkOk_parts (HPL.out _ (getD_mem (k := k) lk0 hlt))
                  obtain ⟨b, off, rfl, h1, h2, g0, g1, g2, g3⟩ := (fL.below (hBr.mono (by omega) : Below hi W1 wr) (Nat.le_refl _)).at hlt
                  have fA := fA.below (hBr.mono (by omega) : Below hi W1 wr) (Nat.le_refl _)
                  have HTK := hide (map_take_succ (linkL p) lk0 hlt L3)
                  have hll : (L3 ++ (p.links.take k).map (linkL p)).length ≤ 65536 := by simp; omega
                  have hnm : ∀ a ∈ p.acts, a.name.size ≤ 8 := fun a ha => isNm_sz (acOk_parts (HPA.out a ha)).2.1
                  have HNM := hide hnm
                  have hla : p.acts.length ≤ 65536 := by omega
                  have kq := k0.below hBr (by omega)
                  have c0 := fun o => (kq.alloc o).cell 0
                  have c1 := fun o => (kq.alloc o).cell 1
                  have c2 := fun o => (kq.alloc o).cell 2
                  have c3 := fun o => (kq.alloc o).cell 3
                  have c4 := fun o => (kq.alloc o).cell 4
                  simp only [List.getElem?_toArray, List.getElem?_cons_succ, List.getElem?_cons_zero] at c0 c1 c2 c3 c4
                  clear fL kq hnm
                  generalize p.links.getD k lk0 = m at g0 g1 g2 g3 hls hld hlg HTK
                  generalize L3 ++ (p.links.take k).map (linkL p) = LL at hLn HTK hll
                  go_wp2_with fail
                  refine at_world fun V hV => ?_
                  have bVV : Below wr.heap.size wr V := by rw [hV]; exact (Below.refl _ _).alloc (Nat.le_refl _) _
                  have zV := bVV.size
                  have hBV := hBr.trans (bVV.mono (by omega))
                  have hBWV := hBw.trans (bVV.mono (by omega))
                  have hLn := hLn.below bVV
                  have hnm := HNM.out
                  clear hV g0 g1 g2 g3 c0 c1 c2 c3 c4
                  refine (l06Link_any p m _ _ _ _ _ _ _ _ lo hi V hla (fA.below bVV (by omega)) hls hld hnm (by omega)).mono ?_
                  rintro e V1 ⟨rfl, r⟩
                  have y1 := r.size
                  have hLn := hLn.below r
                  have hBV := hBV.trans (r.mono (by omega))
                  clear r bVV hBWV hnm hBr
                  generalize linkL p m = TL at HTK ⊢
                  go_wp2_with (at_builtin; go_must (refine wpList_line _ (.tmp 118) (.tmp 122) (w.heap.size + 1) LL _ (hLn.below ((Below.refl _ _).alloc (Nat.le_refl _) _)) (by simp; omega) hll W1 (hBV.alloc (by omega) _) V1.heap.size _ (cell_one V1 _ _) ?_ rfl rfl rfl rfl))
                  intro v' w' hLn' hB' hz'
                  rw [HTK.out] at hLn'
                  clear hLn hBV
                  go_wp2
                  go_roundw
                  case rel => exact ⟨k + 1, by omega, by go_num, hLn', hB'⟩
                  case measure => simp [intOf]; omega
                · obtain rfl : k = p.links.length := by omega
                  rw [List.take_length, ← HL1.out] at hLn
                  have hBw := hB.trans (hBr.mono (by omega))
                  obtain ⟨A9, c9, bs9, rfl, hR9, _⟩ := hLn
                  have HJ := hide (specJoinB_any A9 (linesPj p) c9 bs9 ⟨#[10]⟩ wr (by have := HLC.out; omega) (by have := HLC.out; omega) (by decide) hR9)
                  have hjs := HLC.out.2.2
                  have HFF := hide (show joinB (linesPj p) ⟨#[10]⟩ ++ ⟨#[10]⟩ = fmtPj p from HF.out.symm)
                  clear hR9 fA fL
                  go_wp2_with fail
                  refine HJ.out.mono ?_
                  rintro e V1 ⟨rfl, r⟩
                  have hBw := hBw.trans (r.mono (by omega))
                  clear r HJ
                  generalize joinB (linesPj p) ⟨#[10]⟩ = J at HFF hjs ⊢
                  go_wp2
                  go_ret
                  exact ⟨ret_str HFF.out, hBw⟩
end Go.Proofs.YtcecgbjolngdbaaGreatDoor
