/- Projects that are equal: the reference. -/
import Derived.Test.YtebfijjcmmlbjaaPrj6
import Derived.Deep.RegionHeld3
namespace Go.Proofs.Ytebfijjcmmlbjaa
open Go.ChangeShapes Go.WideShapes Go.ChangeAt Go.RowKit
set_option linter.unusedVariables false
set_option linter.unusedSimpArgs false

set_option maxRecDepth 20000 in
set_option maxHeartbeats 12800000 in
theorem specProjectEqual_any (p q : Pj) (A L R S A' L' R' S' : Option Addr) (ca cl cr cs ca' cl' cr' cs' lo hi lo' hi' : Nat) (w : World) (hs : szPj p ≤ 16777216) (fA : RdAs w lo hi A p.acts) (fL : RdLs w lo hi L p.links) (fR : RdRs w lo hi R p.res) (fS : RdI w lo hi S p.stocks) (fA' : RdAs w lo' hi' A' q.acts) (fL' : RdLs w lo' hi' L' q.links) (fR' : RdRs w lo' hi' R' q.res) (fS' : RdI w lo' hi' S' q.stocks) (hhi : hi ≤ w.heap.size) (hhi' : hi' ≤ w.heap.size) :
    Calls Try.prog 6 #[.agg #[.int .i64 p.dead, .slice A p.acts.length ca, .slice L p.links.length cl, .slice R p.res.length cr, .slice S p.stocks.length cs], .agg #[.int .i64 q.dead, .slice A' q.acts.length ca', .slice L' q.links.length cl', .slice R' q.res.length cr', .slice S' q.stocks.length cs']] w fun e w' => e = .returned (.bool (decide (p = q))) ∧ Below w.heap.size w w' := by
  have HM := hide (pj_eq p q)
  have HSA := hide (show szL szAc p.acts ≤ 16777216 from by unfold szPj at hs; omega)
  have HSR := hide (show szL szRs p.res ≤ 16777216 from by unfold szPj at hs; omega)
  have hl0 : p.acts.length ≤ 16777216 := Nat.le_trans (szL_len szAc _) HSA.out
  have hl1 : p.res.length ≤ 16777216 := Nat.le_trans (szL_len szRs _) HSR.out
  have hl2 : p.stocks.length ≤ 16777216 := by unfold szPj at hs; omega
  have hl3 : p.links.length ≤ 16777216 := by unfold szPj at hs; omega
  clear hs
  obtain ⟨W0, hW0⟩ : ∃ W0, W0 = (w.alloc (.cells #[.int .i64 p.dead, .slice A p.acts.length ca, .slice L p.links.length cl, .slice R p.res.length cr, .slice S p.stocks.length cs] 34)).alloc (.cells #[.int .i64 q.dead, .slice A' q.acts.length ca', .slice L' q.links.length cl', .slice R' q.res.length cr', .slice S' q.stocks.length cs'] 34) := ⟨_, rfl⟩
  have hB : Below w.heap.size w W0 := by rw [hW0]; exact ((Below.refl _ _).alloc (Nat.le_refl _) _).alloc (by simp) _
  have k0 : Bk W0 w.heap.size 34 #[.int .i64 p.dead, .slice A p.acts.length ca, .slice L p.links.length cl, .slice R p.res.length cr, .slice S p.stocks.length cs] := by rw [hW0]; exact (Bk.made w _ _).alloc _
  have k1 : Bk W0 (w.heap.size + 1) 34 #[.int .i64 q.dead, .slice A' q.acts.length ca', .slice L' q.links.length cl', .slice R' q.res.length cr', .slice S' q.stocks.length cs'] := by
    rw [hW0]
    have := Bk.made (w.alloc (.cells #[.int .i64 p.dead, .slice A p.acts.length ca, .slice L p.links.length cl, .slice R p.res.length cr, .slice S p.stocks.length cs] 34)) 34 #[.int .i64 q.dead, .slice A' q.acts.length ca', .slice L' q.links.length cl', .slice R' q.res.length cr', .slice S' q.stocks.length cs']
    simpa using this
  have z0 : W0.heap.size = w.heap.size + 2 := by rw [hW0]; simp
  have fA := fA.below hB hhi
  have fL := fL.below hB hhi
  have fR := fR.below hB hhi
  have fS := fS.below hB hhi
  have fA' := fA'.below hB hhi'
  have fL' := fL'.below hB hhi'
  have fR' := fR'.below hB hhi'
  have fS' := fS'.below hB hhi'
  have c0 := k0.cell 0
  have c1 := k0.cell 1
  have c2 := k0.cell 2
  have c3 := k0.cell 3
  have c4 := k0.cell 4
  have d0 := k1.cell 0
  have d1 := k1.cell 1
  have d2 := k1.cell 2
  have d3 := k1.cell 3
  have d4 := k1.cell 4
  simp only [List.getElem?_toArray, List.getElem?_cons_succ, List.getElem?_cons_zero] at c0 c1 c2 c3 c4 d0 d1 d2 d3 d4
  by_cases e0 : p.dead = q.dead
  case neg =>
    have HF := hide (show false = decide (p = q) from by rw [HM.out, decide_eq_false e0]; rfl)
    have t0 : (p.dead != q.dead) = true := by simp [e0]
    rw [hW0] at c0 d0 hB
    clear e0 c1 c2 c3 c4 d1 d2 d3 d4
    go_enter Try.func6, Try.ntmps6
    go_wp2
    go_ret
    exact ⟨ret_bool HF.out, hB⟩
  have t0 : (p.dead != q.dead) = false := by simp [e0]
  have HM := hide (show decide (p = q) = (decide (p.acts = q.acts) && (decide (p.links = q.links) && (decide (p.res = q.res) && decide (p.stocks = q.stocks)))) from by rw [HM.out, decide_eq_true e0, Bool.true_and])
  clear e0
  by_cases hl : p.acts.length = q.acts.length
  case neg =>
    have HF := hide (show false = decide (p = q) from by rw [HM.out, decide_eq_false (p := p.acts = q.acts) (fun e => hl (by rw [e]))]; simp)
    have t1 : ((p.acts.length : Int) != (q.acts.length : Int)) = true := by rw [bne_iff_ne]; omega
    rw [hW0] at c0 d0 c1 d1 hB
    clear hl
    go_enter Try.func6, Try.ntmps6
    go_wp2
    go_ret
    exact ⟨ret_bool HF.out, hB⟩
  have ta : ((p.acts.length : Int) != (q.acts.length : Int)) = false := by simp [hl]
  have Hta := hide hl
  clear hl
  by_cases hl : p.links.length = q.links.length
  case neg =>
    have HF := hide (show false = decide (p = q) from by rw [HM.out, decide_eq_false (p := p.links = q.links) (fun e => hl (by rw [e]))]; simp)
    have t1 : ((p.links.length : Int) != (q.links.length : Int)) = true := by rw [bne_iff_ne]; omega
    rw [hW0] at c0 d0 c1 d1 c2 d2 hB
    clear hl
    go_enter Try.func6, Try.ntmps6
    go_wp2
    go_ret
    exact ⟨ret_bool HF.out, hB⟩
  have tl : ((p.links.length : Int) != (q.links.length : Int)) = false := by simp [hl]
  have Htl := hide hl
  clear hl
  by_cases hl : p.res.length = q.res.length
  case neg =>
    have HF := hide (show false = decide (p = q) from by rw [HM.out, decide_eq_false (p := p.res = q.res) (fun e => hl (by rw [e]))]; simp)
    have t1 : ((p.res.length : Int) != (q.res.length : Int)) = true := by rw [bne_iff_ne]; omega
    rw [hW0] at c0 d0 c1 d1 c2 d2 c3 d3 hB
    clear hl
    go_enter Try.func6, Try.ntmps6
    go_wp2
    go_ret
    exact ⟨ret_bool HF.out, hB⟩
  have tr : ((p.res.length : Int) != (q.res.length : Int)) = false := by simp [hl]
  have Htr := hide hl
  clear hl
  clear c0 c1 c2 c3 c4 d0 d1 d2 d3 d4
  go_enter Try.func6, Try.ntmps6
  go_wp2_with fail
  refine at_world fun W hW => ?_
  obtain rfl : W = W0 := by rw [hW, hW0]
  clear hW hW0
  refine (specSetEqual_any S S' p.stocks q.stocks cs cs' lo hi lo' hi' W hl2 (by exact fS) (by exact fS')).mono ?_
  rintro e W1 ⟨rfl, q1⟩
  have r := Qt.below (Below.refl W.heap.size W) q1
  clear q1
  have zzW1 := r.size
  have hB := hB.trans (r.mono (by omega))
  have k0 := k0.below r (by omega)
  have k1 := k1.below r (by omega)
  have fA := fA.below r (by omega)
  have fL := fL.below r (by omega)
  have fR := fR.below r (by omega)
  have fS := fS.below r (by omega)
  have fA' := fA'.below r (by omega)
  have fL' := fL'.below r (by omega)
  have fR' := fR'.below r (by omega)
  have fS' := fS'.below r (by omega)
  clear r
  clear ta tl tr t0
  cases h1 : decide (p.stocks = q.stocks)
  · have HF := hide (show false = decide (p = q) from by rw [HM.out, h1]; simp)
    clear h1
    go_wp2
    go_ret
    exact ⟨ret_bool HF.out, hB⟩
  have HM := hide (show decide (p = q) = (decide (p.acts = q.acts) && (decide (p.links = q.links) && decide (p.res = q.res))) from by rw [HM.out, h1, Bool.and_true])
  clear h1
  have c0 := k0.cell 0
  have c1 := k0.cell 1
  have c2 := k0.cell 2
  have c3 := k0.cell 3
  have c4 := k0.cell 4
  have d0 := k1.cell 0
  have d1 := k1.cell 1
  have d2 := k1.cell 2
  have d3 := k1.cell 3
  have d4 := k1.cell 4
  simp only [List.getElem?_toArray, List.getElem?_cons_succ, List.getElem?_cons_zero] at c0 c1 c2 c3 c4 d0 d1 d2 d3 d4
  clear c0 c2 c3 c4 d0 d1 d2 d3 d4
  go_wp2
  clear c1
  go_loopw [57] (fun i wr => ∃ k : Nat, k ≤ p.acts.length ∧ i = .int .i64 k ∧ Below W1.heap.size W1 wr ∧ Hid (p.acts.take k = q.acts.take k)) (fun i _ => p.acts.length - (intOf i).toNat)
  case atStart => exact ⟨0, Nat.zero_le _, rfl, Below.refl _ _, hide (by simp)⟩
  case round =>
    obtain ⟨k, hk, rfl, hBr, HT⟩ := hrel
    have hsz := hBr.size
    by_cases hlt : k < p.acts.length
    · have hlt' : k < q.acts.length := by have := Hta.out; omega
      have hB2 := hB.trans (hBr.mono (by omega))
      obtain ⟨b, off, M, cm, rfl, h1, h2, g0, g1, g2, fM⟩ := (fA.below hBr (by omega)).at hlt
      obtain ⟨b', off', M', cm', rfl, h1', h2', g0', g1', g2', fM'⟩ := (fA'.below hBr (by omega)).at hlt'
      have kq := k1.below hBr (by omega)
      have hs3 : szAc (p.acts.getD k ac0) ≤ 16777216 := by have := szL_at szAc ac0 hlt; have := HSA.out; omega
      clear fA fA' fL fL' fR fR' fS fS' k0 k1
      have HNO := hide (show p.acts.getD k ac0 ≠ q.acts.getD k ac0 → false = decide (p = q) from fun hne => by
        rw [HM.out, decide_eq_false (p := p.acts = q.acts) (fun e => hne (by rw [e]))]; rfl)
      have HYS := hide (show p.acts.getD k ac0 = q.acts.getD k ac0 → p.acts.take (k + 1) = q.acts.take (k + 1) from fun he => take_succ_eq HT.out hlt hlt' he)
      generalize p.acts.getD k ac0 = m at g0 g1 g2 fM hs3 HNO HYS
      generalize q.acts.getD k ac0 = m' at g0' g1' g2' fM' HNO HYS
      obtain ⟨V, hV⟩ : ∃ V, V = wr.alloc (.cells #[.string m.name, .int .i64 m.fam, .slice M m.modes.length cm] 47) := ⟨_, rfl⟩
      have bV : Below wr.heap.size wr V := by rw [hV]; exact (Below.refl _ _).alloc (Nat.le_refl _) _
      have kb : Bk V wr.heap.size 47 #[.string m.name, .int .i64 m.fam, .slice M m.modes.length cm] := by rw [hV]; exact Bk.made _ _ _
      have zV : V.heap.size = wr.heap.size + 1 := by rw [hV]; simp
      have p0 := kb.cell 0
      have p1 := kb.cell 1
      have p2 := kb.cell 2
      have p3 := (kq.below bV (by omega)).cell 1
      have p4 := (bV.cell (p := ⟨b', off' + k * 3, none⟩) (by show b' < _; omega)).trans g0'
      have p5 := (bV.cell (p := ⟨b', off' + k * 3 + 1, none⟩) (by show b' < _; omega)).trans g1'
      have p6 := (bV.cell (p := ⟨b', off' + k * 3 + 2, none⟩) (by show b' < _; omega)).trans g2'
      simp only [List.getElem?_toArray, List.getElem?_cons_succ, List.getElem?_cons_zero] at p0 p1 p2 p3
      have H1 := hide (fM.below bV (by omega))
      have H2 := hide (fM'.below bV (by omega))
      have HB3 := hide (hB2.trans (bV.mono (by omega)))
      have HBR := hide (hBr.trans (bV.mono (by omega)))
      have hL : V.heap.size ≤ V.heap.size := Nat.le_refl _
      have HV := hide hV
      clear fM fM' kb kq bV hBr hB2 g0' g1' g2' hV
      go_wp2_with fail
      rw [← HV.out]
      clear g0 g1 g2
      go_region_held3 (fun w' => (w'.cell? ⟨wr.heap.size, 0, none⟩ = some (.string m.name) ∧ w'.cell? ⟨wr.heap.size, 1, none⟩ = some (.int .i64 m.fam) ∧ w'.cell? ⟨wr.heap.size, 2, none⟩ = some (.slice M m.modes.length cm) ∧ w'.cell? ⟨w.heap.size + 1, 1, none⟩ = some (.slice (some ⟨b', off', none⟩) q.acts.length ca') ∧ w'.cell? ⟨b', off' + k * 3, none⟩ = some (.string m'.name) ∧ w'.cell? ⟨b', off' + k * 3 + 1, none⟩ = some (.int .i64 m'.fam) ∧ w'.cell? ⟨b', off' + k * 3 + 2, none⟩ = some (.slice M' m'.modes.length cm')) ∧ Only V.heap.size V.heap.size V w' ∧ V.heap.size ≤ w'.heap.size)
        (first | exact ⟨⟨p0, p1, p2, p3, p4, p5, p6⟩, (Only.refl _ _ _).drew, hL⟩ | (go_split_ands; exact (fun hO => ⟨⟨only_cell hO p0, only_cell hO p1, only_cell hO p2, only_cell hO p3, only_cell hO p4, only_cell hO p5, only_cell hO p6⟩, hO, hO.size⟩) (only_grow (by assumption) r_e)))
        (first | (go_at_call 21; (try go_split_ands); refine (specActivityEqual_any m m' M M' cm cm' lo hi lo' hi' _ hs3 (H1.out.only (by assumption) (by omega) (by omega)) (H2.out.only (by assumption) (by omega) (by omega)) (by omega) (by omega)).mono ?_; rintro e w' ⟨rfl, r_e⟩))
      go_split_ands
      have hO : Only V.heap.size V.heap.size V w' := by assumption
      have hBB := below_only HB3.out hO (by omega) (by omega)
      have hBQ := below_only HBR.out hO (by omega) (by omega)
      by_cases hxy : m = m'
      · rw [decide_eq_true hxy]
        have HY := hide (HYS.out hxy)
        clear hxy p0 p1 p2 p3 p4 p5 p6
        go_wp2
        go_roundw
        case rel => exact ⟨k + 1, by omega, by go_num, hBQ, HY⟩
        case measure => simp [intOf]; omega
      · rw [decide_eq_false hxy]
        have HF := hide (HNO.out hxy)
        clear hxy p0 p1 p2 p3 p4 p5 p6
        go_wp2
        go_ret
        exact ⟨ret_bool HF.out, hBB⟩
    · obtain rfl : k = p.acts.length := by omega
      have e1 : p.acts = q.acts := by
        have ht := HT.out
        rwa [List.take_of_length_le (by omega), List.take_of_length_le (by have := Hta.out; omega)] at ht
      have HM := hide (show decide (p = q) = (decide (p.links = q.links) && decide (p.res = q.res)) from by rw [HM.out, decide_eq_true e1, Bool.true_and])
      have c2 := (k0.below hBr (by omega)).cell 2
      simp only [List.getElem?_toArray, List.getElem?_cons_succ, List.getElem?_cons_zero] at c2
      clear HT e1 hk hlt fA fA' fS fS'
      go_wp2
      clear c2
      go_loopw [74] (fun i wr => ∃ k : Nat, k ≤ p.links.length ∧ i = .int .i64 k ∧ Below W1.heap.size W1 wr ∧ Hid (p.links.take k = q.links.take k)) (fun i _ => p.links.length - (intOf i).toNat)
      case atStart => exact ⟨0, Nat.zero_le _, rfl, hBr, hide (by simp)⟩
      case round =>
        clear hBr hsz
        obtain ⟨k, hk, rfl, hBr, HT⟩ := hrel
        have hsz := hBr.size
        by_cases hlt : k < p.links.length
        · have hlt' : k < q.links.length := by have := Htl.out; omega
          have hB2 := hB.trans (hBr.mono (by omega))
          obtain ⟨b, off, rfl, h1, h2, g0, g1, g2, g3⟩ := (fL.below hBr (by omega)).at hlt
          obtain ⟨b', off', rfl, h1', h2', g0', g1', g2', g3'⟩ := (fL'.below hBr (by omega)).at hlt'
          have kq := k1.below hBr (by omega)
          clear fL fL' fR fR' k0 k1
          have HNO := hide (show p.links.getD k lk0 ≠ q.links.getD k lk0 → false = decide (p = q) from fun hne => by
            rw [HM.out, decide_eq_false (p := p.links = q.links) (fun e => hne (by rw [e]))]; rfl)
          have HYS := hide (show p.links.getD k lk0 = q.links.getD k lk0 → p.links.take (k + 1) = q.links.take (k + 1) from fun he => take_succ_eq HT.out hlt hlt' he)
          generalize p.links.getD k lk0 = m at g0 g1 g2 g3 HNO HYS
          generalize q.links.getD k lk0 = m' at g0' g1' g2' g3' HNO HYS
          obtain ⟨x1, x2, x3, x4⟩ := m
          obtain ⟨y1, y2, y3, y4⟩ := m'
          simp only at g0 g1 g2 g3 g0' g1' g2' g3'
          obtain ⟨V, hV⟩ : ∃ V, V = wr.alloc (.cells #[.int .i64 x1, .int .i64 x2, .bool x3, .int .i64 x4] 50) := ⟨_, rfl⟩
          have bV : Below wr.heap.size wr V := by rw [hV]; exact (Below.refl _ _).alloc (Nat.le_refl _) _
          have kb : Bk V wr.heap.size 50 #[.int .i64 x1, .int .i64 x2, .bool x3, .int .i64 x4] := by rw [hV]; exact Bk.made _ _ _
          have p0 := kb.cell 0
          have p1 := kb.cell 1
          have p2 := kb.cell 2
          have p3 := kb.cell 3
          have p4 := (kq.below bV (by omega)).cell 2
          have p5 := (bV.cell (p := ⟨b', off' + k * 4, none⟩) (by show b' < _; omega)).trans g0'
          have p6 := (bV.cell (p := ⟨b', off' + k * 4 + 1, none⟩) (by show b' < _; omega)).trans g1'
          have p7 := (bV.cell (p := ⟨b', off' + k * 4 + 2, none⟩) (by show b' < _; omega)).trans g2'
          have p8 := (bV.cell (p := ⟨b', off' + k * 4 + 3, none⟩) (by show b' < _; omega)).trans g3'
          simp only [List.getElem?_toArray, List.getElem?_cons_succ, List.getElem?_cons_zero] at p0 p1 p2 p3 p4
          have HB3 := hide (hB2.trans (bV.mono (by omega)))
          have HBR := hide (hBr.trans (bV.mono (by omega)))
          have HV := hide hV
          clear kb kq bV hBr hB2 g0' g1' g2' g3' hV
          by_cases e1 : x1 = y1
          case neg =>
            have HF := hide (HNO.out (fun e => e1 (by injection e)))
            have t1 : (x1 == y1) = false := by simp [e1]
            clear e1 HYS HNO
            go_wp2_with fail
            rw [← HV.out]
            go_quiet (fail)
            clear p0 p1 p2 p3 p4 p5 p6 p7 p8
            go_wp2
            go_ret
            exact ⟨ret_bool HF.out, (by repeat (first | exact HB3.out | apply below_quiet))⟩
          by_cases e2 : x2 = y2
          case neg =>
            have HF := hide (HNO.out (fun e => e2 (by injection e)))
            have t1 : (x1 == y1) = true := by simp [e1]
            have t2 : (x2 == y2) = false := by simp [e2]
            clear e1 e2 HYS HNO
            go_wp2_with fail
            rw [← HV.out]
            go_quiet (fail)
            clear p0 p1 p2 p3 p4 p5 p6 p7 p8
            go_wp2
            go_ret
            exact ⟨ret_bool HF.out, (by repeat (first | exact HB3.out | apply below_quiet))⟩
          by_cases e3 : x3 = y3
          case neg =>
            have HF := hide (HNO.out (fun e => e3 (by injection e)))
            have t1 : (x1 == y1) = true := by simp [e1]
            have t2 : (x2 == y2) = true := by simp [e2]
            have t3 : (x3 == y3) = false := by simp [e3]
            clear e1 e2 e3 HYS HNO
            go_wp2_with fail
            rw [← HV.out]
            go_quiet (fail)
            clear p0 p1 p2 p3 p4 p5 p6 p7 p8
            go_wp2
            go_ret
            exact ⟨ret_bool HF.out, (by repeat (first | exact HB3.out | apply below_quiet))⟩
          by_cases e4 : x4 = y4
          case neg =>
            have HF := hide (HNO.out (fun e => e4 (by injection e)))
            have t1 : (x1 == y1) = true := by simp [e1]
            have t2 : (x2 == y2) = true := by simp [e2]
            have t3 : (x3 == y3) = true := by simp [e3]
            have t4 : (x4 == y4) = false := by simp [e4]
            clear e1 e2 e3 e4 HYS HNO
            go_wp2_with fail
            rw [← HV.out]
            go_quiet (fail)
            clear p0 p1 p2 p3 p4 p5 p6 p7 p8
            go_wp2
            go_ret
            exact ⟨ret_bool HF.out, (by repeat (first | exact HB3.out | apply below_quiet))⟩
          have t1 : (x1 == y1) = true := by simp [e1]
          have t2 : (x2 == y2) = true := by simp [e2]
          have t3 : (x3 == y3) = true := by simp [e3]
          have t4 : (x4 == y4) = true := by simp [e4]
          have HYS := hide (HYS.out (by rw [e1, e2, e3, e4]))
          clear e1 e2 e3 e4 HNO
          go_wp2_with fail
          rw [← HV.out]
          go_quiet (fail)
          clear p0 p1 p2 p3 p4 p5 p6 p7 p8
          go_wp2
          go_roundw
          case rel => exact ⟨k + 1, by omega, by go_num, (by repeat (first | exact HBR.out | apply below_quiet)), HYS⟩
          case measure => simp [intOf]; omega
        · obtain rfl : k = p.links.length := by omega
          have e1 : p.links = q.links := by
            have ht := HT.out
            rwa [List.take_of_length_le (by omega), List.take_of_length_le (by have := Htl.out; omega)] at ht
          have HM := hide (show decide (p = q) = decide (p.res = q.res) from by rw [HM.out, decide_eq_true e1, Bool.true_and])
          have c3 := (k0.below hBr (by omega)).cell 3
          simp only [List.getElem?_toArray, List.getElem?_cons_succ, List.getElem?_cons_zero] at c3
          clear HT e1 hk hlt fL fL'
          go_wp2
          clear c3
          go_loopw [90] (fun i wr => ∃ k : Nat, k ≤ p.res.length ∧ i = .int .i64 k ∧ Below W1.heap.size W1 wr ∧ Hid (p.res.take k = q.res.take k)) (fun i _ => p.res.length - (intOf i).toNat)
          case atStart => exact ⟨0, Nat.zero_le _, rfl, hBr, hide (by simp)⟩
          case round =>
            clear hBr hsz
            obtain ⟨k, hk, rfl, hBr, HT⟩ := hrel
            have hsz := hBr.size
            by_cases hlt : k < p.res.length
            · have hlt' : k < q.res.length := by have := Htr.out; omega
              have hB2 := hB.trans (hBr.mono (by omega))
              obtain ⟨b, off, S1, cs1, T1, ct1, rfl, h1, h2, g0, g1, fS1, fT1⟩ := (fR.below hBr (by omega)).at hlt
              obtain ⟨b', off', S2, cs2, T2, ct2, rfl, h1', h2', g0', g1', fS2, fT2⟩ := (fR'.below hBr (by omega)).at hlt'
              have kq := k1.below hBr (by omega)
              have hs3 : szRs (p.res.getD k rs0) ≤ 16777216 := by have := szL_at szRs rs0 hlt; have := HSR.out; omega
              clear fR fR' k0 k1
              have HNO := hide (show p.res.getD k rs0 ≠ q.res.getD k rs0 → false = decide (p = q) from fun hne => by
                rw [HM.out, decide_eq_false (p := p.res = q.res) (fun e => hne (by rw [e]))])
              have HYS := hide (show p.res.getD k rs0 = q.res.getD k rs0 → p.res.take (k + 1) = q.res.take (k + 1) from fun he => take_succ_eq HT.out hlt hlt' he)
              generalize p.res.getD k rs0 = m at g0 g1 fS1 fT1 hs3 HNO HYS
              generalize q.res.getD k rs0 = m' at g0' g1' fS2 fT2 HNO HYS
              have HRS := hide (rs_eq m m')
              obtain ⟨u, v⟩ := m
              obtain ⟨u', v'⟩ := m'
              simp only at g0 g1 fS1 fT1 g0' g1' fS2 fT2 HRS
              have hu : u.length ≤ 16777216 := by unfold szRs at hs3; simp only at hs3; omega
              have hv : szL List.length v ≤ 16777216 := by unfold szRs at hs3; simp only at hs3; omega
              have HVZ := hide hv
              have hv1 : v.length ≤ 16777216 := Nat.le_trans (szL_len _ _) hv
              clear hs3 hv
              have c3 := fun o => (kq.alloc o).cell 3
              simp only [List.getElem?_toArray, List.getElem?_cons_succ, List.getElem?_cons_zero] at c3
              have q0 := fun o => (World.cell?_alloc_lt wr o ⟨b', off' + k * 2, none⟩ (by show b' < _; omega)).trans g0'
              have q1 := fun o => (World.cell?_alloc_lt wr o ⟨b', off' + k * 2 + 1, none⟩ (by show b' < _; omega)).trans g1'
              go_wp2_with fail
              refine at_world fun V hV => ?_
              have bV : Below wr.heap.size wr V := by rw [hV]; exact ((Below.refl _ _).alloc (Nat.le_refl _) _).alloc (by simp) _
              have kb1 : Bk V wr.heap.size 54 #[.slice S1 u.length cs1, .slice T1 v.length ct1] := by rw [hV]; exact (Bk.made _ _ _).alloc _
              have kb2 : Bk V (wr.heap.size + 1) 54 #[.slice S2 u'.length cs2, .slice T2 v'.length ct2] := by
                rw [hV]
                have := Bk.made (wr.alloc (.cells #[.slice S1 u.length cs1, .slice T1 v.length ct1] 54)) 54 #[.slice S2 u'.length cs2, .slice T2 v'.length ct2]
                simpa using this
              have zV : V.heap.size = wr.heap.size + 2 := by rw [hV]; simp
              clear hV c3 q0 q1 g0 g1 g0' g1' kq
              have hBV := hB2.trans (bV.mono (by omega))
              have hBRV := hBr.trans (bV.mono (by omega))
              have fT1 := fT1.below bV (by omega)
              have fT2 := fT2.below bV (by omega)
              refine (specStepsEqual_any S1 S2 u u' cs1 cs2 lo hi lo' hi' V hu (by exact fS1.below bV (by omega)) (by exact fS2.below bV (by omega))).mono ?_
              rintro e V1 ⟨rfl, qq⟩
              obtain ⟨d, rfl⟩ := qq
              have hBV := below_quiet hBV d
              have hBRV := below_quiet hBRV d
              have fT1 := fT1.drewN d
              have fT2 := fT2.drewN d
              have kb1 : Bk (V.drewN d) wr.heap.size 54 #[.slice S1 u.length cs1, .slice T1 v.length ct1] := kb1
              have kb2 : Bk (V.drewN d) (wr.heap.size + 1) 54 #[.slice S2 u'.length cs2, .slice T2 v'.length ct2] := kb2
              have zV : (V.drewN d).heap.size = wr.heap.size + 2 := zV
              clear bV hBr hB2 fS1 fS2
              generalize V.drewN d = V2 at hBV hBRV fT1 fT2 kb1 kb2 zV ⊢
              by_cases e1 : u = u'
              case neg =>
                have HF := hide (HNO.out (fun e => e1 (by injection e)))
                rw [decide_eq_false e1]
                clear e1 HNO HYS HRS
                go_wp2
                go_ret
                exact ⟨ret_bool HF.out, hBV⟩
              rw [decide_eq_true e1]
              have p1 := kb1.cell 1
              have p3 := kb2.cell 1
              simp only [List.getElem?_toArray, List.getElem?_cons_succ, List.getElem?_cons_zero] at p1 p3
              by_cases e2 : v.length = v'.length
              case neg =>
                have HF := hide (HNO.out (fun e => e2 (by injection e with _ e; rw [e])))
                have t1 : ((v.length : Int) != (v'.length : Int)) = true := by rw [bne_iff_ne]; omega
                clear e1 e2 HNO HYS HRS
                go_wp2
                go_ret
                exact ⟨ret_bool HF.out, hBV⟩
              have t1 : ((v.length : Int) != (v'.length : Int)) = false := by simp [e2]
              have HL := hide e2
              have HU := hide e1
              clear e1 e2
              go_wp2
              go_loopw [118] (fun i wr => ∃ k : Nat, k ≤ v.length ∧ i = .int .i64 k ∧ Qt V2 wr ∧ Hid (v.take k = v'.take k)) (fun i _ => v.length - (intOf i).toNat)
              case atStart => exact ⟨0, Nat.zero_le _, rfl, Qt.refl _, hide (by simp)⟩
              case round =>
                clear t1 p1 p3
                obtain ⟨j, hj, rfl, ⟨d2, rfl⟩, HT2⟩ := hrel
                have p3 := kb2.cell 1
                simp only [List.getElem?_toArray, List.getElem?_cons_succ, List.getElem?_cons_zero] at p3
                by_cases hlj : j < v.length
                · have hlj' : j < v'.length := by have := HL.out; omega
                  obtain ⟨b, off, R1, cr1, rfl, h1, h2, g0, fR1⟩ := fT1.at hlj
                  obtain ⟨b', off', R2, cr2, rfl, h1', h2', g0', fR2⟩ := fT2.at hlj'
                  have hs3 : (v.getD j []).length ≤ 16777216 := by have := szL_at List.length [] hlj; have := HVZ.out; omega
                  clear fT1 fT2
                  have HNO2 := hide (show v.getD j [] ≠ v'.getD j [] → false = decide (p = q) from fun hne => HNO.out (fun e => hne (by injection e with _ e; rw [e])))
                  have HYS2 := hide (show v.getD j [] = v'.getD j [] → v.take (j + 1) = v'.take (j + 1) from fun he => take_succ_eq HT2.out hlj hlj' he)
                  generalize v.getD j [] = m at g0 fR1 hs3 HNO2 HYS2
                  generalize v'.getD j [] = m' at g0' fR2 HNO2 HYS2
                  go_wp2_with fail
                  refine (specSetEqual_any R1 R2 m m' cr1 cr2 lo hi lo' hi' _ hs3 (by exact fR1.drewN d2) (by exact fR2.drewN d2)).mono ?_
                  rintro e V3 ⟨rfl, ⟨d3, rfl⟩⟩
                  by_cases hxy : m = m'
                  · rw [decide_eq_true hxy]
                    have HY2 := hide (HYS2.out hxy)
                    clear hxy p3
                    go_wp2
                    go_roundw
                    case rel => exact ⟨j + 1, by omega, by go_num, (by repeat (first | exact Qt.refl _ | apply Qt.drewN | apply Qt.drew)), HY2⟩
                    case measure => simp [intOf]; omega
                  · rw [decide_eq_false hxy]
                    have HF := hide (HNO2.out hxy)
                    clear hxy p3
                    go_wp2
                    go_ret
                    exact ⟨ret_bool HF.out, (by repeat (first | exact hBV | apply below_quiet))⟩
                · have e2 : v = v' := by
                    have ht := HT2.out
                    rwa [List.take_of_length_le (by omega), List.take_of_length_le (by have := HL.out; omega)] at ht
                  have HY := hide (HYS.out (by rw [HU.out, e2]))
                  clear e2 p3
                  go_wp2
                  go_roundw
                  case rel => exact ⟨k + 1, by omega, by go_num, (by repeat (first | exact hBRV | apply below_quiet)), HY⟩
                  case measure => simp [intOf]; omega
            · obtain rfl : k = p.res.length := by omega
              have e1 : p.res = q.res := by
                have ht := HT.out
                rwa [List.take_of_length_le (by omega), List.take_of_length_le (by have := Htr.out; omega)] at ht
              have HF := hide (show true = decide (p = q) from by rw [HM.out, decide_eq_true e1])
              have hB2 := hB.trans (hBr.mono (by omega))
              clear HT e1
              go_wp2
              go_ret
              exact ⟨ret_bool HF.out, hB2⟩
end Go.Proofs.Ytebfijjcmmlbjaa
