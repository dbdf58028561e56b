/- The setup time between two activities on a machine. -/
import Derived.Test.YtfjohklcapekkaaKitMd
import Derived.Test.YtfjohklcapekkaaPrj3
namespace Go.Proofs.Ytfjohklcapekkaa
open Go.ChangeShapes Go.WideShapes Go.ChangeAt Go.RowKit
set_option linter.unusedVariables false

theorem setup_no1 {p : Pj} {r a b : Int} (h : pjOkB p = false) : (0 : Int) = setupM p r a b := by unfold setupM; rw [h]; rfl
theorem setup_no2 {p : Pj} {r a b : Int} (h : isMachB p r = false) : (0 : Int) = setupM p r a b := by unfold setupM; rw [h, Bool.and_false]; rfl
theorem setup_no3 {p : Pj} {r a b : Int} (h : inActs p a = false) : (0 : Int) = setupM p r a b := by unfold setupM; rw [h, Bool.false_and, Bool.and_false]; rfl
theorem setup_no4 {p : Pj} {r a b : Int} (h : inActs p b = false) : (0 : Int) = setupM p r a b := by unfold setupM; rw [h, Bool.and_false, Bool.and_false]; rfl
theorem setup_yes {p : Pj} {r a b : Int} (h1 : pjOkB p = true) (h2 : isMachB p r = true) (h3 : inActs p a = true) (h4 : inActs p b = true) : setupM p r a b = ((p.res.getD r.toNat rs0).setup.getD (famAt p a).toNat []).getD (famAt p b).toNat 0 := by unfold setupM; rw [h1, h2, h3, h4]; rfl
set_option maxHeartbeats 6400000 in
theorem implSetupTime_any (p : Pj) (r a b : Int) (A L R S : Option Addr) (ca cl cr cs lo hi : Nat) (w : World) (hs : szPj p ≤ 16777216) (fA : RdAs w lo hi A p.acts) (fL : RdLs w lo hi L p.links) (fR : RdRs w lo hi R p.res) (fS : RdI w lo hi S p.stocks) (hhi : hi ≤ w.heap.size) :
    Calls Try.prog 45 #[.agg #[.int .i64 p.dead, .slice A p.acts.length ca, .slice L p.links.length cl, .slice R p.res.length cr, .slice S p.stocks.length cs], .int .i64 r, .int .i64 a, .int .i64 b] w fun e w' => e = .returned (.int .i64 (setupM p r a b)) ∧ Below w.heap.size w w' := by
  have hl0 : p.acts.length ≤ 16777216 := by unfold szPj at hs; have := szL_len szAc p.acts; omega
  have hl1 : p.res.length ≤ 16777216 := by unfold szPj at hs; have := szL_len szRs p.res; omega
  go_enter Try.func45, Try.ntmps45
  go_wp2_with fail
  refine at_world fun W0 hW => ?_
  have z0 : W0.heap.size = w.heap.size + 1 := by rw [hW]; simp
  have hB : Below w.heap.size w W0 := by rw [hW]; exact (Below.refl _ _).alloc (Nat.le_refl _) _
  have k0 : Bk W0 w.heap.size 53 #[.int .i64 p.dead, .slice A p.acts.length ca, .slice L p.links.length cl, .slice R p.res.length cr, .slice S p.stocks.length cs] := by rw [hW]; exact Bk.made w _ _
  clear hW
  have fA := fA.below hB hhi
  have fL := fL.below hB hhi
  have fR := fR.below hB hhi
  have fS := fS.below hB hhi
  refine (implIsMachine_any p r A L R S ca cl cr cs lo hi W0 hl1 fR (by omega)).mono ?_
  rintro e W1 ⟨rfl, hB1⟩
  have zzW1 := hB1.size
  have k0 := k0.below hB1 (by omega)
  have fA := fA.below hB1 (by omega)
  have fL := fL.below hB1 (by omega)
  have fR := fR.below hB1 (by omega)
  have fS := fS.below hB1 (by omega)
  have hB := hB.trans (hB1.mono (by omega))
  clear hB1
  cases hmc : isMachB p r
  · skip
    have HZ := hide (setup_no2 (p := p) (r := r) (a := a) (b := b) hmc)
    go_wp2
    go_ret
    exact ⟨ret_int HZ.out, hB⟩
  have c0 := k0.cell 0
  have c1 := k0.cell 1
  have c2 := k0.cell 2
  have c3 := k0.cell 3
  have c4 := k0.cell 4
  simp only [List.getElem?_toArray, List.getElem?_cons_succ, List.getElem?_cons_zero] at c0 c1 c2 c3 c4
  go_wp2_with fail
  refine (implProjectOk_any p A L R S ca cl cr cs lo hi W1 hs fA fL fR fS (by omega)).mono ?_
  rintro e W2 ⟨rfl, hB1⟩
  clear c0 c1 c2 c3 c4
  have zzW2 := hB1.size
  have k0 := k0.below hB1 (by omega)
  have fA := fA.below hB1 (by omega)
  have fL := fL.below hB1 (by omega)
  have fR := fR.below hB1 (by omega)
  have fS := fS.below hB1 (by omega)
  have hB := hB.trans (hB1.mono (by omega))
  clear hB1
  cases hok : pjOkB p
  · skip
    have HZ := hide (setup_no1 (p := p) (r := r) (a := a) (b := b) hok)
    go_wp2
    go_ret
    exact ⟨ret_int HZ.out, hB⟩
  have c0 := k0.cell 0
  have c1 := k0.cell 1
  have c2 := k0.cell 2
  have c3 := k0.cell 3
  have c4 := k0.cell 4
  simp only [List.getElem?_toArray, List.getElem?_cons_succ, List.getElem?_cons_zero] at c0 c1 c2 c3 c4
  go_wp2_with fail
  refine (hasActivity_any p A L R S ca cl cr cs a W2 hl0).mono ?_
  rintro e W3 ⟨rfl, hB1⟩
  clear c0 c1 c2 c3 c4
  have zzW3 := hB1.size
  have k0 := k0.below hB1 (by omega)
  have fA := fA.below hB1 (by omega)
  have fL := fL.below hB1 (by omega)
  have fR := fR.below hB1 (by omega)
  have fS := fS.below hB1 (by omega)
  have hB := hB.trans (hB1.mono (by omega))
  clear hB1
  by_cases ha : 0 ≤ a ∧ a ≤ (p.acts.length : Int) - 1
  case neg =>
    rw [decide_eq_false ha]
    have HZ := hide (setup_no3 (p := p) (r := r) (a := a) (b := b) (decide_eq_false ha))
    go_wp2
    go_ret
    exact ⟨ret_int HZ.out, hB⟩
  rw [decide_eq_true ha]
  have c0 := k0.cell 0
  have c1 := k0.cell 1
  have c2 := k0.cell 2
  have c3 := k0.cell 3
  have c4 := k0.cell 4
  simp only [List.getElem?_toArray, List.getElem?_cons_succ, List.getElem?_cons_zero] at c0 c1 c2 c3 c4
  go_wp2_with fail
  refine (hasActivity_any p A L R S ca cl cr cs b W3 hl0).mono ?_
  rintro e W4 ⟨rfl, hB1⟩
  clear c0 c1 c2 c3 c4
  have zzW4 := hB1.size
  have k0 := k0.below hB1 (by omega)
  have fA := fA.below hB1 (by omega)
  have fL := fL.below hB1 (by omega)
  have fR := fR.below hB1 (by omega)
  have fS := fS.below hB1 (by omega)
  have hB := hB.trans (hB1.mono (by omega))
  clear hB1
  by_cases hb : 0 ≤ b ∧ b ≤ (p.acts.length : Int) - 1
  case neg =>
    rw [decide_eq_false hb]
    have HZ := hide (setup_no4 (p := p) (r := r) (a := a) (b := b) (decide_eq_false hb))
    go_wp2
    go_ret
    exact ⟨ret_int HZ.out, hB⟩
  rw [decide_eq_true hb]
  obtain ⟨hr0, hr1, hr2⟩ : 0 ≤ r ∧ r ≤ (p.res.length : Int) - 1 ∧ 0 < (p.res.getD r.toNat rs0).setup.length := by
    unfold isMachB at hmc
    rw [Bool.and_eq_true, decide_eq_true_eq, decide_eq_true_eq] at hmc
    exact ⟨hmc.1.1, hmc.1.2, hmc.2⟩
  obtain ⟨nr, rfl⟩ : ∃ n : Nat, r = n := ⟨r.toNat, by omega⟩
  obtain ⟨na, rfl⟩ : ∃ n : Nat, a = n := ⟨a.toNat, by omega⟩
  obtain ⟨nb, rfl⟩ : ∃ n : Nat, b = n := ⟨b.toNat, by omega⟩
  have HR := hide (setup_yes hok hmc (show inActs p na = true from decide_eq_true ha) (show inActs p nb = true from decide_eq_true hb))
  unfold famAt at HR
  simp only [Int.toNat_natCast] at HR hr2
  obtain ⟨hs4, hrow⟩ := rsOk_setup (pjOk_res hok (k := nr) (by omega)) hr2
  have hfa := acOk_fam (pjOk_acts hok (k := na) (by omega))
  have hfb := acOk_fam (pjOk_acts hok (k := nb) (by omega))
  have hna : na < p.acts.length := by omega
  have hnb : nb < p.acts.length := by omega
  have hnr : nr < p.res.length := by omega
  obtain ⟨b1, o1, M1, cm1, hA1, u1, u2, x0, x1, x2, _⟩ := fA.at (k := na) hna
  obtain ⟨b2, o2, M2, cm2, hA2, _, _, y0, y1, y2, _⟩ := fA.at (k := nb) hnb
  subst hA1
  injection hA2 with hA2
  injection hA2 with e1 e2
  subst e1 e2
  obtain ⟨b3, o3, S1, cs1, T1, ct1, hR0, _, _, z0', z1, _, fT1⟩ := fR.at (k := nr) hnr
  subst hR0
  generalize p.res.getD nr rs0 = rr at hs4 hrow z0' z1 fT1 HR
  generalize (p.acts.getD na ac0).fam = fa at hfa x1 HR
  generalize (p.acts.getD nb ac0).fam = fb at hfb y1 HR
  obtain ⟨ma, rfl⟩ : ∃ n : Nat, fa = n := ⟨fa.toNat, by omega⟩
  obtain ⟨mb, rfl⟩ : ∃ n : Nat, fb = n := ⟨fb.toNat, by omega⟩
  simp only [Int.toNat_natCast] at HR
  obtain ⟨b4, o4, R1, cr1, hT0, _, _, t0, fRow⟩ := fT1.at (k := ma) (by omega)
  have hrl := hrow ma (by omega)
  subst hT0
  rw [hs4] at z1
  generalize rr.setup.getD ma [] = row at t0 fRow hrl HR
  obtain ⟨b5, o5, hR1, _, _, hc⟩ := fRow (by omega)
  have v0 := hc mb (by omega)
  subst hR1
  rw [hrl] at t0
  generalize row.getD mb 0 = V at v0 HR
  have i1 : (0 : Int) ≤ (nr : Int) := by omega
  have i2 : (nr : Int) < (p.res.length : Int) := by omega
  have i3 : (0 : Int) ≤ (na : Int) := by omega
  have i4 : (na : Int) < (p.acts.length : Int) := by omega
  have i5 : (0 : Int) ≤ (nb : Int) := by omega
  have i6 : (nb : Int) < (p.acts.length : Int) := by omega
  have i7 : (0 : Int) ≤ (ma : Int) := by omega
  have i8 : (ma : Int) < ((4 : Nat) : Int) := by omega
  have i9 : (0 : Int) ≤ (mb : Int) := by omega
  have j1 : (mb : Int) < ((4 : Nat) : Int) := by omega
  have j2 : ma < 4 := by omega
  have j3 : mb < 4 := by omega
  have i8' : (ma : Int) < 4 := by omega
  have j1' : (mb : Int) < 4 := by omega
  have c1 := k0.cell 1
  have c3 := k0.cell 3
  simp only [List.getElem?_toArray, List.getElem?_cons_succ, List.getElem?_cons_zero] at c1 c3
  clear fA fR fT1 fRow hc hrow hfa hfb hs4 hrl hr2 hmc hok ha hb hr0 hr1 x0 x2 y0 y2 z0'
  go_wp2_with fail
  go_quiet (fail)
  go_wp2
  go_ret
  exact ⟨ret_int HR.out.symm, (by repeat (first | exact hB | apply below_quiet))⟩
set_option maxHeartbeats 6400000 in
theorem specSetupTime_any (p : Pj) (r a b : Int) (A L R S : Option Addr) (ca cl cr cs lo hi : Nat) (w : World) (hs : szPj p ≤ 16777216) (fA : RdAs w lo hi A p.acts) (fL : RdLs w lo hi L p.links) (fR : RdRs w lo hi R p.res) (fS : RdI w lo hi S p.stocks) (hhi : hi ≤ w.heap.size) :
    Calls Try.prog 44 #[.agg #[.int .i64 p.dead, .slice A p.acts.length ca, .slice L p.links.length cl, .slice R p.res.length cr, .slice S p.stocks.length cs], .int .i64 r, .int .i64 a, .int .i64 b] w fun e w' => e = .returned (.int .i64 (setupM p r a b)) ∧ Below w.heap.size w w' := by
  have hl0 : p.acts.length ≤ 16777216 := by unfold szPj at hs; have := szL_len szAc p.acts; omega
  have hl1 : p.res.length ≤ 16777216 := by unfold szPj at hs; have := szL_len szRs p.res; omega
  go_enter Try.func44, Try.ntmps44
  go_wp2_with fail
  refine at_world fun W0 hW => ?_
  have z0 : W0.heap.size = w.heap.size + 1 := by rw [hW]; simp
  have hB : Below w.heap.size w W0 := by rw [hW]; exact (Below.refl _ _).alloc (Nat.le_refl _) _
  have k0 : Bk W0 w.heap.size 53 #[.int .i64 p.dead, .slice A p.acts.length ca, .slice L p.links.length cl, .slice R p.res.length cr, .slice S p.stocks.length cs] := by rw [hW]; exact Bk.made w _ _
  clear hW
  have fA := fA.below hB hhi
  have fL := fL.below hB hhi
  have fR := fR.below hB hhi
  have fS := fS.below hB hhi
  refine (specProjectOk_any p A L R S ca cl cr cs lo hi W0 hs fA fL fR fS (by omega)).mono ?_
  rintro e W1 ⟨rfl, hB1⟩
  have zzW1 := hB1.size
  have k0 := k0.below hB1 (by omega)
  have fA := fA.below hB1 (by omega)
  have fL := fL.below hB1 (by omega)
  have fR := fR.below hB1 (by omega)
  have fS := fS.below hB1 (by omega)
  have hB := hB.trans (hB1.mono (by omega))
  clear hB1
  cases hok : pjOkB p
  · skip
    have HZ := hide (setup_no1 (p := p) (r := r) (a := a) (b := b) hok)
    go_wp2
    go_ret
    exact ⟨ret_int HZ.out, hB⟩
  have c0 := k0.cell 0
  have c1 := k0.cell 1
  have c2 := k0.cell 2
  have c3 := k0.cell 3
  have c4 := k0.cell 4
  simp only [List.getElem?_toArray, List.getElem?_cons_succ, List.getElem?_cons_zero] at c0 c1 c2 c3 c4
  go_wp2_with fail
  refine (specIsMachine_any p r A L R S ca cl cr cs lo hi W1 hl1 fR (by omega)).mono ?_
  rintro e W2 ⟨rfl, hB1⟩
  clear c0 c1 c2 c3 c4
  have zzW2 := hB1.size
  have k0 := k0.below hB1 (by omega)
  have fA := fA.below hB1 (by omega)
  have fL := fL.below hB1 (by omega)
  have fR := fR.below hB1 (by omega)
  have fS := fS.below hB1 (by omega)
  have hB := hB.trans (hB1.mono (by omega))
  clear hB1
  cases hmc : isMachB p r
  · skip
    have HZ := hide (setup_no2 (p := p) (r := r) (a := a) (b := b) hmc)
    go_wp2
    go_ret
    exact ⟨ret_int HZ.out, hB⟩
  by_cases ha : 0 ≤ a ∧ a ≤ (p.acts.length : Int) - 1
  case neg =>
    go_wp2_with fail
    refine (l01In_no _ ha).mono ?_
    rintro e w1 ⟨rfl, rfl⟩
    have HZ := hide (setup_no3 (p := p) (r := r) (a := a) (b := b) (decide_eq_false ha))
    go_wp2
    go_ret
    exact ⟨ret_int HZ.out, hB⟩
  go_wp2_with fail
  refine (l01In_yes _ ha).mono ?_
  rintro e w1 ⟨rfl, rfl⟩
  by_cases hb : 0 ≤ b ∧ b ≤ (p.acts.length : Int) - 1
  case neg =>
    go_wp2_with fail
    refine (l01In_no _ hb).mono ?_
    rintro e w1 ⟨rfl, rfl⟩
    have HZ := hide (setup_no4 (p := p) (r := r) (a := a) (b := b) (decide_eq_false hb))
    go_wp2
    go_ret
    exact ⟨ret_int HZ.out, hB⟩
  go_wp2_with fail
  refine (l01In_yes _ hb).mono ?_
  rintro e w1 ⟨rfl, rfl⟩
  obtain ⟨hr0, hr1, hr2⟩ : 0 ≤ r ∧ r ≤ (p.res.length : Int) - 1 ∧ 0 < (p.res.getD r.toNat rs0).setup.length := by
    unfold isMachB at hmc
    rw [Bool.and_eq_true, decide_eq_true_eq, decide_eq_true_eq] at hmc
    exact ⟨hmc.1.1, hmc.1.2, hmc.2⟩
  obtain ⟨nr, rfl⟩ : ∃ n : Nat, r = n := ⟨r.toNat, by omega⟩
  obtain ⟨na, rfl⟩ : ∃ n : Nat, a = n := ⟨a.toNat, by omega⟩
  obtain ⟨nb, rfl⟩ : ∃ n : Nat, b = n := ⟨b.toNat, by omega⟩
  have HR := hide (setup_yes hok hmc (show inActs p na = true from decide_eq_true ha) (show inActs p nb = true from decide_eq_true hb))
  unfold famAt at HR
  simp only [Int.toNat_natCast] at HR hr2
  obtain ⟨hs4, hrow⟩ := rsOk_setup (pjOk_res hok (k := nr) (by omega)) hr2
  have hfa := acOk_fam (pjOk_acts hok (k := na) (by omega))
  have hfb := acOk_fam (pjOk_acts hok (k := nb) (by omega))
  have hna : na < p.acts.length := by omega
  have hnb : nb < p.acts.length := by omega
  have hnr : nr < p.res.length := by omega
  obtain ⟨b1, o1, M1, cm1, hA1, u1, u2, x0, x1, x2, _⟩ := fA.at (k := na) hna
  obtain ⟨b2, o2, M2, cm2, hA2, _, _, y0, y1, y2, _⟩ := fA.at (k := nb) hnb
  subst hA1
  injection hA2 with hA2
  injection hA2 with e1 e2
  subst e1 e2
  obtain ⟨b3, o3, S1, cs1, T1, ct1, hR0, _, _, z0', z1, _, fT1⟩ := fR.at (k := nr) hnr
  subst hR0
  generalize p.res.getD nr rs0 = rr at hs4 hrow z0' z1 fT1 HR
  generalize (p.acts.getD na ac0).fam = fa at hfa x1 HR
  generalize (p.acts.getD nb ac0).fam = fb at hfb y1 HR
  obtain ⟨ma, rfl⟩ : ∃ n : Nat, fa = n := ⟨fa.toNat, by omega⟩
  obtain ⟨mb, rfl⟩ : ∃ n : Nat, fb = n := ⟨fb.toNat, by omega⟩
  simp only [Int.toNat_natCast] at HR
  obtain ⟨b4, o4, R1, cr1, hT0, _, _, t0, fRow⟩ := fT1.at (k := ma) (by omega)
  have hrl := hrow ma (by omega)
  subst hT0
  rw [hs4] at z1
  generalize rr.setup.getD ma [] = row at t0 fRow hrl HR
  obtain ⟨b5, o5, hR1, _, _, hc⟩ := fRow (by omega)
  have v0 := hc mb (by omega)
  subst hR1
  rw [hrl] at t0
  generalize row.getD mb 0 = V at v0 HR
  have i1 : (0 : Int) ≤ (nr : Int) := by omega
  have i2 : (nr : Int) < (p.res.length : Int) := by omega
  have i3 : (0 : Int) ≤ (na : Int) := by omega
  have i4 : (na : Int) < (p.acts.length : Int) := by omega
  have i5 : (0 : Int) ≤ (nb : Int) := by omega
  have i6 : (nb : Int) < (p.acts.length : Int) := by omega
  have i7 : (0 : Int) ≤ (ma : Int) := by omega
  have i8 : (ma : Int) < ((4 : Nat) : Int) := by omega
  have i9 : (0 : Int) ≤ (mb : Int) := by omega
  have j1 : (mb : Int) < ((4 : Nat) : Int) := by omega
  have j2 : ma < 4 := by omega
  have j3 : mb < 4 := by omega
  have i8' : (ma : Int) < 4 := by omega
  have j1' : (mb : Int) < 4 := by omega
  have c1 := k0.cell 1
  have c3 := k0.cell 3
  simp only [List.getElem?_toArray, List.getElem?_cons_succ, List.getElem?_cons_zero] at c1 c3
  clear fA fR fT1 fRow hc hrow hfa hfb hs4 hrl hr2 hmc hok ha hb hr0 hr1 x0 x2 y0 y2 z0'
  go_wp2_with fail
  go_quiet (fail)
  go_wp2
  go_ret
  exact ⟨ret_int HR.out.symm, (by repeat (first | exact hB | apply below_quiet))⟩
end Go.Proofs.Ytfjohklcapekkaa
