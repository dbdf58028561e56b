/- What the laws' own helpers do with projects. -/
import Derived.Test.YtcecgbjolngdbaaGreatDoorLawAc
import Derived.Test.YtcecgbjolngdbaaGreatDoorLawRs
import Derived.Deep.RegionHeld3
namespace Go.Proofs.YtcecgbjolngdbaaGreatDoor
open Go.ChangeShapes Go.WideShapes Go.ChangeAt Go.RowKit
set_option linter.unusedVariables false

set_option maxHeartbeats 1600000 in
theorem szActivityS_any (A : Option Addr) (l : List Ac) (c lo hi : Nat) (q : Int) (w : World) (hw : WfL WfAc ac0 l) (hq0 : 0 ≤ q) (hq : q ≤ 16777216) (ha : RdAs w lo hi A l) (hhi : hi ≤ w.heap.size) :
    Calls Tryz.prog 29 #[.slice A l.length c, .int .i64 q] w fun e w' => ∃ r, e = .returned (.int .i64 r) ∧ (r = -1 ∨ (0 ≤ r ∧ r ≤ q ∧ (szL szAc l : Int) + r = q)) ∧ Below w.heap.size w w' := by
  have hl := hw.1
  have HW := hide hw; clear hw
  by_cases hlq : (l.length : Int) ≤ q
  case neg =>
    go_enter Tryz.func29, Tryz.ntmps29
    go_wp2
    go_ret
    exact ⟨_, rfl, .inl rfl, Below.refl _ _⟩
  go_enter Tryz.func29, Tryz.ntmps29
  go_wp2
  go_loopw [1, 5] (fun v i wr => ∃ (k : Nat) (r : Int), k ≤ l.length ∧ i = .int .i64 k ∧ v = .int .i64 r ∧ 0 ≤ r ∧ r ≤ q ∧ (szTo szAc l k : Int) + r = q ∧ Below w.heap.size w wr) (fun _ i _ => l.length - (intOf i).toNat)
  case atStart => exact ⟨0, _, Nat.zero_le _, rfl, rfl, by omega, by omega, by rw [szTo_zero]; omega, Below.refl _ _⟩
  case round =>
    obtain ⟨k, r, hk, rfl, rfl, hr0, hrq, hr, hB⟩ := hrel
    by_cases hlt : k < l.length
    · have har := ha.below hB hhi
      have hhr : hi ≤ wr.heap.size := by have := hB.size; omega
      obtain ⟨b, off, M, cm, rfl, h1, h2, g0, g1, g2, fU⟩ := har.at hlt
      have HT := hide (szTo_succ szAc ac0 hlt)
      have hwk := HW.out.2 k hlt
      have HR := hide hr; clear hr
      clear har ha
      generalize l.getD k ac0 = m at g0 g1 g2 fU HT hwk
      have HWK := hide hwk; clear hwk
      go_wp2_with fail
      refine (szActivity_any m M cm lo hi r wr HWK.out hr0 (by omega) fU hhr).mono ?_
      rintro e w1 ⟨r', rfl, hr', hB1⟩
      have hB := hB.trans (hB1.mono hB.size)
      clear hB1
      rcases hr' with rfl | ⟨s0, s1, s2⟩
      · go_wp2
        go_ret
        exact ⟨_, rfl, .inl rfl, hB⟩
      · have HR2 := hide s2; clear s2
        go_wp2
        go_roundw
        case rel => exact ⟨k + 1, r', by omega, by go_num, rfl, s0, by omega, by (have h1 := HT.out; have h2 := HR.out; have h3 := HR2.out; omega), hB⟩
        case measure => simp [intOf]; omega
    · obtain rfl : k = l.length := by omega
      go_wp2
      go_ret
      exact ⟨_, rfl, .inr ⟨hr0, hrq, by rw [← szTo_all]; exact hr⟩, hB⟩
theorem szLinkS_any (A : Option Addr) (n c : Nat) (q : Int) (w : World) (hn : n ≤ 9223372036854775807) (hq0 : 0 ≤ q) (hq : q ≤ 16777216) :
    Calls Tryz.prog 30 #[.slice A n c, .int .i64 q] w fun e w' => ∃ r, e = .returned (.int .i64 r) ∧ (r = -1 ∨ (0 ≤ r ∧ r ≤ q ∧ (n : Int) + r = q)) ∧ w = w' := by
  by_cases h : (n : Int) ≤ q
  · go_enter Tryz.func30, Tryz.ntmps30
    go_wp2
    go_ret
    exact ⟨_, rfl, .inr ⟨by omega, by omega, by omega⟩, rfl⟩
  · go_enter Tryz.func30, Tryz.ntmps30
    go_wp2
    go_ret
    exact ⟨_, rfl, .inl rfl, rfl⟩
set_option maxHeartbeats 1600000 in
theorem szResourceS_any (A : Option Addr) (l : List Rs) (c lo hi : Nat) (q : Int) (w : World) (hw : WfL WfRs rs0 l) (hq0 : 0 ≤ q) (hq : q ≤ 16777216) (ha : RdRs w lo hi A l) (hhi : hi ≤ w.heap.size) :
    Calls Tryz.prog 31 #[.slice A l.length c, .int .i64 q] w fun e w' => ∃ r, e = .returned (.int .i64 r) ∧ (r = -1 ∨ (0 ≤ r ∧ r ≤ q ∧ (szL szRs l : Int) + r = q)) ∧ Below w.heap.size w w' := by
  have hl := hw.1
  have HW := hide hw; clear hw
  by_cases hlq : (l.length : Int) ≤ q
  case neg =>
    go_enter Tryz.func31, Tryz.ntmps31
    go_wp2
    go_ret
    exact ⟨_, rfl, .inl rfl, Below.refl _ _⟩
  go_enter Tryz.func31, Tryz.ntmps31
  go_wp2
  go_loopw [1, 5] (fun v i wr => ∃ (k : Nat) (r : Int), k ≤ l.length ∧ i = .int .i64 k ∧ v = .int .i64 r ∧ 0 ≤ r ∧ r ≤ q ∧ (szTo szRs l k : Int) + r = q ∧ Below w.heap.size w wr) (fun _ i _ => l.length - (intOf i).toNat)
  case atStart => exact ⟨0, _, Nat.zero_le _, rfl, rfl, by omega, by omega, by rw [szTo_zero]; omega, Below.refl _ _⟩
  case round =>
    obtain ⟨k, r, hk, rfl, rfl, hr0, hrq, hr, hB⟩ := hrel
    by_cases hlt : k < l.length
    · have har := ha.below hB hhi
      have hhr : hi ≤ wr.heap.size := by have := hB.size; omega
      obtain ⟨b, off, S, cs, T, ct, rfl, h1, h2, g0, g1, fU, fC⟩ := har.at hlt
      have HT := hide (szTo_succ szRs rs0 hlt)
      have hwk := HW.out.2 k hlt
      have HR := hide hr; clear hr
      clear har ha
      generalize l.getD k rs0 = m at g0 g1 fU fC HT hwk
      have HWK := hide hwk; clear hwk
      go_wp2_with fail
      refine (szResource_any m S T cs ct lo hi r wr HWK.out hr0 (by omega) fU fC hhr).mono ?_
      rintro e w1 ⟨r', rfl, hr', hB1⟩
      have hB := hB.trans (hB1.mono hB.size)
      clear hB1
      rcases hr' with rfl | ⟨s0, s1, s2⟩
      · go_wp2
        go_ret
        exact ⟨_, rfl, .inl rfl, hB⟩
      · have HR2 := hide s2; clear s2
        go_wp2
        go_roundw
        case rel => exact ⟨k + 1, r', by omega, by go_num, rfl, s0, by omega, by (have h1 := HT.out; have h2 := HR.out; have h3 := HR2.out; omega), hB⟩
        case measure => simp [intOf]; omega
    · obtain rfl : k = l.length := by omega
      go_wp2
      go_ret
      exact ⟨_, rfl, .inr ⟨hr0, hrq, by rw [← szTo_all]; exact hr⟩, hB⟩
set_option maxHeartbeats 3200000 in
theorem szProject_any (p : Pj) (A0 A1 A2 A3 : Option Addr) (c0 c1 c2 c3 lo hi : Nat) (q : Int) (w : World) (hw : WfPj p) (hq0 : 0 ≤ q) (hq : q ≤ 16777216) (f0 : RdAs w lo hi A0 p.acts) (f1 : RdLs w lo hi A1 p.links) (f2 : RdRs w lo hi A2 p.res) (f3 : RdI w lo hi A3 p.stocks) (hhi : hi ≤ w.heap.size) :
    Calls Tryz.prog 6 #[.agg #[.int .i64 p.dead, .slice A0 p.acts.length c0, .slice A1 p.links.length c1, .slice A2 p.res.length c2, .slice A3 p.stocks.length c3], .int .i64 q] w fun e w' => ∃ r, e = .returned (.int .i64 r) ∧ (r = -1 ∨ (0 ≤ r ∧ r ≤ q ∧ (szPj p : Int) + r = q)) ∧ Below w.heap.size w w' := by
  have HZ : Hid ((szPj p : Int) = ((szL szAc p.acts : Nat) : Int) + ((p.links.length : Nat) : Int) + ((szL szRs p.res : Nat) : Int) + ((p.stocks.length : Nat) : Int)) := by unfold szPj; show _ = _; push_cast; omega
  unfold WfPj at hw
  obtain ⟨W0, W1, W2, W3⟩ := hw
  have W0 := hide W0
  have W1 := hide W1
  have W2 := hide W2
  have W3 := hide W3
  go_enter Tryz.func6, Tryz.ntmps6
  go_wp2_with fail
  refine at_world fun V0 hW => ?_
  have z0 : V0.heap.size = w.heap.size + 1 := by rw [hW]; simp
  have k0 : Bk V0 w.heap.size 27 #[.int .i64 p.dead, .slice A0 p.acts.length c0, .slice A1 p.links.length c1, .slice A2 p.res.length c2, .slice A3 p.stocks.length c3] := by rw [hW]; exact Bk.made w _ _
  have B : Below w.heap.size w V0 := by rw [hW]; exact (Below.refl _ _).alloc (Nat.le_refl _) _
  clear hW
  refine (szActivityS_any A0 p.acts c0 lo hi q V0 W0.out (by omega) (by omega) (f0.below B hhi) (by omega)).mono ?_
  rintro e V1 ⟨r0, rfl, hr, rr⟩
  have z1 := rr.size
  have k0 := k0.below rr (by omega)
  have B := B.trans (rr.mono (by omega))
  clear rr
  rcases hr with rfl | ⟨s0, t0, u0⟩
  · go_wp2
    go_ret
    exact ⟨_, rfl, .inl rfl, B⟩
  have HU0 := hide u0; clear u0
  have n1 := k0.cell 2
  simp only [List.getElem?_toArray, List.getElem?_cons_succ, List.getElem?_cons_zero] at n1
  go_wp2_with fail
  clear n1
  refine (szLinkS_any A1 p.links.length c1 r0 V1 W1.out (by omega) (by omega)).mono ?_
  rintro e _ ⟨r1, rfl, hr, rfl⟩
  rcases hr with rfl | ⟨s1, t1, u1⟩
  · go_wp2
    go_ret
    exact ⟨_, rfl, .inl rfl, B⟩
  have HU1 := hide u1; clear u1
  have n1 := k0.cell 3
  simp only [List.getElem?_toArray, List.getElem?_cons_succ, List.getElem?_cons_zero] at n1
  go_wp2_with fail
  clear n1
  refine (szResourceS_any A2 p.res c2 lo hi r1 V1 W2.out (by omega) (by omega) (f2.below B hhi) (by omega)).mono ?_
  rintro e V3 ⟨r2, rfl, hr, rr⟩
  have z3 := rr.size
  have k0 := k0.below rr (by omega)
  have B := B.trans (rr.mono (by omega))
  clear rr
  rcases hr with rfl | ⟨s2, t2, u2⟩
  · go_wp2
    go_ret
    exact ⟨_, rfl, .inl rfl, B⟩
  have HU2 := hide u2; clear u2
  have n1 := k0.cell 4
  simp only [List.getElem?_toArray, List.getElem?_cons_succ, List.getElem?_cons_zero] at n1
  go_wp2_with fail
  clear n1
  refine (szIntS_any A3 p.stocks.length c3 r2 V3 W3.out (by omega) (by omega)).mono ?_
  rintro e _ ⟨r3, rfl, hr, rfl⟩
  rcases hr with rfl | ⟨s3, t3, u3⟩
  · go_wp2
    go_ret
    exact ⟨_, rfl, .inl rfl, B⟩
  have HU3 := hide u3; clear u3
  go_wp2
  go_ret
  exact ⟨_, rfl, .inr ⟨s3, by omega, by rw [HZ.out]; have e0 := HU0.out; have e1 := HU1.out; have e2 := HU2.out; have e3 := HU3.out; omega⟩, B⟩
theorem Tryz.infoAc : (Tryz.prog.info? 46).map (fun i => (i.zero, i.size, i.bytes)) = some (some (.agg #[.string ⟨#[]⟩, .int .i64 0, .slice none 0 0]), 3, 48) := by kernel_rfl
set_option maxHeartbeats 3200000 in
theorem toActivityS_any (A : Option Addr) (l : List Ac) (c lo hi : Nat) (w : World) (hs : szL szAc l ≤ 16777216) (ha : RdAs w lo hi A l) (hhi : hi ≤ w.heap.size) :
    Calls Tryz.prog 40 #[.slice A l.length c] w fun e w' => ∃ A' c', e = .returned (.slice A' l.length c') ∧ OwAs w' w.heap.size w'.heap.size A' c' l ∧ Below w.heap.size w w' := by
  have hl : l.length ≤ 16777216 := Nat.le_trans (szL_len _ l) hs
  obtain ⟨i0, hi0, hz0, hz1, hz2⟩ := info_parts Tryz.infoAc
  have hO0 := OwnR.made w w.heap.size 46 3 (madeCells #[.string ⟨#[]⟩, .int .i64 0, .slice none 0 0] (l.length * 3)) l.length (Nat.le_refl _) (by unfold maxLen; omega) (by simp [size_madeCells])
  have hmk : ∀ w : World, (Instr.makeSlice 30 (.int .i64 (l.length : Int)) (.int .i64 (l.length : Int))).run Tryz.prog w = .ok (.slice (some ⟨w.heap.size, 0, none⟩) l.length l.length) (w.alloc (.cells (madeCells #[.string ⟨#[]⟩, .int .i64 0, .slice none 0 0] (l.length * 3)) 46)) :=
    make_sz Tryz.underlying30 hi0 hz0 hz1 l.length hl (by rw [hz2]; omega)
  generalize madeCells #[.string ⟨#[]⟩, .int .i64 0, .slice none 0 0] (l.length * 3) = cz at hO0 hmk
  have HO := hide hO0; clear hO0
  have HS := hide hs; clear hs
  clear hi0 hz0 hz1 hz2
  go_enter Tryz.func40, Tryz.ntmps40
  go_wp2
  clear hmk
  go_loopw [4] (fun i wr => ∃ (k : Nat) (xs : List Value) (bs : List Nat), k ≤ l.length ∧ i = .int .i64 k ∧ OwnR wr w.heap.size (w.heap.size + 1) 46 3 (some ⟨w.heap.size, 0, none⟩) l.length l.length xs ∧ Part 3 OwA ac0 wr xs l k bs ∧ Nd bs (w.heap.size + 1) wr.heap.size ∧ Below w.heap.size w wr ∧ w.heap.size < wr.heap.size) (fun i _ => l.length - (intOf i).toNat)
  case atStart => exact ⟨0, _, [], Nat.zero_le _, rfl, HO.out, Part.nil_, Nd.nil _ _, (Below.refl _ _).alloc (Nat.le_refl _) _, by simp⟩
  case round =>
    obtain ⟨k, xs, bs, hk, rfl, hO, hP, hN, hB, hsz⟩ := hrel
    clear HO
    by_cases hlt : k < l.length
    · have har := ha.below hB hhi
      have hhr : hi ≤ wr.heap.size := by have := hB.size; omega
      obtain ⟨b, off, M, cm, rfl, h1, h2, g0, g1, g2, fU⟩ := har.at hlt
      have hs3 : szAc (l.getD k ac0) ≤ 16777216 := by have := szL_at szAc ac0 hlt; have := HS.out; omega
      clear har ha
      generalize hX : l.getD k ac0 = m at g0 g1 g2 fU hs3
      have HX := hide hX; clear hX
      go_wp2_with fail
      refine (toActivity_any m M cm lo hi wr hs3 fU hhr).mono ?_
      rintro e w1 ⟨U', cu', rfl, oV, r⟩
      obtain ⟨nb, oV, nN⟩ := oV
      have zr := r.size
      have hO := hO.below r (by omega)
      have hP := hP.keep_ OwAs.keeps (fun b hb => r.block b (by have := hN.2 b hb; omega))
      have hB := hB.trans (r.mono hB.size)
      have hsz := Nat.lt_of_lt_of_le hsz r.size
      clear r g0 g1 g2 fU
      have hN' := hN.app nN (Nat.le_refl _) (by omega) (by omega)
      obtain ⟨u0, e0⟩ := hO.some_at (k * 3) (by omega)
      have f0 := hO.frozenAt (k * 3)
      obtain ⟨u1, e1⟩ := hO.some_at (k * 3 + 1) (by omega)
      have f1 := hO.frozenAt (k * 3 + 1)
      obtain ⟨u2, e2⟩ := hO.some_at (k * 3 + 2) (by omega)
      have f2 := hO.frozenAt (k * 3 + 2)
      have hO' := (((hO.stored (k * 3) (.string m.name)).stored (k * 3 + 1) (.int .i64 m.fam)).stored (k * 3 + 2) (.slice U' m.modes.length cu'))
      have hB' := (((hB.setCell (p := ⟨w.heap.size, k * 3, none⟩) (Nat.le_refl _) (.string m.name)).setCell (p := ⟨w.heap.size, k * 3 + 1, none⟩) (Nat.le_refl _) (.int .i64 m.fam)).setCell (p := ⟨w.heap.size, k * 3 + 2, none⟩) (Nat.le_refl _) (.slice U' m.modes.length cu'))
      have hfar : ∀ b, w.heap.size < b → (((w1.setCell ⟨w.heap.size, k * 3, none⟩ (.string m.name)).setCell ⟨w.heap.size, k * 3 + 1, none⟩ (.int .i64 m.fam)).setCell ⟨w.heap.size, k * 3 + 2, none⟩ (.slice U' m.modes.length cu')).heap[b]? = w1.heap[b]? := fun b hb => by
        exact (Below.heap_setCell _ _ _ _ (by show b ≠ w.heap.size; omega)).trans ((Below.heap_setCell _ _ _ _ (by show b ≠ w.heap.size; omega)).trans ((Below.heap_setCell _ _ _ _ (by show b ≠ w.heap.size; omega)).trans (rfl)))
      have hP' := hP.keep_ (w' := (((w1.setCell ⟨w.heap.size, k * 3, none⟩ (.string m.name)).setCell ⟨w.heap.size, k * 3 + 1, none⟩ (.int .i64 m.fam)).setCell ⟨w.heap.size, k * 3 + 2, none⟩ (.slice U' m.modes.length cu'))) OwAs.keeps (fun b hb => hfar b (by have := hN.2 b hb; omega))
      have oV' := OwAs.keeps _ (((w1.setCell ⟨w.heap.size, k * 3, none⟩ (.string m.name)).setCell ⟨w.heap.size, k * 3 + 1, none⟩ (.int .i64 m.fam)).setCell ⟨w.heap.size, k * 3 + 2, none⟩ (.slice U' m.modes.length cu')) _ _ _ (fun b hb => hfar b (by have := nN.2 b hb; omega)) oV
      have HL := hide hO.len
      have HF := hide hfar; clear hfar hO hP hB
      have HP := hide hP'; clear hP'
      go_wp2
      go_roundw
      case rel =>
        refine ⟨k + 1, _, _, by omega, by go_num, hO', HP.out.snoc_ (v := #[.string m.name, .int .i64 m.fam, .slice U' m.modes.length cu']) (fun p hp => ?_) (fun i hi => ?_) (by rw [HX.out]; exact oV'), by simpa [World.setCell] using hN', hB', by simpa [World.setCell] using hsz⟩
        · exact sets_low [.string m.name, .int .i64 m.fam, .slice U' m.modes.length cu'] xs (k * 3) p (by omega)
        · exact (sets_at [.string m.name, .int .i64 m.fam, .slice U' m.modes.length cu'] xs (k * 3) i hi (by have := HL.out; simp; omega)).trans (by simp)
      case measure => simp [intOf]; omega
    · obtain rfl : k = l.length := by omega
      go_wp2
      go_ret
      exact ⟨_, _, rfl, ⟨_, ⟨[w.heap.size], bs, xs, RowB.of_some hO, hP, rfl⟩, (Nd.one (Nat.le_refl _) (by omega : w.heap.size < w.heap.size + 1)).app hN (Nat.le_refl _) (by omega) (by omega)⟩, hB⟩
theorem toLink_any (k : Lk) (w : World) :
    Calls Tryz.prog 100 #[.agg #[.int .i64 k.src, .int .i64 k.dst, .bool k.fe, .int .i64 k.lag]] w fun e w' => e = .returned (.agg #[.int .i64 k.src, .int .i64 k.dst, .bool k.fe, .int .i64 k.lag]) ∧ Below w.heap.size w w' := by
  obtain ⟨x1, x2, x3, x4⟩ := k
  go_enter Tryz.func100, Tryz.ntmps100
  go_wp2
  exact bodyPost_ret (v := .agg #[.int .i64 x1, .int .i64 x2, .bool x3, .int .i64 x4]) (by simp [results, Tryz.results100, go_sem]) rfl ⟨rfl, (by (repeat' (first | exact Below.refl _ _ | refine Below.setCell ?_ ?_ _ | refine Below.alloc ?_ ?_ _)); all_goals first | (simp; done) | (simp; omega))⟩
theorem Tryz.infoLk : (Tryz.prog.info? 75).map (fun i => (i.zero, i.size, i.bytes)) = some (some (.agg #[.int .i64 0, .int .i64 0, .bool false, .int .i64 0]), 4, 32) := by kernel_rfl
set_option maxHeartbeats 3200000 in
theorem toLinkS_any (A : Option Addr) (l : List Lk) (c lo hi : Nat) (w : World) (hs : l.length ≤ 16777216) (ha : RdLs w lo hi A l) (hhi : hi ≤ w.heap.size) :
    Calls Tryz.prog 41 #[.slice A l.length c] w fun e w' => ∃ A' c', e = .returned (.slice A' l.length c') ∧ OwLs w' w.heap.size w'.heap.size A' c' l ∧ Below w.heap.size w w' := by
  have hl := hs
  obtain ⟨i0, hi0, hz0, hz1, hz2⟩ := info_parts Tryz.infoLk
  have hO0 := OwnR.made w w.heap.size 75 4 (madeCells #[.int .i64 0, .int .i64 0, .bool false, .int .i64 0] (l.length * 4)) l.length (Nat.le_refl _) (by unfold maxLen; omega) (by simp [size_madeCells])
  have hmk : ∀ w : World, (Instr.makeSlice 31 (.int .i64 (l.length : Int)) (.int .i64 (l.length : Int))).run Tryz.prog w = .ok (.slice (some ⟨w.heap.size, 0, none⟩) l.length l.length) (w.alloc (.cells (madeCells #[.int .i64 0, .int .i64 0, .bool false, .int .i64 0] (l.length * 4)) 75)) :=
    make_sz Tryz.underlying31 hi0 hz0 hz1 l.length hl (by rw [hz2]; omega)
  generalize madeCells #[.int .i64 0, .int .i64 0, .bool false, .int .i64 0] (l.length * 4) = cz at hO0 hmk
  have HO := hide hO0; clear hO0
  have HS := hide hs; clear hs
  clear hi0 hz0 hz1 hz2
  go_enter Tryz.func41, Tryz.ntmps41
  go_wp2
  clear hmk
  go_loopw [4] (fun i wr => ∃ (k : Nat) (xs : List Value) (bs : List Nat), k ≤ l.length ∧ i = .int .i64 k ∧ OwnR wr w.heap.size (w.heap.size + 1) 75 4 (some ⟨w.heap.size, 0, none⟩) l.length l.length xs ∧ Part 4 OwLk lk0 wr xs l k bs ∧ Nd bs (w.heap.size + 1) wr.heap.size ∧ Below w.heap.size w wr ∧ w.heap.size < wr.heap.size) (fun i _ => l.length - (intOf i).toNat)
  case atStart => exact ⟨0, _, [], Nat.zero_le _, rfl, HO.out, Part.nil_, Nd.nil _ _, (Below.refl _ _).alloc (Nat.le_refl _) _, by simp⟩
  case round =>
    obtain ⟨k, xs, bs, hk, rfl, hO, hP, hN, hB, hsz⟩ := hrel
    clear HO
    by_cases hlt : k < l.length
    · have har := ha.below hB hhi
      have hhr : hi ≤ wr.heap.size := by have := hB.size; omega
      obtain ⟨b, off, rfl, h1, h2, g0, g1, g2, g3⟩ := har.at hlt
      clear har ha
      generalize hX : l.getD k lk0 = m at g0 g1 g2 g3  
      have HX := hide hX; clear hX
      go_wp2_with fail
      refine (toLink_any m wr).mono ?_
      rintro e w1 ⟨rfl, r⟩
      have zr := r.size
      have hO := hO.below r (by omega)
      have hP := hP.keep_ OwLs.keeps (fun b hb => r.block b (by have := hN.2 b hb; omega))
      have hB := hB.trans (r.mono hB.size)
      have hsz := Nat.lt_of_lt_of_le hsz r.size
      clear r g0 g1 g2 g3 
      have nN := Nd.nil wr.heap.size w1.heap.size
      have hN' := hN.app nN (Nat.le_refl _) (by omega) (by omega)
      obtain ⟨u0, e0⟩ := hO.some_at (k * 4) (by omega)
      have f0 := hO.frozenAt (k * 4)
      obtain ⟨u1, e1⟩ := hO.some_at (k * 4 + 1) (by omega)
      have f1 := hO.frozenAt (k * 4 + 1)
      obtain ⟨u2, e2⟩ := hO.some_at (k * 4 + 2) (by omega)
      have f2 := hO.frozenAt (k * 4 + 2)
      obtain ⟨u3, e3⟩ := hO.some_at (k * 4 + 3) (by omega)
      have f3 := hO.frozenAt (k * 4 + 3)
      have hO' := ((((hO.stored (k * 4) (.int .i64 m.src)).stored (k * 4 + 1) (.int .i64 m.dst)).stored (k * 4 + 2) (.bool m.fe)).stored (k * 4 + 3) (.int .i64 m.lag))
      have hB' := ((((hB.setCell (p := ⟨w.heap.size, k * 4, none⟩) (Nat.le_refl _) (.int .i64 m.src)).setCell (p := ⟨w.heap.size, k * 4 + 1, none⟩) (Nat.le_refl _) (.int .i64 m.dst)).setCell (p := ⟨w.heap.size, k * 4 + 2, none⟩) (Nat.le_refl _) (.bool m.fe)).setCell (p := ⟨w.heap.size, k * 4 + 3, none⟩) (Nat.le_refl _) (.int .i64 m.lag))
      have hfar : ∀ b, w.heap.size < b → ((((w1.setCell ⟨w.heap.size, k * 4, none⟩ (.int .i64 m.src)).setCell ⟨w.heap.size, k * 4 + 1, none⟩ (.int .i64 m.dst)).setCell ⟨w.heap.size, k * 4 + 2, none⟩ (.bool m.fe)).setCell ⟨w.heap.size, k * 4 + 3, none⟩ (.int .i64 m.lag)).heap[b]? = w1.heap[b]? := fun b hb => by
        exact (Below.heap_setCell _ _ _ _ (by show b ≠ w.heap.size; omega)).trans ((Below.heap_setCell _ _ _ _ (by show b ≠ w.heap.size; omega)).trans ((Below.heap_setCell _ _ _ _ (by show b ≠ w.heap.size; omega)).trans ((Below.heap_setCell _ _ _ _ (by show b ≠ w.heap.size; omega)).trans (rfl))))
      have hP' := hP.keep_ (w' := ((((w1.setCell ⟨w.heap.size, k * 4, none⟩ (.int .i64 m.src)).setCell ⟨w.heap.size, k * 4 + 1, none⟩ (.int .i64 m.dst)).setCell ⟨w.heap.size, k * 4 + 2, none⟩ (.bool m.fe)).setCell ⟨w.heap.size, k * 4 + 3, none⟩ (.int .i64 m.lag))) OwLs.keeps (fun b hb => hfar b (by have := hN.2 b hb; omega))
      have HL := hide hO.len
      have HF := hide hfar; clear hfar hO hP hB
      have HP := hide hP'; clear hP'
      go_wp2
      go_roundw
      case rel =>
        refine ⟨k + 1, _, _, by omega, by go_num, hO', HP.out.snoc_ (v := #[.int .i64 m.src, .int .i64 m.dst, .bool m.fe, .int .i64 m.lag]) (fun p hp => ?_) (fun i hi => ?_) (by rw [HX.out]; exact ⟨rfl, rfl⟩), by simpa [World.setCell] using hN', hB', by simpa [World.setCell] using hsz⟩
        · exact sets_low [.int .i64 m.src, .int .i64 m.dst, .bool m.fe, .int .i64 m.lag] xs (k * 4) p (by omega)
        · exact (sets_at [.int .i64 m.src, .int .i64 m.dst, .bool m.fe, .int .i64 m.lag] xs (k * 4) i hi (by have := HL.out; simp; omega)).trans (by simp)
      case measure => simp [intOf]; omega
    · obtain rfl : k = l.length := by omega
      go_wp2
      go_ret
      exact ⟨_, _, rfl, ⟨_, ⟨[w.heap.size], bs, xs, RowB.of_some hO, hP, rfl⟩, (Nd.one (Nat.le_refl _) (by omega : w.heap.size < w.heap.size + 1)).app hN (Nat.le_refl _) (by omega) (by omega)⟩, hB⟩
theorem Tryz.infoRs : (Tryz.prog.info? 71).map (fun i => (i.zero, i.size, i.bytes)) = some (some (.agg #[.slice none 0 0, .slice none 0 0]), 2, 48) := by kernel_rfl
set_option maxHeartbeats 3200000 in
theorem toResourceS_any (A : Option Addr) (l : List Rs) (c lo hi : Nat) (w : World) (hs : szL szRs l ≤ 16777216) (ha : RdRs w lo hi A l) (hhi : hi ≤ w.heap.size) :
    Calls Tryz.prog 42 #[.slice A l.length c] w fun e w' => ∃ A' c', e = .returned (.slice A' l.length c') ∧ OwRs w' w.heap.size w'.heap.size A' c' l ∧ Below w.heap.size w w' := by
  have hl : l.length ≤ 16777216 := Nat.le_trans (szL_len _ l) hs
  obtain ⟨i0, hi0, hz0, hz1, hz2⟩ := info_parts Tryz.infoRs
  have hO0 := OwnR.made w w.heap.size 71 2 (madeCells #[.slice none 0 0, .slice none 0 0] (l.length * 2)) l.length (Nat.le_refl _) (by unfold maxLen; omega) (by simp [size_madeCells])
  have hmk : ∀ w : World, (Instr.makeSlice 32 (.int .i64 (l.length : Int)) (.int .i64 (l.length : Int))).run Tryz.prog w = .ok (.slice (some ⟨w.heap.size, 0, none⟩) l.length l.length) (w.alloc (.cells (madeCells #[.slice none 0 0, .slice none 0 0] (l.length * 2)) 71)) :=
    make_sz Tryz.underlying32 hi0 hz0 hz1 l.length hl (by rw [hz2]; omega)
  generalize madeCells #[.slice none 0 0, .slice none 0 0] (l.length * 2) = cz at hO0 hmk
  have HO := hide hO0; clear hO0
  have HS := hide hs; clear hs
  clear hi0 hz0 hz1 hz2
  go_enter Tryz.func42, Tryz.ntmps42
  go_wp2
  clear hmk
  go_loopw [4] (fun i wr => ∃ (k : Nat) (xs : List Value) (bs : List Nat), k ≤ l.length ∧ i = .int .i64 k ∧ OwnR wr w.heap.size (w.heap.size + 1) 71 2 (some ⟨w.heap.size, 0, none⟩) l.length l.length xs ∧ Part 2 OwRc rs0 wr xs l k bs ∧ Nd bs (w.heap.size + 1) wr.heap.size ∧ Below w.heap.size w wr ∧ w.heap.size < wr.heap.size) (fun i _ => l.length - (intOf i).toNat)
  case atStart => exact ⟨0, _, [], Nat.zero_le _, rfl, HO.out, Part.nil_, Nd.nil _ _, (Below.refl _ _).alloc (Nat.le_refl _) _, by simp⟩
  case round =>
    obtain ⟨k, xs, bs, hk, rfl, hO, hP, hN, hB, hsz⟩ := hrel
    clear HO
    by_cases hlt : k < l.length
    · have har := ha.below hB hhi
      have hhr : hi ≤ wr.heap.size := by have := hB.size; omega
      obtain ⟨b, off, S, cs, T, ct, rfl, h1, h2, g0, g1, fU, fC⟩ := har.at hlt
      have hs3 : szRs (l.getD k rs0) ≤ 16777216 := by have := szL_at szRs rs0 hlt; have := HS.out; omega
      clear har ha
      generalize hX : l.getD k rs0 = m at g0 g1 fU fC hs3
      have HX := hide hX; clear hX
      go_wp2_with fail
      refine (toResource_any m S T cs ct lo hi wr hs3 fU fC hhr).mono ?_
      rintro e w1 ⟨U', cu', C', cc', rfl, oV, r⟩
      obtain ⟨nb, oV, nN⟩ := oV
      have zr := r.size
      have hO := hO.below r (by omega)
      have hP := hP.keep_ OwRs.keeps (fun b hb => r.block b (by have := hN.2 b hb; omega))
      have hB := hB.trans (r.mono hB.size)
      have hsz := Nat.lt_of_lt_of_le hsz r.size
      clear r g0 g1 fU fC
      have hN' := hN.app nN (Nat.le_refl _) (by omega) (by omega)
      obtain ⟨u0, e0⟩ := hO.some_at (k * 2) (by omega)
      have f0 := hO.frozenAt (k * 2)
      obtain ⟨u1, e1⟩ := hO.some_at (k * 2 + 1) (by omega)
      have f1 := hO.frozenAt (k * 2 + 1)
      have hO' := ((hO.stored (k * 2) (.slice U' m.steps.length cu')).stored (k * 2 + 1) (.slice C' m.setup.length cc'))
      have hB' := ((hB.setCell (p := ⟨w.heap.size, k * 2, none⟩) (Nat.le_refl _) (.slice U' m.steps.length cu')).setCell (p := ⟨w.heap.size, k * 2 + 1, none⟩) (Nat.le_refl _) (.slice C' m.setup.length cc'))
      have hfar : ∀ b, w.heap.size < b → ((w1.setCell ⟨w.heap.size, k * 2, none⟩ (.slice U' m.steps.length cu')).setCell ⟨w.heap.size, k * 2 + 1, none⟩ (.slice C' m.setup.length cc')).heap[b]? = w1.heap[b]? := fun b hb => by
        exact (Below.heap_setCell _ _ _ _ (by show b ≠ w.heap.size; omega)).trans ((Below.heap_setCell _ _ _ _ (by show b ≠ w.heap.size; omega)).trans (rfl))
      have hP' := hP.keep_ (w' := ((w1.setCell ⟨w.heap.size, k * 2, none⟩ (.slice U' m.steps.length cu')).setCell ⟨w.heap.size, k * 2 + 1, none⟩ (.slice C' m.setup.length cc'))) OwRs.keeps (fun b hb => hfar b (by have := hN.2 b hb; omega))
      have oV' := OwRs.keeps _ ((w1.setCell ⟨w.heap.size, k * 2, none⟩ (.slice U' m.steps.length cu')).setCell ⟨w.heap.size, k * 2 + 1, none⟩ (.slice C' m.setup.length cc')) _ _ _ (fun b hb => hfar b (by have := nN.2 b hb; omega)) oV
      have HL := hide hO.len
      have HF := hide hfar; clear hfar hO hP hB
      have HP := hide hP'; clear hP'
      go_wp2
      go_roundw
      case rel =>
        refine ⟨k + 1, _, _, by omega, by go_num, hO', HP.out.snoc_ (v := #[.slice U' m.steps.length cu', .slice C' m.setup.length cc']) (fun p hp => ?_) (fun i hi => ?_) (by rw [HX.out]; exact oV'), by simpa [World.setCell] using hN', hB', by simpa [World.setCell] using hsz⟩
        · exact sets_low [.slice U' m.steps.length cu', .slice C' m.setup.length cc'] xs (k * 2) p (by omega)
        · exact (sets_at [.slice U' m.steps.length cu', .slice C' m.setup.length cc'] xs (k * 2) i hi (by have := HL.out; simp; omega)).trans (by simp)
      case measure => simp [intOf]; omega
    · obtain rfl : k = l.length := by omega
      go_wp2
      go_ret
      exact ⟨_, _, rfl, ⟨_, ⟨[w.heap.size], bs, xs, RowB.of_some hO, hP, rfl⟩, (Nd.one (Nat.le_refl _) (by omega : w.heap.size < w.heap.size + 1)).app hN (Nat.le_refl _) (by omega) (by omega)⟩, hB⟩
theorem ownProject_mk {w : World} {p : Pj} {lo hi l0 h0 l1 h1 l2 h2 l3 h3 : Nat} {A0 A1 A2 A3 : Option Addr} {c0 c1 c2 c3 : Nat} (hc : lo ≤ l0 ∧ h0 ≤ l1 ∧ h1 ≤ l2 ∧ h2 ≤ l3 ∧ l0 ≤ h0 ∧ l1 ≤ h1 ∧ l2 ≤ h2 ∧ l3 ≤ h3) (o0 : OwAs w l0 h0 A0 c0 p.acts) (o1 : OwLs w l1 h1 A1 c1 p.links) (o2 : OwRs w l2 h2 A2 c2 p.res) (o3 : OwnR w l3 h3 3 1 A3 p.stocks.length c3 (p.stocks.map (.int .i64))) (hlo : lo ≤ hi) (hhi : h3 ≤ hi) :
    OwV OwP w lo hi #[.int .i64 p.dead, .slice A0 p.acts.length c0, .slice A1 p.links.length c1, .slice A2 p.res.length c2, .slice A3 p.stocks.length c3] p := by
  obtain ⟨b0, q0, n0⟩ := o0
  obtain ⟨b1, q1, n1⟩ := o1
  obtain ⟨b2, q2, n2⟩ := o2
  obtain ⟨b3, q3, n3⟩ := RowB.of o3
  exact ⟨b0 ++ (b1 ++ (b2 ++ b3)), ⟨A0, c0, A1, c1, A2, c2, A3, c3, b0, b1, b2, b3, rfl, q0, q1, q2, q3, rfl⟩, (n0.app (n1.app (n2.app n3 (by omega) (by omega) (by omega)) (by omega) (by omega) (by omega)) (by omega) (by omega) (by omega)).mono (by omega) (by omega)⟩
theorem ownProject_parts {w : World} {p : Pj} {lo hi : Nat} {d0 : Value} {A0 A1 A2 A3 : Option Addr} {n0 c0 n1 c1 n2 c2 n3 c3 : Nat} (h : OwV OwP w lo hi #[d0, .slice A0 n0 c0, .slice A1 n1 c1, .slice A2 n2 c2, .slice A3 n3 c3] p) : RdAs w lo hi A0 p.acts ∧ RdLs w lo hi A1 p.links ∧ RdRs w lo hi A2 p.res ∧ RdI w lo hi A3 p.stocks := by
  obtain ⟨bs, h1, h2⟩ := h
  obtain ⟨A0', c0', A1', c1', A2', c2', A3', c3', e, f0, f1, f2, f3⟩ := OwPj.ord _ _ _ _ _ _ h2.2 h1
  simp only [Array.mk.injEq, List.cons.injEq, Value.slice.injEq, and_true] at e
  obtain ⟨_, ⟨rfl, _, _⟩, ⟨rfl, _, _⟩, ⟨rfl, _, _⟩, ⟨rfl, _, _⟩⟩ := e
  exact ⟨f0, f1, f2, f3⟩
theorem only_cProject (w : World) (g : Nat) (v0 v1 v2 v3 v4 v5 : Value) : Only g (g + 3) w ((((((w.setCell ⟨g + 1 + 1, 4, none⟩ v0).setCell ⟨g + 1, 0, none⟩ v1).setCell ⟨g + 1, 1, none⟩ v2).setCell ⟨g + 1, 2, none⟩ v3).setCell ⟨g + 1, 3, none⟩ v4).setCell ⟨g + 1, 4, none⟩ v5) :=
  ((((((Only.refl _ _ _).setCell ⟨by dsimp only; omega, by dsimp only; omega⟩ _).setCell ⟨by dsimp only; omega, by dsimp only; omega⟩ _).setCell ⟨by dsimp only; omega, by dsimp only; omega⟩ _).setCell ⟨by dsimp only; omega, by dsimp only; omega⟩ _).setCell ⟨by dsimp only; omega, by dsimp only; omega⟩ _).setCell ⟨by dsimp only; omega, by dsimp only; omega⟩ _
set_option maxHeartbeats 3200000 in
theorem toProject_any (p : Pj) (A0 A1 A2 A3 : Option Addr) (c0 c1 c2 c3 lo hi : Nat) (w : World) (hs : szPj p ≤ 16777216) (f0 : RdAs w lo hi A0 p.acts) (f1 : RdLs w lo hi A1 p.links) (f2 : RdRs w lo hi A2 p.res) (f3 : RdI w lo hi A3 p.stocks) (hhi : hi ≤ w.heap.size) :
    Calls Tryz.prog 8 #[.agg #[.int .i64 p.dead, .slice A0 p.acts.length c0, .slice A1 p.links.length c1, .slice A2 p.res.length c2, .slice A3 p.stocks.length c3]] w fun e w' => ∃ A0' c0' A1' c1' A2' c2' A3' c3', e = .returned (.agg #[.int .i64 p.dead, .slice A0' p.acts.length c0', .slice A1' p.links.length c1', .slice A2' p.res.length c2', .slice A3' p.stocks.length c3']) ∧
      OwV OwP w' w.heap.size w'.heap.size #[.int .i64 p.dead, .slice A0' p.acts.length c0', .slice A1' p.links.length c1', .slice A2' p.res.length c2', .slice A3' p.stocks.length c3'] p ∧ Below w.heap.size w w' := by
  unfold szPj at hs
  have HS := hide hs; clear hs
  go_enter Tryz.func8, Tryz.ntmps8
  go_wp2_with fail
  refine at_world fun V0 hW => ?_
  have z0 : V0.heap.size = w.heap.size + 3 := by rw [hW]; simp
  have k0 : Bk V0 w.heap.size 27 #[.int .i64 p.dead, .slice A0 p.acts.length c0, .slice A1 p.links.length c1, .slice A2 p.res.length c2, .slice A3 p.stocks.length c3] := by
    rw [hW]; exact ((Bk.made w _ _).alloc _).alloc _
  have k1 : Bk V0 (w.heap.size + 1) 34 #[.int .i64 0, .slice none 0 0, .slice none 0 0, .slice none 0 0, .slice none 0 0] := by
    rw [hW]
    have := (Bk.made (w.alloc (.cells #[.int .i64 p.dead, .slice A0 p.acts.length c0, .slice A1 p.links.length c1, .slice A2 p.res.length c2, .slice A3 p.stocks.length c3] 27)) 34 #[.int .i64 0, .slice none 0 0, .slice none 0 0, .slice none 0 0, .slice none 0 0]).alloc (.cells #[.int .i64 p.dead, .slice none 0 0, .slice none 0 0, .slice none 0 0, .slice none 0 0] 34)
    simpa using this
  have k2 : Bk V0 (w.heap.size + 2) 34 #[.int .i64 p.dead, .slice none 0 0, .slice none 0 0, .slice none 0 0, .slice none 0 0] := by
    rw [hW]
    have := Bk.made ((w.alloc (.cells #[.int .i64 p.dead, .slice A0 p.acts.length c0, .slice A1 p.links.length c1, .slice A2 p.res.length c2, .slice A3 p.stocks.length c3] 27)).alloc (.cells #[.int .i64 0, .slice none 0 0, .slice none 0 0, .slice none 0 0, .slice none 0 0] 34)) 34 #[.int .i64 p.dead, .slice none 0 0, .slice none 0 0, .slice none 0 0, .slice none 0 0]
    simpa using this
  have B : Below w.heap.size w V0 := by
    rw [hW]; exact (((Below.refl _ _).alloc (Nat.le_refl _) _).alloc (by simp) _).alloc (by simp; omega) _
  clear hW
  refine (toActivityS_any A0 p.acts c0 lo hi V0 (by have := HS.out; omega) (f0.below B hhi) (by omega)).mono ?_
  rintro e U0 ⟨A0', c0', rfl, o0, r⟩
  have y0 := r.size
  have k0 := k0.below r (by omega)
  have k1 := k1.below r (by omega)
  have k2 := k2.below r (by omega)
  have B := B.trans (r.mono (by omega))
  clear r f0
  have n1 := k0.cell 2
  have n2 := k2.cell 1
  have n3 := k2.frozen 1
  simp only [List.getElem?_toArray, List.getElem?_cons_succ, List.getElem?_cons_zero] at n1 n2
  go_wp2_with fail
  refine at_world fun V1 hW => ?_
  clear n1 n2 n3
  have z1 : V1.heap.size = U0.heap.size := by rw [hW]; simp [World.setCell]
  have k0 : Bk V1 w.heap.size 27 #[.int .i64 p.dead, .slice A0 p.acts.length c0, .slice A1 p.links.length c1, .slice A2 p.res.length c2, .slice A3 p.stocks.length c3] := by rw [hW]; exact k0.far (by show w.heap.size ≠ w.heap.size + 2; omega) _
  have k1 : Bk V1 (w.heap.size + 1) 34 #[.int .i64 0, .slice none 0 0, .slice none 0 0, .slice none 0 0, .slice none 0 0] := by rw [hW]; exact k1.far (by show w.heap.size + 1 ≠ w.heap.size + 2; omega) _
  have k2 : Bk V1 (w.heap.size + 2) 34 #[.int .i64 p.dead, .slice A0' p.acts.length c0', .slice none 0 0, .slice none 0 0, .slice none 0 0] := by rw [hW]; exact k2.set 1 _
  have B : Below w.heap.size w V1 := by rw [hW]; exact B.setCell (by show w.heap.size ≤ w.heap.size + 2; omega) _
  have o0 : OwAs V1 V0.heap.size U0.heap.size A0' c0' p.acts := by
    rw [hW]; exact o0.keep fun k hk _ => Below.heap_setCell _ _ _ _ (by show k ≠ w.heap.size + 2; omega)
  clear hW
  refine (toLinkS_any A1 p.links c1 lo hi V1 (by have := HS.out; omega) (f1.below B hhi) (by omega)).mono ?_
  rintro e U1 ⟨A1', c1', rfl, o1, r⟩
  have y1 := r.size
  have k0 := k0.below r (by omega)
  have k1 := k1.below r (by omega)
  have k2 := k2.below r (by omega)
  have B := B.trans (r.mono (by omega))
  have o0 := o0.below r (by omega)
  clear r f1
  have n1 := k0.cell 3
  have n2 := k2.cell 2
  have n3 := k2.frozen 2
  simp only [List.getElem?_toArray, List.getElem?_cons_succ, List.getElem?_cons_zero] at n1 n2
  go_wp2_with fail
  refine at_world fun V2 hW => ?_
  clear n1 n2 n3
  have z2 : V2.heap.size = U1.heap.size := by rw [hW]; simp [World.setCell]
  have k0 : Bk V2 w.heap.size 27 #[.int .i64 p.dead, .slice A0 p.acts.length c0, .slice A1 p.links.length c1, .slice A2 p.res.length c2, .slice A3 p.stocks.length c3] := by rw [hW]; exact k0.far (by show w.heap.size ≠ w.heap.size + 2; omega) _
  have k1 : Bk V2 (w.heap.size + 1) 34 #[.int .i64 0, .slice none 0 0, .slice none 0 0, .slice none 0 0, .slice none 0 0] := by rw [hW]; exact k1.far (by show w.heap.size + 1 ≠ w.heap.size + 2; omega) _
  have k2 : Bk V2 (w.heap.size + 2) 34 #[.int .i64 p.dead, .slice A0' p.acts.length c0', .slice A1' p.links.length c1', .slice none 0 0, .slice none 0 0] := by rw [hW]; exact k2.set 2 _
  have B : Below w.heap.size w V2 := by rw [hW]; exact B.setCell (by show w.heap.size ≤ w.heap.size + 2; omega) _
  have o0 : OwAs V2 V0.heap.size U0.heap.size A0' c0' p.acts := by
    rw [hW]; exact o0.keep fun k hk _ => Below.heap_setCell _ _ _ _ (by show k ≠ w.heap.size + 2; omega)
  have o1 : OwLs V2 V1.heap.size U1.heap.size A1' c1' p.links := by
    rw [hW]; exact o1.keep fun k hk _ => Below.heap_setCell _ _ _ _ (by show k ≠ w.heap.size + 2; omega)
  clear hW
  refine (toResourceS_any A2 p.res c2 lo hi V2 (by have := HS.out; omega) (f2.below B hhi) (by omega)).mono ?_
  rintro e U2 ⟨A2', c2', rfl, o2, r⟩
  have y2 := r.size
  have k0 := k0.below r (by omega)
  have k1 := k1.below r (by omega)
  have k2 := k2.below r (by omega)
  have B := B.trans (r.mono (by omega))
  have o0 := o0.below r (by omega)
  have o1 := o1.below r (by omega)
  clear r f2
  have n1 := k0.cell 4
  have n2 := k2.cell 3
  have n3 := k2.frozen 3
  simp only [List.getElem?_toArray, List.getElem?_cons_succ, List.getElem?_cons_zero] at n1 n2
  go_wp2_with fail
  refine at_world fun V3 hW => ?_
  clear n1 n2 n3
  have z3 : V3.heap.size = U2.heap.size := by rw [hW]; simp [World.setCell]
  have k0 : Bk V3 w.heap.size 27 #[.int .i64 p.dead, .slice A0 p.acts.length c0, .slice A1 p.links.length c1, .slice A2 p.res.length c2, .slice A3 p.stocks.length c3] := by rw [hW]; exact k0.far (by show w.heap.size ≠ w.heap.size + 2; omega) _
  have k1 : Bk V3 (w.heap.size + 1) 34 #[.int .i64 0, .slice none 0 0, .slice none 0 0, .slice none 0 0, .slice none 0 0] := by rw [hW]; exact k1.far (by show w.heap.size + 1 ≠ w.heap.size + 2; omega) _
  have k2 : Bk V3 (w.heap.size + 2) 34 #[.int .i64 p.dead, .slice A0' p.acts.length c0', .slice A1' p.links.length c1', .slice A2' p.res.length c2', .slice none 0 0] := by rw [hW]; exact k2.set 3 _
  have B : Below w.heap.size w V3 := by rw [hW]; exact B.setCell (by show w.heap.size ≤ w.heap.size + 2; omega) _
  have o0 : OwAs V3 V0.heap.size U0.heap.size A0' c0' p.acts := by
    rw [hW]; exact o0.keep fun k hk _ => Below.heap_setCell _ _ _ _ (by show k ≠ w.heap.size + 2; omega)
  have o1 : OwLs V3 V1.heap.size U1.heap.size A1' c1' p.links := by
    rw [hW]; exact o1.keep fun k hk _ => Below.heap_setCell _ _ _ _ (by show k ≠ w.heap.size + 2; omega)
  have o2 : OwRs V3 V2.heap.size U2.heap.size A2' c2' p.res := by
    rw [hW]; exact o2.keep fun k hk _ => Below.heap_setCell _ _ _ _ (by show k ≠ w.heap.size + 2; omega)
  clear hW
  refine (toIntS_any A3 p.stocks c3 lo hi V3 (by have := HS.out; omega) (f3.below B hhi) (by omega)).mono ?_
  rintro e U3 ⟨A3', c3', rfl, o3, r⟩
  have y3 := r.size
  have k0 := k0.below r (by omega)
  have k1 := k1.below r (by omega)
  have k2 := k2.below r (by omega)
  have B := B.trans (r.mono (by omega))
  have o0 := o0.below r (by omega)
  have o1 := o1.below r (by omega)
  have o2 := o2.below r (by omega)
  clear r f3
  have p0 := k2.cell 0
  have p1 := k2.cell 1
  have p2 := k2.cell 2
  have p3 := k2.cell 3
  have p4 := k2.cell 4
  have d0 := k2.frozen 4
  have e0 := k1.cell 0
  have g0 := k1.frozen 0
  have e1 := k1.cell 1
  have g1 := k1.frozen 1
  have e2 := k1.cell 2
  have g2 := k1.frozen 2
  have e3 := k1.cell 3
  have g3 := k1.frozen 3
  have e4 := k1.cell 4
  have g4 := k1.frozen 4
  simp only [List.getElem?_toArray, List.getElem?_cons_succ, List.getElem?_cons_zero] at p0 e0 p1 e1 p2 e2 p3 e3 p4 e4
  go_wp2
  refine bodyPost_ret (v := .agg #[.int .i64 p.dead, .slice A0' p.acts.length c0', .slice A1' p.links.length c1', .slice A2' p.res.length c2', .slice A3' p.stocks.length c3']) ?_ rfl ⟨A0', c0', A1', c1', A2', c2', A3', c3', rfl, ?_, ?_⟩
  · simp [results, Tryz.results8, go_sem, *]
  · refine ownProject_mk ?_ (o0.only (only_cProject U3 w.heap.size _ _ _ _ _ _) (by omega) (by omega)) (o1.only (only_cProject U3 w.heap.size _ _ _ _ _ _) (by omega) (by omega)) (o2.only (only_cProject U3 w.heap.size _ _ _ _ _ _) (by omega) (by omega)) (o3.only (only_cProject U3 w.heap.size _ _ _ _ _ _) (by omega) (by omega)) (by simp [World.setCell]; omega) (by simp [World.setCell])
    omega
  · exact below_only B (only_cProject U3 w.heap.size _ _ _ _ _ _) (Nat.le_refl _) (by omega)
set_option maxHeartbeats 3200000 in
theorem eqActivityS_same (A B : Option Addr) (l : List Ac) (n m c d lo hi lo' hi' : Nat) (w : World) (hs : szL szAc l ≤ 16777216) (ha : RdAs w lo hi A l) (hb : RdAs w lo' hi' B l) (hn : n = l.length) (hm : m = l.length) (hhi : hi ≤ w.heap.size) (hhi' : hi' ≤ w.heap.size) :
    Calls Tryz.prog 51 #[.slice A n c, .slice B m d] w fun e w' => e = .returned (.bool true) ∧ Below w.heap.size w w' := by
  subst hn; subst hm
  have hl : l.length ≤ 16777216 := Nat.le_trans (szL_len _ l) hs
  have HS := hide hs; clear hs
  go_enter Tryz.func51, Tryz.ntmps51
  go_wp2
  go_loopw [5] (fun i wr => ∃ k : Nat, k ≤ l.length ∧ i = .int .i64 k ∧ Below w.heap.size w wr) (fun i _ => l.length - (intOf i).toNat)
  case atStart => exact ⟨0, Nat.zero_le _, rfl, Below.refl _ _⟩
  case round =>
    obtain ⟨k, hk, rfl, hB⟩ := hrel
    by_cases hlt : k < l.length
    · have har := ha.below hB hhi
      have hbr := hb.below hB hhi'
      have hsz := hB.size
      obtain ⟨b, off, M, cm, rfl, h1, h2, g0, g1, g2, fU⟩ := har.at hlt
      obtain ⟨b', off', M', cm', rfl, h1', h2', g0', g1', g2', fU'⟩ := hbr.at hlt
      have hs3 : szAc (l.getD k ac0) ≤ 16777216 := by have := szL_at szAc ac0 hlt; have := HS.out; omega
      clear har hbr ha hb
      generalize l.getD k ac0 = m at g0 g1 g2 g0' g1' g2' fU fU' hs3
      have hL : wr.heap.size ≤ wr.heap.size := Nat.le_refl _
      have hhr : hi ≤ wr.heap.size := by omega
      have hhr' : hi' ≤ wr.heap.size := by omega
      go_wp2_with fail
      go_region_held3 (fun w' => (w'.cell? ⟨b, off + k * 3, none⟩ = some (.string m.name) ∧ w'.cell? ⟨b, off + k * 3 + 1, none⟩ = some (.int .i64 m.fam) ∧ w'.cell? ⟨b, off + k * 3 + 2, none⟩ = some (.slice M m.modes.length cm) ∧ w'.cell? ⟨b', off' + k * 3, none⟩ = some (.string m.name) ∧ w'.cell? ⟨b', off' + k * 3 + 1, none⟩ = some (.int .i64 m.fam) ∧ w'.cell? ⟨b', off' + k * 3 + 2, none⟩ = some (.slice M' m.modes.length cm')) ∧ Only wr.heap.size wr.heap.size wr w' ∧ wr.heap.size ≤ w'.heap.size)
        (first | exact ⟨⟨g0, g1, g2, g0', g1', g2'⟩, (Only.refl _ _ _).drew, hL⟩ | (go_split_ands; exact (fun hO => ⟨⟨only_cell hO g0, only_cell hO g1, only_cell hO g2, only_cell hO g0', only_cell hO g1', only_cell hO g2'⟩, hO, hO.size⟩) (only_grow (by assumption) r_e)))
        (first | (go_at_call 113; (try go_split_ands); refine (eqActivity_same m M M' cm cm' lo hi lo' hi' _ hs3 (by exact fU.only (by assumption) (by omega) (by omega)) (by exact fU'.only (by assumption) (by omega) (by omega)) (by omega) (by omega)).mono ?_; rintro e w' ⟨rfl, r_e⟩))
      go_split_ands
      have hBB : Below w.heap.size w _ := below_only hB (by assumption) hsz hsz
      go_wp2
      go_roundw
      case rel => exact ⟨k + 1, by omega, by go_num, by first | exact hBB | exact below_only hB (by assumption) hsz hsz⟩
      case measure => simp [intOf]; omega
    · go_wp2
      go_ret
      exact ⟨rfl, hB⟩
theorem eqLink_same (k : Lk) (w : World) :
    Calls Tryz.prog 114 #[.agg #[.int .i64 k.src, .int .i64 k.dst, .bool k.fe, .int .i64 k.lag], .agg #[.int .i64 k.src, .int .i64 k.dst, .bool k.fe, .int .i64 k.lag]] w fun e w' => e = .returned (.bool true) ∧ Below w.heap.size w w' := by
  obtain ⟨x1, x2, x3, x4⟩ := k
  have hx1 : (x1 != x1) = false := by simp
  have hx2 : (x2 != x2) = false := by simp
  have hx4 : (x4 != x4) = false := by simp
  cases x3
  all_goals
    go_enter Tryz.func114, Tryz.ntmps114
    go_wp2
    go_ret
    exact ⟨rfl, (by (repeat' (first | exact Below.refl _ _ | refine Below.setCell ?_ ?_ _ | refine Below.alloc ?_ ?_ _)); all_goals first | (simp; done) | (simp; omega))⟩
set_option maxHeartbeats 3200000 in
theorem eqLinkS_same (A B : Option Addr) (l : List Lk) (n m c d lo hi lo' hi' : Nat) (w : World) (hs : l.length ≤ 16777216) (ha : RdLs w lo hi A l) (hb : RdLs w lo' hi' B l) (hn : n = l.length) (hm : m = l.length) (hhi : hi ≤ w.heap.size) (hhi' : hi' ≤ w.heap.size) :
    Calls Tryz.prog 52 #[.slice A n c, .slice B m d] w fun e w' => e = .returned (.bool true) ∧ Below w.heap.size w w' := by
  subst hn; subst hm
  have hl := hs
  have HS := hide hs; clear hs
  go_enter Tryz.func52, Tryz.ntmps52
  go_wp2
  go_loopw [5] (fun i wr => ∃ k : Nat, k ≤ l.length ∧ i = .int .i64 k ∧ Below w.heap.size w wr) (fun i _ => l.length - (intOf i).toNat)
  case atStart => exact ⟨0, Nat.zero_le _, rfl, Below.refl _ _⟩
  case round =>
    obtain ⟨k, hk, rfl, hB⟩ := hrel
    by_cases hlt : k < l.length
    · have har := ha.below hB hhi
      have hbr := hb.below hB hhi'
      have hsz := hB.size
      obtain ⟨b, off, rfl, h1, h2, g0, g1, g2, g3⟩ := har.at hlt
      obtain ⟨b', off', rfl, h1', h2', g0', g1', g2', g3'⟩ := hbr.at hlt
      clear har hbr ha hb
      generalize l.getD k lk0 = m at g0 g1 g2 g3 g0' g1' g2' g3'   
      have hL : wr.heap.size ≤ wr.heap.size := Nat.le_refl _
      have hhr : hi ≤ wr.heap.size := by omega
      have hhr' : hi' ≤ wr.heap.size := by omega
      go_wp2_with fail
      go_region_held3 (fun w' => (w'.cell? ⟨b, off + k * 4, none⟩ = some (.int .i64 m.src) ∧ w'.cell? ⟨b, off + k * 4 + 1, none⟩ = some (.int .i64 m.dst) ∧ w'.cell? ⟨b, off + k * 4 + 2, none⟩ = some (.bool m.fe) ∧ w'.cell? ⟨b, off + k * 4 + 3, none⟩ = some (.int .i64 m.lag) ∧ w'.cell? ⟨b', off' + k * 4, none⟩ = some (.int .i64 m.src) ∧ w'.cell? ⟨b', off' + k * 4 + 1, none⟩ = some (.int .i64 m.dst) ∧ w'.cell? ⟨b', off' + k * 4 + 2, none⟩ = some (.bool m.fe) ∧ w'.cell? ⟨b', off' + k * 4 + 3, none⟩ = some (.int .i64 m.lag)) ∧ Only wr.heap.size wr.heap.size wr w' ∧ wr.heap.size ≤ w'.heap.size)
        (first | exact ⟨⟨g0, g1, g2, g3, g0', g1', g2', g3'⟩, (Only.refl _ _ _).drew, hL⟩ | (go_split_ands; exact (fun hO => ⟨⟨only_cell hO g0, only_cell hO g1, only_cell hO g2, only_cell hO g3, only_cell hO g0', only_cell hO g1', only_cell hO g2', only_cell hO g3'⟩, hO, hO.size⟩) (only_grow (by assumption) r_e)))
        (first | (go_at_call 114; (try go_split_ands); refine (eqLink_same m _).mono ?_; rintro e w' ⟨rfl, r_e⟩))
      go_split_ands
      have hBB : Below w.heap.size w _ := below_only hB (by assumption) hsz hsz
      go_wp2
      go_roundw
      case rel => exact ⟨k + 1, by omega, by go_num, by first | exact hBB | exact below_only hB (by assumption) hsz hsz⟩
      case measure => simp [intOf]; omega
    · go_wp2
      go_ret
      exact ⟨rfl, hB⟩
set_option maxHeartbeats 3200000 in
theorem eqResourceS_same (A B : Option Addr) (l : List Rs) (n m c d lo hi lo' hi' : Nat) (w : World) (hs : szL szRs l ≤ 16777216) (ha : RdRs w lo hi A l) (hb : RdRs w lo' hi' B l) (hn : n = l.length) (hm : m = l.length) (hhi : hi ≤ w.heap.size) (hhi' : hi' ≤ w.heap.size) :
    Calls Tryz.prog 53 #[.slice A n c, .slice B m d] w fun e w' => e = .returned (.bool true) ∧ Below w.heap.size w w' := by
  subst hn; subst hm
  have hl : l.length ≤ 16777216 := Nat.le_trans (szL_len _ l) hs
  have HS := hide hs; clear hs
  go_enter Tryz.func53, Tryz.ntmps53
  go_wp2
  go_loopw [5] (fun i wr => ∃ k : Nat, k ≤ l.length ∧ i = .int .i64 k ∧ Below w.heap.size w wr) (fun i _ => l.length - (intOf i).toNat)
  case atStart => exact ⟨0, Nat.zero_le _, rfl, Below.refl _ _⟩
  case round =>
    obtain ⟨k, hk, rfl, hB⟩ := hrel
    by_cases hlt : k < l.length
    · have har := ha.below hB hhi
      have hbr := hb.below hB hhi'
      have hsz := hB.size
      obtain ⟨b, off, S, cs, T, ct, rfl, h1, h2, g0, g1, fU, fC⟩ := har.at hlt
      obtain ⟨b', off', S', cs', T', ct', rfl, h1', h2', g0', g1', fU', fC'⟩ := hbr.at hlt
      have hs3 : szRs (l.getD k rs0) ≤ 16777216 := by have := szL_at szRs rs0 hlt; have := HS.out; omega
      clear har hbr ha hb
      generalize l.getD k rs0 = m at g0 g1 g0' g1' fU fC fU' fC' hs3
      have hL : wr.heap.size ≤ wr.heap.size := Nat.le_refl _
      have hhr : hi ≤ wr.heap.size := by omega
      have hhr' : hi' ≤ wr.heap.size := by omega
      go_wp2_with fail
      go_region_held3 (fun w' => (w'.cell? ⟨b, off + k * 2, none⟩ = some (.slice S m.steps.length cs) ∧ w'.cell? ⟨b, off + k * 2 + 1, none⟩ = some (.slice T m.setup.length ct) ∧ w'.cell? ⟨b', off' + k * 2, none⟩ = some (.slice S' m.steps.length cs') ∧ w'.cell? ⟨b', off' + k * 2 + 1, none⟩ = some (.slice T' m.setup.length ct')) ∧ Only wr.heap.size wr.heap.size wr w' ∧ wr.heap.size ≤ w'.heap.size)
        (first | exact ⟨⟨g0, g1, g0', g1'⟩, (Only.refl _ _ _).drew, hL⟩ | (go_split_ands; exact (fun hO => ⟨⟨only_cell hO g0, only_cell hO g1, only_cell hO g0', only_cell hO g1'⟩, hO, hO.size⟩) (only_grow (by assumption) r_e)))
        (first | (go_at_call 115; (try go_split_ands); refine (eqResource_same m S S' T T' cs cs' ct ct' lo hi lo' hi' _ hs3 (by exact fU.only (by assumption) (by omega) (by omega)) (by exact fC.only (by assumption) (by omega) (by omega)) (by exact fU'.only (by assumption) (by omega) (by omega)) (by exact fC'.only (by assumption) (by omega) (by omega)) (by omega) (by omega)).mono ?_; rintro e w' ⟨rfl, r_e⟩))
      go_split_ands
      have hBB : Below w.heap.size w _ := below_only hB (by assumption) hsz hsz
      go_wp2
      go_roundw
      case rel => exact ⟨k + 1, by omega, by go_num, by first | exact hBB | exact below_only hB (by assumption) hsz hsz⟩
      case measure => simp [intOf]; omega
    · go_wp2
      go_ret
      exact ⟨rfl, hB⟩
set_option maxHeartbeats 3200000 in
theorem eqProject_same (p : Pj) (A0 A0' A1 A1' A2 A2' A3 A3' : Option Addr) (c0 c0' c1 c1' c2 c2' c3 c3' lo hi lo' hi' : Nat) (w : World) (hs : szPj p ≤ 16777216) (f0 : RdAs w lo hi A0 p.acts) (f1 : RdLs w lo hi A1 p.links) (f2 : RdRs w lo hi A2 p.res) (f3 : RdI w lo hi A3 p.stocks) (f0' : RdAs w lo' hi' A0' p.acts) (f1' : RdLs w lo' hi' A1' p.links) (f2' : RdRs w lo' hi' A2' p.res) (f3' : RdI w lo' hi' A3' p.stocks) (hhi : hi ≤ w.heap.size) (hhi' : hi' ≤ w.heap.size) :
    Calls Tryz.prog 10 #[.agg #[.int .i64 p.dead, .slice A0 p.acts.length c0, .slice A1 p.links.length c1, .slice A2 p.res.length c2, .slice A3 p.stocks.length c3], .agg #[.int .i64 p.dead, .slice A0' p.acts.length c0', .slice A1' p.links.length c1', .slice A2' p.res.length c2', .slice A3' p.stocks.length c3']] w fun e w' => e = .returned (.bool true) ∧ Below w.heap.size w w' := by
  unfold szPj at hs
  have HS := hide hs; clear hs
  have h_dead : (p.dead != p.dead) = false := by simp
  go_enter Tryz.func10, Tryz.ntmps10
  go_wp2_with fail
  refine at_world fun V0 hW => ?_
  have z0 : V0.heap.size = w.heap.size + 2 := by rw [hW]; simp
  have k0 : Bk V0 w.heap.size 34 #[.int .i64 p.dead, .slice A0 p.acts.length c0, .slice A1 p.links.length c1, .slice A2 p.res.length c2, .slice A3 p.stocks.length c3] := by rw [hW]; exact (Bk.made w _ _).alloc _
  have k1 : Bk V0 (w.heap.size + 1) 34 #[.int .i64 p.dead, .slice A0' p.acts.length c0', .slice A1' p.links.length c1', .slice A2' p.res.length c2', .slice A3' p.stocks.length c3'] := by
    rw [hW]
    have := Bk.made (w.alloc (.cells #[.int .i64 p.dead, .slice A0 p.acts.length c0, .slice A1 p.links.length c1, .slice A2 p.res.length c2, .slice A3 p.stocks.length c3] 34)) 34 #[.int .i64 p.dead, .slice A0' p.acts.length c0', .slice A1' p.links.length c1', .slice A2' p.res.length c2', .slice A3' p.stocks.length c3']
    simpa using this
  have B : Below w.heap.size w V0 := by rw [hW]; exact ((Below.refl _ _).alloc (Nat.le_refl _) _).alloc (by simp) _
  clear hW
  refine (eqActivityS_same A0 A0' p.acts _ _ c0 c0' lo hi lo' hi' V0 (by have := HS.out; omega) (f0.below B hhi) (f0'.below B hhi') rfl rfl (by omega) (by omega)).mono ?_
  rintro e V1 ⟨rfl, rr⟩
  have z1 := rr.size
  have k0 := k0.below rr (by omega)
  have k1 := k1.below rr (by omega)
  have B := B.trans (rr.mono (by omega))
  clear rr
  clear f0 f0'
  have n1 := k0.cell 2
  have n2 := k1.cell 2
  simp only [List.getElem?_toArray, List.getElem?_cons_succ, List.getElem?_cons_zero] at n1 n2
  go_wp2_with fail
  clear n1 n2
  refine (eqLinkS_same A1 A1' p.links _ _ c1 c1' lo hi lo' hi' V1 (by have := HS.out; omega) (f1.below B hhi) (f1'.below B hhi') rfl rfl (by omega) (by omega)).mono ?_
  rintro e V2 ⟨rfl, rr⟩
  have z2 := rr.size
  have k0 := k0.below rr (by omega)
  have k1 := k1.below rr (by omega)
  have B := B.trans (rr.mono (by omega))
  clear rr
  clear f1 f1'
  have n1 := k0.cell 3
  have n2 := k1.cell 3
  simp only [List.getElem?_toArray, List.getElem?_cons_succ, List.getElem?_cons_zero] at n1 n2
  go_wp2_with fail
  clear n1 n2
  refine (eqResourceS_same A2 A2' p.res _ _ c2 c2' lo hi lo' hi' V2 (by have := HS.out; omega) (f2.below B hhi) (f2'.below B hhi') rfl rfl (by omega) (by omega)).mono ?_
  rintro e V3 ⟨rfl, rr⟩
  have z3 := rr.size
  have k0 := k0.below rr (by omega)
  have k1 := k1.below rr (by omega)
  have B := B.trans (rr.mono (by omega))
  clear rr
  clear f2 f2'
  have n1 := k0.cell 4
  have n2 := k1.cell 4
  simp only [List.getElem?_toArray, List.getElem?_cons_succ, List.getElem?_cons_zero] at n1 n2
  go_wp2_with fail
  clear n1 n2
  refine (eqIntS_same A3 A3' p.stocks _ _ c3 c3' lo hi lo' hi' V3 (by have := HS.out; omega) (f3.below B hhi) (f3'.below B hhi') rfl rfl).mono ?_
  rintro e V4 ⟨rfl, ⟨d3, rfl⟩⟩
  have B := below_quiet B d3
  have k0 := k0.qt ⟨d3, rfl⟩
  have k1 := k1.qt ⟨d3, rfl⟩
  have z4 : (V3.drewN d3).heap.size = V3.heap.size := rfl
  clear f3 f3'
  go_wp2
  go_ret
  exact ⟨rfl, B⟩
end Go.Proofs.YtcecgbjolngdbaaGreatDoor
