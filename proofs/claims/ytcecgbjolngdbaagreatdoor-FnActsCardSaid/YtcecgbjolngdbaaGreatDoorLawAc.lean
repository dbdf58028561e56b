/- What the laws' own helpers do with rows of modes and activities. -/
import Derived.Test.YtcecgbjolngdbaaGreatDoorLawMo
import Derived.Deep.RegionHeld3
namespace Go.Proofs.YtcecgbjolngdbaaGreatDoor
open Go.ChangeShapes Go.WideShapes Go.ChangeAt Go.RowKit
set_option linter.unusedVariables false

set_option maxHeartbeats 1600000 in
theorem szModeS_any (A : Option Addr) (l : List Md) (c lo hi : Nat) (q : Int) (w : World) (hw : WfL WfMd md0 l) (hq0 : 0 ≤ q) (hq : q ≤ 16777216) (ha : RdMs w lo hi A l) (hhi : hi ≤ w.heap.size) :
    Calls Tryz.prog 143 #[.slice A l.length c, .int .i64 q] w fun e w' => ∃ r, e = .returned (.int .i64 r) ∧ (r = -1 ∨ (0 ≤ r ∧ r ≤ q ∧ (szL szMd l : Int) + r = q)) ∧ Below w.heap.size w w' := by
  have hl := hw.1
  have HW := hide hw; clear hw
  by_cases hlq : (l.length : Int) ≤ q
  case neg =>
    go_enter Tryz.func143, Tryz.ntmps143
    go_wp2
    go_ret
    exact ⟨_, rfl, .inl rfl, Below.refl _ _⟩
  go_enter Tryz.func143, Tryz.ntmps143
  go_wp2
  go_loopw [1, 5] (fun v i wr => ∃ (k : Nat) (r : Int), k ≤ l.length ∧ i = .int .i64 k ∧ v = .int .i64 r ∧ 0 ≤ r ∧ r ≤ q ∧ (szTo szMd l k : Int) + r = q ∧ Below w.heap.size w wr) (fun _ i _ => l.length - (intOf i).toNat)
  case atStart => exact ⟨0, _, Nat.zero_le _, rfl, rfl, by omega, by omega, by rw [szTo_zero]; omega, Below.refl _ _⟩
  case round =>
    obtain ⟨k, r, hk, rfl, rfl, hr0, hrq, hr, hB⟩ := hrel
    by_cases hlt : k < l.length
    · have har := ha.below hB hhi
      have hhr : hi ≤ wr.heap.size := by have := hB.size; omega
      obtain ⟨b, off, U, cu, C, cc, rfl, h1, h2, g0, g1, g2, fU, fC⟩ := har.at hlt
      have HT := hide (szTo_succ szMd md0 hlt)
      have hwk := HW.out.2 k hlt
      have HR := hide hr; clear hr
      clear har ha
      generalize l.getD k md0 = m at g0 g1 g2 fU fC HT hwk
      have HWK := hide hwk; clear hwk
      go_wp2_with fail
      refine (szMode_any m.dur U C m.use.length m.con.length cu cc r wr HWK.out.1 HWK.out.2 hr0 (by omega)).mono ?_
      rintro e w1 ⟨r', rfl, hr', hB1⟩
      have hB := hB.trans (hB1.mono hB.size)
      clear hB1
      rcases hr' with rfl | ⟨s0, s1, s2⟩
      · go_wp2
        go_ret
        exact ⟨_, rfl, .inl rfl, hB⟩
      · have HR2 := hide s2; clear s2
        go_wp2
        go_roundw
        case rel => exact ⟨k + 1, r', by omega, by go_num, rfl, s0, by omega, by (have h1 := HT.out; have h2 := HR.out; have h3 := HR2.out; (have e : szMd m = m.use.length + m.con.length := rfl); omega), hB⟩
        case measure => simp [intOf]; omega
    · obtain rfl : k = l.length := by omega
      go_wp2
      go_ret
      exact ⟨_, rfl, .inr ⟨hr0, hrq, by rw [← szTo_all]; exact hr⟩, hB⟩
theorem Tryz.infoMd : (Tryz.prog.info? 53).map (fun i => (i.zero, i.size, i.bytes)) = some (some (.agg #[.int .i64 0, .slice none 0 0, .slice none 0 0]), 3, 56) := by kernel_rfl
set_option maxHeartbeats 3200000 in
theorem toModeS_any (A : Option Addr) (l : List Md) (c lo hi : Nat) (w : World) (hs : szL szMd l ≤ 16777216) (ha : RdMs w lo hi A l) (hhi : hi ≤ w.heap.size) :
    Calls Tryz.prog 148 #[.slice A l.length c] w fun e w' => ∃ A' c', e = .returned (.slice A' l.length c') ∧ OwMs w' w.heap.size w'.heap.size A' c' l ∧ Below w.heap.size w w' := by
  have hl : l.length ≤ 16777216 := Nat.le_trans (szL_len _ l) hs
  obtain ⟨i0, hi0, hz0, hz1, hz2⟩ := info_parts Tryz.infoMd
  have hO0 := OwnR.made w w.heap.size 53 3 (madeCells #[.int .i64 0, .slice none 0 0, .slice none 0 0] (l.length * 3)) l.length (Nat.le_refl _) (by unfold maxLen; omega) (by simp [size_madeCells])
  have hmk : ∀ w : World, (Instr.makeSlice 44 (.int .i64 (l.length : Int)) (.int .i64 (l.length : Int))).run Tryz.prog w = .ok (.slice (some ⟨w.heap.size, 0, none⟩) l.length l.length) (w.alloc (.cells (madeCells #[.int .i64 0, .slice none 0 0, .slice none 0 0] (l.length * 3)) 53)) :=
    make_sz Tryz.underlying44 hi0 hz0 hz1 l.length hl (by rw [hz2]; omega)
  generalize madeCells #[.int .i64 0, .slice none 0 0, .slice none 0 0] (l.length * 3) = cz at hO0 hmk
  have HO := hide hO0; clear hO0
  have HS := hide hs; clear hs
  clear hi0 hz0 hz1 hz2
  go_enter Tryz.func148, Tryz.ntmps148
  go_wp2
  clear hmk
  go_loopw [4] (fun i wr => ∃ (k : Nat) (xs : List Value) (bs : List Nat), k ≤ l.length ∧ i = .int .i64 k ∧ OwnR wr w.heap.size (w.heap.size + 1) 53 3 (some ⟨w.heap.size, 0, none⟩) l.length l.length xs ∧ Part 3 OwM md0 wr xs l k bs ∧ Nd bs (w.heap.size + 1) wr.heap.size ∧ Below w.heap.size w wr ∧ w.heap.size < wr.heap.size) (fun i _ => l.length - (intOf i).toNat)
  case atStart => exact ⟨0, _, [], Nat.zero_le _, rfl, HO.out, Part.nil_, Nd.nil _ _, (Below.refl _ _).alloc (Nat.le_refl _) _, by simp⟩
  case round =>
    obtain ⟨k, xs, bs, hk, rfl, hO, hP, hN, hB, hsz⟩ := hrel
    clear HO
    by_cases hlt : k < l.length
    · have har := ha.below hB hhi
      have hhr : hi ≤ wr.heap.size := by have := hB.size; omega
      obtain ⟨b, off, U, cu, C, cc, rfl, h1, h2, g0, g1, g2, fU, fC⟩ := har.at hlt
      have hs3 : szMd (l.getD k md0) ≤ 16777216 := by have := szL_at szMd md0 hlt; have := HS.out; omega
      clear har ha
      generalize hX : l.getD k md0 = m at g0 g1 g2 fU fC hs3
      have HX := hide hX; clear hX
      go_wp2_with fail
      refine (toModeO_any m U C cu cc lo hi wr hs3 fU fC hhr).mono ?_
      rintro e w1 ⟨U', cu', C', cc', rfl, oV, r⟩
      obtain ⟨nb, oV, nN⟩ := oV
      have zr := r.size
      have hO := hO.below r (by omega)
      have hP := hP.keep_ OwMs.keeps (fun b hb => r.block b (by have := hN.2 b hb; omega))
      have hB := hB.trans (r.mono hB.size)
      have hsz := Nat.lt_of_lt_of_le hsz r.size
      clear r g0 g1 g2 fU fC
      have hN' := hN.app nN (Nat.le_refl _) (by omega) (by omega)
      obtain ⟨u0, e0⟩ := hO.some_at (k * 3) (by omega)
      have f0 := hO.frozenAt (k * 3)
      obtain ⟨u1, e1⟩ := hO.some_at (k * 3 + 1) (by omega)
      have f1 := hO.frozenAt (k * 3 + 1)
      obtain ⟨u2, e2⟩ := hO.some_at (k * 3 + 2) (by omega)
      have f2 := hO.frozenAt (k * 3 + 2)
      have hO' := (((hO.stored (k * 3) (.int .i64 m.dur)).stored (k * 3 + 1) (.slice U' m.use.length cu')).stored (k * 3 + 2) (.slice C' m.con.length cc'))
      have hB' := (((hB.setCell (p := ⟨w.heap.size, k * 3, none⟩) (Nat.le_refl _) (.int .i64 m.dur)).setCell (p := ⟨w.heap.size, k * 3 + 1, none⟩) (Nat.le_refl _) (.slice U' m.use.length cu')).setCell (p := ⟨w.heap.size, k * 3 + 2, none⟩) (Nat.le_refl _) (.slice C' m.con.length cc'))
      have hfar : ∀ b, w.heap.size < b → (((w1.setCell ⟨w.heap.size, k * 3, none⟩ (.int .i64 m.dur)).setCell ⟨w.heap.size, k * 3 + 1, none⟩ (.slice U' m.use.length cu')).setCell ⟨w.heap.size, k * 3 + 2, none⟩ (.slice C' m.con.length cc')).heap[b]? = w1.heap[b]? := fun b hb => by
        exact (Below.heap_setCell _ _ _ _ (by show b ≠ w.heap.size; omega)).trans ((Below.heap_setCell _ _ _ _ (by show b ≠ w.heap.size; omega)).trans ((Below.heap_setCell _ _ _ _ (by show b ≠ w.heap.size; omega)).trans (rfl)))
      have hP' := hP.keep_ (w' := (((w1.setCell ⟨w.heap.size, k * 3, none⟩ (.int .i64 m.dur)).setCell ⟨w.heap.size, k * 3 + 1, none⟩ (.slice U' m.use.length cu')).setCell ⟨w.heap.size, k * 3 + 2, none⟩ (.slice C' m.con.length cc'))) OwMs.keeps (fun b hb => hfar b (by have := hN.2 b hb; omega))
      have oV' := OwMs.keeps _ (((w1.setCell ⟨w.heap.size, k * 3, none⟩ (.int .i64 m.dur)).setCell ⟨w.heap.size, k * 3 + 1, none⟩ (.slice U' m.use.length cu')).setCell ⟨w.heap.size, k * 3 + 2, none⟩ (.slice C' m.con.length cc')) _ _ _ (fun b hb => hfar b (by have := nN.2 b hb; omega)) oV
      have HL := hide hO.len
      have HF := hide hfar; clear hfar hO hP hB
      have HP := hide hP'; clear hP'
      go_wp2
      go_roundw
      case rel =>
        refine ⟨k + 1, _, _, by omega, by go_num, hO', HP.out.snoc_ (v := #[.int .i64 m.dur, .slice U' m.use.length cu', .slice C' m.con.length cc']) (fun p hp => ?_) (fun i hi => ?_) (by rw [HX.out]; exact oV'), by simpa [World.setCell] using hN', hB', by simpa [World.setCell] using hsz⟩
        · exact sets_low [.int .i64 m.dur, .slice U' m.use.length cu', .slice C' m.con.length cc'] xs (k * 3) p (by omega)
        · exact (sets_at [.int .i64 m.dur, .slice U' m.use.length cu', .slice C' m.con.length cc'] xs (k * 3) i hi (by have := HL.out; simp; omega)).trans (by simp)
      case measure => simp [intOf]; omega
    · obtain rfl : k = l.length := by omega
      go_wp2
      go_ret
      exact ⟨_, _, rfl, ⟨_, ⟨[w.heap.size], bs, xs, RowB.of_some hO, hP, rfl⟩, (Nd.one (Nat.le_refl _) (by omega : w.heap.size < w.heap.size + 1)).app hN (Nat.le_refl _) (by omega) (by omega)⟩, hB⟩
set_option maxHeartbeats 3200000 in
theorem eqModeS_same (A B : Option Addr) (l : List Md) (n m c d lo hi lo' hi' : Nat) (w : World) (hs : szL szMd l ≤ 16777216) (ha : RdMs w lo hi A l) (hb : RdMs w lo' hi' B l) (hn : n = l.length) (hm : m = l.length) (hhi : hi ≤ w.heap.size) (hhi' : hi' ≤ w.heap.size) :
    Calls Tryz.prog 159 #[.slice A n c, .slice B m d] w fun e w' => e = .returned (.bool true) ∧ Below w.heap.size w w' := by
  subst hn; subst hm
  have hl : l.length ≤ 16777216 := Nat.le_trans (szL_len _ l) hs
  have HS := hide hs; clear hs
  go_enter Tryz.func159, Tryz.ntmps159
  go_wp2
  go_loopw [5] (fun i wr => ∃ k : Nat, k ≤ l.length ∧ i = .int .i64 k ∧ Below w.heap.size w wr) (fun i _ => l.length - (intOf i).toNat)
  case atStart => exact ⟨0, Nat.zero_le _, rfl, Below.refl _ _⟩
  case round =>
    obtain ⟨k, hk, rfl, hB⟩ := hrel
    by_cases hlt : k < l.length
    · have har := ha.below hB hhi
      have hbr := hb.below hB hhi'
      have hsz := hB.size
      obtain ⟨b, off, U, cu, C, cc, rfl, h1, h2, g0, g1, g2, fU, fC⟩ := har.at hlt
      obtain ⟨b', off', U', cu', C', cc', rfl, h1', h2', g0', g1', g2', fU', fC'⟩ := hbr.at hlt
      have hs3 : szMd (l.getD k md0) ≤ 16777216 := by have := szL_at szMd md0 hlt; have := HS.out; omega
      clear har hbr ha hb
      generalize l.getD k md0 = m at g0 g1 g2 g0' g1' g2' fU fC fU' fC' hs3
      have hL : wr.heap.size ≤ wr.heap.size := Nat.le_refl _
      have hs4 : m.use.length ≤ 16777216 := by unfold szMd at hs3; omega
      have hs5 : m.con.length ≤ 16777216 := by unfold szMd at hs3; omega
      have hhr : hi ≤ wr.heap.size := by omega
      have hhr' : hi' ≤ wr.heap.size := by omega
      go_wp2_with fail
      go_region_held3 (fun w' => (w'.cell? ⟨b, off + k * 3, none⟩ = some (.int .i64 m.dur) ∧ w'.cell? ⟨b, off + k * 3 + 1, none⟩ = some (.slice U m.use.length cu) ∧ w'.cell? ⟨b, off + k * 3 + 2, none⟩ = some (.slice C m.con.length cc) ∧ w'.cell? ⟨b', off' + k * 3, none⟩ = some (.int .i64 m.dur) ∧ w'.cell? ⟨b', off' + k * 3 + 1, none⟩ = some (.slice U' m.use.length cu') ∧ w'.cell? ⟨b', off' + k * 3 + 2, none⟩ = some (.slice C' m.con.length cc')) ∧ Only wr.heap.size wr.heap.size wr w' ∧ wr.heap.size ≤ w'.heap.size)
        (first | exact ⟨⟨g0, g1, g2, g0', g1', g2'⟩, (Only.refl _ _ _).drew, hL⟩ | (go_split_ands; exact (fun hO => ⟨⟨only_cell hO g0, only_cell hO g1, only_cell hO g2, only_cell hO g0', only_cell hO g1', only_cell hO g2'⟩, hO, hO.size⟩) (only_grow (by assumption) r_e)))
        (first | (go_at_call 179; (try go_split_ands); refine (eqMode_same m U C U' C' cu cc cu' cc' lo hi lo' hi' _ hs4 hs5 (by exact fU.only (by assumption) (by omega) (by omega)) (by exact fC.only (by assumption) (by omega) (by omega)) (by exact fU'.only (by assumption) (by omega) (by omega)) (by exact fC'.only (by assumption) (by omega) (by omega)) (by omega) (by omega)).mono ?_; rintro e w' ⟨rfl, r_e⟩))
      go_split_ands
      have hBB : Below w.heap.size w _ := below_only hB (by assumption) hsz hsz
      go_wp2
      go_roundw
      case rel => exact ⟨k + 1, by omega, by go_num, by first | exact hBB | exact below_only hB (by assumption) hsz hsz⟩
      case measure => simp [intOf]; omega
    · go_wp2
      go_ret
      exact ⟨rfl, hB⟩
set_option maxHeartbeats 3200000 in
theorem szActivity_any (a : Ac) (A0 : Option Addr) (c0 lo hi : Nat) (q : Int) (w : World) (hw : WfAc a) (hq0 : 0 ≤ q) (hq : q ≤ 16777216) (f0 : RdMs w lo hi A0 a.modes) (hhi : hi ≤ w.heap.size) :
    Calls Tryz.prog 93 #[.agg #[.string a.name, .int .i64 a.fam, .slice A0 a.modes.length c0], .int .i64 q] w fun e w' => ∃ r, e = .returned (.int .i64 r) ∧ (r = -1 ∨ (0 ≤ r ∧ r ≤ q ∧ (szAc a : Int) + r = q)) ∧ Below w.heap.size w w' := by
  have HZ : Hid ((szAc a : Int) = (a.name.size : Int) + ((szL szMd a.modes : Nat) : Int)) := by unfold szAc; show _ = _; push_cast; omega
  unfold WfAc at hw
  obtain ⟨hn, W0⟩ := hw
  have W0 := hide W0
  by_cases hnq : (a.name.size : Int) ≤ q
  case neg =>
    go_enter Tryz.func93, Tryz.ntmps93
    go_wp2
    go_ret
    exact ⟨_, rfl, .inl rfl, (Below.refl _ _).alloc (Nat.le_refl _) _⟩
  go_enter Tryz.func93, Tryz.ntmps93
  go_wp2_with fail
  refine at_world fun V0 hW => ?_
  have z0 : V0.heap.size = w.heap.size + 1 := by rw [hW]; simp
  have k0 : Bk V0 w.heap.size 120 #[.string a.name, .int .i64 a.fam, .slice A0 a.modes.length c0] := by rw [hW]; exact Bk.made w _ _
  have B : Below w.heap.size w V0 := by rw [hW]; exact (Below.refl _ _).alloc (Nat.le_refl _) _
  clear hW
  refine (szModeS_any A0 a.modes c0 lo hi (q - a.name.size) V0 W0.out (by omega) (by omega) (f0.below B hhi) (by omega)).mono ?_
  rintro e V1 ⟨r0, rfl, hr, rr⟩
  have z1 := rr.size
  have k0 := k0.below rr (by omega)
  have B := B.trans (rr.mono (by omega))
  clear rr
  rcases hr with rfl | ⟨s0, t0, u0⟩
  · go_wp2
    go_ret
    exact ⟨_, rfl, .inl rfl, B⟩
  have HU0 := hide u0; clear u0
  go_wp2
  go_ret
  exact ⟨_, rfl, .inr ⟨s0, by omega, by rw [HZ.out]; have e0 := HU0.out; omega⟩, B⟩
theorem ownActivity_mk {w : World} {a : Ac} {lo hi l0 h0 : Nat} {A0 : Option Addr} {c0 : Nat} (hc : lo ≤ l0 ∧ l0 ≤ h0) (o0 : OwMs w l0 h0 A0 c0 a.modes) (hlo : lo ≤ hi) (hhi : h0 ≤ hi) :
    OwV OwA w lo hi #[.string a.name, .int .i64 a.fam, .slice A0 a.modes.length c0] a := by
  obtain ⟨b0, q0, n0⟩ := o0
  exact ⟨b0, ⟨A0, c0, rfl, q0⟩, n0.mono (by omega) (by omega)⟩
theorem ownActivity_parts {w : World} {a : Ac} {lo hi : Nat} {d0 d1 : Value} {A0 : Option Addr} {n0 c0 : Nat} (h : OwV OwA w lo hi #[d0, d1, .slice A0 n0 c0] a) : RdMs w lo hi A0 a.modes := by
  obtain ⟨bs, h1, h2⟩ := h
  obtain ⟨A0', c0', e, f0⟩ := OwAs.ord _ _ _ _ _ _ h2.2 h1
  simp only [Array.mk.injEq, List.cons.injEq, Value.slice.injEq, and_true] at e
  obtain ⟨_, _, ⟨rfl, _, _⟩⟩ := e
  exact f0
theorem only_cActivity (w : World) (g : Nat) (v0 v1 v2 v3 : Value) : Only g (g + 3) w ((((w.setCell ⟨g + 1 + 1, 2, none⟩ v0).setCell ⟨g + 1, 0, none⟩ v1).setCell ⟨g + 1, 1, none⟩ v2).setCell ⟨g + 1, 2, none⟩ v3) :=
  ((((Only.refl _ _ _).setCell ⟨by dsimp only; omega, by dsimp only; omega⟩ _).setCell ⟨by dsimp only; omega, by dsimp only; omega⟩ _).setCell ⟨by dsimp only; omega, by dsimp only; omega⟩ _).setCell ⟨by dsimp only; omega, by dsimp only; omega⟩ _
set_option maxHeartbeats 3200000 in
theorem toActivity_any (a : Ac) (A0 : Option Addr) (c0 lo hi : Nat) (w : World) (hs : szAc a ≤ 16777216) (f0 : RdMs w lo hi A0 a.modes) (hhi : hi ≤ w.heap.size) :
    Calls Tryz.prog 99 #[.agg #[.string a.name, .int .i64 a.fam, .slice A0 a.modes.length c0]] w fun e w' => ∃ A0' c0', e = .returned (.agg #[.string a.name, .int .i64 a.fam, .slice A0' a.modes.length c0']) ∧
      OwV OwA w' w.heap.size w'.heap.size #[.string a.name, .int .i64 a.fam, .slice A0' a.modes.length c0'] a ∧ Below w.heap.size w w' := by
  unfold szAc at hs
  have HS := hide hs; clear hs
  go_enter Tryz.func99, Tryz.ntmps99
  go_wp2_with fail
  refine at_world fun V0 hW => ?_
  have z0 : V0.heap.size = w.heap.size + 3 := by rw [hW]; simp
  have k0 : Bk V0 w.heap.size 120 #[.string a.name, .int .i64 a.fam, .slice A0 a.modes.length c0] := by
    rw [hW]; exact ((Bk.made w _ _).alloc _).alloc _
  have k1 : Bk V0 (w.heap.size + 1) 46 #[.string ⟨#[]⟩, .int .i64 0, .slice none 0 0] := by
    rw [hW]
    have := (Bk.made (w.alloc (.cells #[.string a.name, .int .i64 a.fam, .slice A0 a.modes.length c0] 120)) 46 #[.string ⟨#[]⟩, .int .i64 0, .slice none 0 0]).alloc (.cells #[.string a.name, .int .i64 a.fam, .slice none 0 0] 46)
    simpa using this
  have k2 : Bk V0 (w.heap.size + 2) 46 #[.string a.name, .int .i64 a.fam, .slice none 0 0] := by
    rw [hW]
    have := Bk.made ((w.alloc (.cells #[.string a.name, .int .i64 a.fam, .slice A0 a.modes.length c0] 120)).alloc (.cells #[.string ⟨#[]⟩, .int .i64 0, .slice none 0 0] 46)) 46 #[.string a.name, .int .i64 a.fam, .slice none 0 0]
    simpa using this
  have B : Below w.heap.size w V0 := by
    rw [hW]; exact (((Below.refl _ _).alloc (Nat.le_refl _) _).alloc (by simp) _).alloc (by simp; omega) _
  clear hW
  refine (toModeS_any A0 a.modes c0 lo hi V0 (by have := HS.out; omega) (f0.below B hhi) (by omega)).mono ?_
  rintro e U0 ⟨A0', c0', rfl, o0, r⟩
  have y0 := r.size
  have k0 := k0.below r (by omega)
  have k1 := k1.below r (by omega)
  have k2 := k2.below r (by omega)
  have B := B.trans (r.mono (by omega))
  clear r f0
  have p0 := k2.cell 0
  have p1 := k2.cell 1
  have p2 := k2.cell 2
  have d0 := k2.frozen 2
  have e0 := k1.cell 0
  have g0 := k1.frozen 0
  have e1 := k1.cell 1
  have g1 := k1.frozen 1
  have e2 := k1.cell 2
  have g2 := k1.frozen 2
  simp only [List.getElem?_toArray, List.getElem?_cons_succ, List.getElem?_cons_zero] at p0 e0 p1 e1 p2 e2
  go_wp2
  refine bodyPost_ret (v := .agg #[.string a.name, .int .i64 a.fam, .slice A0' a.modes.length c0']) ?_ rfl ⟨A0', c0', rfl, ?_, ?_⟩
  · simp [results, Tryz.results99, go_sem, *]
  · refine ownActivity_mk ?_ (o0.only (only_cActivity U0 w.heap.size _ _ _ _) (by omega) (by omega)) (by simp [World.setCell]; omega) (by simp [World.setCell])
    omega
  · exact below_only B (only_cActivity U0 w.heap.size _ _ _ _) (Nat.le_refl _) (by omega)
set_option maxHeartbeats 3200000 in
theorem eqActivity_same (a : Ac) (A0 A0' : Option Addr) (c0 c0' lo hi lo' hi' : Nat) (w : World) (hs : szAc a ≤ 16777216) (f0 : RdMs w lo hi A0 a.modes) (f0' : RdMs w lo' hi' A0' a.modes) (hhi : hi ≤ w.heap.size) (hhi' : hi' ≤ w.heap.size) :
    Calls Tryz.prog 113 #[.agg #[.string a.name, .int .i64 a.fam, .slice A0 a.modes.length c0], .agg #[.string a.name, .int .i64 a.fam, .slice A0' a.modes.length c0']] w fun e w' => e = .returned (.bool true) ∧ Below w.heap.size w w' := by
  unfold szAc at hs
  have HS := hide hs; clear hs
  have h_fam : (a.fam != a.fam) = false := by simp
  go_enter Tryz.func113, Tryz.ntmps113
  go_wp2_with fail
  refine at_world fun V0 hW => ?_
  have z0 : V0.heap.size = w.heap.size + 2 := by rw [hW]; simp
  have k0 : Bk V0 w.heap.size 46 #[.string a.name, .int .i64 a.fam, .slice A0 a.modes.length c0] := by rw [hW]; exact (Bk.made w _ _).alloc _
  have k1 : Bk V0 (w.heap.size + 1) 46 #[.string a.name, .int .i64 a.fam, .slice A0' a.modes.length c0'] := by
    rw [hW]
    have := Bk.made (w.alloc (.cells #[.string a.name, .int .i64 a.fam, .slice A0 a.modes.length c0] 46)) 46 #[.string a.name, .int .i64 a.fam, .slice A0' a.modes.length c0']
    simpa using this
  have B : Below w.heap.size w V0 := by rw [hW]; exact ((Below.refl _ _).alloc (Nat.le_refl _) _).alloc (by simp) _
  clear hW
  refine (eqModeS_same A0 A0' a.modes _ _ c0 c0' lo hi lo' hi' V0 (by have := HS.out; omega) (f0.below B hhi) (f0'.below B hhi') rfl rfl (by omega) (by omega)).mono ?_
  rintro e V1 ⟨rfl, rr⟩
  have z1 := rr.size
  have k0 := k0.below rr (by omega)
  have k1 := k1.below rr (by omega)
  have B := B.trans (rr.mono (by omega))
  clear rr
  clear f0 f0'
  go_wp2
  go_ret
  exact ⟨rfl, B⟩
end Go.Proofs.YtcecgbjolngdbaaGreatDoor
