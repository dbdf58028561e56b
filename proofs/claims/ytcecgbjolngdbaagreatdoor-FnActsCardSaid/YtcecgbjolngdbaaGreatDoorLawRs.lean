/- What the laws' own helpers do with resources. -/
import Derived.Test.YtcecgbjolngdbaaGreatDoorKitOw
import Derived.Test.YtcecgbjolngdbaaGreatDoorLaw
import Derived.Test.YtcecgbjolngdbaaGreatDoorLawSt
import Derived.Test.YtcecgbjolngdbaaGreatDoorLawMd
import Derived.Deep.RegionHeld3
namespace Go.Proofs.YtcecgbjolngdbaaGreatDoor
open Go.ChangeShapes Go.WideShapes Go.ChangeAt Go.RowKit
set_option linter.unusedVariables false

set_option maxHeartbeats 1600000 in
theorem szIntSS_any (A : Option Addr) (l : List (List Int)) (c lo hi : Nat) (q : Int) (w : World) (hw : WfL WfII [] l) (hq0 : 0 ≤ q) (hq : q ≤ 16777216) (ha : RdSS w lo hi A l) (hhi : hi ≤ w.heap.size) :
    Calls Tryz.prog 145 #[.slice A l.length c, .int .i64 q] w fun e w' => ∃ r, e = .returned (.int .i64 r) ∧ (r = -1 ∨ (0 ≤ r ∧ r ≤ q ∧ (szL List.length l : Int) + r = q)) ∧ Below w.heap.size w w' := by
  have hl := hw.1
  have HW := hide hw; clear hw
  by_cases hlq : (l.length : Int) ≤ q
  case neg =>
    go_enter Tryz.func145, Tryz.ntmps145
    go_wp2
    go_ret
    exact ⟨_, rfl, .inl rfl, Below.refl _ _⟩
  go_enter Tryz.func145, Tryz.ntmps145
  go_wp2
  go_loopw [1, 5] (fun v i wr => ∃ (k : Nat) (r : Int), k ≤ l.length ∧ i = .int .i64 k ∧ v = .int .i64 r ∧ 0 ≤ r ∧ r ≤ q ∧ (szTo List.length l k : Int) + r = q ∧ Below w.heap.size w wr) (fun _ i _ => l.length - (intOf i).toNat)
  case atStart => exact ⟨0, _, Nat.zero_le _, rfl, rfl, by omega, by omega, by rw [szTo_zero]; omega, Below.refl _ _⟩
  case round =>
    obtain ⟨k, r, hk, rfl, rfl, hr0, hrq, hr, hB⟩ := hrel
    by_cases hlt : k < l.length
    · have har := ha.below hB hhi
      have hhr : hi ≤ wr.heap.size := by have := hB.size; omega
      obtain ⟨b, off, R, cr, rfl, h1, h2, g0, fU⟩ := har.at hlt
      have HT := hide (szTo_succ List.length [] hlt)
      have hwk := HW.out.2 k hlt
      have HR := hide hr; clear hr
      clear har ha
      generalize l.getD k [] = m at g0 fU HT hwk
      have HWK := hide hwk; clear hwk
      go_wp2_with fail
      refine (szIntS_any R m.length cr r wr HWK.out hr0 (by omega)).mono ?_
      rintro e w1 ⟨r', rfl, hr', rfl⟩
      rcases hr' with rfl | ⟨s0, s1, s2⟩
      · go_wp2
        go_ret
        exact ⟨_, rfl, .inl rfl, hB⟩
      · have HR2 := hide s2; clear s2
        go_wp2
        go_roundw
        case rel => exact ⟨k + 1, r', by omega, by go_num, rfl, s0, by omega, by (have h1 := HT.out; have h2 := HR.out; have h3 := HR2.out; omega), hB⟩
        case measure => simp [intOf]; omega
    · obtain rfl : k = l.length := by omega
      go_wp2
      go_ret
      exact ⟨_, rfl, .inr ⟨hr0, hrq, by rw [← szTo_all]; exact hr⟩, hB⟩
theorem Tryz.infoSS : (Tryz.prog.info? 25).map (fun i => (i.zero, i.size, i.bytes)) = some (some (.slice none 0 0), 1, 24) := by kernel_rfl
set_option maxHeartbeats 3200000 in
theorem toIntSS_any (A : Option Addr) (l : List (List Int)) (c lo hi : Nat) (w : World) (hs : szL List.length l ≤ 16777216) (ha : RdSS w lo hi A l) (hhi : hi ≤ w.heap.size) :
    Calls Tryz.prog 150 #[.slice A l.length c] w fun e w' => ∃ A' c', e = .returned (.slice A' l.length c') ∧ OwSS w' w.heap.size w'.heap.size A' c' l ∧ Below w.heap.size w w' := by
  have hl : l.length ≤ 16777216 := Nat.le_trans (szL_len _ l) hs
  obtain ⟨i0, hi0, hz0, hz1, hz2⟩ := info_parts Tryz.infoSS
  have hO0 := OwnR.made w w.heap.size 25 1 (madeCells #[.slice none 0 0] (l.length * 1)) l.length (Nat.le_refl _) (by unfold maxLen; omega) (by simp [size_madeCells])
  have hmk : ∀ w : World, (Instr.makeSlice 69 (.int .i64 (l.length : Int)) (.int .i64 (l.length : Int))).run Tryz.prog w = .ok (.slice (some ⟨w.heap.size, 0, none⟩) l.length l.length) (w.alloc (.cells (madeCells #[.slice none 0 0] (l.length * 1)) 25)) :=
    make_sz Tryz.underlying69 hi0 hz0 hz1 l.length hl (by rw [hz2]; omega)
  generalize madeCells #[.slice none 0 0] (l.length * 1) = cz at hO0 hmk
  have HO := hide hO0; clear hO0
  have HS := hide hs; clear hs
  clear hi0 hz0 hz1 hz2
  go_enter Tryz.func150, Tryz.ntmps150
  go_wp2
  clear hmk
  go_loopw [4] (fun i wr => ∃ (k : Nat) (xs : List Value) (bs : List Nat), k ≤ l.length ∧ i = .int .i64 k ∧ OwnR wr w.heap.size (w.heap.size + 1) 25 1 (some ⟨w.heap.size, 0, none⟩) l.length l.length xs ∧ Part 1 OwII [] wr xs l k bs ∧ Nd bs (w.heap.size + 1) wr.heap.size ∧ Below w.heap.size w wr ∧ w.heap.size < wr.heap.size) (fun i _ => l.length - (intOf i).toNat)
  case atStart => exact ⟨0, _, [], Nat.zero_le _, rfl, HO.out, Part.nil_, Nd.nil _ _, (Below.refl _ _).alloc (Nat.le_refl _) _, by simp⟩
  case round =>
    obtain ⟨k, xs, bs, hk, rfl, hO, hP, hN, hB, hsz⟩ := hrel
    clear HO
    by_cases hlt : k < l.length
    · have har := ha.below hB hhi
      have hhr : hi ≤ wr.heap.size := by have := hB.size; omega
      obtain ⟨b, off, R, cr, rfl, h1, h2, g0, fU⟩ := har.at hlt
      have hs3 : List.length (l.getD k []) ≤ 16777216 := by have := szL_at List.length [] hlt; have := HS.out; omega
      clear har ha
      generalize hX : l.getD k [] = m at g0 fU hs3
      have HX := hide hX; clear hX
      go_wp2_with fail
      refine (toIntS_any R m cr lo hi wr hs3 fU hhr).mono ?_
      rintro e w1 ⟨U', cu', rfl, oR, r⟩
      obtain ⟨nb, oV, nN⟩ := RowB.of oR
      have zr := r.size
      have hO := hO.below r (by omega)
      have hP := hP.keep_ OwSS.keeps (fun b hb => r.block b (by have := hN.2 b hb; omega))
      have hB := hB.trans (r.mono hB.size)
      have hsz := Nat.lt_of_lt_of_le hsz r.size
      clear r g0 fU
      have hN' := hN.app nN (Nat.le_refl _) (by omega) (by omega)
      obtain ⟨u0, e0⟩ := hO.some_at (k) (by omega)
      have f0 := hO.frozenAt (k)
      have hO' := (hO.stored (k) (.slice U' m.length cu'))
      have hB' := (hB.setCell (p := ⟨w.heap.size, k, none⟩) (Nat.le_refl _) (.slice U' m.length cu'))
      have hfar : ∀ b, w.heap.size < b → (w1.setCell ⟨w.heap.size, k, none⟩ (.slice U' m.length cu')).heap[b]? = w1.heap[b]? := fun b hb => by
        exact (Below.heap_setCell _ _ _ _ (by show b ≠ w.heap.size; omega)).trans (rfl)
      have hP' := hP.keep_ (w' := (w1.setCell ⟨w.heap.size, k, none⟩ (.slice U' m.length cu'))) OwSS.keeps (fun b hb => hfar b (by have := hN.2 b hb; omega))
      have oV' := oV.keep (w' := (w1.setCell ⟨w.heap.size, k, none⟩ (.slice U' m.length cu'))) (fun b hb => hfar b (by have := nN.2 b hb; omega))
      have HL := hide hO.len
      have HF := hide hfar; clear hfar hO hP hB
      have HP := hide hP'; clear hP'
      go_wp2
      go_roundw
      case rel =>
        refine ⟨k + 1, _, _, by omega, by go_num, hO', HP.out.snoc_ (v := #[.slice U' m.length cu']) (fun p hp => ?_) (fun i hi => ?_) (by rw [HX.out]; exact ⟨_, _, rfl, oV'⟩), by simpa [World.setCell] using hN', hB', by simpa [World.setCell] using hsz⟩
        · exact sets_low [.slice U' m.length cu'] xs k p (by omega)
        · rw [Nat.mul_one]; exact (sets_at [.slice U' m.length cu'] xs k i hi (by have := HL.out; simp; omega)).trans (by simp)
      case measure => simp [intOf]; omega
    · obtain rfl : k = l.length := by omega
      go_wp2
      go_ret
      exact ⟨_, _, rfl, ⟨_, ⟨[w.heap.size], bs, xs, RowB.of_some hO, hP, rfl⟩, (Nd.one (Nat.le_refl _) (by omega : w.heap.size < w.heap.size + 1)).app hN (Nat.le_refl _) (by omega) (by omega)⟩, hB⟩
set_option maxHeartbeats 3200000 in
theorem eqIntSS_same (A B : Option Addr) (l : List (List Int)) (n m c d lo hi lo' hi' : Nat) (w : World) (hs : szL List.length l ≤ 16777216) (ha : RdSS w lo hi A l) (hb : RdSS w lo' hi' B l) (hn : n = l.length) (hm : m = l.length) (hhi : hi ≤ w.heap.size) (hhi' : hi' ≤ w.heap.size) :
    Calls Tryz.prog 161 #[.slice A n c, .slice B m d] w fun e w' => e = .returned (.bool true) ∧ Below w.heap.size w w' := by
  subst hn; subst hm
  have hl : l.length ≤ 16777216 := Nat.le_trans (szL_len _ l) hs
  have HS := hide hs; clear hs
  go_enter Tryz.func161, Tryz.ntmps161
  go_wp2
  go_loopw [5] (fun i wr => ∃ k : Nat, k ≤ l.length ∧ i = .int .i64 k ∧ Below w.heap.size w wr) (fun i _ => l.length - (intOf i).toNat)
  case atStart => exact ⟨0, Nat.zero_le _, rfl, Below.refl _ _⟩
  case round =>
    obtain ⟨k, hk, rfl, hB⟩ := hrel
    by_cases hlt : k < l.length
    · have har := ha.below hB hhi
      have hbr := hb.below hB hhi'
      have hsz := hB.size
      obtain ⟨b, off, R, cr, rfl, h1, h2, g0, fU⟩ := har.at hlt
      obtain ⟨b', off', R', cr', rfl, h1', h2', g0', fU'⟩ := hbr.at hlt
      have hs3 : List.length (l.getD k []) ≤ 16777216 := by have := szL_at List.length [] hlt; have := HS.out; omega
      clear har hbr ha hb
      generalize l.getD k [] = m at g0 g0' fU fU' hs3
      have hL : wr.heap.size ≤ wr.heap.size := Nat.le_refl _
      have hhr : hi ≤ wr.heap.size := by omega
      have hhr' : hi' ≤ wr.heap.size := by omega
      go_wp2_with fail
      go_region_held3 (fun w' => (w'.cell? ⟨b, off + k, none⟩ = some (.slice R m.length cr) ∧ w'.cell? ⟨b', off' + k, none⟩ = some (.slice R' m.length cr')) ∧ Only wr.heap.size wr.heap.size wr w' ∧ wr.heap.size ≤ w'.heap.size)
        (first | exact ⟨⟨g0, g0'⟩, (Only.refl _ _ _).drew, hL⟩ | (go_split_ands; exact (fun hO => ⟨⟨only_cell hO g0, only_cell hO g0'⟩, hO, hO.size⟩) (only_growq (by assumption) r_e)))
        (first | (go_at_call 54; (try go_split_ands); refine (eqIntS_same R R' m _ _ cr cr' lo hi lo' hi' _ hs3 (by exact fU.only (by assumption) (by omega) (by omega)) (by exact fU'.only (by assumption) (by omega) (by omega)) rfl rfl).mono ?_; rintro e w' ⟨rfl, r_e⟩))
      go_split_ands
      have hBB : Below w.heap.size w _ := below_only hB (by assumption) hsz hsz
      go_wp2
      go_roundw
      case rel => exact ⟨k + 1, by omega, by go_num, by first | exact hBB | exact below_only hB (by assumption) hsz hsz⟩
      case measure => simp [intOf]; omega
    · go_wp2
      go_ret
      exact ⟨rfl, hB⟩
set_option maxHeartbeats 3200000 in
theorem szResource_any (rc : Rs) (A0 A1 : Option Addr) (c0 c1 lo hi : Nat) (q : Int) (w : World) (hw : WfRs rc) (hq0 : 0 ≤ q) (hq : q ≤ 16777216) (f0 : RdSt w lo hi A0 rc.steps) (f1 : RdSS w lo hi A1 rc.setup) (hhi : hi ≤ w.heap.size) :
    Calls Tryz.prog 94 #[.agg #[.slice A0 rc.steps.length c0, .slice A1 rc.setup.length c1], .int .i64 q] w fun e w' => ∃ r, e = .returned (.int .i64 r) ∧ (r = -1 ∨ (0 ≤ r ∧ r ≤ q ∧ (szRs rc : Int) + r = q)) ∧ Below w.heap.size w w' := by
  have HZ : Hid ((szRs rc : Int) = ((rc.steps.length : Nat) : Int) + ((szL List.length rc.setup : Nat) : Int)) := by unfold szRs; show _ = _; push_cast; omega
  unfold WfRs at hw
  obtain ⟨W0, W1⟩ := hw
  have W0 := hide W0
  have W1 := hide W1
  go_enter Tryz.func94, Tryz.ntmps94
  go_wp2_with fail
  refine at_world fun V0 hW => ?_
  have z0 : V0.heap.size = w.heap.size + 1 := by rw [hW]; simp
  have k0 : Bk V0 w.heap.size 124 #[.slice A0 rc.steps.length c0, .slice A1 rc.setup.length c1] := by rw [hW]; exact Bk.made w _ _
  have B : Below w.heap.size w V0 := by rw [hW]; exact (Below.refl _ _).alloc (Nat.le_refl _) _
  clear hW
  refine (szStepS_any A0 rc.steps.length c0 q V0 W0.out (by omega) (by omega)).mono ?_
  rintro e _ ⟨r0, rfl, hr, rfl⟩
  rcases hr with rfl | ⟨s0, t0, u0⟩
  · go_wp2
    go_ret
    exact ⟨_, rfl, .inl rfl, B⟩
  have HU0 := hide u0; clear u0
  have n1 := k0.cell 1
  simp only [List.getElem?_toArray, List.getElem?_cons_succ, List.getElem?_cons_zero] at n1
  go_wp2_with fail
  clear n1
  refine (szIntSS_any A1 rc.setup c1 lo hi r0 V0 W1.out (by omega) (by omega) (f1.below B hhi) (by omega)).mono ?_
  rintro e V2 ⟨r1, rfl, hr, rr⟩
  have z2 := rr.size
  have k0 := k0.below rr (by omega)
  have B := B.trans (rr.mono (by omega))
  clear rr
  rcases hr with rfl | ⟨s1, t1, u1⟩
  · go_wp2
    go_ret
    exact ⟨_, rfl, .inl rfl, B⟩
  have HU1 := hide u1; clear u1
  go_wp2
  go_ret
  exact ⟨_, rfl, .inr ⟨s1, by omega, by rw [HZ.out]; have e0 := HU0.out; have e1 := HU1.out; omega⟩, B⟩
theorem ownResource_mk {w : World} {rc : Rs} {lo hi l0 h0 l1 h1 : Nat} {A0 A1 : Option Addr} {c0 c1 : Nat} (hc : lo ≤ l0 ∧ h0 ≤ l1 ∧ l0 ≤ h0 ∧ l1 ≤ h1) (o0 : OwnR w l0 h0 128 2 A0 rc.steps.length c0 (flatSt rc.steps)) (o1 : OwSS w l1 h1 A1 c1 rc.setup) (hlo : lo ≤ hi) (hhi : h1 ≤ hi) :
    OwV OwRc w lo hi #[.slice A0 rc.steps.length c0, .slice A1 rc.setup.length c1] rc := by
  obtain ⟨b0, q0, n0⟩ := RowB.of o0
  obtain ⟨b1, q1, n1⟩ := o1
  exact ⟨b0 ++ b1, ⟨A0, c0, A1, c1, b0, b1, rfl, q0, q1, rfl⟩, (n0.app n1 (by omega) (by omega) (by omega)).mono (by omega) (by omega)⟩
theorem ownResource_parts {w : World} {rc : Rs} {lo hi : Nat}  {A0 A1 : Option Addr} {n0 c0 n1 c1 : Nat} (h : OwV OwRc w lo hi #[.slice A0 n0 c0, .slice A1 n1 c1] rc) : RdSt w lo hi A0 rc.steps ∧ RdSS w lo hi A1 rc.setup := by
  obtain ⟨bs, h1, h2⟩ := h
  obtain ⟨A0', c0', A1', c1', e, f0, f1⟩ := OwRs.ord _ _ _ _ _ _ h2.2 h1
  simp only [Array.mk.injEq, List.cons.injEq, Value.slice.injEq, and_true] at e
  obtain ⟨⟨rfl, _, _⟩, ⟨rfl, _, _⟩⟩ := e
  exact ⟨f0, f1⟩
theorem only_cResource (w : World) (g : Nat) (v0 v1 v2 : Value) : Only g (g + 3) w (((w.setCell ⟨g + 1 + 1, 1, none⟩ v0).setCell ⟨g + 1, 0, none⟩ v1).setCell ⟨g + 1, 1, none⟩ v2) :=
  (((Only.refl _ _ _).setCell ⟨by dsimp only; omega, by dsimp only; omega⟩ _).setCell ⟨by dsimp only; omega, by dsimp only; omega⟩ _).setCell ⟨by dsimp only; omega, by dsimp only; omega⟩ _
set_option maxHeartbeats 3200000 in
theorem toResource_any (rc : Rs) (A0 A1 : Option Addr) (c0 c1 lo hi : Nat) (w : World) (hs : szRs rc ≤ 16777216) (f0 : RdSt w lo hi A0 rc.steps) (f1 : RdSS w lo hi A1 rc.setup) (hhi : hi ≤ w.heap.size) :
    Calls Tryz.prog 101 #[.agg #[.slice A0 rc.steps.length c0, .slice A1 rc.setup.length c1]] w fun e w' => ∃ A0' c0' A1' c1', e = .returned (.agg #[.slice A0' rc.steps.length c0', .slice A1' rc.setup.length c1']) ∧
      OwV OwRc w' w.heap.size w'.heap.size #[.slice A0' rc.steps.length c0', .slice A1' rc.setup.length c1'] rc ∧ Below w.heap.size w w' := by
  unfold szRs at hs
  have HS := hide hs; clear hs
  go_enter Tryz.func101, Tryz.ntmps101
  go_wp2_with fail
  refine at_world fun V0 hW => ?_
  have z0 : V0.heap.size = w.heap.size + 3 := by rw [hW]; simp
  have k0 : Bk V0 w.heap.size 124 #[.slice A0 rc.steps.length c0, .slice A1 rc.setup.length c1] := by
    rw [hW]; exact ((Bk.made w _ _).alloc _).alloc _
  have k1 : Bk V0 (w.heap.size + 1) 71 #[.slice none 0 0, .slice none 0 0] := by
    rw [hW]
    have := (Bk.made (w.alloc (.cells #[.slice A0 rc.steps.length c0, .slice A1 rc.setup.length c1] 124)) 71 #[.slice none 0 0, .slice none 0 0]).alloc (.cells #[.slice none 0 0, .slice none 0 0] 71)
    simpa using this
  have k2 : Bk V0 (w.heap.size + 2) 71 #[.slice none 0 0, .slice none 0 0] := by
    rw [hW]
    have := Bk.made ((w.alloc (.cells #[.slice A0 rc.steps.length c0, .slice A1 rc.setup.length c1] 124)).alloc (.cells #[.slice none 0 0, .slice none 0 0] 71)) 71 #[.slice none 0 0, .slice none 0 0]
    simpa using this
  have B : Below w.heap.size w V0 := by
    rw [hW]; exact (((Below.refl _ _).alloc (Nat.le_refl _) _).alloc (by simp) _).alloc (by simp; omega) _
  clear hW
  refine (toStepS_any A0 rc.steps c0 lo hi V0 (by have := HS.out; omega) (f0.below B hhi) (by omega)).mono ?_
  rintro e U0 ⟨A0', c0', rfl, o0, r⟩
  have y0 := r.size
  have k0 := k0.below r (by omega)
  have k1 := k1.below r (by omega)
  have k2 := k2.below r (by omega)
  have B := B.trans (r.mono (by omega))
  clear r f0
  have n1 := k0.cell 1
  have n2 := k2.cell 0
  have n3 := k2.frozen 0
  simp only [List.getElem?_toArray, List.getElem?_cons_succ, List.getElem?_cons_zero] at n1 n2
  go_wp2_with fail
  refine at_world fun V1 hW => ?_
  clear n1 n2 n3
  have z1 : V1.heap.size = U0.heap.size := by rw [hW]; simp [World.setCell]
  have k0 : Bk V1 w.heap.size 124 #[.slice A0 rc.steps.length c0, .slice A1 rc.setup.length c1] := by rw [hW]; exact k0.far (by show w.heap.size ≠ w.heap.size + 2; omega) _
  have k1 : Bk V1 (w.heap.size + 1) 71 #[.slice none 0 0, .slice none 0 0] := by rw [hW]; exact k1.far (by show w.heap.size + 1 ≠ w.heap.size + 2; omega) _
  have k2 : Bk V1 (w.heap.size + 2) 71 #[.slice A0' rc.steps.length c0', .slice none 0 0] := by rw [hW]; exact k2.set 0 _
  have B : Below w.heap.size w V1 := by rw [hW]; exact B.setCell (by show w.heap.size ≤ w.heap.size + 2; omega) _
  have o0 : OwnR V1 V0.heap.size U0.heap.size 128 2 A0' rc.steps.length c0' (flatSt rc.steps) := by
    rw [hW]; exact o0.keep fun k hk _ => Below.heap_setCell _ _ _ _ (by show k ≠ w.heap.size + 2; omega)
  clear hW
  refine (toIntSS_any A1 rc.setup c1 lo hi V1 (by have := HS.out; omega) (f1.below B hhi) (by omega)).mono ?_
  rintro e U1 ⟨A1', c1', rfl, o1, r⟩
  have y1 := r.size
  have k0 := k0.below r (by omega)
  have k1 := k1.below r (by omega)
  have k2 := k2.below r (by omega)
  have B := B.trans (r.mono (by omega))
  have o0 := o0.below r (by omega)
  clear r f1
  have p0 := k2.cell 0
  have p1 := k2.cell 1
  have d0 := k2.frozen 1
  have e0 := k1.cell 0
  have g0 := k1.frozen 0
  have e1 := k1.cell 1
  have g1 := k1.frozen 1
  simp only [List.getElem?_toArray, List.getElem?_cons_succ, List.getElem?_cons_zero] at p0 e0 p1 e1
  go_wp2
  refine bodyPost_ret (v := .agg #[.slice A0' rc.steps.length c0', .slice A1' rc.setup.length c1']) ?_ rfl ⟨A0', c0', A1', c1', rfl, ?_, ?_⟩
  · simp [results, Tryz.results101, go_sem, *]
  · refine ownResource_mk ?_ (o0.only (only_cResource U1 w.heap.size _ _ _) (by omega) (by omega)) (o1.only (only_cResource U1 w.heap.size _ _ _) (by omega) (by omega)) (by simp [World.setCell]; omega) (by simp [World.setCell])
    omega
  · exact below_only B (only_cResource U1 w.heap.size _ _ _) (Nat.le_refl _) (by omega)
set_option maxHeartbeats 3200000 in
theorem eqResource_same (rc : Rs) (A0 A0' A1 A1' : Option Addr) (c0 c0' c1 c1' lo hi lo' hi' : Nat) (w : World) (hs : szRs rc ≤ 16777216) (f0 : RdSt w lo hi A0 rc.steps) (f1 : RdSS w lo hi A1 rc.setup) (f0' : RdSt w lo' hi' A0' rc.steps) (f1' : RdSS w lo' hi' A1' rc.setup) (hhi : hi ≤ w.heap.size) (hhi' : hi' ≤ w.heap.size) :
    Calls Tryz.prog 115 #[.agg #[.slice A0 rc.steps.length c0, .slice A1 rc.setup.length c1], .agg #[.slice A0' rc.steps.length c0', .slice A1' rc.setup.length c1']] w fun e w' => e = .returned (.bool true) ∧ Below w.heap.size w w' := by
  unfold szRs at hs
  have HS := hide hs; clear hs
  go_enter Tryz.func115, Tryz.ntmps115
  go_wp2_with fail
  refine at_world fun V0 hW => ?_
  have z0 : V0.heap.size = w.heap.size + 2 := by rw [hW]; simp
  have k0 : Bk V0 w.heap.size 71 #[.slice A0 rc.steps.length c0, .slice A1 rc.setup.length c1] := by rw [hW]; exact (Bk.made w _ _).alloc _
  have k1 : Bk V0 (w.heap.size + 1) 71 #[.slice A0' rc.steps.length c0', .slice A1' rc.setup.length c1'] := by
    rw [hW]
    have := Bk.made (w.alloc (.cells #[.slice A0 rc.steps.length c0, .slice A1 rc.setup.length c1] 71)) 71 #[.slice A0' rc.steps.length c0', .slice A1' rc.setup.length c1']
    simpa using this
  have B : Below w.heap.size w V0 := by rw [hW]; exact ((Below.refl _ _).alloc (Nat.le_refl _) _).alloc (by simp) _
  clear hW
  refine (eqStepS_same A0 A0' rc.steps _ _ c0 c0' lo hi lo' hi' V0 (by have := HS.out; omega) (f0.below B hhi) (f0'.below B hhi') rfl rfl (by omega) (by omega)).mono ?_
  rintro e V1 ⟨rfl, rr⟩
  have z1 := rr.size
  have k0 := k0.below rr (by omega)
  have k1 := k1.below rr (by omega)
  have B := B.trans (rr.mono (by omega))
  clear rr
  clear f0 f0'
  have n1 := k0.cell 1
  have n2 := k1.cell 1
  simp only [List.getElem?_toArray, List.getElem?_cons_succ, List.getElem?_cons_zero] at n1 n2
  go_wp2_with fail
  clear n1 n2
  refine (eqIntSS_same A1 A1' rc.setup _ _ c1 c1' lo hi lo' hi' V1 (by have := HS.out; omega) (f1.below B hhi) (f1'.below B hhi') rfl rfl (by omega) (by omega)).mono ?_
  rintro e V2 ⟨rfl, rr⟩
  have z2 := rr.size
  have k0 := k0.below rr (by omega)
  have k1 := k1.below rr (by omega)
  have B := B.trans (rr.mono (by omega))
  clear rr
  clear f1 f1'
  go_wp2
  go_ret
  exact ⟨rfl, B⟩
end Go.Proofs.YtcecgbjolngdbaaGreatDoor
