/- Modes are parsed. -/
import Derived.Test.YtcecgbjolngdbaaGreatDoorFmt3
import Derived.Test.YtcecgbjolngdbaaGreatDoorKitOw
import Derived.Test.YtcecgbjolngdbaaGreatDoorKitMk
namespace Go.Proofs.YtcecgbjolngdbaaGreatDoor
open Go.ChangeShapes Go.WideShapes Go.ChangeAt Go.RowKit
set_option linter.unusedVariables false
set_option linter.unusedSimpArgs false

theorem only3 (w : World) (g : Nat) (v1 v2 v3 : Value) : Only g (g + 1) w (((w.setCell ⟨g, 0, none⟩ v1).setCell ⟨g, 1, none⟩ v2).setCell ⟨g, 2, none⟩ v3) :=
  (((Only.refl _ _ _).setCell ⟨by dsimp only; omega, by dsimp only; omega⟩ _).setCell ⟨by dsimp only; omega, by dsimp only; omega⟩ _).setCell ⟨by dsimp only; omega, by dsimp only; omega⟩ _
theorem pcs_size (s : ByteArray) (k : Nat) : (pcs s k).size ≤ s.size := by
  unfold pcs
  by_cases h : k < (splitAny s slash).length
  · exact splitAny_size s slash _ (getD_mem ByteArray.empty h)
  · rw [List.getD_eq_getElem?_getD, List.getElem?_eq_none (by omega)]; exact Nat.zero_le _
theorem parMd_sz {s : ByteArray} (hs : s.size ≤ 1048576) : szMd (parMd s) ≤ 4194304 := by
  have h1 := parIs_len (pcs s 1)
  have h2 := parIs_len (pcs s 2)
  have h3 := pcs_size s 1
  have h4 := pcs_size s 2
  unfold parMd szMd
  split
  · show (parIs (pcs s 1)).1.length + (parIs (pcs s 2)).1.length ≤ _
    omega
  · exact Nat.zero_le _
theorem parMd_no {s : ByteArray} (h : parMdB s = false) : parMd s = md0 := by unfold parMd; rw [h]; rfl
theorem OwM.none_ (w : World) (lo hi : Nat) : OwV OwM w lo hi #[.int .i64 0, .slice none 0 0, .slice none 0 0] md0 :=
  ⟨[], ⟨none, 0, none, 0, [], [], rfl, RowB.nil_ _ _ _, RowB.nil_ _ _ _, rfl⟩, Nd.nil _ _⟩
theorem OwM.of_two {w : World} {lo m hi : Nat} {d : Int} {u v : List Int} {U C : Option Addr} {cu cc : Nat} (h1 : OwnR w lo m 3 1 U u.length cu (u.map (.int .i64))) (h2 : OwnR w m hi 3 1 C v.length cc (v.map (.int .i64))) (hm : lo ≤ m) (hh : m ≤ hi) :
    OwV OwM w lo hi #[.int .i64 d, .slice U u.length cu, .slice C v.length cc] ⟨d, u, v⟩ := by
  obtain ⟨b1, r1, n1⟩ := RowB.of h1
  obtain ⟨b2, r2, n2⟩ := RowB.of h2
  exact ⟨b1 ++ b2, ⟨U, cu, C, cc, b1, b2, rfl, r1, r2, rfl⟩, n1.app n2 (Nat.le_refl _) hm hh⟩
set_option maxRecDepth 20000 in
set_option maxHeartbeats 3200000 in
theorem specParseMode_any (s : ByteArray) (w : World) (hs : s.size ≤ 1048576) :
    Calls Tryz.prog 118 #[.string s] w fun e w' => ∃ U cu C cc, e = .returned (.tuple #[.agg #[.int .i64 (parMd s).dur, .slice U (parMd s).use.length cu, .slice C (parMd s).con.length cc], .bool (parMdB s)]) ∧ OwV OwM w' w.heap.size w'.heap.size #[.int .i64 (parMd s).dur, .slice U (parMd s).use.length cu, .slice C (parMd s).con.length cc] (parMd s) ∧ Below w.heap.size w w' := by
  have HCI : Hid (∀ (x : ByteArray) (W : World), x.size ≤ 16777216 → Below w.heap.size w W → Calls Tryz.prog 57 #[.string x] W fun e w' => e = .returned (.tuple #[.int .i64 (valI x), .bool (okI x)]) ∧ Below W.heap.size W w') := hide (fun x W h1 _ => specParseInt_any x W h1)
  have HCS : Hid (∀ (x : ByteArray) (W : World), x.size ≤ 1048577 → Below w.heap.size w W → Calls Tryz.prog 117 #[.string x] W fun e w' => ∃ A c, e = .returned (.tuple #[.slice A (parIs x).1.length c, .bool (parIs x).2]) ∧ OwnR w' W.heap.size w'.heap.size 3 1 A (parIs x).1.length c ((parIs x).1.map (.int .i64)) ∧ Below W.heap.size W w') := hide (fun x W h1 _ => specParseInts_any x W h1)
  have HB : Hid (parMdB s = (decide ((splitAny s slash).length = 3) && (okI (pcs s 0) && ((parIs (pcs s 1)).2 && ((parIs (pcs s 2)).2 && durInB (valI (pcs s 0))))))) := hide rfl
  go_enter Tryz.func118, Tryz.ntmps118
  go_wp2_with fail
  refine at_world fun V0 hW => ?_
  have z0 : V0.heap.size = w.heap.size + 1 := by rw [hW]; simp
  have k0 : Bk V0 w.heap.size 53 #[.int .i64 0, .slice none 0 0, .slice none 0 0] := by rw [hW]; exact Bk.made w _ _
  have B : Below w.heap.size w V0 := by rw [hW]; exact (Below.refl _ _).alloc (Nat.le_refl _) _
  clear hW
  refine (specSplitAny_any s ⟨#[47]⟩ V0 (by omega) (by decide)).mono ?_
  rintro e V1 ⟨A, c, rfl, oL, r⟩
  have z1 := r.size
  have k0 := k0.below r (by omega)
  have B := B.trans (r.mono (by omega)); clear r
  have HL := hide (show splitAny s ⟨#[47]⟩ = splitAny s slash from rfl)
  have hLn := splitAny_len s ⟨#[47]⟩
  have HSZ := hide (splitAny_size s ⟨#[47]⟩)
  have hRd := oL.rdS; clear oL
  generalize splitAny s ⟨#[47]⟩ = L at HL hLn HSZ hRd ⊢
  by_cases hl : L.length = 3
  case neg =>
    have HF := hide (show parMdB s = false from by rw [HB.out, ← HL.out, decide_eq_false hl]; rfl)
    have HF2 := hide (parMd_no HF.out)
    have hl2 : ((L.length : Int) != 3) = true := by simp; omega
    have c0 := k0.cell 0
    have c1 := k0.cell 1
    have c2 := k0.cell 2
    have f0 := k0.frozen 0
    have f1 := k0.frozen 1
    have f2 := k0.frozen 2
    simp only [List.getElem?_toArray, List.getElem?_cons_succ, List.getElem?_cons_zero] at c0 c1 c2
    clear hl hRd
    go_wp2
    refine bodyPost_ret (v := .tuple #[.agg #[.int .i64 0, .slice none 0 0, .slice none 0 0], .bool false]) ?_ rfl ⟨none, 0, none, 0, ?_, ?_, ?_⟩
    · simp [results, Tryz.results118, go_sem, *]
    · rw [HF.out, HF2.out]; rfl
    · rw [HF2.out]; exact OwM.none_ _ _ _
    · exact below_only B (only3 V1 w.heap.size _ _ _) (Nat.le_refl _) (by omega)
  have hl2 : ((L.length : Int) != 3) = false := by simp [hl]
  have P0 := hide (show pcs s 0 = L.getD 0 ByteArray.empty from by unfold pcs; rw [← HL.out])
  have P1 := hide (show pcs s 1 = L.getD 1 ByteArray.empty from by unfold pcs; rw [← HL.out])
  have P2 := hide (show pcs s 2 = L.getD 2 ByteArray.empty from by unfold pcs; rw [← HL.out])
  have HLL := hide (show (splitAny s slash).length = 3 from by rw [← HL.out]; exact hl)
  obtain ⟨b, off, rfl, g1, g2, hc⟩ := hRd (by omega)
  have q0 := hc 0 (by omega)
  have q1 := hc 1 (by omega)
  have q2 := hc 2 (by omega)
  rw [Nat.add_zero] at q0
  have s0 := HSZ.out _ (getD_mem (k := 0) ByteArray.empty (by omega : 0 < L.length))
  have s1 := HSZ.out _ (getD_mem (k := 1) ByteArray.empty (by omega : 1 < L.length))
  have s2 := HSZ.out _ (getD_mem (k := 2) ByteArray.empty (by omega : 2 < L.length))
  rw [← P0.out] at q0 s0
  rw [← P1.out] at q1 s1
  rw [← P2.out] at q2 s2
  clear hc hRd
  obtain ⟨x0, hx0⟩ : ∃ x, x = pcs s 0 := ⟨_, rfl⟩
  obtain ⟨x1, hx1⟩ : ∃ x, x = pcs s 1 := ⟨_, rfl⟩
  obtain ⟨x2, hx2⟩ : ∃ x, x = pcs s 2 := ⟨_, rfl⟩
  rw [← hx0] at q0 s0
  rw [← hx1] at q1 s1
  rw [← hx2] at q2 s2
  have X0 := hide hx0; have X1 := hide hx1; have X2 := hide hx2; clear hx0 hx1 hx2
  have Q1 := hide q1; have Q2 := hide q2; clear q1 q2
  rw [hl]
  go_wp2_with fail
  refine (HCI.out x0 V1 (by omega) B).mono ?_
  rintro e V2 ⟨rfl, r⟩
  have z2 := r.size
  have k0 := k0.below r (by omega)
  have B := B.trans (r.mono (by omega))
  have q1 := (r.cell (p := ⟨b, off + 1, none⟩) (by show b < _; omega)).trans Q1.out
  have Q2 := hide ((r.cell (p := ⟨b, off + 2, none⟩) (by show b < _; omega)).trans Q2.out)
  clear r q0
  go_wp2_with fail
  refine (HCS.out x1 V2 (by omega) B).mono ?_
  rintro e V3 ⟨U, cu, rfl, oU, r⟩
  have z3 := r.size
  have k0 := k0.below r (by omega)
  have B := B.trans (r.mono (by omega))
  have q2 := (r.cell (p := ⟨b, off + 2, none⟩) (by show b < _; omega)).trans Q2.out
  clear r q1
  have OU := hide oU; clear oU
  go_wp2_with fail
  refine (HCS.out x2 V3 (by omega) B).mono ?_
  rintro e V4 ⟨C, cc, rfl, oC, r⟩
  have z4 := r.size
  have k0 := k0.below r (by omega)
  have B := B.trans (r.mono (by omega))
  have OU := hide (OU.out.below r (Nat.le_refl _))
  have OC := hide oC
  clear r q2 oC
  have hb0 := parIs_len x1
  have hb1 := parIs_len x2
  have hv := okI_bd x0
  have HM := hide (show parMdB s = (okI x0 && ((parIs x1).2 && ((parIs x2).2 && durInB (valI x0)))) from by rw [HB.out, HLL.out, X0.out, X1.out, X2.out]; rfl)
  have HV : Hid (parMdB s = true → parMd s = ⟨valI x0, (parIs x1).1, (parIs x2).1⟩) := hide (fun h => by unfold parMd; rw [if_pos h, X0.out, X1.out, X2.out])
  have HSM : Hid (okI x0 = true → (parIs x1).2 = true → (parIs x2).2 = true → decide (fmtMd ⟨valI x0, (parIs x1).1, (parIs x2).1⟩ = s) = durInB (valI x0)) := hide (fun h1 h2 h3 => by
    have := parMd_same (s := s) HLL.out (by rw [← X0.out]; exact h1) (by rw [← X1.out]; exact h2) (by rw [← X2.out]; exact h3)
    rw [← X0.out, ← X1.out, ← X2.out] at this
    exact this)
  have hW5 : ∀ o, Only w.heap.size (w.heap.size + 1) (V4.alloc o) ((((V4.alloc o).setCell ⟨w.heap.size, 0, none⟩ (.int .i64 0)).setCell ⟨w.heap.size, 1, none⟩ (.slice none 0 0)).setCell ⟨w.heap.size, 2, none⟩ (.slice none 0 0)) := fun o => only3 _ _ _ _ _
  have HBA : Hid (∀ o, Below w.heap.size w (V4.alloc o)) := hide (fun o => B.alloc (by omega) o)
  have HW5 := hide hW5; clear hW5
  cases h1 : okI x0
  · have HF := hide (show parMdB s = false from by rw [HM.out, h1]; rfl)
    clear h1
    have HF2 := hide (parMd_no HF.out)
    have c0 : ∀ o, (V4.alloc o).cell? ⟨w.heap.size, 0, none⟩ = some (.int .i64 0) := fun o => (k0.alloc o).cell 0
    have c1 : ∀ o, (V4.alloc o).cell? ⟨w.heap.size, 1, none⟩ = some (.slice none 0 0) := fun o => (k0.alloc o).cell 1
    have c2 : ∀ o, (V4.alloc o).cell? ⟨w.heap.size, 2, none⟩ = some (.slice none 0 0) := fun o => (k0.alloc o).cell 2
    have f0 : ∀ o, (V4.alloc o).frozen? ⟨w.heap.size, 0, none⟩ = false := fun o => (k0.alloc o).frozen 0
    have f1 : ∀ o, (V4.alloc o).frozen? ⟨w.heap.size, 1, none⟩ = false := fun o => (k0.alloc o).frozen 1
    have f2 : ∀ o, (V4.alloc o).frozen? ⟨w.heap.size, 2, none⟩ = false := fun o => (k0.alloc o).frozen 2
    go_wp2
    refine bodyPost_ret (v := .tuple #[.agg #[.int .i64 0, .slice none 0 0, .slice none 0 0], .bool false]) ?_ rfl ⟨none, 0, none, 0, ?_, ?_, ?_⟩
    · simp [results, Tryz.results118, go_sem, *]
    · rw [HF.out, HF2.out]; rfl
    · rw [HF2.out]; exact OwM.none_ _ _ _
    · exact below_only (HBA.out _) (HW5.out _) (Nat.le_refl _) (by simp; omega)
  cases h2 : (parIs x1).2
  · have HF := hide (show parMdB s = false from by rw [HM.out, h1, h2]; rfl)
    clear h1 h2
    have HF2 := hide (parMd_no HF.out)
    have c0 : ∀ o, (V4.alloc o).cell? ⟨w.heap.size, 0, none⟩ = some (.int .i64 0) := fun o => (k0.alloc o).cell 0
    have c1 : ∀ o, (V4.alloc o).cell? ⟨w.heap.size, 1, none⟩ = some (.slice none 0 0) := fun o => (k0.alloc o).cell 1
    have c2 : ∀ o, (V4.alloc o).cell? ⟨w.heap.size, 2, none⟩ = some (.slice none 0 0) := fun o => (k0.alloc o).cell 2
    have f0 : ∀ o, (V4.alloc o).frozen? ⟨w.heap.size, 0, none⟩ = false := fun o => (k0.alloc o).frozen 0
    have f1 : ∀ o, (V4.alloc o).frozen? ⟨w.heap.size, 1, none⟩ = false := fun o => (k0.alloc o).frozen 1
    have f2 : ∀ o, (V4.alloc o).frozen? ⟨w.heap.size, 2, none⟩ = false := fun o => (k0.alloc o).frozen 2
    go_wp2
    refine bodyPost_ret (v := .tuple #[.agg #[.int .i64 0, .slice none 0 0, .slice none 0 0], .bool false]) ?_ rfl ⟨none, 0, none, 0, ?_, ?_, ?_⟩
    · simp [results, Tryz.results118, go_sem, *]
    · rw [HF.out, HF2.out]; rfl
    · rw [HF2.out]; exact OwM.none_ _ _ _
    · exact below_only (HBA.out _) (HW5.out _) (Nat.le_refl _) (by simp; omega)
  cases h3 : (parIs x2).2
  · have HF := hide (show parMdB s = false from by rw [HM.out, h1, h2, h3]; rfl)
    clear h1 h2 h3
    have HF2 := hide (parMd_no HF.out)
    have c0 : ∀ o, (V4.alloc o).cell? ⟨w.heap.size, 0, none⟩ = some (.int .i64 0) := fun o => (k0.alloc o).cell 0
    have c1 : ∀ o, (V4.alloc o).cell? ⟨w.heap.size, 1, none⟩ = some (.slice none 0 0) := fun o => (k0.alloc o).cell 1
    have c2 : ∀ o, (V4.alloc o).cell? ⟨w.heap.size, 2, none⟩ = some (.slice none 0 0) := fun o => (k0.alloc o).cell 2
    have f0 : ∀ o, (V4.alloc o).frozen? ⟨w.heap.size, 0, none⟩ = false := fun o => (k0.alloc o).frozen 0
    have f1 : ∀ o, (V4.alloc o).frozen? ⟨w.heap.size, 1, none⟩ = false := fun o => (k0.alloc o).frozen 1
    have f2 : ∀ o, (V4.alloc o).frozen? ⟨w.heap.size, 2, none⟩ = false := fun o => (k0.alloc o).frozen 2
    go_wp2
    refine bodyPost_ret (v := .tuple #[.agg #[.int .i64 0, .slice none 0 0, .slice none 0 0], .bool false]) ?_ rfl ⟨none, 0, none, 0, ?_, ?_, ?_⟩
    · simp [results, Tryz.results118, go_sem, *]
    · rw [HF.out, HF2.out]; rfl
    · rw [HF2.out]; exact OwM.none_ _ _ _
    · exact below_only (HBA.out _) (HW5.out _) (Nat.le_refl _) (by simp; omega)
  have HSM2 := hide (HSM.out h1 h2 h3)
  have H123 := hide (And.intro h1 (And.intro h2 h3))
  clear h1 h2 h3
  have mb := Bk.made V4 53 #[.int .i64 (valI x0), .slice U (parIs x1).1.length cu, .slice C (parIs x2).1.length cc]
  have m0 := mb.cell 0
  have m1 := mb.cell 1
  have m2 := mb.cell 2
  simp only [List.getElem?_toArray, List.getElem?_cons_succ, List.getElem?_cons_zero] at m0 m1 m2
  have MB := hide mb; clear mb
  go_wp2_with fail
  refine at_world fun V5 hW => ?_
  have z5 : V5.heap.size = V4.heap.size + 1 := by rw [hW]; simp
  have k5 : Bk V5 w.heap.size 53 #[.int .i64 0, .slice none 0 0, .slice none 0 0] := by rw [hW]; exact k0.alloc _
  have m5 : Bk V5 V4.heap.size 53 #[.int .i64 (valI x0), .slice U (parIs x1).1.length cu, .slice C (parIs x2).1.length cc] := by rw [hW]; exact MB.out
  have B5 : Below w.heap.size w V5 := by rw [hW]; exact HBA.out _
  have r5 : Below V4.heap.size V4 V5 := by rw [hW]; exact (Below.refl _ _).alloc (Nat.le_refl _) _
  clear hW m0 m1 m2 MB k0 B
  have OU5 := OU.out.below r5 (by omega)
  have OC5 := OC.out.below r5 (Nat.le_refl _)
  refine (specFormatMode_any ⟨valI x0, (parIs x1).1, (parIs x2).1⟩ U C cu cc 0 V5.heap.size V5 (by show (parIs x1).1.length ≤ _; omega) (by show (parIs x2).1.length ≤ _; omega) (OU5.rdI.mono (Nat.zero_le _) (by omega)) (OC5.rdI.mono (Nat.zero_le _) (by omega)) (Nat.le_refl _)).mono ?_
  rintro e V6 ⟨rfl, r⟩
  have z6 := r.size
  have k0 := k5.below r (by omega)
  have m6 := m5.below r (by omega)
  have B := B5.trans (r.mono (by omega))
  have OU := hide (OU5.below r (by omega))
  have OC := hide (OC5.below r (by omega))
  clear r OU5 OC5 k5 m5 B5 r5
  by_cases hst : fmtMd ⟨valI x0, (parIs x1).1, (parIs x2).1⟩ = s
  · have HF := hide (show parMdB s = true from by rw [HM.out, H123.out.1, H123.out.2.1, H123.out.2.2, ← HSM2.out, decide_eq_true hst]; rfl)
    rw [hst]
    clear hst
    have m0 := m6.cell 0
    have m1 := m6.cell 1
    have m2 := m6.cell 2
    simp only [List.getElem?_toArray, List.getElem?_cons_succ, List.getElem?_cons_zero] at m0 m1 m2
    clear m6
    have HV2 := hide (HV.out HF.out)
    have c0 := k0.cell 0
    have c1 := k0.cell 1
    have c2 := k0.cell 2
    have f0 := k0.frozen 0
    have f1 := k0.frozen 1
    have f2 := k0.frozen 2
    simp only [List.getElem?_toArray, List.getElem?_cons_succ, List.getElem?_cons_zero] at c0 c1 c2
    go_wp2
    refine bodyPost_ret (v := .tuple #[.agg #[.int .i64 (valI x0), .slice U (parIs x1).1.length cu, .slice C (parIs x2).1.length cc], .bool true]) ?_ rfl ⟨U, cu, C, cc, ?_, ?_, ?_⟩
    · simp [results, Tryz.results118, go_sem, *]
    · rw [HF.out, HV2.out]
    · rw [HV2.out]
      refine OwM.of_two (m := V3.heap.size) ((OU.out.only (only3 V6 w.heap.size _ _ _) (by omega) (by omega)).mono (by omega) (Nat.le_refl _)) ((OC.out.only (only3 V6 w.heap.size _ _ _) (by omega) (by omega)).mono (Nat.le_refl _) (by first | (simp [World.setCell]; done) | (simp [World.setCell]; omega))) (by omega) (by first | (simp [World.setCell]; done) | (simp [World.setCell]; omega))
    · exact below_only B (only3 V6 w.heap.size _ _ _) (Nat.le_refl _) (by omega)
  · have HF := hide (show parMdB s = false from by rw [HM.out, H123.out.1, H123.out.2.1, H123.out.2.2, ← HSM2.out, decide_eq_false hst]; rfl)
    have hf1 := str_ne_list hst
    have hf2 := beq_list hst
    clear hst m6
    have HF2 := hide (parMd_no HF.out)
    have c0 := k0.cell 0
    have c1 := k0.cell 1
    have c2 := k0.cell 2
    have f0 := k0.frozen 0
    have f1 := k0.frozen 1
    have f2 := k0.frozen 2
    simp only [List.getElem?_toArray, List.getElem?_cons_succ, List.getElem?_cons_zero] at c0 c1 c2
    go_wp2
    refine bodyPost_ret (v := .tuple #[.agg #[.int .i64 0, .slice none 0 0, .slice none 0 0], .bool false]) ?_ rfl ⟨none, 0, none, 0, ?_, ?_, ?_⟩
    · simp [results, Tryz.results118, go_sem, *]
    · rw [HF.out, HF2.out]; rfl
    · rw [HF2.out]; exact OwM.none_ _ _ _
    · exact below_only B (only3 V6 w.heap.size _ _ _) (Nat.le_refl _) (by omega)
set_option maxRecDepth 20000 in
set_option maxHeartbeats 3200000 in
theorem implParseMode_any (s : ByteArray) (w : World) (hs : s.size ≤ 1048576) (hg : Nat) (ld : LdE w hg) (hhg : hg ≤ w.heap.size) :
    Calls Tryz.prog 21 #[.string s] w fun e w' => ∃ U cu C cc, e = .returned (.tuple #[.agg #[.int .i64 (parMd s).dur, .slice U (parMd s).use.length cu, .slice C (parMd s).con.length cc], .bool (parMdB s)]) ∧ OwV OwM w' w.heap.size w'.heap.size #[.int .i64 (parMd s).dur, .slice U (parMd s).use.length cu, .slice C (parMd s).con.length cc] (parMd s) ∧ Below w.heap.size w w' := by
  have HCI : Hid (∀ (x : ByteArray) (W : World), x.size ≤ 16777216 → Below w.heap.size w W → Calls Tryz.prog 84 #[.string x] W fun e w' => e = .returned (.tuple #[.int .i64 (valI x), .bool (okI x)]) ∧ Below W.heap.size W w') := hide (fun x W h1 hb => implParseInt_any x hg W h1 (ld.below hb hhg) (Nat.le_trans hhg hb.size))
  have HCS : Hid (∀ (x : ByteArray) (W : World), x.size ≤ 1048577 → Below w.heap.size w W → Calls Tryz.prog 85 #[.string x] W fun e w' => ∃ A c, e = .returned (.tuple #[.slice A (parIs x).1.length c, .bool (parIs x).2]) ∧ OwnR w' W.heap.size w'.heap.size 3 1 A (parIs x).1.length c ((parIs x).1.map (.int .i64)) ∧ Below W.heap.size W w') := hide (fun x W h1 hb => implParseInts_any x W h1 hg (ld.below hb hhg) (Nat.le_trans hhg hb.size))
  have HB : Hid (parMdB s = (decide ((splitAny s slash).length = 3) && (okI (pcs s 0) && ((parIs (pcs s 1)).2 && ((parIs (pcs s 2)).2 && durInB (valI (pcs s 0))))))) := hide rfl
  go_enter Tryz.func21, Tryz.ntmps21
  go_wp2_with fail
  refine at_world fun V0 hW => ?_
  have z0 : V0.heap.size = w.heap.size + 1 := by rw [hW]; simp
  have k0 : Bk V0 w.heap.size 53 #[.int .i64 0, .slice none 0 0, .slice none 0 0] := by rw [hW]; exact Bk.made w _ _
  have B : Below w.heap.size w V0 := by rw [hW]; exact (Below.refl _ _).alloc (Nat.le_refl _) _
  clear hW
  refine (implSplitAny_any s ⟨#[47]⟩ V0 (by omega) (by decide)).mono ?_
  rintro e V1 ⟨A, c, rfl, oL, r⟩
  have z1 := r.size
  have k0 := k0.below r (by omega)
  have B := B.trans (r.mono (by omega)); clear r
  have HL := hide (show splitAny s ⟨#[47]⟩ = splitAny s slash from rfl)
  have hLn := splitAny_len s ⟨#[47]⟩
  have HSZ := hide (splitAny_size s ⟨#[47]⟩)
  have hRd := oL.rdS; clear oL
  generalize splitAny s ⟨#[47]⟩ = L at HL hLn HSZ hRd ⊢
  by_cases hl : L.length = 3
  case neg =>
    have HF := hide (show parMdB s = false from by rw [HB.out, ← HL.out, decide_eq_false hl]; rfl)
    have HF2 := hide (parMd_no HF.out)
    have hl2 : ((L.length : Int) != 3) = true := by simp; omega
    have c0 := k0.cell 0
    have c1 := k0.cell 1
    have c2 := k0.cell 2
    have f0 := k0.frozen 0
    have f1 := k0.frozen 1
    have f2 := k0.frozen 2
    simp only [List.getElem?_toArray, List.getElem?_cons_succ, List.getElem?_cons_zero] at c0 c1 c2
    clear hl hRd
    go_wp2
    refine bodyPost_ret (v := .tuple #[.agg #[.int .i64 0, .slice none 0 0, .slice none 0 0], .bool false]) ?_ rfl ⟨none, 0, none, 0, ?_, ?_, ?_⟩
    · simp [results, Tryz.results21, go_sem, *]
    · rw [HF.out, HF2.out]; rfl
    · rw [HF2.out]; exact OwM.none_ _ _ _
    · exact below_only B (only3 V1 w.heap.size _ _ _) (Nat.le_refl _) (by omega)
  have hl2 : ((L.length : Int) != 3) = false := by simp [hl]
  have P0 := hide (show pcs s 0 = L.getD 0 ByteArray.empty from by unfold pcs; rw [← HL.out])
  have P1 := hide (show pcs s 1 = L.getD 1 ByteArray.empty from by unfold pcs; rw [← HL.out])
  have P2 := hide (show pcs s 2 = L.getD 2 ByteArray.empty from by unfold pcs; rw [← HL.out])
  have HLL := hide (show (splitAny s slash).length = 3 from by rw [← HL.out]; exact hl)
  obtain ⟨b, off, rfl, g1, g2, hc⟩ := hRd (by omega)
  have q0 := hc 0 (by omega)
  have q1 := hc 1 (by omega)
  have q2 := hc 2 (by omega)
  rw [Nat.add_zero] at q0
  have s0 := HSZ.out _ (getD_mem (k := 0) ByteArray.empty (by omega : 0 < L.length))
  have s1 := HSZ.out _ (getD_mem (k := 1) ByteArray.empty (by omega : 1 < L.length))
  have s2 := HSZ.out _ (getD_mem (k := 2) ByteArray.empty (by omega : 2 < L.length))
  rw [← P0.out] at q0 s0
  rw [← P1.out] at q1 s1
  rw [← P2.out] at q2 s2
  clear hc hRd
  obtain ⟨x0, hx0⟩ : ∃ x, x = pcs s 0 := ⟨_, rfl⟩
  obtain ⟨x1, hx1⟩ : ∃ x, x = pcs s 1 := ⟨_, rfl⟩
  obtain ⟨x2, hx2⟩ : ∃ x, x = pcs s 2 := ⟨_, rfl⟩
  rw [← hx0] at q0 s0
  rw [← hx1] at q1 s1
  rw [← hx2] at q2 s2
  have X0 := hide hx0; have X1 := hide hx1; have X2 := hide hx2; clear hx0 hx1 hx2
  have Q1 := hide q1; have Q2 := hide q2; clear q1 q2
  rw [hl]
  go_wp2_with fail
  refine (HCI.out x0 V1 (by omega) B).mono ?_
  rintro e V2 ⟨rfl, r⟩
  have z2 := r.size
  have k0 := k0.below r (by omega)
  have B := B.trans (r.mono (by omega))
  have q1 := (r.cell (p := ⟨b, off + 1, none⟩) (by show b < _; omega)).trans Q1.out
  have Q2 := hide ((r.cell (p := ⟨b, off + 2, none⟩) (by show b < _; omega)).trans Q2.out)
  clear r q0
  go_wp2_with fail
  refine (HCS.out x1 V2 (by omega) B).mono ?_
  rintro e V3 ⟨U, cu, rfl, oU, r⟩
  have z3 := r.size
  have k0 := k0.below r (by omega)
  have B := B.trans (r.mono (by omega))
  have q2 := (r.cell (p := ⟨b, off + 2, none⟩) (by show b < _; omega)).trans Q2.out
  clear r q1
  have OU := hide oU; clear oU
  go_wp2_with fail
  refine (HCS.out x2 V3 (by omega) B).mono ?_
  rintro e V4 ⟨C, cc, rfl, oC, r⟩
  have z4 := r.size
  have k0 := k0.below r (by omega)
  have B := B.trans (r.mono (by omega))
  have OU := hide (OU.out.below r (Nat.le_refl _))
  have OC := hide oC
  clear r q2 oC
  have hb0 := parIs_len x1
  have hb1 := parIs_len x2
  have hv := okI_bd x0
  have HM := hide (show parMdB s = (okI x0 && ((parIs x1).2 && ((parIs x2).2 && durInB (valI x0)))) from by rw [HB.out, HLL.out, X0.out, X1.out, X2.out]; rfl)
  have HV : Hid (parMdB s = true → parMd s = ⟨valI x0, (parIs x1).1, (parIs x2).1⟩) := hide (fun h => by unfold parMd; rw [if_pos h, X0.out, X1.out, X2.out])
  cases h1 : okI x0
  · have HF := hide (show parMdB s = false from by rw [HM.out, h1]; rfl)
    clear h1
    have HF2 := hide (parMd_no HF.out)
    have c0 := k0.cell 0
    have c1 := k0.cell 1
    have c2 := k0.cell 2
    have f0 := k0.frozen 0
    have f1 := k0.frozen 1
    have f2 := k0.frozen 2
    simp only [List.getElem?_toArray, List.getElem?_cons_succ, List.getElem?_cons_zero] at c0 c1 c2
    go_wp2
    refine bodyPost_ret (v := .tuple #[.agg #[.int .i64 0, .slice none 0 0, .slice none 0 0], .bool false]) ?_ rfl ⟨none, 0, none, 0, ?_, ?_, ?_⟩
    · simp [results, Tryz.results21, go_sem, *]
    · rw [HF.out, HF2.out]; rfl
    · rw [HF2.out]; exact OwM.none_ _ _ _
    · exact below_only B (only3 V4 w.heap.size _ _ _) (Nat.le_refl _) (by omega)
  cases h2 : (parIs x1).2
  · have HF := hide (show parMdB s = false from by rw [HM.out, h1, h2]; rfl)
    clear h1 h2
    have HF2 := hide (parMd_no HF.out)
    have c0 := k0.cell 0
    have c1 := k0.cell 1
    have c2 := k0.cell 2
    have f0 := k0.frozen 0
    have f1 := k0.frozen 1
    have f2 := k0.frozen 2
    simp only [List.getElem?_toArray, List.getElem?_cons_succ, List.getElem?_cons_zero] at c0 c1 c2
    go_wp2
    refine bodyPost_ret (v := .tuple #[.agg #[.int .i64 0, .slice none 0 0, .slice none 0 0], .bool false]) ?_ rfl ⟨none, 0, none, 0, ?_, ?_, ?_⟩
    · simp [results, Tryz.results21, go_sem, *]
    · rw [HF.out, HF2.out]; rfl
    · rw [HF2.out]; exact OwM.none_ _ _ _
    · exact below_only B (only3 V4 w.heap.size _ _ _) (Nat.le_refl _) (by omega)
  cases h3 : (parIs x2).2
  · have HF := hide (show parMdB s = false from by rw [HM.out, h1, h2, h3]; rfl)
    clear h1 h2 h3
    have HF2 := hide (parMd_no HF.out)
    have c0 := k0.cell 0
    have c1 := k0.cell 1
    have c2 := k0.cell 2
    have f0 := k0.frozen 0
    have f1 := k0.frozen 1
    have f2 := k0.frozen 2
    simp only [List.getElem?_toArray, List.getElem?_cons_succ, List.getElem?_cons_zero] at c0 c1 c2
    go_wp2
    refine bodyPost_ret (v := .tuple #[.agg #[.int .i64 0, .slice none 0 0, .slice none 0 0], .bool false]) ?_ rfl ⟨none, 0, none, 0, ?_, ?_, ?_⟩
    · simp [results, Tryz.results21, go_sem, *]
    · rw [HF.out, HF2.out]; rfl
    · rw [HF2.out]; exact OwM.none_ _ _ _
    · exact below_only B (only3 V4 w.heap.size _ _ _) (Nat.le_refl _) (by omega)
  go_wp2_with fail
  refine (within_any (valI x0) 1 12 _).mono ?_
  rintro e w5 ⟨rfl, rfl⟩
  have HD : Hid (durInB (valI x0) = decide (1 ≤ valI x0 ∧ valI x0 ≤ 12)) := hide rfl
  cases h4 : decide (1 ≤ valI x0 ∧ valI x0 ≤ 12)
  · have HF := hide (show parMdB s = false from by rw [HM.out, h1, h2, h3, HD.out, h4]; rfl)
    clear h1 h2 h3 h4
    have HF2 := hide (parMd_no HF.out)
    have c0 := k0.cell 0
    have c1 := k0.cell 1
    have c2 := k0.cell 2
    have f0 := k0.frozen 0
    have f1 := k0.frozen 1
    have f2 := k0.frozen 2
    simp only [List.getElem?_toArray, List.getElem?_cons_succ, List.getElem?_cons_zero] at c0 c1 c2
    go_wp2
    refine bodyPost_ret (v := .tuple #[.agg #[.int .i64 0, .slice none 0 0, .slice none 0 0], .bool false]) ?_ rfl ⟨none, 0, none, 0, ?_, ?_, ?_⟩
    · simp [results, Tryz.results21, go_sem, *]
    · rw [HF.out, HF2.out]; rfl
    · rw [HF2.out]; exact OwM.none_ _ _ _
    · exact below_only B (only3 V4 w.heap.size _ _ _) (Nat.le_refl _) (by omega)
  have HF := hide (show parMdB s = true from by rw [HM.out, h1, h2, h3, HD.out, h4]; rfl)
  clear h1 h2 h3 h4
  have HV2 := hide (HV.out HF.out)
  have c0 := k0.cell 0
  have c1 := k0.cell 1
  have c2 := k0.cell 2
  have f0 := k0.frozen 0
  have f1 := k0.frozen 1
  have f2 := k0.frozen 2
  simp only [List.getElem?_toArray, List.getElem?_cons_succ, List.getElem?_cons_zero] at c0 c1 c2
  go_wp2
  refine bodyPost_ret (v := .tuple #[.agg #[.int .i64 (valI x0), .slice U (parIs x1).1.length cu, .slice C (parIs x2).1.length cc], .bool true]) ?_ rfl ⟨U, cu, C, cc, ?_, ?_, ?_⟩
  · simp [results, Tryz.results21, go_sem, *]
  · rw [HF.out, HV2.out]
  · rw [HV2.out]
    refine OwM.of_two (m := V3.heap.size) ((OU.out.only (only3 V4 w.heap.size _ _ _) (by omega) (by omega)).mono (by omega) (Nat.le_refl _)) ((OC.out.only (only3 V4 w.heap.size _ _ _) (by omega) (by omega)).mono (Nat.le_refl _) (by first | (simp [World.setCell]; done) | (simp [World.setCell]; omega))) (by omega) (by first | (simp [World.setCell]; done) | (simp [World.setCell]; omega))
  · exact below_only B (only3 V4 w.heap.size _ _ _) (Nat.le_refl _) (by omega)
end Go.Proofs.YtcecgbjolngdbaaGreatDoor
