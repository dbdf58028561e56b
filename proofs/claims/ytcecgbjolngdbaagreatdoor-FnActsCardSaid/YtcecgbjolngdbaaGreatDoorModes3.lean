/- Activities that are equal. -/
import Derived.Test.YtcecgbjolngdbaaGreatDoorKitMd
import Derived.Test.YtcecgbjolngdbaaGreatDoorModes
namespace Go.Proofs.YtcecgbjolngdbaaGreatDoor
open Go.ChangeShapes Go.WideShapes Go.ChangeAt Go.RowKit
set_option linter.unusedVariables false

theorem md_eq (m m' : Md) : decide (m = m') = (decide (m.dur = m'.dur) && decide (m.use = m'.use) && decide (m.con = m'.con)) := by
  obtain ⟨a, b, c⟩ := m
  obtain ⟨a', b', c'⟩ := m'
  by_cases h1 : a = a' <;> by_cases h2 : b = b' <;> by_cases h3 : c = c' <;> simp [h1, h2, h3]
theorem ac_eq (m m' : Ac) : decide (m = m') = (decide (m.name = m'.name) && decide (m.fam = m'.fam) && decide (m.modes = m'.modes)) := by
  obtain ⟨a, b, c⟩ := m
  obtain ⟨a', b', c'⟩ := m'
  by_cases h1 : a = a' <;> by_cases h2 : b = b' <;> by_cases h3 : c = c' <;> simp [h1, h2, h3]
theorem toList_ne {a b : ByteArray} (h : ¬ a = b) : ¬ a.toList = b.toList := fun e => h (str_ext (by rw [ByteArray.toList_eq, ByteArray.toList_eq] at e; exact e))
set_option maxHeartbeats 1600000 in
theorem sameMode_any (m m' : Md) (U C U' C' : Option Addr) (cu cc cu' cc' lo hi lo' hi' : Nat) (w : World) (hs : szMd m ≤ 16777216) (fU : RdI w lo hi U m.use) (fC : RdI w lo hi C m.con) (fU' : RdI w lo' hi' U' m'.use) (fC' : RdI w lo' hi' C' m'.con) (hhi : hi ≤ w.heap.size) (hhi' : hi' ≤ w.heap.size) :
    Calls Tryz.prog 82 #[.agg #[.int .i64 m.dur, .slice U m.use.length cu, .slice C m.con.length cc], .agg #[.int .i64 m'.dur, .slice U' m'.use.length cu', .slice C' m'.con.length cc']] w fun e w' => e = .returned (.bool (decide (m = m'))) ∧ Below w.heap.size w w' := by
  have HM := hide (md_eq m m')
  have hu : m.use.length ≤ 16777216 := by unfold szMd at hs; omega
  have hc : m.con.length ≤ 16777216 := by unfold szMd at hs; omega
  have HB : Hid (∀ o o', Below w.heap.size w ((w.alloc o).alloc o')) := fun o o' => ((Below.refl _ _).alloc (Nat.le_refl _) _).alloc (by simp) _
  have H1 : Hid (∀ o o', RdI ((w.alloc o).alloc o') lo hi U m.use) := fun o o' => fU.below (HB.out o o') hhi
  have H2 : Hid (∀ o o', RdI ((w.alloc o).alloc o') lo hi C m.con) := fun o o' => fC.below (HB.out o o') hhi
  have H3 : Hid (∀ o o', RdI ((w.alloc o).alloc o') lo' hi' U' m'.use) := fun o o' => fU'.below (HB.out o o') hhi'
  have H4 : Hid (∀ o o', RdI ((w.alloc o).alloc o') lo' hi' C' m'.con) := fun o o' => fC'.below (HB.out o o') hhi'
  clear fU fC fU' fC' hs
  obtain ⟨x, u, v⟩ := m
  obtain ⟨x', u', v'⟩ := m'
  simp only at hu hc HM H1 H2 H3 H4 ⊢
  by_cases hd : x = x'
  · have hd1 : (x == x') = true := by simp [hd]
    have HD := hide (decide_eq_true hd); clear hd
    go_enter Tryz.func82, Tryz.ntmps82
    go_wp2_with fail
    refine (slicesEqual_any U U' u u' cu cu' lo hi lo' hi' _ hu (by exact H1.out _ _) (by exact H3.out _ _)).mono ?_
    rintro e w1 ⟨rfl, ⟨d, rfl⟩⟩
    cases h1 : decide (u = u')
    · have HF := hide (show false = decide ((⟨x, u, v⟩ : Md) = ⟨x', u', v'⟩) from by rw [HM.out, h1]; simp)
      clear h1
      go_wp2
      go_ret
      exact ⟨ret_bool HF.out, below_quiet (HB.out _ _) _⟩
    · have HF := hide (show decide (v = v') = decide ((⟨x, u, v⟩ : Md) = ⟨x', u', v'⟩) from by rw [HM.out, h1, HD.out]; simp)
      clear h1
      go_wp2_with fail
      refine (slicesEqual_any C C' v v' cc cc' lo hi lo' hi' _ hc (by exact H2.out _ _) (by exact H4.out _ _)).mono ?_
      rintro e w1 ⟨rfl, ⟨d2, rfl⟩⟩
      generalize decide (v = v') = bv at HF ⊢
      go_wp2
      go_ret
      exact ⟨ret_bool HF.out, (by first | exact below_quiet (HB.out _ _) _ | exact below_quiet (below_quiet (HB.out _ _) _) _)⟩
  · have hd1 : (x == x') = false := by simp [hd]
    have HF := hide (show false = decide ((⟨x, u, v⟩ : Md) = ⟨x', u', v'⟩) from by rw [HM.out, decide_eq_false hd]; simp)
    clear hd
    go_enter Tryz.func82, Tryz.ntmps82
    go_wp2
    go_ret
    exact ⟨ret_bool HF.out, HB.out _ _⟩
set_option maxHeartbeats 1600000 in
theorem eqFuncMode_any (A B : Option Addr) (xs ys : List Md) (c d lo hi lo' hi' : Nat) (w : World) (hs : szL szMd xs ≤ 16777216) (ha : RdMs w lo hi A xs) (hb : RdMs w lo' hi' B ys) (hhi : hi ≤ w.heap.size) (hhi' : hi' ≤ w.heap.size) :
    Calls Tryz.prog 81 #[.slice A xs.length c, .slice B ys.length d, .func (.func 82) #[] #[]] w fun e w' => e = .returned (.bool (decide (xs = ys))) ∧ Below w.heap.size w w' := by
  have hx : xs.length ≤ 16777216 := Nat.le_trans (szL_len _ xs) hs
  have HS := hide hs; clear hs
  have hE := run_enter Tryz.func82 (by kernel_rfl) rfl
  by_cases hl : xs.length = ys.length
  · have hne : ((xs.length : Int) != (ys.length : Int)) = false := by simp [hl]
    have HL := hide hl; clear hl
    go_enter Tryz.func81, Tryz.ntmps81
    go_wp2
    go_loopw [17] (fun i wr => ∃ k : Nat, k ≤ xs.length ∧ i = .int .i64 k ∧ Below w.heap.size w wr ∧ Hid (xs.take k = ys.take k)) (fun i _ => xs.length - (intOf i).toNat)
    case atStart => exact ⟨0, Nat.zero_le _, rfl, Below.refl _ _, hide (by simp)⟩
    case round =>
      obtain ⟨k, hk, rfl, hB, HT⟩ := hrel
      clear hne
      by_cases hlt : k < xs.length
      · have hlt' : k < ys.length := by have := HL.out; omega
        have har := ha.below hB hhi
        have hbr := hb.below hB hhi'
        have hsz := hB.size
        have hhr : hi ≤ wr.heap.size := by omega
        have hhr' : hi' ≤ wr.heap.size := by omega
        have HB2 : Hid (∀ o o', Below wr.heap.size wr ((wr.alloc o).alloc o')) := fun o o' => ((Below.refl _ _).alloc (Nat.le_refl _) _).alloc (by simp) _
        obtain ⟨b, off, U, cu, C, cc, rfl, h1, h2, g0, g1, g2, fU, fC⟩ := har.at hlt
        obtain ⟨b', off', U', cu', C', cc', rfl, h1', h2', g0', g1', g2', fU', fC'⟩ := hbr.at hlt'
        have hs3 : szMd (xs.getD k md0) ≤ 16777216 := by have := szL_at szMd md0 hlt; have := HS.out; omega
        clear har hbr ha hb
        generalize hX : xs.getD k md0 = m at g0 g1 g2 fU fC hs3
        generalize hY : ys.getD k md0 = m' at g0' g1' g2' fU' fC'
        have HX := hide hX; have HY := hide hY; clear hX hY
        have HS3 := hide hs3; clear hs3
        have q0 := fun o => (World.cell?_alloc_lt wr o ⟨b', off' + k * 3, none⟩ (by show b' < _; omega)).trans g0'; have q1 := fun o => (World.cell?_alloc_lt wr o ⟨b', off' + k * 3 + 1, none⟩ (by show b' < _; omega)).trans g1'; have q2 := fun o => (World.cell?_alloc_lt wr o ⟨b', off' + k * 3 + 2, none⟩ (by show b' < _; omega)).trans g2'
        go_wp2_with fail
        refine (sameMode_any m m' U C U' C' cu cc cu' cc' lo hi lo' hi' _ HS3.out (by exact fU.below (HB2.out _ _) hhr) (by exact fC.below (HB2.out _ _) hhr) (by exact fU'.below (HB2.out _ _) hhr') (by exact fC'.below (HB2.out _ _) hhr') (by simp; omega) (by simp; omega)).mono ?_
        rintro e w1 ⟨rfl, hB1⟩
        have hB2 := hB.trans (((HB2.out _ _).trans (hB1.mono (by simp; omega))).mono hsz)
        clear hB1
        by_cases hxy : m = m'
        · have HXY := hide hxy
          rw [decide_eq_true hxy]
          clear hxy
          go_wp2
          go_roundw
          case rel => exact ⟨k + 1, by omega, by go_num, hB2, hide (take_succ_eq HT.out hlt hlt' (HX.out.trans (HXY.out.trans HY.out.symm)))⟩
          case measure => simp [intOf]; omega
        · have hfin : false = decide (xs = ys) := by
            symm
            rw [decide_eq_false_iff_not]
            intro e
            apply hxy
            rw [← HX.out, ← HY.out, e]
          have HF := hide hfin; clear hfin
          rw [decide_eq_false hxy]
          clear hxy
          go_wp2
          go_ret
          exact ⟨ret_bool HF.out, hB2⟩
      · go_wp2
        go_ret
        have hl := HL.out
        have ht := HT.out
        rw [List.take_of_length_le (by omega), List.take_of_length_le (by omega)] at ht
        exact ⟨ret_bool (by simp [ht]), hB⟩
  · have hne : ((xs.length : Int) != (ys.length : Int)) = true := by simp; omega
    have HL := hide hl; clear hl
    go_enter Tryz.func81, Tryz.ntmps81
    go_wp2
    go_ret
    exact ⟨ret_bool (by rw [eq_comm, decide_eq_false]; intro h; exact HL.out (by rw [h])), Below.refl _ _⟩
set_option maxHeartbeats 1600000 in
theorem implActivityEqual_any (a a' : Ac) (M M' : Option Addr) (cm cm' lo hi lo' hi' : Nat) (w : World) (hs : szAc a ≤ 16777216) (fM : RdMs w lo hi M a.modes) (fM' : RdMs w lo' hi' M' a'.modes) (hhi : hi ≤ w.heap.size) (hhi' : hi' ≤ w.heap.size) :
    Calls Tryz.prog 20 #[.agg #[.string a.name, .int .i64 a.fam, .slice M a.modes.length cm], .agg #[.string a'.name, .int .i64 a'.fam, .slice M' a'.modes.length cm']] w fun e w' => e = .returned (.bool (decide (a = a'))) ∧ Below w.heap.size w w' := by
  have HM := hide (ac_eq a a')
  have HB : Hid (∀ o o', Below w.heap.size w ((w.alloc o).alloc o')) := fun o o' => ((Below.refl _ _).alloc (Nat.le_refl _) _).alloc (by simp) _
  unfold szAc at hs
  obtain ⟨x, y, l⟩ := a
  obtain ⟨x', y', l'⟩ := a'
  simp only at hs HM fM fM' ⊢
  have HS := hide (show szL szMd l ≤ 16777216 from by omega); clear hs
  by_cases hd : x = x' ∧ y = y'
  · obtain ⟨rfl, rfl⟩ := hd
    have HF := hide (show decide (l = l') = decide ((⟨x, y, l⟩ : Ac) = ⟨x, y, l'⟩) from by rw [HM.out]; simp)
    clear HM
    go_enter Tryz.func20, Tryz.ntmps20
    go_wp2_with fail
    refine (eqFuncMode_any M M' l l' cm cm' lo hi lo' hi' _ HS.out (by exact fM.below (HB.out _ _) hhi) (by exact fM'.below (HB.out _ _) hhi') (by simp; omega) (by simp; omega)).mono ?_
    rintro e w1 ⟨rfl, hB1⟩
    generalize decide (l = l') = bv at HF ⊢
    have hB2 := (HB.out _ _).trans (hB1.mono (by simp; omega))
    clear hB1
    go_wp2
    go_ret
    exact ⟨ret_bool HF.out, hB2⟩
  · have HF := hide (show false = decide ((⟨x, y, l⟩ : Ac) = ⟨x', y', l'⟩) from by
      rw [HM.out]
      by_cases h1 : x = x'
      · have h2 : ¬ y = y' := fun e => hd ⟨h1, e⟩
        simp [h1, h2]
      · simp [h1])
    clear HM
    by_cases h1 : x = x'
    · subst h1
      have hd2 : (y == y') = false := by simp; exact fun e => hd ⟨rfl, e⟩
      clear hd
      go_enter Tryz.func20, Tryz.ntmps20
      go_wp2
      go_ret
      exact ⟨ret_bool HF.out, HB.out _ _⟩
    · have h2 := toList_ne h1
      clear hd h1
      go_enter Tryz.func20, Tryz.ntmps20
      go_wp2
      go_ret
      exact ⟨ret_bool HF.out, HB.out _ _⟩
end Go.Proofs.YtcecgbjolngdbaaGreatDoor
