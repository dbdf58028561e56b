/- Reducing a capacity changes it exactly in the interval: for every input the law FnSteps returns true. No condition. -/
import Derived.Test.YtebfijjcmmlbjaaDoorRows
import Derived.Test.YtebfijjcmmlbjaaDoorOpen
import Derived.Test.YtebfijjcmmlbjaaDoorLaw
import Derived.Test.YtebfijjcmmlbjaaDoorSets
import Derived.Test.YtebfijjcmmlbjaaDoorSteps
import Derived.Test.YtebfijjcmmlbjaaDoorSteps2
import Derived.Test.YtebfijjcmmlbjaaDoorSteps3
import Derived.Test.YtebfijjcmmlbjaaDoorSteps4
import Derived.Test.YtebfijjcmmlbjaaDoorSteps5
import Derived.Test.YtebfijjcmmlbjaaDoorFmt
import Derived.Test.YtebfijjcmmlbjaaDoorFmt2
import Derived.Test.YtebfijjcmmlbjaaDoorFmt4
import Derived.Test.YtebfijjcmmlbjaaDoorCur
import Derived.Test.YtebfijjcmmlbjaaDoorDraw1
import Derived.Test.YtebfijjcmmlbjaaDoorPlainLw
import Derived.Test.YtebfijjcmmlbjaaDoorPlainPj
import Derived.Test.YtebfijjcmmlbjaaDoorLaidW
import Derived.Deep.RegionHeld3
import Derived.SevenTiedAt
namespace Go.Proofs.YtebfijjcmmlbjaaDoor.fnSteps
open Go.ChangeShapes Go.WideShapes Go.ChangeAt Go.RowKit Go.Deep
set_option linter.unusedVariables false

theorem own : ownKnob Tryd.prog.godebug = none := by kernel_rfl
theorem laidOut : laidOutB Tryd.prog = true := by kernel_rfl
theorem fmtSt_size {l : List (Int × Int)} (h : stOkB l = true) : (fmtSt l).size ≤ 256 := by
  have h8 := (stOk_all h).2.2
  have hs := stepW_sum l
  have hj := joinB_len (l := l.map stepW) (y := comma) (a := 128) (b := 1) (by rw [List.length_map]; omega) (by decide)
  have e : fmtSt l = joinB (l.map stepW) comma := by unfold fmtSt; rw [if_pos h]
  rw [e]
  have e2 : (joinB (l.map stepW) comma).size = (Lib.join ((l.map stepW).map (·.data.toList)) comma.data.toList).length := by simp [joinB, ByteArray.size]
  rw [e2]
  omega
theorem capAt_bd (l : List (Int × Int)) (t : Int) : 0 ≤ capAtM l t ∧ capAtM l t ≤ 20 := by
  unfold capAtM
  split
  · rename_i h
    exact capF_bd h.1 t
  · omega
theorem reduce_ok (A : Option Addr) (l : List (Int × Int)) (c : Nat) (x y : Int) (h : stOkB l = true) (h3 : l.length ≤ 3) (hx : 0 ≤ x) (hxy : x < y) (hy : y ≤ 60) (lo hi : Nat) (w : World) (ha : RdSt w lo hi A l) (hhi : hi ≤ w.heap.size) :
    Calls Tryd.prog 19 #[.slice A l.length c, .int .i64 x, .int .i64 y, .int .i64 (minCap l x y)] w fun e w' => ∃ A' c', e = .returned (.tuple #[.slice A' (redOut l x y (minCap l x y)).length c', .bool true]) ∧ OwnR w' w.heap.size w'.heap.size 66 2 A' (redOut l x y (minCap l x y)).length c' (flatSt (redOut l x y (minCap l x y))) ∧ Below w.heap.size w w' := by
  have hh := implReduceCapacity_any A l c lo hi x y (minCap l x y) w (by omega) ha hhi
  rw [(steps_law h h3 hx hxy hy).1] at hh
  exact hh
theorem reduce_no (A : Option Addr) (l : List (Int × Int)) (c : Nat) (x y : Int) (h : stOkB l = true) (h3 : l.length ≤ 3) (hx : 0 ≤ x) (hxy : x < y) (hy : y ≤ 60) (lo hi : Nat) (w : World) (ha : RdSt w lo hi A l) (hhi : hi ≤ w.heap.size) :
    Calls Tryd.prog 19 #[.slice A l.length c, .int .i64 x, .int .i64 y, .int .i64 (minCap l x y + 1)] w fun e w' => ∃ (A' : Option Addr) (c' k : Nat), e = .returned (.tuple #[.slice A' k c', .bool false]) ∧ Below w.heap.size w w' := by
  refine (implReduceCapacity_any A l c lo hi x y (minCap l x y + 1) w (by omega) ha hhi).mono ?_
  rintro e w' ⟨A', c', rfl, _, hB⟩
  exact ⟨A', c', _, by rw [(steps_law h h3 hx hxy hy).2.1], hB⟩
theorem parseSteps_fmt (l : List (Int × Int)) (hg : Nat) (w : World) (h : stOkB l = true) (h3 : l.length ≤ 3) (ld : LdC w hg) (hhg : hg ≤ w.heap.size) :
    Calls Tryd.prog 20 #[.string (fmtSt l)] w fun e w' => ∃ A c, e = .returned (.tuple #[.slice A l.length c, .bool true]) ∧ OwnR w' w.heap.size w'.heap.size 66 2 A l.length c (flatSt l) ∧ Below w.heap.size w w' := by
  have hh := implParseSteps_any (fmtSt l) w (by have := fmtSt_size h; omega) hg ld hhg
  rw [parSt_fmt h] at hh
  exact hh
set_option maxRecDepth 20000 in
set_option maxHeartbeats 6400000 in
theorem walk (A : Option Addr) (n c : Nat) (w : World) (hmax : n ≤ 9223372036854775807) (fC : RdB w 0 w.heap.size A n) (ld : LdC w w.heap.size) :
    Calls Tryd.prog 4 #[.slice A n c] w fun e w' => e = .returned (.bool true) ∧ Below w.heap.size w w' := by
  by_cases hn : n ≤ 1048576
  case neg =>
    go_enter Tryd.func4, Tryd.ntmps4
    go_wp2
    go_ret
    exact ⟨rfl, Below.refl _ _⟩
  have bel := Below.refl w.heap.size w
  go_enter Tryd.func4, Tryd.ntmps4
  go_wp2_with fail
  refine (makeSteps_any A n c 0 w.heap.size _ (by omega) (by exact fC) (by omega)).mono ?_
  rintro e w1 ⟨Al, cl, l, rfl, hok, ll, ol, r⟩
  have r := only_below r
  have z1 := r.size
  have bel := below_only bel r (by first | exact Nat.le_refl _ | omega) (by omega)
  have fC := fC.only r (by omega) (by omega)
  have ld := ld.only r (by omega) (by omega)
  clear r
  have fl := ol.rdSt
  have HOK := hide hok; clear hok
  go_wp2_with fail
  refine (makeNum_any A n c 0 w.heap.size 9 _ (by omega) (by exact fC) (by omega) (by omega) (by omega)).mono ?_
  rintro e w2 ⟨x, rfl, hx0, hx1, r⟩
  have r := only_below r
  have z2 := r.size
  have bel := below_only bel r (by first | exact Nat.le_refl _ | omega) (by omega)
  have fC := fC.only r (by omega) (by omega)
  have ld := ld.only r (by omega) (by omega)
  have ol := ol.only r (by omega) (by omega)
  have fl := fl.only r (by omega) (by omega)
  clear r
  go_wp2_with fail
  refine (makeNum_any A n c 0 w.heap.size 5 _ (by omega) (by exact fC) (by omega) (by omega) (by omega)).mono ?_
  rintro e w3 ⟨z, rfl, hz0, hz1, r⟩
  have r := only_below r
  have z3 := r.size
  have bel := below_only bel r (by first | exact Nat.le_refl _ | omega) (by omega)
  have fC := fC.only r (by omega) (by omega)
  have ld := ld.only r (by omega) (by omega)
  have ol := ol.only r (by omega) (by omega)
  have fl := fl.only r (by omega) (by omega)
  clear r
  go_wp2_with fail
  obtain ⟨y, hy⟩ : ∃ y, y = x + 1 + z := ⟨_, rfl⟩
  rw [← hy]
  have hy1 : x < y := by omega
  have hy2 : y ≤ x + 5 := by omega
  clear hy hz0 hz1
  have HSL := hide (steps_law HOK.out ll hx0 hy1 (by omega : y ≤ 60))
  refine (implMinCapacity_any Al l cl _ _ x y _ (by omega) (by exact fl) (by omega)).mono ?_
  rintro e w4 ⟨rfl, r⟩
  have r := only_below r
  have z4 := r.size
  have bel := below_only bel r (by first | exact Nat.le_refl _ | omega) (by omega)
  have fC := fC.only r (by omega) (by omega)
  have ld := ld.only r (by omega) (by omega)
  have ol := ol.only r (by omega) (by omega)
  have fl := fl.only r (by omega) (by omega)
  clear r
  have HR1 := hide (reduce_ok Al l cl x y HOK.out ll hx0 hy1 (by omega))
  have HR2 := hide (reduce_no Al l cl x y HOK.out ll hx0 hy1 (by omega))
  generalize minCap l x y = N at HSL HR1 HR2 ⊢
  have hN := HSL.out.2.2.2.2.2.2.1
  have HKL := hide (show (redOut l x y N).length ≤ 8 from (stOk_all HSL.out.2.2.1).2.2)
  generalize redOut l x y N = K at HSL HR1 HKL
  have hkl := HKL.out
  go_wp2_with fail
  refine (HR1.out _ _ _ (by exact fl) (by omega)).mono ?_
  rintro e w5 ⟨Ak, ck, rfl, ok, r⟩
  have r := only_below r
  have z5 := r.size
  have bel := below_only bel r (by first | exact Nat.le_refl _ | omega) (by omega)
  have fC := fC.only r (by omega) (by omega)
  have ld := ld.only r (by omega) (by omega)
  have ol := ol.only r (by omega) (by omega)
  have fl := fl.only r (by omega) (by omega)
  clear r
  have fk := ok.rdSt
  go_wp2_with fail
  refine (HR2.out _ _ _ (by exact fl) (by omega)).mono ?_
  rintro e w6 ⟨Am, cm, nm, rfl, r⟩
  have r := only_below r
  have z6 := r.size
  have bel := below_only bel r (by first | exact Nat.le_refl _ | omega) (by omega)
  have fC := fC.only r (by omega) (by omega)
  have ld := ld.only r (by omega) (by omega)
  have ol := ol.only r (by omega) (by omega)
  have fl := fl.only r (by omega) (by omega)
  have ok := ok.only r (by omega) (by omega)
  have fk := fk.only r (by omega) (by omega)
  clear r
  clear HR1 HR2
  go_wp2_with fail
  refine (implFormatSteps_any Al l cl _ _ _ (by omega) (by exact fl) (by omega) w.heap.size (by exact ld.e.t) (by omega)).mono ?_
  rintro e w7 ⟨rfl, r⟩
  have r := only_below r
  have z7 := r.size
  have bel := below_only bel r (by first | exact Nat.le_refl _ | omega) (by omega)
  have fC := fC.only r (by omega) (by omega)
  have ld := ld.only r (by omega) (by omega)
  have ol := ol.only r (by omega) (by omega)
  have fl := fl.only r (by omega) (by omega)
  have ok := ok.only r (by omega) (by omega)
  have fk := fk.only r (by omega) (by omega)
  clear r
  go_wp2_with fail
  refine (parseSteps_fmt l w.heap.size _ HOK.out ll (by exact ld) (by omega)).mono ?_
  rintro e w8 ⟨As, cs, rfl, os, r⟩
  have r := only_below r
  have z8 := r.size
  have bel := below_only bel r (by first | exact Nat.le_refl _ | omega) (by omega)
  have fC := fC.only r (by omega) (by omega)
  have ld := ld.only r (by omega) (by omega)
  have ol := ol.only r (by omega) (by omega)
  have fl := fl.only r (by omega) (by omega)
  have ok := ok.only r (by omega) (by omega)
  have fk := fk.only r (by omega) (by omega)
  clear r
  have fs := os.rdSt
  go_wp2_with fail
  refine (implStepsOk_any Al l cl _ _ _ (by omega) (by exact fl) (by omega)).mono ?_
  rintro e w9 ⟨rfl, r⟩
  have r := only_below r
  have z9 := r.size
  have bel := below_only bel r (by first | exact Nat.le_refl _ | omega) (by omega)
  have fC := fC.only r (by omega) (by omega)
  have ld := ld.only r (by omega) (by omega)
  have ol := ol.only r (by omega) (by omega)
  have fl := fl.only r (by omega) (by omega)
  have ok := ok.only r (by omega) (by omega)
  have fk := fk.only r (by omega) (by omega)
  have os := os.only r (by omega) (by omega)
  have fs := fs.only r (by omega) (by omega)
  clear r
  rw [HOK.out]
  go_wp2_with fail
  refine (implStepsEqual_any As Al l l cs cl _ _ _ _ _ (by omega) (by exact fs) (by exact fl)).mono ?_
  rintro e w10 ⟨rfl, r⟩
  have r := only_qt r
  have z10 := r.size
  have bel := below_only bel r (by first | exact Nat.le_refl _ | omega) (by omega)
  have fC := fC.only r (by omega) (by omega)
  have ld := ld.only r (by omega) (by omega)
  have ol := ol.only r (by omega) (by omega)
  have fl := fl.only r (by omega) (by omega)
  have ok := ok.only r (by omega) (by omega)
  have fk := fk.only r (by omega) (by omega)
  have os := os.only r (by omega) (by omega)
  have fs := fs.only r (by omega) (by omega)
  clear r
  rw [decide_eq_true (rfl : l = l)]
  go_wp2_with fail
  refine (implStepsOk_any Ak K ck _ _ _ (by omega) (by exact fk) (by omega)).mono ?_
  rintro e w11 ⟨rfl, r⟩
  have r := only_below r
  have z11 := r.size
  have bel := below_only bel r (by first | exact Nat.le_refl _ | omega) (by omega)
  have fC := fC.only r (by omega) (by omega)
  have ld := ld.only r (by omega) (by omega)
  have ol := ol.only r (by omega) (by omega)
  have fl := fl.only r (by omega) (by omega)
  have ok := ok.only r (by omega) (by omega)
  have fk := fk.only r (by omega) (by omega)
  have os := os.only r (by omega) (by omega)
  have fs := fs.only r (by omega) (by omega)
  clear r
  rw [HSL.out.2.2.1]
  go_wp2_with fail
  refine (implTotalCapacity_any Ak K ck _ _ x y _ (by omega) (by exact fk) (by omega)).mono ?_
  rintro e w12 ⟨rfl, r⟩
  have r := only_below r
  have z12 := r.size
  have bel := below_only bel r (by first | exact Nat.le_refl _ | omega) (by omega)
  have fC := fC.only r (by omega) (by omega)
  have ld := ld.only r (by omega) (by omega)
  have ol := ol.only r (by omega) (by omega)
  have fl := fl.only r (by omega) (by omega)
  have ok := ok.only r (by omega) (by omega)
  have fk := fk.only r (by omega) (by omega)
  have os := os.only r (by omega) (by omega)
  have fs := fs.only r (by omega) (by omega)
  clear r
  go_wp2_with fail
  refine (implTotalCapacity_any Al l cl _ _ x y _ (by omega) (by exact fl) (by omega)).mono ?_
  rintro e w13 ⟨rfl, r⟩
  have r := only_below r
  have z13 := r.size
  have bel := below_only bel r (by first | exact Nat.le_refl _ | omega) (by omega)
  have fC := fC.only r (by omega) (by omega)
  have ld := ld.only r (by omega) (by omega)
  have ol := ol.only r (by omega) (by omega)
  have fl := fl.only r (by omega) (by omega)
  have ok := ok.only r (by omega) (by omega)
  have fk := fk.only r (by omega) (by omega)
  have os := os.only r (by omega) (by omega)
  have fs := fs.only r (by omega) (by omega)
  clear r
  have HT := hide HSL.out.2.2.2.1
  have hT := HSL.out.2.2.2.2.2.2.2
  have HMZ := hide HSL.out.2.2.2.2.1
  rw [HT.out]
  generalize totCap l x y = T at hT ⊢
  have hP : 0 ≤ N * (y - x) ∧ N * (y - x) ≤ 100 := by have h1 := Int.mul_nonneg hN.1 (by omega : 0 ≤ y - x); have h2 := Int.mul_le_mul hN.2 (by omega : y - x ≤ 5) (by omega) (by omega : (0 : Int) ≤ 20); omega
  have hne : (T - N * (y - x) != T - N * (y - x)) = false := by simp
  have hw1 : IntKind.i64.wrap (y - x) = y - x := IntWalk.i64_in _ (by omega)
  have hw2 : IntKind.i64.wrap (N * (y - x)) = N * (y - x) := IntWalk.i64_in _ (by omega)
  have hw3 : IntKind.i64.wrap (T - N * (y - x)) = T - N * (y - x) := IntWalk.i64_in _ (by omega)
  go_wp2_with fail
  refine (implMinCapacity_any Ak K ck _ _ x y _ (by omega) (by exact fk) (by omega)).mono ?_
  rintro e w14 ⟨rfl, r⟩
  have r := only_below r
  have z14 := r.size
  have bel := below_only bel r (by first | exact Nat.le_refl _ | omega) (by omega)
  have fC := fC.only r (by omega) (by omega)
  have ld := ld.only r (by omega) (by omega)
  have ol := ol.only r (by omega) (by omega)
  have fl := fl.only r (by omega) (by omega)
  have ok := ok.only r (by omega) (by omega)
  have fk := fk.only r (by omega) (by omega)
  have os := os.only r (by omega) (by omega)
  have fs := fs.only r (by omega) (by omega)
  clear r
  rw [HMZ.out]
  clear hne hw1 hw2 hw3 hP hT
  have HCP := hide HSL.out.2.2.2.2.2.1
  have HMG := hide (steps_merge HOK.out)
  go_wp2
  go_loopw [13] (fun v wr => ∃ t : Nat, t ≤ 30 ∧ v = .int .i64 t ∧ Below w14.heap.size w14 wr) (fun v _ => 30 - (intOf v).toNat)
  case atStart => exact ⟨0, by omega, rfl, Below.refl _ _⟩
  case round =>
    obtain ⟨t, ht, rfl, hBr⟩ := hrel
    have zr := hBr.size
    have bel := bel.trans (hBr.mono (by omega))
    by_cases hlt : t < 30
    · have fl := fl.below hBr (by omega)
      have fk := fk.below hBr (by omega)
      have HC0 := hide (HCP.out t (by omega) (by omega))
      have HM0 := hide (HMG.out t)
      have hcb := capAt_bd l t
      have htt : (t : Int) < 30 := by omega
      clear HCP HMG
      go_wp2_with fail
      refine (implCapacityAt_any Al l cl _ _ t wr (by omega) (by exact fl) (by omega)).mono ?_
      rintro e v1 ⟨rfl, r⟩
      have y1 := r.size
      have fl := fl.below r (by omega)
      have fk := fk.below r (by omega)
      have hBr := hBr.trans (r.mono (by omega))
      have bel := bel.trans (r.mono (by omega))
      clear r
      by_cases hin : x ≤ (t : Int) ∧ (t : Int) < y
      · obtain ⟨hi1, hi2⟩ := hin
        have HC1 := hide (show capAtM K t = capAtM l t - N from by rw [HC0.out, if_pos ⟨hi1, hi2⟩])
        go_wp2_with fail
        refine (implCapacityAt_any Ak K ck _ _ t v1 (by omega) (by exact fk) (by omega)).mono ?_
        rintro e v2 ⟨rfl, r⟩
        have y2 := r.size
        have fl := fl.below r (by omega)
        have hBr := hBr.trans (r.mono (by omega))
        have bel := bel.trans (r.mono (by omega))
        clear r fk
        rw [HC1.out]
        have hne : (capAtM l t - N != capAtM l t - N) = false := by simp
        go_wp2_with fail
        refine (implMergeSteps_any Al l cl _ _ v2 (by omega) (by exact fl) (by omega)).mono ?_
        rintro e v3 ⟨Ag, cg, rfl, og, r⟩
        have y3 := r.size
        have fl := fl.below r (by omega)
        have hBr := hBr.trans (r.mono (by omega))
        have bel := bel.trans (r.mono (by omega))
        clear r
        have fg := og.rdSt
        have hgl := mergeM_len l
        go_wp2_with fail
        refine (implCapacityAt_any Ag (mergeM l) cg _ _ t v3 (by omega) (by exact fg) (by omega)).mono ?_
        rintro e v4 ⟨rfl, r⟩
        have y4 := r.size
        have fl := fl.below r (by omega)
        have hBr := hBr.trans (r.mono (by omega))
        have bel := bel.trans (r.mono (by omega))
        clear r fg og hgl
        rw [HM0.out]
        have hne2 : (capAtM l t != capAtM l t) = false := by simp
        go_wp2_with fail
        refine (implCapacityAt_any Al l cl _ _ t v4 (by omega) (by exact fl) (by omega)).mono ?_
        rintro e v5 ⟨rfl, r⟩
        have y5 := r.size
        have hBr := hBr.trans (r.mono (by omega))
        clear r fl
        go_wp2
        go_roundw
        case rel => exact ⟨t + 1, by omega, by go_num, hBr⟩
        case measure => simp [intOf]; omega
      · have HC1 := hide (show capAtM K t = capAtM l t from by rw [HC0.out, if_neg hin])
        by_cases hi1 : x ≤ (t : Int)
        · have hi2 : ¬ (t : Int) < y := fun h => hin ⟨hi1, h⟩
          clear hin
          go_wp2_with fail
          refine (implCapacityAt_any Ak K ck _ _ t v1 (by omega) (by exact fk) (by omega)).mono ?_
          rintro e v2 ⟨rfl, r⟩
          have y2 := r.size
          have fl := fl.below r (by omega)
          have hBr := hBr.trans (r.mono (by omega))
          have bel := bel.trans (r.mono (by omega))
          clear r fk
          rw [HC1.out]
          have hne : (capAtM l t != capAtM l t) = false := by simp
          go_wp2_with fail
          refine (implMergeSteps_any Al l cl _ _ v2 (by omega) (by exact fl) (by omega)).mono ?_
          rintro e v3 ⟨Ag, cg, rfl, og, r⟩
          have y3 := r.size
          have fl := fl.below r (by omega)
          have hBr := hBr.trans (r.mono (by omega))
          have bel := bel.trans (r.mono (by omega))
          clear r
          have fg := og.rdSt
          have hgl := mergeM_len l
          go_wp2_with fail
          refine (implCapacityAt_any Ag (mergeM l) cg _ _ t v3 (by omega) (by exact fg) (by omega)).mono ?_
          rintro e v4 ⟨rfl, r⟩
          have y4 := r.size
          have fl := fl.below r (by omega)
          have hBr := hBr.trans (r.mono (by omega))
          have bel := bel.trans (r.mono (by omega))
          clear r fg og hgl
          rw [HM0.out]
          have hne2 : (capAtM l t != capAtM l t) = false := by simp
          go_wp2_with fail
          refine (implCapacityAt_any Al l cl _ _ t v4 (by omega) (by exact fl) (by omega)).mono ?_
          rintro e v5 ⟨rfl, r⟩
          have y5 := r.size
          have hBr := hBr.trans (r.mono (by omega))
          clear r fl
          go_wp2
          go_roundw
          case rel => exact ⟨t + 1, by omega, by go_num, hBr⟩
          case measure => simp [intOf]; omega
        · clear hin
          go_wp2_with fail
          refine (implCapacityAt_any Ak K ck _ _ t v1 (by omega) (by exact fk) (by omega)).mono ?_
          rintro e v2 ⟨rfl, r⟩
          have y2 := r.size
          have fl := fl.below r (by omega)
          have hBr := hBr.trans (r.mono (by omega))
          have bel := bel.trans (r.mono (by omega))
          clear r fk
          rw [HC1.out]
          have hne : (capAtM l t != capAtM l t) = false := by simp
          go_wp2_with fail
          refine (implMergeSteps_any Al l cl _ _ v2 (by omega) (by exact fl) (by omega)).mono ?_
          rintro e v3 ⟨Ag, cg, rfl, og, r⟩
          have y3 := r.size
          have fl := fl.below r (by omega)
          have hBr := hBr.trans (r.mono (by omega))
          have bel := bel.trans (r.mono (by omega))
          clear r
          have fg := og.rdSt
          have hgl := mergeM_len l
          go_wp2_with fail
          refine (implCapacityAt_any Ag (mergeM l) cg _ _ t v3 (by omega) (by exact fg) (by omega)).mono ?_
          rintro e v4 ⟨rfl, r⟩
          have y4 := r.size
          have fl := fl.below r (by omega)
          have hBr := hBr.trans (r.mono (by omega))
          have bel := bel.trans (r.mono (by omega))
          clear r fg og hgl
          rw [HM0.out]
          have hne2 : (capAtM l t != capAtM l t) = false := by simp
          go_wp2_with fail
          refine (implCapacityAt_any Al l cl _ _ t v4 (by omega) (by exact fl) (by omega)).mono ?_
          rintro e v5 ⟨rfl, r⟩
          have y5 := r.size
          have hBr := hBr.trans (r.mono (by omega))
          clear r fl
          go_wp2
          go_roundw
          case rel => exact ⟨t + 1, by omega, by go_num, hBr⟩
          case measure => simp [intOf]; omega
    · have htt : ¬ (t : Int) < 30 := by omega
      go_wp2
      go_ret
      exact ⟨rfl, bel⟩

theorem one_cellsB {w : World} {a : Addr} {o : Nat} {cs : List Value} (h : w.cells? 0 (a.add o) 1 = some cs) : ∃ u, cs = [u] ∧ w.cell? (a.add o) = some u := by
  obtain ⟨_, hl, hat⟩ := World.cells?_some h
  obtain ⟨u, rfl⟩ := List.length_eq_one_iff.1 hl
  refine ⟨u, rfl, ?_⟩
  have := hat 0 (by omega)
  rw [add_add, Nat.add_zero] at this
  exact this
theorem open_bytesB {H : Type} {enc : TypeId × Value → H} {P : Program} {w : World} {spare : Nat → Bool} {held : Bool} {t e : TypeId} {base : Nat} {v : Value} {d : DataW H} {p : List MemPlace} (ht : P.underlying t = some (.slice e)) (he : P.underlying e = some (.int .u8)) (hC : P.cellsOf e = 1)
    (hv : Value.okWide P w .any base t v) (h : DataW.Trod enc P w 0 spare held t v d p) : ∃ A n c, v = .slice A n c ∧ RdB w 0 w.heap.size A n ∧ n ≤ 9223372036854775807 := by
  obtain ⟨a0, len0, cap0, rfl⟩ := okWide_slice ht hv
  obtain ⟨n, hf⟩ := h
  rcases open_slice ht hf with ⟨hcs, _⟩ | ⟨a, len, cap, m, k, D, Pl, hcs, _, hl, hm, hmm, _, hi⟩
  · simp [Value.cells] at hcs
    obtain ⟨rfl, rfl, rfl⟩ := hcs
    exact ⟨_, _, _, rfl, fun h0 => absurd h0 (by omega), by omega⟩
  · simp [Value.cells] at hcs
    obtain ⟨rfl, rfl, rfl⟩ := hcs
    have hlm : len0 ≤ m := by rw [hmm]; split <;> omega
    have E : ∀ i, i < len0 → ∃ x : Int, 0 ≤ x ∧ x ≤ 255 ∧ w.cell? (a.add i) = some (.int .u8 x) := by
      intro i hil
      obtain ⟨cs', hcs', hts'⟩ := hi i (by omega)
      rw [hC, Nat.mul_one] at hcs'
      obtain ⟨u, rfl, hu⟩ := one_cellsB hcs'
      obtain ⟨x, e1, _, hw⟩ := DataW.trod_int he hts'
      simp at e1
      subst e1
      have hb : 0 ≤ x ∧ x ≤ 255 := by
        have e0 : IntKind.u8.min = 0 := by decide
        have e1 : IntKind.u8.max = 255 := by decide
        simp only [Lit.wf, Bool.and_eq_true, decide_eq_true_eq, e0, e1] at hw
        omega
      exact ⟨x, hb.1, hb.2, hu⟩
    refine ⟨_, _, _, rfl, fun h0 => ?_, by unfold maxLen at hm; omega⟩
    obtain ⟨x0, _, _, hx0⟩ := E 0 h0
    have hb' : a.block < w.heap.size := by
      have := World.block_lt_of_cell? _ _ hx0
      unfold Addr.add at this
      split at this <;> exact this
    obtain ⟨xb, xo, xs⟩ := a
    have hs : xs = none := by
      have := World.cell?_spot hx0
      simpa [Addr.add] using this
    subst hs
    refine ⟨xb, xo, rfl, Nat.zero_le _, hb', fun j hj => ?_⟩
    obtain ⟨x, h1, h2, h3⟩ := E j hj
    rw [add_none] at h3
    exact ⟨x, h1, h2, h3⟩

theorem reads (os : Os) {H : Type} (enc : TypeId × Value → H) : ∃ x, DataW.whole enc Tryd.prog ((laidWorldE os).forCall (fun _ _ => 0) ⟨#[], #[.slice none 0 0], []⟩).memory Tryd.f4.params.toList Rows.fnStepsSpec.vars false #[(.slice none 0 0 : Value)].toList 8 = some x := by
  have h : (DataW.whole enc Tryd.prog ((laidWorldE os).forCall (fun _ _ => 0) ⟨#[], #[.slice none 0 0], []⟩).memory Tryd.f4.params.toList Rows.fnStepsSpec.vars false #[(.slice none 0 0 : Value)].toList 8).isSome = true := by kernel_rfl
  exact Option.isSome_iff_exists.1 h
set_option maxRecDepth 100000 in
theorem lifted (os : Os) (started : os.Started) (H : Type) (enc : TypeId × Value → H) (F : Stop.Interp) :
    ReturnsInHanded {} Tryd.checked os 4 .any ((OpenSpec.ofChange Rows.fnStepsSpec).preRow enc Tryd.prog Tryd.f4 Rows.fnStepsRow.domain false Rows.fnStepsRow.laid) (((OpenSpec.ofChange Rows.fnStepsSpec).at F).post enc Tryd.prog Tryd.f4 false true false false) := by
  obtain ⟨x, hx⟩ := reads os enc
  refine returnsInHanded_of_row (C := Tryd.checked) (s := OpenSpec.ofChange Rows.fnStepsSpec) ownP started (by kernel_rfl) Tryd.func4
    (witness_row_at (enc := enc) (C := Tryd.checked) false (laidWorldE os) #[.slice none 0 0] rfl (by kernel_rfl) (by kernel_rfl) (by kernel_rfl)
      (OpenSpec.preRow_of_cond 8 hx rfl (fun k hk => by cases hk) (by kernel_rfl) (laid_metE os _))) ?_
  intro W base args ds gs before hval0 hW _ _ _ hL hSh _
  have hval : ∀ (j : Nat) t v, Tryd.f4.params[j]? = some t → args[j]? = some v → Value.okWide Tryd.prog W .any base t v := hval0
  have hW' := hW
  obtain ⟨p, q, hA0, hV, rfl, hfz, hnd⟩ := hW
  have hA : DataW.TrodAll enc Tryd.prog W 0 (fun _ => true) true Tryd.f4.params.toList args.toList ds p := hA0
  rw [Tryd.params4] at hA hval
  obtain ⟨v0, vs0, d0, ds0, p0, q0, hargs, rfl, rfl, h0, r0⟩ := trodAll_cons hA
  obtain ⟨rfl, rfl, rfl⟩ := trodAll_nil r0
  obtain rfl : args = #[v0] := by cases args; simp_all
  obtain ⟨rfl, rfl⟩ := trodVars_none hV
  have k0 := h0
  have lt0 : ∀ x ∈ p0, x.block < W.heap.size := by obtain ⟨m, hm⟩ := k0; exact DataW.trod_lt m _ _ _ hm
  obtain ⟨A0, x0, c0, rfl, m0, i0⟩ := open_bytesB Tryd.underlying22 Tryd.underlying5 (by kernel_rfl) (hval 0 22 v0 rfl rfl) h0
  clear hA0 hval0
  refine (walk A0 x0 c0 W i0 m0 (ldC_of hL hSh)).mono fun e W' ⟨he, bel⟩ => ?_
  subst he
  exact ⟨_, rfl, _, _, _, [], _, [], hW', trodAll_mk1 (shut_bool Tryd.underlying4 _), (trodAll_cons_mk (Below.trod laidOut (by kernel_rfl) (of_decide_eq_true (by kernel_rfl)) k0 bel lt0) trodAll_mk0), rfl, bel.frame _, fun h => by cases h⟩
theorem over : Rows.FnStepsSaid :=
  OpenClaim.holds_of_cond 4 Tryd.f4 rfl rfl rfl rfl rfl rfl rfl ⟨rfl, rfl, rfl, rfl, rfl⟩ rfl rfl rfl rfl rfl (by kernel_rfl) Tryd.func4 (by kernel_rfl)
    (of_decide_eq_true (by kernel_rfl)) (by unfold Func.isWrapper; first | (rw [if_pos (by decide +kernel)]; kernel_rfl) | (rw [if_neg (by decide +kernel)]; exact ⟨rfl, rfl⟩))
    (fun os started H enc _ F => by rw [OpenClaim.pre_eq_preRow]; exact lifted os started H enc F)
theorem plain (f : FuncId) (fn : Func) (hf : Tryd.pinned.checked.prog.funcNamed Rows.fnStepsRow.func = some f) (hfn : Tryd.pinned.checked.prog.funcs[f]? = some fn) :
    true = Tryd.pinned.checked.prog.looks [] ∧ ∀ (j : Nat) t, fn.params[j]? = some t → Tryd.pinned.checked.prog.wantsStandIn t = false := by
  obtain rfl : f = 4 := Option.some.inj ((show Tryd.prog.funcNamed Rows.fnStepsRow.func = some 4 by kernel_rfl).symm.trans hf) |>.symm
  obtain rfl : fn = Tryd.f4 := (Option.some.inj (Tryd.func4.symm.trans hfn)).symm
  refine ⟨by kernel_rfl, fun j t ht => ?_⟩
  rw [Tryd.params4] at ht
  have ht2 := Array.mem_of_getElem? ht
  simp only [List.mem_toArray, List.mem_cons, List.not_mem_nil, or_false] at ht2
  rcases ht2 with rfl
  · exact (show Tryd.prog.wantsStandIn 22 = false by kernel_rfl)
theorem proved : Rows.FnStepsCardSaid :=
  Claim7.holds_tied_plain_at .later [] _ _ _ _ over (fun _ h => by cases h) (by kernel_rfl) (fun _ h => by cases h) fnSteps_row_tie rfl ⟨rfl, rfl⟩ (by kernel_rfl) rfl plain (by kernel_rfl)
end Go.Proofs.YtebfijjcmmlbjaaDoor.fnSteps
