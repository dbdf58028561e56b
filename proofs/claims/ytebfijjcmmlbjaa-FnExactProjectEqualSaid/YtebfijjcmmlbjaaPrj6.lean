/- Projects that are equal. -/
import Derived.Test.YtebfijjcmmlbjaaKitMd
import Derived.Test.YtebfijjcmmlbjaaPrj2
import Derived.Test.YtebfijjcmmlbjaaModes3
import Derived.Test.YtebfijjcmmlbjaaSteps2
namespace Go.Proofs.Ytebfijjcmmlbjaa
open Go.ChangeShapes Go.WideShapes Go.ChangeAt Go.RowKit
set_option linter.unusedVariables false
set_option linter.unusedSimpArgs false

instance : Inhabited Lk := ⟨lk0⟩
instance : Inhabited Ac := ⟨ac0⟩
instance : Inhabited Rs := ⟨rs0⟩
theorem rs_eq (m m' : Rs) : decide (m = m') = (decide (m.steps = m'.steps) && decide (m.setup = m'.setup)) := by
  obtain ⟨a, b⟩ := m
  obtain ⟨a', b'⟩ := m'
  by_cases h1 : a = a' <;> by_cases h2 : b = b' <;> simp [h1, h2]
theorem pj_eq (m m' : Pj) : decide (m = m') = (decide (m.dead = m'.dead) && (decide (m.acts = m'.acts) && (decide (m.links = m'.links) && (decide (m.res = m'.res) && decide (m.stocks = m'.stocks))))) := by
  obtain ⟨a, b, c, d, e⟩ := m
  obtain ⟨a', b', c', d', e'⟩ := m'
  by_cases h1 : a = a' <;> by_cases h2 : b = b' <;> by_cases h3 : c = c' <;> by_cases h4 : d = d' <;> by_cases h5 : e = e' <;> simp [h1, h2, h3, h4, h5]
set_option maxHeartbeats 1600000 in
theorem slicesEqualL_any (A B : Option Addr) (xs ys : List Lk) (c d lo hi lo' hi' : Nat) (w : World) (hx : xs.length ≤ 16777216) (ha : RdLs w lo hi A xs) (hb : RdLs w lo' hi' B ys) :
    Calls Try.prog 29 #[.slice A xs.length c, .slice B ys.length d] w fun e w' => e = .returned (.bool (decide (xs = ys))) ∧ Qt w w' := by
  by_cases hl : xs.length = ys.length
  · have hne : ((xs.length : Int) != (ys.length : Int)) = false := by simp [hl]
    have HL := hide hl; clear hl
    go_enter Try.func29, Try.ntmps29
    go_wp2
    go_loopw [13] (fun i wr => ∃ k : Nat, k ≤ xs.length ∧ i = .int .i64 k ∧ Qt w wr ∧ Hid (xs.take k = ys.take k)) (fun i _ => xs.length - (intOf i).toNat)
    case atStart => exact ⟨0, Nat.zero_le _, rfl, Qt.refl _, hide (by simp)⟩
    case round =>
      obtain ⟨k, hk, rfl, ⟨n, rfl⟩, HT⟩ := hrel
      clear hne
      by_cases hlt : k < xs.length
      · have hlt' : k < ys.length := by have := HL.out; omega
        obtain ⟨b, off, rfl, h1, h2, g0, g1, g2, g3⟩ := ha.at hlt
        obtain ⟨b', off', rfl, h1', h2', g0', g1', g2', g3'⟩ := hb.at hlt'
        clear ha hb
        generalize hX : xs.getD k lk0 = X at g0 g1 g2 g3
        generalize hY : ys.getD k lk0 = Y at g0' g1' g2' g3'
        have HX := hide hX; have HY := hide hY; clear hX hY
        obtain ⟨x1, x2, x3, x4⟩ := X
        obtain ⟨y1, y2, y3, y4⟩ := Y
        simp only at g0 g1 g2 g3 g0' g1' g2' g3'
        have HNO := hide (show (⟨x1, x2, x3, x4⟩ : Lk) ≠ ⟨y1, y2, y3, y4⟩ → false = decide (xs = ys) from fun hne => by
          symm
          rw [decide_eq_false_iff_not]
          intro e
          apply hne
          rw [← HX.out, ← HY.out, e])
        by_cases e1 : x1 = y1
        case neg =>
          have HF := hide (HNO.out (fun e => e1 (by injection e)))
          have d1 : (x1 == y1) = false := by simp [e1]
          clear e1
          go_wp2_with fail
          go_quiet (fail)
          go_wp2
          go_ret
          exact ⟨ret_bool HF.out, (by repeat (first | exact Qt.refl _ | apply Qt.drewN | apply Qt.drew))⟩
        by_cases e2 : x2 = y2
        case neg =>
          have HF := hide (HNO.out (fun e => e2 (by injection e)))
          have d1 : (x1 == y1) = true := by simp [e1]
          have d2 : (x2 == y2) = false := by simp [e2]
          clear e1 e2
          go_wp2_with fail
          go_quiet (fail)
          go_wp2
          go_ret
          exact ⟨ret_bool HF.out, (by repeat (first | exact Qt.refl _ | apply Qt.drewN | apply Qt.drew))⟩
        by_cases e3 : x3 = y3
        case neg =>
          have HF := hide (HNO.out (fun e => e3 (by injection e)))
          have d1 : (x1 == y1) = true := by simp [e1]
          have d2 : (x2 == y2) = true := by simp [e2]
          have d3 : (x3 == y3) = false := by simp [e3]
          clear e1 e2 e3
          go_wp2_with fail
          go_quiet (fail)
          go_wp2
          go_ret
          exact ⟨ret_bool HF.out, (by repeat (first | exact Qt.refl _ | apply Qt.drewN | apply Qt.drew))⟩
        by_cases e4 : x4 = y4
        case neg =>
          have HF := hide (HNO.out (fun e => e4 (by injection e)))
          have d1 : (x1 == y1) = true := by simp [e1]
          have d2 : (x2 == y2) = true := by simp [e2]
          have d3 : (x3 == y3) = true := by simp [e3]
          have d4 : (x4 == y4) = false := by simp [e4]
          clear e1 e2 e3 e4
          go_wp2_with fail
          go_quiet (fail)
          go_wp2
          go_ret
          exact ⟨ret_bool HF.out, (by repeat (first | exact Qt.refl _ | apply Qt.drewN | apply Qt.drew))⟩
        have d1 : (x1 == y1) = true := by simp [e1]
        have d2 : (x2 == y2) = true := by simp [e2]
        have d3 : (x3 == y3) = true := by simp [e3]
        have d4 : (x4 == y4) = true := by simp [e4]
        have HYS := hide (show xs.take (k + 1) = ys.take (k + 1) from take_succ_eq HT.out hlt hlt' (by rw [HX.out, HY.out, e1, e2, e3, e4]))
        clear e1 e2 e3 e4
        go_wp2_with fail
        go_quiet (fail)
        go_wp2
        go_roundw
        case rel => exact ⟨k + 1, by omega, by go_num, (by repeat (first | exact Qt.refl _ | apply Qt.drewN | apply Qt.drew)), HYS⟩
        case measure => simp [intOf]; omega
      · go_wp2
        go_ret
        have hl := HL.out
        have ht := HT.out
        rw [List.take_of_length_le (by omega), List.take_of_length_le (by omega)] at ht
        exact ⟨ret_bool (by simp [ht]), ⟨_, rfl⟩⟩
  · have hne : ((xs.length : Int) != (ys.length : Int)) = true := by simp; omega
    have HL := hide hl; clear hl
    go_enter Try.func29, Try.ntmps29
    go_wp2
    go_ret
    exact ⟨ret_bool (by rw [eq_comm, decide_eq_false]; intro h; exact HL.out (by rw [h])), Qt.refl _⟩
set_option maxHeartbeats 1600000 in
theorem eqFuncAc_any (A B : Option Addr) (xs ys : List Ac) (c d lo hi lo' hi' : Nat) (w : World) (hs : szL szAc xs ≤ 16777216) (ha : RdAs w lo hi A xs) (hb : RdAs w lo' hi' B ys) (hhi : hi ≤ w.heap.size) (hhi' : hi' ≤ w.heap.size) :
    Calls Try.prog 27 #[.slice A xs.length c, .slice B ys.length d, .func (.func 28) #[] #[]] w fun e w' => e = .returned (.bool (decide (xs = ys))) ∧ Below w.heap.size w w' := by
  have hx : xs.length ≤ 16777216 := Nat.le_trans (szL_len _ xs) hs
  have HS := hide hs; clear hs
  have hE := run_enter Try.func28 (by kernel_rfl) rfl
  by_cases hl : xs.length = ys.length
  · have hne : ((xs.length : Int) != (ys.length : Int)) = false := by simp [hl]
    have HL := hide hl; clear hl
    go_enter Try.func27, Try.ntmps27
    go_wp2
    go_loopw [17] (fun i wr => ∃ k : Nat, k ≤ xs.length ∧ i = .int .i64 k ∧ Below w.heap.size w wr ∧ Hid (xs.take k = ys.take k)) (fun i _ => xs.length - (intOf i).toNat)
    case atStart => exact ⟨0, Nat.zero_le _, rfl, Below.refl _ _, hide (by simp)⟩
    case round =>
      obtain ⟨k, hk, rfl, hB, HT⟩ := hrel
      clear hne
      by_cases hlt : k < xs.length
      · have hlt' : k < ys.length := by have := HL.out; omega
        have har := ha.below hB hhi
        have hbr := hb.below hB hhi'
        have hsz := hB.size
        have hhr : hi ≤ wr.heap.size := by omega
        have hhr' : hi' ≤ wr.heap.size := by omega
        have HB2 : Hid (∀ o o', Below wr.heap.size wr ((wr.alloc o).alloc o')) := fun o o' => ((Below.refl _ _).alloc (Nat.le_refl _) _).alloc (by simp) _
        obtain ⟨b, off, M, cm, rfl, h1, h2, g0, g1, g2, fM⟩ := har.at hlt
        obtain ⟨b', off', M', cm', rfl, h1', h2', g0', g1', g2', fM'⟩ := hbr.at hlt'
        have hs3 : szAc (xs.getD k ac0) ≤ 16777216 := by have := szL_at szAc ac0 hlt; have := HS.out; omega
        clear har hbr ha hb
        generalize hX : xs.getD k ac0 = m at g0 g1 g2 fM hs3
        generalize hY : ys.getD k ac0 = m' at g0' g1' g2' fM'
        have HX := hide hX; have HY := hide hY; clear hX hY
        have HS3 := hide hs3; clear hs3
        have q0 := fun o => (World.cell?_alloc_lt wr o ⟨b', off' + k * 3, none⟩ (by show b' < _; omega)).trans g0'; have q1 := fun o => (World.cell?_alloc_lt wr o ⟨b', off' + k * 3 + 1, none⟩ (by show b' < _; omega)).trans g1'; have q2 := fun o => (World.cell?_alloc_lt wr o ⟨b', off' + k * 3 + 2, none⟩ (by show b' < _; omega)).trans g2'
        go_wp2_with fail
        refine (implActivityEqual_any m m' M M' cm cm' lo hi lo' hi' _ HS3.out (by exact fM.below (HB2.out _ _) hhr) (by exact fM'.below (HB2.out _ _) hhr') (by simp; omega) (by simp; omega)).mono ?_
        rintro e w1 ⟨rfl, hB1⟩
        have hB2 := hB.trans (((HB2.out _ _).trans (hB1.mono (by simp; omega))).mono hsz)
        clear hB1
        by_cases hxy : m = m'
        · have HXY := hide hxy
          rw [decide_eq_true hxy]
          clear hxy
          go_wp2
          go_roundw
          case rel => exact ⟨k + 1, by omega, by go_num, hB2, hide (take_succ_eq HT.out hlt hlt' (HX.out.trans (HXY.out.trans HY.out.symm)))⟩
          case measure => simp [intOf]; omega
        · have hfin : false = decide (xs = ys) := by
            symm
            rw [decide_eq_false_iff_not]
            intro e
            apply hxy
            rw [← HX.out, ← HY.out, e]
          have HF := hide hfin; clear hfin
          rw [decide_eq_false hxy]
          clear hxy
          go_wp2
          go_ret
          exact ⟨ret_bool HF.out, hB2⟩
      · go_wp2
        go_ret
        have hl := HL.out
        have ht := HT.out
        rw [List.take_of_length_le (by omega), List.take_of_length_le (by omega)] at ht
        exact ⟨ret_bool (by simp [ht]), hB⟩
  · have hne : ((xs.length : Int) != (ys.length : Int)) = true := by simp; omega
    have HL := hide hl; clear hl
    go_enter Try.func27, Try.ntmps27
    go_wp2
    go_ret
    exact ⟨ret_bool (by rw [eq_comm, decide_eq_false]; intro h; exact HL.out (by rw [h])), Below.refl _ _⟩
set_option maxHeartbeats 1600000 in
theorem eqFuncII_any (A B : Option Addr) (xs ys : List (List Int)) (c d lo hi lo' hi' : Nat) (w : World) (hs : szL List.length xs ≤ 16777216) (ha : RdSS w lo hi A xs) (hb : RdSS w lo' hi' B ys) :
    Calls Try.prog 54 #[.slice A xs.length c, .slice B ys.length d, .func (.func 32) #[] #[]] w fun e w' => e = .returned (.bool (decide (xs = ys))) ∧ Qt w w' := by
  have hx : xs.length ≤ 16777216 := Nat.le_trans (szL_len _ xs) hs
  have HS := hide hs; clear hs
  have hE := run_enter Try.func32 (by kernel_rfl) rfl
  by_cases hl : xs.length = ys.length
  · have hne : ((xs.length : Int) != (ys.length : Int)) = false := by simp [hl]
    have HL := hide hl; clear hl
    go_enter Try.func54, Try.ntmps54
    go_wp2
    go_loopw [17] (fun i wr => ∃ k : Nat, k ≤ xs.length ∧ i = .int .i64 k ∧ Qt w wr ∧ Hid (xs.take k = ys.take k)) (fun i _ => xs.length - (intOf i).toNat)
    case atStart => exact ⟨0, Nat.zero_le _, rfl, Qt.refl _, hide (by simp)⟩
    case round =>
      obtain ⟨k, hk, rfl, ⟨n, rfl⟩, HT⟩ := hrel
      clear hne
      by_cases hlt : k < xs.length
      · have hlt' : k < ys.length := by have := HL.out; omega
        obtain ⟨b, off, R, cr, rfl, h1, h2, g0, fR⟩ := ha.at hlt
        obtain ⟨b', off', R', cr', rfl, h1', h2', g0', fR'⟩ := hb.at hlt'
        have hs3 : (xs.getD k []).length ≤ 16777216 := by have := szL_at List.length [] hlt; have := HS.out; omega
        clear ha hb
        generalize hX : xs.getD k [] = m at g0 fR hs3
        generalize hY : ys.getD k [] = m' at g0' fR'
        have HX := hide hX; have HY := hide hY; clear hX hY
        go_wp2_with fail
        refine (slicesEqual_any R R' m m' cr cr' lo hi lo' hi' _ hs3 (by exact fR.drewN n) (by exact fR'.drewN n)).mono ?_
        rintro e w1 ⟨rfl, ⟨d1, rfl⟩⟩
        by_cases hxy : m = m'
        · have HXY := hide hxy
          rw [decide_eq_true hxy]
          clear hxy
          go_wp2
          go_roundw
          case rel => exact ⟨k + 1, by omega, by go_num, (by repeat (first | exact Qt.refl _ | apply Qt.drewN | apply Qt.drew)), hide (take_succ_eq HT.out hlt hlt' (HX.out.trans (HXY.out.trans HY.out.symm)))⟩
          case measure => simp [intOf]; omega
        · have hfin : false = decide (xs = ys) := by
            symm
            rw [decide_eq_false_iff_not]
            intro e
            apply hxy
            rw [← HX.out, ← HY.out, e]
          have HF := hide hfin; clear hfin
          rw [decide_eq_false hxy]
          clear hxy
          go_wp2
          go_ret
          exact ⟨ret_bool HF.out, (by repeat (first | exact Qt.refl _ | apply Qt.drewN | apply Qt.drew))⟩
      · go_wp2
        go_ret
        have hl := HL.out
        have ht := HT.out
        rw [List.take_of_length_le (by omega), List.take_of_length_le (by omega)] at ht
        exact ⟨ret_bool (by simp [ht]), ⟨_, rfl⟩⟩
  · have hne : ((xs.length : Int) != (ys.length : Int)) = true := by simp; omega
    have HL := hide hl; clear hl
    go_enter Try.func54, Try.ntmps54
    go_wp2
    go_ret
    exact ⟨ret_bool (by rw [eq_comm, decide_eq_false]; intro h; exact HL.out (by rw [h])), Qt.refl _⟩
set_option maxHeartbeats 1600000 in
theorem sameResource_any (m m' : Rs) (S T S' T' : Option Addr) (cs ct cs' ct' lo hi lo' hi' : Nat) (w : World) (hs : szRs m ≤ 16777216) (fS : RdSt w lo hi S m.steps) (fT : RdSS w lo hi T m.setup) (fS' : RdSt w lo' hi' S' m'.steps) (fT' : RdSS w lo' hi' T' m'.setup) (hhi : hi ≤ w.heap.size) (hhi' : hi' ≤ w.heap.size) :
    Calls Try.prog 31 #[.agg #[.slice S m.steps.length cs, .slice T m.setup.length ct], .agg #[.slice S' m'.steps.length cs', .slice T' m'.setup.length ct']] w fun e w' => e = .returned (.bool (decide (m = m'))) ∧ Below w.heap.size w w' := by
  have HM := hide (rs_eq m m')
  have hu : m.steps.length ≤ 16777216 := by unfold szRs at hs; omega
  have hc : szL List.length m.setup ≤ 16777216 := by unfold szRs at hs; omega
  have HB : Hid (∀ o o', Below w.heap.size w ((w.alloc o).alloc o')) := fun o o' => ((Below.refl _ _).alloc (Nat.le_refl _) _).alloc (by simp) _
  have H1 : Hid (∀ o o', RdSt ((w.alloc o).alloc o') lo hi S m.steps) := fun o o' => fS.below (HB.out o o') hhi
  have H2 : Hid (∀ o o', RdSS ((w.alloc o).alloc o') lo hi T m.setup) := fun o o' => fT.below (HB.out o o') hhi
  have H3 : Hid (∀ o o', RdSt ((w.alloc o).alloc o') lo' hi' S' m'.steps) := fun o o' => fS'.below (HB.out o o') hhi'
  have H4 : Hid (∀ o o', RdSS ((w.alloc o).alloc o') lo' hi' T' m'.setup) := fun o o' => fT'.below (HB.out o o') hhi'
  clear fS fT fS' fT' hs
  obtain ⟨u, v⟩ := m
  obtain ⟨u', v'⟩ := m'
  simp only at hu hc HM H1 H2 H3 H4 ⊢
  have HC := hide hc; clear hc
  go_enter Try.func31, Try.ntmps31
  go_wp2_with fail
  refine (slicesEqualSt_any S S' u u' cs cs' lo hi lo' hi' _ hu (by exact H1.out _ _) (by exact H3.out _ _)).mono ?_
  rintro e w1 ⟨rfl, ⟨d, rfl⟩⟩
  cases h1 : decide (u = u')
  · have HF := hide (show false = decide ((⟨u, v⟩ : Rs) = ⟨u', v'⟩) from by rw [HM.out, h1]; simp)
    clear h1
    go_wp2
    go_ret
    exact ⟨ret_bool HF.out, below_quiet (HB.out _ _) _⟩
  · have HF := hide (show decide (v = v') = decide ((⟨u, v⟩ : Rs) = ⟨u', v'⟩) from by rw [HM.out, h1]; simp)
    clear h1
    go_wp2_with fail
    refine (eqFuncII_any T T' v v' ct ct' lo hi lo' hi' _ HC.out (by exact H2.out _ _) (by exact H4.out _ _)).mono ?_
    rintro e w1 ⟨rfl, ⟨d2, rfl⟩⟩
    generalize decide (v = v') = bv at HF ⊢
    go_wp2
    go_ret
    exact ⟨ret_bool HF.out, (by first | exact below_quiet (HB.out _ _) _ | exact below_quiet (below_quiet (HB.out _ _) _) _)⟩
set_option maxHeartbeats 1600000 in
theorem eqFuncRs_any (A B : Option Addr) (xs ys : List Rs) (c d lo hi lo' hi' : Nat) (w : World) (hs : szL szRs xs ≤ 16777216) (ha : RdRs w lo hi A xs) (hb : RdRs w lo' hi' B ys) (hhi : hi ≤ w.heap.size) (hhi' : hi' ≤ w.heap.size) :
    Calls Try.prog 30 #[.slice A xs.length c, .slice B ys.length d, .func (.func 31) #[] #[]] w fun e w' => e = .returned (.bool (decide (xs = ys))) ∧ Below w.heap.size w w' := by
  have hx : xs.length ≤ 16777216 := Nat.le_trans (szL_len _ xs) hs
  have HS := hide hs; clear hs
  have hE := run_enter Try.func31 (by kernel_rfl) rfl
  by_cases hl : xs.length = ys.length
  · have hne : ((xs.length : Int) != (ys.length : Int)) = false := by simp [hl]
    have HL := hide hl; clear hl
    go_enter Try.func30, Try.ntmps30
    go_wp2
    go_loopw [17] (fun i wr => ∃ k : Nat, k ≤ xs.length ∧ i = .int .i64 k ∧ Below w.heap.size w wr ∧ Hid (xs.take k = ys.take k)) (fun i _ => xs.length - (intOf i).toNat)
    case atStart => exact ⟨0, Nat.zero_le _, rfl, Below.refl _ _, hide (by simp)⟩
    case round =>
      obtain ⟨k, hk, rfl, hB, HT⟩ := hrel
      clear hne
      by_cases hlt : k < xs.length
      · have hlt' : k < ys.length := by have := HL.out; omega
        have har := ha.below hB hhi
        have hbr := hb.below hB hhi'
        have hsz := hB.size
        have hhr : hi ≤ wr.heap.size := by omega
        have hhr' : hi' ≤ wr.heap.size := by omega
        have HB2 : Hid (∀ o o', Below wr.heap.size wr ((wr.alloc o).alloc o')) := fun o o' => ((Below.refl _ _).alloc (Nat.le_refl _) _).alloc (by simp) _
        obtain ⟨b, off, S, cs, T, ct, rfl, h1, h2, g0, g1, fS, fT⟩ := har.at hlt
        obtain ⟨b', off', S', cs', T', ct', rfl, h1', h2', g0', g1', fS', fT'⟩ := hbr.at hlt'
        have hs3 : szRs (xs.getD k rs0) ≤ 16777216 := by have := szL_at szRs rs0 hlt; have := HS.out; omega
        clear har hbr ha hb
        generalize hX : xs.getD k rs0 = m at g0 g1 fS fT hs3
        generalize hY : ys.getD k rs0 = m' at g0' g1' fS' fT'
        have HX := hide hX; have HY := hide hY; clear hX hY
        have HS3 := hide hs3; clear hs3
        have q0 := fun o => (World.cell?_alloc_lt wr o ⟨b', off' + k * 2, none⟩ (by show b' < _; omega)).trans g0'; have q1 := fun o => (World.cell?_alloc_lt wr o ⟨b', off' + k * 2 + 1, none⟩ (by show b' < _; omega)).trans g1'
        go_wp2_with fail
        refine (sameResource_any m m' S T S' T' cs ct cs' ct' lo hi lo' hi' _ HS3.out (by exact fS.below (HB2.out _ _) hhr) (by exact fT.below (HB2.out _ _) hhr) (by exact fS'.below (HB2.out _ _) hhr') (by exact fT'.below (HB2.out _ _) hhr') (by simp; omega) (by simp; omega)).mono ?_
        rintro e w1 ⟨rfl, hB1⟩
        have hB2 := hB.trans (((HB2.out _ _).trans (hB1.mono (by simp; omega))).mono hsz)
        clear hB1
        by_cases hxy : m = m'
        · have HXY := hide hxy
          rw [decide_eq_true hxy]
          clear hxy
          go_wp2
          go_roundw
          case rel => exact ⟨k + 1, by omega, by go_num, hB2, hide (take_succ_eq HT.out hlt hlt' (HX.out.trans (HXY.out.trans HY.out.symm)))⟩
          case measure => simp [intOf]; omega
        · have hfin : false = decide (xs = ys) := by
            symm
            rw [decide_eq_false_iff_not]
            intro e
            apply hxy
            rw [← HX.out, ← HY.out, e]
          have HF := hide hfin; clear hfin
          rw [decide_eq_false hxy]
          clear hxy
          go_wp2
          go_ret
          exact ⟨ret_bool HF.out, hB2⟩
      · go_wp2
        go_ret
        have hl := HL.out
        have ht := HT.out
        rw [List.take_of_length_le (by omega), List.take_of_length_le (by omega)] at ht
        exact ⟨ret_bool (by simp [ht]), hB⟩
  · have hne : ((xs.length : Int) != (ys.length : Int)) = true := by simp; omega
    have HL := hide hl; clear hl
    go_enter Try.func30, Try.ntmps30
    go_wp2
    go_ret
    exact ⟨ret_bool (by rw [eq_comm, decide_eq_false]; intro h; exact HL.out (by rw [h])), Below.refl _ _⟩
set_option maxHeartbeats 6400000 in
theorem implProjectEqual_any (p q : Pj) (A L R S A' L' R' S' : Option Addr) (ca cl cr cs ca' cl' cr' cs' lo hi lo' hi' : Nat) (w : World) (hs : szPj p ≤ 16777216) (fA : RdAs w lo hi A p.acts) (fL : RdLs w lo hi L p.links) (fR : RdRs w lo hi R p.res) (fS : RdI w lo hi S p.stocks) (fA' : RdAs w lo' hi' A' q.acts) (fL' : RdLs w lo' hi' L' q.links) (fR' : RdRs w lo' hi' R' q.res) (fS' : RdI w lo' hi' S' q.stocks) (hhi : hi ≤ w.heap.size) (hhi' : hi' ≤ w.heap.size) :
    Calls Try.prog 8 #[.agg #[.int .i64 p.dead, .slice A p.acts.length ca, .slice L p.links.length cl, .slice R p.res.length cr, .slice S p.stocks.length cs], .agg #[.int .i64 q.dead, .slice A' q.acts.length ca', .slice L' q.links.length cl', .slice R' q.res.length cr', .slice S' q.stocks.length cs']] w fun e w' => e = .returned (.bool (decide (p = q))) ∧ Below w.heap.size w w' := by
  have HM := hide (pj_eq p q)
  have HSA := hide (show szL szAc p.acts ≤ 16777216 from by unfold szPj at hs; omega)
  have HSR := hide (show szL szRs p.res ≤ 16777216 from by unfold szPj at hs; omega)
  have hl0 : p.acts.length ≤ 16777216 := Nat.le_trans (szL_len szAc _) HSA.out
  have hl1 : p.res.length ≤ 16777216 := Nat.le_trans (szL_len szRs _) HSR.out
  have hl2 : p.stocks.length ≤ 16777216 := by unfold szPj at hs; omega
  have hl3 : p.links.length ≤ 16777216 := by unfold szPj at hs; omega
  clear hs
  obtain ⟨W0, hW0⟩ : ∃ W0, W0 = (w.alloc (.cells #[.int .i64 p.dead, .slice A p.acts.length ca, .slice L p.links.length cl, .slice R p.res.length cr, .slice S p.stocks.length cs] 34)).alloc (.cells #[.int .i64 q.dead, .slice A' q.acts.length ca', .slice L' q.links.length cl', .slice R' q.res.length cr', .slice S' q.stocks.length cs'] 34) := ⟨_, rfl⟩
  have hB : Below w.heap.size w W0 := by rw [hW0]; exact ((Below.refl _ _).alloc (Nat.le_refl _) _).alloc (by simp) _
  have k0 : Bk W0 w.heap.size 34 #[.int .i64 p.dead, .slice A p.acts.length ca, .slice L p.links.length cl, .slice R p.res.length cr, .slice S p.stocks.length cs] := by rw [hW0]; exact (Bk.made w _ _).alloc _
  have k1 : Bk W0 (w.heap.size + 1) 34 #[.int .i64 q.dead, .slice A' q.acts.length ca', .slice L' q.links.length cl', .slice R' q.res.length cr', .slice S' q.stocks.length cs'] := by
    rw [hW0]
    have := Bk.made (w.alloc (.cells #[.int .i64 p.dead, .slice A p.acts.length ca, .slice L p.links.length cl, .slice R p.res.length cr, .slice S p.stocks.length cs] 34)) 34 #[.int .i64 q.dead, .slice A' q.acts.length ca', .slice L' q.links.length cl', .slice R' q.res.length cr', .slice S' q.stocks.length cs']
    simpa using this
  have z0 : W0.heap.size = w.heap.size + 2 := by rw [hW0]; simp
  have fA := fA.below hB hhi
  have fL := fL.below hB hhi
  have fR := fR.below hB hhi
  have fS := fS.below hB hhi
  have fA' := fA'.below hB hhi'
  have fL' := fL'.below hB hhi'
  have fR' := fR'.below hB hhi'
  have fS' := fS'.below hB hhi'
  have c0 := k0.cell 0
  have c1 := k0.cell 1
  have c2 := k0.cell 2
  have c3 := k0.cell 3
  have c4 := k0.cell 4
  have d0 := k1.cell 0
  have d1 := k1.cell 1
  have d2 := k1.cell 2
  have d3 := k1.cell 3
  have d4 := k1.cell 4
  simp only [List.getElem?_toArray, List.getElem?_cons_succ, List.getElem?_cons_zero] at c0 c1 c2 c3 c4 d0 d1 d2 d3 d4
  by_cases e0 : p.dead = q.dead
  case neg =>
    have HF := hide (show false = decide (p = q) from by rw [HM.out, decide_eq_false e0]; rfl)
    have t0 : (p.dead == q.dead) = false := by simp [e0]
    rw [hW0] at c0 d0 hB
    clear e0 c1 c2 c3 c4 d1 d2 d3 d4
    go_enter Try.func8, Try.ntmps8
    go_wp2
    go_ret
    exact ⟨ret_bool HF.out, hB⟩
  have t0 : (p.dead == q.dead) = true := by simp [e0]
  have HM := hide (show decide (p = q) = (decide (p.acts = q.acts) && (decide (p.links = q.links) && (decide (p.res = q.res) && decide (p.stocks = q.stocks)))) from by rw [HM.out, decide_eq_true e0, Bool.true_and])
  clear e0 c0 c1 c2 c3 c4 d0 d1 d2 d3 d4
  go_enter Try.func8, Try.ntmps8
  go_wp2_with fail
  refine at_world fun W hW => ?_
  obtain rfl : W = W0 := by rw [hW, hW0]
  clear hW hW0
  refine (eqFuncAc_any A A' p.acts q.acts ca ca' lo hi lo' hi' W HSA.out (by exact fA) (by exact fA') (by omega) (by omega)).mono ?_
  rintro e W1 ⟨rfl, r⟩
  have zzW1 := r.size
  have hB := hB.trans (r.mono (by omega))
  have k0 := k0.below r (by omega)
  have k1 := k1.below r (by omega)
  have fA := fA.below r (by omega)
  have fL := fL.below r (by omega)
  have fR := fR.below r (by omega)
  have fS := fS.below r (by omega)
  have fA' := fA'.below r (by omega)
  have fL' := fL'.below r (by omega)
  have fR' := fR'.below r (by omega)
  have fS' := fS'.below r (by omega)
  clear r
  cases h1 : decide (p.acts = q.acts)
  · have HF := hide (show false = decide (p = q) from by rw [HM.out, h1]; rfl)
    clear h1
    go_wp2
    go_ret
    exact ⟨ret_bool HF.out, hB⟩
  have HM := hide (show decide (p = q) = (decide (p.links = q.links) && (decide (p.res = q.res) && decide (p.stocks = q.stocks))) from by rw [HM.out, h1, Bool.true_and])
  clear h1
  have c0 := k0.cell 0
  have c1 := k0.cell 1
  have c2 := k0.cell 2
  have c3 := k0.cell 3
  have c4 := k0.cell 4
  have d0 := k1.cell 0
  have d1 := k1.cell 1
  have d2 := k1.cell 2
  have d3 := k1.cell 3
  have d4 := k1.cell 4
  simp only [List.getElem?_toArray, List.getElem?_cons_succ, List.getElem?_cons_zero] at c0 c1 c2 c3 c4 d0 d1 d2 d3 d4
  go_wp2_with fail
  refine (slicesEqualL_any L L' p.links q.links cl cl' lo hi lo' hi' W1 hl3 (by exact fL) (by exact fL')).mono ?_
  rintro e W2 ⟨rfl, q2⟩
  have r := Qt.below (Below.refl W1.heap.size W1) q2
  clear c0 c1 c2 c3 c4 d0 d1 d2 d3 d4
  have zzW2 := r.size
  have hB := hB.trans (r.mono (by omega))
  have k0 := k0.below r (by omega)
  have k1 := k1.below r (by omega)
  have fA := fA.below r (by omega)
  have fL := fL.below r (by omega)
  have fR := fR.below r (by omega)
  have fS := fS.below r (by omega)
  have fA' := fA'.below r (by omega)
  have fL' := fL'.below r (by omega)
  have fR' := fR'.below r (by omega)
  have fS' := fS'.below r (by omega)
  clear r
  cases h1 : decide (p.links = q.links)
  · have HF := hide (show false = decide (p = q) from by rw [HM.out, h1]; rfl)
    clear h1
    go_wp2
    go_ret
    exact ⟨ret_bool HF.out, hB⟩
  have HM := hide (show decide (p = q) = (decide (p.res = q.res) && decide (p.stocks = q.stocks)) from by rw [HM.out, h1, Bool.true_and])
  clear h1
  have c0 := k0.cell 0
  have c1 := k0.cell 1
  have c2 := k0.cell 2
  have c3 := k0.cell 3
  have c4 := k0.cell 4
  have d0 := k1.cell 0
  have d1 := k1.cell 1
  have d2 := k1.cell 2
  have d3 := k1.cell 3
  have d4 := k1.cell 4
  simp only [List.getElem?_toArray, List.getElem?_cons_succ, List.getElem?_cons_zero] at c0 c1 c2 c3 c4 d0 d1 d2 d3 d4
  go_wp2_with fail
  refine (eqFuncRs_any R R' p.res q.res cr cr' lo hi lo' hi' W2 HSR.out (by exact fR) (by exact fR') (by omega) (by omega)).mono ?_
  rintro e W3 ⟨rfl, r⟩
  clear c0 c1 c2 c3 c4 d0 d1 d2 d3 d4
  have zzW3 := r.size
  have hB := hB.trans (r.mono (by omega))
  have k0 := k0.below r (by omega)
  have k1 := k1.below r (by omega)
  have fA := fA.below r (by omega)
  have fL := fL.below r (by omega)
  have fR := fR.below r (by omega)
  have fS := fS.below r (by omega)
  have fA' := fA'.below r (by omega)
  have fL' := fL'.below r (by omega)
  have fR' := fR'.below r (by omega)
  have fS' := fS'.below r (by omega)
  clear r
  cases h1 : decide (p.res = q.res)
  · have HF := hide (show false = decide (p = q) from by rw [HM.out, h1]; rfl)
    clear h1
    go_wp2
    go_ret
    exact ⟨ret_bool HF.out, hB⟩
  have HM := hide (show decide (p = q) = decide (p.stocks = q.stocks) from by rw [HM.out, h1, Bool.true_and])
  clear h1
  have c0 := k0.cell 0
  have c1 := k0.cell 1
  have c2 := k0.cell 2
  have c3 := k0.cell 3
  have c4 := k0.cell 4
  have d0 := k1.cell 0
  have d1 := k1.cell 1
  have d2 := k1.cell 2
  have d3 := k1.cell 3
  have d4 := k1.cell 4
  simp only [List.getElem?_toArray, List.getElem?_cons_succ, List.getElem?_cons_zero] at c0 c1 c2 c3 c4 d0 d1 d2 d3 d4
  go_wp2_with fail
  refine (slicesEqual_any S S' p.stocks q.stocks cs cs' lo hi lo' hi' W3 hl2 (by exact fS) (by exact fS')).mono ?_
  rintro e W4 ⟨rfl, q4⟩
  have hB := Qt.below hB q4
  have HF := hide HM.out.symm
  clear c0 c1 c2 c3 c4 d0 d1 d2 d3 d4
  generalize decide (p.stocks = q.stocks) = bv at HF ⊢
  go_wp2
  go_ret
  exact ⟨ret_bool HF.out, hB⟩
end Go.Proofs.Ytebfijjcmmlbjaa
