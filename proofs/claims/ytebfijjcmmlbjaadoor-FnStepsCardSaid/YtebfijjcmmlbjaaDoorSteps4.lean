/- Steps of one capacity joined. -/
import Derived.Test.YtebfijjcmmlbjaaDoorKit
import Derived.Test.YtebfijjcmmlbjaaDoorPlain
import Derived.Test.YtebfijjcmmlbjaaDoorPlainSt
import Derived.Test.YtebfijjcmmlbjaaDoorSets
import Derived.Test.YtebfijjcmmlbjaaDoorSteps
namespace Go.Proofs.YtebfijjcmmlbjaaDoor
open Go.ChangeShapes Go.WideShapes Go.ChangeAt Go.RowKit
set_option linter.unusedVariables false

theorem two_new (w : World) (x y : Value) (t : TypeId) : ∀ j u, [x, y][j]? = some u → (w.alloc (.cells #[x, y] t)).cell? ⟨w.heap.size, 0 + j, none⟩ = some u := by
  intro j u hj
  rw [World.cell?_alloc_at _ _ _ _ rfl, Nat.zero_add]
  match j, hj with
  | 0, hj => exact hj
  | 1, hj => exact hj
theorem two_cell {x y : Value} (h : x.oneCell' = true) (h' : y.oneCell' = true) : ∀ u ∈ [x, y], u.oneCell' = true := by
  intro u hu
  simp at hu
  rcases hu with rfl | rfl
  · exact h
  · exact h'
set_option maxHeartbeats 3200000 in
theorem implMergeSteps_any (A : Option Addr) (l : List (Int × Int)) (c lo hi : Nat) (w : World) (hl : l.length ≤ 16777216) (ha : RdSt w lo hi A l) (hhi : hi ≤ w.heap.size) :
    Calls Tryd.prog 26 #[.slice A l.length c] w fun e w' => ∃ A' c', e = .returned (.slice A' (mergeM l).length c') ∧ OwnR w' w.heap.size w'.heap.size 66 2 A' (mergeM l).length c' (flatSt (mergeM l)) ∧ Below w.heap.size w w' := by
  have HM := hide (show mergeM l = if stOkB l = true then mergeTo l l.length else [] from rfl)
  go_enter Tryd.func26, Tryd.ntmps26
  go_wp2_with fail
  refine (implStepsOk_any A l c lo hi _ hl ha hhi).mono ?_
  rintro e w1 ⟨rfl, hB0⟩
  cases hok : stOkB l
  · have HK := hide (show mergeM l = [] from by rw [HM.out, hok]; rfl)
    clear hok
    go_wp2
    go_ret
    exact ⟨_, _, by rw [HK.out]; rfl, by rw [HK.out]; exact OwnR.empty _ _ _ _ _, hB0⟩
  have HMM := hide (show mergeM l = mergeTo l l.length from by rw [HM.out, hok]; rfl)
  clear hok HM
  have hs0 := hB0.size
  have hO0 := OwnR.made w1 w.heap.size 66 2 #[] 0 hs0 (by unfold maxLen; omega) rfl
  go_wp2_with fail
  go_loopw [3, 12] (fun v i wr => ∃ (k : Nat) (A : Option Addr) (c : Nat), k ≤ l.length ∧ i = .int .i64 k ∧ v = .slice A (mergeTo l k).length c ∧ OwnR wr w.heap.size wr.heap.size 66 2 A (mergeTo l k).length c (flatSt (mergeTo l k)) ∧ Below w.heap.size w wr) (fun _ i _ => l.length - (intOf i).toNat)
  case atStart => exact ⟨0, _, _, Nat.zero_le _, rfl, rfl, by simpa [mergeTo, flatSt] using hO0, hB0.alloc hs0 _⟩
  case round =>
    obtain ⟨k, A1, c1, hk, rfl, rfl, hO, hB⟩ := hrel
    clear hO0
    by_cases hlt : k < l.length
    · obtain ⟨b, off, rfl, h1, h2, hc⟩ := ha (by omega)
      obtain ⟨hc1, hc2⟩ := hc k hlt
      have hbb : b < w.heap.size := by omega
      have g1 := (hB.cell (p := ⟨b, off + k * 2, none⟩) hbb).trans hc1
      have g2 := (hB.cell (p := ⟨b, off + k * 2 + 1, none⟩) hbb).trans hc2
      have hsz := hB.size
      have HT : Hid (mergeTo l (k + 1) = if k = 0 ∨ stC l k ≠ stC l (k - 1) then mergeTo l k ++ [l.getD k (0, 0)] else mergeTo l k) := rfl
      have HL := hide (mergeTo_len l k)
      have HC : Hid (stC l k = (l.getD k (0, 0)).2) := rfl
      clear hc1 hc2 ha
      generalize hX : l.getD k (0, 0) = X at g1 g2 HT HC
      clear hX
      obtain ⟨x, y⟩ := X
      simp only at g1 g2 HC
      generalize mergeTo l k = M at hO HT HL
      have hM : M.length ≤ 16777216 := by have := HL.out; omega
      have HN : Hid (∀ (d : Nat) (j : Nat) (u : Value), [Value.int .i64 x, .int .i64 y][j]? = some u → (((wr.alloc (.cells #[.int .i64 x, .int .i64 y] 66)).drewN d).alloc (.cells #[.int .i64 x, .int .i64 y] 66)).cell? ⟨wr.heap.size + 1, 0 + j, none⟩ = some u) := by
        intro d j u hj
        have := two_new ((wr.alloc (.cells #[.int .i64 x, .int .i64 y] 66)).drewN d) (.int .i64 x) (.int .i64 y) 66 j u hj
        simpa using this
      by_cases hk0 : k = 0
      · have HK := hide (show mergeTo l (k + 1) = M ++ [(x, y)] from by rw [HT.out, if_pos (.inl hk0)])
        clear HT hc
        subst hk0
        simp only [Nat.zero_mul, Nat.add_zero] at g1 g2
        go_wp2_with fail
        go_quiet (fail)
        go_wp2_with (at_builtin; go_must (refine wpList_push _ (.tmp 30) (.tmp 32) 40 66 _ 2 16 Tryd.underlying40 Tryd.infoSt rfl (by omega) w.heap.size _ A1 M.length c1 _ (((hO.alloc _).drewN _).alloc _) (wr.heap.size + 1) 0 1 1 [.int .i64 x, .int .i64 y] rfl (HN.out _) (two_cell rfl rfl) (by omega) (by omega) (by simp; omega) w.heap.size w ((below_quiet (hB.alloc hsz _) _).alloc (by simp; omega) _) (Nat.le_refl _) ?_ rfl rfl rfl rfl))
        intro A' c' w' hO' hB' hs' _
        clear hO hB
        go_wp2
        go_roundw
        case rel => exact ⟨1, A', c', by omega, by go_num, by rw [HK.out]; simp, hO'.eqn (by rw [HK.out]; simp) (by rw [HK.out, flatSt_app]; rfl), hB'⟩
        case measure => simp [intOf]; omega
      · obtain ⟨m, rfl⟩ : ∃ m, k = m + 1 := ⟨k - 1, by omega⟩
        obtain ⟨_, hp2⟩ := hc m (by omega)
        have g3 := (hB.cell (p := ⟨b, off + m * 2 + 1, none⟩) hbb).trans hp2
        have HP : Hid (stC l m = (l.getD m (0, 0)).2) := rfl
        clear hc hp2
        generalize (l.getD m (0, 0)).2 = z at g3 HP
        have g4 : ∀ o, (wr.alloc o).cell? ⟨b, off + m * 2 + 1, none⟩ = some (.int .i64 z) := fun o => (World.cell?_alloc_lt wr o ⟨b, off + m * 2 + 1, none⟩ (by show b < _; omega)).trans g3
        have hn0 : ((m : Int) + 1 == 0) = false := by rw [beq_eq_false_iff_ne]; omega
        have hn1 : ¬ (m : Int) + 1 = 0 := by omega
        have hmi : IntKind.i64.wrap (m : Int) = (m : Int) := wrap_nat m (by omega)
        have hm0 : (0 : Int) ≤ (m : Int) := by omega
        have hm1 : (m : Int) < (l.length : Int) := by omega
        have hm2 : m < l.length := by omega
        by_cases hzy : y = z
        · have hd : (y != z) = false := by simp [hzy]
          have HK := hide (show mergeTo l (m + 1 + 1) = M from by rw [HT.out, if_neg]; rw [not_or, Decidable.not_not, Nat.add_sub_cancel]; exact ⟨by omega, by rw [HC.out, HP.out, hzy]⟩)
          clear hzy HT
          go_wp2_with fail
          go_quiet (fail)
          go_wp2
          go_roundw
          case rel =>
            refine ⟨m + 2, _, c1, by omega, by go_num, by rw [HK.out], ?_, below_quiet (hB.alloc hsz _) _⟩
            rw [HK.out]
            exact ((hO.alloc _).drewN _).mono (Nat.le_refl _) (by simp)
          case measure => simp [intOf]; omega
        · have hd : (y != z) = true := by simp [hzy]
          have HK := hide (show mergeTo l (m + 1 + 1) = M ++ [(x, y)] from by rw [HT.out, if_pos (.inr (by rw [HC.out, Nat.add_sub_cancel, HP.out]; exact hzy))])
          clear hzy HT
          go_wp2_with fail
          go_quiet (fail)
          go_wp2_with (at_builtin; go_must (refine wpList_push _ (.tmp 30) (.tmp 32) 40 66 _ 2 16 Tryd.underlying40 Tryd.infoSt rfl (by omega) w.heap.size _ A1 M.length c1 _ (((hO.alloc _).drewN _).alloc _) (wr.heap.size + 1) 0 1 1 [.int .i64 x, .int .i64 y] rfl (HN.out _) (two_cell rfl rfl) (by omega) (by omega) (by simp; omega) w.heap.size w ((below_quiet (hB.alloc hsz _) _).alloc (by simp; omega) _) (Nat.le_refl _) ?_ rfl rfl rfl rfl))
          intro A' c' w' hO' hB' hs' _
          clear hO hB
          go_wp2
          go_roundw
          case rel => exact ⟨m + 2, A', c', by omega, by go_num, by rw [HK.out]; simp, hO'.eqn (by rw [HK.out]; simp) (by rw [HK.out, flatSt_app]; rfl), hB'⟩
          case measure => simp [intOf]; omega
    · obtain rfl : k = l.length := by omega
      go_wp2
      go_ret
      exact ⟨_, _, by rw [HMM.out]; rfl, by rw [HMM.out]; exact hO, hB⟩
end Go.Proofs.YtebfijjcmmlbjaaDoor
