/- The functions on words: what they compute. -/
import Derived.Test.YtcecgbjolngdbaaGreatDoorKit
import Derived.Test.YtcecgbjolngdbaaGreatDoorPlain
import Derived.Test.YtcecgbjolngdbaaGreatDoorNames
import Derived.Test.YtcecgbjolngdbaaGreatDoorSets
import Derived.Test.YtcecgbjolngdbaaGreatDoorShelf
namespace Go.Proofs.YtcecgbjolngdbaaGreatDoor
open Go.ChangeShapes Go.WideShapes Go.ChangeAt Go.RowKit
set_option linter.unusedVariables false

theorem Tryz.infoStr : (Tryz.prog.info? 9).map (fun i => (i.zero, i.size, i.bytes)) = some (some (.string ByteArray.empty), 1, 16) := by kernel_rfl
set_option maxHeartbeats 1600000 in
theorem specSplitAny_any (s y : ByteArray) (w : World) (hs : s.size ≤ 16777216) (hy : y.size ≤ 16777216) :
    Calls Tryz.prog 56 #[.string s, .string y] w fun e w' => ∃ A c, e = .returned (.slice A (splitAny s y).length c) ∧ OwnR w' w.heap.size w'.heap.size 9 1 A (splitAny s y).length c ((splitAny s y).map .string) ∧ Below w.heap.size w w' := by
  have hO0 := OwnR.made w w.heap.size 9 1 #[] 0 (Nat.le_refl _) (by unfold maxLen; omega) rfl
  go_enter Tryz.func56, Tryz.ntmps56
  go_wp2
  go_loopw [5, 6, 7] (fun v fr i wr => ∃ (k : Nat) (A : Option Addr) (c : Nat), k ≤ s.size ∧ i = .int .i64 k ∧ fr = .int .i64 (splitTo s y k).2 ∧ v = .slice A (splitTo s y k).1.length c ∧ OwnR wr w.heap.size wr.heap.size 9 1 A (splitTo s y k).1.length c ((splitTo s y k).1.map .string) ∧ Below w.heap.size w wr) (fun _ _ i _ => s.size - (intOf i).toNat)
  case atStart => exact ⟨0, _, _, Nat.zero_le _, rfl, rfl, rfl, by simpa [splitTo] using hO0, (Below.refl _ _).alloc (Nat.le_refl _) _⟩
  case round =>
    obtain ⟨k, A1, c1, hk, rfl, rfl, rfl, hO, hB⟩ := hrel
    clear hO0
    by_cases hlt : k < s.size
    · have HX := hide (splitTo_succ (s := s) (y := y) hlt)
      have hbd := splitTo_bd s y k
      generalize splitTo s y k = r at hO HX hbd
      obtain ⟨S, F⟩ := r
      obtain ⟨hS, hF⟩ := hbd
      simp only at hS hF hO
      go_wp2
      obtain ⟨wo, rfl⟩ : ∃ wo : World, wo = wr := ⟨_, rfl⟩
      go_loopw [5, 6, 8] (fun v fr i wi => ∃ j : Nat, j ≤ y.size ∧ i = .int .i64 j ∧ fr = .int .i64 F ∧ v = .slice A1 S.length c1 ∧ OwnR wi w.heap.size wi.heap.size 9 1 A1 S.length c1 (S.map .string) ∧ Below w.heap.size w wi ∧ Hid (∀ i (h : i < j) (hi : i < y.size), y[i] ≠ s[k])) (fun _ _ i _ => y.size - (intOf i).toNat)
      case atStart => exact ⟨0, Nat.zero_le _, rfl, rfl, rfl, hO, hB, hide (fun i h => absurd h (by omega))⟩
      case round =>
        obtain ⟨j, hj, rfl, rfl, rfl, hO, hB, H⟩ := hrel
        by_cases hjt : j < y.size
        · have hsz := hB.size
          by_cases he : y[j] = s[k]
          · have hd : ((s[k].toNat : Int) == (y[j].toNat : Int)) = true := by rw [he]; simp
            have HM := hide (mem_yes hjt he)
            clear he
            go_wp2_with fail
            go_quiet (fail)
            go_wp2_with (at_builtin; go_must (refine wpList_push _ (.tmp 29) (.tmp 34) 67 9 _ 1 16 Tryz.underlying67 Tryz.infoStr rfl (by omega) w.heap.size _ A1 S.length c1 _ ((hO.qt _).alloc _) wr.heap.size 0 1 1 [.string (s.extract F k)] rfl (one_new _ _ _) (one_cell rfl) (by omega) (by omega) (by simp; omega) w.heap.size w ((below_quiet hB _).alloc (by simpa using hsz) _) (Nat.le_refl _) ?_ rfl rfl rfl rfl))
            intro A' c' w' hO' hB' hs' _
            clear hO hB
            go_wp2
            go_roundw
            case rel => exact ⟨k + 1, A', c', by omega, by go_num, by rw [HX.out, if_pos HM.out]; go_num, by rw [HX.out, if_pos HM.out]; simp, hO'.eqn (by rw [HX.out, if_pos HM.out]; simp) (by rw [HX.out, if_pos HM.out]; simp), hB'⟩
            case measure => simp [intOf]; omega
          · have hd : ((s[k].toNat : Int) == (y[j].toNat : Int)) = false := by
              rw [beq_eq_false_iff_ne]
              intro e
              exact he (UInt8.toNat_inj.1 (by omega)).symm
            have HE := hide he; clear he
            go_wp2_with fail
            go_quiet (fail)
            go_wp2
            go_roundw
            case rel =>
              refine ⟨j + 1, by omega, by go_num, rfl, rfl, hO.qt _, below_quiet hB _, hide (fun i h hi => ?_)⟩
              by_cases e : i = j
              · subst e; exact HE.out
              · exact H.out i (by omega) hi
            case measure => simp [intOf]; omega
        · have HM := hide (mem_no (y := y) (c := s[k]) (fun i hi => H.out i (by omega) hi))
          clear H
          go_wp2
          go_roundw
          case rel => exact ⟨k + 1, A1, c1, by omega, by go_num, by rw [HX.out, if_neg (by rw [HM.out]; decide)], by rw [HX.out, if_neg (by rw [HM.out]; decide)], hO.eqn (by rw [HX.out, if_neg (by rw [HM.out]; decide)]) (by rw [HX.out, if_neg (by rw [HM.out]; decide)]), hB⟩
          case measure => simp [intOf]; omega
    · obtain rfl : k = s.size := by omega
      have HX := hide (show splitAny s y = (splitTo s y s.size).1 ++ [s.extract (splitTo s y s.size).2 s.size] from rfl)
      have hbd := splitTo_bd s y s.size
      generalize splitTo s y s.size = r at hO HX hbd
      obtain ⟨S, F⟩ := r
      obtain ⟨hS, hF⟩ := hbd
      simp only at hS hF hO
      have hsz := hB.size
      go_wp2_with (at_builtin; go_must (refine wpList_push _ (.tmp 38) (.tmp 42) 67 9 _ 1 16 Tryz.underlying67 Tryz.infoStr rfl (by omega) w.heap.size _ A1 S.length c1 _ (hO.alloc _) wr.heap.size 0 1 1 [.string (s.extract F s.size)] rfl (one_new _ _ _) (one_cell rfl) (by omega) (by omega) (by simp; omega) w.heap.size w (hB.alloc (by simpa using hsz) _) (Nat.le_refl _) ?_ rfl rfl rfl rfl))
      intro A' c' w' hO' hB' hs' _
      clear hO hB
      go_wp2
      go_ret
      exact ⟨A', c', by rw [HX.out]; simp, hO'.eqn (by rw [HX.out]; simp) (by rw [HX.out]; simp), hB'⟩
theorem indexByte_any (y : ByteArray) (c : UInt8) (w : World) (hy : y.size ≤ 16777216) :
    Calls Tryz.prog 140 #[.string y, .int .u8 (c.toNat : Int)] w fun e w' => ∃ n, e = .returned (.int .i64 n) ∧ ((n = -1 ∧ memB y c = false) ∨ (0 ≤ n ∧ n ≤ 16777216 ∧ memB y c = true)) ∧ w = w' := by
  refine (Tryz.strings_IndexByte y (c.toNat : Int) w).mono fun e w' ⟨he, hw⟩ => ?_
  have hc : (c.toNat : Int).toNat.toUInt8 = c := by simp
  rw [hc] at he
  refine ⟨_, he, ?_, hw.symm⟩
  have hl : y.data.toList.length = y.size := by simp
  rcases indexByte_bd y.data.toList c with ⟨h1, h2⟩ | ⟨h1, h2, h3⟩
  · exact .inl ⟨h1, decide_eq_false h2⟩
  · exact .inr ⟨h1, by omega, decide_eq_true h3⟩
set_option maxHeartbeats 1600000 in
theorem implSplitAny_any (s y : ByteArray) (w : World) (hs : s.size ≤ 16777216) (hy : y.size ≤ 16777216) :
    Calls Tryz.prog 83 #[.string s, .string y] w fun e w' => ∃ A c, e = .returned (.slice A (splitAny s y).length c) ∧ OwnR w' w.heap.size w'.heap.size 9 1 A (splitAny s y).length c ((splitAny s y).map .string) ∧ Below w.heap.size w w' := by
  have hO0 := OwnR.made w w.heap.size 9 1 #[] 0 (Nat.le_refl _) (by unfold maxLen; omega) rfl
  go_enter Tryz.func83, Tryz.ntmps83
  go_wp2
  go_loopw [5, 6, 11] (fun v fr i wr => ∃ (k : Nat) (A : Option Addr) (c : Nat), k ≤ s.size ∧ i = .int .i64 k ∧ fr = .int .i64 (splitTo s y k).2 ∧ v = .slice A (splitTo s y k).1.length c ∧ OwnR wr w.heap.size wr.heap.size 9 1 A (splitTo s y k).1.length c ((splitTo s y k).1.map .string) ∧ Below w.heap.size w wr) (fun _ _ i _ => s.size - (intOf i).toNat)
  case atStart => exact ⟨0, _, _, Nat.zero_le _, rfl, rfl, rfl, by simpa [splitTo] using hO0, (Below.refl _ _).alloc (Nat.le_refl _) _⟩
  case round =>
    obtain ⟨k, A1, c1, hk, rfl, rfl, rfl, hO, hB⟩ := hrel
    clear hO0
    by_cases hlt : k < s.size
    · have HX := hide (splitTo_succ (s := s) (y := y) hlt)
      have hbd := splitTo_bd s y k
      generalize splitTo s y k = r at hO HX hbd
      obtain ⟨S, F⟩ := r
      obtain ⟨hS, hF⟩ := hbd
      simp only at hS hF hO
      have hsz := hB.size
      go_wp2_with fail
      refine (indexByte_any y s[k] _ hy).mono ?_
      rintro e w1 ⟨n, rfl, hn, rfl⟩
      rcases hn with ⟨rfl, hm⟩ | ⟨h0, h1, hm⟩
      · have HM := hide hm; clear hm
        go_wp2
        go_roundw
        case rel => exact ⟨k + 1, A1, c1, by omega, by go_num, by rw [HX.out, if_neg (by rw [HM.out]; decide)], by rw [HX.out, if_neg (by rw [HM.out]; decide)], hO.eqn (by rw [HX.out, if_neg (by rw [HM.out]; decide)]) (by rw [HX.out, if_neg (by rw [HM.out]; decide)]), hB⟩
        case measure => simp [intOf]; omega
      · have HM := hide hm; clear hm
        go_wp2_with (at_builtin; go_must (refine wpList_push _ (.tmp 20) (.tmp 25) 67 9 _ 1 16 Tryz.underlying67 Tryz.infoStr rfl (by omega) w.heap.size _ A1 S.length c1 _ (hO.alloc _) wr.heap.size 0 1 1 [.string (s.extract F k)] rfl (one_new _ _ _) (one_cell rfl) (by omega) (by omega) (by simp; omega) w.heap.size w (hB.alloc (by simpa using hsz) _) (Nat.le_refl _) ?_ rfl rfl rfl rfl))
        intro A' c' w' hO' hB' hs' _
        clear hO hB
        go_wp2
        go_roundw
        case rel => exact ⟨k + 1, A', c', by omega, by go_num, by rw [HX.out, if_pos HM.out]; go_num, by rw [HX.out, if_pos HM.out]; simp, hO'.eqn (by rw [HX.out, if_pos HM.out]; simp) (by rw [HX.out, if_pos HM.out]; simp), hB'⟩
        case measure => simp [intOf]; omega
    · obtain rfl : k = s.size := by omega
      have HX := hide (show splitAny s y = (splitTo s y s.size).1 ++ [s.extract (splitTo s y s.size).2 s.size] from rfl)
      have hbd := splitTo_bd s y s.size
      generalize splitTo s y s.size = r at hO HX hbd
      obtain ⟨S, F⟩ := r
      obtain ⟨hS, hF⟩ := hbd
      simp only at hS hF hO
      have hsz := hB.size
      go_wp2_with (at_builtin; go_must (refine wpList_push _ (.tmp 30) (.tmp 34) 67 9 _ 1 16 Tryz.underlying67 Tryz.infoStr rfl (by omega) w.heap.size _ A1 S.length c1 _ (hO.alloc _) wr.heap.size 0 1 1 [.string (s.extract F s.size)] rfl (one_new _ _ _) (one_cell rfl) (by omega) (by omega) (by simp; omega) w.heap.size w (hB.alloc (by simpa using hsz) _) (Nat.le_refl _) ?_ rfl rfl rfl rfl))
      intro A' c' w' hO' hB' hs' _
      clear hO hB
      go_wp2
      go_ret
      exact ⟨A', c', by rw [HX.out]; simp, hO'.eqn (by rw [HX.out]; simp) (by rw [HX.out]; simp), hB'⟩
set_option maxHeartbeats 1600000 in
theorem specSplitLines_any (s : ByteArray) (w : World) (hs : s.size ≤ 16777215) :
    Calls Tryz.prog 55 #[.string s] w fun e w' => ∃ A c, e = .returned (.slice A (splitLines s).length c) ∧ OwnR w' w.heap.size w'.heap.size 9 1 A (splitLines s).length c ((splitLines s).map .string) ∧ Below w.heap.size w w' := by
  go_enter Tryz.func55, Tryz.ntmps55
  go_wp2_with fail
  refine (specSplitAny_any s newline _ (by omega) (by decide)).mono ?_
  rintro e w1 ⟨A, c, rfl, hO, hB⟩
  have HL := hide (splitAny_len s newline)
  have HP := hide (splitAny_pos s newline)
  have HD1 := hide (fun m => @splitLines_cut s m)
  have HD2 := hide (fun m => @splitLines_all s m)
  generalize splitAny s newline = l at hO HL HP HD1 HD2
  have hl := HL.out
  obtain ⟨m, hm⟩ : ∃ m, l.length = m + 1 := ⟨l.length - 1, by have := HP.out; omega⟩
  have HM := hide hm
  rw [hm] at hO ⊢
  rw [hm] at hl
  clear HL HP
  obtain ⟨g, rfl, h1, h2, h3⟩ := hO.some_ (by omega)
  have g1 := hO.cellAt m (by omega)
  have hx : (l.map Value.string)[m]? = some (.string (l.getD m ByteArray.empty)) := by simp [hm]
  rw [hx] at g1
  clear hx hm
  have hmc : m + 1 ≤ c := by
    rcases hO.1.2 with ⟨hv, _⟩ | ⟨g', cap, cur, hv, _, _, hnc, _⟩
    · cases hv
    · simp at hv
      omega
  by_cases he : l.getD m ByteArray.empty = ByteArray.empty
  · have HE := hide (HD1.out m HM.out he)
    rw [he] at g1
    clear he HD1 HD2
    go_wp2
    go_ret
    have hlen : (splitLines s).length = m := by rw [HE.out, List.length_take, HM.out]; omega
    exact ⟨_, _, by rw [hlen]; simp, (hO.cut (m := m) (by omega)).eqn hlen.symm (by rw [HE.out]; simp), hB⟩
  · have HE := hide (HD2.out m HM.out he)
    have hN := str_empty_no he
    clear HD1 HD2 he
    generalize l.getD m ByteArray.empty = X at g1 hN
    go_wp2
    go_ret
    have hlen : (splitLines s).length = m + 1 := by rw [HE.out, HM.out]
    exact ⟨_, _, by rw [hlen]; simp, hO.eqn hlen.symm (by rw [HE.out]), hB⟩
set_option maxHeartbeats 1600000 in
theorem implSplitLines_any (s : ByteArray) (w : World) (hs : s.size ≤ 16777215) :
    Calls Tryz.prog 61 #[.string s] w fun e w' => ∃ A c, e = .returned (.slice A (splitLines s).length c) ∧ OwnR w' w.heap.size w'.heap.size 9 1 A (splitLines s).length c ((splitLines s).map .string) ∧ Below w.heap.size w w' := by
  go_enter Tryz.func61, Tryz.ntmps61
  go_wp2_with fail
  refine (implSplitAny_any s newline _ (by omega) (by decide)).mono ?_
  rintro e w1 ⟨A, c, rfl, hO, hB⟩
  have HL := hide (splitAny_len s newline)
  have HP := hide (splitAny_pos s newline)
  have HD1 := hide (fun m => @splitLines_cut s m)
  have HD2 := hide (fun m => @splitLines_all s m)
  generalize splitAny s newline = l at hO HL HP HD1 HD2
  have hl := HL.out
  obtain ⟨m, hm⟩ : ∃ m, l.length = m + 1 := ⟨l.length - 1, by have := HP.out; omega⟩
  have HM := hide hm
  rw [hm] at hO ⊢
  rw [hm] at hl
  clear HL HP
  obtain ⟨g, rfl, h1, h2, h3⟩ := hO.some_ (by omega)
  have g1 := hO.cellAt m (by omega)
  have hx : (l.map Value.string)[m]? = some (.string (l.getD m ByteArray.empty)) := by simp [hm]
  rw [hx] at g1
  clear hx hm
  have hmc : m + 1 ≤ c := by
    rcases hO.1.2 with ⟨hv, _⟩ | ⟨g', cap, cur, hv, _, _, hnc, _⟩
    · cases hv
    · simp at hv
      omega
  by_cases he : l.getD m ByteArray.empty = ByteArray.empty
  · have HE := hide (HD1.out m HM.out he)
    rw [he] at g1
    clear he HD1 HD2
    go_wp2
    go_ret
    have hlen : (splitLines s).length = m := by rw [HE.out, List.length_take, HM.out]; omega
    exact ⟨_, _, by rw [hlen]; simp, (hO.cut (m := m) (by omega)).eqn hlen.symm (by rw [HE.out]; simp), hB⟩
  · have HE := hide (HD2.out m HM.out he)
    have hN := str_empty_no he
    clear HD1 HD2 he
    generalize l.getD m ByteArray.empty = X at g1 hN
    go_wp2
    go_ret
    have hlen : (splitLines s).length = m + 1 := by rw [HE.out, HM.out]
    exact ⟨_, _, by rw [hlen]; simp, hO.eqn hlen.symm (by rw [HE.out]), hB⟩
set_option maxHeartbeats 1600000 in
theorem specJoin_any (A : Option Addr) (l : List ByteArray) (c lo hi : Nat) (y : ByteArray) (w : World) (hl : l.length ≤ 16777216) (hb : ∀ k, k ≤ l.length → (joinB (l.take k) y).size ≤ 140737488355328) (ha : RdS w lo hi A l) :
    Calls Tryz.prog 39 #[.slice A l.length c, .string y] w fun e w' => e = .returned (.string (joinB l y)) ∧ Qt w w' := by
  go_enter Tryz.func39, Tryz.ntmps39
  go_wp2
  go_loopw [5, 10] (fun v i wr => ∃ k : Nat, k ≤ l.length ∧ i = .int .i64 k ∧ v = .string (joinB (l.take k) y) ∧ Qt w wr) (fun _ i _ => l.length - (intOf i).toNat)
  case atStart => exact ⟨0, Nat.zero_le _, rfl, by rw [List.take_zero, joinB_zero], Qt.refl _⟩
  case round =>
    obtain ⟨k, hk, rfl, rfl, ⟨d, rfl⟩⟩ := hrel
    by_cases hlt : k < l.length
    · obtain ⟨b, off, rfl, h1, h2, hc⟩ := ha (by omega)
      have g1 := hc k hlt
      have hbk := hb (k + 1) hlt
      clear hc ha hb
      by_cases hk0 : k = 0
      · have HX := hide (joinB_one y (show 0 < l.length from by omega))
        subst hk0
        rw [Nat.zero_add, HX.out] at hbk
        have HZ := hide (show joinB (l.take 0) y = ⟨#[]⟩ from by rw [List.take_zero, joinB_zero])
        generalize l.getD 0 ByteArray.empty = X at g1 HX hbk
        generalize joinB (l.take 0) y = S at HZ
        have hbs : S.size + X.size ≤ 140737488355328 := by rw [HZ.out]; show 0 + X.size ≤ _; omega
        rw [Nat.add_zero] at g1
        have hd0 : decide ((0 : Int) < ((0 : Nat) : Int)) = false := by simp
        go_wp2
        go_roundw
        case rel => exact ⟨1, by omega, by go_num, by rw [HX.out, HZ.out]; exact congrArg Value.string (str_ext (by simp)), ⟨_, rfl⟩⟩
        case measure => simp [intOf]; omega
      · have HX := hide (joinB_succ y (show 0 < k from by omega) hlt)
        have hk1 : 0 < k := by omega
        rw [HX.out] at hbk
        generalize l.getD k ByteArray.empty = X at g1 HX hbk
        generalize joinB (l.take k) y = S at HX hbk
        have hbs : S.size + y.size + X.size ≤ 140737488355328 := by simpa using hbk
        clear hbk
        have hd0 : decide ((0 : Int) < (k : Int)) = true := by rw [decide_eq_true_eq]; omega
        go_wp2
        go_roundw
        case rel => exact ⟨k + 1, by omega, by go_num, by rw [HX.out], ⟨_, rfl⟩⟩
        case measure => simp [intOf]; omega
    · go_wp2
      go_ret
      exact ⟨ret_str (by rw [List.take_of_length_le (by omega)]), ⟨_, rfl⟩⟩
end Go.Proofs.YtcecgbjolngdbaaGreatDoor
