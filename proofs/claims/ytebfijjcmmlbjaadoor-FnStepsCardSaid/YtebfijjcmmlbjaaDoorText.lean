/- The functions on words: what they compute. -/
import Derived.Test.YtebfijjcmmlbjaaDoorKit
import Derived.Test.YtebfijjcmmlbjaaDoorPlain
import Derived.Test.YtebfijjcmmlbjaaDoorSets
import Derived.Test.YtebfijjcmmlbjaaDoorShelf
namespace Go.Proofs.YtebfijjcmmlbjaaDoor
open Go.ChangeShapes Go.WideShapes Go.ChangeAt Go.RowKit
set_option linter.unusedVariables false

theorem Tryd.infoStr : (Tryd.prog.info? 9).map (fun i => (i.zero, i.size, i.bytes)) = some (some (.string ByteArray.empty), 1, 16) := by kernel_rfl
theorem indexByte_any (y : ByteArray) (c : UInt8) (w : World) (hy : y.size ≤ 16777216) :
    Calls Tryd.prog 35 #[.string y, .int .u8 (c.toNat : Int)] w fun e w' => ∃ n, e = .returned (.int .i64 n) ∧ ((n = -1 ∧ memB y c = false) ∨ (0 ≤ n ∧ n ≤ 16777216 ∧ memB y c = true)) ∧ w = w' := by
  refine (Tryd.strings_IndexByte y (c.toNat : Int) w).mono fun e w' ⟨he, hw⟩ => ?_
  have hc : (c.toNat : Int).toNat.toUInt8 = c := by simp
  rw [hc] at he
  refine ⟨_, he, ?_, hw.symm⟩
  have hl : y.data.toList.length = y.size := by simp
  rcases indexByte_bd y.data.toList c with ⟨h1, h2⟩ | ⟨h1, h2, h3⟩
  · exact .inl ⟨h1, decide_eq_false h2⟩
  · exact .inr ⟨h1, by omega, decide_eq_true h3⟩
set_option maxHeartbeats 1600000 in
theorem implSplitAny_any (s y : ByteArray) (w : World) (hs : s.size ≤ 16777216) (hy : y.size ≤ 16777216) :
    Calls Tryd.prog 13 #[.string s, .string y] w fun e w' => ∃ A c, e = .returned (.slice A (splitAny s y).length c) ∧ OwnR w' w.heap.size w'.heap.size 9 1 A (splitAny s y).length c ((splitAny s y).map .string) ∧ Below w.heap.size w w' := by
  have hO0 := OwnR.made w w.heap.size 9 1 #[] 0 (Nat.le_refl _) (by unfold maxLen; omega) rfl
  go_enter Tryd.func13, Tryd.ntmps13
  go_wp2
  go_loopw [5, 6, 11] (fun v fr i wr => ∃ (k : Nat) (A : Option Addr) (c : Nat), k ≤ s.size ∧ i = .int .i64 k ∧ fr = .int .i64 (splitTo s y k).2 ∧ v = .slice A (splitTo s y k).1.length c ∧ OwnR wr w.heap.size wr.heap.size 9 1 A (splitTo s y k).1.length c ((splitTo s y k).1.map .string) ∧ Below w.heap.size w wr) (fun _ _ i _ => s.size - (intOf i).toNat)
  case atStart => exact ⟨0, _, _, Nat.zero_le _, rfl, rfl, rfl, by simpa [splitTo] using hO0, (Below.refl _ _).alloc (Nat.le_refl _) _⟩
  case round =>
    obtain ⟨k, A1, c1, hk, rfl, rfl, rfl, hO, hB⟩ := hrel
    clear hO0
    by_cases hlt : k < s.size
    · have HX := hide (splitTo_succ (s := s) (y := y) hlt)
      have hbd := splitTo_bd s y k
      generalize splitTo s y k = r at hO HX hbd
      obtain ⟨S, F⟩ := r
      obtain ⟨hS, hF⟩ := hbd
      simp only at hS hF hO
      have hsz := hB.size
      go_wp2_with fail
      refine (indexByte_any y s[k] _ hy).mono ?_
      rintro e w1 ⟨n, rfl, hn, rfl⟩
      rcases hn with ⟨rfl, hm⟩ | ⟨h0, h1, hm⟩
      · have HM := hide hm; clear hm
        go_wp2
        go_roundw
        case rel => exact ⟨k + 1, A1, c1, by omega, by go_num, by rw [HX.out, if_neg (by rw [HM.out]; decide)], by rw [HX.out, if_neg (by rw [HM.out]; decide)], hO.eqn (by rw [HX.out, if_neg (by rw [HM.out]; decide)]) (by rw [HX.out, if_neg (by rw [HM.out]; decide)]), hB⟩
        case measure => simp [intOf]; omega
      · have HM := hide hm; clear hm
        go_wp2_with (at_builtin; go_must (refine wpList_push _ (.tmp 20) (.tmp 25) 34 9 _ 1 16 Tryd.underlying34 Tryd.infoStr rfl (by omega) w.heap.size _ A1 S.length c1 _ (hO.alloc _) wr.heap.size 0 1 1 [.string (s.extract F k)] rfl (one_new _ _ _) (one_cell rfl) (by omega) (by omega) (by simp; omega) w.heap.size w (hB.alloc (by simpa using hsz) _) (Nat.le_refl _) ?_ rfl rfl rfl rfl))
        intro A' c' w' hO' hB' hs' _
        clear hO hB
        go_wp2
        go_roundw
        case rel => exact ⟨k + 1, A', c', by omega, by go_num, by rw [HX.out, if_pos HM.out]; go_num, by rw [HX.out, if_pos HM.out]; simp, hO'.eqn (by rw [HX.out, if_pos HM.out]; simp) (by rw [HX.out, if_pos HM.out]; simp), hB'⟩
        case measure => simp [intOf]; omega
    · obtain rfl : k = s.size := by omega
      have HX := hide (show splitAny s y = (splitTo s y s.size).1 ++ [s.extract (splitTo s y s.size).2 s.size] from rfl)
      have hbd := splitTo_bd s y s.size
      generalize splitTo s y s.size = r at hO HX hbd
      obtain ⟨S, F⟩ := r
      obtain ⟨hS, hF⟩ := hbd
      simp only at hS hF hO
      have hsz := hB.size
      go_wp2_with (at_builtin; go_must (refine wpList_push _ (.tmp 30) (.tmp 34) 34 9 _ 1 16 Tryd.underlying34 Tryd.infoStr rfl (by omega) w.heap.size _ A1 S.length c1 _ (hO.alloc _) wr.heap.size 0 1 1 [.string (s.extract F s.size)] rfl (one_new _ _ _) (one_cell rfl) (by omega) (by omega) (by simp; omega) w.heap.size w (hB.alloc (by simpa using hsz) _) (Nat.le_refl _) ?_ rfl rfl rfl rfl))
      intro A' c' w' hO' hB' hs' _
      clear hO hB
      go_wp2
      go_ret
      exact ⟨A', c', by rw [HX.out]; simp, hO'.eqn (by rw [HX.out]; simp) (by rw [HX.out]; simp), hB'⟩
set_option maxHeartbeats 1600000 in
theorem implIsName_any (s : ByteArray) (w : World) (hs : s.size ≤ 16777216) :
    Calls Tryd.prog 14 #[.string s] w fun e w' => e = .returned (.bool (isNm s)) ∧ w = w' := by
  go_enter Tryd.func14, Tryd.ntmps14
  go_wp2
  go_loop [7] (fun i => ∃ k : Nat, k ≤ s.size ∧ i = .int .i64 k ∧ Hid (∀ j, j < k → goodAt s j = true)) (fun i => s.size - (intOf i).toNat)
  case atStart => exact ⟨0, Nat.zero_le _, rfl, hide (fun j h => absurd h (by omega))⟩
  case round =>
    obtain ⟨k, hk, rfl, H⟩ := hrel
    by_cases hlt : k < s.size
    · have HG := hide (goodAt_def hlt)
      by_cases ha : 97 ≤ (s[k].toNat : Int) ∧ (s[k].toNat : Int) ≤ 122
      · obtain ⟨ha1, ha2⟩ := ha
        have hd1 : decide ((s[k].toNat : Int) ≤ 122) = true := by simpa using ha2
        go_wp2
        go_round
        case rel =>
          refine ⟨k + 1, by omega, by go_num, hide (fun j hj => ?_)⟩
          by_cases e : j = k
          · subst e; rw [HG.out]; simp [ha1, ha2]
          · exact H.out j (by omega)
        case measure => simp [intOf]; omega
      · have hlow : (decide (97 ≤ (s[k].toNat : Int)) && decide ((s[k].toNat : Int) ≤ 122)) = false := by simp; omega
        have HL := hide hlow; clear hlow
        by_cases hk0 : k = 0
        · have hfin : false = isNm s := isNm_no hlt (by rw [HG.out, HL.out]; simp [hk0])
          have HF := hide hfin; clear hfin HG HL H
          subst hk0
          by_cases h1 : 97 ≤ (s[0].toNat : Int)
          · have h2 : ¬ (s[0].toNat : Int) ≤ 122 := by omega
            have hd2 : decide ((s[0].toNat : Int) ≤ 122) = false := decide_eq_false h2
            go_wp2
            all_goals go_ret
            all_goals exact ⟨ret_bool HF.out, rfl⟩
          · have hd1 : decide (97 ≤ (s[0].toNat : Int)) = false := decide_eq_false h1
            go_wp2
            all_goals go_ret
            all_goals exact ⟨ret_bool HF.out, rfl⟩
        · have HK := hide hk0
          have hke : ((k : Int) == 0) = false := by simp; omega
          clear hk0
          by_cases hc : 48 ≤ (s[k].toNat : Int) ∧ (s[k].toNat : Int) ≤ 57
          · have h1 : ¬ 97 ≤ (s[k].toNat : Int) := by omega
            have hd1 : decide (97 ≤ (s[k].toNat : Int)) = false := decide_eq_false h1
            have hd3 : decide ((s[k].toNat : Int) < 48) = false := decide_eq_false (by omega)
            have hd4 : decide (57 < (s[k].toNat : Int)) = false := decide_eq_false (by omega)
            go_wp2
            go_round
            case rel =>
              refine ⟨k + 1, by omega, by go_num, hide (fun j hj => ?_)⟩
              by_cases e : j = k
              · subst e; rw [HG.out]; simp [HK.out, hc.1, hc.2]
              · exact H.out j (by omega)
            case measure => simp [intOf]; omega
          · have HC := hide (show (decide (48 ≤ (s[k].toNat : Int)) && decide ((s[k].toNat : Int) ≤ 57)) = false from by simp; omega)
            have hfin : false = isNm s := isNm_no hlt (by rw [HG.out, HL.out, HC.out]; simp)
            have HF := hide hfin; clear hfin
            clear HG H HL HC
            by_cases h0 : (s[k].toNat : Int) < 48
            · have hd1 : decide (97 ≤ (s[k].toNat : Int)) = false := decide_eq_false (by omega)
              have hd3 : decide ((s[k].toNat : Int) < 48) = true := decide_eq_true h0
              go_wp2
              go_ret
              exact ⟨ret_bool HF.out, rfl⟩
            · have h4 : 57 < (s[k].toNat : Int) := by omega
              have hd3 : decide ((s[k].toNat : Int) < 48) = false := decide_eq_false h0
              have hd4 : decide (57 < (s[k].toNat : Int)) = true := decide_eq_true h4
              clear hc
              by_cases h1 : 97 ≤ (s[k].toNat : Int)
              · have h2 : ¬ (s[k].toNat : Int) ≤ 122 := by omega
                have hd2 : decide ((s[k].toNat : Int) ≤ 122) = false := decide_eq_false h2
                go_wp2
                go_ret
                exact ⟨ret_bool HF.out, rfl⟩
              · have hd1 : decide (97 ≤ (s[k].toNat : Int)) = false := decide_eq_false h1
                go_wp2
                go_ret
                exact ⟨ret_bool HF.out, rfl⟩
    · have HF := hide (isNm_end (s := s) (fun j hj => H.out j (by omega)))
      clear H
      go_wp2_with fail
      refine (within_any _ _ _ _).mono ?_
      rintro e w1 ⟨rfl, rfl⟩
      rw [HF.out]
      go_wp2
      go_ret
      exact ⟨rfl, rfl⟩
set_option maxHeartbeats 1600000 in
theorem implSplitLines_any (s : ByteArray) (w : World) (hs : s.size ≤ 16777215) :
    Calls Tryd.prog 15 #[.string s] w fun e w' => ∃ A c, e = .returned (.slice A (splitLines s).length c) ∧ OwnR w' w.heap.size w'.heap.size 9 1 A (splitLines s).length c ((splitLines s).map .string) ∧ Below w.heap.size w w' := by
  go_enter Tryd.func15, Tryd.ntmps15
  go_wp2_with fail
  refine (implSplitAny_any s newline _ (by omega) (by decide)).mono ?_
  rintro e w1 ⟨A, c, rfl, hO, hB⟩
  have HL := hide (splitAny_len s newline)
  have HP := hide (splitAny_pos s newline)
  have HD1 := hide (fun m => @splitLines_cut s m)
  have HD2 := hide (fun m => @splitLines_all s m)
  generalize splitAny s newline = l at hO HL HP HD1 HD2
  have hl := HL.out
  obtain ⟨m, hm⟩ : ∃ m, l.length = m + 1 := ⟨l.length - 1, by have := HP.out; omega⟩
  have HM := hide hm
  rw [hm] at hO ⊢
  rw [hm] at hl
  clear HL HP
  obtain ⟨g, rfl, h1, h2, h3⟩ := hO.some_ (by omega)
  have g1 := hO.cellAt m (by omega)
  have hx : (l.map Value.string)[m]? = some (.string (l.getD m ByteArray.empty)) := by simp [hm]
  rw [hx] at g1
  clear hx hm
  have hmc : m + 1 ≤ c := by
    rcases hO.1.2 with ⟨hv, _⟩ | ⟨g', cap, cur, hv, _, _, hnc, _⟩
    · cases hv
    · simp at hv
      omega
  by_cases he : l.getD m ByteArray.empty = ByteArray.empty
  · have HE := hide (HD1.out m HM.out he)
    rw [he] at g1
    clear he HD1 HD2
    go_wp2
    go_ret
    have hlen : (splitLines s).length = m := by rw [HE.out, List.length_take, HM.out]; omega
    exact ⟨_, _, by rw [hlen]; simp, (hO.cut (m := m) (by omega)).eqn hlen.symm (by rw [HE.out]; simp), hB⟩
  · have HE := hide (HD2.out m HM.out he)
    have hN := str_empty_no he
    clear HD1 HD2 he
    generalize l.getD m ByteArray.empty = X at g1 hN
    go_wp2
    go_ret
    have hlen : (splitLines s).length = m + 1 := by rw [HE.out, HM.out]
    exact ⟨_, _, by rw [hlen]; simp, hO.eqn hlen.symm (by rw [HE.out]), hB⟩
set_option maxHeartbeats 800000 in
theorem implJoin_any (A : Option Addr) (l : List ByteArray) (c lo hi : Nat) (y : ByteArray) (w : World) (hl : l.length ≤ 16777216) (hcap : l.length ≤ c) (hb : (Lib.join (l.map (·.data.toList)) y.data.toList).length ≤ 140737488355328) (ha : RdS w lo hi A l) (hhi : hi ≤ w.heap.size) :
    Calls Tryd.prog 12 #[.slice A l.length c, .string y] w fun e w' => e = .returned (.string (joinB l y)) ∧ Below w.heap.size w w' := by
  by_cases h0 : l.length = 0
  · obtain rfl : l = [] := List.eq_nil_of_length_eq_zero h0
    clear h0
    go_enter Tryd.func12, Tryd.ntmps12
    go_wp2_with fail
    refine (Tryd.strings_Join_none A c y _).mono ?_
    rintro e w1 ⟨rfl, rfl⟩
    have HZ := hide (joinB_zero y)
    go_wp2
    go_ret
    exact ⟨ret_str HZ.out.symm, Below.refl _ _⟩
  · obtain ⟨b, off, rfl, h1, h2, hc⟩ := ha (by omega)
    have hc' : ∀ (j : Nat) x, l[j]? = some x → w.cell? ⟨b, off + j, none⟩ = some (.string x) := by
      intro j x hj
      obtain ⟨hj1, hj2⟩ := List.getElem?_eq_some_iff.1 hj
      rw [hc j hj1, getD_get _ hj1, hj2]
    have HC := hide hc'; clear hc' hc
    have HB := hide hb; clear hb
    go_enter Tryd.func12, Tryd.ntmps12
    go_wp2_with fail
    refine (Tryd.strings_Join b off c l y _ (by exact HC.out) (by omega) (by omega) hcap HB.out).mono ?_
    rintro e w1 ⟨rfl, hB⟩
    have HZ := hide (show joinB l y = ⟨(Lib.join (l.map (·.data.toList)) y.data.toList).toArray⟩ from rfl)
    generalize (Lib.join (l.map (·.data.toList)) y.data.toList).toArray = J at HZ
    go_wp2
    go_ret
    exact ⟨ret_str HZ.out.symm, hB⟩
end Go.Proofs.YtebfijjcmmlbjaaDoor
