/- Numbers are formatted and parsed. -/
import Derived.Test.YtcecgbjolngdbaaGreatDoorKit
import Derived.Test.YtcecgbjolngdbaaGreatDoorSets
import Derived.Test.YtcecgbjolngdbaaGreatDoorPlainNum
import Derived.Test.YtcecgbjolngdbaaGreatDoorLaid
import Derived.Test.YtcecgbjolngdbaaGreatDoorShelf
namespace Go.Proofs.YtcecgbjolngdbaaGreatDoor
open Go.ChangeShapes Go.WideShapes Go.ChangeAt Go.RowKit
set_option linter.unusedVariables false
set_option linter.unusedSimpArgs false

theorem dig_big {m : Nat} (h : 9 < m) : Lib.decDigits m = Lib.decDigits (m / 10) ++ [UInt8.ofNat (48 + m % 10)] := by rw [Lib.decDigits, dif_neg (by omega)]
theorem dig_small {m : Nat} (h : m ≤ 9) : Lib.decDigits m = [UInt8.ofNat (48 + m)] := by rw [Lib.decDigits, dif_pos (by omega)]
theorem par_yes {s : ByteArray} {v : Int} (h : parI s = if s ≠ ByteArray.empty ∧ fmtI v = s then some v else none) (h0 : s ≠ ByteArray.empty) (h1 : fmtI v = s) : okI s = true ∧ valI s = v := okI_some (by rw [h, if_pos ⟨h0, h1⟩])
theorem par_no {s : ByteArray} {v : Int} (h : parI s = if s ≠ ByteArray.empty ∧ fmtI v = s then some v else none) (h1 : ¬ fmtI v = s) : okI s = false ∧ valI s = 0 := okI_none (by rw [h, if_neg (fun hh => h1 hh.2)])
theorem tup2 {a b : Int} {c d : Bool} (h1 : a = b) (h2 : c = d) : Ending.returned (.tuple #[.int .i64 a, .bool c]) = .returned (.tuple #[.int .i64 b, .bool d]) := by rw [h1, h2]
theorem str_ne_list {a b : ByteArray} (h : ¬ a = b) : ¬ a.toList = b.toList := fun e => h (str_ext (by rw [ByteArray.toList_eq, ByteArray.toList_eq] at e; exact e))
theorem beq_list {a b : ByteArray} (h : ¬ a = b) : (a.toList == b.toList) = false := by rw [beq_eq_false_iff_ne]; exact str_ne_list h
theorem parI_empty : parI ByteArray.empty = none := by
  cases e : parI ByteArray.empty with
  | none => rfl
  | some n => exact absurd rfl (parI_iff.1 e).1
set_option maxHeartbeats 1600000 in
theorem specFormatNat_any (n : Nat) (w : World) (hn : n ≤ 100000) :
    Calls Tryz.prog 34 #[.int .i64 n] w fun e w' => e = .returned (.string ⟨(Lib.decDigits n).toArray⟩) ∧ Below w.heap.size w w' := by
  have hin : decide ((-100000 : Int) ≤ n ∧ (n : Int) ≤ 100000) = true := decide_eq_true (by omega)
  go_enter Tryz.func34, Tryz.ntmps34
  go_wp2_with fail
  refine (l01In_any n (-100000) 100000 _).mono ?_
  rintro e w1 ⟨rfl, rfl⟩
  rw [hin]
  clear hin
  go_wp2
  go_loopw [0, 3] (fun q v wr => ∃ (m : Nat) (t : List UInt8), m ≤ n ∧ q = .int .i64 m ∧ v = .string ⟨t.toArray⟩ ∧ Hid (Lib.decDigits m ++ t = Lib.decDigits n) ∧ Below w.heap.size w wr ∧ t.length + m ≤ n) (fun q _ _ => (intOf q).toNat)
  case atStart => exact ⟨n, [], Nat.le_refl _, rfl, rfl, hide (by simp), Below.refl _ _, by simp⟩
  case round =>
    obtain ⟨m, t, hm, rfl, rfl, HD, hB, ht⟩ := hrel
    by_cases hlt : 9 < m
    · have hd9 : decide ((9 : Int) < (m : Int)) = true := by rw [decide_eq_true_eq]; omega
      have hcv := conv_one (P := Tryz.prog) wr 42 9 5 Tryz.underlying42 Tryz.underlying5 Tryz.underlying9 (48 + (m : Int) % 10) (by omega) (by omega)
      have HX := hide (dig_big hlt)
      have he : (48 + (m : Int) % 10).toNat = 48 + m % 10 := by omega
      rw [he] at hcv
      clear he
      generalize UInt8.ofNat (48 + m % 10) = u at hcv HX
      have hsz := hB.size
      go_wp2
      go_roundw
      case rel => exact ⟨m / 10, u :: t, by omega, by go_num, rfl, hide (by have := HD.out; rw [HX.out] at this; simpa using this), hB.alloc hsz _, by simp; omega⟩
      case measure => simp [intOf]; omega
    · have hd9 : decide ((9 : Int) < (m : Int)) = false := by rw [decide_eq_false_iff_not]; omega
      have hcv := conv_one (P := Tryz.prog) wr 42 9 5 Tryz.underlying42 Tryz.underlying5 Tryz.underlying9 (48 + (m : Int)) (by omega) (by omega)
      have HX := hide (dig_small (m := m) (by omega))
      have he : (48 + (m : Int)).toNat = 48 + m := by omega
      rw [he] at hcv
      clear he
      generalize UInt8.ofNat (48 + m) = u at hcv HX
      have HE := hide (show (⟨[u].toArray⟩ ++ ⟨t.toArray⟩ : ByteArray) = ⟨(Lib.decDigits n).toArray⟩ from by have := HD.out; rw [HX.out] at this; rw [← this]; apply str_ext; simp)
      have hsz := hB.size
      go_wp2
      go_ret
      exact ⟨ret_str (by rw [← HE.out]), hB.alloc hsz _⟩
theorem specFormatInt_any (n : Int) (w : World) :
    Calls Tryz.prog 34 #[.int .i64 n] w fun e w' => e = .returned (.string (fmtI n)) ∧ Below w.heap.size w w' := by
  by_cases h : -100000 ≤ n ∧ n ≤ 100000
  · have HM := hide (fmtI_in h)
    by_cases h0 : n < 0
    · have hin : decide ((-100000 : Int) ≤ n ∧ n ≤ 100000) = true := decide_eq_true h
      obtain ⟨m, rfl⟩ : ∃ m : Nat, n = -(m : Int) := ⟨n.natAbs, by omega⟩
      have HI := hide (show Lib.itoa (-(m : Int)) = 45 :: Lib.decDigits m from by unfold Lib.itoa; rw [if_pos h0]; congr 2; omega)
      have hlen := decDigits_len (u := m) (by omega)
      have HE := hide (show (⟨#[45]⟩ ++ ⟨(Lib.decDigits m).toArray⟩ : ByteArray) = ⟨(Lib.itoa (-(m : Int))).toArray⟩ from by rw [HI.out]; apply str_ext; simp)
      generalize hX : (⟨(Lib.decDigits m).toArray⟩ : ByteArray) = X at HE
      have hsx : X.size ≤ 6 := by rw [← hX]; simpa [ByteArray.size] using hlen
      have HC := hide (specFormatNat_any m w (by omega))
      rw [hX] at HC
      clear hX HI hlen
      go_enter Tryz.func34, Tryz.ntmps34
      go_wp2_with fail
      refine (l01In_any (-(m : Int)) (-100000) 100000 _).mono ?_
      rintro e w1 ⟨rfl, rfl⟩
      rw [hin]
      clear hin
      go_wp2_with fail
      refine HC.out.mono ?_
      rintro e w1 ⟨rfl, hB⟩
      go_wp2
      go_ret
      exact ⟨ret_str (by rw [HM.out, ← HE.out]), hB⟩
    · obtain ⟨m, rfl⟩ : ∃ m : Nat, n = (m : Int) := ⟨n.toNat, by omega⟩
      have HI := hide (show Lib.itoa (m : Int) = Lib.decDigits m from by unfold Lib.itoa; rw [if_neg h0, Int.toNat_natCast])
      rw [HM.out, HI.out]
      exact specFormatNat_any m w (by omega)
  · have hin : decide ((-100000 : Int) ≤ n ∧ n ≤ 100000) = false := decide_eq_false h
    have HM := hide (fmtI_out h)
    go_enter Tryz.func34, Tryz.ntmps34
    go_wp2_with fail
    refine (l01In_any n (-100000) 100000 _).mono ?_
    rintro e w1 ⟨rfl, rfl⟩
    rw [hin]
    go_wp2
    go_ret
    exact ⟨ret_str HM.out.symm, Below.refl _ _⟩
theorem below_grow_ (w : World) (k : Nat) (os : Array Obj) : Below w.heap.size w (Sort.grow (w.drewN k) os) :=
  ⟨rfl, rfl, rfl, by show w.heap.size ≤ (w.heap ++ os).size; rw [Array.size_append]; omega, fun j hj => by show (w.heap ++ os)[j]? = w.heap[j]?; exact Array.getElem?_append_left hj⟩
theorem implFormatInt_any (n : Int) (hi : Nat) (w : World) (ld : LdT w hi) :
    Calls Tryz.prog 45 #[.int .i64 n] w fun e w' => e = .returned (.string (fmtI n)) ∧ Below w.heap.size w w' := by
  by_cases h : -100000 ≤ n ∧ n ≤ 100000
  · have HM := hide (fmtI_in h)
    have hin : decide ((-100000 : Int) ≤ n ∧ n ≤ 100000) = true := decide_eq_true h
    go_enter Tryz.func45, Tryz.ntmps45
    go_wp2_with fail
    refine (within_any n (-100000) 100000 _).mono ?_
    rintro e w1 ⟨rfl, rfl⟩
    rw [hin]
    clear hin
    go_wp2_with fail
    refine (Tryz.strconv_Itoa n (by omega) (by omega) w ld.tab).mono ?_
    rintro e w1 ⟨rfl, k, os, rfl⟩
    have HB := hide (below_grow_ w k os)
    generalize Sort.grow (w.drewN k) os = w1 at HB
    go_wp2
    go_ret
    exact ⟨ret_str HM.out.symm, HB.out⟩
  · have hin : decide ((-100000 : Int) ≤ n ∧ n ≤ 100000) = false := decide_eq_false h
    have HM := hide (fmtI_out h)
    go_enter Tryz.func45, Tryz.ntmps45
    go_wp2_with fail
    refine (within_any n (-100000) 100000 _).mono ?_
    rintro e w1 ⟨rfl, rfl⟩
    rw [hin]
    go_wp2
    go_ret
    exact ⟨ret_str HM.out.symm, Below.refl _ _⟩
set_option maxRecDepth 20000 in
set_option maxHeartbeats 3200000 in
theorem specParseInt_any (s : ByteArray) (w : World) (hs : s.size ≤ 16777216) :
    Calls Tryz.prog 57 #[.string s] w fun e w' => e = .returned (.tuple #[.int .i64 (valI s), .bool (okI s)]) ∧ Below w.heap.size w w' := by
  by_cases hz : s.size = 0
  · obtain rfl : s = ByteArray.empty := ByteArray.ext (Array.eq_empty_of_size_eq_zero hz)
    have HM := hide (okI_none parI_empty)
    have hem : ByteArray.empty.toList.isEmpty = true := str_empty_yes rfl
    go_enter Tryz.func57, Tryz.ntmps57
    go_wp2
    go_loopw [4, 6] (fun v i wr => i = .int .i64 0 ∧ v = .int .i64 0 ∧ w = wr) (fun _ _ _ => 0)
    case atStart => exact ⟨rfl, rfl, rfl⟩
    case round =>
      obtain ⟨rfl, rfl, rfl⟩ := hrel
      go_wp2
      go_ret2
      exact ⟨tup2 HM.out.2.symm HM.out.1.symm, Below.refl _ _⟩
  have h0 : 0 < s.size := by omega
  have hne : s ≠ ByteArray.empty := by rintro rfl; exact hz rfl
  have hem : s.toList.isEmpty = false := str_empty_no hne
  obtain ⟨nb, hnb⟩ : ∃ nb : Bool, ((s[0].toNat : Int) == 45) = nb := ⟨_, rfl⟩
  have HNB := hide (show nb = true ↔ s.data.toList.head? = some 45 from by rw [head_iff h0, ← hnb, beq_iff_eq]; omega)
  have HNE := hide hne; clear hne hz
  go_enter Tryz.func57, Tryz.ntmps57
  go_wp2
  clear hnb
  go_loopw [4, 6] (fun v i wr => ∃ k n : Nat, k ≤ s.size ∧ k ≤ 8 ∧ i = .int .i64 k ∧ v = .int .i64 n ∧ n < 100000000 ∧ Hid (Lib.decFrom 0 (bodyTo s k) = some n) ∧ Qt w wr) (fun _ i _ => s.size - (intOf i).toNat)
  case atStart => exact ⟨0, 0, Nat.zero_le _, Nat.zero_le _, rfl, rfl, by omega, hide (by unfold bodyTo; split <;> simp [Lib.decFrom]), Qt.refl _⟩
  case round =>
    obtain ⟨k, n, hk, hk8, rfl, rfl, hn, HV, ⟨d, rfl⟩⟩ := hrel
    by_cases hlt : k < s.size
    · by_cases hc : k = 0 ∧ nb = true
      · obtain ⟨rfl, rfl⟩ := hc
        have HV2 := hide (show Lib.decFrom 0 (bodyTo s 1) = some n from by
          have h := HNB.out.1 rfl
          have e0 : bodyTo s 0 = [] := by unfold bodyTo; split <;> simp
          have e1 : bodyTo s 1 = [] := by unfold bodyTo; rw [if_pos h]; simp
          have := HV.out; rw [e0] at this; rw [e1]; exact this)
        go_wp2
        go_roundw
        case rel => exact ⟨1, n, by omega, by omega, by go_num, rfl, hn, HV2, ⟨_, rfl⟩⟩
        case measure => simp [intOf]; omega
      · have HC := hide hc
        have hc2 : ¬ (k = 0 ∧ s.data.toList.head? = some 45) := fun h => HC.out ⟨h.1, HNB.out.2 h.2⟩
        have HC2 := hide hc2; clear hc2
        have hkb : ((k : Int) == 0) = false ∨ (k = 0 ∧ nb = false) := by
          by_cases e : k = 0
          · right; cases nb with
            | false => exact ⟨e, rfl⟩
            | true => exact absurd ⟨e, rfl⟩ hc
          · left; simp [e]
        clear hc
        have hx1 : (s[k].toNat : Int) < 256 := by have := s[k].toNat_lt; omega
        by_cases hbad : ((s[k].toNat : Int) - 48 < 0 ∨ 9 < (s[k].toNat : Int) - 48) ∨ 8 < s.size
        · have HP := hide (okI_none (show parI s = none from by
            rcases hbad with (h | h) | h
            · exact parI_bad hlt (by omega) (fun hh => HC2.out ⟨hh.1, by have := hh.1; subst this; exact (head_iff h0).2 hh.2⟩)
            · exact parI_bad hlt (by omega) (fun hh => HC2.out ⟨hh.1, by have := hh.1; subst this; exact (head_iff h0).2 hh.2⟩)
            · exact parI_long h))
          by_cases h1 : (s[k].toNat : Int) - 48 < 0
          · have hd1 : decide ((s[k].toNat : Int) - 48 < 0) = true := decide_eq_true (by omega)
            have hd1' : decide ((s[k].toNat : Int) < 48) = true := decide_eq_true (by omega)
            rcases hkb with hkb | ⟨rfl, rfl⟩
            all_goals go_wp2
            all_goals go_ret2
            all_goals exact ⟨tup2 HP.out.2.symm HP.out.1.symm, below_quiet (Below.refl _ _) _⟩
          by_cases h2 : 9 < (s[k].toNat : Int) - 48
          · have hd1 : decide ((s[k].toNat : Int) - 48 < 0) = false := decide_eq_false (by omega)
            have hd1' : decide ((s[k].toNat : Int) < 48) = false := decide_eq_false (by omega)
            have hd2 : decide (9 < (s[k].toNat : Int) - 48) = true := decide_eq_true (by omega)
            have hd2' : decide (57 < (s[k].toNat : Int)) = true := decide_eq_true (by omega)
            rcases hkb with hkb | ⟨rfl, rfl⟩
            all_goals go_wp2
            all_goals go_ret2
            all_goals exact ⟨tup2 HP.out.2.symm HP.out.1.symm, below_quiet (Below.refl _ _) _⟩
          have h3 : 8 < s.size := by omega
          have hd1 : decide ((s[k].toNat : Int) - 48 < 0) = false := decide_eq_false (by omega)
          have hd1' : decide ((s[k].toNat : Int) < 48) = false := decide_eq_false (by omega)
          have hd2 : decide (9 < (s[k].toNat : Int) - 48) = false := decide_eq_false (by omega)
          have hd2' : decide (57 < (s[k].toNat : Int)) = false := decide_eq_false (by omega)
          have hd3 : decide ((8 : Int) < (s.size : Int)) = true := decide_eq_true (by omega)
          clear hbad
          rcases hkb with hkb | ⟨rfl, rfl⟩
          all_goals go_wp2
          all_goals go_ret2
          all_goals exact ⟨tup2 HP.out.2.symm HP.out.1.symm, below_quiet (Below.refl _ _) _⟩
        · have h1 : ¬ ((s[k].toNat : Int) - 48 < 0) := fun h => hbad (.inl (.inl h))
          have h2 : ¬ (9 < (s[k].toNat : Int) - 48) := fun h => hbad (.inl (.inr h))
          have h3 : ¬ (8 < s.size) := fun h => hbad (.inr h)
          have hd1 : decide ((s[k].toNat : Int) - 48 < 0) = false := decide_eq_false (by omega)
          have hd1' : decide ((s[k].toNat : Int) < 48) = false := decide_eq_false (by omega)
          have hd2 : decide (9 < (s[k].toNat : Int) - 48) = false := decide_eq_false (by omega)
          have hd2' : decide (57 < (s[k].toNat : Int)) = false := decide_eq_false (by omega)
          have hd3 : decide ((8 : Int) < (s.size : Int)) = false := decide_eq_false (by omega)
          have HV2 := hide (bodyTo_step hlt HC2.out HV.out (by omega) (by omega))
          have hbd := bodyTo_bd (show k + 1 ≤ 8 by omega) HV2.out
          clear hbad
          rcases hkb with hkb | ⟨rfl, rfl⟩
          all_goals go_wp2
          all_goals go_roundw
          case rel => exact ⟨k + 1, n * 10 + (s[k].toNat - 48), by omega, by omega, by go_num, val_int (by omega), hbd, HV2, ⟨_, rfl⟩⟩
          case measure => simp [intOf]; omega
          case rel => exact ⟨1, n * 10 + (s[0].toNat - 48), by omega, by omega, by go_num, val_int (by omega), hbd, HV2, ⟨_, rfl⟩⟩
          case measure => simp [intOf]; omega
    · obtain rfl : k = s.size := by omega
      have hHC := hide (specFormatInt_any (if nb = true then -(n : Int) else (n : Int)) (w.drewN d))
      have HQ : Hid (parI s = if s ≠ ByteArray.empty ∧ fmtI (if nb = true then -(n : Int) else (n : Int)) = s then some (if nb = true then -(n : Int) else (n : Int)) else none) := hide (by
        cases nb with
        | true => exact parI_end_neg (HNB.out.1 rfl) HV.out
        | false => exact parI_end_pos (fun h => by have := HNB.out.2 h; cases this) HV.out)
      cases nb with
      | true =>
        simp only [if_true] at hHC HQ
        go_wp2_with fail
        refine hHC.out.mono ?_
        rintro e w1 ⟨rfl, hB⟩
        have hB := (below_quiet (Below.refl w.heap.size w) d).trans (hB.mono (Nat.le_refl _))
        by_cases hf : fmtI (-(n : Int)) = s
        · have HP := hide (par_yes HQ.out HNE.out hf)
          rw [hf]
          clear hf hHC HQ
          go_wp2
          go_ret2
          exact ⟨tup2 HP.out.2.symm HP.out.1.symm, hB⟩
        · have HP := hide (par_no HQ.out hf)
          have hf1 := str_ne_list hf
          have hf2 := beq_list hf
          clear hf hHC HQ
          go_wp2
          go_ret2
          exact ⟨tup2 HP.out.2.symm HP.out.1.symm, hB⟩
      | false =>
        simp only [Bool.false_eq_true, if_false] at hHC HQ
        go_wp2_with fail
        refine hHC.out.mono ?_
        rintro e w1 ⟨rfl, hB⟩
        have hB := (below_quiet (Below.refl w.heap.size w) d).trans (hB.mono (Nat.le_refl _))
        by_cases hf : fmtI (n : Int) = s
        · have HP := hide (par_yes HQ.out HNE.out hf)
          rw [hf]
          clear hf hHC HQ
          go_wp2
          go_ret2
          exact ⟨tup2 HP.out.2.symm HP.out.1.symm, hB⟩
        · have HP := hide (par_no HQ.out hf)
          have hf1 := str_ne_list hf
          have hf2 := beq_list hf
          clear hf hHC HQ
          go_wp2
          go_ret2
          exact ⟨tup2 HP.out.2.symm HP.out.1.symm, hB⟩
set_option maxHeartbeats 1600000 in
theorem implParseInt_any (s : ByteArray) (hi : Nat) (w : World) (hs : s.size ≤ 16777216) (ld : LdE w hi) (hhi : hi ≤ w.heap.size) :
    Calls Tryz.prog 84 #[.string s] w fun e w' => e = .returned (.tuple #[.int .i64 (valI s), .bool (okI s)]) ∧ Below w.heap.size w w' := by
  rcases hat : Lib.atoiAll s.data.toList with v | _ | _
  case ok =>
    have HQ := hide (parI_ok hat)
    have hb := Lib.atoiAll_bounds hat
    have hne : s ≠ ByteArray.empty := by rintro rfl; exact absurd hat (by simp [Lib.atoiAll])
    have hem : s.toList.isEmpty = false := str_empty_no hne
    have HNE := hide hne; clear hne
    go_enter Tryz.func84, Tryz.ntmps84
    go_wp2_with fail
    refine (Tryz.strconv_Atoi_ok s (by omega) v hat w).mono ?_
    rintro e w1 ⟨rfl, hw⟩
    have hB : Below w.heap.size w w1 := by
      rcases hw with rfl | ⟨t, rfl⟩
      · exact Below.refl _ _
      · exact Lib.bytesWorld_below _ _ _
    have ld1 := ld.t.below hB hhi
    clear hw hat
    have HC := hide (implFormatInt_any v hi w1 ld1)
    go_wp2_with fail
    refine HC.out.mono ?_
    rintro e w2 ⟨rfl, hB2⟩
    have hB := hB.trans (hB2.mono hB.size)
    clear hB2
    by_cases hf : fmtI v = s
    · have HP := hide (par_yes HQ.out HNE.out hf)
      rw [hf]
      clear hf HC HQ
      go_wp2
      go_ret2
      exact ⟨tup2 HP.out.2.symm HP.out.1.symm, hB⟩
    · have HP := hide (par_no HQ.out hf)
      have hf1 := str_ne_list hf
      have hf2 := beq_list hf
      clear hf HC HQ
      go_wp2
      go_ret2
      exact ⟨tup2 HP.out.2.symm HP.out.1.symm, hB⟩
  · have HP := hide (okI_none (parI_fail (fun v h => by rw [hat] at h; cases h)))
    obtain ⟨_, ⟨tp, p, hv⟩, _⟩ := ld
    go_enter Tryz.func84, Tryz.ntmps84
    go_wp2_with fail
    refine (Tryz.strconv_Atoi_syntax_var s (by omega) hat tp p w hv).mono ?_
    rintro e w1 ⟨N, rfl, _, _, hB⟩
    clear hat hv
    go_wp2
    go_ret2
    exact ⟨tup2 HP.out.2.symm HP.out.1.symm, hB⟩
  · have HP := hide (okI_none (parI_range hat))
    obtain ⟨_, _, ⟨tp, p, hv⟩, _⟩ := ld
    go_enter Tryz.func84, Tryz.ntmps84
    go_wp2_with fail
    refine (Tryz.strconv_Atoi_range_var s (by omega) hat tp p w hv).mono ?_
    rintro e w1 ⟨N, rfl, _, _, hB⟩
    have hb := Lib.atoiSat_bounds s.data.toList
    clear hat hv
    generalize Lib.atoiSat s.data.toList = q at hb ⊢
    go_wp2
    go_ret2
    exact ⟨tup2 HP.out.2.symm HP.out.1.symm, hB⟩
end Go.Proofs.YtcecgbjolngdbaaGreatDoor
