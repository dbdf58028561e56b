/- Numbers are formatted and parsed. -/
import Derived.Test.YtebfijjcmmlbjaaDoorKit
import Derived.Test.YtebfijjcmmlbjaaDoorSets
import Derived.Test.YtebfijjcmmlbjaaDoorPlainNum
import Derived.Test.YtebfijjcmmlbjaaDoorLaid
import Derived.Test.YtebfijjcmmlbjaaDoorShelf
namespace Go.Proofs.YtebfijjcmmlbjaaDoor
open Go.ChangeShapes Go.WideShapes Go.ChangeAt Go.RowKit
set_option linter.unusedVariables false
set_option linter.unusedSimpArgs false

theorem dig_big {m : Nat} (h : 9 < m) : Lib.decDigits m = Lib.decDigits (m / 10) ++ [UInt8.ofNat (48 + m % 10)] := by rw [Lib.decDigits, dif_neg (by omega)]
theorem dig_small {m : Nat} (h : m ≤ 9) : Lib.decDigits m = [UInt8.ofNat (48 + m)] := by rw [Lib.decDigits, dif_pos (by omega)]
theorem par_yes {s : ByteArray} {v : Int} (h : parI s = if s ≠ ByteArray.empty ∧ fmtI v = s then some v else none) (h0 : s ≠ ByteArray.empty) (h1 : fmtI v = s) : okI s = true ∧ valI s = v := okI_some (by rw [h, if_pos ⟨h0, h1⟩])
theorem par_no {s : ByteArray} {v : Int} (h : parI s = if s ≠ ByteArray.empty ∧ fmtI v = s then some v else none) (h1 : ¬ fmtI v = s) : okI s = false ∧ valI s = 0 := okI_none (by rw [h, if_neg (fun hh => h1 hh.2)])
theorem tup2 {a b : Int} {c d : Bool} (h1 : a = b) (h2 : c = d) : Ending.returned (.tuple #[.int .i64 a, .bool c]) = .returned (.tuple #[.int .i64 b, .bool d]) := by rw [h1, h2]
theorem str_ne_list {a b : ByteArray} (h : ¬ a = b) : ¬ a.toList = b.toList := fun e => h (str_ext (by rw [ByteArray.toList_eq, ByteArray.toList_eq] at e; exact e))
theorem beq_list {a b : ByteArray} (h : ¬ a = b) : (a.toList == b.toList) = false := by rw [beq_eq_false_iff_ne]; exact str_ne_list h
theorem parI_empty : parI ByteArray.empty = none := by
  cases e : parI ByteArray.empty with
  | none => rfl
  | some n => exact absurd rfl (parI_iff.1 e).1
theorem below_grow_ (w : World) (k : Nat) (os : Array Obj) : Below w.heap.size w (Sort.grow (w.drewN k) os) :=
  ⟨rfl, rfl, rfl, by show w.heap.size ≤ (w.heap ++ os).size; rw [Array.size_append]; omega, fun j hj => by show (w.heap ++ os)[j]? = w.heap[j]?; exact Array.getElem?_append_left hj⟩
theorem implFormatInt_any (n : Int) (hi : Nat) (w : World) (ld : LdT w hi) :
    Calls Tryd.prog 8 #[.int .i64 n] w fun e w' => e = .returned (.string (fmtI n)) ∧ Below w.heap.size w w' := by
  by_cases h : -100000 ≤ n ∧ n ≤ 100000
  · have HM := hide (fmtI_in h)
    have hin : decide ((-100000 : Int) ≤ n ∧ n ≤ 100000) = true := decide_eq_true h
    go_enter Tryd.func8, Tryd.ntmps8
    go_wp2_with fail
    refine (within_any n (-100000) 100000 _).mono ?_
    rintro e w1 ⟨rfl, rfl⟩
    rw [hin]
    clear hin
    go_wp2_with fail
    refine (Tryd.strconv_Itoa n (by omega) (by omega) w ld.tab).mono ?_
    rintro e w1 ⟨rfl, k, os, rfl⟩
    have HB := hide (below_grow_ w k os)
    generalize Sort.grow (w.drewN k) os = w1 at HB
    go_wp2
    go_ret
    exact ⟨ret_str HM.out.symm, HB.out⟩
  · have hin : decide ((-100000 : Int) ≤ n ∧ n ≤ 100000) = false := decide_eq_false h
    have HM := hide (fmtI_out h)
    go_enter Tryd.func8, Tryd.ntmps8
    go_wp2_with fail
    refine (within_any n (-100000) 100000 _).mono ?_
    rintro e w1 ⟨rfl, rfl⟩
    rw [hin]
    go_wp2
    go_ret
    exact ⟨ret_str HM.out.symm, Below.refl _ _⟩
set_option maxHeartbeats 1600000 in
theorem implParseInt_any (s : ByteArray) (hi : Nat) (w : World) (hs : s.size ≤ 16777216) (ld : LdE w hi) (hhi : hi ≤ w.heap.size) :
    Calls Tryd.prog 7 #[.string s] w fun e w' => e = .returned (.tuple #[.int .i64 (valI s), .bool (okI s)]) ∧ Below w.heap.size w w' := by
  rcases hat : Lib.atoiAll s.data.toList with v | _ | _
  case ok =>
    have HQ := hide (parI_ok hat)
    have hb := Lib.atoiAll_bounds hat
    have hne : s ≠ ByteArray.empty := by rintro rfl; exact absurd hat (by simp [Lib.atoiAll])
    have hem : s.toList.isEmpty = false := str_empty_no hne
    have HNE := hide hne; clear hne
    go_enter Tryd.func7, Tryd.ntmps7
    go_wp2_with fail
    refine (Tryd.strconv_Atoi_ok s (by omega) v hat w).mono ?_
    rintro e w1 ⟨rfl, hw⟩
    have hB : Below w.heap.size w w1 := by
      rcases hw with rfl | ⟨t, rfl⟩
      · exact Below.refl _ _
      · exact Lib.bytesWorld_below _ _ _
    have ld1 := ld.t.below hB hhi
    clear hw hat
    have HC := hide (implFormatInt_any v hi w1 ld1)
    go_wp2_with fail
    refine HC.out.mono ?_
    rintro e w2 ⟨rfl, hB2⟩
    have hB := hB.trans (hB2.mono hB.size)
    clear hB2
    by_cases hf : fmtI v = s
    · have HP := hide (par_yes HQ.out HNE.out hf)
      rw [hf]
      clear hf HC HQ
      go_wp2
      go_ret2
      exact ⟨tup2 HP.out.2.symm HP.out.1.symm, hB⟩
    · have HP := hide (par_no HQ.out hf)
      have hf1 := str_ne_list hf
      have hf2 := beq_list hf
      clear hf HC HQ
      go_wp2
      go_ret2
      exact ⟨tup2 HP.out.2.symm HP.out.1.symm, hB⟩
  · have HP := hide (okI_none (parI_fail (fun v h => by rw [hat] at h; cases h)))
    obtain ⟨_, ⟨tp, p, hv⟩, _⟩ := ld
    go_enter Tryd.func7, Tryd.ntmps7
    go_wp2_with fail
    refine (Tryd.strconv_Atoi_syntax_var s (by omega) hat tp p w hv).mono ?_
    rintro e w1 ⟨N, rfl, _, _, hB⟩
    clear hat hv
    go_wp2
    go_ret2
    exact ⟨tup2 HP.out.2.symm HP.out.1.symm, hB⟩
  · have HP := hide (okI_none (parI_range hat))
    obtain ⟨_, _, ⟨tp, p, hv⟩, _⟩ := ld
    go_enter Tryd.func7, Tryd.ntmps7
    go_wp2_with fail
    refine (Tryd.strconv_Atoi_range_var s (by omega) hat tp p w hv).mono ?_
    rintro e w1 ⟨N, rfl, _, _, hB⟩
    have hb := Lib.atoiSat_bounds s.data.toList
    clear hat hv
    generalize Lib.atoiSat s.data.toList = q at hb ⊢
    go_wp2
    go_ret2
    exact ⟨tup2 HP.out.2.symm HP.out.1.symm, hB⟩
end Go.Proofs.YtebfijjcmmlbjaaDoor
