/- What the laws' own helpers do: copies, comparisons, marks of rows of integers and strings. -/
import Derived.Test.YtcecgbjolngdbaaGreatDoorKit
import Derived.Test.YtcecgbjolngdbaaGreatDoorChecked
namespace Go.Proofs.YtcecgbjolngdbaaGreatDoor
open Go.ChangeShapes Go.WideShapes Go.ChangeAt Go.RowKit
set_option linter.unusedVariables false

theorem Tryz.infoInt : (Tryz.prog.info? 3).map (fun i => (i.zero, i.size, i.bytes)) = some (some (.int .i64 0), 1, 8) := by kernel_rfl
set_option maxHeartbeats 800000 in
theorem toIntS_any (A : Option Addr) (l : List Int) (c lo hi : Nat) (w : World) (hl : l.length ≤ 16777216) (ha : RdI w lo hi A l) (hhi : hi ≤ w.heap.size) :
    Calls Tryz.prog 43 #[.slice A l.length c] w fun e w' => ∃ A' c', e = .returned (.slice A' l.length c') ∧ OwnR w' w.heap.size w'.heap.size 3 1 A' l.length c' (l.map (.int .i64)) ∧ Below w.heap.size w w' := by
  have hmk := run_make_row' (P := Tryz.prog) 25 3 (.int .i64 0) 8 Tryz.underlying25 Tryz.infoInt rfl .i64 .i64 l.length (by omega) (by omega)
  have hO0 := OwnR.made w w.heap.size 3 1 (madeCells #[.int .i64 0] l.length) l.length (Nat.le_refl _) (by unfold maxLen; omega) (by simp [size_madeCells])
  rw [toList_madeCells_one] at hO0
  have HO := hide hO0; clear hO0
  go_enter Tryz.func43, Tryz.ntmps43
  go_wp2
  clear hmk
  go_loopw [4] (fun i wr => ∃ k : Nat, k ≤ l.length ∧ i = .int .i64 k ∧ OwnR wr w.heap.size (w.heap.size + 1) 3 1 (some ⟨w.heap.size, 0, none⟩) l.length l.length ((l.take k).map (.int .i64) ++ List.replicate (l.length - k) (.int .i64 0)) ∧ Below w.heap.size w wr ∧ w.heap.size < wr.heap.size) (fun i _ => l.length - (intOf i).toNat)
  case atStart => exact ⟨0, Nat.zero_le _, rfl, by simpa using HO.out, (Below.refl _ _).alloc (Nat.le_refl _) _, by simp⟩
  case round =>
    obtain ⟨k, hk, rfl, hO, hB, hsz⟩ := hrel
    clear HO
    by_cases hlt : k < l.length
    · obtain ⟨b, off, rfl, h1, h2, hc⟩ := ha (by omega)
      have g1 : wr.cell? ⟨b, off + k, none⟩ = some (.int .i64 (l.getD k 0)) := (hB.cell (p := ⟨b, off + k, none⟩) (by show b < _; omega)).trans (hc k hlt)
      have g2 : wr.cell? ⟨w.heap.size, k, none⟩ = some (.int .i64 0) := by
        rw [hO.cellAt k (by omega)]
        exact fill_get _ _ _ _ (by simp; omega) hlt
      have g3 := hO.frozenAt k
      have hO' := hO.stored k (.int .i64 (l.getD k 0))
      have hB' := hB.setCell (p := ⟨w.heap.size, k, none⟩) (Nat.le_refl _) (.int .i64 (l.getD k 0))
      have HX := hide (take_snoc (0 : Int) hlt)
      clear hc ha hB
      generalize l.getD k 0 = X at *
      go_wp2
      go_roundw
      case rel =>
        refine ⟨k + 1, by omega, by go_num, hO'.eqv ?_, hB', by simpa [World.setCell] using hsz⟩
        rw [fill_set _ _ _ _ _ (by simp; omega) hlt, HX.out]
        simp
      case measure => simp [intOf]; omega
    · go_wp2
      go_ret
      refine ⟨_, _, rfl, (hO.mono (Nat.le_refl _) (by omega)).eqv ?_, hB⟩
      rw [List.take_of_length_le (by omega)]
      simp [show l.length - k = 0 from by omega]
set_option maxHeartbeats 800000 in
theorem eqIntS_any (A B : Option Addr) (xs ys : List Int) (c d lo hi lo' hi' : Nat) (w : World) (hx : xs.length ≤ 16777216) (ha : RdI w lo hi A xs) (hb : RdI w lo' hi' B ys) :
    Calls Tryz.prog 54 #[.slice A xs.length c, .slice B ys.length d] w fun e w' => e = .returned (.bool (decide (xs = ys))) ∧ Qt w w' := by
  by_cases hl : xs.length = ys.length
  · have hne : ((xs.length : Int) != (ys.length : Int)) = false := by simp [hl]
    have HL := Lib.hid hl; clear hl
    go_enter Tryz.func54, Tryz.ntmps54
    go_wp2
    go_loopw [5] (fun i wr => ∃ k : Nat, k ≤ xs.length ∧ i = .int .i64 k ∧ Qt w wr ∧ xs.take k = ys.take k) (fun i _ => xs.length - (intOf i).toNat)
    case atStart => exact ⟨0, Nat.zero_le _, rfl, Qt.refl _, by simp⟩
    case round =>
      obtain ⟨k, hk, rfl, ⟨n, rfl⟩, ht⟩ := hrel
      have HT := Lib.hid ht; clear ht hne
      by_cases hlt : k < xs.length
      · obtain ⟨b, off, rfl, h1, h2, hc⟩ := ha (by omega)
        obtain ⟨b', off', rfl, h1', h2', hc'⟩ := hb (by have := HL.out; omega)
        have hlt' : k < ys.length := by have := HL.out; omega
        have g1 := hc k hlt
        have g2 := hc' k hlt'
        clear hc hc' ha hb
        generalize hX : xs.getD k 0 = X at g1
        generalize hY : ys.getD k 0 = Y at g2
        have HX := Lib.hid hX; have HY := Lib.hid hY; clear hX hY
        by_cases hxy : X = Y
        · have hd : (X != Y) = false := by simp [hxy]
          have HXY := Lib.hid hxy; clear hxy
          go_wp2_with fail
          go_quiet (fail)
          go_wp2
          go_roundw
          case rel => exact ⟨k + 1, by omega, by go_num, (by repeat (first | exact Qt.refl _ | apply Qt.drewN | apply Qt.drew)), take_succ_eq HT.out hlt hlt' (by rw [HX.out, HY.out]; exact HXY.out)⟩
          case measure => simp [intOf]; omega
        · have hd : (X != Y) = true := by simp [hxy]
          go_wp2_with fail
          go_quiet (fail)
          go_wp2
          go_ret
          exact ⟨ret_bool (by rw [decide_eq_false]; intro h; apply hxy; rw [← HX.out, ← HY.out, h]), (by repeat (first | exact Qt.refl _ | apply Qt.drewN | apply Qt.drew))⟩
      · go_wp2
        go_ret
        have hl := HL.out
        have ht := HT.out
        rw [List.take_of_length_le (by omega), List.take_of_length_le (by omega)] at ht
        exact ⟨ret_bool (by simp [ht]), ⟨_, rfl⟩⟩
  · have hne : ((xs.length : Int) != (ys.length : Int)) = true := by simp; omega
    have HL := Lib.hid hl; clear hl
    go_enter Tryz.func54, Tryz.ntmps54
    go_wp2
    go_ret
    exact ⟨ret_bool (by rw [eq_comm, decide_eq_false]; intro h; exact HL.out (by rw [h])), Qt.refl _⟩
theorem eqIntS_same (A B : Option Addr) (xs : List Int) (n m c d lo hi lo' hi' : Nat) (w : World) (hx : xs.length ≤ 16777216) (ha : RdI w lo hi A xs) (hb : RdI w lo' hi' B xs) (hn : n = xs.length) (hm : m = xs.length) :
    Calls Tryz.prog 54 #[.slice A n c, .slice B m d] w fun e w' => e = .returned (.bool true) ∧ Qt w w' := by
  subst hn; subst hm
  refine (eqIntS_any A B xs xs c d lo hi lo' hi' w hx ha hb).mono fun e w' ⟨he, h⟩ => ⟨?_, h⟩
  rw [he]; exact ret_bool (by simp)
/-- The marks from k on. -/
def marks (k : Int) (n : Nat) : List Int := (List.range n).map fun (i : Nat) => k + i
theorem marks_succ (k : Int) (n : Nat) : marks k (n + 1) = marks k n ++ [k + n] := by simp [marks, List.range_succ]
theorem marks_len (k : Int) (n : Nat) : (marks k n).length = n := by simp [marks]
set_option maxHeartbeats 800000 in
theorem markIntS_any (A : Option Addr) (n c lo hi : Nat) (k : Int) (xs : List Int) (w : World) (hn : n ≤ 16777216) (hk : 0 ≤ k) (hk' : k ≤ 16777216) (ha : OwnR w lo hi 3 1 A n c (xs.map (.int .i64))) (hhi : hi ≤ w.heap.size) :
    Calls Tryz.prog 66 #[.slice A n c, .int .i64 k] w fun e w' => e = .returned (.int .i64 (k + n)) ∧ OwnR w' lo hi 3 1 A n c ((marks k n).map (.int .i64)) ∧ Only lo hi w w' := by
  have hlen := ha.len
  simp at hlen
  have HL := hide hlen; clear hlen
  go_enter Tryz.func66, Tryz.ntmps66
  go_wp2
  go_loopw [1, 5] (fun q i wr => ∃ j : Nat, j ≤ n ∧ i = .int .i64 j ∧ q = .int .i64 (k + j) ∧ OwnR wr lo hi 3 1 A n c ((marks k j ++ xs.drop j).map (.int .i64)) ∧ Only lo hi w wr) (fun _ i _ => n - (intOf i).toNat)
  case atStart => exact ⟨0, Nat.zero_le _, rfl, by simp, by simpa [marks] using ha, Only.refl _ _ _⟩
  case round =>
    obtain ⟨j, hj, rfl, rfl, hO, hB⟩ := hrel
    clear ha
    by_cases hlt : j < n
    · obtain ⟨g, rfl, h1, h2, h3⟩ := hO.some_ (by omega)
      have hx : xs.drop j = xs.getD j 0 :: xs.drop (j + 1) := by
        rw [getD_get 0 (by rw [HL.out]; exact hlt)]
        exact List.drop_eq_getElem_cons (by rw [HL.out]; exact hlt)
      have g2 : wr.cell? ⟨g, j, none⟩ = some (.int .i64 (xs.getD j 0)) := by
        rw [hO.cellAt j (by omega), hx]
        simp [marks_len]
      have g3 := hO.frozenAt j
      have hO' := hO.stored j (.int .i64 (k + j))
      have hB' := hB.setCell (p := ⟨g, j, none⟩) ⟨h1, h2⟩ (.int .i64 (k + j))
      have HX := hide hx; clear hx
      clear hB
      generalize xs.getD j 0 = X at *
      go_wp2
      go_roundw
      case rel =>
        refine ⟨j + 1, by omega, by go_num, val_int (by omega), hO'.eqv ?_, hB'⟩
        rw [marks_succ, HX.out]
        simp [marks_len]
      case measure => simp [intOf]; omega
    · have hjn : j = n := by omega
      subst hjn
      go_wp2
      go_ret
      refine ⟨rfl, hO.eqv ?_, hB⟩
      rw [List.drop_of_length_le (by rw [HL.out]; exact Nat.le_refl _)]
      simp
set_option maxHeartbeats 800000 in
theorem heldIntS_any (A : Option Addr) (n c lo hi : Nat) (k : Int) (w : World) (hn : n ≤ 16777216) (hk : 0 ≤ k) (hk' : k ≤ 16777216) (ha : RdI w lo hi A (marks k n)) :
    Calls Tryz.prog 70 #[.slice A n c, .int .i64 k] w fun e w' => e = .returned (.int .i64 (k + n)) ∧ Qt w w' := by
  go_enter Tryz.func70, Tryz.ntmps70
  go_wp2
  go_loopw [1, 5] (fun q i wr => ∃ j : Nat, j ≤ n ∧ i = .int .i64 j ∧ q = .int .i64 (k + j) ∧ Qt w wr) (fun _ i _ => n - (intOf i).toNat)
  case atStart => exact ⟨0, Nat.zero_le _, rfl, by simp, Qt.refl _⟩
  case round =>
    obtain ⟨j, hj, rfl, rfl, ⟨d, rfl⟩⟩ := hrel
    by_cases hlt : j < n
    · obtain ⟨b, off, rfl, h1, h2, hc⟩ := ha (by rw [marks_len]; omega)
      have g1 := hc j (by rw [marks_len]; exact hlt)
      have hm : (marks k n).getD j 0 = k + j := by
        rw [getD_get 0 (by rw [marks_len]; exact hlt)]
        simp [marks]
      rw [hm] at g1
      clear hm hc ha
      go_wp2_with fail
      try go_quiet (fail)
      go_wp2
      go_roundw
      case rel => exact ⟨j + 1, by omega, by go_num, val_int (by omega), (by repeat (first | exact Qt.refl _ | apply Qt.drewN | apply Qt.drew))⟩
      case measure => simp [intOf]; omega
    · have hjn : j = n := by omega
      subst hjn
      go_wp2
      go_ret
      exact ⟨rfl, ⟨_, rfl⟩⟩
end Go.Proofs.YtcecgbjolngdbaaGreatDoor
