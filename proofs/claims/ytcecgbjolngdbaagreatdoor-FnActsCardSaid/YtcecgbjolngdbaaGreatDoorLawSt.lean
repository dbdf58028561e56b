/- What the laws' own helpers do with steps. -/
import Derived.Test.YtcecgbjolngdbaaGreatDoorKit
import Derived.Test.YtcecgbjolngdbaaGreatDoorPlain
import Derived.Test.YtcecgbjolngdbaaGreatDoorLaw
import Derived.Deep.RegionHeld3
namespace Go.Proofs.YtcecgbjolngdbaaGreatDoor
open Go.ChangeShapes Go.WideShapes Go.ChangeAt Go.RowKit
set_option linter.unusedVariables false

theorem Tryz.infoSt : (Tryz.prog.info? 128).map (fun i => (i.zero, i.size, i.bytes)) = some (some (.agg #[.int .i64 0, .int .i64 0]), 2, 16) := by kernel_rfl
theorem toStep_any (a c : Int) (w : World) :
    Calls Tryz.prog 175 #[.agg #[.int .i64 a, .int .i64 c]] w fun e w' => e = .returned (.agg #[.int .i64 a, .int .i64 c]) ∧ Below w.heap.size w w' := by
  go_enter Tryz.func175, Tryz.ntmps175
  go_wp2
  exact bodyPost_ret (v := .agg #[.int .i64 a, .int .i64 c]) (by simp [results, Tryz.results175, go_sem]) rfl ⟨rfl, (by (repeat' (first | exact Below.refl _ _ | refine Below.setCell ?_ ?_ _ | refine Below.alloc ?_ ?_ _)); all_goals first | (simp; done) | (simp; omega))⟩
set_option maxHeartbeats 1600000 in
theorem toStepS_any (A : Option Addr) (l : List (Int × Int)) (c lo hi : Nat) (w : World) (hl : l.length ≤ 16777216) (ha : RdSt w lo hi A l) (hhi : hi ≤ w.heap.size) :
    Calls Tryz.prog 149 #[.slice A l.length c] w fun e w' => ∃ A' c', e = .returned (.slice A' l.length c') ∧ OwnR w' w.heap.size w'.heap.size 128 2 A' l.length c' (flatSt l) ∧ Below w.heap.size w w' := by
  obtain ⟨i0, hi0, hz0, hz1, hz2⟩ := info_parts Tryz.infoSt
  have hO0 := OwnR.made w w.heap.size 128 2 (madeCells #[.int .i64 0, .int .i64 0] (l.length * 2)) l.length (Nat.le_refl _) (by unfold maxLen; omega) (by simp [size_madeCells])
  have hmk : ∀ w : World, (Instr.makeSlice 68 (.int .i64 (l.length : Int)) (.int .i64 (l.length : Int))).run Tryz.prog w = .ok (.slice (some ⟨w.heap.size, 0, none⟩) l.length l.length) (w.alloc (.cells (madeCells #[.int .i64 0, .int .i64 0] (l.length * 2)) 128)) :=
    make_sz Tryz.underlying68 hi0 hz0 hz1 l.length hl (by rw [hz2]; omega)
  have e2 : (madeCells #[.int .i64 0, .int .i64 0] (l.length * 2)).toList = List.replicate (l.length * 2) (Value.int .i64 0) := made_zero 2 l.length
  rw [e2] at hO0
  clear e2
  have HO := hide hO0; clear hO0
  clear hi0 hz0 hz1 hz2
  go_enter Tryz.func149, Tryz.ntmps149
  go_wp2
  clear hmk
  go_loopw [4] (fun i wr => ∃ k : Nat, k ≤ l.length ∧ i = .int .i64 k ∧ OwnR wr w.heap.size (w.heap.size + 1) 128 2 (some ⟨w.heap.size, 0, none⟩) l.length l.length (flatSt (l.take k) ++ List.replicate ((l.length - k) * 2) (.int .i64 0)) ∧ Below w.heap.size w wr ∧ w.heap.size < wr.heap.size) (fun i _ => l.length - (intOf i).toNat)
  case atStart => exact ⟨0, Nat.zero_le _, rfl, by simpa [flatSt] using HO.out, (Below.refl _ _).alloc (Nat.le_refl _) _, by simp⟩
  case round =>
    obtain ⟨k, hk, rfl, hO, hB, hsz⟩ := hrel
    clear HO
    by_cases hlt : k < l.length
    · obtain ⟨b, off, rfl, h1, h2, hc⟩ := ha (by omega)
      obtain ⟨hc1, hc2⟩ := hc k hlt
      have g1 := (hB.cell (p := ⟨b, off + k * 2, none⟩) (by show b < _; omega)).trans hc1
      have g2 := (hB.cell (p := ⟨b, off + k * 2 + 1, none⟩) (by show b < _; omega)).trans hc2
      have HX := hide (take_snoc ((0, 0) : Int × Int) hlt)
      clear hc hc1 hc2 ha
      generalize l.getD k (0, 0) = X at g1 g2 HX
      obtain ⟨x, y⟩ := X
      simp only at g1 g2
      go_wp2_with fail
      refine (toStep_any x y _).mono ?_
      rintro e w1 ⟨rfl, hb1⟩
      have hO := hO.below hb1 (by omega)
      have hB := hB.trans (hb1.mono hB.size)
      have hsz := Nat.lt_of_lt_of_le hsz hb1.size
      clear hb1
      have hf1 : (flatSt (l.take k)).length = k * 2 := by rw [flatSt_len]; simp; omega
      have g3 : w1.cell? ⟨w.heap.size, k * 2, none⟩ = some (.int .i64 0) := by
        rw [hO.cellAt _ (by omega), List.getElem?_append_right (by omega), List.getElem?_replicate, if_pos (by omega)]
      have g4 : w1.cell? ⟨w.heap.size, k * 2 + 1, none⟩ = some (.int .i64 0) := by
        rw [hO.cellAt _ (by omega), List.getElem?_append_right (by omega), List.getElem?_replicate, if_pos (by omega)]
      have g5 := hO.frozenAt (k * 2)
      have g6 := hO.frozenAt (k * 2 + 1)
      have hO' := (hO.stored (k * 2) (.int .i64 x)).stored (k * 2 + 1) (.int .i64 y)
      have hB' := (hB.setCell (p := ⟨w.heap.size, k * 2, none⟩) (Nat.le_refl _) (.int .i64 x)).setCell (p := ⟨w.heap.size, k * 2 + 1, none⟩) (Nat.le_refl _) (.int .i64 y)
      clear g1 g2 hO hB
      go_wp2
      go_roundw
      case rel =>
        refine ⟨k + 1, by omega, by go_num, hO'.eqv ?_, hB', by simpa [World.setCell] using hsz⟩
        rw [fill_set2 _ _ _ _ _ _ hf1 hlt, HX.out, flatSt_app]
        rfl
      case measure => simp [intOf]; omega
    · go_wp2
      go_ret
      refine ⟨_, _, rfl, (hO.mono (Nat.le_refl _) (by omega)).eqv ?_, hB⟩
      rw [List.take_of_length_le (by omega)]
      simp [show l.length - k = 0 from by omega]
theorem eqStep_same (a c : Int) (w : World) :
    Calls Tryz.prog 180 #[.agg #[.int .i64 a, .int .i64 c], .agg #[.int .i64 a, .int .i64 c]] w fun e w' => e = .returned (.bool true) ∧ Below w.heap.size w w' := by
  have h1 : (a != a) = false := by simp
  have h2 : (c != c) = false := by simp
  go_enter Tryz.func180, Tryz.ntmps180
  go_wp2
  go_ret
  exact ⟨rfl, (by (repeat' (first | exact Below.refl _ _ | refine Below.setCell ?_ ?_ _ | refine Below.alloc ?_ ?_ _)); all_goals first | (simp; done) | (simp; omega))⟩
set_option maxHeartbeats 1600000 in
theorem eqStepS_same (A B : Option Addr) (l : List (Int × Int)) (n m c d lo hi lo' hi' : Nat) (w : World) (hx : l.length ≤ 16777216) (ha : RdSt w lo hi A l) (hb : RdSt w lo' hi' B l) (hn : n = l.length) (hm : m = l.length) (hhi : hi ≤ w.heap.size) (hhi' : hi' ≤ w.heap.size) :
    Calls Tryz.prog 160 #[.slice A n c, .slice B m d] w fun e w' => e = .returned (.bool true) ∧ Below w.heap.size w w' := by
  subst hn; subst hm
  go_enter Tryz.func160, Tryz.ntmps160
  go_wp2
  go_loopw [5] (fun i wr => ∃ k : Nat, k ≤ l.length ∧ i = .int .i64 k ∧ Below w.heap.size w wr) (fun i _ => l.length - (intOf i).toNat)
  case atStart => exact ⟨0, Nat.zero_le _, rfl, Below.refl _ _⟩
  case round =>
    obtain ⟨k, hk, rfl, hB⟩ := hrel
    by_cases hlt : k < l.length
    · obtain ⟨b, off, rfl, h1, h2, hc⟩ := ha (by omega)
      obtain ⟨b', off', rfl, h1', h2', hc'⟩ := hb (by omega)
      obtain ⟨hc1, hc2⟩ := hc k hlt
      obtain ⟨hd1, hd2⟩ := hc' k hlt
      have hbb : b < w.heap.size := by omega
      have hbb' : b' < w.heap.size := by omega
      have g1 := (hB.cell (p := ⟨b, off + k * 2, none⟩) hbb).trans hc1
      have g2 := (hB.cell (p := ⟨b, off + k * 2 + 1, none⟩) hbb).trans hc2
      have g3 := (hB.cell (p := ⟨b', off' + k * 2, none⟩) hbb').trans hd1
      have g4 := (hB.cell (p := ⟨b', off' + k * 2 + 1, none⟩) hbb').trans hd2
      clear hc hc1 hc2 hc' hd1 hd2 ha hb
      generalize l.getD k (0, 0) = X at g1 g2 g3 g4
      obtain ⟨x, y⟩ := X
      simp only at g1 g2 g3 g4
      have hsz := hB.size
      have HE := hide (eqStep_same x y)
      go_wp2_with fail
      go_region_held3 (fun w' => (w'.cell? ⟨b, off + k * 2, none⟩ = some (.int .i64 x) ∧ w'.cell? ⟨b, off + k * 2 + 1, none⟩ = some (.int .i64 y) ∧ w'.cell? ⟨b', off' + k * 2, none⟩ = some (.int .i64 x) ∧ w'.cell? ⟨b', off' + k * 2 + 1, none⟩ = some (.int .i64 y)) ∧ Below w.heap.size w w' ∧ w.heap.size ≤ w'.heap.size)
        (first | exact ⟨⟨g1, g2, g3, g4⟩, hB.drew, hsz⟩ | (go_split_ands; exact ⟨⟨(hb1.cell (p := ⟨b, off + k * 2, none⟩) (by show b < _; omega)).trans (by assumption), (hb1.cell (p := ⟨b, off + k * 2 + 1, none⟩) (by show b < _; omega)).trans (by assumption), (hb1.cell (p := ⟨b', off' + k * 2, none⟩) (by show b' < _; omega)).trans (by assumption), (hb1.cell (p := ⟨b', off' + k * 2 + 1, none⟩) (by show b' < _; omega)).trans (by assumption)⟩, Below.trans (by assumption) (hb1.mono (by assumption)), Nat.le_trans (by assumption) hb1.size⟩))
        (first | (go_at_call 180; refine (HE.out _).mono ?_; rintro e w' ⟨rfl, hb1⟩))
      go_split_ands
      go_wp2
      go_roundw
      case rel => exact ⟨k + 1, by omega, by go_num, by assumption⟩
      case measure => simp [intOf]; omega
    · go_wp2
      go_ret
      exact ⟨rfl, hB⟩
theorem szStepS_any (A : Option Addr) (n c : Nat) (q : Int) (w : World) (hn : n ≤ 9223372036854775807) (hq0 : 0 ≤ q) (hq : q ≤ 16777216) :
    Calls Tryz.prog 144 #[.slice A n c, .int .i64 q] w fun e w' => ∃ r, e = .returned (.int .i64 r) ∧ (r = -1 ∨ (0 ≤ r ∧ r ≤ q ∧ (n : Int) + r = q)) ∧ w = w' := by
  by_cases h : (n : Int) ≤ q
  · go_enter Tryz.func144, Tryz.ntmps144
    go_wp2
    go_ret
    exact ⟨_, rfl, .inr ⟨by omega, by omega, by omega⟩, rfl⟩
  · go_enter Tryz.func144, Tryz.ntmps144
    go_wp2
    go_ret
    exact ⟨_, rfl, .inl rfl, rfl⟩
/-- The marks from k on, two a step. -/
def markSt (k : Int) (n : Nat) : List (Int × Int) := (List.range n).map fun (i : Nat) => (k + 2 * i, k + 2 * i + 1)
theorem markSt_succ (k : Int) (n : Nat) : markSt k (n + 1) = markSt k n ++ [(k + 2 * n, k + 2 * n + 1)] := by simp [markSt, List.range_succ]
theorem markSt_len (k : Int) (n : Nat) : (markSt k n).length = n := by simp [markSt]
theorem set2_mid {α : Type} (xs r : List α) (k : Nat) (a b x y : α) (hx : xs.length = k * 2) : ((xs ++ a :: b :: r).set (k * 2) x).set (k * 2 + 1) y = xs ++ [x, y] ++ r := by
  rw [List.set_append_right _ _ (by omega), List.set_append_right _ _ (by omega), hx, Nat.sub_self, show k * 2 + 1 - k * 2 = 1 from by omega]
  simp
set_option maxHeartbeats 1600000 in
theorem markStepS_any (A : Option Addr) (n c lo hi : Nat) (k : Int) (xs : List (Int × Int)) (w : World) (hn : n ≤ 16777216) (hk : 0 ≤ k) (hk' : k ≤ 16777216) (ha : OwnR w lo hi 128 2 A n c (flatSt xs)) (hhi : hi ≤ w.heap.size) :
    Calls Tryz.prog 124 #[.slice A n c, .int .i64 k] w fun e w' => e = .returned (.int .i64 (k + 2 * n)) ∧ OwnR w' lo hi 128 2 A n c (flatSt (markSt k n)) ∧ Only lo hi w w' := by
  have hlen : xs.length = n := by have := ha.len; rw [flatSt_len] at this; omega
  have HL := hide hlen; clear hlen
  go_enter Tryz.func124, Tryz.ntmps124
  go_wp2
  go_loopw [1, 5] (fun q i wr => ∃ j : Nat, j ≤ n ∧ i = .int .i64 j ∧ q = .int .i64 (k + 2 * j) ∧ OwnR wr lo hi 128 2 A n c (flatSt (markSt k j ++ xs.drop j)) ∧ Only lo hi w wr) (fun _ i _ => n - (intOf i).toNat)
  case atStart => exact ⟨0, Nat.zero_le _, rfl, by simp, by simpa [markSt] using ha, Only.refl _ _ _⟩
  case round =>
    obtain ⟨j, hj, rfl, rfl, hO, hB⟩ := hrel
    clear ha
    by_cases hlt : j < n
    · obtain ⟨g, rfl, h1, h2, h3⟩ := hO.some_ (by omega)
      have hx : xs.drop j = xs.getD j (0, 0) :: xs.drop (j + 1) := by
        rw [getD_get (0, 0) (by rw [HL.out]; exact hlt)]
        exact List.drop_eq_getElem_cons (by rw [HL.out]; exact hlt)
      have hf1 : (flatSt (markSt k j)).length = j * 2 := by rw [flatSt_len, markSt_len]
      rw [hx, flatSt_app] at hO
      have HX := hide hx; clear hx
      generalize xs.getD j (0, 0) = X at hO HX
      obtain ⟨x, y⟩ := X
      have e1 : flatSt ((x, y) :: xs.drop (j + 1)) = .int .i64 x :: .int .i64 y :: flatSt (xs.drop (j + 1)) := rfl
      rw [e1] at hO
      clear e1
      have g1 : wr.cell? ⟨g, j * 2, none⟩ = some (.int .i64 x) := by
        rw [hO.cellAt _ (by omega), List.getElem?_append_right (by omega), hf1, Nat.sub_self]; rfl
      have g2 : wr.cell? ⟨g, j * 2 + 1, none⟩ = some (.int .i64 y) := by
        rw [hO.cellAt _ (by omega), List.getElem?_append_right (by omega), hf1, show j * 2 + 1 - j * 2 = 1 from by omega]; rfl
      have g3 := hO.frozenAt (j * 2)
      have g4 := hO.frozenAt (j * 2 + 1)
      have g5 : (wr.setCell ⟨g, j * 2, none⟩ (.int .i64 (k + 2 * j))).cell? ⟨g, j * 2 + 1, none⟩ = some (.int .i64 y) := by
        rw [World.cell?_setCell_other _ _ _ _ (fun e => by have := congrArg Addr.off e; simp at this; try omega)]; exact g2
      have hO' := (hO.stored (j * 2) (.int .i64 (k + 2 * j))).stored (j * 2 + 1) (.int .i64 (k + 2 * j + 1))
      have hB' := (hB.setCell (p := ⟨g, j * 2, none⟩) ⟨h1, h2⟩ (.int .i64 (k + 2 * j))).setCell (p := ⟨g, j * 2 + 1, none⟩) ⟨h1, h2⟩ (.int .i64 (k + 2 * j + 1))
      have HS := hide (markSt_succ k j)
      clear hB hO g2
      go_wp2
      go_roundw
      case rel =>
        refine ⟨j + 1, by omega, by go_num, val_int (by omega), hO'.eqv ?_, hB'⟩
        rw [set2_mid _ _ _ _ _ _ _ hf1, HS.out, flatSt_app, flatSt_app]
        simp [flatSt]
      case measure => simp [intOf]; omega
    · have hjn : j = n := by omega
      subst hjn
      go_wp2
      go_ret
      refine ⟨rfl, hO.eqv ?_, hB⟩
      rw [List.drop_of_length_le (by rw [HL.out]; exact Nat.le_refl _)]
      simp
set_option maxHeartbeats 1600000 in
theorem heldStepS_any (A : Option Addr) (n c lo hi : Nat) (k : Int) (w : World) (hn : n ≤ 16777216) (hk : 0 ≤ k) (hk' : k ≤ 16777216) (ha : RdSt w lo hi A (markSt k n)) :
    Calls Tryz.prog 127 #[.slice A n c, .int .i64 k] w fun e w' => e = .returned (.int .i64 (k + 2 * n)) ∧ Qt w w' := by
  go_enter Tryz.func127, Tryz.ntmps127
  go_wp2
  go_loopw [1, 5] (fun q i wr => ∃ j : Nat, j ≤ n ∧ i = .int .i64 j ∧ q = .int .i64 (k + 2 * j) ∧ Qt w wr) (fun _ i _ => n - (intOf i).toNat)
  case atStart => exact ⟨0, Nat.zero_le _, rfl, by simp, Qt.refl _⟩
  case round =>
    obtain ⟨j, hj, rfl, rfl, ⟨d, rfl⟩⟩ := hrel
    by_cases hlt : j < n
    · obtain ⟨b, off, rfl, h1, h2, hc⟩ := ha (by rw [markSt_len]; omega)
      obtain ⟨g1, g2⟩ := hc j (by rw [markSt_len]; exact hlt)
      have hm : (markSt k n).getD j (0, 0) = (k + 2 * j, k + 2 * j + 1) := by
        rw [getD_get (0, 0) (by rw [markSt_len]; exact hlt)]
        simp [markSt]
      rw [hm] at g1 g2
      simp only at g1 g2
      clear hm hc ha
      go_wp2
      go_roundw
      case rel => exact ⟨j + 1, by omega, by go_num, val_int (by omega), ⟨_, rfl⟩⟩
      case measure => simp [intOf]; omega
    · have hjn : j = n := by omega
      subst hjn
      go_wp2
      go_ret
      exact ⟨rfl, ⟨_, rfl⟩⟩
end Go.Proofs.YtcecgbjolngdbaaGreatDoor
