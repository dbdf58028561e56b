/- The functions on sets of integers: what they compute. -/
import Derived.Test.YtcecgbjolngdbaaGreatDoorKit
import Derived.Test.YtcecgbjolngdbaaGreatDoorPlain
import Derived.Test.YtcecgbjolngdbaaGreatDoorLaw
namespace Go.Proofs.YtcecgbjolngdbaaGreatDoor
open Go.ChangeShapes Go.WideShapes Go.ChangeAt Go.RowKit
set_option linter.unusedVariables false

theorem l01In_any (n lo hi : Int) (w : World) :
    Calls Tryz.prog 95 #[.int .i64 n, .int .i64 lo, .int .i64 hi] w fun e w' => e = .returned (.bool (decide (lo ≤ n ∧ n ≤ hi))) ∧ w = w' := by
  go_enter Tryz.func95, Tryz.ntmps95
  go_wp2
  all_goals go_ret
  all_goals exact ⟨by congr 2; simp; omega, rfl⟩
theorem l01In_yes {n lo hi : Int} (w : World) (h : lo ≤ n ∧ n ≤ hi) : Calls Tryz.prog 95 #[.int .i64 n, .int .i64 lo, .int .i64 hi] w fun e w' => e = .returned (.bool true) ∧ w = w' :=
  (l01In_any n lo hi w).mono fun _ _ ⟨he, hw⟩ => ⟨by rw [he, decide_eq_true h], hw⟩
theorem l01In_no {n lo hi : Int} (w : World) (h : ¬ (lo ≤ n ∧ n ≤ hi)) : Calls Tryz.prog 95 #[.int .i64 n, .int .i64 lo, .int .i64 hi] w fun e w' => e = .returned (.bool false) ∧ w = w' :=
  (l01In_any n lo hi w).mono fun _ _ ⟨he, hw⟩ => ⟨by rw [he, decide_eq_false h], hw⟩
theorem within_any (n lo hi : Int) (w : World) :
    Calls Tryz.prog 80 #[.int .i64 n, .int .i64 lo, .int .i64 hi] w fun e w' => e = .returned (.bool (decide (lo ≤ n ∧ n ≤ hi))) ∧ w = w' := by
  go_enter Tryz.func80, Tryz.ntmps80
  go_wp2
  all_goals go_ret
  all_goals exact ⟨by congr 2; simp; omega, rfl⟩
theorem within_yes {n lo hi : Int} (w : World) (h : lo ≤ n ∧ n ≤ hi) : Calls Tryz.prog 80 #[.int .i64 n, .int .i64 lo, .int .i64 hi] w fun e w' => e = .returned (.bool true) ∧ w = w' :=
  (within_any n lo hi w).mono fun _ _ ⟨he, hw⟩ => ⟨by rw [he, decide_eq_true h], hw⟩
theorem within_no {n lo hi : Int} (w : World) (h : ¬ (lo ≤ n ∧ n ≤ hi)) : Calls Tryz.prog 80 #[.int .i64 n, .int .i64 lo, .int .i64 hi] w fun e w' => e = .returned (.bool false) ∧ w = w' :=
  (within_any n lo hi w).mono fun _ _ ⟨he, hw⟩ => ⟨by rw [he, decide_eq_false h], hw⟩
set_option maxHeartbeats 800000 in
theorem specSetHas_any (A : Option Addr) (l : List Int) (c lo hi : Nat) (x : Int) (w : World) (hl : l.length ≤ 16777216) (ha : RdI w lo hi A l) :
    Calls Tryz.prog 193 #[.slice A l.length c, .int .i64 x] w fun e w' => e = .returned (.bool (hasB l x)) ∧ Qt w w' := by
  go_enter Tryz.func193, Tryz.ntmps193
  go_wp2
  go_loopw [9] (fun i wr => ∃ k : Nat, k ≤ l.length ∧ i = .int .i64 k ∧ Qt w wr ∧ Hid (x ∉ l.take k)) (fun i _ => l.length - (intOf i).toNat)
  case atStart => exact ⟨0, Nat.zero_le _, rfl, Qt.refl _, hide (by simp)⟩
  case round =>
    obtain ⟨k, hk, rfl, ⟨n, rfl⟩, H⟩ := hrel
    by_cases hlt : k < l.length
    · obtain ⟨b, off, rfl, h1, h2, hc⟩ := ha (by omega)
      have g1 := hc k hlt
      clear hc ha
      generalize hX : l.getD k 0 = X at g1
      have HX := hide hX; clear hX
      by_cases hxy : X = x
      · have hd : (X == x) = true := by simp [hxy]
        have HXY := hide hxy; clear hxy
        go_wp2
        go_ret
        exact ⟨ret_bool (has_yes hlt (HX.out.trans HXY.out)), (by repeat (first | exact Qt.refl _ | apply Qt.drewN | apply Qt.drew))⟩
      · have hd : (X == x) = false := by simp [hxy]
        go_wp2
        go_roundw
        case rel => exact ⟨k + 1, by omega, by go_num, (by repeat (first | exact Qt.refl _ | apply Qt.drewN | apply Qt.drew)), hide (has_take H.out hlt (by rw [HX.out]; exact hxy))⟩
        case measure => simp [intOf]; omega
    · go_wp2
      go_ret
      exact ⟨ret_bool (has_no H.out (by omega)), ⟨_, rfl⟩⟩
theorem index_bd (k : Nat) (n : Nat) (h : k < n) (hn : n ≤ 16777216) : (0 : Int) ≤ k ∧ (k : Int) ≤ 16777216 := by omega
/-- What slices.Index gives: a place where x stands, or -1 where it stands nowhere. -/
def IsIndex (l : List Int) (x : Int) (n : Int) : Prop := (n = -1 ∧ hasB l x = false) ∨ (0 ≤ n ∧ n ≤ 16777216 ∧ hasB l x = true)
set_option maxHeartbeats 800000 in
theorem slicesIndex_any (A : Option Addr) (l : List Int) (c lo hi : Nat) (x : Int) (w : World) (hl : l.length ≤ 16777216) (ha : RdI w lo hi A l) :
    Calls Tryz.prog 167 #[.slice A l.length c, .int .i64 x] w fun e w' => ∃ n, e = .returned (.int .i64 n) ∧ IsIndex l x n ∧ Qt w w' := by
  go_enter Tryz.func167, Tryz.ntmps167
  go_wp2
  go_loopw [8] (fun i wr => ∃ k : Nat, k ≤ l.length ∧ i = .int .i64 k ∧ Qt w wr ∧ Hid (x ∉ l.take k)) (fun i _ => l.length - (intOf i).toNat)
  case atStart => exact ⟨0, Nat.zero_le _, rfl, Qt.refl _, hide (by simp)⟩
  case round =>
    obtain ⟨k, hk, rfl, ⟨n, rfl⟩, H⟩ := hrel
    by_cases hlt : k < l.length
    · obtain ⟨b, off, rfl, h1, h2, hc⟩ := ha (by omega)
      have g1 := hc k hlt
      clear hc ha
      generalize hX : l.getD k 0 = X at g1
      have HX := hide hX; clear hX
      by_cases hxy : X = x
      · have hd : (x == X) = true := by simp [hxy]
        have HXY := hide hxy; clear hxy
        go_wp2
        go_ret
        exact ⟨_, rfl, .inr ⟨by omega, by omega, (has_yes hlt (HX.out.trans HXY.out)).symm⟩, (by repeat (first | exact Qt.refl _ | apply Qt.drewN | apply Qt.drew))⟩
      · have hd : (x == X) = false := by simp [Ne.symm hxy]
        go_wp2
        go_roundw
        case rel => exact ⟨k + 1, by omega, by go_num, (by repeat (first | exact Qt.refl _ | apply Qt.drewN | apply Qt.drew)), hide (has_take H.out hlt (by rw [HX.out]; exact hxy))⟩
        case measure => simp [intOf]; omega
    · go_wp2
      go_ret
      exact ⟨_, rfl, .inl ⟨rfl, (has_no H.out (by omega)).symm⟩, ⟨_, rfl⟩⟩
theorem slicesContains_any (A : Option Addr) (l : List Int) (c lo hi : Nat) (x : Int) (w : World) (hl : l.length ≤ 16777216) (ha : RdI w lo hi A l) :
    Calls Tryz.prog 137 #[.slice A l.length c, .int .i64 x] w fun e w' => e = .returned (.bool (hasB l x)) ∧ Qt w w' := by
  go_enter Tryz.func137, Tryz.ntmps137
  go_wp2_with fail
  refine (slicesIndex_any A l c lo hi x _ hl ha).mono ?_
  rintro e w1 ⟨n, rfl, hn, ⟨d, rfl⟩⟩
  rcases hn with ⟨rfl, h⟩ | ⟨h0, h1, h⟩
  · have H := hide h; clear h
    go_wp2
    go_ret
    exact ⟨ret_bool H.out.symm, ⟨_, rfl⟩⟩
  · have H := hide h; clear h
    go_wp2
    go_ret
    exact ⟨ret_bool H.out.symm, ⟨_, rfl⟩⟩
theorem implSetHas_any (A : Option Addr) (l : List Int) (c lo hi : Nat) (x : Int) (w : World) (hl : l.length ≤ 16777216) (ha : RdI w lo hi A l) :
    Calls Tryz.prog 77 #[.slice A l.length c, .int .i64 x] w fun e w' => e = .returned (.bool (hasB l x)) ∧ Qt w w' := by
  go_enter Tryz.func77, Tryz.ntmps77
  go_wp2_with fail
  refine (slicesContains_any A l c lo hi x _ hl ha).mono ?_
  rintro e w1 ⟨rfl, ⟨d, rfl⟩⟩
  go_wp2
  go_ret
  exact ⟨rfl, ⟨_, rfl⟩⟩
set_option maxHeartbeats 800000 in
theorem slicesEqual_any (A B : Option Addr) (xs ys : List Int) (c d lo hi lo' hi' : Nat) (w : World) (hx : xs.length ≤ 16777216) (ha : RdI w lo hi A xs) (hb : RdI w lo' hi' B ys) :
    Calls Tryz.prog 139 #[.slice A xs.length c, .slice B ys.length d] w fun e w' => e = .returned (.bool (decide (xs = ys))) ∧ Qt w w' := by
  by_cases hl : xs.length = ys.length
  · have hne : ((xs.length : Int) != (ys.length : Int)) = false := by simp [hl]
    have HL := Lib.hid hl; clear hl
    go_enter Tryz.func139, Tryz.ntmps139
    go_wp2
    go_loopw [13] (fun i wr => ∃ k : Nat, k ≤ xs.length ∧ i = .int .i64 k ∧ Qt w wr ∧ xs.take k = ys.take k) (fun i _ => xs.length - (intOf i).toNat)
    case atStart => exact ⟨0, Nat.zero_le _, rfl, Qt.refl _, by simp⟩
    case round =>
      obtain ⟨k, hk, rfl, ⟨n, rfl⟩, ht⟩ := hrel
      have HT := Lib.hid ht; clear ht hne
      by_cases hlt : k < xs.length
      · obtain ⟨b, off, rfl, h1, h2, hc⟩ := ha (by omega)
        obtain ⟨b', off', rfl, h1', h2', hc'⟩ := hb (by have := HL.out; omega)
        have hlt' : k < ys.length := by have := HL.out; omega
        have g1 := hc k hlt
        have g2 := hc' k hlt'
        clear hc hc' ha hb
        generalize hX : xs.getD k 0 = X at g1
        generalize hY : ys.getD k 0 = Y at g2
        have HX := Lib.hid hX; have HY := Lib.hid hY; clear hX hY
        by_cases hxy : X = Y
        · have hd : (X != Y) = false := by simp [hxy]
          have HXY := Lib.hid hxy; clear hxy
          go_wp2_with fail
          go_quiet (fail)
          go_wp2
          go_roundw
          case rel => exact ⟨k + 1, by omega, by go_num, (by repeat (first | exact Qt.refl _ | apply Qt.drewN | apply Qt.drew)), take_succ_eq HT.out hlt hlt' (by rw [HX.out, HY.out]; exact HXY.out)⟩
          case measure => simp [intOf]; omega
        · have hd : (X != Y) = true := by simp [hxy]
          go_wp2_with fail
          go_quiet (fail)
          go_wp2
          go_ret
          exact ⟨ret_bool (by rw [decide_eq_false]; intro h; apply hxy; rw [← HX.out, ← HY.out, h]), (by repeat (first | exact Qt.refl _ | apply Qt.drewN | apply Qt.drew))⟩
      · go_wp2
        go_ret
        have hl := HL.out
        have ht := HT.out
        rw [List.take_of_length_le (by omega), List.take_of_length_le (by omega)] at ht
        exact ⟨ret_bool (by simp [ht]), ⟨_, rfl⟩⟩
  · have hne : ((xs.length : Int) != (ys.length : Int)) = true := by simp; omega
    have HL := Lib.hid hl; clear hl
    go_enter Tryz.func139, Tryz.ntmps139
    go_wp2
    go_ret
    exact ⟨ret_bool (by rw [eq_comm, decide_eq_false]; intro h; exact HL.out (by rw [h])), Qt.refl _⟩
set_option maxHeartbeats 800000 in
theorem implIntRange_any (n : Int) (w : World) :
    Calls Tryz.prog 73 #[.int .i64 n] w fun e w' => ∃ A c, e = .returned (.slice A (intRange n).length c) ∧ OwnR w' w.heap.size w'.heap.size 3 1 A (intRange n).length c ((intRange n).map (.int .i64)) ∧ Below w.heap.size w w' := by
  by_cases h : 0 ≤ n ∧ n ≤ 200
  · obtain ⟨m, rfl⟩ : ∃ m : Nat, n = m := ⟨n.toNat, by omega⟩
    have hm : m ≤ 200 := by omega
    have hO0 := OwnR.made w w.heap.size 3 1 #[] 0 (Nat.le_refl _) (by unfold maxLen; omega) rfl
    clear h
    rw [intRange_yes hm]
    rw [firstN_len]
    go_enter Tryz.func73, Tryz.ntmps73
    go_wp2_with fail
    refine (within_yes _ (by omega)).mono ?_
    rintro e w1 ⟨rfl, rfl⟩
    go_wp2_with fail
    go_loopw [3, 10] (fun v i wr => ∃ (k : Nat) (A : Option Addr) (c : Nat), k ≤ m ∧ i = .int .i64 k ∧ v = .slice A k c ∧ OwnR wr w.heap.size wr.heap.size 3 1 A k c ((firstN k).map (.int .i64)) ∧ Below w.heap.size w wr) (fun _ i _ => m - (intOf i).toNat)
    case atStart => exact ⟨0, _, _, Nat.zero_le _, rfl, rfl, by simpa [firstN] using hO0, (Below.refl _ _).alloc (Nat.le_refl _) _⟩
    case round =>
      obtain ⟨k, A, c, hk, rfl, rfl, hO, hB⟩ := hrel
      clear hO0
      by_cases hlt : k < m
      · have hsz := hB.size
        go_wp2_with (at_builtin; go_must (refine wpList_push _ (.tmp 13) (.tmp 15) 25 3 _ 1 8 Tryz.underlying25 Tryz.infoInt rfl (by omega) w.heap.size _ A k c _ (hO.alloc _) wr.heap.size 0 1 1 [.int .i64 k] rfl (one_new _ _ _) (one_cell rfl) (by omega) (by omega) (by simp; omega) w.heap.size w (hB.alloc hB.size _) (Nat.le_refl _) ?_ rfl rfl rfl rfl))
        intro A' c' w' hO' hB' hs' _
        clear hO hB
        go_wp2
        go_roundw
        case rel => exact ⟨k + 1, A', c', by omega, by go_num, rfl, hO'.eqv (by simp [firstN_succ]), hB'⟩
        case measure => simp [intOf]; omega
      · obtain rfl : k = m := by omega
        go_wp2
        go_ret
        exact ⟨_, _, rfl, hO, hB⟩
  · rw [intRange_no h]
    go_enter Tryz.func73, Tryz.ntmps73
    go_wp2_with fail
    refine (within_no _ h).mono ?_
    rintro e w1 ⟨rfl, rfl⟩
    go_wp2
    go_ret
    exact ⟨_, _, rfl, OwnR.empty _ _ _ _ _, Below.refl _ _⟩
set_option maxHeartbeats 800000 in
theorem kept_any (F : FuncId) (caps : Array Value) (p : Int → Bool) (A : Option Addr) (l : List Int) (c lo hi : Nat) (w : World) (hl : l.length ≤ 16777216) (ha : RdI w lo hi A l) (hhi : hi ≤ w.heap.size)
    (hE : ∀ (args : Array Value) (W : World), (callFunc F args).run Tryz.prog W = .ok (.enter F args) W) (hf : ∀ W x, Below w.heap.size w W → Calls Tryz.prog F (#[.int .i64 x] ++ caps) W fun e w' => e = .returned (.bool (p x)) ∧ Qt W w') :
    Calls Tryz.prog 75 #[.slice A l.length c, .func (.func F) #[] caps] w fun e w' => ∃ A c, e = .returned (.slice A (keepI p l).length c) ∧ OwnR w' w.heap.size w'.heap.size 3 1 A (keepI p l).length c ((keepI p l).map (.int .i64)) ∧ Below w.heap.size w w' := by
  have hO0 := OwnR.made w w.heap.size 3 1 #[] 0 (Nat.le_refl _) (by unfold maxLen; omega) rfl
  have HF := hide hf; clear hf
  go_enter Tryz.func75, Tryz.ntmps75
  go_wp2
  go_loopw [5, 11] (fun v i wr => ∃ (k : Nat) (A : Option Addr) (c : Nat), k ≤ l.length ∧ i = .int .i64 k ∧ v = .slice A (keepI p (l.take k)).length c ∧ OwnR wr w.heap.size wr.heap.size 3 1 A (keepI p (l.take k)).length c ((keepI p (l.take k)).map (.int .i64)) ∧ Below w.heap.size w wr) (fun _ i _ => l.length - (intOf i).toNat)
  case atStart => exact ⟨0, _, _, Nat.zero_le _, rfl, rfl, by simpa [keepI] using hO0, (Below.refl _ _).alloc (Nat.le_refl _) _⟩
  case round =>
    obtain ⟨k, A1, c1, hk, rfl, rfl, hO, hB⟩ := hrel
    clear hO0
    by_cases hlt : k < l.length
    · have hsz := hB.size
      obtain ⟨b, off, rfl, h1, h2, hc⟩ := ha (by omega)
      have g1 : wr.cell? ⟨b, off + k, none⟩ = some (.int .i64 (l.getD k 0)) := (hB.cell (p := ⟨b, off + k, none⟩) (by show b < _; omega)).trans (hc k hlt)
      have HX := hide (keepI_take (p := p) hlt)
      have HL := hide (keepI_len p l k)
      clear hc ha
      generalize l.getD k 0 = X at g1 HX
      generalize keepI p (l.take k) = S at hO HX HL
      have hS : S.length ≤ 16777216 := by have := HL.out; omega
      have HA := hide ((HF.out wr X hB))
      go_wp2_with fail
      refine HA.out.mono ?_
      rintro e w1 ⟨rfl, ⟨d, rfl⟩⟩
      clear HA HF
      cases hp : p X
      · rw [hp] at HX
        have HP := hide hp; clear hp
        go_wp2
        go_roundw
        case rel => exact ⟨k + 1, A1, c1, by omega, by go_num, by rw [HX.out]; simp, (hO.qt d).eqn (by rw [HX.out]; simp) (by rw [HX.out]; simp), below_quiet hB d⟩
        case measure => simp [intOf]; omega
      · rw [hp] at HX
        have HP := hide hp; clear hp
        have hO := hO.qt d
        have hB := below_quiet hB d
        go_wp2_with (at_builtin; go_must (refine wpList_push _ (.tmp 18) (.tmp 20) 25 3 _ 1 8 Tryz.underlying25 Tryz.infoInt rfl (by omega) w.heap.size _ A1 S.length c1 _ (hO.alloc _) wr.heap.size 0 1 1 [.int .i64 X] rfl (one_new _ _ _) (one_cell rfl) (by omega) (by omega) (by simp; omega) w.heap.size w (hB.alloc (by simpa using hsz) _) (Nat.le_refl _) ?_ rfl rfl rfl rfl))
        intro A' c' w' hO' hB' hs' _
        clear hO hB
        go_wp2
        go_roundw
        case rel => exact ⟨k + 1, A', c', by omega, by go_num, by rw [HX.out]; simp, hO'.eqn (by rw [HX.out]; simp) (by rw [HX.out]; simp), hB'⟩
        case measure => simp [intOf]; omega
    · go_wp2
      go_ret
      rw [List.take_of_length_le (by omega)] at hO ⊢
      exact ⟨_, _, rfl, hO, hB⟩
end Go.Proofs.YtcecgbjolngdbaaGreatDoor
