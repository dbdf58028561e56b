/- What the laws' own helpers do with rows of strings. -/
import Derived.Test.YtmiibhegfbgloaaKit
import Derived.Test.YtmiibhegfbgloaaPlain
import Derived.Test.YtmiibhegfbgloaaLaw
import Derived.Deep.RegionHeld3
namespace Go.Proofs.Ytmiibhegfbgloaa
open Go.ChangeShapes Go.WideShapes Go.ChangeAt Go.RowKit
set_option linter.unusedVariables false

theorem Try.infoStrL : (Try.prog.info? 9).map (fun i => (i.zero, i.size, i.bytes)) = some (some (.string ByteArray.empty), 1, 16) := by kernel_rfl
set_option maxHeartbeats 800000 in
theorem toStringS_any (A : Option Addr) (l : List ByteArray) (c lo hi : Nat) (w : World) (hl : l.length ≤ 16777216) (ha : RdS w lo hi A l) (hhi : hi ≤ w.heap.size) :
    Calls Try.prog 44 #[.slice A l.length c] w fun e w' => ∃ A' c', e = .returned (.slice A' l.length c') ∧ OwnR w' w.heap.size w'.heap.size 9 1 A' l.length c' (l.map .string) ∧ Below w.heap.size w w' := by
  have hmk := run_make_row' (P := Try.prog) 34 9 (.string ByteArray.empty) 16 Try.underlying34 Try.infoStrL rfl .i64 .i64 l.length (by omega) (by omega)
  have hO0 := OwnR.made w w.heap.size 9 1 (madeCells #[.string ByteArray.empty] l.length) l.length (Nat.le_refl _) (by unfold maxLen; omega) (by simp [size_madeCells])
  rw [toList_madeCells_one] at hO0
  have HO := hide hO0; clear hO0
  go_enter Try.func44, Try.ntmps44
  go_wp2
  clear hmk
  go_loopw [4] (fun i wr => ∃ k : Nat, k ≤ l.length ∧ i = .int .i64 k ∧ OwnR wr w.heap.size (w.heap.size + 1) 9 1 (some ⟨w.heap.size, 0, none⟩) l.length l.length ((l.take k).map .string ++ List.replicate (l.length - k) (.string ByteArray.empty)) ∧ Below w.heap.size w wr ∧ w.heap.size < wr.heap.size) (fun i _ => l.length - (intOf i).toNat)
  case atStart => exact ⟨0, Nat.zero_le _, rfl, by simpa using HO.out, (Below.refl _ _).alloc (Nat.le_refl _) _, by simp⟩
  case round =>
    obtain ⟨k, hk, rfl, hO, hB, hsz⟩ := hrel
    clear HO
    by_cases hlt : k < l.length
    · obtain ⟨b, off, rfl, h1, h2, hc⟩ := ha (by omega)
      have g1 : wr.cell? ⟨b, off + k, none⟩ = some (.string (l.getD k ByteArray.empty)) := (hB.cell (p := ⟨b, off + k, none⟩) (by show b < _; omega)).trans (hc k hlt)
      have g2 : wr.cell? ⟨w.heap.size, k, none⟩ = some (.string ByteArray.empty) := by
        rw [hO.cellAt k (by omega)]
        exact fill_get _ _ _ _ (by simp; omega) hlt
      have g3 := hO.frozenAt k
      have hO' := hO.stored k (.string (l.getD k ByteArray.empty))
      have hB' := hB.setCell (p := ⟨w.heap.size, k, none⟩) (Nat.le_refl _) (.string (l.getD k ByteArray.empty))
      have HX := hide (take_snoc ByteArray.empty hlt)
      clear hc ha hB
      generalize l.getD k ByteArray.empty = X at *
      go_wp2
      go_roundw
      case rel =>
        refine ⟨k + 1, by omega, by go_num, hO'.eqv ?_, hB', by simpa [World.setCell] using hsz⟩
        rw [fill_set _ _ _ _ _ (by simp; omega) hlt, HX.out]
        simp
      case measure => simp [intOf]; omega
    · go_wp2
      go_ret
      refine ⟨_, _, rfl, (hO.mono (Nat.le_refl _) (by omega)).eqv ?_, hB⟩
      rw [List.take_of_length_le (by omega)]
      simp [show l.length - k = 0 from by omega]
set_option maxHeartbeats 800000 in
theorem eqStringS_same (A B : Option Addr) (xs : List ByteArray) (n m c d lo hi lo' hi' : Nat) (w : World) (hx : xs.length ≤ 16777216) (ha : RdS w lo hi A xs) (hb : RdS w lo' hi' B xs) (hn : n = xs.length) (hm : m = xs.length) :
    Calls Try.prog 37 #[.slice A n c, .slice B m d] w fun e w' => e = .returned (.bool true) ∧ Qt w w' := by
  subst hn; subst hm
  go_enter Try.func37, Try.ntmps37
  go_wp2
  go_loopw [5] (fun i wr => ∃ k : Nat, k ≤ xs.length ∧ i = .int .i64 k ∧ Qt w wr) (fun i _ => xs.length - (intOf i).toNat)
  case atStart => exact ⟨0, Nat.zero_le _, rfl, Qt.refl _⟩
  case round =>
    obtain ⟨k, hk, rfl, ⟨n, rfl⟩⟩ := hrel
    by_cases hlt : k < xs.length
    · obtain ⟨b, off, rfl, h1, h2, hc⟩ := ha (by omega)
      obtain ⟨b', off', rfl, h1', h2', hc'⟩ := hb (by omega)
      have g1 := hc k hlt
      have g2 := hc' k hlt
      clear hc hc' ha hb
      generalize xs.getD k ByteArray.empty = X at g1 g2
      go_wp2_with fail
      go_quiet (fail)
      go_wp2
      go_roundw
      case rel => exact ⟨k + 1, by omega, by go_num, (by repeat (first | exact Qt.refl _ | apply Qt.drewN | apply Qt.drew))⟩
      case measure => simp [intOf]; omega
    · go_wp2
      go_ret
      exact ⟨rfl, ⟨_, rfl⟩⟩
/-- The decimal digits of a number that is not zero. -/
def decs (n : Nat) : List UInt8 := if h : n = 0 then [] else decs (n / 10) ++ [UInt8.ofNat (48 + n % 10)]
termination_by n
decreasing_by omega
theorem decs_zero : decs 0 = [] := by rw [decs]; rfl
theorem decs_pos {n : Nat} (h : n ≠ 0) : decs n = decs (n / 10) ++ [UInt8.ofNat (48 + n % 10)] := by rw [decs, dif_neg h]
def markTxt (k : Nat) : ByteArray := ⟨#[109]⟩ ++ ⟨(decs k).toArray⟩
set_option maxHeartbeats 800000 in
theorem markText_any (k : Nat) (w : World) (h1 : 1 ≤ k) (h2 : k ≤ 33554432) :
    Calls Try.prog 55 #[.int .i64 k] w fun e w' => e = .returned (.string (markTxt k)) ∧ Below w.heap.size w w' := by
  go_enter Try.func55, Try.ntmps55
  go_wp2
  go_loopw [0, 3] (fun q v wr => ∃ (m : Nat) (t : List UInt8), m ≤ k ∧ q = .int .i64 m ∧ v = .string ⟨t.toArray⟩ ∧ Hid (decs m ++ t = decs k) ∧ Below w.heap.size w wr ∧ t.length + m ≤ k) (fun q _ _ => (intOf q).toNat)
  case atStart => exact ⟨k, [], Nat.le_refl _, rfl, rfl, hide (by simp), Below.refl _ _, by simp⟩
  case round =>
    obtain ⟨m, t, hm, rfl, rfl, HD, hB, ht⟩ := hrel
    by_cases hlt : 0 < m
    · have hcv := conv_one (P := Try.prog) wr 48 9 5 Try.underlying48 Try.underlying5 Try.underlying9 (48 + (m : Int) % 10) (by omega) (by omega)
      have HX := hide (decs_pos (n := m) (by omega))
      have he : (48 + (m : Int) % 10).toNat = 48 + m % 10 := by omega
      rw [he] at hcv
      clear he
      generalize UInt8.ofNat (48 + m % 10) = u at hcv HX
      have hsz := hB.size
      go_wp2
      go_roundw
      case rel => exact ⟨m / 10, u :: t, by omega, by go_num, rfl, hide (by have := HD.out; rw [HX.out] at this; simpa using this), hB.alloc hsz _, by simp; omega⟩
      case measure => simp [intOf]; omega
    · obtain rfl : m = 0 := by omega
      have HE := hide (show (⟨t.toArray⟩ : ByteArray) = ⟨(decs k).toArray⟩ from by have := HD.out; rw [decs_zero] at this; rw [← this]; simp)
      go_wp2
      go_ret
      exact ⟨ret_str (by unfold markTxt; rw [← HE.out]), hB⟩
theorem markText_int (k : Int) (w : World) (h1 : 1 ≤ k) (h2 : k ≤ 33554432) :
    Calls Try.prog 55 #[.int .i64 k] w fun e w' => e = .returned (.string (markTxt k.toNat)) ∧ Below w.heap.size w w' := by
  obtain ⟨n, rfl⟩ : ∃ n : Nat, k = n := ⟨k.toNat, by omega⟩
  rw [Int.toNat_natCast]
  exact markText_any n w (by omega) (by omega)
def markS (k : Int) (n : Nat) : List ByteArray := (List.range n).map fun (i : Nat) => markTxt (k + i).toNat
theorem markS_succ (k : Int) (n : Nat) : markS k (n + 1) = markS k n ++ [markTxt (k + n).toNat] := by simp [markS, List.range_succ]
theorem markS_len (k : Int) (n : Nat) : (markS k n).length = n := by simp [markS]
set_option maxHeartbeats 800000 in
theorem markStringS_any (A : Option Addr) (n c lo hi : Nat) (k : Int) (xs : List ByteArray) (w : World) (hn : n ≤ 16777216) (hk : 1 ≤ k) (hk' : k ≤ 16777216) (ha : OwnR w lo hi 9 1 A n c (xs.map .string)) (hhi : hi ≤ w.heap.size) :
    Calls Try.prog 38 #[.slice A n c, .int .i64 k] w fun e w' => e = .returned (.int .i64 (k + n)) ∧ OwnR w' lo hi 9 1 A n c ((markS k n).map .string) ∧ Only lo hi w w' := by
  have hlen := ha.len
  simp at hlen
  have HL := hide hlen; clear hlen
  go_enter Try.func38, Try.ntmps38
  go_wp2
  go_loopw [1, 5] (fun q i wr => ∃ j : Nat, j ≤ n ∧ i = .int .i64 j ∧ q = .int .i64 (k + j) ∧ OwnR wr lo hi 9 1 A n c ((markS k j ++ xs.drop j).map .string) ∧ Only lo hi w wr) (fun _ i _ => n - (intOf i).toNat)
  case atStart => exact ⟨0, Nat.zero_le _, rfl, by simp, by simpa [markS] using ha, Only.refl _ _ _⟩
  case round =>
    obtain ⟨j, hj, rfl, rfl, hO, hB⟩ := hrel
    clear ha
    by_cases hlt : j < n
    · obtain ⟨g, rfl, h1, h2, h3⟩ := hO.some_ (by omega)
      have hx : xs.drop j = xs.getD j ByteArray.empty :: xs.drop (j + 1) := by
        rw [getD_get ByteArray.empty (by rw [HL.out]; exact hlt)]
        exact List.drop_eq_getElem_cons (by rw [HL.out]; exact hlt)
      have hsz := hB.size
      go_wp2_with fail
      refine (markText_int (k + j) _ (by omega) (by omega)).mono ?_
      rintro e w1 ⟨rfl, hb1⟩
      have hO := hO.below hb1 (by omega)
      have hB := hB.below hb1 hsz
      have hs1 := hb1.size
      clear hb1
      have g2 : w1.cell? ⟨g, j, none⟩ = some (.string (xs.getD j ByteArray.empty)) := by
        rw [hO.cellAt j (by omega), hx]
        simp [markS_len]
      have g3 := hO.frozenAt j
      have hO' := hO.stored j (.string (markTxt (k + j).toNat))
      have hB' := hB.setCell (p := ⟨g, j, none⟩) ⟨h1, h2⟩ (.string (markTxt (k + j).toNat))
      have HX := hide hx; clear hx
      have HS := hide (markS_succ k j)
      clear hB hO
      generalize markTxt (k + j).toNat = T at *
      generalize xs.getD j ByteArray.empty = X at *
      go_wp2
      go_roundw
      case rel =>
        refine ⟨j + 1, by omega, by go_num, val_int (by omega), hO'.eqv ?_, hB'⟩
        rw [HS.out, HX.out]
        simp [markS_len]
      case measure => simp [intOf]; omega
    · have hjn : j = n := by omega
      subst hjn
      go_wp2
      go_ret
      refine ⟨rfl, hO.eqv ?_, hB⟩
      rw [List.drop_of_length_le (by rw [HL.out]; exact Nat.le_refl _)]
      simp
set_option maxHeartbeats 1600000 in
theorem heldStringS_any (A : Option Addr) (n c lo hi : Nat) (k : Int) (w : World) (hn : n ≤ 16777216) (hk : 1 ≤ k) (hk' : k ≤ 16777216) (ha : RdS w lo hi A (markS k n)) (hhi : hi ≤ w.heap.size) :
    Calls Try.prog 39 #[.slice A n c, .int .i64 k] w fun e w' => e = .returned (.int .i64 (k + n)) ∧ Below w.heap.size w w' := by
  go_enter Try.func39, Try.ntmps39
  go_wp2
  go_loopw [1, 5] (fun q i wr => ∃ j : Nat, j ≤ n ∧ i = .int .i64 j ∧ q = .int .i64 (k + j) ∧ Below w.heap.size w wr) (fun _ i _ => n - (intOf i).toNat)
  case atStart => exact ⟨0, Nat.zero_le _, rfl, by simp, Below.refl _ _⟩
  case round =>
    obtain ⟨j, hj, rfl, rfl, hB⟩ := hrel
    by_cases hlt : j < n
    · obtain ⟨b, off, rfl, h1, h2, hc⟩ := ha (by rw [markS_len]; omega)
      have g1 := (hB.cell (p := ⟨b, off + j, none⟩) (by show b < _; omega)).trans (hc j (by rw [markS_len]; exact hlt))
      have hm : (markS k n).getD j ByteArray.empty = markTxt (k + j).toNat := by
        rw [getD_get ByteArray.empty (by rw [markS_len]; exact hlt)]
        simp [markS]
      rw [hm] at g1
      clear hm hc ha
      have hsz := hB.size
      have hbb : b < w.heap.size := by omega
      have HM := hide (markText_int (k + j))
      generalize markTxt (k + j).toNat = T at g1 HM
      go_wp2_with fail
      go_region_held3 (fun w' => w'.cell? ⟨b, off + j, none⟩ = some (.string T) ∧ Below w.heap.size w w' ∧ w.heap.size ≤ w'.heap.size)
        (first | exact ⟨g1, hB.drew, hsz⟩ | (go_split_ands; exact ⟨(hb1.cell (p := ⟨b, off + j, none⟩) (by show b < _; omega)).trans (by assumption), Below.trans (by assumption) (hb1.mono (by assumption)), Nat.le_trans (by assumption) hb1.size⟩))
        (first | (go_at_call 55; refine (HM.out _ (by omega) (by omega)).mono ?_; rintro e w' ⟨rfl, hb1⟩))
      go_split_ands
      go_wp2
      go_roundw
      case rel => exact ⟨j + 1, by omega, by go_num, val_int (by omega), by assumption⟩
      case measure => simp [intOf]; omega
    · have hjn : j = n := by omega
      subst hjn
      go_wp2
      go_ret
      exact ⟨rfl, hB⟩
def strBytes (l : List ByteArray) : Nat := (l.map ByteArray.size).sum
theorem strBytes_take {l : List ByteArray} {k : Nat} (h : k < l.length) : strBytes (l.take (k + 1)) = strBytes (l.take k) + (l.getD k ByteArray.empty).size := by
  rw [take_snoc ByteArray.empty h]
  simp [strBytes]
set_option maxHeartbeats 800000 in
theorem szStringS_any (A : Option Addr) (l : List ByteArray) (c lo hi : Nat) (q : Int) (w : World) (hq0 : 0 ≤ q) (hq : q ≤ 16777216) (hc : ∀ x ∈ l, x.size ≤ 9223372036854775807) (hlen : l.length ≤ 9223372036854775807) (ha : RdS w lo hi A l) :
    Calls Try.prog 42 #[.slice A l.length c, .int .i64 q] w fun e w' => ∃ r, e = .returned (.int .i64 r) ∧ (r = -1 ∨ (0 ≤ r ∧ r ≤ q ∧ (l.length : Int) + strBytes l + r = q)) ∧ Qt w w' := by
  by_cases h0 : (l.length : Int) ≤ q
  · go_enter Try.func42, Try.ntmps42
    go_wp2
    go_loopw [1, 5] (fun p i wr => ∃ (k : Nat) (r : Int), k ≤ l.length ∧ i = .int .i64 k ∧ p = .int .i64 r ∧ 0 ≤ r ∧ r ≤ q ∧ Hid ((l.length : Int) + strBytes (l.take k) + r = q) ∧ Qt w wr) (fun _ i _ => l.length - (intOf i).toNat)
    case atStart => exact ⟨0, _, Nat.zero_le _, rfl, rfl, by omega, by omega, hide (by simp [strBytes]; omega), Qt.refl _⟩
    case round =>
      obtain ⟨k, r, hk, rfl, rfl, hr0, hr1, HR, ⟨d, rfl⟩⟩ := hrel
      by_cases hlt : k < l.length
      · obtain ⟨b, off, rfl, h1, h2, hcell⟩ := ha (by omega)
        have g1 := hcell k hlt
        have HT := hide (strBytes_take hlt)
        have hX : (l.getD k ByteArray.empty).size ≤ 9223372036854775807 := hc _ (by rw [getD_get ByteArray.empty hlt]; exact List.getElem_mem hlt)
        clear hcell ha hc
        generalize l.getD k ByteArray.empty = X at g1 HT hX
        by_cases hneg : r - (X.size : Int) < 0
        · go_wp2
          go_ret
          exact ⟨_, rfl, .inl rfl, ⟨_, rfl⟩⟩
        · go_wp2
          go_roundw
          case rel => exact ⟨k + 1, _, by omega, by go_num, rfl, by omega, by omega, hide (by have := HR.out; have := HT.out; omega), ⟨_, rfl⟩⟩
          case measure => simp [intOf]; omega
      · go_wp2
        go_ret
        exact ⟨_, rfl, .inr ⟨hr0, hr1, by have := HR.out; rw [List.take_of_length_le (by omega)] at this; exact this⟩, ⟨_, rfl⟩⟩
  · go_enter Try.func42, Try.ntmps42
    go_wp2
    go_ret
    exact ⟨_, rfl, .inl rfl, Qt.refl _⟩
end Go.Proofs.Ytmiibhegfbgloaa
