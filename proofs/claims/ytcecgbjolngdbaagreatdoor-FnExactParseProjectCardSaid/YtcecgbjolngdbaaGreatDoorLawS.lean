/- What the laws' own helpers do with rows of strings. -/
import Derived.Test.YtcecgbjolngdbaaGreatDoorKit
import Derived.Test.YtcecgbjolngdbaaGreatDoorPlain
import Derived.Test.YtcecgbjolngdbaaGreatDoorLaw
import Derived.Deep.RegionHeld3
namespace Go.Proofs.YtcecgbjolngdbaaGreatDoor
open Go.ChangeShapes Go.WideShapes Go.ChangeAt Go.RowKit
set_option linter.unusedVariables false

theorem Tryz.infoStrL : (Tryz.prog.info? 9).map (fun i => (i.zero, i.size, i.bytes)) = some (some (.string ByteArray.empty), 1, 16) := by kernel_rfl
/-- The decimal digits of a number that is not zero. -/
def decs (n : Nat) : List UInt8 := if h : n = 0 then [] else decs (n / 10) ++ [UInt8.ofNat (48 + n % 10)]
termination_by n
decreasing_by omega
theorem decs_zero : decs 0 = [] := by rw [decs]; rfl
theorem decs_pos {n : Nat} (h : n ≠ 0) : decs n = decs (n / 10) ++ [UInt8.ofNat (48 + n % 10)] := by rw [decs, dif_neg h]
def markTxt (k : Nat) : ByteArray := ⟨#[109]⟩ ++ ⟨(decs k).toArray⟩
set_option maxHeartbeats 800000 in
theorem markText_any (k : Nat) (w : World) (h1 : 1 ≤ k) (h2 : k ≤ 33554432) :
    Calls Tryz.prog 122 #[.int .i64 k] w fun e w' => e = .returned (.string (markTxt k)) ∧ Below w.heap.size w w' := by
  go_enter Tryz.func122, Tryz.ntmps122
  go_wp2
  go_loopw [0, 3] (fun q v wr => ∃ (m : Nat) (t : List UInt8), m ≤ k ∧ q = .int .i64 m ∧ v = .string ⟨t.toArray⟩ ∧ Hid (decs m ++ t = decs k) ∧ Below w.heap.size w wr ∧ t.length + m ≤ k) (fun q _ _ => (intOf q).toNat)
  case atStart => exact ⟨k, [], Nat.le_refl _, rfl, rfl, hide (by simp), Below.refl _ _, by simp⟩
  case round =>
    obtain ⟨m, t, hm, rfl, rfl, HD, hB, ht⟩ := hrel
    by_cases hlt : 0 < m
    · have hcv := conv_one (P := Tryz.prog) wr 42 9 5 Tryz.underlying42 Tryz.underlying5 Tryz.underlying9 (48 + (m : Int) % 10) (by omega) (by omega)
      have HX := hide (decs_pos (n := m) (by omega))
      have he : (48 + (m : Int) % 10).toNat = 48 + m % 10 := by omega
      rw [he] at hcv
      clear he
      generalize UInt8.ofNat (48 + m % 10) = u at hcv HX
      have hsz := hB.size
      go_wp2
      go_roundw
      case rel => exact ⟨m / 10, u :: t, by omega, by go_num, rfl, hide (by have := HD.out; rw [HX.out] at this; simpa using this), hB.alloc hsz _, by simp; omega⟩
      case measure => simp [intOf]; omega
    · obtain rfl : m = 0 := by omega
      have HE := hide (show (⟨t.toArray⟩ : ByteArray) = ⟨(decs k).toArray⟩ from by have := HD.out; rw [decs_zero] at this; rw [← this]; simp)
      go_wp2
      go_ret
      exact ⟨ret_str (by unfold markTxt; rw [← HE.out]), hB⟩
theorem markText_int (k : Int) (w : World) (h1 : 1 ≤ k) (h2 : k ≤ 33554432) :
    Calls Tryz.prog 122 #[.int .i64 k] w fun e w' => e = .returned (.string (markTxt k.toNat)) ∧ Below w.heap.size w w' := by
  obtain ⟨n, rfl⟩ : ∃ n : Nat, k = n := ⟨k.toNat, by omega⟩
  rw [Int.toNat_natCast]
  exact markText_any n w (by omega) (by omega)
end Go.Proofs.YtcecgbjolngdbaaGreatDoor
