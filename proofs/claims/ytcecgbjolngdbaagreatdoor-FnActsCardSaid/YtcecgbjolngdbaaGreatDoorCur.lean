/- The laws' own draws: a cursor over bytes gives numbers. (under way) -/
import Derived.Test.YtcecgbjolngdbaaGreatDoorKit
import Derived.Test.YtcecgbjolngdbaaGreatDoorPlain
import Derived.Test.YtcecgbjolngdbaaGreatDoorLaw
import Derived.Test.YtcecgbjolngdbaaGreatDoorSetOf
import Derived.Laws.Bits128
namespace Go.Proofs.YtcecgbjolngdbaaGreatDoor
open Go.ChangeShapes Go.WideShapes Go.ChangeAt Go.RowKit
set_option linter.unusedVariables false

theorem and255 (n : Int) : bits .and .i64 n 255 = n % 256 := by
  have h255 : (BitVec.ofInt 64 255).toNat = 2 ^ 8 - 1 := by decide
  have key : (BitVec.ofInt 64 n &&& BitVec.ofInt 64 255).toNat = (n % ((2 ^ 64 : Nat) : Int)).toNat % 2 ^ 8 := by
    rw [BitVec.toNat_and, BitVec.toNat_ofInt, h255, Nat.and_two_pow_sub_one_eq_mod]
  show IntKind.i64.wrap ((BitVec.ofInt 64 n &&& BitVec.ofInt 64 255).toNat : Nat) = n % 256
  rw [key, IntKind.wrap_i64]
  omega
/-- The slice at A has n bytes. -/
def RdB (w : World) (lo hi : Nat) (A : Option Addr) (n : Nat) : Prop :=
  0 < n → ∃ b off, A = some ⟨b, off, none⟩ ∧ lo ≤ b ∧ b < hi ∧ ∀ j, j < n → ∃ x : Int, 0 ≤ x ∧ x ≤ 255 ∧ w.cell? ⟨b, off + j, none⟩ = some (.int .u8 x)
theorem RdB.below {w w' : World} {lo hi : Nat} {A : Option Addr} {n B : Nat} (h : RdB w lo hi A n) (hb : Below B w w') (hB : hi ≤ B) : RdB w' lo hi A n := fun h0 => by
  obtain ⟨b, off, e, h1, h2, hc⟩ := h h0
  refine ⟨b, off, e, h1, h2, fun j hj => ?_⟩
  obtain ⟨x, x0, x1, hx⟩ := hc j hj
  exact ⟨x, x0, x1, (hb.cell (p := ⟨b, off + j, none⟩) (by show b < B; omega)).trans hx⟩
theorem RdB.only {w w' : World} {lo hi lo' hi' : Nat} {A : Option Addr} {n : Nat} (h : RdB w lo hi A n) (hb : Only lo' hi' w w') (hs : hi ≤ w.heap.size) (hd : hi ≤ lo' ∨ hi' ≤ lo) : RdB w' lo hi A n := fun h0 => by
  obtain ⟨b, off, e, h1, h2, hc⟩ := h h0
  refine ⟨b, off, e, h1, h2, fun j hj => ?_⟩
  obtain ⟨x, x0, x1, hx⟩ := hc j hj
  exact ⟨x, x0, x1, (World.cell?_of_block (a := ⟨b, off + j, none⟩) (hb.block b (by omega) (by omega))).trans hx⟩
/-- A cursor over n bytes, at most m of them taken. -/
def CurI (w : World) (g : Nat) (A : Option Addr) (n c m : Nat) : Prop := ∃ (i : Nat) (h : Int), i ≤ m ∧ Bk w g 106 #[.slice A n c, .int .i64 i, .int .i64 h]
set_option maxHeartbeats 1600000 in
theorem l01Byte_any (g : Nat) (A : Option Addr) (n c m : Nat) (lo hi : Nat) (w : World) (hn : n ≤ 16777216) (hC : CurI w g A n c m) (hA : RdB w lo hi A n) (hd : hi ≤ g) (hm : m ≤ 16777216) :
    Calls Tryz.prog 163 #[.pointer (some ⟨g, 0, none⟩)] w fun e w' => ∃ v, e = .returned (.int .i64 v) ∧ 0 ≤ v ∧ v ≤ 255 ∧ CurI w' g A n c (min (m + 1) (max m n)) ∧ Only g (g + 1) w w' := by
  obtain ⟨i, h, him, hk⟩ := hC
  have c0 := hk.cell 0
  have c1 := hk.cell 1
  have c2 := hk.cell 2
  have f1 := hk.frozen 1
  have f2 := hk.frozen 2
  simp only [List.getElem?_toArray, List.getElem?_cons_succ, List.getElem?_cons_zero] at c0 c1 c2
  have d0 : ∀ v, (w.setCell ⟨g, 2, none⟩ v).cell? ⟨g, 0, none⟩ = some (.slice A n c) := fun v => by
    rw [World.cell?_setCell_other _ _ _ _ (fun e => by have := congrArg Addr.off e; simp at this)]; exact c0
  have d1 : ∀ v, (w.setCell ⟨g, 2, none⟩ v).cell? ⟨g, 1, none⟩ = some (.int .i64 i) := fun v => by
    rw [World.cell?_setCell_other _ _ _ _ (fun e => by have := congrArg Addr.off e; simp at this)]; exact c1
  go_enter Tryz.func163, Tryz.ntmps163
  have d2 : ∀ v, (w.setCell ⟨g, 2, none⟩ v).cell? ⟨g, 2, none⟩ = some v := fun v => World.cell?_setCell_same _ _ _ c2
  have hK2 : ∀ v, Bk (w.setCell ⟨g, 2, none⟩ (.int .i64 v)) g 106 #[.slice A n c, .int .i64 i, .int .i64 v] := fun v => hk.set 2 _
  have hO2 : ∀ v, Only g (g + 1) w (w.setCell ⟨g, 2, none⟩ v) := fun v => (Only.refl _ _ _).setCell ⟨by dsimp only; omega, by dsimp only; omega⟩ _
  have HK2 := hide hK2
  have HO2 := hide hO2
  clear hK2 hO2
  go_wp2_with fail
  generalize wrap64 (wrap64 (h * 6364136223846793005) + 1442695040888963407) = H
  go_quiet (fail)
  go_wp2_with fail
  rw [and255]
  generalize hX : bits BinOp.xor IntKind.i64 (H / 8589934592) (H / 35184372088832) % 256 = X
  have hX0 : 0 ≤ X := by omega
  have hX1 : X ≤ 255 := by omega
  clear hX
  by_cases hin : i < n
  · obtain ⟨b, off, rfl, h1, h2, hc⟩ := hA (by omega)
    obtain ⟨y, y0, y1, q0⟩ := hc i hin
    have q1 : ∀ v, (w.setCell ⟨g, 2, none⟩ v).cell? ⟨b, off + i, none⟩ = some (.int .u8 y) := fun v => by
      rw [World.cell?_setCell_other _ _ _ _ (fun e => by have := congrArg Addr.block e; simp at this; omega)]; exact q0
    have e1 : (0 : Int) ≤ (i : Int) := by omega
    have e2 : (i : Int) < (n : Int) := by omega
    clear hA hc q0
    go_quiet (fail)
    go_wp2_with fail
    go_quiet (fail)
    rw [and255]
    generalize hZ : (X + y) % 256 = Z
    have hZ0 : 0 ≤ Z := by omega
    have hZ1 : Z ≤ 255 := by omega
    clear hZ
    have d1' := d1 (.int .i64 H)
    go_wp2
    go_ret
    exact ⟨Z, rfl, hZ0, hZ1, ⟨i + 1, H, by omega, (HK2.out H).set 1 (.int .i64 (i + 1))⟩, (by repeat' (first | exact HO2.out _ | refine Only.setCell ?_ ⟨by dsimp only; omega, by dsimp only; omega⟩ _ | apply Only.drewN))⟩
  · have e2 : ¬ (i : Int) < (n : Int) := by omega
    clear hA
    go_quiet (fail)
    go_wp2
    go_ret
    exact ⟨X, rfl, hX0, hX1, ⟨i, H, by omega, HK2.out H⟩, (by repeat' (first | exact HO2.out _ | apply Only.drewN))⟩
theorem CurI.mono {w : World} {g : Nat} {A : Option Addr} {n c m m' : Nat} (h : CurI w g A n c m) (hm : m ≤ m') : CurI w g A n c m' := by
  obtain ⟨i, x, h1, h2⟩ := h
  exact ⟨i, x, by omega, h2⟩
theorem CurI.qt {w : World} {g : Nat} {A : Option Addr} {n c m : Nat} (h : CurI w g A n c m) (d : Nat) : CurI (w.drewN d) g A n c m := h
set_option maxHeartbeats 800000 in
theorem l01Below_any (g : Nat) (A : Option Addr) (n c m : Nat) (q : Int) (lo hi : Nat) (w : World) (hn : n ≤ 16777216) (hC : CurI w g A n c m) (hA : RdB w lo hi A n) (hd : hi ≤ g) (hm : m ≤ 16777216) (hq0 : 0 < q) (hq : q ≤ 256) :
    Calls Tryz.prog 129 #[.pointer (some ⟨g, 0, none⟩), .int .i64 q] w fun e w' => ∃ v, e = .returned (.int .i64 v) ∧ 0 ≤ v ∧ v < q ∧ CurI w' g A n c (m + 1) ∧ Only g (g + 1) w w' := by
  go_enter Tryz.func129, Tryz.ntmps129
  go_wp2_with fail
  refine (l01Byte_any g A n c m lo hi w hn hC hA hd hm).mono ?_
  rintro e w1 ⟨v, rfl, hv0, hv1, hC1, hO⟩
  have ht : v.tmod q = v % q := Int.tmod_eq_emod_of_nonneg hv0
  have hm0 : 0 ≤ v % q := Int.emod_nonneg _ (by omega)
  have hm1 : v % q < q := Int.emod_lt_of_pos _ hq0
  have hq1 : ¬ q = 0 := by omega
  have hq2 : (q == 0) = false := by simp [hq1]
  generalize hz : v % q = z at ht hm0 hm1
  have HZ := hide hz
  clear hz
  go_wp2
  go_ret
  exact ⟨z, by first | rfl | (rw [HZ.out]) | (rw [ht]) | (simp [ht, HZ.out]), hm0, hm1, hC1.mono (by omega), hO⟩
set_option maxHeartbeats 1600000 in
theorem l01BelowBig_any (g : Nat) (A : Option Addr) (n c m : Nat) (q : Int) (lo hi : Nat) (w : World) (hn : n ≤ 16777216) (hC : CurI w g A n c m) (hA : RdB w lo hi A n) (hd : hi ≤ g) (hm : m ≤ 16777212) (hs : hi ≤ w.heap.size) (hq0 : 256 < q) (hq : q ≤ 1000000) :
    Calls Tryz.prog 129 #[.pointer (some ⟨g, 0, none⟩), .int .i64 q] w fun e w' => ∃ v, e = .returned (.int .i64 v) ∧ 0 ≤ v ∧ v < q ∧ CurI w' g A n c (m + 4) ∧ Only g (g + 1) w w' := by
  go_enter Tryz.func129, Tryz.ntmps129
  go_wp2_with fail
  refine (l01Byte_any g A n c m lo hi w hn hC hA hd (by omega)).mono ?_
  rintro e w1 ⟨x, rfl, hx0, hx1, hC1, hO1⟩
  have hA1 := hA.only hO1 hs (by omega)
  have z1 := hO1.size
  go_wp2_with fail
  refine (l01Byte_any g A n c (m + 1) lo hi w1 hn (hC1.mono (by omega)) hA1 hd (by omega)).mono ?_
  rintro e w2 ⟨y, rfl, hy0, hy1, hC2, hO2⟩
  have hA2 := hA1.only hO2 (by omega) (by omega)
  have z2 := hO2.size
  have hO2 := hO1.trans hO2
  go_wp2_with fail
  refine (l01Byte_any g A n c (m + 1 + 1) lo hi w2 hn (hC2.mono (by omega)) hA2 hd (by omega)).mono ?_
  rintro e w3 ⟨z, rfl, hz0, hz1, hC3, hO3⟩
  have hA3 := hA2.only hO3 (by omega) (by omega)
  have z3 := hO3.size
  have hO3 := hO2.trans hO3
  go_wp2_with fail
  refine (l01Byte_any g A n c (m + 1 + 1 + 1) lo hi w3 hn (hC3.mono (by omega)) hA3 hd (by omega)).mono ?_
  rintro e w4 ⟨u, rfl, hu0, hu1, hC4, hO4⟩
  have hO4 := hO3.trans hO4
  have hS0 : 0 ≤ x * 16777216 + y * 65536 + z * 256 + u := by omega
  have ht : (x * 16777216 + y * 65536 + z * 256 + u).tmod q = (x * 16777216 + y * 65536 + z * 256 + u) % q := Int.tmod_eq_emod_of_nonneg hS0
  have hm0 : 0 ≤ (x * 16777216 + y * 65536 + z * 256 + u) % q := Int.emod_nonneg _ (by omega)
  have hm1 : (x * 16777216 + y * 65536 + z * 256 + u) % q < q := Int.emod_lt_of_pos _ (by omega)
  have hq1 : ¬ q = 0 := by omega
  have hq2 : (q == 0) = false := by simp [hq1]
  clear hC1 hC2 hC3 hO1 hO2 hO3 hA hA1 hA2 hA3 hC
  go_wp2
  go_ret
  exact ⟨_, rfl, hm0, hm1, hC4.mono (by omega), hO4⟩
set_option maxHeartbeats 1600000 in
theorem l01New_any (A : Option Addr) (n c lo hi : Nat) (w : World) (hn : n ≤ 16777216) (hA : RdB w lo hi A n) (hhi : hi ≤ w.heap.size) :
    Calls Tryz.prog 71 #[.slice A n c] w fun e w' => ∃ g, e = .returned (.pointer (some ⟨g, 0, none⟩)) ∧ w.heap.size ≤ g ∧ g < w'.heap.size ∧ CurI w' g A n c 0 ∧ Below w.heap.size w w' := by
  go_enter Tryz.func71, Tryz.ntmps71
  go_wp2
  go_loopw [3, 4] (fun q i wr => ∃ (k : Nat) (h : Int), k ≤ n ∧ i = .int .i64 k ∧ q = .int .i64 h ∧ Qt w wr) (fun _ i _ => n - (intOf i).toNat)
  case atStart => exact ⟨0, _, Nat.zero_le _, rfl, rfl, Qt.refl _⟩
  case round =>
    obtain ⟨k, h, hk, rfl, rfl, ⟨d, rfl⟩⟩ := hrel
    by_cases hgo : k < n ∧ k < 4000
    · obtain ⟨h1, h2⟩ := hgo
      obtain ⟨b, off, rfl, b1, b2, hc⟩ := hA (by omega)
      obtain ⟨y, y0, y1, q0⟩ := hc k h1
      have e1 : (k : Int) < 4000 := by omega
      clear hc hA
      go_wp2
      go_roundw
      case rel => exact ⟨k + 1, _, by omega, by go_num, rfl, ⟨_, rfl⟩⟩
      case measure => simp [intOf]; omega
    · have hk1 : Bk ((w.drewN d).alloc (.cells #[.slice A n c, .int .i64 ((0 : Nat) : Int), .int .i64 h] 106)) w.heap.size 106 #[.slice A n c, .int .i64 ((0 : Nat) : Int), .int .i64 h] := Bk.made (w.drewN d) _ _
      have HK := hide hk1; clear hk1 hA
      have hBB := (below_quiet (Below.refl w.heap.size w) d).alloc (Nat.le_refl w.heap.size) (.cells #[.slice A n c, .int .i64 ((0 : Nat) : Int), .int .i64 h] 106)
      have HBB := hide hBB; clear hBB
      by_cases h1 : k < n
      · have e1 : ¬ (k : Int) < 4000 := by omega
        clear hgo
        go_wp2
        go_ret
        exact ⟨w.heap.size, rfl, Nat.le_refl _, by simp, ⟨0, h, Nat.le_refl _, HK.out⟩, HBB.out⟩
      · have e1 : ¬ (k : Int) < (n : Int) := by omega
        clear hgo
        go_wp2
        go_ret
        exact ⟨w.heap.size, rfl, Nat.le_refl _, by simp, ⟨0, h, Nat.le_refl _, HK.out⟩, HBB.out⟩
/-- A cursor that takes no count: the place is never behind the bytes' end. -/
def CurN (w : World) (g : Nat) (A : Option Addr) (n c : Nat) : Prop := CurI w g A n c n
theorem CurN.of {w : World} {g : Nat} {A : Option Addr} {n c : Nat} (h : CurI w g A n c 0) : CurN w g A n c := h.mono (Nat.zero_le _)
theorem CurN.keep {w w' : World} {g : Nat} {A : Option Addr} {n c : Nat} (h : CurN w g A n c) (hk : w'.heap[g]? = w.heap[g]?) : CurN w' g A n c := by
  obtain ⟨i, x, h1, h2⟩ := h
  exact ⟨i, x, h1, hk.trans h2⟩
theorem CurN.lt {w : World} {g : Nat} {A : Option Addr} {n c : Nat} (h : CurN w g A n c) : g < w.heap.size := by
  obtain ⟨i, x, h1, h2⟩ := h
  exact h2.lt
theorem CurN.below {w w' : World} {g : Nat} {A : Option Addr} {n c B : Nat} (h : CurN w g A n c) (hb : Below B w w') (hB : g < B) : CurN w' g A n c := h.keep (hb.block g hB)
theorem CurN.only {w w' : World} {g lo hi : Nat} {A : Option Addr} {n c : Nat} (h : CurN w g A n c) (hb : Only lo hi w w') (hd : g < lo ∨ hi ≤ g) : CurN w' g A n c := h.keep (hb.block g h.lt (by omega))
theorem CurN.alloc {w : World} {g : Nat} {A : Option Addr} {n c : Nat} (h : CurN w g A n c) (o : Obj) : CurN (w.alloc o) g A n c := h.keep (Below.heap_alloc w o g h.lt)
set_option maxHeartbeats 800000 in
theorem l01BelowN_any (g : Nat) (A : Option Addr) (n c : Nat) (q : Int) (lo hi : Nat) (w : World) (hn : n ≤ 16777216) (hC : CurN w g A n c) (hA : RdB w lo hi A n) (hd : hi ≤ g) (hq : q ≤ 256) :
    Calls Tryz.prog 129 #[.pointer (some ⟨g, 0, none⟩), .int .i64 q] w fun e w' => ∃ v, e = .returned (.int .i64 v) ∧ 0 ≤ v ∧ (0 < q → v < q) ∧ (q ≤ 0 → v = 0) ∧ CurN w' g A n c ∧ Only g (g + 1) w w' := by
  by_cases hq0 : 0 < q
  · go_enter Tryz.func129, Tryz.ntmps129
    go_wp2_with fail
    refine (l01Byte_any g A n c n lo hi w hn hC hA hd hn).mono ?_
    rintro e w1 ⟨v, rfl, hv0, hv1, hC1, hO⟩
    have ht : v.tmod q = v % q := Int.tmod_eq_emod_of_nonneg hv0
    have hm0 : 0 ≤ v % q := Int.emod_nonneg _ (by omega)
    have hm1 : v % q < q := Int.emod_lt_of_pos _ hq0
    have hq1 : ¬ q = 0 := by omega
    have hq2 : (q == 0) = false := by simp [hq1]
    generalize hz : v % q = z at ht hm0 hm1
    have HZ := hide hz
    clear hz
    go_wp2
    go_ret
    exact ⟨z, by first | rfl | (rw [HZ.out]) | (rw [ht]) | (simp [ht, HZ.out]), hm0, fun _ => hm1, fun h => by omega, hC1.mono (by omega), hO⟩
  · go_enter Tryz.func129, Tryz.ntmps129
    go_wp2
    go_ret
    exact ⟨0, rfl, Int.le_refl _, fun h => by omega, by simp, hC, Only.refl _ _ _⟩
theorem l01OnceN_any (g : Nat) (A : Option Addr) (n c : Nat) (q : Int) (lo hi : Nat) (w : World) (hn : n ≤ 16777216) (hC : CurN w g A n c) (hA : RdB w lo hi A n) (hd : hi ≤ g) (hq : q ≤ 256) :
    Calls Tryz.prog 131 #[.pointer (some ⟨g, 0, none⟩), .int .i64 q] w fun e w' => ∃ b, e = .returned (.bool b) ∧ CurN w' g A n c ∧ Only g (g + 1) w w' := by
  go_enter Tryz.func131, Tryz.ntmps131
  go_wp2_with fail
  refine (l01BelowN_any g A n c q lo hi w hn hC hA hd hq).mono ?_
  rintro e w1 ⟨v, rfl, hv0, hv1, hv2, hC1, hO⟩
  go_wp2
  go_ret
  exact ⟨_, rfl, hC1, hO⟩
theorem l01Once_any (g : Nat) (A : Option Addr) (n c m : Nat) (q : Int) (lo hi : Nat) (w : World) (hn : n ≤ 16777216) (hC : CurI w g A n c m) (hA : RdB w lo hi A n) (hd : hi ≤ g) (hm : m ≤ 16777216) (hq0 : 0 < q) (hq : q ≤ 256) :
    Calls Tryz.prog 131 #[.pointer (some ⟨g, 0, none⟩), .int .i64 q] w fun e w' => ∃ b, e = .returned (.bool b) ∧ CurI w' g A n c (m + 1) ∧ Only g (g + 1) w w' := by
  go_enter Tryz.func131, Tryz.ntmps131
  go_wp2_with fail
  refine (l01Below_any g A n c m q lo hi w hn hC hA hd hm hq0 hq).mono ?_
  rintro e w1 ⟨v, rfl, hv0, hv1, hC1, hO⟩
  go_wp2
  go_ret
  exact ⟨_, rfl, hC1, hO⟩
set_option maxHeartbeats 1600000 in
theorem l02AnyB_any (g : Nat) (A : Option Addr) (n c m : Nat) (lo hi : Nat) (w : World) (hn : n ≤ 16777216) (hC : CurI w g A n c m) (hA : RdB w lo hi A n) (hd : hi ≤ g) (hm : m ≤ 1048576) (hg : g < w.heap.size) :
    Calls Tryz.prog 78 #[.pointer (some ⟨g, 0, none⟩)] w fun e w' => ∃ A' c' l, e = .returned (.slice A' (List.length l) c') ∧ l.length ≤ 6 ∧ (∀ x ∈ l, 0 ≤ x ∧ x < 8) ∧ OwnR w' w.heap.size w'.heap.size 3 1 A' l.length c' (l.map (.int .i64)) ∧ Only g (g + 1) w w' := by
  have HO0 := hide (OwnR.made w w.heap.size 3 1 #[] 0 (Nat.le_refl _) (by unfold maxLen; omega) rfl)
  have hA0 : ∀ o, Only g (g + 1) w (w.alloc o) := fun o => (Only.refl _ _ _).alloc o
  have HA0 := hide hA0; clear hA0
  obtain ⟨i0, h0, hi0, hk0⟩ := hC
  go_enter Tryz.func78, Tryz.ntmps78
  go_wp2_with fail
  refine (l01Below_any g A n c m 6 lo hi _ hn ⟨i0, h0, hi0, by exact hk0.alloc _⟩ (by exact hA.only (HA0.out _) (by omega) (by omega)) hd (by omega) (by omega) (by omega)).mono ?_
  rintro e w1 ⟨v, rfl, hv0, hv1, hC1, hO1⟩
  obtain ⟨k0, rfl⟩ : ∃ k : Nat, v = k := ⟨v.toNat, by omega⟩
  have hE1 := (HO0.out.only hO1 (by simp) (by omega)).mono (Nat.le_refl _) (by simpa using hO1.size)
  have hOO := (HA0.out _).trans hO1
  have hz1 := hOO.size
  clear hO1 HO0 hk0
  go_wp2
  go_loopw [3, 4] (fun v i wr => ∃ (k : Nat) (A1 : Option Addr) (c1 : Nat) (xs : List Int), k ≤ 5 ∧ xs.length + k ≤ 5 ∧ Hid (∀ x ∈ xs, 0 ≤ x ∧ x < 8) ∧ i = .int .i64 k ∧ v = .slice A1 xs.length c1 ∧ OwnR wr w.heap.size wr.heap.size 3 1 A1 xs.length c1 (xs.map (.int .i64)) ∧ CurI wr g A n c (m + 6 - k) ∧ Only g (g + 1) w wr) (fun _ i _ => (intOf i).toNat)
  case atStart => exact ⟨k0, _, _, [], by omega, by simp; omega, hide (fun x hx => by cases hx), rfl, rfl, by simpa using hE1, hC1.mono (by omega), hOO⟩
  case round =>
    obtain ⟨k, A1, c1, xs, hk, hxk, HX, rfl, rfl, hO, hCr, hB⟩ := hrel
    clear hE1
    have hsz := hB.size
    by_cases hlt : 0 < k
    · have hAr := hA.only hB (by omega) (by omega)
      go_wp2_with fail
      refine (l01Below_any g A n c (m + 6 - k) 8 lo hi wr hn hCr hAr hd (by omega) (by omega) (by omega)).mono ?_
      rintro e w2 ⟨x, rfl, hx0, hx1, hC2, hO2⟩
      have hz2 := hO2.size
      have hO := (hO.only hO2 (Nat.le_refl _) (by omega)).mono (Nat.le_refl _) hz2
      have hB2 := hB.trans hO2
      clear hCr hB hO2
      obtain ⟨i2, h2, hi2, hk2⟩ := hC2
      go_wp2_with (at_builtin; go_must (refine wpList_push _ (.tmp 12) (.tmp 15) 25 3 _ 1 8 Tryz.underlying25 Tryz.infoInt rfl (by omega) w.heap.size _ A1 xs.length c1 _ (hO.alloc _) w2.heap.size 0 1 1 [.int .i64 x] rfl (one_new _ _ _) (one_cell rfl) (by omega) (by omega) (by simp; omega) w.heap.size w2 ((Below.refl _ _).alloc (by omega) _) (Nat.le_refl _) ?_ rfl rfl rfl rfl))
      intro A' c' w' hO' hB' hs' _
      have hk3 := hk2.below hB' hg
      have hB3 := hB2.below hB' (Nat.le_refl _)
      clear hO hB2 hk2
      go_wp2
      go_roundw
      case rel => exact ⟨k - 1, A', c', xs ++ [x], by omega, by simp; omega, hide (fun z hz => by rcases List.mem_append.1 hz with hz | hz; exact HX.out z hz; simp at hz; omega), val_int (by omega), by simp, hO'.eqn (by simp) (by simp), ⟨i2, h2, by omega, hk3⟩, hB3⟩
      case measure => simp [intOf]; omega
    · have hAr := hA.only hB (by omega) (by omega)
      go_wp2_with fail
      refine (l01Once_any g A n c (m + 6 - k) 2 lo hi wr hn hCr hAr hd (by omega) (by omega) (by omega)).mono ?_
      rintro e w2 ⟨b, rfl, hC2, hO2⟩
      have hz2 := hO2.size
      have hO := (hO.only hO2 (Nat.le_refl _) (by omega)).mono (Nat.le_refl _) hz2
      have hB2 := hB.trans hO2
      clear hCr hB hO2 hC2
      cases b
      · go_wp2
        go_ret
        exact ⟨A1, c1, xs, rfl, by omega, HX.out, hO, hB2⟩
      · have hS := specSetOf_any A1 xs c1 w.heap.size w2.heap.size w2 (by omega) hO.rdI (Nat.le_refl _)
        have HSL := hide (setOf_len xs)
        have HS := hide hS; clear hS
        go_wp2_with fail
        refine HS.out.mono ?_
        rintro e w3 ⟨g3, c3, rfl, hO3, hB3⟩
        have hO3 := hO3.mono (lo' := w.heap.size) (by omega) (Nat.le_refl _)
        have hB4 := hB2.below hB3 (by omega)
        clear HS
        go_wp2
        go_ret
        exact ⟨_, c3, setOf xs, rfl, by have := HSL.out; omega, fun z hz => HX.out z ((setOf_mem xs z).1 hz), hO3, hB4⟩
set_option maxHeartbeats 800000 in
theorem makeListB_any (A : Option Addr) (n c lo hi : Nat) (q : Int) (w : World) (hn : n ≤ 16777216) (hA : RdB w lo hi A n) (hhi : hi ≤ w.heap.size) :
    Calls Tryz.prog 18 #[.slice A n c, .int .i64 q] w fun e w' => ∃ A' c' l, e = .returned (.slice A' (List.length l) c') ∧ l.length ≤ 6 ∧ (∀ x ∈ l, 0 ≤ x ∧ x < 8) ∧ OwnR w' w.heap.size w'.heap.size 3 1 A' l.length c' (l.map (.int .i64)) ∧ Below w.heap.size w w' := by
  go_enter Tryz.func18, Tryz.ntmps18
  go_wp2_with fail
  refine (l01New_any A n c lo hi w hn hA hhi).mono ?_
  rintro e w1 ⟨g, rfl, hg, hg1, ⟨i, h, hi0, hk⟩, hB⟩
  have c2 := hk.cell 2
  have f2 := hk.frozen 2
  simp only [List.getElem?_toArray, List.getElem?_cons_succ, List.getElem?_cons_zero] at c2
  have HK2 : Hid (∀ v, Bk (w1.setCell ⟨g, 2, none⟩ (.int .i64 v)) g 106 #[.slice A n c, .int .i64 i, .int .i64 v]) := fun v => hk.set 2 _
  have HB2 : Hid (∀ v, Below w.heap.size w (w1.setCell ⟨g, 2, none⟩ v)) := fun v => hB.setCell (by show w.heap.size ≤ g; omega) _
  clear hk hB
  go_wp2_with fail
  refine (l02AnyB_any g A n c 0 lo hi _ hn ⟨i, _, hi0, by exact HK2.out _⟩ (by exact hA.below (HB2.out _) hhi) (by omega) (by omega) (by simp [World.setCell]; omega)).mono ?_
  rintro e w2 ⟨A', c', l, rfl, hl6, hl8, hO, hN⟩
  have hB3 := below_only (HB2.out _) hN (by omega) (by simp [World.setCell]; omega)
  have hO3 := hO.mono (lo' := w.heap.size) (by simp [World.setCell]; omega) (Nat.le_refl _)
  clear hN hO
  go_wp2
  go_ret
  exact ⟨A', c', l, rfl, hl6, hl8, hO3, hB3⟩
theorem makeList_any (A : Option Addr) (n c lo hi : Nat) (q : Int) (w : World) (hn : n ≤ 16777216) (hA : RdB w lo hi A n) (hhi : hi ≤ w.heap.size) :
    Calls Tryz.prog 18 #[.slice A n c, .int .i64 q] w fun e w' => ∃ A' c' l, e = .returned (.slice A' (List.length l) c') ∧ l.length ≤ 6 ∧ OwnR w' w.heap.size w'.heap.size 3 1 A' l.length c' (l.map (.int .i64)) ∧ Below w.heap.size w w' := by
  refine (makeListB_any A n c lo hi q w hn hA hhi).mono ?_
  rintro e w' ⟨A', c', l, h1, h2, _, h3, h4⟩
  exact ⟨A', c', l, h1, h2, h3, h4⟩
end Go.Proofs.YtcecgbjolngdbaaGreatDoor
