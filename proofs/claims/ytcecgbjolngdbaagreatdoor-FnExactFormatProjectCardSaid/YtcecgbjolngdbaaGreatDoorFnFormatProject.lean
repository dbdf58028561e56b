/- For every input the law FnExactFormatProject returns true and its arguments read as before. No condition. -/
import Derived.Test.YtcecgbjolngdbaaGreatDoorRows
import Derived.Test.YtcecgbjolngdbaaGreatDoorOpen
import Derived.Test.YtcecgbjolngdbaaGreatDoorLaw
import Derived.Test.YtcecgbjolngdbaaGreatDoorLawPj
import Derived.Test.YtcecgbjolngdbaaGreatDoorOpenTy
import Derived.Test.YtcecgbjolngdbaaGreatDoorSets
import Derived.Test.YtcecgbjolngdbaaGreatDoorFmtP3
import Derived.Test.YtcecgbjolngdbaaGreatDoorFmtP4
import Derived.Test.YtcecgbjolngdbaaGreatDoorLaidW
import Derived.Deep.RegionHeld3
import Derived.SevenTiedAt
namespace Go.Proofs.YtcecgbjolngdbaaGreatDoor.fnExactFormatProject
open Go.ChangeShapes Go.WideShapes Go.ChangeAt Go.RowKit
open Go.ChangeMaps (open_string shut_string)
set_option linter.unusedVariables false

theorem own : ownKnob Tryz.prog.godebug = none := by kernel_rfl
theorem laidOut : laidOutB Tryz.prog = true := by kernel_rfl

set_option maxHeartbeats 1600000 in
theorem walk (A0_x0 A1_x0 A2_x0 A3_x0 : Option Addr) (x0 : Pj) (c0_x0 c1_x0 c2_x0 c3_x0 : Nat) (w : World) (f0_x0 : RdAs w 0 w.heap.size A0_x0 x0.acts) (f1_x0 : RdLs w 0 w.heap.size A1_x0 x0.links) (f2_x0 : RdRs w 0 w.heap.size A2_x0 x0.res) (f3_x0 : RdI w 0 w.heap.size A3_x0 x0.stocks) (i_x0 : WfPj x0) (ld : LdT w w.heap.size) :
    Calls Tryz.prog 3 #[.agg #[.int .i64 x0.dead, .slice A0_x0 x0.acts.length c0_x0, .slice A1_x0 x0.links.length c1_x0, .slice A2_x0 x0.res.length c2_x0, .slice A3_x0 x0.stocks.length c3_x0]] w fun e w' => e = .returned (.bool true) ∧ Below w.heap.size w w' := by
  have bel := Below.refl w.heap.size w
  go_enter Tryz.func3, Tryz.ntmps3
  go_wp2_with fail
  refine at_world fun w1 hW => ?_
  have rW : Only w.heap.size w.heap.size w w1 := by rw [hW]; (repeat' (first | exact Only.refl _ _ _ | refine Only.alloc ?_ _))
  have z1 := rW.size
  have ld := ld.only rW (by omega) (by omega)
  have f0_x0 := f0_x0.only rW (by omega) (by omega)
  have f1_x0 := f1_x0.only rW (by omega) (by omega)
  have f2_x0 := f2_x0.only rW (by omega) (by omega)
  have f3_x0 := f3_x0.only rW (by omega) (by omega)
  have kb_x0 : Bk w1 w.heap.size 27 #[.int .i64 x0.dead, .slice A0_x0 x0.acts.length c0_x0, .slice A1_x0 x0.links.length c1_x0, .slice A2_x0 x0.res.length c2_x0, .slice A3_x0 x0.stocks.length c3_x0] := by rw [hW]; exact Bk.made _ _ _
  have zk_kb_x0 := kb_x0.lt
  have bel := below_only bel rW (by omega) (by omega)
  clear hW rW
  refine (szProject_any x0 _ _ _ _ _ _ _ _ 0 w.heap.size (1048576) _ i_x0 (by omega) (by omega) (by exact f0_x0) (by exact f1_x0) (by exact f2_x0) (by exact f3_x0) (by omega)).mono ?_
  rintro e w2 ⟨r_x0, rfl, b_x0, r2⟩
  have r2 := only_below r2
  have z2 := r2.size
  have bel := below_only bel r2 (by first | exact Nat.le_refl _ | omega) (by omega)
  have ld := ld.only r2 (by omega) (by omega)
  have f0_x0 := f0_x0.only r2 (by omega) (by omega)
  have f1_x0 := f1_x0.only r2 (by omega) (by omega)
  have f2_x0 := f2_x0.only r2 (by omega) (by omega)
  have f3_x0 := f3_x0.only r2 (by omega) (by omega)
  have kb_x0 := kb_x0.only r2 (by omega)
  clear r2
  have q0_kb_x0 := kb_x0.cell 0
  have q1_kb_x0 := kb_x0.cell 1
  have q2_kb_x0 := kb_x0.cell 2
  have q3_kb_x0 := kb_x0.cell 3
  have q4_kb_x0 := kb_x0.cell 4
  simp only [List.getElem?_toArray, List.getElem?_cons_succ, List.getElem?_cons_zero] at q0_kb_x0 q1_kb_x0 q2_kb_x0 q3_kb_x0 q4_kb_x0
  rcases b_x0 with rfl | ⟨b1_x0, b2_x0, b3_x0⟩
  case inl =>
    go_wp2
    go_ret
    exact ⟨rfl, bel⟩
  have l_x0 : szPj x0 ≤ 1048576 := by omega
  have m_x0 : x0.acts.length ≤ 1048576 ∧ x0.links.length ≤ 1048576 ∧ x0.res.length ≤ 1048576 ∧ x0.stocks.length ≤ 1048576 := by (have e : szPj x0 = szL szAc x0.acts + (x0.links.length + (szL szRs x0.res + x0.stocks.length)) := rfl); (have := szL_len szAc x0.acts); (have := szL_len szRs x0.res); omega
  go_wp2_with fail
  refine at_world fun w3 hW => ?_
  have rW : Only w2.heap.size w2.heap.size w2 w3 := by rw [hW]; (repeat' (first | exact Only.refl _ _ _ | refine Only.alloc ?_ _))
  have z3 := rW.size
  clear q0_kb_x0 q1_kb_x0 q2_kb_x0 q3_kb_x0 q4_kb_x0
  have ld := ld.only rW (by omega) (by omega)
  have f0_x0 := f0_x0.only rW (by omega) (by omega)
  have f1_x0 := f1_x0.only rW (by omega) (by omega)
  have f2_x0 := f2_x0.only rW (by omega) (by omega)
  have f3_x0 := f3_x0.only rW (by omega) (by omega)
  have kb_x0 := kb_x0.only rW (by omega)
  have bel := below_only bel rW (by omega) (by omega)
  clear hW rW
  refine (toProject_any x0 _ _ _ _ _ _ _ _ 0 w.heap.size _ (by omega) (by exact f0_x0) (by exact f1_x0) (by exact f2_x0) (by exact f3_x0) (by omega)).mono ?_
  rintro e w4 ⟨A0_x0s, c0_x0s, A1_x0s, c1_x0s, A2_x0s, c2_x0s, A3_x0s, c3_x0s, rfl, v_x0s, r4⟩
  have r4 := only_below r4
  have z4 := r4.size
  have bel := below_only bel r4 (by first | exact Nat.le_refl _ | omega) (by omega)
  have ld := ld.only r4 (by omega) (by omega)
  have f0_x0 := f0_x0.only r4 (by omega) (by omega)
  have f1_x0 := f1_x0.only r4 (by omega) (by omega)
  have f2_x0 := f2_x0.only r4 (by omega) (by omega)
  have f3_x0 := f3_x0.only r4 (by omega) (by omega)
  have kb_x0 := kb_x0.only r4 (by omega)
  clear r4
  have q0_kb_x0 := kb_x0.cell 0
  have q1_kb_x0 := kb_x0.cell 1
  have q2_kb_x0 := kb_x0.cell 2
  have q3_kb_x0 := kb_x0.cell 3
  have q4_kb_x0 := kb_x0.cell 4
  simp only [List.getElem?_toArray, List.getElem?_cons_succ, List.getElem?_cons_zero] at q0_kb_x0 q1_kb_x0 q2_kb_x0 q3_kb_x0 q4_kb_x0
  obtain ⟨f0_x0s, f1_x0s, f2_x0s, f3_x0s⟩ := ownProject_parts v_x0s
  clear v_x0s
  go_wp2_with fail
  refine at_world fun w5 hW => ?_
  have rW : Only w4.heap.size w4.heap.size w4 w5 := by rw [hW]; (repeat' (first | exact Only.refl _ _ _ | refine Only.alloc ?_ _))
  have z5 := rW.size
  clear q0_kb_x0 q1_kb_x0 q2_kb_x0 q3_kb_x0 q4_kb_x0
  have ld := ld.only rW (by omega) (by omega)
  have f0_x0 := f0_x0.only rW (by omega) (by omega)
  have f1_x0 := f1_x0.only rW (by omega) (by omega)
  have f2_x0 := f2_x0.only rW (by omega) (by omega)
  have f3_x0 := f3_x0.only rW (by omega) (by omega)
  have f0_x0s := f0_x0s.only rW (by omega) (by omega)
  have f1_x0s := f1_x0s.only rW (by omega) (by omega)
  have f2_x0s := f2_x0s.only rW (by omega) (by omega)
  have f3_x0s := f3_x0s.only rW (by omega) (by omega)
  have kb_x0 := kb_x0.only rW (by omega)
  have bel := below_only bel rW (by omega) (by omega)
  clear hW rW
  refine (specFormatProject_any x0 _ _ _ _ _ _ _ _ _ _ _ (by omega) (by exact f0_x0s) (by exact f1_x0s) (by exact f2_x0s) (by exact f3_x0s) (by omega)).mono ?_
  rintro e w6 ⟨rfl, r6⟩
  have r6 := only_below r6
  have z6 := r6.size
  have bel := below_only bel r6 (by first | exact Nat.le_refl _ | omega) (by omega)
  have ld := ld.only r6 (by omega) (by omega)
  have f0_x0 := f0_x0.only r6 (by omega) (by omega)
  have f1_x0 := f1_x0.only r6 (by omega) (by omega)
  have f2_x0 := f2_x0.only r6 (by omega) (by omega)
  have f3_x0 := f3_x0.only r6 (by omega) (by omega)
  have f0_x0s := f0_x0s.only r6 (by omega) (by omega)
  have f1_x0s := f1_x0s.only r6 (by omega) (by omega)
  have f2_x0s := f2_x0s.only r6 (by omega) (by omega)
  have f3_x0s := f3_x0s.only r6 (by omega) (by omega)
  have kb_x0 := kb_x0.only r6 (by omega)
  clear r6
  have q0_kb_x0 := kb_x0.cell 0
  have q1_kb_x0 := kb_x0.cell 1
  have q2_kb_x0 := kb_x0.cell 2
  have q3_kb_x0 := kb_x0.cell 3
  have q4_kb_x0 := kb_x0.cell 4
  simp only [List.getElem?_toArray, List.getElem?_cons_succ, List.getElem?_cons_zero] at q0_kb_x0 q1_kb_x0 q2_kb_x0 q3_kb_x0 q4_kb_x0
  clear f0_x0s
  clear f1_x0s
  clear f2_x0s
  clear f3_x0s
  go_wp2_with fail
  refine at_world fun w7 hW => ?_
  have rW : Only w6.heap.size w6.heap.size w6 w7 := by rw [hW]; (repeat' (first | exact Only.refl _ _ _ | refine Only.alloc ?_ _))
  have z7 := rW.size
  clear q0_kb_x0 q1_kb_x0 q2_kb_x0 q3_kb_x0 q4_kb_x0
  have ld := ld.only rW (by omega) (by omega)
  have f0_x0 := f0_x0.only rW (by omega) (by omega)
  have f1_x0 := f1_x0.only rW (by omega) (by omega)
  have f2_x0 := f2_x0.only rW (by omega) (by omega)
  have f3_x0 := f3_x0.only rW (by omega) (by omega)
  have kb_x0 := kb_x0.only rW (by omega)
  have bel := below_only bel rW (by omega) (by omega)
  clear hW rW
  refine (toProject_any x0 _ _ _ _ _ _ _ _ 0 w.heap.size _ (by omega) (by exact f0_x0) (by exact f1_x0) (by exact f2_x0) (by exact f3_x0) (by omega)).mono ?_
  rintro e w8 ⟨A0_x0x, c0_x0x, A1_x0x, c1_x0x, A2_x0x, c2_x0x, A3_x0x, c3_x0x, rfl, v_x0x, r8⟩
  have r8 := only_below r8
  have z8 := r8.size
  have bel := below_only bel r8 (by first | exact Nat.le_refl _ | omega) (by omega)
  have ld := ld.only r8 (by omega) (by omega)
  have f0_x0 := f0_x0.only r8 (by omega) (by omega)
  have f1_x0 := f1_x0.only r8 (by omega) (by omega)
  have f2_x0 := f2_x0.only r8 (by omega) (by omega)
  have f3_x0 := f3_x0.only r8 (by omega) (by omega)
  have kb_x0 := kb_x0.only r8 (by omega)
  clear r8
  have q0_kb_x0 := kb_x0.cell 0
  have q1_kb_x0 := kb_x0.cell 1
  have q2_kb_x0 := kb_x0.cell 2
  have q3_kb_x0 := kb_x0.cell 3
  have q4_kb_x0 := kb_x0.cell 4
  simp only [List.getElem?_toArray, List.getElem?_cons_succ, List.getElem?_cons_zero] at q0_kb_x0 q1_kb_x0 q2_kb_x0 q3_kb_x0 q4_kb_x0
  obtain ⟨f0_x0x, f1_x0x, f2_x0x, f3_x0x⟩ := ownProject_parts v_x0x
  clear v_x0x
  go_wp2_with fail
  refine at_world fun w9 hW => ?_
  have rW : Only w8.heap.size w8.heap.size w8 w9 := by rw [hW]; (repeat' (first | exact Only.refl _ _ _ | refine Only.alloc ?_ _))
  have z9 := rW.size
  clear q0_kb_x0 q1_kb_x0 q2_kb_x0 q3_kb_x0 q4_kb_x0
  have ld := ld.only rW (by omega) (by omega)
  have f0_x0 := f0_x0.only rW (by omega) (by omega)
  have f1_x0 := f1_x0.only rW (by omega) (by omega)
  have f2_x0 := f2_x0.only rW (by omega) (by omega)
  have f3_x0 := f3_x0.only rW (by omega) (by omega)
  have f0_x0x := f0_x0x.only rW (by omega) (by omega)
  have f1_x0x := f1_x0x.only rW (by omega) (by omega)
  have f2_x0x := f2_x0x.only rW (by omega) (by omega)
  have f3_x0x := f3_x0x.only rW (by omega) (by omega)
  have kb_x0 := kb_x0.only rW (by omega)
  have kb_x0x : Bk w9 w8.heap.size 34 #[.int .i64 x0.dead, .slice A0_x0x x0.acts.length c0_x0x, .slice A1_x0x x0.links.length c1_x0x, .slice A2_x0x x0.res.length c2_x0x, .slice A3_x0x x0.stocks.length c3_x0x] := by rw [hW]; exact Bk.made _ _ _
  have zk_kb_x0x := kb_x0x.lt
  have bel := below_only bel rW (by omega) (by omega)
  clear hW rW
  refine (implFormatProject_any x0 _ _ _ _ _ _ _ _ _ _ _ (by omega) (by exact f0_x0x) (by exact f1_x0x) (by exact f2_x0x) (by exact f3_x0x) (by omega) _ (by exact ld) (by omega)).mono ?_
  rintro e w10 ⟨rfl, r10⟩
  have r10 := only_below r10
  have z10 := r10.size
  have bel := below_only bel r10 (by first | exact Nat.le_refl _ | omega) (by omega)
  have ld := ld.only r10 (by omega) (by omega)
  have f0_x0 := f0_x0.only r10 (by omega) (by omega)
  have f1_x0 := f1_x0.only r10 (by omega) (by omega)
  have f2_x0 := f2_x0.only r10 (by omega) (by omega)
  have f3_x0 := f3_x0.only r10 (by omega) (by omega)
  have f0_x0x := f0_x0x.only r10 (by omega) (by omega)
  have f1_x0x := f1_x0x.only r10 (by omega) (by omega)
  have f2_x0x := f2_x0x.only r10 (by omega) (by omega)
  have f3_x0x := f3_x0x.only r10 (by omega) (by omega)
  have kb_x0 := kb_x0.only r10 (by omega)
  have kb_x0x := kb_x0x.only r10 (by omega)
  clear r10
  have q0_kb_x0 := kb_x0.cell 0
  have q1_kb_x0 := kb_x0.cell 1
  have q2_kb_x0 := kb_x0.cell 2
  have q3_kb_x0 := kb_x0.cell 3
  have q4_kb_x0 := kb_x0.cell 4
  have q0_kb_x0x := kb_x0x.cell 0
  have q1_kb_x0x := kb_x0x.cell 1
  have q2_kb_x0x := kb_x0x.cell 2
  have q3_kb_x0x := kb_x0x.cell 3
  have q4_kb_x0x := kb_x0x.cell 4
  simp only [List.getElem?_toArray, List.getElem?_cons_succ, List.getElem?_cons_zero] at q0_kb_x0 q1_kb_x0 q2_kb_x0 q3_kb_x0 q4_kb_x0 q0_kb_x0x q1_kb_x0x q2_kb_x0x q3_kb_x0x q4_kb_x0x
  have hL : w10.heap.size ≤ w10.heap.size := Nat.le_refl _
  go_wp2_with fail
  go_region_held3 (fun w' => (w'.cell? ⟨w.heap.size, 0, none⟩ = some (.int .i64 x0.dead) ∧ w'.cell? ⟨w.heap.size, 1, none⟩ = some (.slice A0_x0 x0.acts.length c0_x0) ∧ w'.cell? ⟨w.heap.size, 2, none⟩ = some (.slice A1_x0 x0.links.length c1_x0) ∧ w'.cell? ⟨w.heap.size, 3, none⟩ = some (.slice A2_x0 x0.res.length c2_x0) ∧ w'.cell? ⟨w.heap.size, 4, none⟩ = some (.slice A3_x0 x0.stocks.length c3_x0) ∧ w'.cell? ⟨w8.heap.size, 0, none⟩ = some (.int .i64 x0.dead) ∧ w'.cell? ⟨w8.heap.size, 1, none⟩ = some (.slice A0_x0x x0.acts.length c0_x0x) ∧ w'.cell? ⟨w8.heap.size, 2, none⟩ = some (.slice A1_x0x x0.links.length c1_x0x) ∧ w'.cell? ⟨w8.heap.size, 3, none⟩ = some (.slice A2_x0x x0.res.length c2_x0x) ∧ w'.cell? ⟨w8.heap.size, 4, none⟩ = some (.slice A3_x0x x0.stocks.length c3_x0x)) ∧ Only w10.heap.size w10.heap.size w10 w' ∧ w10.heap.size ≤ w'.heap.size)
    (first | exact ⟨⟨q0_kb_x0, q1_kb_x0, q2_kb_x0, q3_kb_x0, q4_kb_x0, q0_kb_x0x, q1_kb_x0x, q2_kb_x0x, q3_kb_x0x, q4_kb_x0x⟩, (Only.refl _ _ _).drew, hL⟩ | (go_split_ands; exact (fun hO => ⟨⟨only_cell hO q0_kb_x0, only_cell hO q1_kb_x0, only_cell hO q2_kb_x0, only_cell hO q3_kb_x0, only_cell hO q4_kb_x0, only_cell hO q0_kb_x0x, only_cell hO q1_kb_x0x, only_cell hO q2_kb_x0x, only_cell hO q3_kb_x0x, only_cell hO q4_kb_x0x⟩, hO, hO.size⟩) (only_grow (by assumption) (by first | exact r_e | exact r_t))))
    (first | (go_at_call 8; (try go_split_ands); refine (toProject_any x0 _ _ _ _ _ _ _ _ 0 w.heap.size _ (by omega) (by exact f0_x0.only (by assumption) (by omega) (by omega)) (by exact f1_x0.only (by assumption) (by omega) (by omega)) (by exact f2_x0.only (by assumption) (by omega) (by omega)) (by exact f3_x0.only (by assumption) (by omega) (by omega)) (by omega)).mono ?_; rintro e w' ⟨A0_t, c0_t, A1_t, c1_t, A2_t, c2_t, A3_t, c3_t, rfl, v_t, r_t⟩; obtain ⟨f0_t, f1_t, f2_t, f3_t⟩ := ownProject_parts v_t) | (go_at_call 10; (try go_split_ands); refine (eqProject_same x0 _ _ _ _ _ _ _ _ _ _ _ _ _ _ _ _ _ _ _ _ _ (by omega) (by exact f0_x0x.only (by assumption) (by omega) (by omega)) (by exact f1_x0x.only (by assumption) (by omega) (by omega)) (by exact f2_x0x.only (by assumption) (by omega) (by omega)) (by exact f3_x0x.only (by assumption) (by omega) (by omega)) (by exact f0_t) (by exact f1_t) (by exact f2_t) (by exact f3_t) (by omega) (Nat.le_refl _)).mono ?_; rintro e w11 ⟨rfl, r_e⟩))
  rename_i hS
  have r11 := hS.2.1
  have z11 := r11.size
  clear hS hL
  clear q0_kb_x0 q1_kb_x0 q2_kb_x0 q3_kb_x0 q4_kb_x0 q0_kb_x0x q1_kb_x0x q2_kb_x0x q3_kb_x0x q4_kb_x0x
  have bel := below_only bel r11 (by omega) (by omega)
  have ld := ld.only r11 (by omega) (by omega)
  have f0_x0 := f0_x0.only r11 (by omega) (by omega)
  have f1_x0 := f1_x0.only r11 (by omega) (by omega)
  have f2_x0 := f2_x0.only r11 (by omega) (by omega)
  have f3_x0 := f3_x0.only r11 (by omega) (by omega)
  have f0_x0x := f0_x0x.only r11 (by omega) (by omega)
  have f1_x0x := f1_x0x.only r11 (by omega) (by omega)
  have f2_x0x := f2_x0x.only r11 (by omega) (by omega)
  have f3_x0x := f3_x0x.only r11 (by omega) (by omega)
  have kb_x0 := kb_x0.only r11 (by omega)
  have kb_x0x := kb_x0x.only r11 (by omega)
  clear r11
  have q0_kb_x0 := kb_x0.cell 0
  have q1_kb_x0 := kb_x0.cell 1
  have q2_kb_x0 := kb_x0.cell 2
  have q3_kb_x0 := kb_x0.cell 3
  have q4_kb_x0 := kb_x0.cell 4
  have q0_kb_x0x := kb_x0x.cell 0
  have q1_kb_x0x := kb_x0x.cell 1
  have q2_kb_x0x := kb_x0x.cell 2
  have q3_kb_x0x := kb_x0x.cell 3
  have q4_kb_x0x := kb_x0x.cell 4
  simp only [List.getElem?_toArray, List.getElem?_cons_succ, List.getElem?_cons_zero] at q0_kb_x0 q1_kb_x0 q2_kb_x0 q3_kb_x0 q4_kb_x0 q0_kb_x0x q1_kb_x0x q2_kb_x0x q3_kb_x0x q4_kb_x0x
  go_wp2
  go_ret
  exact ⟨rfl, bel⟩

theorem reads (os : Os) {H : Type} (enc : TypeId × Value → H) : ∃ x, DataW.whole enc Tryz.prog ((laidWorld os).forCall (fun _ _ => 0) ⟨#[], #[.agg #[.int .i64 0, .slice none 0 0, .slice none 0 0, .slice none 0 0, .slice none 0 0]], []⟩).memory Tryz.f3.params.toList Rows.fnExactFormatProjectSpec.vars false #[(.agg #[.int .i64 0, .slice none 0 0, .slice none 0 0, .slice none 0 0, .slice none 0 0] : Value)].toList 8 = some x := by
  have h : (DataW.whole enc Tryz.prog ((laidWorld os).forCall (fun _ _ => 0) ⟨#[], #[.agg #[.int .i64 0, .slice none 0 0, .slice none 0 0, .slice none 0 0, .slice none 0 0]], []⟩).memory Tryz.f3.params.toList Rows.fnExactFormatProjectSpec.vars false #[(.agg #[.int .i64 0, .slice none 0 0, .slice none 0 0, .slice none 0 0, .slice none 0 0] : Value)].toList 8).isSome = true := by kernel_rfl
  exact Option.isSome_iff_exists.1 h
set_option maxRecDepth 100000 in
theorem lifted (os : Os) (started : os.Started) (H : Type) (enc : TypeId × Value → H) (F : Stop.Interp) :
    ReturnsInHanded {} Tryz.checked os 3 .any ((OpenSpec.ofChange Rows.fnExactFormatProjectSpec).preRow enc Tryz.prog Tryz.f3 Rows.fnExactFormatProjectRow.domain false Rows.fnExactFormatProjectRow.laid) (((OpenSpec.ofChange Rows.fnExactFormatProjectSpec).at F).post enc Tryz.prog Tryz.f3 false true false false) := by
  obtain ⟨x, hx⟩ := reads os enc
  refine returnsInHanded_of_row (C := Tryz.checked) (s := OpenSpec.ofChange Rows.fnExactFormatProjectSpec) ownP started (by kernel_rfl) Tryz.func3
    (witness_row_at (enc := enc) (C := Tryz.checked) false (laidWorld os) #[.agg #[.int .i64 0, .slice none 0 0, .slice none 0 0, .slice none 0 0, .slice none 0 0]] rfl (by kernel_rfl) (by kernel_rfl) (by kernel_rfl)
      (OpenSpec.preRow_of_cond 8 hx rfl (fun k hk => by cases hk) (by kernel_rfl) (laid_met os _))) ?_
  intro W base args ds gs before hval0 hW _ _ _ hL hSh _
  have hval : ∀ (j : Nat) t v, Tryz.f3.params[j]? = some t → args[j]? = some v → Value.okWide Tryz.prog W .any base t v := hval0
  have hW' := hW
  obtain ⟨p, q, hA0, hV, rfl, hfz, hnd⟩ := hW
  have hA : DataW.TrodAll enc Tryz.prog W 0 (fun _ => true) true Tryz.f3.params.toList args.toList ds p := hA0
  rw [Tryz.params3] at hA hval
  obtain ⟨v0, vs0, d0, ds0, p0, q0, hargs, rfl, rfl, h0, r0⟩ := trodAll_cons hA
  obtain ⟨rfl, rfl, rfl⟩ := trodAll_nil r0
  obtain rfl : args = #[v0] := by cases args; simp_all
  obtain ⟨rfl, rfl⟩ := trodVars_none hV
  have k0 := h0
  have lt0 : ∀ x ∈ p0, x.block < W.heap.size := by obtain ⟨m, hm⟩ := k0; exact DataW.trod_lt m _ _ _ hm
  obtain ⟨A0_0, A1_0, A2_0, A3_0, x0, c0_0, c1_0, c2_0, c3_0, rfl, m0_0, m1_0, m2_0, m3_0, i0⟩ := open_project Tryz.tyProject (hval 0 27 v0 rfl rfl) h0
  clear hA0 hval0
  refine (walk A0_0 A1_0 A2_0 A3_0 x0 c0_0 c1_0 c2_0 c3_0 W m0_0 m1_0 m2_0 m3_0 i0 (ldT_of hL)).mono fun e W' ⟨he, bel⟩ => ?_
  subst he
  exact ⟨_, rfl, _, _, _, [], _, [], hW', trodAll_mk1 (shut_bool Tryz.underlying4 _), (trodAll_cons_mk (Below.trod laidOut (by kernel_rfl) (of_decide_eq_true (by kernel_rfl)) k0 bel lt0) trodAll_mk0), rfl, bel.frame _, fun h => by cases h⟩
theorem over : Rows.FnExactFormatProjectSaid :=
  OpenClaim.holds_of_cond 3 Tryz.f3 rfl rfl rfl rfl rfl rfl rfl ⟨rfl, rfl, rfl, rfl, rfl⟩ rfl rfl rfl rfl rfl (by kernel_rfl) Tryz.func3 (by kernel_rfl)
    (of_decide_eq_true (by kernel_rfl)) (by unfold Func.isWrapper; first | (rw [if_pos (by decide +kernel)]; kernel_rfl) | (rw [if_neg (by decide +kernel)]; exact ⟨rfl, rfl⟩))
    (fun os started H enc _ F => by rw [OpenClaim.pre_eq_preRow]; exact lifted os started H enc F)
theorem plain (f : FuncId) (fn : Func) (hf : Tryz.pinned.checked.prog.funcNamed Rows.fnExactFormatProjectRow.func = some f) (hfn : Tryz.pinned.checked.prog.funcs[f]? = some fn) :
    true = Tryz.pinned.checked.prog.looks [] ∧ ∀ (j : Nat) t, fn.params[j]? = some t → Tryz.pinned.checked.prog.wantsStandIn t = false := by
  obtain rfl : f = 3 := Option.some.inj ((show Tryz.prog.funcNamed Rows.fnExactFormatProjectRow.func = some 3 by kernel_rfl).symm.trans hf) |>.symm
  obtain rfl : fn = Tryz.f3 := (Option.some.inj (Tryz.func3.symm.trans hfn)).symm
  refine ⟨by kernel_rfl, fun j t ht => ?_⟩
  rw [Tryz.params3] at ht
  have ht2 := Array.mem_of_getElem? ht
  simp only [List.mem_toArray, List.mem_cons, List.not_mem_nil, or_false] at ht2
  rcases ht2 with rfl
  · exact (show Tryz.prog.wantsStandIn 27 = false by kernel_rfl)
theorem proved : Rows.FnExactFormatProjectCardSaid :=
  Claim7.holds_tied_plain_at .later [] _ _ _ _ over (fun _ h => by cases h) (by kernel_rfl) (fun _ h => by cases h) fnExactFormatProject_row_tie rfl ⟨rfl, rfl⟩ (by kernel_rfl) rfl plain (by kernel_rfl)
end Go.Proofs.YtcecgbjolngdbaaGreatDoor.fnExactFormatProject
