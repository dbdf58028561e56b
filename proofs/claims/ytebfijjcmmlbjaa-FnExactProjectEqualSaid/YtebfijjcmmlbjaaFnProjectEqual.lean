/- For every input the law FnExactProjectEqual returns true and its arguments read as before. No condition. -/
import Derived.Test.YtebfijjcmmlbjaaRows
import Derived.Test.YtebfijjcmmlbjaaOpen
import Derived.Test.YtebfijjcmmlbjaaLaw
import Derived.Test.YtebfijjcmmlbjaaLawPj
import Derived.Test.YtebfijjcmmlbjaaOpenTy
import Derived.Test.YtebfijjcmmlbjaaPrj7
import Derived.Deep.RegionHeld3
namespace Go.Proofs.Ytebfijjcmmlbjaa.fnExactProjectEqual
open Go.ChangeShapes Go.WideShapes Go.ChangeAt Go.RowKit
open Go.ChangeMaps (open_string shut_string)
set_option linter.unusedVariables false

theorem own : ownKnob Try.prog.godebug = none := by kernel_rfl
theorem laidOut : laidOutB Try.prog = true := by kernel_rfl

set_option maxHeartbeats 8000000 in
theorem walk (A0_x0 A1_x0 A2_x0 A3_x0 : Option Addr) (x0 : Pj) (c0_x0 c1_x0 c2_x0 c3_x0 : Nat) (A0_x1 A1_x1 A2_x1 A3_x1 : Option Addr) (x1 : Pj) (c0_x1 c1_x1 c2_x1 c3_x1 : Nat) (w : World) (f0_x0 : RdAs w 0 w.heap.size A0_x0 x0.acts) (f1_x0 : RdLs w 0 w.heap.size A1_x0 x0.links) (f2_x0 : RdRs w 0 w.heap.size A2_x0 x0.res) (f3_x0 : RdI w 0 w.heap.size A3_x0 x0.stocks) (i_x0 : WfPj x0) (f0_x1 : RdAs w 0 w.heap.size A0_x1 x1.acts) (f1_x1 : RdLs w 0 w.heap.size A1_x1 x1.links) (f2_x1 : RdRs w 0 w.heap.size A2_x1 x1.res) (f3_x1 : RdI w 0 w.heap.size A3_x1 x1.stocks) (i_x1 : WfPj x1) :
    Calls Try.prog 3 #[.agg #[.int .i64 x0.dead, .slice A0_x0 x0.acts.length c0_x0, .slice A1_x0 x0.links.length c1_x0, .slice A2_x0 x0.res.length c2_x0, .slice A3_x0 x0.stocks.length c3_x0], .agg #[.int .i64 x1.dead, .slice A0_x1 x1.acts.length c0_x1, .slice A1_x1 x1.links.length c1_x1, .slice A2_x1 x1.res.length c2_x1, .slice A3_x1 x1.stocks.length c3_x1]] w fun e w' => e = .returned (.bool true) ∧ Below w.heap.size w w' := by
  have bel := Below.refl w.heap.size w
  go_enter Try.func3, Try.ntmps3
  go_wp2_with fail
  refine at_world fun w1 hW => ?_
  have rW : Only w.heap.size w.heap.size w w1 := by rw [hW]; (repeat' (first | exact Only.refl _ _ _ | refine Only.alloc ?_ _))
  have z1 := rW.size
  have f0_x0 := f0_x0.only rW (by omega) (by omega)
  have f1_x0 := f1_x0.only rW (by omega) (by omega)
  have f2_x0 := f2_x0.only rW (by omega) (by omega)
  have f3_x0 := f3_x0.only rW (by omega) (by omega)
  have f0_x1 := f0_x1.only rW (by omega) (by omega)
  have f1_x1 := f1_x1.only rW (by omega) (by omega)
  have f2_x1 := f2_x1.only rW (by omega) (by omega)
  have f3_x1 := f3_x1.only rW (by omega) (by omega)
  have kb_x0 : Bk w1 w.heap.size 27 #[.int .i64 x0.dead, .slice A0_x0 x0.acts.length c0_x0, .slice A1_x0 x0.links.length c1_x0, .slice A2_x0 x0.res.length c2_x0, .slice A3_x0 x0.stocks.length c3_x0] := by rw [hW]; exact (Bk.made _ _ _).alloc _
  have zk_kb_x0 := kb_x0.lt
  have kb_x1 : Bk w1 (w.heap.size + 1) 27 #[.int .i64 x1.dead, .slice A0_x1 x1.acts.length c0_x1, .slice A1_x1 x1.links.length c1_x1, .slice A2_x1 x1.res.length c2_x1, .slice A3_x1 x1.stocks.length c3_x1] := by rw [hW]; (have h := Bk.made (w.alloc (.cells #[.int .i64 x0.dead, .slice A0_x0 x0.acts.length c0_x0, .slice A1_x0 x0.links.length c1_x0, .slice A2_x0 x0.res.length c2_x0, .slice A3_x0 x0.stocks.length c3_x0] 27)) 27 #[.int .i64 x1.dead, .slice A0_x1 x1.acts.length c0_x1, .slice A1_x1 x1.links.length c1_x1, .slice A2_x1 x1.res.length c2_x1, .slice A3_x1 x1.stocks.length c3_x1]); simpa using h
  have zk_kb_x1 := kb_x1.lt
  have bel := below_only bel rW (by omega) (by omega)
  clear hW rW
  refine (szProject_any x0 _ _ _ _ _ _ _ _ 0 w.heap.size (1048576) _ i_x0 (by omega) (by omega) (by exact f0_x0) (by exact f1_x0) (by exact f2_x0) (by exact f3_x0) (by omega)).mono ?_
  rintro e w2 ⟨r_x0, rfl, b_x0, r2⟩
  have r2 := only_below r2
  have z2 := r2.size
  have bel := below_only bel r2 (by first | exact Nat.le_refl _ | omega) (by omega)
  have f0_x0 := f0_x0.only r2 (by omega) (by omega)
  have f1_x0 := f1_x0.only r2 (by omega) (by omega)
  have f2_x0 := f2_x0.only r2 (by omega) (by omega)
  have f3_x0 := f3_x0.only r2 (by omega) (by omega)
  have f0_x1 := f0_x1.only r2 (by omega) (by omega)
  have f1_x1 := f1_x1.only r2 (by omega) (by omega)
  have f2_x1 := f2_x1.only r2 (by omega) (by omega)
  have f3_x1 := f3_x1.only r2 (by omega) (by omega)
  have kb_x0 := kb_x0.only r2 (by omega)
  have kb_x1 := kb_x1.only r2 (by omega)
  clear r2
  have q0_kb_x0 := kb_x0.cell 0
  have aq0_kb_x0 := fun o => (World.cell?_alloc_lt w2 o ⟨w.heap.size, 0, none⟩ kb_x0.lt).trans q0_kb_x0
  have q1_kb_x0 := kb_x0.cell 1
  have aq1_kb_x0 := fun o => (World.cell?_alloc_lt w2 o ⟨w.heap.size, 1, none⟩ kb_x0.lt).trans q1_kb_x0
  have q2_kb_x0 := kb_x0.cell 2
  have aq2_kb_x0 := fun o => (World.cell?_alloc_lt w2 o ⟨w.heap.size, 2, none⟩ kb_x0.lt).trans q2_kb_x0
  have q3_kb_x0 := kb_x0.cell 3
  have aq3_kb_x0 := fun o => (World.cell?_alloc_lt w2 o ⟨w.heap.size, 3, none⟩ kb_x0.lt).trans q3_kb_x0
  have q4_kb_x0 := kb_x0.cell 4
  have aq4_kb_x0 := fun o => (World.cell?_alloc_lt w2 o ⟨w.heap.size, 4, none⟩ kb_x0.lt).trans q4_kb_x0
  have q0_kb_x1 := kb_x1.cell 0
  have aq0_kb_x1 := fun o => (World.cell?_alloc_lt w2 o ⟨w.heap.size + 1, 0, none⟩ kb_x1.lt).trans q0_kb_x1
  have q1_kb_x1 := kb_x1.cell 1
  have aq1_kb_x1 := fun o => (World.cell?_alloc_lt w2 o ⟨w.heap.size + 1, 1, none⟩ kb_x1.lt).trans q1_kb_x1
  have q2_kb_x1 := kb_x1.cell 2
  have aq2_kb_x1 := fun o => (World.cell?_alloc_lt w2 o ⟨w.heap.size + 1, 2, none⟩ kb_x1.lt).trans q2_kb_x1
  have q3_kb_x1 := kb_x1.cell 3
  have aq3_kb_x1 := fun o => (World.cell?_alloc_lt w2 o ⟨w.heap.size + 1, 3, none⟩ kb_x1.lt).trans q3_kb_x1
  have q4_kb_x1 := kb_x1.cell 4
  have aq4_kb_x1 := fun o => (World.cell?_alloc_lt w2 o ⟨w.heap.size + 1, 4, none⟩ kb_x1.lt).trans q4_kb_x1
  simp only [List.getElem?_toArray, List.getElem?_cons_succ, List.getElem?_cons_zero] at q0_kb_x0 aq0_kb_x0 q1_kb_x0 aq1_kb_x0 q2_kb_x0 aq2_kb_x0 q3_kb_x0 aq3_kb_x0 q4_kb_x0 aq4_kb_x0 q0_kb_x1 aq0_kb_x1 q1_kb_x1 aq1_kb_x1 q2_kb_x1 aq2_kb_x1 q3_kb_x1 aq3_kb_x1 q4_kb_x1 aq4_kb_x1
  rcases b_x0 with rfl | ⟨b1_x0, b2_x0, b3_x0⟩
  case inl =>
    go_wp2
    go_ret
    exact ⟨rfl, bel⟩
  have l_x0 : szPj x0 ≤ 1048576 := by omega
  have m_x0 : x0.acts.length ≤ 1048576 ∧ x0.links.length ≤ 1048576 ∧ x0.res.length ≤ 1048576 ∧ x0.stocks.length ≤ 1048576 := by (have e : szPj x0 = szL szAc x0.acts + (x0.links.length + (szL szRs x0.res + x0.stocks.length)) := rfl); (have := szL_len szAc x0.acts); (have := szL_len szRs x0.res); omega
  go_wp2_with fail
  refine at_world fun w3 hW => ?_
  have rW : Only w2.heap.size w2.heap.size w2 w3 := by rw [hW]; (repeat' (first | exact Only.refl _ _ _ | refine Only.alloc ?_ _))
  have z3 := rW.size
  clear q0_kb_x0 aq0_kb_x0 q1_kb_x0 aq1_kb_x0 q2_kb_x0 aq2_kb_x0 q3_kb_x0 aq3_kb_x0 q4_kb_x0 aq4_kb_x0 q0_kb_x1 aq0_kb_x1 q1_kb_x1 aq1_kb_x1 q2_kb_x1 aq2_kb_x1 q3_kb_x1 aq3_kb_x1 q4_kb_x1 aq4_kb_x1
  have f0_x0 := f0_x0.only rW (by omega) (by omega)
  have f1_x0 := f1_x0.only rW (by omega) (by omega)
  have f2_x0 := f2_x0.only rW (by omega) (by omega)
  have f3_x0 := f3_x0.only rW (by omega) (by omega)
  have f0_x1 := f0_x1.only rW (by omega) (by omega)
  have f1_x1 := f1_x1.only rW (by omega) (by omega)
  have f2_x1 := f2_x1.only rW (by omega) (by omega)
  have f3_x1 := f3_x1.only rW (by omega) (by omega)
  have kb_x0 := kb_x0.only rW (by omega)
  have kb_x1 := kb_x1.only rW (by omega)
  have bel := below_only bel rW (by omega) (by omega)
  clear hW rW
  refine (szProject_any x1 _ _ _ _ _ _ _ _ 0 w.heap.size (r_x0) _ i_x1 (by omega) (by omega) (by exact f0_x1) (by exact f1_x1) (by exact f2_x1) (by exact f3_x1) (by omega)).mono ?_
  rintro e w4 ⟨r_x1, rfl, b_x1, r4⟩
  have r4 := only_below r4
  have z4 := r4.size
  have bel := below_only bel r4 (by first | exact Nat.le_refl _ | omega) (by omega)
  have f0_x0 := f0_x0.only r4 (by omega) (by omega)
  have f1_x0 := f1_x0.only r4 (by omega) (by omega)
  have f2_x0 := f2_x0.only r4 (by omega) (by omega)
  have f3_x0 := f3_x0.only r4 (by omega) (by omega)
  have f0_x1 := f0_x1.only r4 (by omega) (by omega)
  have f1_x1 := f1_x1.only r4 (by omega) (by omega)
  have f2_x1 := f2_x1.only r4 (by omega) (by omega)
  have f3_x1 := f3_x1.only r4 (by omega) (by omega)
  have kb_x0 := kb_x0.only r4 (by omega)
  have kb_x1 := kb_x1.only r4 (by omega)
  clear r4
  have q0_kb_x0 := kb_x0.cell 0
  have aq0_kb_x0 := fun o => (World.cell?_alloc_lt w4 o ⟨w.heap.size, 0, none⟩ kb_x0.lt).trans q0_kb_x0
  have q1_kb_x0 := kb_x0.cell 1
  have aq1_kb_x0 := fun o => (World.cell?_alloc_lt w4 o ⟨w.heap.size, 1, none⟩ kb_x0.lt).trans q1_kb_x0
  have q2_kb_x0 := kb_x0.cell 2
  have aq2_kb_x0 := fun o => (World.cell?_alloc_lt w4 o ⟨w.heap.size, 2, none⟩ kb_x0.lt).trans q2_kb_x0
  have q3_kb_x0 := kb_x0.cell 3
  have aq3_kb_x0 := fun o => (World.cell?_alloc_lt w4 o ⟨w.heap.size, 3, none⟩ kb_x0.lt).trans q3_kb_x0
  have q4_kb_x0 := kb_x0.cell 4
  have aq4_kb_x0 := fun o => (World.cell?_alloc_lt w4 o ⟨w.heap.size, 4, none⟩ kb_x0.lt).trans q4_kb_x0
  have q0_kb_x1 := kb_x1.cell 0
  have aq0_kb_x1 := fun o => (World.cell?_alloc_lt w4 o ⟨w.heap.size + 1, 0, none⟩ kb_x1.lt).trans q0_kb_x1
  have q1_kb_x1 := kb_x1.cell 1
  have aq1_kb_x1 := fun o => (World.cell?_alloc_lt w4 o ⟨w.heap.size + 1, 1, none⟩ kb_x1.lt).trans q1_kb_x1
  have q2_kb_x1 := kb_x1.cell 2
  have aq2_kb_x1 := fun o => (World.cell?_alloc_lt w4 o ⟨w.heap.size + 1, 2, none⟩ kb_x1.lt).trans q2_kb_x1
  have q3_kb_x1 := kb_x1.cell 3
  have aq3_kb_x1 := fun o => (World.cell?_alloc_lt w4 o ⟨w.heap.size + 1, 3, none⟩ kb_x1.lt).trans q3_kb_x1
  have q4_kb_x1 := kb_x1.cell 4
  have aq4_kb_x1 := fun o => (World.cell?_alloc_lt w4 o ⟨w.heap.size + 1, 4, none⟩ kb_x1.lt).trans q4_kb_x1
  simp only [List.getElem?_toArray, List.getElem?_cons_succ, List.getElem?_cons_zero] at q0_kb_x0 aq0_kb_x0 q1_kb_x0 aq1_kb_x0 q2_kb_x0 aq2_kb_x0 q3_kb_x0 aq3_kb_x0 q4_kb_x0 aq4_kb_x0 q0_kb_x1 aq0_kb_x1 q1_kb_x1 aq1_kb_x1 q2_kb_x1 aq2_kb_x1 q3_kb_x1 aq3_kb_x1 q4_kb_x1 aq4_kb_x1
  rcases b_x1 with rfl | ⟨b1_x1, b2_x1, b3_x1⟩
  case inl =>
    go_wp2
    go_ret
    exact ⟨rfl, bel⟩
  have l_x1 : szPj x1 ≤ 1048576 := by omega
  have m_x1 : x1.acts.length ≤ 1048576 ∧ x1.links.length ≤ 1048576 ∧ x1.res.length ≤ 1048576 ∧ x1.stocks.length ≤ 1048576 := by (have e : szPj x1 = szL szAc x1.acts + (x1.links.length + (szL szRs x1.res + x1.stocks.length)) := rfl); (have := szL_len szAc x1.acts); (have := szL_len szRs x1.res); omega
  have hL : w4.heap.size ≤ w4.heap.size := Nat.le_refl _
  go_wp2_with fail
  go_region_held3 (fun w' => (w'.cell? ⟨w.heap.size, 0, none⟩ = some (.int .i64 x0.dead) ∧ w'.cell? ⟨w.heap.size, 1, none⟩ = some (.slice A0_x0 x0.acts.length c0_x0) ∧ w'.cell? ⟨w.heap.size, 2, none⟩ = some (.slice A1_x0 x0.links.length c1_x0) ∧ w'.cell? ⟨w.heap.size, 3, none⟩ = some (.slice A2_x0 x0.res.length c2_x0) ∧ w'.cell? ⟨w.heap.size, 4, none⟩ = some (.slice A3_x0 x0.stocks.length c3_x0) ∧ w'.cell? ⟨w.heap.size + 1, 0, none⟩ = some (.int .i64 x1.dead) ∧ w'.cell? ⟨w.heap.size + 1, 1, none⟩ = some (.slice A0_x1 x1.acts.length c0_x1) ∧ w'.cell? ⟨w.heap.size + 1, 2, none⟩ = some (.slice A1_x1 x1.links.length c1_x1) ∧ w'.cell? ⟨w.heap.size + 1, 3, none⟩ = some (.slice A2_x1 x1.res.length c2_x1) ∧ w'.cell? ⟨w.heap.size + 1, 4, none⟩ = some (.slice A3_x1 x1.stocks.length c3_x1)) ∧ Only w4.heap.size w4.heap.size w4 w' ∧ w4.heap.size ≤ w'.heap.size)
    (first | exact ⟨⟨q0_kb_x0, q1_kb_x0, q2_kb_x0, q3_kb_x0, q4_kb_x0, q0_kb_x1, q1_kb_x1, q2_kb_x1, q3_kb_x1, q4_kb_x1⟩, (Only.refl _ _ _).drew, hL⟩ | (go_split_ands; exact (fun hO => ⟨⟨only_cell hO q0_kb_x0, only_cell hO q1_kb_x0, only_cell hO q2_kb_x0, only_cell hO q3_kb_x0, only_cell hO q4_kb_x0, only_cell hO q0_kb_x1, only_cell hO q1_kb_x1, only_cell hO q2_kb_x1, only_cell hO q3_kb_x1, only_cell hO q4_kb_x1⟩, hO, hO.size⟩) (only_grow (by assumption) (by first | exact r_s | exact r_x0 | exact r_x1))))
    (first | (go_at_call_of 7 x0; (try go_split_ands); refine (toProject_any x0 _ _ _ _ _ _ _ _ 0 w.heap.size _ (by omega) (by exact f0_x0.only (by assumption) (by omega) (by omega)) (by exact f1_x0.only (by assumption) (by omega) (by omega)) (by exact f2_x0.only (by assumption) (by omega) (by omega)) (by exact f3_x0.only (by assumption) (by omega) (by omega)) (by omega)).mono ?_; rintro e w_x0 ⟨A0_x0s, c0_x0s, A1_x0s, c1_x0s, A2_x0s, c2_x0s, A3_x0s, c3_x0s, rfl, v_x0s, r_x0⟩; obtain ⟨f0_x0s, f1_x0s, f2_x0s, f3_x0s⟩ := ownProject_parts v_x0s) | (go_at_call_of 7 x1; (try go_split_ands); refine (toProject_any x1 _ _ _ _ _ _ _ _ 0 w.heap.size _ (by omega) (by exact f0_x1.only (by assumption) (by omega) (by omega)) (by exact f1_x1.only (by assumption) (by omega) (by omega)) (by exact f2_x1.only (by assumption) (by omega) (by omega)) (by exact f3_x1.only (by assumption) (by omega) (by omega)) (by omega)).mono ?_; rintro e w_x1 ⟨A0_x1s, c0_x1s, A1_x1s, c1_x1s, A2_x1s, c2_x1s, A3_x1s, c3_x1s, rfl, v_x1s, r_x1⟩; obtain ⟨f0_x1s, f1_x1s, f2_x1s, f3_x1s⟩ := ownProject_parts v_x1s) | (go_at_call 6; (try go_split_ands); refine (specProjectEqual_any x0 x1 _ _ _ _ _ _ _ _ _ _ _ _ _ _ _ _ _ _ _ _ _ (by first | omega | exact Nat.le_refl _ | exact r_x0.size | exact r_x1.size) (by first | exact f0_x0s | exact f0_x0s.below r_x1 (Nat.le_refl _)) (by first | exact f1_x0s | exact f1_x0s.below r_x1 (Nat.le_refl _)) (by first | exact f2_x0s | exact f2_x0s.below r_x1 (Nat.le_refl _)) (by first | exact f3_x0s | exact f3_x0s.below r_x1 (Nat.le_refl _)) (by first | exact f0_x1s | exact f0_x1s.below r_x0 (Nat.le_refl _)) (by first | exact f1_x1s | exact f1_x1s.below r_x0 (Nat.le_refl _)) (by first | exact f2_x1s | exact f2_x1s.below r_x0 (Nat.le_refl _)) (by first | exact f3_x1s | exact f3_x1s.below r_x0 (Nat.le_refl _)) (by first | omega | exact Nat.le_refl _ | exact r_x0.size | exact r_x1.size) (by first | omega | exact Nat.le_refl _ | exact r_x0.size | exact r_x1.size)).mono ?_; rintro e w5 ⟨rfl, r_s⟩))
  all_goals
    rename_i hS
    have r5 := hS.2.1
    have z5 := r5.size
    clear hS hL
    clear q0_kb_x0 aq0_kb_x0 q1_kb_x0 aq1_kb_x0 q2_kb_x0 aq2_kb_x0 q3_kb_x0 aq3_kb_x0 q4_kb_x0 aq4_kb_x0 q0_kb_x1 aq0_kb_x1 q1_kb_x1 aq1_kb_x1 q2_kb_x1 aq2_kb_x1 q3_kb_x1 aq3_kb_x1 q4_kb_x1 aq4_kb_x1
    have bel := below_only bel r5 (by omega) (by omega)
    have f0_x0 := f0_x0.only r5 (by omega) (by omega)
    have f1_x0 := f1_x0.only r5 (by omega) (by omega)
    have f2_x0 := f2_x0.only r5 (by omega) (by omega)
    have f3_x0 := f3_x0.only r5 (by omega) (by omega)
    have f0_x1 := f0_x1.only r5 (by omega) (by omega)
    have f1_x1 := f1_x1.only r5 (by omega) (by omega)
    have f2_x1 := f2_x1.only r5 (by omega) (by omega)
    have f3_x1 := f3_x1.only r5 (by omega) (by omega)
    have kb_x0 := kb_x0.only r5 (by omega)
    have kb_x1 := kb_x1.only r5 (by omega)
    clear r5
    have q0_kb_x0 := kb_x0.cell 0
    have aq0_kb_x0 := fun o => (World.cell?_alloc_lt w5 o ⟨w.heap.size, 0, none⟩ kb_x0.lt).trans q0_kb_x0
    have q1_kb_x0 := kb_x0.cell 1
    have aq1_kb_x0 := fun o => (World.cell?_alloc_lt w5 o ⟨w.heap.size, 1, none⟩ kb_x0.lt).trans q1_kb_x0
    have q2_kb_x0 := kb_x0.cell 2
    have aq2_kb_x0 := fun o => (World.cell?_alloc_lt w5 o ⟨w.heap.size, 2, none⟩ kb_x0.lt).trans q2_kb_x0
    have q3_kb_x0 := kb_x0.cell 3
    have aq3_kb_x0 := fun o => (World.cell?_alloc_lt w5 o ⟨w.heap.size, 3, none⟩ kb_x0.lt).trans q3_kb_x0
    have q4_kb_x0 := kb_x0.cell 4
    have aq4_kb_x0 := fun o => (World.cell?_alloc_lt w5 o ⟨w.heap.size, 4, none⟩ kb_x0.lt).trans q4_kb_x0
    have q0_kb_x1 := kb_x1.cell 0
    have aq0_kb_x1 := fun o => (World.cell?_alloc_lt w5 o ⟨w.heap.size + 1, 0, none⟩ kb_x1.lt).trans q0_kb_x1
    have q1_kb_x1 := kb_x1.cell 1
    have aq1_kb_x1 := fun o => (World.cell?_alloc_lt w5 o ⟨w.heap.size + 1, 1, none⟩ kb_x1.lt).trans q1_kb_x1
    have q2_kb_x1 := kb_x1.cell 2
    have aq2_kb_x1 := fun o => (World.cell?_alloc_lt w5 o ⟨w.heap.size + 1, 2, none⟩ kb_x1.lt).trans q2_kb_x1
    have q3_kb_x1 := kb_x1.cell 3
    have aq3_kb_x1 := fun o => (World.cell?_alloc_lt w5 o ⟨w.heap.size + 1, 3, none⟩ kb_x1.lt).trans q3_kb_x1
    have q4_kb_x1 := kb_x1.cell 4
    have aq4_kb_x1 := fun o => (World.cell?_alloc_lt w5 o ⟨w.heap.size + 1, 4, none⟩ kb_x1.lt).trans q4_kb_x1
    simp only [List.getElem?_toArray, List.getElem?_cons_succ, List.getElem?_cons_zero] at q0_kb_x0 aq0_kb_x0 q1_kb_x0 aq1_kb_x0 q2_kb_x0 aq2_kb_x0 q3_kb_x0 aq3_kb_x0 q4_kb_x0 aq4_kb_x0 q0_kb_x1 aq0_kb_x1 q1_kb_x1 aq1_kb_x1 q2_kb_x1 aq2_kb_x1 q3_kb_x1 aq3_kb_x1 q4_kb_x1 aq4_kb_x1
    go_wp2_with fail
    refine at_world fun w6 hW => ?_
    have rW : Only w5.heap.size w5.heap.size w5 w6 := by rw [hW]; (repeat' (first | exact Only.refl _ _ _ | refine Only.alloc ?_ _))
    have z6 := rW.size
    clear q0_kb_x0 aq0_kb_x0 q1_kb_x0 aq1_kb_x0 q2_kb_x0 aq2_kb_x0 q3_kb_x0 aq3_kb_x0 q4_kb_x0 aq4_kb_x0 q0_kb_x1 aq0_kb_x1 q1_kb_x1 aq1_kb_x1 q2_kb_x1 aq2_kb_x1 q3_kb_x1 aq3_kb_x1 q4_kb_x1 aq4_kb_x1
    have f0_x0 := f0_x0.only rW (by omega) (by omega)
    have f1_x0 := f1_x0.only rW (by omega) (by omega)
    have f2_x0 := f2_x0.only rW (by omega) (by omega)
    have f3_x0 := f3_x0.only rW (by omega) (by omega)
    have f0_x1 := f0_x1.only rW (by omega) (by omega)
    have f1_x1 := f1_x1.only rW (by omega) (by omega)
    have f2_x1 := f2_x1.only rW (by omega) (by omega)
    have f3_x1 := f3_x1.only rW (by omega) (by omega)
    have kb_x0 := kb_x0.only rW (by omega)
    have kb_x1 := kb_x1.only rW (by omega)
    have bel := below_only bel rW (by omega) (by omega)
    clear hW rW
    refine (toProject_any x0 _ _ _ _ _ _ _ _ 0 w.heap.size _ (by omega) (by exact f0_x0) (by exact f1_x0) (by exact f2_x0) (by exact f3_x0) (by omega)).mono ?_
    rintro e w7 ⟨A0_x0x, c0_x0x, A1_x0x, c1_x0x, A2_x0x, c2_x0x, A3_x0x, c3_x0x, rfl, v_x0x, r7⟩
    have r7 := only_below r7
    have z7 := r7.size
    have bel := below_only bel r7 (by first | exact Nat.le_refl _ | omega) (by omega)
    have f0_x0 := f0_x0.only r7 (by omega) (by omega)
    have f1_x0 := f1_x0.only r7 (by omega) (by omega)
    have f2_x0 := f2_x0.only r7 (by omega) (by omega)
    have f3_x0 := f3_x0.only r7 (by omega) (by omega)
    have f0_x1 := f0_x1.only r7 (by omega) (by omega)
    have f1_x1 := f1_x1.only r7 (by omega) (by omega)
    have f2_x1 := f2_x1.only r7 (by omega) (by omega)
    have f3_x1 := f3_x1.only r7 (by omega) (by omega)
    have kb_x0 := kb_x0.only r7 (by omega)
    have kb_x1 := kb_x1.only r7 (by omega)
    clear r7
    have q0_kb_x0 := kb_x0.cell 0
    have aq0_kb_x0 := fun o => (World.cell?_alloc_lt w7 o ⟨w.heap.size, 0, none⟩ kb_x0.lt).trans q0_kb_x0
    have q1_kb_x0 := kb_x0.cell 1
    have aq1_kb_x0 := fun o => (World.cell?_alloc_lt w7 o ⟨w.heap.size, 1, none⟩ kb_x0.lt).trans q1_kb_x0
    have q2_kb_x0 := kb_x0.cell 2
    have aq2_kb_x0 := fun o => (World.cell?_alloc_lt w7 o ⟨w.heap.size, 2, none⟩ kb_x0.lt).trans q2_kb_x0
    have q3_kb_x0 := kb_x0.cell 3
    have aq3_kb_x0 := fun o => (World.cell?_alloc_lt w7 o ⟨w.heap.size, 3, none⟩ kb_x0.lt).trans q3_kb_x0
    have q4_kb_x0 := kb_x0.cell 4
    have aq4_kb_x0 := fun o => (World.cell?_alloc_lt w7 o ⟨w.heap.size, 4, none⟩ kb_x0.lt).trans q4_kb_x0
    have q0_kb_x1 := kb_x1.cell 0
    have aq0_kb_x1 := fun o => (World.cell?_alloc_lt w7 o ⟨w.heap.size + 1, 0, none⟩ kb_x1.lt).trans q0_kb_x1
    have q1_kb_x1 := kb_x1.cell 1
    have aq1_kb_x1 := fun o => (World.cell?_alloc_lt w7 o ⟨w.heap.size + 1, 1, none⟩ kb_x1.lt).trans q1_kb_x1
    have q2_kb_x1 := kb_x1.cell 2
    have aq2_kb_x1 := fun o => (World.cell?_alloc_lt w7 o ⟨w.heap.size + 1, 2, none⟩ kb_x1.lt).trans q2_kb_x1
    have q3_kb_x1 := kb_x1.cell 3
    have aq3_kb_x1 := fun o => (World.cell?_alloc_lt w7 o ⟨w.heap.size + 1, 3, none⟩ kb_x1.lt).trans q3_kb_x1
    have q4_kb_x1 := kb_x1.cell 4
    have aq4_kb_x1 := fun o => (World.cell?_alloc_lt w7 o ⟨w.heap.size + 1, 4, none⟩ kb_x1.lt).trans q4_kb_x1
    simp only [List.getElem?_toArray, List.getElem?_cons_succ, List.getElem?_cons_zero] at q0_kb_x0 aq0_kb_x0 q1_kb_x0 aq1_kb_x0 q2_kb_x0 aq2_kb_x0 q3_kb_x0 aq3_kb_x0 q4_kb_x0 aq4_kb_x0 q0_kb_x1 aq0_kb_x1 q1_kb_x1 aq1_kb_x1 q2_kb_x1 aq2_kb_x1 q3_kb_x1 aq3_kb_x1 q4_kb_x1 aq4_kb_x1
    obtain ⟨f0_x0x, f1_x0x, f2_x0x, f3_x0x⟩ := ownProject_parts v_x0x
    clear v_x0x
    go_wp2_with fail
    refine at_world fun w8 hW => ?_
    have rW : Only w7.heap.size w7.heap.size w7 w8 := by rw [hW]; (repeat' (first | exact Only.refl _ _ _ | refine Only.alloc ?_ _))
    have z8 := rW.size
    clear q0_kb_x0 aq0_kb_x0 q1_kb_x0 aq1_kb_x0 q2_kb_x0 aq2_kb_x0 q3_kb_x0 aq3_kb_x0 q4_kb_x0 aq4_kb_x0 q0_kb_x1 aq0_kb_x1 q1_kb_x1 aq1_kb_x1 q2_kb_x1 aq2_kb_x1 q3_kb_x1 aq3_kb_x1 q4_kb_x1 aq4_kb_x1
    have f0_x0 := f0_x0.only rW (by omega) (by omega)
    have f1_x0 := f1_x0.only rW (by omega) (by omega)
    have f2_x0 := f2_x0.only rW (by omega) (by omega)
    have f3_x0 := f3_x0.only rW (by omega) (by omega)
    have f0_x1 := f0_x1.only rW (by omega) (by omega)
    have f1_x1 := f1_x1.only rW (by omega) (by omega)
    have f2_x1 := f2_x1.only rW (by omega) (by omega)
    have f3_x1 := f3_x1.only rW (by omega) (by omega)
    have f0_x0x := f0_x0x.only rW (by omega) (by omega)
    have f1_x0x := f1_x0x.only rW (by omega) (by omega)
    have f2_x0x := f2_x0x.only rW (by omega) (by omega)
    have f3_x0x := f3_x0x.only rW (by omega) (by omega)
    have kb_x0 := kb_x0.only rW (by omega)
    have kb_x1 := kb_x1.only rW (by omega)
    have kb_x0x : Bk w8 w7.heap.size 34 #[.int .i64 x0.dead, .slice A0_x0x x0.acts.length c0_x0x, .slice A1_x0x x0.links.length c1_x0x, .slice A2_x0x x0.res.length c2_x0x, .slice A3_x0x x0.stocks.length c3_x0x] := by rw [hW]; exact Bk.made _ _ _
    have zk_kb_x0x := kb_x0x.lt
    have bel := below_only bel rW (by omega) (by omega)
    clear hW rW
    refine (toProject_any x1 _ _ _ _ _ _ _ _ 0 w.heap.size _ (by omega) (by exact f0_x1) (by exact f1_x1) (by exact f2_x1) (by exact f3_x1) (by omega)).mono ?_
    rintro e w9 ⟨A0_x1x, c0_x1x, A1_x1x, c1_x1x, A2_x1x, c2_x1x, A3_x1x, c3_x1x, rfl, v_x1x, r9⟩
    have r9 := only_below r9
    have z9 := r9.size
    have bel := below_only bel r9 (by first | exact Nat.le_refl _ | omega) (by omega)
    have f0_x0 := f0_x0.only r9 (by omega) (by omega)
    have f1_x0 := f1_x0.only r9 (by omega) (by omega)
    have f2_x0 := f2_x0.only r9 (by omega) (by omega)
    have f3_x0 := f3_x0.only r9 (by omega) (by omega)
    have f0_x1 := f0_x1.only r9 (by omega) (by omega)
    have f1_x1 := f1_x1.only r9 (by omega) (by omega)
    have f2_x1 := f2_x1.only r9 (by omega) (by omega)
    have f3_x1 := f3_x1.only r9 (by omega) (by omega)
    have f0_x0x := f0_x0x.only r9 (by omega) (by omega)
    have f1_x0x := f1_x0x.only r9 (by omega) (by omega)
    have f2_x0x := f2_x0x.only r9 (by omega) (by omega)
    have f3_x0x := f3_x0x.only r9 (by omega) (by omega)
    have kb_x0 := kb_x0.only r9 (by omega)
    have kb_x1 := kb_x1.only r9 (by omega)
    have kb_x0x := kb_x0x.only r9 (by omega)
    clear r9
    have q0_kb_x0 := kb_x0.cell 0
    have aq0_kb_x0 := fun o => (World.cell?_alloc_lt w9 o ⟨w.heap.size, 0, none⟩ kb_x0.lt).trans q0_kb_x0
    have q1_kb_x0 := kb_x0.cell 1
    have aq1_kb_x0 := fun o => (World.cell?_alloc_lt w9 o ⟨w.heap.size, 1, none⟩ kb_x0.lt).trans q1_kb_x0
    have q2_kb_x0 := kb_x0.cell 2
    have aq2_kb_x0 := fun o => (World.cell?_alloc_lt w9 o ⟨w.heap.size, 2, none⟩ kb_x0.lt).trans q2_kb_x0
    have q3_kb_x0 := kb_x0.cell 3
    have aq3_kb_x0 := fun o => (World.cell?_alloc_lt w9 o ⟨w.heap.size, 3, none⟩ kb_x0.lt).trans q3_kb_x0
    have q4_kb_x0 := kb_x0.cell 4
    have aq4_kb_x0 := fun o => (World.cell?_alloc_lt w9 o ⟨w.heap.size, 4, none⟩ kb_x0.lt).trans q4_kb_x0
    have q0_kb_x1 := kb_x1.cell 0
    have aq0_kb_x1 := fun o => (World.cell?_alloc_lt w9 o ⟨w.heap.size + 1, 0, none⟩ kb_x1.lt).trans q0_kb_x1
    have q1_kb_x1 := kb_x1.cell 1
    have aq1_kb_x1 := fun o => (World.cell?_alloc_lt w9 o ⟨w.heap.size + 1, 1, none⟩ kb_x1.lt).trans q1_kb_x1
    have q2_kb_x1 := kb_x1.cell 2
    have aq2_kb_x1 := fun o => (World.cell?_alloc_lt w9 o ⟨w.heap.size + 1, 2, none⟩ kb_x1.lt).trans q2_kb_x1
    have q3_kb_x1 := kb_x1.cell 3
    have aq3_kb_x1 := fun o => (World.cell?_alloc_lt w9 o ⟨w.heap.size + 1, 3, none⟩ kb_x1.lt).trans q3_kb_x1
    have q4_kb_x1 := kb_x1.cell 4
    have aq4_kb_x1 := fun o => (World.cell?_alloc_lt w9 o ⟨w.heap.size + 1, 4, none⟩ kb_x1.lt).trans q4_kb_x1
    have q0_kb_x0x := kb_x0x.cell 0
    have aq0_kb_x0x := fun o => (World.cell?_alloc_lt w9 o ⟨w7.heap.size, 0, none⟩ kb_x0x.lt).trans q0_kb_x0x
    have q1_kb_x0x := kb_x0x.cell 1
    have aq1_kb_x0x := fun o => (World.cell?_alloc_lt w9 o ⟨w7.heap.size, 1, none⟩ kb_x0x.lt).trans q1_kb_x0x
    have q2_kb_x0x := kb_x0x.cell 2
    have aq2_kb_x0x := fun o => (World.cell?_alloc_lt w9 o ⟨w7.heap.size, 2, none⟩ kb_x0x.lt).trans q2_kb_x0x
    have q3_kb_x0x := kb_x0x.cell 3
    have aq3_kb_x0x := fun o => (World.cell?_alloc_lt w9 o ⟨w7.heap.size, 3, none⟩ kb_x0x.lt).trans q3_kb_x0x
    have q4_kb_x0x := kb_x0x.cell 4
    have aq4_kb_x0x := fun o => (World.cell?_alloc_lt w9 o ⟨w7.heap.size, 4, none⟩ kb_x0x.lt).trans q4_kb_x0x
    simp only [List.getElem?_toArray, List.getElem?_cons_succ, List.getElem?_cons_zero] at q0_kb_x0 aq0_kb_x0 q1_kb_x0 aq1_kb_x0 q2_kb_x0 aq2_kb_x0 q3_kb_x0 aq3_kb_x0 q4_kb_x0 aq4_kb_x0 q0_kb_x1 aq0_kb_x1 q1_kb_x1 aq1_kb_x1 q2_kb_x1 aq2_kb_x1 q3_kb_x1 aq3_kb_x1 q4_kb_x1 aq4_kb_x1 q0_kb_x0x aq0_kb_x0x q1_kb_x0x aq1_kb_x0x q2_kb_x0x aq2_kb_x0x q3_kb_x0x aq3_kb_x0x q4_kb_x0x aq4_kb_x0x
    obtain ⟨f0_x1x, f1_x1x, f2_x1x, f3_x1x⟩ := ownProject_parts v_x1x
    clear v_x1x
    go_wp2_with fail
    refine at_world fun w10 hW => ?_
    have rW : Only w9.heap.size w9.heap.size w9 w10 := by rw [hW]; (repeat' (first | exact Only.refl _ _ _ | refine Only.alloc ?_ _))
    have z10 := rW.size
    clear q0_kb_x0 aq0_kb_x0 q1_kb_x0 aq1_kb_x0 q2_kb_x0 aq2_kb_x0 q3_kb_x0 aq3_kb_x0 q4_kb_x0 aq4_kb_x0 q0_kb_x1 aq0_kb_x1 q1_kb_x1 aq1_kb_x1 q2_kb_x1 aq2_kb_x1 q3_kb_x1 aq3_kb_x1 q4_kb_x1 aq4_kb_x1 q0_kb_x0x aq0_kb_x0x q1_kb_x0x aq1_kb_x0x q2_kb_x0x aq2_kb_x0x q3_kb_x0x aq3_kb_x0x q4_kb_x0x aq4_kb_x0x
    have f0_x0 := f0_x0.only rW (by omega) (by omega)
    have f1_x0 := f1_x0.only rW (by omega) (by omega)
    have f2_x0 := f2_x0.only rW (by omega) (by omega)
    have f3_x0 := f3_x0.only rW (by omega) (by omega)
    have f0_x1 := f0_x1.only rW (by omega) (by omega)
    have f1_x1 := f1_x1.only rW (by omega) (by omega)
    have f2_x1 := f2_x1.only rW (by omega) (by omega)
    have f3_x1 := f3_x1.only rW (by omega) (by omega)
    have f0_x0x := f0_x0x.only rW (by omega) (by omega)
    have f1_x0x := f1_x0x.only rW (by omega) (by omega)
    have f2_x0x := f2_x0x.only rW (by omega) (by omega)
    have f3_x0x := f3_x0x.only rW (by omega) (by omega)
    have f0_x1x := f0_x1x.only rW (by omega) (by omega)
    have f1_x1x := f1_x1x.only rW (by omega) (by omega)
    have f2_x1x := f2_x1x.only rW (by omega) (by omega)
    have f3_x1x := f3_x1x.only rW (by omega) (by omega)
    have kb_x0 := kb_x0.only rW (by omega)
    have kb_x1 := kb_x1.only rW (by omega)
    have kb_x0x := kb_x0x.only rW (by omega)
    have kb_x1x : Bk w10 w9.heap.size 34 #[.int .i64 x1.dead, .slice A0_x1x x1.acts.length c0_x1x, .slice A1_x1x x1.links.length c1_x1x, .slice A2_x1x x1.res.length c2_x1x, .slice A3_x1x x1.stocks.length c3_x1x] := by rw [hW]; exact Bk.made _ _ _
    have zk_kb_x1x := kb_x1x.lt
    have bel := below_only bel rW (by omega) (by omega)
    clear hW rW
    refine (implProjectEqual_any x0 x1 _ _ _ _ _ _ _ _ _ _ _ _ _ _ _ _ _ _ _ _ _ (by omega) (by exact f0_x0x) (by exact f1_x0x) (by exact f2_x0x) (by exact f3_x0x) (by exact f0_x1x) (by exact f1_x1x) (by exact f2_x1x) (by exact f3_x1x) (by omega) (by omega)).mono ?_
    rintro e w11 ⟨rfl, r11⟩
    have r11 := only_below r11
    have z11 := r11.size
    have bel := below_only bel r11 (by first | exact Nat.le_refl _ | omega) (by omega)
    have f0_x0 := f0_x0.only r11 (by omega) (by omega)
    have f1_x0 := f1_x0.only r11 (by omega) (by omega)
    have f2_x0 := f2_x0.only r11 (by omega) (by omega)
    have f3_x0 := f3_x0.only r11 (by omega) (by omega)
    have f0_x1 := f0_x1.only r11 (by omega) (by omega)
    have f1_x1 := f1_x1.only r11 (by omega) (by omega)
    have f2_x1 := f2_x1.only r11 (by omega) (by omega)
    have f3_x1 := f3_x1.only r11 (by omega) (by omega)
    have f0_x0x := f0_x0x.only r11 (by omega) (by omega)
    have f1_x0x := f1_x0x.only r11 (by omega) (by omega)
    have f2_x0x := f2_x0x.only r11 (by omega) (by omega)
    have f3_x0x := f3_x0x.only r11 (by omega) (by omega)
    have f0_x1x := f0_x1x.only r11 (by omega) (by omega)
    have f1_x1x := f1_x1x.only r11 (by omega) (by omega)
    have f2_x1x := f2_x1x.only r11 (by omega) (by omega)
    have f3_x1x := f3_x1x.only r11 (by omega) (by omega)
    have kb_x0 := kb_x0.only r11 (by omega)
    have kb_x1 := kb_x1.only r11 (by omega)
    have kb_x0x := kb_x0x.only r11 (by omega)
    have kb_x1x := kb_x1x.only r11 (by omega)
    clear r11
    have q0_kb_x0 := kb_x0.cell 0
    have aq0_kb_x0 := fun o => (World.cell?_alloc_lt w11 o ⟨w.heap.size, 0, none⟩ kb_x0.lt).trans q0_kb_x0
    have q1_kb_x0 := kb_x0.cell 1
    have aq1_kb_x0 := fun o => (World.cell?_alloc_lt w11 o ⟨w.heap.size, 1, none⟩ kb_x0.lt).trans q1_kb_x0
    have q2_kb_x0 := kb_x0.cell 2
    have aq2_kb_x0 := fun o => (World.cell?_alloc_lt w11 o ⟨w.heap.size, 2, none⟩ kb_x0.lt).trans q2_kb_x0
    have q3_kb_x0 := kb_x0.cell 3
    have aq3_kb_x0 := fun o => (World.cell?_alloc_lt w11 o ⟨w.heap.size, 3, none⟩ kb_x0.lt).trans q3_kb_x0
    have q4_kb_x0 := kb_x0.cell 4
    have aq4_kb_x0 := fun o => (World.cell?_alloc_lt w11 o ⟨w.heap.size, 4, none⟩ kb_x0.lt).trans q4_kb_x0
    have q0_kb_x1 := kb_x1.cell 0
    have aq0_kb_x1 := fun o => (World.cell?_alloc_lt w11 o ⟨w.heap.size + 1, 0, none⟩ kb_x1.lt).trans q0_kb_x1
    have q1_kb_x1 := kb_x1.cell 1
    have aq1_kb_x1 := fun o => (World.cell?_alloc_lt w11 o ⟨w.heap.size + 1, 1, none⟩ kb_x1.lt).trans q1_kb_x1
    have q2_kb_x1 := kb_x1.cell 2
    have aq2_kb_x1 := fun o => (World.cell?_alloc_lt w11 o ⟨w.heap.size + 1, 2, none⟩ kb_x1.lt).trans q2_kb_x1
    have q3_kb_x1 := kb_x1.cell 3
    have aq3_kb_x1 := fun o => (World.cell?_alloc_lt w11 o ⟨w.heap.size + 1, 3, none⟩ kb_x1.lt).trans q3_kb_x1
    have q4_kb_x1 := kb_x1.cell 4
    have aq4_kb_x1 := fun o => (World.cell?_alloc_lt w11 o ⟨w.heap.size + 1, 4, none⟩ kb_x1.lt).trans q4_kb_x1
    have q0_kb_x0x := kb_x0x.cell 0
    have aq0_kb_x0x := fun o => (World.cell?_alloc_lt w11 o ⟨w7.heap.size, 0, none⟩ kb_x0x.lt).trans q0_kb_x0x
    have q1_kb_x0x := kb_x0x.cell 1
    have aq1_kb_x0x := fun o => (World.cell?_alloc_lt w11 o ⟨w7.heap.size, 1, none⟩ kb_x0x.lt).trans q1_kb_x0x
    have q2_kb_x0x := kb_x0x.cell 2
    have aq2_kb_x0x := fun o => (World.cell?_alloc_lt w11 o ⟨w7.heap.size, 2, none⟩ kb_x0x.lt).trans q2_kb_x0x
    have q3_kb_x0x := kb_x0x.cell 3
    have aq3_kb_x0x := fun o => (World.cell?_alloc_lt w11 o ⟨w7.heap.size, 3, none⟩ kb_x0x.lt).trans q3_kb_x0x
    have q4_kb_x0x := kb_x0x.cell 4
    have aq4_kb_x0x := fun o => (World.cell?_alloc_lt w11 o ⟨w7.heap.size, 4, none⟩ kb_x0x.lt).trans q4_kb_x0x
    have q0_kb_x1x := kb_x1x.cell 0
    have aq0_kb_x1x := fun o => (World.cell?_alloc_lt w11 o ⟨w9.heap.size, 0, none⟩ kb_x1x.lt).trans q0_kb_x1x
    have q1_kb_x1x := kb_x1x.cell 1
    have aq1_kb_x1x := fun o => (World.cell?_alloc_lt w11 o ⟨w9.heap.size, 1, none⟩ kb_x1x.lt).trans q1_kb_x1x
    have q2_kb_x1x := kb_x1x.cell 2
    have aq2_kb_x1x := fun o => (World.cell?_alloc_lt w11 o ⟨w9.heap.size, 2, none⟩ kb_x1x.lt).trans q2_kb_x1x
    have q3_kb_x1x := kb_x1x.cell 3
    have aq3_kb_x1x := fun o => (World.cell?_alloc_lt w11 o ⟨w9.heap.size, 3, none⟩ kb_x1x.lt).trans q3_kb_x1x
    have q4_kb_x1x := kb_x1x.cell 4
    have aq4_kb_x1x := fun o => (World.cell?_alloc_lt w11 o ⟨w9.heap.size, 4, none⟩ kb_x1x.lt).trans q4_kb_x1x
    simp only [List.getElem?_toArray, List.getElem?_cons_succ, List.getElem?_cons_zero] at q0_kb_x0 aq0_kb_x0 q1_kb_x0 aq1_kb_x0 q2_kb_x0 aq2_kb_x0 q3_kb_x0 aq3_kb_x0 q4_kb_x0 aq4_kb_x0 q0_kb_x1 aq0_kb_x1 q1_kb_x1 aq1_kb_x1 q2_kb_x1 aq2_kb_x1 q3_kb_x1 aq3_kb_x1 q4_kb_x1 aq4_kb_x1 q0_kb_x0x aq0_kb_x0x q1_kb_x0x aq1_kb_x0x q2_kb_x0x aq2_kb_x0x q3_kb_x0x aq3_kb_x0x q4_kb_x0x aq4_kb_x0x q0_kb_x1x aq0_kb_x1x q1_kb_x1x aq1_kb_x1x q2_kb_x1x aq2_kb_x1x q3_kb_x1x aq3_kb_x1x q4_kb_x1x aq4_kb_x1x
    have hL : w11.heap.size ≤ w11.heap.size := Nat.le_refl _
    go_wp2_with fail
    go_region_held3 (fun w' => (w'.cell? ⟨w.heap.size, 0, none⟩ = some (.int .i64 x0.dead) ∧ w'.cell? ⟨w.heap.size, 1, none⟩ = some (.slice A0_x0 x0.acts.length c0_x0) ∧ w'.cell? ⟨w.heap.size, 2, none⟩ = some (.slice A1_x0 x0.links.length c1_x0) ∧ w'.cell? ⟨w.heap.size, 3, none⟩ = some (.slice A2_x0 x0.res.length c2_x0) ∧ w'.cell? ⟨w.heap.size, 4, none⟩ = some (.slice A3_x0 x0.stocks.length c3_x0) ∧ w'.cell? ⟨w.heap.size + 1, 0, none⟩ = some (.int .i64 x1.dead) ∧ w'.cell? ⟨w.heap.size + 1, 1, none⟩ = some (.slice A0_x1 x1.acts.length c0_x1) ∧ w'.cell? ⟨w.heap.size + 1, 2, none⟩ = some (.slice A1_x1 x1.links.length c1_x1) ∧ w'.cell? ⟨w.heap.size + 1, 3, none⟩ = some (.slice A2_x1 x1.res.length c2_x1) ∧ w'.cell? ⟨w.heap.size + 1, 4, none⟩ = some (.slice A3_x1 x1.stocks.length c3_x1) ∧ w'.cell? ⟨w7.heap.size, 0, none⟩ = some (.int .i64 x0.dead) ∧ w'.cell? ⟨w7.heap.size, 1, none⟩ = some (.slice A0_x0x x0.acts.length c0_x0x) ∧ w'.cell? ⟨w7.heap.size, 2, none⟩ = some (.slice A1_x0x x0.links.length c1_x0x) ∧ w'.cell? ⟨w7.heap.size, 3, none⟩ = some (.slice A2_x0x x0.res.length c2_x0x) ∧ w'.cell? ⟨w7.heap.size, 4, none⟩ = some (.slice A3_x0x x0.stocks.length c3_x0x) ∧ w'.cell? ⟨w9.heap.size, 0, none⟩ = some (.int .i64 x1.dead) ∧ w'.cell? ⟨w9.heap.size, 1, none⟩ = some (.slice A0_x1x x1.acts.length c0_x1x) ∧ w'.cell? ⟨w9.heap.size, 2, none⟩ = some (.slice A1_x1x x1.links.length c1_x1x) ∧ w'.cell? ⟨w9.heap.size, 3, none⟩ = some (.slice A2_x1x x1.res.length c2_x1x) ∧ w'.cell? ⟨w9.heap.size, 4, none⟩ = some (.slice A3_x1x x1.stocks.length c3_x1x)) ∧ Only w11.heap.size w11.heap.size w11 w' ∧ w11.heap.size ≤ w'.heap.size)
      (first | exact ⟨⟨q0_kb_x0, q1_kb_x0, q2_kb_x0, q3_kb_x0, q4_kb_x0, q0_kb_x1, q1_kb_x1, q2_kb_x1, q3_kb_x1, q4_kb_x1, q0_kb_x0x, q1_kb_x0x, q2_kb_x0x, q3_kb_x0x, q4_kb_x0x, q0_kb_x1x, q1_kb_x1x, q2_kb_x1x, q3_kb_x1x, q4_kb_x1x⟩, (Only.refl _ _ _).drew, hL⟩ | (go_split_ands; exact (fun hO => ⟨⟨only_cell hO q0_kb_x0, only_cell hO q1_kb_x0, only_cell hO q2_kb_x0, only_cell hO q3_kb_x0, only_cell hO q4_kb_x0, only_cell hO q0_kb_x1, only_cell hO q1_kb_x1, only_cell hO q2_kb_x1, only_cell hO q3_kb_x1, only_cell hO q4_kb_x1, only_cell hO q0_kb_x0x, only_cell hO q1_kb_x0x, only_cell hO q2_kb_x0x, only_cell hO q3_kb_x0x, only_cell hO q4_kb_x0x, only_cell hO q0_kb_x1x, only_cell hO q1_kb_x1x, only_cell hO q2_kb_x1x, only_cell hO q3_kb_x1x, only_cell hO q4_kb_x1x⟩, hO, hO.size⟩) (only_grow (by assumption) (by first | exact r_e | exact r_t))))
      (first | (go_at_call 7; (try go_split_ands); refine (toProject_any x0 _ _ _ _ _ _ _ _ 0 w.heap.size _ (by omega) (by exact f0_x0.only (by assumption) (by omega) (by omega)) (by exact f1_x0.only (by assumption) (by omega) (by omega)) (by exact f2_x0.only (by assumption) (by omega) (by omega)) (by exact f3_x0.only (by assumption) (by omega) (by omega)) (by omega)).mono ?_; rintro e w' ⟨A0_t, c0_t, A1_t, c1_t, A2_t, c2_t, A3_t, c3_t, rfl, v_t, r_t⟩; obtain ⟨f0_t, f1_t, f2_t, f3_t⟩ := ownProject_parts v_t) | (go_at_call 9; (try go_split_ands); refine (eqProject_same x0 _ _ _ _ _ _ _ _ _ _ _ _ _ _ _ _ _ _ _ _ _ (by omega) (by exact f0_x0x.only (by assumption) (by omega) (by omega)) (by exact f1_x0x.only (by assumption) (by omega) (by omega)) (by exact f2_x0x.only (by assumption) (by omega) (by omega)) (by exact f3_x0x.only (by assumption) (by omega) (by omega)) (by exact f0_t) (by exact f1_t) (by exact f2_t) (by exact f3_t) (by omega) (Nat.le_refl _)).mono ?_; rintro e w12 ⟨rfl, r_e⟩))
    rename_i hS
    have r12 := hS.2.1
    have z12 := r12.size
    clear hS hL
    clear q0_kb_x0 aq0_kb_x0 q1_kb_x0 aq1_kb_x0 q2_kb_x0 aq2_kb_x0 q3_kb_x0 aq3_kb_x0 q4_kb_x0 aq4_kb_x0 q0_kb_x1 aq0_kb_x1 q1_kb_x1 aq1_kb_x1 q2_kb_x1 aq2_kb_x1 q3_kb_x1 aq3_kb_x1 q4_kb_x1 aq4_kb_x1 q0_kb_x0x aq0_kb_x0x q1_kb_x0x aq1_kb_x0x q2_kb_x0x aq2_kb_x0x q3_kb_x0x aq3_kb_x0x q4_kb_x0x aq4_kb_x0x q0_kb_x1x aq0_kb_x1x q1_kb_x1x aq1_kb_x1x q2_kb_x1x aq2_kb_x1x q3_kb_x1x aq3_kb_x1x q4_kb_x1x aq4_kb_x1x
    have bel := below_only bel r12 (by omega) (by omega)
    have f0_x0 := f0_x0.only r12 (by omega) (by omega)
    have f1_x0 := f1_x0.only r12 (by omega) (by omega)
    have f2_x0 := f2_x0.only r12 (by omega) (by omega)
    have f3_x0 := f3_x0.only r12 (by omega) (by omega)
    have f0_x1 := f0_x1.only r12 (by omega) (by omega)
    have f1_x1 := f1_x1.only r12 (by omega) (by omega)
    have f2_x1 := f2_x1.only r12 (by omega) (by omega)
    have f3_x1 := f3_x1.only r12 (by omega) (by omega)
    have f0_x0x := f0_x0x.only r12 (by omega) (by omega)
    have f1_x0x := f1_x0x.only r12 (by omega) (by omega)
    have f2_x0x := f2_x0x.only r12 (by omega) (by omega)
    have f3_x0x := f3_x0x.only r12 (by omega) (by omega)
    have f0_x1x := f0_x1x.only r12 (by omega) (by omega)
    have f1_x1x := f1_x1x.only r12 (by omega) (by omega)
    have f2_x1x := f2_x1x.only r12 (by omega) (by omega)
    have f3_x1x := f3_x1x.only r12 (by omega) (by omega)
    have kb_x0 := kb_x0.only r12 (by omega)
    have kb_x1 := kb_x1.only r12 (by omega)
    have kb_x0x := kb_x0x.only r12 (by omega)
    have kb_x1x := kb_x1x.only r12 (by omega)
    clear r12
    have q0_kb_x0 := kb_x0.cell 0
    have aq0_kb_x0 := fun o => (World.cell?_alloc_lt w12 o ⟨w.heap.size, 0, none⟩ kb_x0.lt).trans q0_kb_x0
    have q1_kb_x0 := kb_x0.cell 1
    have aq1_kb_x0 := fun o => (World.cell?_alloc_lt w12 o ⟨w.heap.size, 1, none⟩ kb_x0.lt).trans q1_kb_x0
    have q2_kb_x0 := kb_x0.cell 2
    have aq2_kb_x0 := fun o => (World.cell?_alloc_lt w12 o ⟨w.heap.size, 2, none⟩ kb_x0.lt).trans q2_kb_x0
    have q3_kb_x0 := kb_x0.cell 3
    have aq3_kb_x0 := fun o => (World.cell?_alloc_lt w12 o ⟨w.heap.size, 3, none⟩ kb_x0.lt).trans q3_kb_x0
    have q4_kb_x0 := kb_x0.cell 4
    have aq4_kb_x0 := fun o => (World.cell?_alloc_lt w12 o ⟨w.heap.size, 4, none⟩ kb_x0.lt).trans q4_kb_x0
    have q0_kb_x1 := kb_x1.cell 0
    have aq0_kb_x1 := fun o => (World.cell?_alloc_lt w12 o ⟨w.heap.size + 1, 0, none⟩ kb_x1.lt).trans q0_kb_x1
    have q1_kb_x1 := kb_x1.cell 1
    have aq1_kb_x1 := fun o => (World.cell?_alloc_lt w12 o ⟨w.heap.size + 1, 1, none⟩ kb_x1.lt).trans q1_kb_x1
    have q2_kb_x1 := kb_x1.cell 2
    have aq2_kb_x1 := fun o => (World.cell?_alloc_lt w12 o ⟨w.heap.size + 1, 2, none⟩ kb_x1.lt).trans q2_kb_x1
    have q3_kb_x1 := kb_x1.cell 3
    have aq3_kb_x1 := fun o => (World.cell?_alloc_lt w12 o ⟨w.heap.size + 1, 3, none⟩ kb_x1.lt).trans q3_kb_x1
    have q4_kb_x1 := kb_x1.cell 4
    have aq4_kb_x1 := fun o => (World.cell?_alloc_lt w12 o ⟨w.heap.size + 1, 4, none⟩ kb_x1.lt).trans q4_kb_x1
    have q0_kb_x0x := kb_x0x.cell 0
    have aq0_kb_x0x := fun o => (World.cell?_alloc_lt w12 o ⟨w7.heap.size, 0, none⟩ kb_x0x.lt).trans q0_kb_x0x
    have q1_kb_x0x := kb_x0x.cell 1
    have aq1_kb_x0x := fun o => (World.cell?_alloc_lt w12 o ⟨w7.heap.size, 1, none⟩ kb_x0x.lt).trans q1_kb_x0x
    have q2_kb_x0x := kb_x0x.cell 2
    have aq2_kb_x0x := fun o => (World.cell?_alloc_lt w12 o ⟨w7.heap.size, 2, none⟩ kb_x0x.lt).trans q2_kb_x0x
    have q3_kb_x0x := kb_x0x.cell 3
    have aq3_kb_x0x := fun o => (World.cell?_alloc_lt w12 o ⟨w7.heap.size, 3, none⟩ kb_x0x.lt).trans q3_kb_x0x
    have q4_kb_x0x := kb_x0x.cell 4
    have aq4_kb_x0x := fun o => (World.cell?_alloc_lt w12 o ⟨w7.heap.size, 4, none⟩ kb_x0x.lt).trans q4_kb_x0x
    have q0_kb_x1x := kb_x1x.cell 0
    have aq0_kb_x1x := fun o => (World.cell?_alloc_lt w12 o ⟨w9.heap.size, 0, none⟩ kb_x1x.lt).trans q0_kb_x1x
    have q1_kb_x1x := kb_x1x.cell 1
    have aq1_kb_x1x := fun o => (World.cell?_alloc_lt w12 o ⟨w9.heap.size, 1, none⟩ kb_x1x.lt).trans q1_kb_x1x
    have q2_kb_x1x := kb_x1x.cell 2
    have aq2_kb_x1x := fun o => (World.cell?_alloc_lt w12 o ⟨w9.heap.size, 2, none⟩ kb_x1x.lt).trans q2_kb_x1x
    have q3_kb_x1x := kb_x1x.cell 3
    have aq3_kb_x1x := fun o => (World.cell?_alloc_lt w12 o ⟨w9.heap.size, 3, none⟩ kb_x1x.lt).trans q3_kb_x1x
    have q4_kb_x1x := kb_x1x.cell 4
    have aq4_kb_x1x := fun o => (World.cell?_alloc_lt w12 o ⟨w9.heap.size, 4, none⟩ kb_x1x.lt).trans q4_kb_x1x
    simp only [List.getElem?_toArray, List.getElem?_cons_succ, List.getElem?_cons_zero] at q0_kb_x0 aq0_kb_x0 q1_kb_x0 aq1_kb_x0 q2_kb_x0 aq2_kb_x0 q3_kb_x0 aq3_kb_x0 q4_kb_x0 aq4_kb_x0 q0_kb_x1 aq0_kb_x1 q1_kb_x1 aq1_kb_x1 q2_kb_x1 aq2_kb_x1 q3_kb_x1 aq3_kb_x1 q4_kb_x1 aq4_kb_x1 q0_kb_x0x aq0_kb_x0x q1_kb_x0x aq1_kb_x0x q2_kb_x0x aq2_kb_x0x q3_kb_x0x aq3_kb_x0x q4_kb_x0x aq4_kb_x0x q0_kb_x1x aq0_kb_x1x q1_kb_x1x aq1_kb_x1x q2_kb_x1x aq2_kb_x1x q3_kb_x1x aq3_kb_x1x q4_kb_x1x aq4_kb_x1x
    have hL : w12.heap.size ≤ w12.heap.size := Nat.le_refl _
    go_wp2_with fail
    go_region_held3 (fun w' => (w'.cell? ⟨w.heap.size, 0, none⟩ = some (.int .i64 x0.dead) ∧ w'.cell? ⟨w.heap.size, 1, none⟩ = some (.slice A0_x0 x0.acts.length c0_x0) ∧ w'.cell? ⟨w.heap.size, 2, none⟩ = some (.slice A1_x0 x0.links.length c1_x0) ∧ w'.cell? ⟨w.heap.size, 3, none⟩ = some (.slice A2_x0 x0.res.length c2_x0) ∧ w'.cell? ⟨w.heap.size, 4, none⟩ = some (.slice A3_x0 x0.stocks.length c3_x0) ∧ w'.cell? ⟨w.heap.size + 1, 0, none⟩ = some (.int .i64 x1.dead) ∧ w'.cell? ⟨w.heap.size + 1, 1, none⟩ = some (.slice A0_x1 x1.acts.length c0_x1) ∧ w'.cell? ⟨w.heap.size + 1, 2, none⟩ = some (.slice A1_x1 x1.links.length c1_x1) ∧ w'.cell? ⟨w.heap.size + 1, 3, none⟩ = some (.slice A2_x1 x1.res.length c2_x1) ∧ w'.cell? ⟨w.heap.size + 1, 4, none⟩ = some (.slice A3_x1 x1.stocks.length c3_x1) ∧ w'.cell? ⟨w7.heap.size, 0, none⟩ = some (.int .i64 x0.dead) ∧ w'.cell? ⟨w7.heap.size, 1, none⟩ = some (.slice A0_x0x x0.acts.length c0_x0x) ∧ w'.cell? ⟨w7.heap.size, 2, none⟩ = some (.slice A1_x0x x0.links.length c1_x0x) ∧ w'.cell? ⟨w7.heap.size, 3, none⟩ = some (.slice A2_x0x x0.res.length c2_x0x) ∧ w'.cell? ⟨w7.heap.size, 4, none⟩ = some (.slice A3_x0x x0.stocks.length c3_x0x) ∧ w'.cell? ⟨w9.heap.size, 0, none⟩ = some (.int .i64 x1.dead) ∧ w'.cell? ⟨w9.heap.size, 1, none⟩ = some (.slice A0_x1x x1.acts.length c0_x1x) ∧ w'.cell? ⟨w9.heap.size, 2, none⟩ = some (.slice A1_x1x x1.links.length c1_x1x) ∧ w'.cell? ⟨w9.heap.size, 3, none⟩ = some (.slice A2_x1x x1.res.length c2_x1x) ∧ w'.cell? ⟨w9.heap.size, 4, none⟩ = some (.slice A3_x1x x1.stocks.length c3_x1x)) ∧ Only w12.heap.size w12.heap.size w12 w' ∧ w12.heap.size ≤ w'.heap.size)
      (first | exact ⟨⟨q0_kb_x0, q1_kb_x0, q2_kb_x0, q3_kb_x0, q4_kb_x0, q0_kb_x1, q1_kb_x1, q2_kb_x1, q3_kb_x1, q4_kb_x1, q0_kb_x0x, q1_kb_x0x, q2_kb_x0x, q3_kb_x0x, q4_kb_x0x, q0_kb_x1x, q1_kb_x1x, q2_kb_x1x, q3_kb_x1x, q4_kb_x1x⟩, (Only.refl _ _ _).drew, hL⟩ | (go_split_ands; exact (fun hO => ⟨⟨only_cell hO q0_kb_x0, only_cell hO q1_kb_x0, only_cell hO q2_kb_x0, only_cell hO q3_kb_x0, only_cell hO q4_kb_x0, only_cell hO q0_kb_x1, only_cell hO q1_kb_x1, only_cell hO q2_kb_x1, only_cell hO q3_kb_x1, only_cell hO q4_kb_x1, only_cell hO q0_kb_x0x, only_cell hO q1_kb_x0x, only_cell hO q2_kb_x0x, only_cell hO q3_kb_x0x, only_cell hO q4_kb_x0x, only_cell hO q0_kb_x1x, only_cell hO q1_kb_x1x, only_cell hO q2_kb_x1x, only_cell hO q3_kb_x1x, only_cell hO q4_kb_x1x⟩, hO, hO.size⟩) (only_grow (by assumption) (by first | exact r_e | exact r_t))))
      (first | (go_at_call 7; (try go_split_ands); refine (toProject_any x1 _ _ _ _ _ _ _ _ 0 w.heap.size _ (by omega) (by exact f0_x1.only (by assumption) (by omega) (by omega)) (by exact f1_x1.only (by assumption) (by omega) (by omega)) (by exact f2_x1.only (by assumption) (by omega) (by omega)) (by exact f3_x1.only (by assumption) (by omega) (by omega)) (by omega)).mono ?_; rintro e w' ⟨A0_t, c0_t, A1_t, c1_t, A2_t, c2_t, A3_t, c3_t, rfl, v_t, r_t⟩; obtain ⟨f0_t, f1_t, f2_t, f3_t⟩ := ownProject_parts v_t) | (go_at_call 9; (try go_split_ands); refine (eqProject_same x1 _ _ _ _ _ _ _ _ _ _ _ _ _ _ _ _ _ _ _ _ _ (by omega) (by exact f0_x1x.only (by assumption) (by omega) (by omega)) (by exact f1_x1x.only (by assumption) (by omega) (by omega)) (by exact f2_x1x.only (by assumption) (by omega) (by omega)) (by exact f3_x1x.only (by assumption) (by omega) (by omega)) (by exact f0_t) (by exact f1_t) (by exact f2_t) (by exact f3_t) (by omega) (Nat.le_refl _)).mono ?_; rintro e w13 ⟨rfl, r_e⟩))
    rename_i hS
    have r13 := hS.2.1
    have z13 := r13.size
    clear hS hL
    clear q0_kb_x0 aq0_kb_x0 q1_kb_x0 aq1_kb_x0 q2_kb_x0 aq2_kb_x0 q3_kb_x0 aq3_kb_x0 q4_kb_x0 aq4_kb_x0 q0_kb_x1 aq0_kb_x1 q1_kb_x1 aq1_kb_x1 q2_kb_x1 aq2_kb_x1 q3_kb_x1 aq3_kb_x1 q4_kb_x1 aq4_kb_x1 q0_kb_x0x aq0_kb_x0x q1_kb_x0x aq1_kb_x0x q2_kb_x0x aq2_kb_x0x q3_kb_x0x aq3_kb_x0x q4_kb_x0x aq4_kb_x0x q0_kb_x1x aq0_kb_x1x q1_kb_x1x aq1_kb_x1x q2_kb_x1x aq2_kb_x1x q3_kb_x1x aq3_kb_x1x q4_kb_x1x aq4_kb_x1x
    have bel := below_only bel r13 (by omega) (by omega)
    have f0_x0 := f0_x0.only r13 (by omega) (by omega)
    have f1_x0 := f1_x0.only r13 (by omega) (by omega)
    have f2_x0 := f2_x0.only r13 (by omega) (by omega)
    have f3_x0 := f3_x0.only r13 (by omega) (by omega)
    have f0_x1 := f0_x1.only r13 (by omega) (by omega)
    have f1_x1 := f1_x1.only r13 (by omega) (by omega)
    have f2_x1 := f2_x1.only r13 (by omega) (by omega)
    have f3_x1 := f3_x1.only r13 (by omega) (by omega)
    have f0_x0x := f0_x0x.only r13 (by omega) (by omega)
    have f1_x0x := f1_x0x.only r13 (by omega) (by omega)
    have f2_x0x := f2_x0x.only r13 (by omega) (by omega)
    have f3_x0x := f3_x0x.only r13 (by omega) (by omega)
    have f0_x1x := f0_x1x.only r13 (by omega) (by omega)
    have f1_x1x := f1_x1x.only r13 (by omega) (by omega)
    have f2_x1x := f2_x1x.only r13 (by omega) (by omega)
    have f3_x1x := f3_x1x.only r13 (by omega) (by omega)
    have kb_x0 := kb_x0.only r13 (by omega)
    have kb_x1 := kb_x1.only r13 (by omega)
    have kb_x0x := kb_x0x.only r13 (by omega)
    have kb_x1x := kb_x1x.only r13 (by omega)
    clear r13
    have q0_kb_x0 := kb_x0.cell 0
    have aq0_kb_x0 := fun o => (World.cell?_alloc_lt w13 o ⟨w.heap.size, 0, none⟩ kb_x0.lt).trans q0_kb_x0
    have q1_kb_x0 := kb_x0.cell 1
    have aq1_kb_x0 := fun o => (World.cell?_alloc_lt w13 o ⟨w.heap.size, 1, none⟩ kb_x0.lt).trans q1_kb_x0
    have q2_kb_x0 := kb_x0.cell 2
    have aq2_kb_x0 := fun o => (World.cell?_alloc_lt w13 o ⟨w.heap.size, 2, none⟩ kb_x0.lt).trans q2_kb_x0
    have q3_kb_x0 := kb_x0.cell 3
    have aq3_kb_x0 := fun o => (World.cell?_alloc_lt w13 o ⟨w.heap.size, 3, none⟩ kb_x0.lt).trans q3_kb_x0
    have q4_kb_x0 := kb_x0.cell 4
    have aq4_kb_x0 := fun o => (World.cell?_alloc_lt w13 o ⟨w.heap.size, 4, none⟩ kb_x0.lt).trans q4_kb_x0
    have q0_kb_x1 := kb_x1.cell 0
    have aq0_kb_x1 := fun o => (World.cell?_alloc_lt w13 o ⟨w.heap.size + 1, 0, none⟩ kb_x1.lt).trans q0_kb_x1
    have q1_kb_x1 := kb_x1.cell 1
    have aq1_kb_x1 := fun o => (World.cell?_alloc_lt w13 o ⟨w.heap.size + 1, 1, none⟩ kb_x1.lt).trans q1_kb_x1
    have q2_kb_x1 := kb_x1.cell 2
    have aq2_kb_x1 := fun o => (World.cell?_alloc_lt w13 o ⟨w.heap.size + 1, 2, none⟩ kb_x1.lt).trans q2_kb_x1
    have q3_kb_x1 := kb_x1.cell 3
    have aq3_kb_x1 := fun o => (World.cell?_alloc_lt w13 o ⟨w.heap.size + 1, 3, none⟩ kb_x1.lt).trans q3_kb_x1
    have q4_kb_x1 := kb_x1.cell 4
    have aq4_kb_x1 := fun o => (World.cell?_alloc_lt w13 o ⟨w.heap.size + 1, 4, none⟩ kb_x1.lt).trans q4_kb_x1
    have q0_kb_x0x := kb_x0x.cell 0
    have aq0_kb_x0x := fun o => (World.cell?_alloc_lt w13 o ⟨w7.heap.size, 0, none⟩ kb_x0x.lt).trans q0_kb_x0x
    have q1_kb_x0x := kb_x0x.cell 1
    have aq1_kb_x0x := fun o => (World.cell?_alloc_lt w13 o ⟨w7.heap.size, 1, none⟩ kb_x0x.lt).trans q1_kb_x0x
    have q2_kb_x0x := kb_x0x.cell 2
    have aq2_kb_x0x := fun o => (World.cell?_alloc_lt w13 o ⟨w7.heap.size, 2, none⟩ kb_x0x.lt).trans q2_kb_x0x
    have q3_kb_x0x := kb_x0x.cell 3
    have aq3_kb_x0x := fun o => (World.cell?_alloc_lt w13 o ⟨w7.heap.size, 3, none⟩ kb_x0x.lt).trans q3_kb_x0x
    have q4_kb_x0x := kb_x0x.cell 4
    have aq4_kb_x0x := fun o => (World.cell?_alloc_lt w13 o ⟨w7.heap.size, 4, none⟩ kb_x0x.lt).trans q4_kb_x0x
    have q0_kb_x1x := kb_x1x.cell 0
    have aq0_kb_x1x := fun o => (World.cell?_alloc_lt w13 o ⟨w9.heap.size, 0, none⟩ kb_x1x.lt).trans q0_kb_x1x
    have q1_kb_x1x := kb_x1x.cell 1
    have aq1_kb_x1x := fun o => (World.cell?_alloc_lt w13 o ⟨w9.heap.size, 1, none⟩ kb_x1x.lt).trans q1_kb_x1x
    have q2_kb_x1x := kb_x1x.cell 2
    have aq2_kb_x1x := fun o => (World.cell?_alloc_lt w13 o ⟨w9.heap.size, 2, none⟩ kb_x1x.lt).trans q2_kb_x1x
    have q3_kb_x1x := kb_x1x.cell 3
    have aq3_kb_x1x := fun o => (World.cell?_alloc_lt w13 o ⟨w9.heap.size, 3, none⟩ kb_x1x.lt).trans q3_kb_x1x
    have q4_kb_x1x := kb_x1x.cell 4
    have aq4_kb_x1x := fun o => (World.cell?_alloc_lt w13 o ⟨w9.heap.size, 4, none⟩ kb_x1x.lt).trans q4_kb_x1x
    simp only [List.getElem?_toArray, List.getElem?_cons_succ, List.getElem?_cons_zero] at q0_kb_x0 aq0_kb_x0 q1_kb_x0 aq1_kb_x0 q2_kb_x0 aq2_kb_x0 q3_kb_x0 aq3_kb_x0 q4_kb_x0 aq4_kb_x0 q0_kb_x1 aq0_kb_x1 q1_kb_x1 aq1_kb_x1 q2_kb_x1 aq2_kb_x1 q3_kb_x1 aq3_kb_x1 q4_kb_x1 aq4_kb_x1 q0_kb_x0x aq0_kb_x0x q1_kb_x0x aq1_kb_x0x q2_kb_x0x aq2_kb_x0x q3_kb_x0x aq3_kb_x0x q4_kb_x0x aq4_kb_x0x q0_kb_x1x aq0_kb_x1x q1_kb_x1x aq1_kb_x1x q2_kb_x1x aq2_kb_x1x q3_kb_x1x aq3_kb_x1x q4_kb_x1x aq4_kb_x1x
    go_wp2
    go_ret
    exact ⟨rfl, bel⟩

set_option maxRecDepth 100000 in
theorem lifted (os : Os) (started : os.Started) (H : Type) (enc : TypeId × Value → H) :
    ReturnsInHanded {} Try.checked os 3 .any (Rows.fnExactProjectEqualSpec.pre6 enc Try.prog Try.f3 Rows.fnExactProjectEqualRow.domain false) (Rows.fnExactProjectEqualSpec.post enc Try.prog Try.f3 false true false false) := by
  refine returnsInHanded_of_change (C := Try.checked) own started (by kernel_rfl) Try.func3
    (ChangeSpec.witness6 (enc := enc) (C := Try.checked) false ⟨#[], #[.agg #[.int .i64 0, .slice none 0 0, .slice none 0 0, .slice none 0 0, .slice none 0 0], .agg #[.int .i64 0, .slice none 0 0, .slice none 0 0, .slice none 0 0, .slice none 0 0]], []⟩ 8 (by kernel_rfl) (by kernel_rfl) (by kernel_rfl) (by kernel_rfl)) ?_
  intro W base args ds gs before hval0 hW hcnd _
  have hval : ∀ (j : Nat) t v, Try.f3.params[j]? = some t → args[j]? = some v → Value.okWide Try.prog W .any base t v := hval0
  have hW' := hW
  obtain ⟨p, q, hA0, hV, rfl, hfz, hnd⟩ := hW
  have hA : DataW.TrodAll enc Try.prog W 0 (fun _ => true) true Try.f3.params.toList args.toList ds p := hA0
  rw [Try.params3] at hA hval
  obtain ⟨v0, vs0, d0, ds0, p0, q0, hargs, rfl, rfl, h0, r0⟩ := trodAll_cons hA
  obtain ⟨v1, vs1, d1, ds1, p1, q1, rfl, rfl, rfl, h1, r1⟩ := trodAll_cons r0
  obtain ⟨rfl, rfl, rfl⟩ := trodAll_nil r1
  obtain rfl : args = #[v0, v1] := by cases args; simp_all
  obtain ⟨rfl, rfl⟩ := trodVars_none hV
  have k0 := h0
  have lt0 : ∀ x ∈ p0, x.block < W.heap.size := by obtain ⟨m, hm⟩ := k0; exact DataW.trod_lt m _ _ _ hm
  obtain ⟨A0_0, A1_0, A2_0, A3_0, x0, c0_0, c1_0, c2_0, c3_0, rfl, m0_0, m1_0, m2_0, m3_0, i0⟩ := open_project Try.tyProject (hval 0 27 v0 rfl rfl) h0
  have k1 := h1
  have lt1 : ∀ x ∈ p1, x.block < W.heap.size := by obtain ⟨m, hm⟩ := k1; exact DataW.trod_lt m _ _ _ hm
  obtain ⟨A0_1, A1_1, A2_1, A3_1, x1, c0_1, c1_1, c2_1, c3_1, rfl, m0_1, m1_1, m2_1, m3_1, i1⟩ := open_project Try.tyProject (hval 1 27 v1 rfl rfl) h1
  clear hA0 hval0
  refine (walk A0_0 A1_0 A2_0 A3_0 x0 c0_0 c1_0 c2_0 c3_0 A0_1 A1_1 A2_1 A3_1 x1 c0_1 c1_1 c2_1 c3_1 W m0_0 m1_0 m2_0 m3_0 i0 m0_1 m1_1 m2_1 m3_1 i1).mono fun e W' ⟨he, bel⟩ => ?_
  subst he
  exact ⟨_, rfl, _, _, _, [], _, [], hW', trodAll_mk1 (shut_bool Try.underlying4 _), (trodAll_cons_mk (Below.trod laidOut (by kernel_rfl) (of_decide_eq_true (by kernel_rfl)) k0 bel lt0) (trodAll_cons_mk (Below.trod laidOut (by kernel_rfl) (of_decide_eq_true (by kernel_rfl)) k1 bel lt1) trodAll_mk0)), rfl, bel.frame _, fun h => by cases h⟩
theorem over : Rows.fnExactProjectEqualRow.holds Try.pinned (OpenSpec.ofChange Rows.fnExactProjectEqualSpec) :=
  OpenClaim.holds_of_wide 3 Try.f3 rfl rfl rfl rfl rfl rfl rfl ⟨rfl, rfl, rfl, rfl, rfl⟩ rfl rfl rfl rfl rfl (by kernel_rfl) Try.func3 (by kernel_rfl)
    (of_decide_eq_true (by kernel_rfl)) (by unfold Func.isWrapper; first | (rw [if_pos (by decide +kernel)]; kernel_rfl) | (rw [if_neg (by decide +kernel)]; exact ⟨rfl, rfl⟩))
    (fun os started H enc _ => lifted os started H enc)
theorem proved : Rows.FnExactProjectEqualSaid := over
end Go.Proofs.Ytebfijjcmmlbjaa.fnExactProjectEqual
