/- For every input the law FnExactUsers returns true and its arguments read as before. No condition. -/
import Derived.Test.YtebfijjcmmlbjaaRows
import Derived.Test.YtebfijjcmmlbjaaOpen
import Derived.Test.YtebfijjcmmlbjaaLaw
import Derived.Test.YtebfijjcmmlbjaaLawPj
import Derived.Test.YtebfijjcmmlbjaaMark
import Derived.Test.YtebfijjcmmlbjaaOpenTy
import Derived.Test.YtebfijjcmmlbjaaPrj5
import Derived.Deep.RegionHeld3
namespace Go.Proofs.Ytebfijjcmmlbjaa.fnExactUsers
open Go.ChangeShapes Go.WideShapes Go.ChangeAt Go.RowKit
open Go.ChangeMaps (open_string shut_string)
set_option linter.unusedVariables false

theorem own : ownKnob Try.prog.godebug = none := by kernel_rfl
theorem laidOut : laidOutB Try.prog = true := by kernel_rfl

set_option maxHeartbeats 1600000 in
theorem walk (A0_x0 A1_x0 A2_x0 A3_x0 : Option Addr) (x0 : Pj) (c0_x0 c1_x0 c2_x0 c3_x0 : Nat) (x1 : Int) (w : World) (f0_x0 : RdAs w 0 w.heap.size A0_x0 x0.acts) (f1_x0 : RdLs w 0 w.heap.size A1_x0 x0.links) (f2_x0 : RdRs w 0 w.heap.size A2_x0 x0.res) (f3_x0 : RdI w 0 w.heap.size A3_x0 x0.stocks) (i_x0 : WfPj x0) (i_x1 : (Lit.int .i64 x1).wf = true) :
    Calls Try.prog 4 #[.agg #[.int .i64 x0.dead, .slice A0_x0 x0.acts.length c0_x0, .slice A1_x0 x0.links.length c1_x0, .slice A2_x0 x0.res.length c2_x0, .slice A3_x0 x0.stocks.length c3_x0], .int .i64 x1] w fun e w' => e = .returned (.bool true) ∧ Below w.heap.size w w' := by
  have bel := Below.refl w.heap.size w
  go_enter Try.func4, Try.ntmps4
  go_wp2_with fail
  refine at_world fun w1 hW => ?_
  have rW : Only w.heap.size w.heap.size w w1 := by rw [hW]; (repeat' (first | exact Only.refl _ _ _ | refine Only.alloc ?_ _))
  have z1 := rW.size
  have f0_x0 := f0_x0.only rW (by omega) (by omega)
  have f1_x0 := f1_x0.only rW (by omega) (by omega)
  have f2_x0 := f2_x0.only rW (by omega) (by omega)
  have f3_x0 := f3_x0.only rW (by omega) (by omega)
  have kb_x0 : Bk w1 w.heap.size 27 #[.int .i64 x0.dead, .slice A0_x0 x0.acts.length c0_x0, .slice A1_x0 x0.links.length c1_x0, .slice A2_x0 x0.res.length c2_x0, .slice A3_x0 x0.stocks.length c3_x0] := by rw [hW]; exact Bk.made _ _ _
  have zk_kb_x0 := kb_x0.lt
  have bel := below_only bel rW (by omega) (by omega)
  clear hW rW
  refine (szProject_any x0 _ _ _ _ _ _ _ _ 0 w.heap.size (1048576) _ i_x0 (by omega) (by omega) (by exact f0_x0) (by exact f1_x0) (by exact f2_x0) (by exact f3_x0) (by omega)).mono ?_
  rintro e w2 ⟨r_x0, rfl, b_x0, r2⟩
  have r2 := only_below r2
  have z2 := r2.size
  have bel := below_only bel r2 (by first | exact Nat.le_refl _ | omega) (by omega)
  have f0_x0 := f0_x0.only r2 (by omega) (by omega)
  have f1_x0 := f1_x0.only r2 (by omega) (by omega)
  have f2_x0 := f2_x0.only r2 (by omega) (by omega)
  have f3_x0 := f3_x0.only r2 (by omega) (by omega)
  have kb_x0 := kb_x0.only r2 (by omega)
  clear r2
  have q0_kb_x0 := kb_x0.cell 0
  have q1_kb_x0 := kb_x0.cell 1
  have q2_kb_x0 := kb_x0.cell 2
  have q3_kb_x0 := kb_x0.cell 3
  have q4_kb_x0 := kb_x0.cell 4
  simp only [List.getElem?_toArray, List.getElem?_cons_succ, List.getElem?_cons_zero] at q0_kb_x0 q1_kb_x0 q2_kb_x0 q3_kb_x0 q4_kb_x0
  rcases b_x0 with rfl | ⟨b1_x0, b2_x0, b3_x0⟩
  case inl =>
    go_wp2
    go_ret
    exact ⟨rfl, bel⟩
  have l_x0 : szPj x0 ≤ 1048576 := by omega
  have m_x0 : x0.acts.length ≤ 1048576 ∧ x0.links.length ≤ 1048576 ∧ x0.res.length ≤ 1048576 ∧ x0.stocks.length ≤ 1048576 := by (have e : szPj x0 = szL szAc x0.acts + (x0.links.length + (szL szRs x0.res + x0.stocks.length)) := rfl); (have := szL_len szAc x0.acts); (have := szL_len szRs x0.res); omega
  go_wp2_with fail
  refine at_world fun w3 hW => ?_
  have rW : Only w2.heap.size w2.heap.size w2 w3 := by rw [hW]; (repeat' (first | exact Only.refl _ _ _ | refine Only.alloc ?_ _))
  have z3 := rW.size
  clear q0_kb_x0 q1_kb_x0 q2_kb_x0 q3_kb_x0 q4_kb_x0
  have f0_x0 := f0_x0.only rW (by omega) (by omega)
  have f1_x0 := f1_x0.only rW (by omega) (by omega)
  have f2_x0 := f2_x0.only rW (by omega) (by omega)
  have f3_x0 := f3_x0.only rW (by omega) (by omega)
  have kb_x0 := kb_x0.only rW (by omega)
  have bel := below_only bel rW (by omega) (by omega)
  clear hW rW
  refine (toProject_any x0 _ _ _ _ _ _ _ _ 0 w.heap.size _ (by omega) (by exact f0_x0) (by exact f1_x0) (by exact f2_x0) (by exact f3_x0) (by omega)).mono ?_
  rintro e w4 ⟨A0_x0s, c0_x0s, A1_x0s, c1_x0s, A2_x0s, c2_x0s, A3_x0s, c3_x0s, rfl, v_x0s, r4⟩
  have r4 := only_below r4
  have z4 := r4.size
  have bel := below_only bel r4 (by first | exact Nat.le_refl _ | omega) (by omega)
  have f0_x0 := f0_x0.only r4 (by omega) (by omega)
  have f1_x0 := f1_x0.only r4 (by omega) (by omega)
  have f2_x0 := f2_x0.only r4 (by omega) (by omega)
  have f3_x0 := f3_x0.only r4 (by omega) (by omega)
  have kb_x0 := kb_x0.only r4 (by omega)
  clear r4
  have q0_kb_x0 := kb_x0.cell 0
  have q1_kb_x0 := kb_x0.cell 1
  have q2_kb_x0 := kb_x0.cell 2
  have q3_kb_x0 := kb_x0.cell 3
  have q4_kb_x0 := kb_x0.cell 4
  simp only [List.getElem?_toArray, List.getElem?_cons_succ, List.getElem?_cons_zero] at q0_kb_x0 q1_kb_x0 q2_kb_x0 q3_kb_x0 q4_kb_x0
  obtain ⟨f0_x0s, f1_x0s, f2_x0s, f3_x0s⟩ := ownProject_parts v_x0s
  clear v_x0s
  go_wp2_with fail
  refine at_world fun w5 hW => ?_
  have rW : Only w4.heap.size w4.heap.size w4 w5 := by rw [hW]; (repeat' (first | exact Only.refl _ _ _ | refine Only.alloc ?_ _))
  have z5 := rW.size
  clear q0_kb_x0 q1_kb_x0 q2_kb_x0 q3_kb_x0 q4_kb_x0
  have f0_x0 := f0_x0.only rW (by omega) (by omega)
  have f1_x0 := f1_x0.only rW (by omega) (by omega)
  have f2_x0 := f2_x0.only rW (by omega) (by omega)
  have f3_x0 := f3_x0.only rW (by omega) (by omega)
  have f0_x0s := f0_x0s.only rW (by omega) (by omega)
  have f1_x0s := f1_x0s.only rW (by omega) (by omega)
  have f2_x0s := f2_x0s.only rW (by omega) (by omega)
  have f3_x0s := f3_x0s.only rW (by omega) (by omega)
  have kb_x0 := kb_x0.only rW (by omega)
  have bel := below_only bel rW (by omega) (by omega)
  clear hW rW
  refine (specUsers_any x0 x1 _ _ _ _ _ _ _ _ _ _ _ (by omega) (by exact f0_x0s) (by exact f1_x0s) (by exact f2_x0s) (by exact f3_x0s) (by omega)).mono ?_
  rintro e w6 ⟨A_w0, c_w0, rfl, o_w0, r6⟩
  have r6 := only_below r6
  have z6 := r6.size
  have bel := below_only bel r6 (by first | exact Nat.le_refl _ | omega) (by omega)
  have f0_x0 := f0_x0.only r6 (by omega) (by omega)
  have f1_x0 := f1_x0.only r6 (by omega) (by omega)
  have f2_x0 := f2_x0.only r6 (by omega) (by omega)
  have f3_x0 := f3_x0.only r6 (by omega) (by omega)
  have f0_x0s := f0_x0s.only r6 (by omega) (by omega)
  have f1_x0s := f1_x0s.only r6 (by omega) (by omega)
  have f2_x0s := f2_x0s.only r6 (by omega) (by omega)
  have f3_x0s := f3_x0s.only r6 (by omega) (by omega)
  have kb_x0 := kb_x0.only r6 (by omega)
  clear r6
  have q0_kb_x0 := kb_x0.cell 0
  have q1_kb_x0 := kb_x0.cell 1
  have q2_kb_x0 := kb_x0.cell 2
  have q3_kb_x0 := kb_x0.cell 3
  have q4_kb_x0 := kb_x0.cell 4
  simp only [List.getElem?_toArray, List.getElem?_cons_succ, List.getElem?_cons_zero] at q0_kb_x0 q1_kb_x0 q2_kb_x0 q3_kb_x0 q4_kb_x0
  have f_w0 := o_w0.rdI
  clear f0_x0s
  clear f1_x0s
  clear f2_x0s
  clear f3_x0s
  go_wp2_with fail
  refine at_world fun w7 hW => ?_
  have rW : Only w6.heap.size w6.heap.size w6 w7 := by rw [hW]; (repeat' (first | exact Only.refl _ _ _ | refine Only.alloc ?_ _))
  have z7 := rW.size
  clear q0_kb_x0 q1_kb_x0 q2_kb_x0 q3_kb_x0 q4_kb_x0
  have f0_x0 := f0_x0.only rW (by omega) (by omega)
  have f1_x0 := f1_x0.only rW (by omega) (by omega)
  have f2_x0 := f2_x0.only rW (by omega) (by omega)
  have f3_x0 := f3_x0.only rW (by omega) (by omega)
  have o_w0 := o_w0.only rW (by omega) (by omega)
  have f_w0 := f_w0.only rW (by omega) (by omega)
  have kb_x0 := kb_x0.only rW (by omega)
  have bel := below_only bel rW (by omega) (by omega)
  clear hW rW
  refine (toProject_any x0 _ _ _ _ _ _ _ _ 0 w.heap.size _ (by omega) (by exact f0_x0) (by exact f1_x0) (by exact f2_x0) (by exact f3_x0) (by omega)).mono ?_
  rintro e w8 ⟨A0_x0x, c0_x0x, A1_x0x, c1_x0x, A2_x0x, c2_x0x, A3_x0x, c3_x0x, rfl, v_x0x, r8⟩
  have r8 := only_below r8
  have z8 := r8.size
  have bel := below_only bel r8 (by first | exact Nat.le_refl _ | omega) (by omega)
  have f0_x0 := f0_x0.only r8 (by omega) (by omega)
  have f1_x0 := f1_x0.only r8 (by omega) (by omega)
  have f2_x0 := f2_x0.only r8 (by omega) (by omega)
  have f3_x0 := f3_x0.only r8 (by omega) (by omega)
  have o_w0 := o_w0.only r8 (by omega) (by omega)
  have f_w0 := f_w0.only r8 (by omega) (by omega)
  have kb_x0 := kb_x0.only r8 (by omega)
  clear r8
  have q0_kb_x0 := kb_x0.cell 0
  have q1_kb_x0 := kb_x0.cell 1
  have q2_kb_x0 := kb_x0.cell 2
  have q3_kb_x0 := kb_x0.cell 3
  have q4_kb_x0 := kb_x0.cell 4
  simp only [List.getElem?_toArray, List.getElem?_cons_succ, List.getElem?_cons_zero] at q0_kb_x0 q1_kb_x0 q2_kb_x0 q3_kb_x0 q4_kb_x0
  obtain ⟨f0_x0x, f1_x0x, f2_x0x, f3_x0x⟩ := ownProject_parts v_x0x
  have ow_x0x : OwPV _ _ _ _ x0 := v_x0x
  clear v_x0x
  go_wp2_with fail
  refine at_world fun w9 hW => ?_
  have rW : Only w8.heap.size w8.heap.size w8 w9 := by rw [hW]; (repeat' (first | exact Only.refl _ _ _ | refine Only.alloc ?_ _))
  have z9 := rW.size
  clear q0_kb_x0 q1_kb_x0 q2_kb_x0 q3_kb_x0 q4_kb_x0
  have f0_x0 := f0_x0.only rW (by omega) (by omega)
  have f1_x0 := f1_x0.only rW (by omega) (by omega)
  have f2_x0 := f2_x0.only rW (by omega) (by omega)
  have f3_x0 := f3_x0.only rW (by omega) (by omega)
  have o_w0 := o_w0.only rW (by omega) (by omega)
  have f_w0 := f_w0.only rW (by omega) (by omega)
  have ow_x0x := ow_x0x.only rW (by omega) (by omega)
  have f0_x0x := f0_x0x.only rW (by omega) (by omega)
  have f1_x0x := f1_x0x.only rW (by omega) (by omega)
  have f2_x0x := f2_x0x.only rW (by omega) (by omega)
  have f3_x0x := f3_x0x.only rW (by omega) (by omega)
  have kb_x0 := kb_x0.only rW (by omega)
  have kb_x0x : Bk w9 w8.heap.size 34 #[.int .i64 x0.dead, .slice A0_x0x x0.acts.length c0_x0x, .slice A1_x0x x0.links.length c1_x0x, .slice A2_x0x x0.res.length c2_x0x, .slice A3_x0x x0.stocks.length c3_x0x] := by rw [hW]; exact Bk.made _ _ _
  have zk_kb_x0x := kb_x0x.lt
  have bel := below_only bel rW (by omega) (by omega)
  clear hW rW
  refine (implUsers_any x0 x1 _ _ _ _ _ _ _ _ _ _ _ (by omega) (by exact f0_x0x) (by exact f1_x0x) (by exact f2_x0x) (by exact f3_x0x) (by omega)).mono ?_
  rintro e w10 ⟨A_g0, c_g0, rfl, o_g0, r10⟩
  have r10 := only_below r10
  have z10 := r10.size
  have bel := below_only bel r10 (by first | exact Nat.le_refl _ | omega) (by omega)
  have f0_x0 := f0_x0.only r10 (by omega) (by omega)
  have f1_x0 := f1_x0.only r10 (by omega) (by omega)
  have f2_x0 := f2_x0.only r10 (by omega) (by omega)
  have f3_x0 := f3_x0.only r10 (by omega) (by omega)
  have o_w0 := o_w0.only r10 (by omega) (by omega)
  have f_w0 := f_w0.only r10 (by omega) (by omega)
  have ow_x0x := ow_x0x.only r10 (by omega) (by omega)
  have f0_x0x := f0_x0x.only r10 (by omega) (by omega)
  have f1_x0x := f1_x0x.only r10 (by omega) (by omega)
  have f2_x0x := f2_x0x.only r10 (by omega) (by omega)
  have f3_x0x := f3_x0x.only r10 (by omega) (by omega)
  have kb_x0 := kb_x0.only r10 (by omega)
  have kb_x0x := kb_x0x.only r10 (by omega)
  clear r10
  have q0_kb_x0 := kb_x0.cell 0
  have q1_kb_x0 := kb_x0.cell 1
  have q2_kb_x0 := kb_x0.cell 2
  have q3_kb_x0 := kb_x0.cell 3
  have q4_kb_x0 := kb_x0.cell 4
  have q0_kb_x0x := kb_x0x.cell 0
  have q1_kb_x0x := kb_x0x.cell 1
  have q2_kb_x0x := kb_x0x.cell 2
  have q3_kb_x0x := kb_x0x.cell 3
  have q4_kb_x0x := kb_x0x.cell 4
  simp only [List.getElem?_toArray, List.getElem?_cons_succ, List.getElem?_cons_zero] at q0_kb_x0 q1_kb_x0 q2_kb_x0 q3_kb_x0 q4_kb_x0 q0_kb_x0x q1_kb_x0x q2_kb_x0x q3_kb_x0x q4_kb_x0x
  have f_g0 := o_g0.rdI
  go_wp2_with fail
  refine at_world fun w11 hW => ?_
  have rW : Only w10.heap.size w10.heap.size w10 w11 := by rw [hW]; (repeat' (first | exact Only.refl _ _ _ | refine Only.alloc ?_ _))
  have z11 := rW.size
  clear q0_kb_x0 q1_kb_x0 q2_kb_x0 q3_kb_x0 q4_kb_x0 q0_kb_x0x q1_kb_x0x q2_kb_x0x q3_kb_x0x q4_kb_x0x
  have f0_x0 := f0_x0.only rW (by omega) (by omega)
  have f1_x0 := f1_x0.only rW (by omega) (by omega)
  have f2_x0 := f2_x0.only rW (by omega) (by omega)
  have f3_x0 := f3_x0.only rW (by omega) (by omega)
  have o_w0 := o_w0.only rW (by omega) (by omega)
  have f_w0 := f_w0.only rW (by omega) (by omega)
  have ow_x0x := ow_x0x.only rW (by omega) (by omega)
  have f0_x0x := f0_x0x.only rW (by omega) (by omega)
  have f1_x0x := f1_x0x.only rW (by omega) (by omega)
  have f2_x0x := f2_x0x.only rW (by omega) (by omega)
  have f3_x0x := f3_x0x.only rW (by omega) (by omega)
  have o_g0 := o_g0.only rW (by omega) (by omega)
  have f_g0 := f_g0.only rW (by omega) (by omega)
  have kb_x0 := kb_x0.only rW (by omega)
  have kb_x0x := kb_x0x.only rW (by omega)
  have bel := below_only bel rW (by omega) (by omega)
  clear hW rW
  refine (eqIntS_same _ _ (usersM x0 x1) _ _ _ _ _ _ _ _ _ (by have := usersM_len x0 x1; have := szL_len szAc x0.acts; have e : szPj x0 = szL szAc x0.acts + (x0.links.length + (szL szRs x0.res + x0.stocks.length)) := rfl; omega) (by exact f_g0) (by exact f_w0) rfl rfl).mono ?_
  rintro e w12 ⟨rfl, r12⟩
  have r12 := only_qt r12
  have z12 := r12.size
  have bel := below_only bel r12 (by first | exact Nat.le_refl _ | omega) (by omega)
  have f0_x0 := f0_x0.only r12 (by omega) (by omega)
  have f1_x0 := f1_x0.only r12 (by omega) (by omega)
  have f2_x0 := f2_x0.only r12 (by omega) (by omega)
  have f3_x0 := f3_x0.only r12 (by omega) (by omega)
  have o_w0 := o_w0.only r12 (by omega) (by omega)
  have f_w0 := f_w0.only r12 (by omega) (by omega)
  have ow_x0x := ow_x0x.only r12 (by omega) (by omega)
  have f0_x0x := f0_x0x.only r12 (by omega) (by omega)
  have f1_x0x := f1_x0x.only r12 (by omega) (by omega)
  have f2_x0x := f2_x0x.only r12 (by omega) (by omega)
  have f3_x0x := f3_x0x.only r12 (by omega) (by omega)
  have o_g0 := o_g0.only r12 (by omega) (by omega)
  have f_g0 := f_g0.only r12 (by omega) (by omega)
  have kb_x0 := kb_x0.only r12 (by omega)
  have kb_x0x := kb_x0x.only r12 (by omega)
  clear r12
  have q0_kb_x0 := kb_x0.cell 0
  have q1_kb_x0 := kb_x0.cell 1
  have q2_kb_x0 := kb_x0.cell 2
  have q3_kb_x0 := kb_x0.cell 3
  have q4_kb_x0 := kb_x0.cell 4
  have q0_kb_x0x := kb_x0x.cell 0
  have q1_kb_x0x := kb_x0x.cell 1
  have q2_kb_x0x := kb_x0x.cell 2
  have q3_kb_x0x := kb_x0x.cell 3
  have q4_kb_x0x := kb_x0x.cell 4
  simp only [List.getElem?_toArray, List.getElem?_cons_succ, List.getElem?_cons_zero] at q0_kb_x0 q1_kb_x0 q2_kb_x0 q3_kb_x0 q4_kb_x0 q0_kb_x0x q1_kb_x0x q2_kb_x0x q3_kb_x0x q4_kb_x0x
  have hL : w12.heap.size ≤ w12.heap.size := Nat.le_refl _
  go_wp2_with fail
  go_region_held3 (fun w' => (w'.cell? ⟨w.heap.size, 0, none⟩ = some (.int .i64 x0.dead) ∧ w'.cell? ⟨w.heap.size, 1, none⟩ = some (.slice A0_x0 x0.acts.length c0_x0) ∧ w'.cell? ⟨w.heap.size, 2, none⟩ = some (.slice A1_x0 x0.links.length c1_x0) ∧ w'.cell? ⟨w.heap.size, 3, none⟩ = some (.slice A2_x0 x0.res.length c2_x0) ∧ w'.cell? ⟨w.heap.size, 4, none⟩ = some (.slice A3_x0 x0.stocks.length c3_x0) ∧ w'.cell? ⟨w8.heap.size, 0, none⟩ = some (.int .i64 x0.dead) ∧ w'.cell? ⟨w8.heap.size, 1, none⟩ = some (.slice A0_x0x x0.acts.length c0_x0x) ∧ w'.cell? ⟨w8.heap.size, 2, none⟩ = some (.slice A1_x0x x0.links.length c1_x0x) ∧ w'.cell? ⟨w8.heap.size, 3, none⟩ = some (.slice A2_x0x x0.res.length c2_x0x) ∧ w'.cell? ⟨w8.heap.size, 4, none⟩ = some (.slice A3_x0x x0.stocks.length c3_x0x)) ∧ Only w12.heap.size w12.heap.size w12 w' ∧ w12.heap.size ≤ w'.heap.size)
    (first | exact ⟨⟨q0_kb_x0, q1_kb_x0, q2_kb_x0, q3_kb_x0, q4_kb_x0, q0_kb_x0x, q1_kb_x0x, q2_kb_x0x, q3_kb_x0x, q4_kb_x0x⟩, (Only.refl _ _ _).drew, hL⟩ | (go_split_ands; exact (fun hO => ⟨⟨only_cell hO q0_kb_x0, only_cell hO q1_kb_x0, only_cell hO q2_kb_x0, only_cell hO q3_kb_x0, only_cell hO q4_kb_x0, only_cell hO q0_kb_x0x, only_cell hO q1_kb_x0x, only_cell hO q2_kb_x0x, only_cell hO q3_kb_x0x, only_cell hO q4_kb_x0x⟩, hO, hO.size⟩) (only_grow (by assumption) (by first | exact r_e | exact r_t))))
    (first | (go_at_call 7; (try go_split_ands); refine (toProject_any x0 _ _ _ _ _ _ _ _ 0 w.heap.size _ (by omega) (by exact f0_x0.only (by assumption) (by omega) (by omega)) (by exact f1_x0.only (by assumption) (by omega) (by omega)) (by exact f2_x0.only (by assumption) (by omega) (by omega)) (by exact f3_x0.only (by assumption) (by omega) (by omega)) (by omega)).mono ?_; rintro e w' ⟨A0_t, c0_t, A1_t, c1_t, A2_t, c2_t, A3_t, c3_t, rfl, v_t, r_t⟩; obtain ⟨f0_t, f1_t, f2_t, f3_t⟩ := ownProject_parts v_t) | (go_at_call 9; (try go_split_ands); refine (eqProject_same x0 _ _ _ _ _ _ _ _ _ _ _ _ _ _ _ _ _ _ _ _ _ (by omega) (by exact f0_x0x.only (by assumption) (by omega) (by omega)) (by exact f1_x0x.only (by assumption) (by omega) (by omega)) (by exact f2_x0x.only (by assumption) (by omega) (by omega)) (by exact f3_x0x.only (by assumption) (by omega) (by omega)) (by exact f0_t) (by exact f1_t) (by exact f2_t) (by exact f3_t) (by omega) (Nat.le_refl _)).mono ?_; rintro e w13 ⟨rfl, r_e⟩))
  rename_i hS
  have r13 := hS.2.1
  have z13 := r13.size
  clear hS hL
  clear q0_kb_x0 q1_kb_x0 q2_kb_x0 q3_kb_x0 q4_kb_x0 q0_kb_x0x q1_kb_x0x q2_kb_x0x q3_kb_x0x q4_kb_x0x
  have bel := below_only bel r13 (by omega) (by omega)
  have f0_x0 := f0_x0.only r13 (by omega) (by omega)
  have f1_x0 := f1_x0.only r13 (by omega) (by omega)
  have f2_x0 := f2_x0.only r13 (by omega) (by omega)
  have f3_x0 := f3_x0.only r13 (by omega) (by omega)
  have o_w0 := o_w0.only r13 (by omega) (by omega)
  have f_w0 := f_w0.only r13 (by omega) (by omega)
  have ow_x0x := ow_x0x.only r13 (by omega) (by omega)
  have f0_x0x := f0_x0x.only r13 (by omega) (by omega)
  have f1_x0x := f1_x0x.only r13 (by omega) (by omega)
  have f2_x0x := f2_x0x.only r13 (by omega) (by omega)
  have f3_x0x := f3_x0x.only r13 (by omega) (by omega)
  have o_g0 := o_g0.only r13 (by omega) (by omega)
  have f_g0 := f_g0.only r13 (by omega) (by omega)
  have kb_x0 := kb_x0.only r13 (by omega)
  have kb_x0x := kb_x0x.only r13 (by omega)
  clear r13
  have q0_kb_x0 := kb_x0.cell 0
  have q1_kb_x0 := kb_x0.cell 1
  have q2_kb_x0 := kb_x0.cell 2
  have q3_kb_x0 := kb_x0.cell 3
  have q4_kb_x0 := kb_x0.cell 4
  have q0_kb_x0x := kb_x0x.cell 0
  have q1_kb_x0x := kb_x0x.cell 1
  have q2_kb_x0x := kb_x0x.cell 2
  have q3_kb_x0x := kb_x0x.cell 3
  have q4_kb_x0x := kb_x0x.cell 4
  simp only [List.getElem?_toArray, List.getElem?_cons_succ, List.getElem?_cons_zero] at q0_kb_x0 q1_kb_x0 q2_kb_x0 q3_kb_x0 q4_kb_x0 q0_kb_x0x q1_kb_x0x q2_kb_x0x q3_kb_x0x q4_kb_x0x
  clear f0_x0x
  clear f1_x0x
  clear f2_x0x
  clear f3_x0x
  go_wp2_with fail
  refine at_world fun w14 hW => ?_
  have rW : Only w13.heap.size w13.heap.size w13 w14 := by rw [hW]; (repeat' (first | exact Only.refl _ _ _ | refine Only.alloc ?_ _))
  have z14 := rW.size
  clear q0_kb_x0 q1_kb_x0 q2_kb_x0 q3_kb_x0 q4_kb_x0 q0_kb_x0x q1_kb_x0x q2_kb_x0x q3_kb_x0x q4_kb_x0x
  have f0_x0 := f0_x0.only rW (by omega) (by omega)
  have f1_x0 := f1_x0.only rW (by omega) (by omega)
  have f2_x0 := f2_x0.only rW (by omega) (by omega)
  have f3_x0 := f3_x0.only rW (by omega) (by omega)
  have o_w0 := o_w0.only rW (by omega) (by omega)
  have f_w0 := f_w0.only rW (by omega) (by omega)
  have o_g0 := o_g0.only rW (by omega) (by omega)
  have f_g0 := f_g0.only rW (by omega) (by omega)
  have ow_x0x := ow_x0x.only rW (by omega) (by omega)
  have kb_x0 := kb_x0.only rW (by omega)
  have kb_x0x := kb_x0x.only rW (by omega)
  have bel := below_only bel rW (by omega) (by omega)
  clear hW rW
  refine (markProjectO_any x0 _ _ _ _ _ _ _ _ _ _ (1) _ (by omega) (by omega) (by omega) ow_x0x (by omega)).mono ?_
  rintro e w15 ⟨rfl, r15⟩
  have z15 := r15.size
  have bel := below_only bel r15 (by first | exact Nat.le_refl _ | omega) (by omega)
  have f0_x0 := f0_x0.only r15 (by omega) (by omega)
  have f1_x0 := f1_x0.only r15 (by omega) (by omega)
  have f2_x0 := f2_x0.only r15 (by omega) (by omega)
  have f3_x0 := f3_x0.only r15 (by omega) (by omega)
  have o_w0 := o_w0.only r15 (by omega) (by omega)
  have f_w0 := f_w0.only r15 (by omega) (by omega)
  have o_g0 := o_g0.only r15 (by omega) (by omega)
  have f_g0 := f_g0.only r15 (by omega) (by omega)
  have kb_x0 := kb_x0.only r15 (by omega)
  have kb_x0x := kb_x0x.only r15 (by omega)
  clear r15
  have q0_kb_x0 := kb_x0.cell 0
  have q1_kb_x0 := kb_x0.cell 1
  have q2_kb_x0 := kb_x0.cell 2
  have q3_kb_x0 := kb_x0.cell 3
  have q4_kb_x0 := kb_x0.cell 4
  have q0_kb_x0x := kb_x0x.cell 0
  have q1_kb_x0x := kb_x0x.cell 1
  have q2_kb_x0x := kb_x0x.cell 2
  have q3_kb_x0x := kb_x0x.cell 3
  have q4_kb_x0x := kb_x0x.cell 4
  simp only [List.getElem?_toArray, List.getElem?_cons_succ, List.getElem?_cons_zero] at q0_kb_x0 q1_kb_x0 q2_kb_x0 q3_kb_x0 q4_kb_x0 q0_kb_x0x q1_kb_x0x q2_kb_x0x q3_kb_x0x q4_kb_x0x
  clear ow_x0x
  have hkp_x0x : ¬ (1 + ((wtPj x0 : Nat) : Int) < 0) := by omega
  go_wp2_with fail
  refine at_world fun w16 hW => ?_
  have rW : Only w15.heap.size w15.heap.size w15 w16 := by rw [hW]; (repeat' (first | exact Only.refl _ _ _ | refine Only.alloc ?_ _))
  have z16 := rW.size
  clear q0_kb_x0 q1_kb_x0 q2_kb_x0 q3_kb_x0 q4_kb_x0 q0_kb_x0x q1_kb_x0x q2_kb_x0x q3_kb_x0x q4_kb_x0x
  have f0_x0 := f0_x0.only rW (by omega) (by omega)
  have f1_x0 := f1_x0.only rW (by omega) (by omega)
  have f2_x0 := f2_x0.only rW (by omega) (by omega)
  have f3_x0 := f3_x0.only rW (by omega) (by omega)
  have o_w0 := o_w0.only rW (by omega) (by omega)
  have f_w0 := f_w0.only rW (by omega) (by omega)
  have o_g0 := o_g0.only rW (by omega) (by omega)
  have f_g0 := f_g0.only rW (by omega) (by omega)
  have kb_x0 := kb_x0.only rW (by omega)
  have kb_x0x := kb_x0x.only rW (by omega)
  have bel := below_only bel rW (by omega) (by omega)
  clear hW rW
  refine (eqIntS_same _ _ (usersM x0 x1) _ _ _ _ _ _ _ _ _ (by have := usersM_len x0 x1; have := szL_len szAc x0.acts; have e : szPj x0 = szL szAc x0.acts + (x0.links.length + (szL szRs x0.res + x0.stocks.length)) := rfl; omega) (by exact f_g0) (by exact f_w0) rfl rfl).mono ?_
  rintro e w17 ⟨rfl, r17⟩
  have r17 := only_qt r17
  have z17 := r17.size
  have bel := below_only bel r17 (by first | exact Nat.le_refl _ | omega) (by omega)
  have f0_x0 := f0_x0.only r17 (by omega) (by omega)
  have f1_x0 := f1_x0.only r17 (by omega) (by omega)
  have f2_x0 := f2_x0.only r17 (by omega) (by omega)
  have f3_x0 := f3_x0.only r17 (by omega) (by omega)
  have o_w0 := o_w0.only r17 (by omega) (by omega)
  have f_w0 := f_w0.only r17 (by omega) (by omega)
  have o_g0 := o_g0.only r17 (by omega) (by omega)
  have f_g0 := f_g0.only r17 (by omega) (by omega)
  have kb_x0 := kb_x0.only r17 (by omega)
  have kb_x0x := kb_x0x.only r17 (by omega)
  clear r17
  have q0_kb_x0 := kb_x0.cell 0
  have q1_kb_x0 := kb_x0.cell 1
  have q2_kb_x0 := kb_x0.cell 2
  have q3_kb_x0 := kb_x0.cell 3
  have q4_kb_x0 := kb_x0.cell 4
  have q0_kb_x0x := kb_x0x.cell 0
  have q1_kb_x0x := kb_x0x.cell 1
  have q2_kb_x0x := kb_x0x.cell 2
  have q3_kb_x0x := kb_x0x.cell 3
  have q4_kb_x0x := kb_x0x.cell 4
  simp only [List.getElem?_toArray, List.getElem?_cons_succ, List.getElem?_cons_zero] at q0_kb_x0 q1_kb_x0 q2_kb_x0 q3_kb_x0 q4_kb_x0 q0_kb_x0x q1_kb_x0x q2_kb_x0x q3_kb_x0x q4_kb_x0x
  clear f_g0
  go_wp2_with fail
  refine at_world fun w18 hW => ?_
  have rW : Only w17.heap.size w17.heap.size w17 w18 := by rw [hW]; (repeat' (first | exact Only.refl _ _ _ | refine Only.alloc ?_ _))
  have z18 := rW.size
  clear q0_kb_x0 q1_kb_x0 q2_kb_x0 q3_kb_x0 q4_kb_x0 q0_kb_x0x q1_kb_x0x q2_kb_x0x q3_kb_x0x q4_kb_x0x
  have f0_x0 := f0_x0.only rW (by omega) (by omega)
  have f1_x0 := f1_x0.only rW (by omega) (by omega)
  have f2_x0 := f2_x0.only rW (by omega) (by omega)
  have f3_x0 := f3_x0.only rW (by omega) (by omega)
  have o_w0 := o_w0.only rW (by omega) (by omega)
  have f_w0 := f_w0.only rW (by omega) (by omega)
  have o_g0 := o_g0.only rW (by omega) (by omega)
  have kb_x0 := kb_x0.only rW (by omega)
  have kb_x0x := kb_x0x.only rW (by omega)
  have bel := below_only bel rW (by omega) (by omega)
  clear hW rW
  refine (markIntS_any _ _ _ _ _ (1) _ _ (by have := usersM_len x0 x1; have := szL_len szAc x0.acts; have e : szPj x0 = szL szAc x0.acts + (x0.links.length + (szL szRs x0.res + x0.stocks.length)) := rfl; omega) (by omega) (by omega) o_g0 (by omega)).mono ?_
  rintro e w19 ⟨rfl, m_g0, r19⟩
  have z19 := r19.size
  have bel := below_only bel r19 (by first | exact Nat.le_refl _ | omega) (by omega)
  have f0_x0 := f0_x0.only r19 (by omega) (by omega)
  have f1_x0 := f1_x0.only r19 (by omega) (by omega)
  have f2_x0 := f2_x0.only r19 (by omega) (by omega)
  have f3_x0 := f3_x0.only r19 (by omega) (by omega)
  have o_w0 := o_w0.only r19 (by omega) (by omega)
  have f_w0 := f_w0.only r19 (by omega) (by omega)
  have kb_x0 := kb_x0.only r19 (by omega)
  have kb_x0x := kb_x0x.only r19 (by omega)
  clear r19
  have q0_kb_x0 := kb_x0.cell 0
  have q1_kb_x0 := kb_x0.cell 1
  have q2_kb_x0 := kb_x0.cell 2
  have q3_kb_x0 := kb_x0.cell 3
  have q4_kb_x0 := kb_x0.cell 4
  have q0_kb_x0x := kb_x0x.cell 0
  have q1_kb_x0x := kb_x0x.cell 1
  have q2_kb_x0x := kb_x0x.cell 2
  have q3_kb_x0x := kb_x0x.cell 3
  have q4_kb_x0x := kb_x0x.cell 4
  simp only [List.getElem?_toArray, List.getElem?_cons_succ, List.getElem?_cons_zero] at q0_kb_x0 q1_kb_x0 q2_kb_x0 q3_kb_x0 q4_kb_x0 q0_kb_x0x q1_kb_x0x q2_kb_x0x q3_kb_x0x q4_kb_x0x
  clear o_g0
  have f_g0 := m_g0.rdI
  clear m_g0
  go_wp2_with fail
  refine at_world fun w20 hW => ?_
  have rW : Only w19.heap.size w19.heap.size w19 w20 := by rw [hW]; (repeat' (first | exact Only.refl _ _ _ | refine Only.alloc ?_ _))
  have z20 := rW.size
  clear q0_kb_x0 q1_kb_x0 q2_kb_x0 q3_kb_x0 q4_kb_x0 q0_kb_x0x q1_kb_x0x q2_kb_x0x q3_kb_x0x q4_kb_x0x
  have f0_x0 := f0_x0.only rW (by omega) (by omega)
  have f1_x0 := f1_x0.only rW (by omega) (by omega)
  have f2_x0 := f2_x0.only rW (by omega) (by omega)
  have f3_x0 := f3_x0.only rW (by omega) (by omega)
  have o_w0 := o_w0.only rW (by omega) (by omega)
  have f_w0 := f_w0.only rW (by omega) (by omega)
  have f_g0 := f_g0.only rW (by omega) (by omega)
  have kb_x0 := kb_x0.only rW (by omega)
  have kb_x0x := kb_x0x.only rW (by omega)
  have bel := below_only bel rW (by omega) (by omega)
  clear hW rW
  refine (heldIntS_any _ _ _ _ _ (1) _ (by have := usersM_len x0 x1; have := szL_len szAc x0.acts; have e : szPj x0 = szL szAc x0.acts + (x0.links.length + (szL szRs x0.res + x0.stocks.length)) := rfl; omega) (by omega) (by omega) (by exact f_g0)).mono ?_
  rintro e w21 ⟨rfl, r21⟩
  have r21 := only_qt r21
  have z21 := r21.size
  have bel := below_only bel r21 (by first | exact Nat.le_refl _ | omega) (by omega)
  have f0_x0 := f0_x0.only r21 (by omega) (by omega)
  have f1_x0 := f1_x0.only r21 (by omega) (by omega)
  have f2_x0 := f2_x0.only r21 (by omega) (by omega)
  have f3_x0 := f3_x0.only r21 (by omega) (by omega)
  have o_w0 := o_w0.only r21 (by omega) (by omega)
  have f_w0 := f_w0.only r21 (by omega) (by omega)
  have f_g0 := f_g0.only r21 (by omega) (by omega)
  have kb_x0 := kb_x0.only r21 (by omega)
  have kb_x0x := kb_x0x.only r21 (by omega)
  clear r21
  have q0_kb_x0 := kb_x0.cell 0
  have q1_kb_x0 := kb_x0.cell 1
  have q2_kb_x0 := kb_x0.cell 2
  have q3_kb_x0 := kb_x0.cell 3
  have q4_kb_x0 := kb_x0.cell 4
  have q0_kb_x0x := kb_x0x.cell 0
  have q1_kb_x0x := kb_x0x.cell 1
  have q2_kb_x0x := kb_x0x.cell 2
  have q3_kb_x0x := kb_x0x.cell 3
  have q4_kb_x0x := kb_x0x.cell 4
  simp only [List.getElem?_toArray, List.getElem?_cons_succ, List.getElem?_cons_zero] at q0_kb_x0 q1_kb_x0 q2_kb_x0 q3_kb_x0 q4_kb_x0 q0_kb_x0x q1_kb_x0x q2_kb_x0x q3_kb_x0x q4_kb_x0x
  go_wp2_with fail
  refine at_world fun w22 hW => ?_
  have rW : Only w21.heap.size w21.heap.size w21 w22 := by rw [hW]; (repeat' (first | exact Only.refl _ _ _ | refine Only.alloc ?_ _))
  have z22 := rW.size
  clear q0_kb_x0 q1_kb_x0 q2_kb_x0 q3_kb_x0 q4_kb_x0 q0_kb_x0x q1_kb_x0x q2_kb_x0x q3_kb_x0x q4_kb_x0x
  have f0_x0 := f0_x0.only rW (by omega) (by omega)
  have f1_x0 := f1_x0.only rW (by omega) (by omega)
  have f2_x0 := f2_x0.only rW (by omega) (by omega)
  have f3_x0 := f3_x0.only rW (by omega) (by omega)
  have o_w0 := o_w0.only rW (by omega) (by omega)
  have f_w0 := f_w0.only rW (by omega) (by omega)
  have f_g0 := f_g0.only rW (by omega) (by omega)
  have kb_x0 := kb_x0.only rW (by omega)
  have kb_x0x := kb_x0x.only rW (by omega)
  have bel := below_only bel rW (by omega) (by omega)
  clear hW rW
  refine (toProject_any x0 _ _ _ _ _ _ _ _ 0 w.heap.size _ (by omega) (by exact f0_x0) (by exact f1_x0) (by exact f2_x0) (by exact f3_x0) (by omega)).mono ?_
  rintro e w23 ⟨A0_x0h, c0_x0h, A1_x0h, c1_x0h, A2_x0h, c2_x0h, A3_x0h, c3_x0h, rfl, v_x0h, r23⟩
  have r23 := only_below r23
  have z23 := r23.size
  have bel := below_only bel r23 (by first | exact Nat.le_refl _ | omega) (by omega)
  have f0_x0 := f0_x0.only r23 (by omega) (by omega)
  have f1_x0 := f1_x0.only r23 (by omega) (by omega)
  have f2_x0 := f2_x0.only r23 (by omega) (by omega)
  have f3_x0 := f3_x0.only r23 (by omega) (by omega)
  have o_w0 := o_w0.only r23 (by omega) (by omega)
  have f_w0 := f_w0.only r23 (by omega) (by omega)
  have f_g0 := f_g0.only r23 (by omega) (by omega)
  have kb_x0 := kb_x0.only r23 (by omega)
  have kb_x0x := kb_x0x.only r23 (by omega)
  clear r23
  have q0_kb_x0 := kb_x0.cell 0
  have q1_kb_x0 := kb_x0.cell 1
  have q2_kb_x0 := kb_x0.cell 2
  have q3_kb_x0 := kb_x0.cell 3
  have q4_kb_x0 := kb_x0.cell 4
  have q0_kb_x0x := kb_x0x.cell 0
  have q1_kb_x0x := kb_x0x.cell 1
  have q2_kb_x0x := kb_x0x.cell 2
  have q3_kb_x0x := kb_x0x.cell 3
  have q4_kb_x0x := kb_x0x.cell 4
  simp only [List.getElem?_toArray, List.getElem?_cons_succ, List.getElem?_cons_zero] at q0_kb_x0 q1_kb_x0 q2_kb_x0 q3_kb_x0 q4_kb_x0 q0_kb_x0x q1_kb_x0x q2_kb_x0x q3_kb_x0x q4_kb_x0x
  obtain ⟨f0_x0h, f1_x0h, f2_x0h, f3_x0h⟩ := ownProject_parts v_x0h
  clear v_x0h
  go_wp2_with fail
  refine at_world fun w24 hW => ?_
  have rW : Only w23.heap.size w23.heap.size w23 w24 := by rw [hW]; (repeat' (first | exact Only.refl _ _ _ | refine Only.alloc ?_ _))
  have z24 := rW.size
  clear q0_kb_x0 q1_kb_x0 q2_kb_x0 q3_kb_x0 q4_kb_x0 q0_kb_x0x q1_kb_x0x q2_kb_x0x q3_kb_x0x q4_kb_x0x
  have f0_x0 := f0_x0.only rW (by omega) (by omega)
  have f1_x0 := f1_x0.only rW (by omega) (by omega)
  have f2_x0 := f2_x0.only rW (by omega) (by omega)
  have f3_x0 := f3_x0.only rW (by omega) (by omega)
  have o_w0 := o_w0.only rW (by omega) (by omega)
  have f_w0 := f_w0.only rW (by omega) (by omega)
  have f_g0 := f_g0.only rW (by omega) (by omega)
  have f0_x0h := f0_x0h.only rW (by omega) (by omega)
  have f1_x0h := f1_x0h.only rW (by omega) (by omega)
  have f2_x0h := f2_x0h.only rW (by omega) (by omega)
  have f3_x0h := f3_x0h.only rW (by omega) (by omega)
  have kb_x0 := kb_x0.only rW (by omega)
  have kb_x0x := kb_x0x.only rW (by omega)
  have bel := below_only bel rW (by omega) (by omega)
  clear hW rW
  refine (implUsers_any x0 x1 _ _ _ _ _ _ _ _ _ _ _ (by omega) (by exact f0_x0h) (by exact f1_x0h) (by exact f2_x0h) (by exact f3_x0h) (by omega)).mono ?_
  rintro e w25 ⟨A_h0, c_h0, rfl, o_h0, r25⟩
  have r25 := only_below r25
  have z25 := r25.size
  have bel := below_only bel r25 (by first | exact Nat.le_refl _ | omega) (by omega)
  have f0_x0 := f0_x0.only r25 (by omega) (by omega)
  have f1_x0 := f1_x0.only r25 (by omega) (by omega)
  have f2_x0 := f2_x0.only r25 (by omega) (by omega)
  have f3_x0 := f3_x0.only r25 (by omega) (by omega)
  have o_w0 := o_w0.only r25 (by omega) (by omega)
  have f_w0 := f_w0.only r25 (by omega) (by omega)
  have f_g0 := f_g0.only r25 (by omega) (by omega)
  have f0_x0h := f0_x0h.only r25 (by omega) (by omega)
  have f1_x0h := f1_x0h.only r25 (by omega) (by omega)
  have f2_x0h := f2_x0h.only r25 (by omega) (by omega)
  have f3_x0h := f3_x0h.only r25 (by omega) (by omega)
  have kb_x0 := kb_x0.only r25 (by omega)
  have kb_x0x := kb_x0x.only r25 (by omega)
  clear r25
  have q0_kb_x0 := kb_x0.cell 0
  have q1_kb_x0 := kb_x0.cell 1
  have q2_kb_x0 := kb_x0.cell 2
  have q3_kb_x0 := kb_x0.cell 3
  have q4_kb_x0 := kb_x0.cell 4
  have q0_kb_x0x := kb_x0x.cell 0
  have q1_kb_x0x := kb_x0x.cell 1
  have q2_kb_x0x := kb_x0x.cell 2
  have q3_kb_x0x := kb_x0x.cell 3
  have q4_kb_x0x := kb_x0x.cell 4
  simp only [List.getElem?_toArray, List.getElem?_cons_succ, List.getElem?_cons_zero] at q0_kb_x0 q1_kb_x0 q2_kb_x0 q3_kb_x0 q4_kb_x0 q0_kb_x0x q1_kb_x0x q2_kb_x0x q3_kb_x0x q4_kb_x0x
  have f_h0 := o_h0.rdI
  go_wp2_with fail
  refine at_world fun w26 hW => ?_
  have rW : Only w25.heap.size w25.heap.size w25 w26 := by rw [hW]; (repeat' (first | exact Only.refl _ _ _ | refine Only.alloc ?_ _))
  have z26 := rW.size
  clear q0_kb_x0 q1_kb_x0 q2_kb_x0 q3_kb_x0 q4_kb_x0 q0_kb_x0x q1_kb_x0x q2_kb_x0x q3_kb_x0x q4_kb_x0x
  have f0_x0 := f0_x0.only rW (by omega) (by omega)
  have f1_x0 := f1_x0.only rW (by omega) (by omega)
  have f2_x0 := f2_x0.only rW (by omega) (by omega)
  have f3_x0 := f3_x0.only rW (by omega) (by omega)
  have o_w0 := o_w0.only rW (by omega) (by omega)
  have f_w0 := f_w0.only rW (by omega) (by omega)
  have f_g0 := f_g0.only rW (by omega) (by omega)
  have f0_x0h := f0_x0h.only rW (by omega) (by omega)
  have f1_x0h := f1_x0h.only rW (by omega) (by omega)
  have f2_x0h := f2_x0h.only rW (by omega) (by omega)
  have f3_x0h := f3_x0h.only rW (by omega) (by omega)
  have o_h0 := o_h0.only rW (by omega) (by omega)
  have f_h0 := f_h0.only rW (by omega) (by omega)
  have kb_x0 := kb_x0.only rW (by omega)
  have kb_x0x := kb_x0x.only rW (by omega)
  have bel := below_only bel rW (by omega) (by omega)
  clear hW rW
  refine (eqIntS_same _ _ (usersM x0 x1) _ _ _ _ _ _ _ _ _ (by have := usersM_len x0 x1; have := szL_len szAc x0.acts; have e : szPj x0 = szL szAc x0.acts + (x0.links.length + (szL szRs x0.res + x0.stocks.length)) := rfl; omega) (by exact f_h0) (by exact f_w0) rfl rfl).mono ?_
  rintro e w27 ⟨rfl, r27⟩
  have r27 := only_qt r27
  have z27 := r27.size
  have bel := below_only bel r27 (by first | exact Nat.le_refl _ | omega) (by omega)
  have f0_x0 := f0_x0.only r27 (by omega) (by omega)
  have f1_x0 := f1_x0.only r27 (by omega) (by omega)
  have f2_x0 := f2_x0.only r27 (by omega) (by omega)
  have f3_x0 := f3_x0.only r27 (by omega) (by omega)
  have o_w0 := o_w0.only r27 (by omega) (by omega)
  have f_w0 := f_w0.only r27 (by omega) (by omega)
  have f_g0 := f_g0.only r27 (by omega) (by omega)
  have f0_x0h := f0_x0h.only r27 (by omega) (by omega)
  have f1_x0h := f1_x0h.only r27 (by omega) (by omega)
  have f2_x0h := f2_x0h.only r27 (by omega) (by omega)
  have f3_x0h := f3_x0h.only r27 (by omega) (by omega)
  have o_h0 := o_h0.only r27 (by omega) (by omega)
  have f_h0 := f_h0.only r27 (by omega) (by omega)
  have kb_x0 := kb_x0.only r27 (by omega)
  have kb_x0x := kb_x0x.only r27 (by omega)
  clear r27
  have q0_kb_x0 := kb_x0.cell 0
  have q1_kb_x0 := kb_x0.cell 1
  have q2_kb_x0 := kb_x0.cell 2
  have q3_kb_x0 := kb_x0.cell 3
  have q4_kb_x0 := kb_x0.cell 4
  have q0_kb_x0x := kb_x0x.cell 0
  have q1_kb_x0x := kb_x0x.cell 1
  have q2_kb_x0x := kb_x0x.cell 2
  have q3_kb_x0x := kb_x0x.cell 3
  have q4_kb_x0x := kb_x0x.cell 4
  simp only [List.getElem?_toArray, List.getElem?_cons_succ, List.getElem?_cons_zero] at q0_kb_x0 q1_kb_x0 q2_kb_x0 q3_kb_x0 q4_kb_x0 q0_kb_x0x q1_kb_x0x q2_kb_x0x q3_kb_x0x q4_kb_x0x
  go_wp2_with fail
  refine at_world fun w28 hW => ?_
  have rW : Only w27.heap.size w27.heap.size w27 w28 := by rw [hW]; (repeat' (first | exact Only.refl _ _ _ | refine Only.alloc ?_ _))
  have z28 := rW.size
  clear q0_kb_x0 q1_kb_x0 q2_kb_x0 q3_kb_x0 q4_kb_x0 q0_kb_x0x q1_kb_x0x q2_kb_x0x q3_kb_x0x q4_kb_x0x
  have f0_x0 := f0_x0.only rW (by omega) (by omega)
  have f1_x0 := f1_x0.only rW (by omega) (by omega)
  have f2_x0 := f2_x0.only rW (by omega) (by omega)
  have f3_x0 := f3_x0.only rW (by omega) (by omega)
  have o_w0 := o_w0.only rW (by omega) (by omega)
  have f_w0 := f_w0.only rW (by omega) (by omega)
  have f_g0 := f_g0.only rW (by omega) (by omega)
  have f0_x0h := f0_x0h.only rW (by omega) (by omega)
  have f1_x0h := f1_x0h.only rW (by omega) (by omega)
  have f2_x0h := f2_x0h.only rW (by omega) (by omega)
  have f3_x0h := f3_x0h.only rW (by omega) (by omega)
  have o_h0 := o_h0.only rW (by omega) (by omega)
  have f_h0 := f_h0.only rW (by omega) (by omega)
  have kb_x0 := kb_x0.only rW (by omega)
  have kb_x0x := kb_x0x.only rW (by omega)
  have bel := below_only bel rW (by omega) (by omega)
  clear hW rW
  refine (heldIntS_any _ _ _ _ _ (1) _ (by have := usersM_len x0 x1; have := szL_len szAc x0.acts; have e : szPj x0 = szL szAc x0.acts + (x0.links.length + (szL szRs x0.res + x0.stocks.length)) := rfl; omega) (by omega) (by omega) (by exact f_g0)).mono ?_
  rintro e w29 ⟨rfl, r29⟩
  have r29 := only_qt r29
  have z29 := r29.size
  have bel := below_only bel r29 (by first | exact Nat.le_refl _ | omega) (by omega)
  have f0_x0 := f0_x0.only r29 (by omega) (by omega)
  have f1_x0 := f1_x0.only r29 (by omega) (by omega)
  have f2_x0 := f2_x0.only r29 (by omega) (by omega)
  have f3_x0 := f3_x0.only r29 (by omega) (by omega)
  have o_w0 := o_w0.only r29 (by omega) (by omega)
  have f_w0 := f_w0.only r29 (by omega) (by omega)
  have f_g0 := f_g0.only r29 (by omega) (by omega)
  have f0_x0h := f0_x0h.only r29 (by omega) (by omega)
  have f1_x0h := f1_x0h.only r29 (by omega) (by omega)
  have f2_x0h := f2_x0h.only r29 (by omega) (by omega)
  have f3_x0h := f3_x0h.only r29 (by omega) (by omega)
  have o_h0 := o_h0.only r29 (by omega) (by omega)
  have f_h0 := f_h0.only r29 (by omega) (by omega)
  have kb_x0 := kb_x0.only r29 (by omega)
  have kb_x0x := kb_x0x.only r29 (by omega)
  clear r29
  have q0_kb_x0 := kb_x0.cell 0
  have q1_kb_x0 := kb_x0.cell 1
  have q2_kb_x0 := kb_x0.cell 2
  have q3_kb_x0 := kb_x0.cell 3
  have q4_kb_x0 := kb_x0.cell 4
  have q0_kb_x0x := kb_x0x.cell 0
  have q1_kb_x0x := kb_x0x.cell 1
  have q2_kb_x0x := kb_x0x.cell 2
  have q3_kb_x0x := kb_x0x.cell 3
  have q4_kb_x0x := kb_x0x.cell 4
  simp only [List.getElem?_toArray, List.getElem?_cons_succ, List.getElem?_cons_zero] at q0_kb_x0 q1_kb_x0 q2_kb_x0 q3_kb_x0 q4_kb_x0 q0_kb_x0x q1_kb_x0x q2_kb_x0x q3_kb_x0x q4_kb_x0x
  go_wp2
  go_ret
  exact ⟨rfl, bel⟩

set_option maxRecDepth 100000 in
theorem lifted (os : Os) (started : os.Started) (H : Type) (enc : TypeId × Value → H) :
    ReturnsInHanded {} Try.checked os 4 .any (Rows.fnExactUsersSpec.pre6 enc Try.prog Try.f4 Rows.fnExactUsersRow.domain false) (Rows.fnExactUsersSpec.post enc Try.prog Try.f4 false true false false) := by
  refine returnsInHanded_of_change (C := Try.checked) own started (by kernel_rfl) Try.func4
    (ChangeSpec.witness6 (enc := enc) (C := Try.checked) false ⟨#[], #[.agg #[.int .i64 0, .slice none 0 0, .slice none 0 0, .slice none 0 0, .slice none 0 0], .int .i64 0], []⟩ 8 (by kernel_rfl) (by kernel_rfl) (by kernel_rfl) (by kernel_rfl)) ?_
  intro W base args ds gs before hval0 hW hcnd _
  have hval : ∀ (j : Nat) t v, Try.f4.params[j]? = some t → args[j]? = some v → Value.okWide Try.prog W .any base t v := hval0
  have hW' := hW
  obtain ⟨p, q, hA0, hV, rfl, hfz, hnd⟩ := hW
  have hA : DataW.TrodAll enc Try.prog W 0 (fun _ => true) true Try.f4.params.toList args.toList ds p := hA0
  rw [Try.params4] at hA hval
  obtain ⟨v0, vs0, d0, ds0, p0, q0, hargs, rfl, rfl, h0, r0⟩ := trodAll_cons hA
  obtain ⟨v1, vs1, d1, ds1, p1, q1, rfl, rfl, rfl, h1, r1⟩ := trodAll_cons r0
  obtain ⟨rfl, rfl, rfl⟩ := trodAll_nil r1
  obtain rfl : args = #[v0, v1] := by cases args; simp_all
  obtain ⟨rfl, rfl⟩ := trodVars_none hV
  have k0 := h0
  have lt0 : ∀ x ∈ p0, x.block < W.heap.size := by obtain ⟨m, hm⟩ := k0; exact DataW.trod_lt m _ _ _ hm
  obtain ⟨A0_0, A1_0, A2_0, A3_0, x0, c0_0, c1_0, c2_0, c3_0, rfl, m0_0, m1_0, m2_0, m3_0, i0⟩ := open_project Try.tyProject (hval 0 27 v0 rfl rfl) h0
  obtain ⟨x1, rfl, rfl, rfl, i1⟩ := open_int Try.underlying3 (hval 1 3 v1 rfl rfl) h1
  clear hA0 hval0
  refine (walk A0_0 A1_0 A2_0 A3_0 x0 c0_0 c1_0 c2_0 c3_0 x1 W m0_0 m1_0 m2_0 m3_0 i0 i1).mono fun e W' ⟨he, bel⟩ => ?_
  subst he
  exact ⟨_, rfl, _, _, _, [], _, [], hW', trodAll_mk1 (shut_bool Try.underlying4 _), (trodAll_cons_mk (Below.trod laidOut (by kernel_rfl) (of_decide_eq_true (by kernel_rfl)) k0 bel lt0) (trodAll_cons_mk (shut_int Try.underlying3 i1) trodAll_mk0)), rfl, bel.frame _, fun h => by cases h⟩
theorem over : Rows.fnExactUsersRow.holds Try.pinned (OpenSpec.ofChange Rows.fnExactUsersSpec) :=
  OpenClaim.holds_of_wide 4 Try.f4 rfl rfl rfl rfl rfl rfl rfl ⟨rfl, rfl, rfl, rfl, rfl⟩ rfl rfl rfl rfl rfl (by kernel_rfl) Try.func4 (by kernel_rfl)
    (of_decide_eq_true (by kernel_rfl)) (by unfold Func.isWrapper; first | (rw [if_pos (by decide +kernel)]; kernel_rfl) | (rw [if_neg (by decide +kernel)]; exact ⟨rfl, rfl⟩))
    (fun os started H enc _ => lifted os started H enc)
theorem proved : Rows.FnExactUsersSaid := over
end Go.Proofs.Ytebfijjcmmlbjaa.fnExactUsers
