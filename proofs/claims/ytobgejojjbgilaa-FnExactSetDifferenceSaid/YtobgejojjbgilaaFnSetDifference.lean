/- For every input the law FnExactSetDifference returns true and its arguments read as before. No condition. -/
import Derived.Test.YtobgejojjbgilaaRows
import Derived.Test.YtobgejojjbgilaaOpen
import Derived.Test.YtobgejojjbgilaaLaw
import Derived.Test.YtobgejojjbgilaaSets
import Derived.Test.YtobgejojjbgilaaSetOf
import Derived.Deep.RegionHeld3
namespace Go.Proofs.Ytobgejojjbgilaa.fnExactSetDifference
open Go.ChangeShapes Go.WideShapes Go.ChangeAt Go.RowKit
open Go.ChangeMaps (open_string shut_string)
set_option linter.unusedVariables false

theorem own : ownKnob Try.prog.godebug = none := by kernel_rfl
theorem laidOut : laidOutB Try.prog = true := by kernel_rfl

set_option maxHeartbeats 1600000 in
theorem walk (A_x0 : Option Addr) (x0 : List Int) (c_x0 : Nat) (A_x1 : Option Addr) (x1 : List Int) (c_x1 : Nat) (w : World) (f_x0 : RdI w 0 w.heap.size A_x0 x0) (i_x0 : I64s x0) (f_x1 : RdI w 0 w.heap.size A_x1 x1) (i_x1 : I64s x1) :
    Calls Try.prog 6 #[.slice A_x0 x0.length c_x0, .slice A_x1 x1.length c_x1] w fun e w' => e = .returned (.bool true) ∧ Below w.heap.size w w' := by
  by_cases g_x0 : x0.length ≤ 1048576
  case neg =>
    go_enter Try.func6, Try.ntmps6
    go_wp2
    go_ret
    exact ⟨rfl, by repeat' (first | exact Below.refl _ _ | refine Below.alloc ?_ (by simp) _)⟩
  by_cases g_x1 : x1.length ≤ 1048576
  case neg =>
    go_enter Try.func6, Try.ntmps6
    go_wp2
    go_ret
    exact ⟨rfl, by repeat' (first | exact Below.refl _ _ | refine Below.alloc ?_ (by simp) _)⟩
  have bel := Below.refl w.heap.size w
  go_enter Try.func6, Try.ntmps6
  go_wp2_with fail
  refine (toIntS_any _ _ _ 0 w.heap.size _ (by omega) (by exact f_x0) (by omega)).mono ?_
  rintro e w1 ⟨A_x0s, c_x0s, rfl, o_x0s, r1⟩
  have r1 := only_below r1
  have z1 := r1.size
  have bel := below_only bel r1 (by first | exact Nat.le_refl _ | omega) (by omega)
  have f_x0 := f_x0.only r1 (by omega) (by omega)
  have f_x1 := f_x1.only r1 (by omega) (by omega)
  clear r1
  have f_x0s := o_x0s.rdI
  go_wp2_with fail
  refine (toIntS_any _ _ _ 0 w.heap.size _ (by omega) (by exact f_x1) (by omega)).mono ?_
  rintro e w2 ⟨A_x1s, c_x1s, rfl, o_x1s, r2⟩
  have r2 := only_below r2
  have z2 := r2.size
  have bel := below_only bel r2 (by first | exact Nat.le_refl _ | omega) (by omega)
  have f_x0 := f_x0.only r2 (by omega) (by omega)
  have f_x1 := f_x1.only r2 (by omega) (by omega)
  have o_x0s := o_x0s.only r2 (by omega) (by omega)
  have f_x0s := f_x0s.only r2 (by omega) (by omega)
  clear r2
  have f_x1s := o_x1s.rdI
  go_wp2_with fail
  refine (specSetDifference_any _ _ x0 x1 _ _ _ _ _ _ _ (by omega) (by omega) (by exact f_x0s) (by exact f_x1s) (by omega) (by omega)).mono ?_
  rintro e w3 ⟨A_w0, c_w0, rfl, o_w0, r3⟩
  have r3 := only_below r3
  have z3 := r3.size
  have bel := below_only bel r3 (by first | exact Nat.le_refl _ | omega) (by omega)
  have f_x0 := f_x0.only r3 (by omega) (by omega)
  have f_x1 := f_x1.only r3 (by omega) (by omega)
  have o_x0s := o_x0s.only r3 (by omega) (by omega)
  have f_x0s := f_x0s.only r3 (by omega) (by omega)
  have o_x1s := o_x1s.only r3 (by omega) (by omega)
  have f_x1s := f_x1s.only r3 (by omega) (by omega)
  clear r3
  have f_w0 := o_w0.rdI
  clear f_x0s
  clear o_x0s
  clear f_x1s
  clear o_x1s
  go_wp2_with fail
  refine (toIntS_any _ _ _ 0 w.heap.size _ (by omega) (by exact f_x0) (by omega)).mono ?_
  rintro e w4 ⟨A_x0x, c_x0x, rfl, o_x0x, r4⟩
  have r4 := only_below r4
  have z4 := r4.size
  have bel := below_only bel r4 (by first | exact Nat.le_refl _ | omega) (by omega)
  have f_x0 := f_x0.only r4 (by omega) (by omega)
  have f_x1 := f_x1.only r4 (by omega) (by omega)
  have o_w0 := o_w0.only r4 (by omega) (by omega)
  have f_w0 := f_w0.only r4 (by omega) (by omega)
  clear r4
  have f_x0x := o_x0x.rdI
  go_wp2_with fail
  refine (toIntS_any _ _ _ 0 w.heap.size _ (by omega) (by exact f_x1) (by omega)).mono ?_
  rintro e w5 ⟨A_x1x, c_x1x, rfl, o_x1x, r5⟩
  have r5 := only_below r5
  have z5 := r5.size
  have bel := below_only bel r5 (by first | exact Nat.le_refl _ | omega) (by omega)
  have f_x0 := f_x0.only r5 (by omega) (by omega)
  have f_x1 := f_x1.only r5 (by omega) (by omega)
  have o_w0 := o_w0.only r5 (by omega) (by omega)
  have f_w0 := f_w0.only r5 (by omega) (by omega)
  have o_x0x := o_x0x.only r5 (by omega) (by omega)
  have f_x0x := f_x0x.only r5 (by omega) (by omega)
  clear r5
  have f_x1x := o_x1x.rdI
  go_wp2_with fail
  refine (implSetDifference_any _ _ x0 x1 _ _ _ _ _ _ _ (by omega) (by omega) (by exact f_x0x) (by exact f_x1x) (by omega) (by omega)).mono ?_
  rintro e w6 ⟨A_g0, c_g0, rfl, o_g0, r6⟩
  have r6 := only_below r6
  have z6 := r6.size
  have bel := below_only bel r6 (by first | exact Nat.le_refl _ | omega) (by omega)
  have f_x0 := f_x0.only r6 (by omega) (by omega)
  have f_x1 := f_x1.only r6 (by omega) (by omega)
  have o_w0 := o_w0.only r6 (by omega) (by omega)
  have f_w0 := f_w0.only r6 (by omega) (by omega)
  have o_x0x := o_x0x.only r6 (by omega) (by omega)
  have f_x0x := f_x0x.only r6 (by omega) (by omega)
  have o_x1x := o_x1x.only r6 (by omega) (by omega)
  have f_x1x := f_x1x.only r6 (by omega) (by omega)
  clear r6
  have f_g0 := o_g0.rdI
  go_wp2_with fail
  refine (eqIntS_same _ _ (setOf (keepI (notB x1) x0)) _ _ _ _ _ _ _ _ _ (by have := setOf_len (keepI (notB x1) x0); have := List.length_filter_le (notB x1) x0; unfold keepI at *; omega) (by exact f_g0) (by exact f_w0) rfl rfl).mono ?_
  rintro e w7 ⟨rfl, r7⟩
  have r7 := only_qt r7
  have z7 := r7.size
  have bel := below_only bel r7 (by first | exact Nat.le_refl _ | omega) (by omega)
  have f_x0 := f_x0.only r7 (by omega) (by omega)
  have f_x1 := f_x1.only r7 (by omega) (by omega)
  have o_w0 := o_w0.only r7 (by omega) (by omega)
  have f_w0 := f_w0.only r7 (by omega) (by omega)
  have o_x0x := o_x0x.only r7 (by omega) (by omega)
  have f_x0x := f_x0x.only r7 (by omega) (by omega)
  have o_x1x := o_x1x.only r7 (by omega) (by omega)
  have f_x1x := f_x1x.only r7 (by omega) (by omega)
  have o_g0 := o_g0.only r7 (by omega) (by omega)
  have f_g0 := f_g0.only r7 (by omega) (by omega)
  clear r7
  go_wp2_with fail
  refine (toIntS_any _ _ _ 0 w.heap.size _ (by omega) (by exact f_x0) (by omega)).mono ?_
  rintro e w8 ⟨A_x0t, c_x0t, rfl, o_x0t, r8⟩
  have r8 := only_below r8
  have z8 := r8.size
  have bel := below_only bel r8 (by first | exact Nat.le_refl _ | omega) (by omega)
  have f_x0 := f_x0.only r8 (by omega) (by omega)
  have f_x1 := f_x1.only r8 (by omega) (by omega)
  have o_w0 := o_w0.only r8 (by omega) (by omega)
  have f_w0 := f_w0.only r8 (by omega) (by omega)
  have o_x0x := o_x0x.only r8 (by omega) (by omega)
  have f_x0x := f_x0x.only r8 (by omega) (by omega)
  have o_x1x := o_x1x.only r8 (by omega) (by omega)
  have f_x1x := f_x1x.only r8 (by omega) (by omega)
  have o_g0 := o_g0.only r8 (by omega) (by omega)
  have f_g0 := f_g0.only r8 (by omega) (by omega)
  clear r8
  have f_x0t := o_x0t.rdI
  go_wp2_with fail
  refine (eqIntS_same _ _ (x0) _ _ _ _ _ _ _ _ _ (by omega) (by exact f_x0x) (by exact f_x0t) rfl rfl).mono ?_
  rintro e w9 ⟨rfl, r9⟩
  have r9 := only_qt r9
  have z9 := r9.size
  have bel := below_only bel r9 (by first | exact Nat.le_refl _ | omega) (by omega)
  have f_x0 := f_x0.only r9 (by omega) (by omega)
  have f_x1 := f_x1.only r9 (by omega) (by omega)
  have o_w0 := o_w0.only r9 (by omega) (by omega)
  have f_w0 := f_w0.only r9 (by omega) (by omega)
  have o_x0x := o_x0x.only r9 (by omega) (by omega)
  have f_x0x := f_x0x.only r9 (by omega) (by omega)
  have o_x1x := o_x1x.only r9 (by omega) (by omega)
  have f_x1x := f_x1x.only r9 (by omega) (by omega)
  have o_g0 := o_g0.only r9 (by omega) (by omega)
  have f_g0 := f_g0.only r9 (by omega) (by omega)
  have o_x0t := o_x0t.only r9 (by omega) (by omega)
  have f_x0t := f_x0t.only r9 (by omega) (by omega)
  clear r9
  clear f_x0t
  clear o_x0t
  go_wp2_with fail
  refine (toIntS_any _ _ _ 0 w.heap.size _ (by omega) (by exact f_x1) (by omega)).mono ?_
  rintro e w10 ⟨A_x1t, c_x1t, rfl, o_x1t, r10⟩
  have r10 := only_below r10
  have z10 := r10.size
  have bel := below_only bel r10 (by first | exact Nat.le_refl _ | omega) (by omega)
  have f_x0 := f_x0.only r10 (by omega) (by omega)
  have f_x1 := f_x1.only r10 (by omega) (by omega)
  have o_w0 := o_w0.only r10 (by omega) (by omega)
  have f_w0 := f_w0.only r10 (by omega) (by omega)
  have o_x0x := o_x0x.only r10 (by omega) (by omega)
  have f_x0x := f_x0x.only r10 (by omega) (by omega)
  have o_x1x := o_x1x.only r10 (by omega) (by omega)
  have f_x1x := f_x1x.only r10 (by omega) (by omega)
  have o_g0 := o_g0.only r10 (by omega) (by omega)
  have f_g0 := f_g0.only r10 (by omega) (by omega)
  clear r10
  have f_x1t := o_x1t.rdI
  go_wp2_with fail
  refine (eqIntS_same _ _ (x1) _ _ _ _ _ _ _ _ _ (by omega) (by exact f_x1x) (by exact f_x1t) rfl rfl).mono ?_
  rintro e w11 ⟨rfl, r11⟩
  have r11 := only_qt r11
  have z11 := r11.size
  have bel := below_only bel r11 (by first | exact Nat.le_refl _ | omega) (by omega)
  have f_x0 := f_x0.only r11 (by omega) (by omega)
  have f_x1 := f_x1.only r11 (by omega) (by omega)
  have o_w0 := o_w0.only r11 (by omega) (by omega)
  have f_w0 := f_w0.only r11 (by omega) (by omega)
  have o_x0x := o_x0x.only r11 (by omega) (by omega)
  have f_x0x := f_x0x.only r11 (by omega) (by omega)
  have o_x1x := o_x1x.only r11 (by omega) (by omega)
  have f_x1x := f_x1x.only r11 (by omega) (by omega)
  have o_g0 := o_g0.only r11 (by omega) (by omega)
  have f_g0 := f_g0.only r11 (by omega) (by omega)
  have o_x1t := o_x1t.only r11 (by omega) (by omega)
  have f_x1t := f_x1t.only r11 (by omega) (by omega)
  clear r11
  clear f_x1t
  clear o_x1t
  clear f_x0x
  go_wp2_with fail
  refine (markIntS_any _ _ _ _ _ (1) _ _ (by omega) (by omega) (by omega) o_x0x (by omega)).mono ?_
  rintro e w12 ⟨rfl, m_x0x, r12⟩
  have z12 := r12.size
  have bel := below_only bel r12 (by first | exact Nat.le_refl _ | omega) (by omega)
  have f_x0 := f_x0.only r12 (by omega) (by omega)
  have f_x1 := f_x1.only r12 (by omega) (by omega)
  have o_w0 := o_w0.only r12 (by omega) (by omega)
  have f_w0 := f_w0.only r12 (by omega) (by omega)
  have o_x1x := o_x1x.only r12 (by omega) (by omega)
  have f_x1x := f_x1x.only r12 (by omega) (by omega)
  have o_g0 := o_g0.only r12 (by omega) (by omega)
  have f_g0 := f_g0.only r12 (by omega) (by omega)
  clear r12
  clear o_x0x m_x0x
  clear f_x1x
  go_wp2_with fail
  refine (markIntS_any _ _ _ _ _ (1 + (x0.length : Int)) _ _ (by omega) (by omega) (by omega) o_x1x (by omega)).mono ?_
  rintro e w13 ⟨rfl, m_x1x, r13⟩
  have z13 := r13.size
  have bel := below_only bel r13 (by first | exact Nat.le_refl _ | omega) (by omega)
  have f_x0 := f_x0.only r13 (by omega) (by omega)
  have f_x1 := f_x1.only r13 (by omega) (by omega)
  have o_w0 := o_w0.only r13 (by omega) (by omega)
  have f_w0 := f_w0.only r13 (by omega) (by omega)
  have o_g0 := o_g0.only r13 (by omega) (by omega)
  have f_g0 := f_g0.only r13 (by omega) (by omega)
  clear r13
  clear o_x1x m_x1x
  go_wp2_with fail
  refine (eqIntS_same _ _ (setOf (keepI (notB x1) x0)) _ _ _ _ _ _ _ _ _ (by have := setOf_len (keepI (notB x1) x0); have := List.length_filter_le (notB x1) x0; unfold keepI at *; omega) (by exact f_g0) (by exact f_w0) rfl rfl).mono ?_
  rintro e w14 ⟨rfl, r14⟩
  have r14 := only_qt r14
  have z14 := r14.size
  have bel := below_only bel r14 (by first | exact Nat.le_refl _ | omega) (by omega)
  have f_x0 := f_x0.only r14 (by omega) (by omega)
  have f_x1 := f_x1.only r14 (by omega) (by omega)
  have o_w0 := o_w0.only r14 (by omega) (by omega)
  have f_w0 := f_w0.only r14 (by omega) (by omega)
  have o_g0 := o_g0.only r14 (by omega) (by omega)
  have f_g0 := f_g0.only r14 (by omega) (by omega)
  clear r14
  clear f_g0
  go_wp2_with fail
  refine (markIntS_any _ _ _ _ _ (1) _ _ (by have := setOf_len (keepI (notB x1) x0); have := List.length_filter_le (notB x1) x0; unfold keepI at *; omega) (by omega) (by omega) o_g0 (by omega)).mono ?_
  rintro e w15 ⟨rfl, m_g0, r15⟩
  have z15 := r15.size
  have bel := below_only bel r15 (by first | exact Nat.le_refl _ | omega) (by omega)
  have f_x0 := f_x0.only r15 (by omega) (by omega)
  have f_x1 := f_x1.only r15 (by omega) (by omega)
  have o_w0 := o_w0.only r15 (by omega) (by omega)
  have f_w0 := f_w0.only r15 (by omega) (by omega)
  clear r15
  clear o_g0
  have f_g0 := m_g0.rdI
  clear m_g0
  go_wp2_with fail
  refine (heldIntS_any _ _ _ _ _ (1) _ (by have := setOf_len (keepI (notB x1) x0); have := List.length_filter_le (notB x1) x0; unfold keepI at *; omega) (by omega) (by omega) (by exact f_g0)).mono ?_
  rintro e w16 ⟨rfl, r16⟩
  have r16 := only_qt r16
  have z16 := r16.size
  have bel := below_only bel r16 (by first | exact Nat.le_refl _ | omega) (by omega)
  have f_x0 := f_x0.only r16 (by omega) (by omega)
  have f_x1 := f_x1.only r16 (by omega) (by omega)
  have o_w0 := o_w0.only r16 (by omega) (by omega)
  have f_w0 := f_w0.only r16 (by omega) (by omega)
  have f_g0 := f_g0.only r16 (by omega) (by omega)
  clear r16
  go_wp2_with fail
  refine (toIntS_any _ _ _ 0 w.heap.size _ (by omega) (by exact f_x0) (by omega)).mono ?_
  rintro e w17 ⟨A_x0h, c_x0h, rfl, o_x0h, r17⟩
  have r17 := only_below r17
  have z17 := r17.size
  have bel := below_only bel r17 (by first | exact Nat.le_refl _ | omega) (by omega)
  have f_x0 := f_x0.only r17 (by omega) (by omega)
  have f_x1 := f_x1.only r17 (by omega) (by omega)
  have o_w0 := o_w0.only r17 (by omega) (by omega)
  have f_w0 := f_w0.only r17 (by omega) (by omega)
  have f_g0 := f_g0.only r17 (by omega) (by omega)
  clear r17
  have f_x0h := o_x0h.rdI
  go_wp2_with fail
  refine (toIntS_any _ _ _ 0 w.heap.size _ (by omega) (by exact f_x1) (by omega)).mono ?_
  rintro e w18 ⟨A_x1h, c_x1h, rfl, o_x1h, r18⟩
  have r18 := only_below r18
  have z18 := r18.size
  have bel := below_only bel r18 (by first | exact Nat.le_refl _ | omega) (by omega)
  have f_x0 := f_x0.only r18 (by omega) (by omega)
  have f_x1 := f_x1.only r18 (by omega) (by omega)
  have o_w0 := o_w0.only r18 (by omega) (by omega)
  have f_w0 := f_w0.only r18 (by omega) (by omega)
  have f_g0 := f_g0.only r18 (by omega) (by omega)
  have o_x0h := o_x0h.only r18 (by omega) (by omega)
  have f_x0h := f_x0h.only r18 (by omega) (by omega)
  clear r18
  have f_x1h := o_x1h.rdI
  go_wp2_with fail
  refine (implSetDifference_any _ _ x0 x1 _ _ _ _ _ _ _ (by omega) (by omega) (by exact f_x0h) (by exact f_x1h) (by omega) (by omega)).mono ?_
  rintro e w19 ⟨A_h0, c_h0, rfl, o_h0, r19⟩
  have r19 := only_below r19
  have z19 := r19.size
  have bel := below_only bel r19 (by first | exact Nat.le_refl _ | omega) (by omega)
  have f_x0 := f_x0.only r19 (by omega) (by omega)
  have f_x1 := f_x1.only r19 (by omega) (by omega)
  have o_w0 := o_w0.only r19 (by omega) (by omega)
  have f_w0 := f_w0.only r19 (by omega) (by omega)
  have f_g0 := f_g0.only r19 (by omega) (by omega)
  have o_x0h := o_x0h.only r19 (by omega) (by omega)
  have f_x0h := f_x0h.only r19 (by omega) (by omega)
  have o_x1h := o_x1h.only r19 (by omega) (by omega)
  have f_x1h := f_x1h.only r19 (by omega) (by omega)
  clear r19
  have f_h0 := o_h0.rdI
  go_wp2_with fail
  refine (eqIntS_same _ _ (setOf (keepI (notB x1) x0)) _ _ _ _ _ _ _ _ _ (by have := setOf_len (keepI (notB x1) x0); have := List.length_filter_le (notB x1) x0; unfold keepI at *; omega) (by exact f_h0) (by exact f_w0) rfl rfl).mono ?_
  rintro e w20 ⟨rfl, r20⟩
  have r20 := only_qt r20
  have z20 := r20.size
  have bel := below_only bel r20 (by first | exact Nat.le_refl _ | omega) (by omega)
  have f_x0 := f_x0.only r20 (by omega) (by omega)
  have f_x1 := f_x1.only r20 (by omega) (by omega)
  have o_w0 := o_w0.only r20 (by omega) (by omega)
  have f_w0 := f_w0.only r20 (by omega) (by omega)
  have f_g0 := f_g0.only r20 (by omega) (by omega)
  have o_x0h := o_x0h.only r20 (by omega) (by omega)
  have f_x0h := f_x0h.only r20 (by omega) (by omega)
  have o_x1h := o_x1h.only r20 (by omega) (by omega)
  have f_x1h := f_x1h.only r20 (by omega) (by omega)
  have o_h0 := o_h0.only r20 (by omega) (by omega)
  have f_h0 := f_h0.only r20 (by omega) (by omega)
  clear r20
  go_wp2_with fail
  refine (heldIntS_any _ _ _ _ _ (1) _ (by have := setOf_len (keepI (notB x1) x0); have := List.length_filter_le (notB x1) x0; unfold keepI at *; omega) (by omega) (by omega) (by exact f_g0)).mono ?_
  rintro e w21 ⟨rfl, r21⟩
  have r21 := only_qt r21
  have z21 := r21.size
  have bel := below_only bel r21 (by first | exact Nat.le_refl _ | omega) (by omega)
  have f_x0 := f_x0.only r21 (by omega) (by omega)
  have f_x1 := f_x1.only r21 (by omega) (by omega)
  have o_w0 := o_w0.only r21 (by omega) (by omega)
  have f_w0 := f_w0.only r21 (by omega) (by omega)
  have f_g0 := f_g0.only r21 (by omega) (by omega)
  have o_x0h := o_x0h.only r21 (by omega) (by omega)
  have f_x0h := f_x0h.only r21 (by omega) (by omega)
  have o_x1h := o_x1h.only r21 (by omega) (by omega)
  have f_x1h := f_x1h.only r21 (by omega) (by omega)
  have o_h0 := o_h0.only r21 (by omega) (by omega)
  have f_h0 := f_h0.only r21 (by omega) (by omega)
  clear r21
  go_wp2
  go_ret
  exact ⟨rfl, bel⟩

set_option maxRecDepth 100000 in
theorem lifted (os : Os) (started : os.Started) (H : Type) (enc : TypeId × Value → H) :
    ReturnsInHanded {} Try.checked os 6 .any (Rows.fnExactSetDifferenceSpec.pre6 enc Try.prog Try.f6 Rows.fnExactSetDifferenceRow.domain false) (Rows.fnExactSetDifferenceSpec.post enc Try.prog Try.f6 false true false false) := by
  refine returnsInHanded_of_change (C := Try.checked) own started (by kernel_rfl) Try.func6
    (ChangeSpec.witness6 (enc := enc) (C := Try.checked) false ⟨#[], #[.slice none 0 0, .slice none 0 0], []⟩ 8 (by kernel_rfl) (by kernel_rfl) (by kernel_rfl) (by kernel_rfl)) ?_
  intro W base args ds gs before hval0 hW hcnd _
  have hval : ∀ (j : Nat) t v, Try.f6.params[j]? = some t → args[j]? = some v → Value.okWide Try.prog W .any base t v := hval0
  have hW' := hW
  obtain ⟨p, q, hA0, hV, rfl, hfz, hnd⟩ := hW
  have hA : DataW.TrodAll enc Try.prog W 0 (fun _ => true) true Try.f6.params.toList args.toList ds p := hA0
  rw [Try.params6] at hA hval
  obtain ⟨v0, vs0, d0, ds0, p0, q0, hargs, rfl, rfl, h0, r0⟩ := trodAll_cons hA
  obtain ⟨v1, vs1, d1, ds1, p1, q1, rfl, rfl, rfl, h1, r1⟩ := trodAll_cons r0
  obtain ⟨rfl, rfl, rfl⟩ := trodAll_nil r1
  obtain rfl : args = #[v0, v1] := by cases args; simp_all
  obtain ⟨rfl, rfl⟩ := trodVars_none hV
  have k0 := h0
  have lt0 : ∀ x ∈ p0, x.block < W.heap.size := by obtain ⟨m, hm⟩ := k0; exact DataW.trod_lt m _ _ _ hm
  obtain ⟨A0, x0, c0, rfl, m0, i0⟩ := open_intS Try.underlying22 Try.underlying3 (by kernel_rfl) (hval 0 22 v0 rfl rfl) h0
  have k1 := h1
  have lt1 : ∀ x ∈ p1, x.block < W.heap.size := by obtain ⟨m, hm⟩ := k1; exact DataW.trod_lt m _ _ _ hm
  obtain ⟨A1, x1, c1, rfl, m1, i1⟩ := open_intS Try.underlying22 Try.underlying3 (by kernel_rfl) (hval 1 22 v1 rfl rfl) h1
  clear hA0 hval0
  refine (walk A0 x0 c0 A1 x1 c1 W m0 i0 m1 i1).mono fun e W' ⟨he, bel⟩ => ?_
  subst he
  exact ⟨_, rfl, _, _, _, [], _, [], hW', trodAll_mk1 (shut_bool Try.underlying4 _), (trodAll_cons_mk (Below.trod laidOut (by kernel_rfl) (of_decide_eq_true (by kernel_rfl)) k0 bel lt0) (trodAll_cons_mk (Below.trod laidOut (by kernel_rfl) (of_decide_eq_true (by kernel_rfl)) k1 bel lt1) trodAll_mk0)), rfl, bel.frame _, fun h => by cases h⟩
theorem over : Rows.fnExactSetDifferenceRow.holds Try.pinned (OpenSpec.ofChange Rows.fnExactSetDifferenceSpec) :=
  OpenClaim.holds_of_wide 6 Try.f6 rfl rfl rfl rfl rfl rfl rfl ⟨rfl, rfl, rfl, rfl, rfl⟩ rfl rfl rfl rfl rfl (by kernel_rfl) Try.func6 (by kernel_rfl)
    (of_decide_eq_true (by kernel_rfl)) (by unfold Func.isWrapper; first | (rw [if_pos (by decide +kernel)]; kernel_rfl) | (rw [if_neg (by decide +kernel)]; exact ⟨rfl, rfl⟩))
    (fun os started H enc _ => lifted os started H enc)
theorem proved : Rows.FnExactSetDifferenceSaid := over
end Go.Proofs.Ytobgejojjbgilaa.fnExactSetDifference
