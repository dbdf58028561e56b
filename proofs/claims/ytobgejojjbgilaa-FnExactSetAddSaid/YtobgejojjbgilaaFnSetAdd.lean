/- For every input the law FnExactSetAdd returns true and its arguments read as before. No condition. -/
import Derived.Test.YtobgejojjbgilaaRows
import Derived.Test.YtobgejojjbgilaaOpen
import Derived.Test.YtobgejojjbgilaaLaw
import Derived.Test.YtobgejojjbgilaaSets
import Derived.Test.YtobgejojjbgilaaSetOf
import Derived.Deep.RegionHeld3
namespace Go.Proofs.Ytobgejojjbgilaa.fnExactSetAdd
open Go.ChangeShapes Go.WideShapes Go.ChangeAt Go.RowKit
open Go.ChangeMaps (open_string shut_string)
set_option linter.unusedVariables false

theorem own : ownKnob Try.prog.godebug = none := by kernel_rfl
theorem laidOut : laidOutB Try.prog = true := by kernel_rfl

set_option maxHeartbeats 1600000 in
theorem walk (A_x0 : Option Addr) (x0 : List Int) (c_x0 : Nat) (x1 : Int) (w : World) (f_x0 : RdI w 0 w.heap.size A_x0 x0) (i_x0 : I64s x0) (i_x1 : (Lit.int .i64 x1).wf = true) :
    Calls Try.prog 4 #[.slice A_x0 x0.length c_x0, .int .i64 x1] w fun e w' => e = .returned (.bool true) ∧ Below w.heap.size w w' := by
  by_cases g_x0 : x0.length ≤ 1048576
  case neg =>
    go_enter Try.func4, Try.ntmps4
    go_wp2
    go_ret
    exact ⟨rfl, by repeat' (first | exact Below.refl _ _ | refine Below.alloc ?_ (by simp) _)⟩
  have bel := Below.refl w.heap.size w
  go_enter Try.func4, Try.ntmps4
  go_wp2_with fail
  refine (toIntS_any _ _ _ 0 w.heap.size _ (by omega) (by exact f_x0) (by omega)).mono ?_
  rintro e w1 ⟨A_x0s, c_x0s, rfl, o_x0s, r1⟩
  have r1 := only_below r1
  have z1 := r1.size
  have bel := below_only bel r1 (by first | exact Nat.le_refl _ | omega) (by omega)
  have f_x0 := f_x0.only r1 (by omega) (by omega)
  clear r1
  have f_x0s := o_x0s.rdI
  go_wp2_with fail
  refine (specSetAdd_any _ x0 _ _ _ x1 _ (by omega) (by exact f_x0s) (by omega)).mono ?_
  rintro e w2 ⟨A_w0, c_w0, rfl, o_w0, r2⟩
  have r2 := only_below r2
  have z2 := r2.size
  have bel := below_only bel r2 (by first | exact Nat.le_refl _ | omega) (by omega)
  have f_x0 := f_x0.only r2 (by omega) (by omega)
  have o_x0s := o_x0s.only r2 (by omega) (by omega)
  have f_x0s := f_x0s.only r2 (by omega) (by omega)
  clear r2
  have f_w0 := o_w0.rdI
  clear f_x0s
  clear o_x0s
  go_wp2_with fail
  refine (toIntS_any _ _ _ 0 w.heap.size _ (by omega) (by exact f_x0) (by omega)).mono ?_
  rintro e w3 ⟨A_x0x, c_x0x, rfl, o_x0x, r3⟩
  have r3 := only_below r3
  have z3 := r3.size
  have bel := below_only bel r3 (by first | exact Nat.le_refl _ | omega) (by omega)
  have f_x0 := f_x0.only r3 (by omega) (by omega)
  have o_w0 := o_w0.only r3 (by omega) (by omega)
  have f_w0 := f_w0.only r3 (by omega) (by omega)
  clear r3
  have f_x0x := o_x0x.rdI
  go_wp2_with fail
  refine (implSetAdd_any _ x0 _ _ _ x1 _ (by omega) (by exact f_x0x)).mono ?_
  rintro e w4 ⟨A_g0, c_g0, rfl, o_g0, r4⟩
  have r4 := only_below r4
  have z4 := r4.size
  have bel := below_only bel r4 (by first | exact Nat.le_refl _ | omega) (by omega)
  have f_x0 := f_x0.only r4 (by omega) (by omega)
  have o_w0 := o_w0.only r4 (by omega) (by omega)
  have f_w0 := f_w0.only r4 (by omega) (by omega)
  have o_x0x := o_x0x.only r4 (by omega) (by omega)
  have f_x0x := f_x0x.only r4 (by omega) (by omega)
  clear r4
  have f_g0 := o_g0.rdI
  go_wp2_with fail
  refine (eqIntS_same _ _ (setOf (x0 ++ [x1])) _ _ _ _ _ _ _ _ _ (by have := setOf_len (x0 ++ [x1]); rw [List.length_append, List.length_singleton] at this; omega) (by exact f_g0) (by exact f_w0) rfl rfl).mono ?_
  rintro e w5 ⟨rfl, r5⟩
  have r5 := only_qt r5
  have z5 := r5.size
  have bel := below_only bel r5 (by first | exact Nat.le_refl _ | omega) (by omega)
  have f_x0 := f_x0.only r5 (by omega) (by omega)
  have o_w0 := o_w0.only r5 (by omega) (by omega)
  have f_w0 := f_w0.only r5 (by omega) (by omega)
  have o_x0x := o_x0x.only r5 (by omega) (by omega)
  have f_x0x := f_x0x.only r5 (by omega) (by omega)
  have o_g0 := o_g0.only r5 (by omega) (by omega)
  have f_g0 := f_g0.only r5 (by omega) (by omega)
  clear r5
  go_wp2_with fail
  refine (toIntS_any _ _ _ 0 w.heap.size _ (by omega) (by exact f_x0) (by omega)).mono ?_
  rintro e w6 ⟨A_x0t, c_x0t, rfl, o_x0t, r6⟩
  have r6 := only_below r6
  have z6 := r6.size
  have bel := below_only bel r6 (by first | exact Nat.le_refl _ | omega) (by omega)
  have f_x0 := f_x0.only r6 (by omega) (by omega)
  have o_w0 := o_w0.only r6 (by omega) (by omega)
  have f_w0 := f_w0.only r6 (by omega) (by omega)
  have o_x0x := o_x0x.only r6 (by omega) (by omega)
  have f_x0x := f_x0x.only r6 (by omega) (by omega)
  have o_g0 := o_g0.only r6 (by omega) (by omega)
  have f_g0 := f_g0.only r6 (by omega) (by omega)
  clear r6
  have f_x0t := o_x0t.rdI
  go_wp2_with fail
  refine (eqIntS_same _ _ (x0) _ _ _ _ _ _ _ _ _ (by omega) (by exact f_x0x) (by exact f_x0t) rfl rfl).mono ?_
  rintro e w7 ⟨rfl, r7⟩
  have r7 := only_qt r7
  have z7 := r7.size
  have bel := below_only bel r7 (by first | exact Nat.le_refl _ | omega) (by omega)
  have f_x0 := f_x0.only r7 (by omega) (by omega)
  have o_w0 := o_w0.only r7 (by omega) (by omega)
  have f_w0 := f_w0.only r7 (by omega) (by omega)
  have o_x0x := o_x0x.only r7 (by omega) (by omega)
  have f_x0x := f_x0x.only r7 (by omega) (by omega)
  have o_g0 := o_g0.only r7 (by omega) (by omega)
  have f_g0 := f_g0.only r7 (by omega) (by omega)
  have o_x0t := o_x0t.only r7 (by omega) (by omega)
  have f_x0t := f_x0t.only r7 (by omega) (by omega)
  clear r7
  clear f_x0t
  clear o_x0t
  clear f_x0x
  go_wp2_with fail
  refine (markIntS_any _ _ _ _ _ (1) _ _ (by omega) (by omega) (by omega) o_x0x (by omega)).mono ?_
  rintro e w8 ⟨rfl, m_x0x, r8⟩
  have z8 := r8.size
  have bel := below_only bel r8 (by first | exact Nat.le_refl _ | omega) (by omega)
  have f_x0 := f_x0.only r8 (by omega) (by omega)
  have o_w0 := o_w0.only r8 (by omega) (by omega)
  have f_w0 := f_w0.only r8 (by omega) (by omega)
  have o_g0 := o_g0.only r8 (by omega) (by omega)
  have f_g0 := f_g0.only r8 (by omega) (by omega)
  clear r8
  clear o_x0x m_x0x
  go_wp2_with fail
  refine (eqIntS_same _ _ (setOf (x0 ++ [x1])) _ _ _ _ _ _ _ _ _ (by have := setOf_len (x0 ++ [x1]); rw [List.length_append, List.length_singleton] at this; omega) (by exact f_g0) (by exact f_w0) rfl rfl).mono ?_
  rintro e w9 ⟨rfl, r9⟩
  have r9 := only_qt r9
  have z9 := r9.size
  have bel := below_only bel r9 (by first | exact Nat.le_refl _ | omega) (by omega)
  have f_x0 := f_x0.only r9 (by omega) (by omega)
  have o_w0 := o_w0.only r9 (by omega) (by omega)
  have f_w0 := f_w0.only r9 (by omega) (by omega)
  have o_g0 := o_g0.only r9 (by omega) (by omega)
  have f_g0 := f_g0.only r9 (by omega) (by omega)
  clear r9
  clear f_g0
  go_wp2_with fail
  refine (markIntS_any _ _ _ _ _ (1) _ _ (by have := setOf_len (x0 ++ [x1]); rw [List.length_append, List.length_singleton] at this; omega) (by omega) (by omega) o_g0 (by omega)).mono ?_
  rintro e w10 ⟨rfl, m_g0, r10⟩
  have z10 := r10.size
  have bel := below_only bel r10 (by first | exact Nat.le_refl _ | omega) (by omega)
  have f_x0 := f_x0.only r10 (by omega) (by omega)
  have o_w0 := o_w0.only r10 (by omega) (by omega)
  have f_w0 := f_w0.only r10 (by omega) (by omega)
  clear r10
  clear o_g0
  have f_g0 := m_g0.rdI
  clear m_g0
  go_wp2_with fail
  refine (heldIntS_any _ _ _ _ _ (1) _ (by have := setOf_len (x0 ++ [x1]); rw [List.length_append, List.length_singleton] at this; omega) (by omega) (by omega) (by exact f_g0)).mono ?_
  rintro e w11 ⟨rfl, r11⟩
  have r11 := only_qt r11
  have z11 := r11.size
  have bel := below_only bel r11 (by first | exact Nat.le_refl _ | omega) (by omega)
  have f_x0 := f_x0.only r11 (by omega) (by omega)
  have o_w0 := o_w0.only r11 (by omega) (by omega)
  have f_w0 := f_w0.only r11 (by omega) (by omega)
  have f_g0 := f_g0.only r11 (by omega) (by omega)
  clear r11
  go_wp2_with fail
  refine (toIntS_any _ _ _ 0 w.heap.size _ (by omega) (by exact f_x0) (by omega)).mono ?_
  rintro e w12 ⟨A_x0h, c_x0h, rfl, o_x0h, r12⟩
  have r12 := only_below r12
  have z12 := r12.size
  have bel := below_only bel r12 (by first | exact Nat.le_refl _ | omega) (by omega)
  have f_x0 := f_x0.only r12 (by omega) (by omega)
  have o_w0 := o_w0.only r12 (by omega) (by omega)
  have f_w0 := f_w0.only r12 (by omega) (by omega)
  have f_g0 := f_g0.only r12 (by omega) (by omega)
  clear r12
  have f_x0h := o_x0h.rdI
  go_wp2_with fail
  refine (implSetAdd_any _ x0 _ _ _ x1 _ (by omega) (by exact f_x0h)).mono ?_
  rintro e w13 ⟨A_h0, c_h0, rfl, o_h0, r13⟩
  have r13 := only_below r13
  have z13 := r13.size
  have bel := below_only bel r13 (by first | exact Nat.le_refl _ | omega) (by omega)
  have f_x0 := f_x0.only r13 (by omega) (by omega)
  have o_w0 := o_w0.only r13 (by omega) (by omega)
  have f_w0 := f_w0.only r13 (by omega) (by omega)
  have f_g0 := f_g0.only r13 (by omega) (by omega)
  have o_x0h := o_x0h.only r13 (by omega) (by omega)
  have f_x0h := f_x0h.only r13 (by omega) (by omega)
  clear r13
  have f_h0 := o_h0.rdI
  go_wp2_with fail
  refine (eqIntS_same _ _ (setOf (x0 ++ [x1])) _ _ _ _ _ _ _ _ _ (by have := setOf_len (x0 ++ [x1]); rw [List.length_append, List.length_singleton] at this; omega) (by exact f_h0) (by exact f_w0) rfl rfl).mono ?_
  rintro e w14 ⟨rfl, r14⟩
  have r14 := only_qt r14
  have z14 := r14.size
  have bel := below_only bel r14 (by first | exact Nat.le_refl _ | omega) (by omega)
  have f_x0 := f_x0.only r14 (by omega) (by omega)
  have o_w0 := o_w0.only r14 (by omega) (by omega)
  have f_w0 := f_w0.only r14 (by omega) (by omega)
  have f_g0 := f_g0.only r14 (by omega) (by omega)
  have o_x0h := o_x0h.only r14 (by omega) (by omega)
  have f_x0h := f_x0h.only r14 (by omega) (by omega)
  have o_h0 := o_h0.only r14 (by omega) (by omega)
  have f_h0 := f_h0.only r14 (by omega) (by omega)
  clear r14
  go_wp2_with fail
  refine (heldIntS_any _ _ _ _ _ (1) _ (by have := setOf_len (x0 ++ [x1]); rw [List.length_append, List.length_singleton] at this; omega) (by omega) (by omega) (by exact f_g0)).mono ?_
  rintro e w15 ⟨rfl, r15⟩
  have r15 := only_qt r15
  have z15 := r15.size
  have bel := below_only bel r15 (by first | exact Nat.le_refl _ | omega) (by omega)
  have f_x0 := f_x0.only r15 (by omega) (by omega)
  have o_w0 := o_w0.only r15 (by omega) (by omega)
  have f_w0 := f_w0.only r15 (by omega) (by omega)
  have f_g0 := f_g0.only r15 (by omega) (by omega)
  have o_x0h := o_x0h.only r15 (by omega) (by omega)
  have f_x0h := f_x0h.only r15 (by omega) (by omega)
  have o_h0 := o_h0.only r15 (by omega) (by omega)
  have f_h0 := f_h0.only r15 (by omega) (by omega)
  clear r15
  go_wp2
  go_ret
  exact ⟨rfl, bel⟩

set_option maxRecDepth 100000 in
theorem lifted (os : Os) (started : os.Started) (H : Type) (enc : TypeId × Value → H) :
    ReturnsInHanded {} Try.checked os 4 .any (Rows.fnExactSetAddSpec.pre6 enc Try.prog Try.f4 Rows.fnExactSetAddRow.domain false) (Rows.fnExactSetAddSpec.post enc Try.prog Try.f4 false true false false) := by
  refine returnsInHanded_of_change (C := Try.checked) own started (by kernel_rfl) Try.func4
    (ChangeSpec.witness6 (enc := enc) (C := Try.checked) false ⟨#[], #[.slice none 0 0, .int .i64 0], []⟩ 8 (by kernel_rfl) (by kernel_rfl) (by kernel_rfl) (by kernel_rfl)) ?_
  intro W base args ds gs before hval0 hW hcnd _
  have hval : ∀ (j : Nat) t v, Try.f4.params[j]? = some t → args[j]? = some v → Value.okWide Try.prog W .any base t v := hval0
  have hW' := hW
  obtain ⟨p, q, hA0, hV, rfl, hfz, hnd⟩ := hW
  have hA : DataW.TrodAll enc Try.prog W 0 (fun _ => true) true Try.f4.params.toList args.toList ds p := hA0
  rw [Try.params4] at hA hval
  obtain ⟨v0, vs0, d0, ds0, p0, q0, hargs, rfl, rfl, h0, r0⟩ := trodAll_cons hA
  obtain ⟨v1, vs1, d1, ds1, p1, q1, rfl, rfl, rfl, h1, r1⟩ := trodAll_cons r0
  obtain ⟨rfl, rfl, rfl⟩ := trodAll_nil r1
  obtain rfl : args = #[v0, v1] := by cases args; simp_all
  obtain ⟨rfl, rfl⟩ := trodVars_none hV
  have k0 := h0
  have lt0 : ∀ x ∈ p0, x.block < W.heap.size := by obtain ⟨m, hm⟩ := k0; exact DataW.trod_lt m _ _ _ hm
  obtain ⟨A0, x0, c0, rfl, m0, i0⟩ := open_intS Try.underlying22 Try.underlying3 (by kernel_rfl) (hval 0 22 v0 rfl rfl) h0
  obtain ⟨x1, rfl, rfl, rfl, i1⟩ := open_int Try.underlying3 (hval 1 3 v1 rfl rfl) h1
  clear hA0 hval0
  refine (walk A0 x0 c0 x1 W m0 i0 i1).mono fun e W' ⟨he, bel⟩ => ?_
  subst he
  exact ⟨_, rfl, _, _, _, [], _, [], hW', trodAll_mk1 (shut_bool Try.underlying4 _), (trodAll_cons_mk (Below.trod laidOut (by kernel_rfl) (of_decide_eq_true (by kernel_rfl)) k0 bel lt0) (trodAll_cons_mk (shut_int Try.underlying3 i1) trodAll_mk0)), rfl, bel.frame _, fun h => by cases h⟩
theorem over : Rows.fnExactSetAddRow.holds Try.pinned (OpenSpec.ofChange Rows.fnExactSetAddSpec) :=
  OpenClaim.holds_of_wide 4 Try.f4 rfl rfl rfl rfl rfl rfl rfl ⟨rfl, rfl, rfl, rfl, rfl⟩ rfl rfl rfl rfl rfl (by kernel_rfl) Try.func4 (by kernel_rfl)
    (of_decide_eq_true (by kernel_rfl)) (by unfold Func.isWrapper; first | (rw [if_pos (by decide +kernel)]; kernel_rfl) | (rw [if_neg (by decide +kernel)]; exact ⟨rfl, rfl⟩))
    (fun os started H enc _ => lifted os started H enc)
theorem proved : Rows.FnExactSetAddSaid := over
end Go.Proofs.Ytobgejojjbgilaa.fnExactSetAdd
