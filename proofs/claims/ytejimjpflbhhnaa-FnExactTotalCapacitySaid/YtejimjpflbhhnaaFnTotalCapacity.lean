/- For every input the law FnExactTotalCapacity returns true and its arguments read as before. No condition. -/
import Derived.Test.YtejimjpflbhhnaaRows
import Derived.Test.YtejimjpflbhhnaaOpen
import Derived.Test.YtejimjpflbhhnaaLaw
import Derived.Test.YtejimjpflbhhnaaLawSt
import Derived.Test.YtejimjpflbhhnaaSets
import Derived.Test.YtejimjpflbhhnaaSteps3
namespace Go.Proofs.Ytejimjpflbhhnaa.fnExactTotalCapacity
open Go.ChangeShapes Go.WideShapes Go.ChangeAt Go.RowKit
open Go.ChangeMaps (open_string shut_string)
set_option linter.unusedVariables false

theorem own : ownKnob Try.prog.godebug = none := by kernel_rfl
theorem laidOut : laidOutB Try.prog = true := by kernel_rfl

set_option maxHeartbeats 1600000 in
theorem walk (A_x0 : Option Addr) (x0 : List (Int × Int)) (c_x0 : Nat) (x1 : Int) (x2 : Int) (w : World) (f_x0 : RdSt w 0 w.heap.size A_x0 x0) (i_x0 : x0.length ≤ 9223372036854775807) (i_x1 : (Lit.int .i64 x1).wf = true) (i_x2 : (Lit.int .i64 x2).wf = true) :
    Calls Try.prog 6 #[.slice A_x0 x0.length c_x0, .int .i64 x1, .int .i64 x2] w fun e w' => e = .returned (.bool true) ∧ Below w.heap.size w w' := by
  have bel := Below.refl w.heap.size w
  go_enter Try.func6, Try.ntmps6
  go_wp2_with fail
  refine (szStepS_any _ x0.length _ (1048576) _ i_x0 (by omega) (by omega)).mono ?_
  rintro e w' ⟨r_x0, rfl, b_x0, rfl⟩
  rcases b_x0 with rfl | ⟨b1_x0, b2_x0, b3_x0⟩
  case inl =>
    go_wp2
    go_ret
    exact ⟨rfl, bel⟩
  have l_x0 : x0.length ≤ 1048576 := by omega
  go_wp2_with fail
  refine (toStepS_any _ _ _ 0 w.heap.size _ (by omega) (by exact f_x0) (by omega)).mono ?_
  rintro e w1 ⟨A_x0s, c_x0s, rfl, o_x0s, r1⟩
  have r1 := only_below r1
  have z1 := r1.size
  have bel := below_only bel r1 (by first | exact Nat.le_refl _ | omega) (by omega)
  have f_x0 := f_x0.only r1 (by omega) (by omega)
  clear r1
  have f_x0s := o_x0s.rdSt
  go_wp2_with fail
  refine (specTotalCapacity_any _ x0 _ _ _ x1 x2 _ (by omega) (by exact f_x0s) (by omega)).mono ?_
  rintro e w2 ⟨rfl, r2⟩
  have r2 := only_below r2
  have z2 := r2.size
  have bel := below_only bel r2 (by first | exact Nat.le_refl _ | omega) (by omega)
  have f_x0 := f_x0.only r2 (by omega) (by omega)
  have o_x0s := o_x0s.only r2 (by omega) (by omega)
  have f_x0s := f_x0s.only r2 (by omega) (by omega)
  clear r2
  clear f_x0s
  clear o_x0s
  go_wp2_with fail
  refine (toStepS_any _ _ _ 0 w.heap.size _ (by omega) (by exact f_x0) (by omega)).mono ?_
  rintro e w3 ⟨A_x0x, c_x0x, rfl, o_x0x, r3⟩
  have r3 := only_below r3
  have z3 := r3.size
  have bel := below_only bel r3 (by first | exact Nat.le_refl _ | omega) (by omega)
  have f_x0 := f_x0.only r3 (by omega) (by omega)
  clear r3
  have f_x0x := o_x0x.rdSt
  go_wp2_with fail
  refine (implTotalCapacity_any _ x0 _ _ _ x1 x2 _ (by omega) (by exact f_x0x) (by omega)).mono ?_
  rintro e w4 ⟨rfl, r4⟩
  have r4 := only_below r4
  have z4 := r4.size
  have bel := below_only bel r4 (by first | exact Nat.le_refl _ | omega) (by omega)
  have f_x0 := f_x0.only r4 (by omega) (by omega)
  have o_x0x := o_x0x.only r4 (by omega) (by omega)
  have f_x0x := f_x0x.only r4 (by omega) (by omega)
  clear r4
  go_wp2_with fail
  refine (toStepS_any _ _ _ 0 w.heap.size _ (by omega) (by exact f_x0) (by omega)).mono ?_
  rintro e w5 ⟨A_x0t, c_x0t, rfl, o_x0t, r5⟩
  have r5 := only_below r5
  have z5 := r5.size
  have bel := below_only bel r5 (by first | exact Nat.le_refl _ | omega) (by omega)
  have f_x0 := f_x0.only r5 (by omega) (by omega)
  have o_x0x := o_x0x.only r5 (by omega) (by omega)
  have f_x0x := f_x0x.only r5 (by omega) (by omega)
  clear r5
  have f_x0t := o_x0t.rdSt
  go_wp2_with fail
  refine (eqStepS_same _ _ (x0) _ _ _ _ _ _ _ _ _ (by omega) (by exact f_x0x) (by exact f_x0t) rfl rfl (by omega) (by omega)).mono ?_
  rintro e w6 ⟨rfl, r6⟩
  have r6 := only_below r6
  have z6 := r6.size
  have bel := below_only bel r6 (by first | exact Nat.le_refl _ | omega) (by omega)
  have f_x0 := f_x0.only r6 (by omega) (by omega)
  have o_x0x := o_x0x.only r6 (by omega) (by omega)
  have f_x0x := f_x0x.only r6 (by omega) (by omega)
  have o_x0t := o_x0t.only r6 (by omega) (by omega)
  have f_x0t := f_x0t.only r6 (by omega) (by omega)
  clear r6
  clear f_x0t
  clear o_x0t
  go_wp2
  go_ret
  exact ⟨rfl, bel⟩

set_option maxRecDepth 100000 in
theorem lifted (os : Os) (started : os.Started) (H : Type) (enc : TypeId × Value → H) :
    ReturnsInHanded {} Try.checked os 6 .any (Rows.fnExactTotalCapacitySpec.pre6 enc Try.prog Try.f6 Rows.fnExactTotalCapacityRow.domain false) (Rows.fnExactTotalCapacitySpec.post enc Try.prog Try.f6 false true false false) := by
  refine returnsInHanded_of_change (C := Try.checked) own started (by kernel_rfl) Try.func6
    (ChangeSpec.witness6 (enc := enc) (C := Try.checked) false ⟨#[], #[.slice none 0 0, .int .i64 0, .int .i64 0], []⟩ 8 (by kernel_rfl) (by kernel_rfl) (by kernel_rfl) (by kernel_rfl)) ?_
  intro W base args ds gs before hval0 hW hcnd _
  have hval : ∀ (j : Nat) t v, Try.f6.params[j]? = some t → args[j]? = some v → Value.okWide Try.prog W .any base t v := hval0
  have hW' := hW
  obtain ⟨p, q, hA0, hV, rfl, hfz, hnd⟩ := hW
  have hA : DataW.TrodAll enc Try.prog W 0 (fun _ => true) true Try.f6.params.toList args.toList ds p := hA0
  rw [Try.params6] at hA hval
  obtain ⟨v0, vs0, d0, ds0, p0, q0, hargs, rfl, rfl, h0, r0⟩ := trodAll_cons hA
  obtain ⟨v1, vs1, d1, ds1, p1, q1, rfl, rfl, rfl, h1, r1⟩ := trodAll_cons r0
  obtain ⟨v2, vs2, d2, ds2, p2, q2, rfl, rfl, rfl, h2, r2⟩ := trodAll_cons r1
  obtain ⟨rfl, rfl, rfl⟩ := trodAll_nil r2
  obtain rfl : args = #[v0, v1, v2] := by cases args; simp_all
  obtain ⟨rfl, rfl⟩ := trodVars_none hV
  have k0 := h0
  have lt0 : ∀ x ∈ p0, x.block < W.heap.size := by obtain ⟨m, hm⟩ := k0; exact DataW.trod_lt m _ _ _ hm
  obtain ⟨A0, x0, c0, rfl, m0, i0⟩ := open_stepS Try.underlying22 Try.underlying75 (by kernel_rfl) (by kernel_rfl) Try.underlying3 Try.underlying3 (hval 0 22 v0 rfl rfl) h0
  obtain ⟨x1, rfl, rfl, rfl, i1⟩ := open_int Try.underlying3 (hval 1 3 v1 rfl rfl) h1
  obtain ⟨x2, rfl, rfl, rfl, i2⟩ := open_int Try.underlying3 (hval 2 3 v2 rfl rfl) h2
  clear hA0 hval0
  refine (walk A0 x0 c0 x1 x2 W m0 i0 i1 i2).mono fun e W' ⟨he, bel⟩ => ?_
  subst he
  exact ⟨_, rfl, _, _, _, [], _, [], hW', trodAll_mk1 (shut_bool Try.underlying4 _), (trodAll_cons_mk (Below.trod laidOut (by kernel_rfl) (of_decide_eq_true (by kernel_rfl)) k0 bel lt0) (trodAll_cons_mk (shut_int Try.underlying3 i1) (trodAll_cons_mk (shut_int Try.underlying3 i2) trodAll_mk0))), rfl, bel.frame _, fun h => by cases h⟩
theorem over : Rows.fnExactTotalCapacityRow.holds Try.pinned (OpenSpec.ofChange Rows.fnExactTotalCapacitySpec) :=
  OpenClaim.holds_of_wide 6 Try.f6 rfl rfl rfl rfl rfl rfl rfl ⟨rfl, rfl, rfl, rfl, rfl⟩ rfl rfl rfl rfl rfl (by kernel_rfl) Try.func6 (by kernel_rfl)
    (of_decide_eq_true (by kernel_rfl)) (by unfold Func.isWrapper; first | (rw [if_pos (by decide +kernel)]; kernel_rfl) | (rw [if_neg (by decide +kernel)]; exact ⟨rfl, rfl⟩))
    (fun os started H enc _ => lifted os started H enc)
theorem proved : Rows.FnExactTotalCapacitySaid := over
end Go.Proofs.Ytejimjpflbhhnaa.fnExactTotalCapacity
