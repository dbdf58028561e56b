/- For every input the law FnExactSplitLines returns true and its arguments read as before. No condition. -/
import Derived.Test.YtmiibhegfbgloaaRows
import Derived.Test.YtmiibhegfbgloaaOpen
import Derived.Test.YtmiibhegfbgloaaLaw
import Derived.Test.YtmiibhegfbgloaaLawS
import Derived.Test.YtmiibhegfbgloaaSets
import Derived.Test.YtmiibhegfbgloaaText
namespace Go.Proofs.Ytmiibhegfbgloaa.fnExactSplitLines
open Go.ChangeShapes Go.WideShapes Go.ChangeAt Go.RowKit
open Go.ChangeMaps (open_string shut_string)
set_option linter.unusedVariables false

theorem own : ownKnob Try.prog.godebug = none := by kernel_rfl
theorem laidOut : laidOutB Try.prog = true := by kernel_rfl

set_option maxHeartbeats 1600000 in
theorem walk (x0 : ByteArray) (w : World)  :
    Calls Try.prog 13 #[.string x0] w fun e w' => e = .returned (.bool true) ∧ Below w.heap.size w w' := by
  by_cases g_x0 : x0.size ≤ 1048576
  case neg =>
    go_enter Try.func13, Try.ntmps13
    go_wp2
    go_ret
    exact ⟨rfl, Below.refl _ _⟩
  have bel := Below.refl w.heap.size w
  go_enter Try.func13, Try.ntmps13
  go_wp2_with fail
  refine (specSplitLines_any x0 _ (by omega)).mono ?_
  rintro e w1 ⟨A_w0, c_w0, rfl, o_w0, r1⟩
  have r1 := only_below r1
  have z1 := r1.size
  have bel := below_only bel r1 (by first | exact Nat.le_refl _ | omega) (by omega)
  clear r1
  have f_w0 := o_w0.rdS
  go_wp2_with fail
  refine (implSplitLines_any x0 _ (by omega)).mono ?_
  rintro e w2 ⟨A_g0, c_g0, rfl, o_g0, r2⟩
  have r2 := only_below r2
  have z2 := r2.size
  have bel := below_only bel r2 (by first | exact Nat.le_refl _ | omega) (by omega)
  have o_w0 := o_w0.only r2 (by omega) (by omega)
  have f_w0 := f_w0.only r2 (by omega) (by omega)
  clear r2
  have f_g0 := o_g0.rdS
  go_wp2_with fail
  refine (eqStringS_same _ _ (splitLines x0) _ _ _ _ _ _ _ _ _ (by have := splitLines_len x0; omega) (by exact f_g0) (by exact f_w0) rfl rfl).mono ?_
  rintro e w3 ⟨rfl, r3⟩
  have r3 := only_qt r3
  have z3 := r3.size
  have bel := below_only bel r3 (by first | exact Nat.le_refl _ | omega) (by omega)
  have o_w0 := o_w0.only r3 (by omega) (by omega)
  have f_w0 := f_w0.only r3 (by omega) (by omega)
  have o_g0 := o_g0.only r3 (by omega) (by omega)
  have f_g0 := f_g0.only r3 (by omega) (by omega)
  clear r3
  clear f_g0
  go_wp2_with fail
  refine (markStringS_any _ _ _ _ _ (1) _ _ (by have := splitLines_len x0; omega) (by omega) (by omega) o_g0 (by omega)).mono ?_
  rintro e w4 ⟨rfl, m_g0, r4⟩
  have z4 := r4.size
  have bel := below_only bel r4 (by first | exact Nat.le_refl _ | omega) (by omega)
  have o_w0 := o_w0.only r4 (by omega) (by omega)
  have f_w0 := f_w0.only r4 (by omega) (by omega)
  clear r4
  clear o_g0
  have f_g0 := m_g0.rdS
  clear m_g0
  go_wp2_with fail
  refine (heldStringS_any _ _ _ _ _ (1) _ (by have := splitLines_len x0; omega) (by omega) (by omega) (by exact f_g0) (by omega)).mono ?_
  rintro e w5 ⟨rfl, r5⟩
  have r5 := only_below r5
  have z5 := r5.size
  have bel := below_only bel r5 (by first | exact Nat.le_refl _ | omega) (by omega)
  have o_w0 := o_w0.only r5 (by omega) (by omega)
  have f_w0 := f_w0.only r5 (by omega) (by omega)
  have f_g0 := f_g0.only r5 (by omega) (by omega)
  clear r5
  go_wp2_with fail
  refine (implSplitLines_any x0 _ (by omega)).mono ?_
  rintro e w6 ⟨A_h0, c_h0, rfl, o_h0, r6⟩
  have r6 := only_below r6
  have z6 := r6.size
  have bel := below_only bel r6 (by first | exact Nat.le_refl _ | omega) (by omega)
  have o_w0 := o_w0.only r6 (by omega) (by omega)
  have f_w0 := f_w0.only r6 (by omega) (by omega)
  have f_g0 := f_g0.only r6 (by omega) (by omega)
  clear r6
  have f_h0 := o_h0.rdS
  go_wp2_with fail
  refine (eqStringS_same _ _ (splitLines x0) _ _ _ _ _ _ _ _ _ (by have := splitLines_len x0; omega) (by exact f_h0) (by exact f_w0) rfl rfl).mono ?_
  rintro e w7 ⟨rfl, r7⟩
  have r7 := only_qt r7
  have z7 := r7.size
  have bel := below_only bel r7 (by first | exact Nat.le_refl _ | omega) (by omega)
  have o_w0 := o_w0.only r7 (by omega) (by omega)
  have f_w0 := f_w0.only r7 (by omega) (by omega)
  have f_g0 := f_g0.only r7 (by omega) (by omega)
  have o_h0 := o_h0.only r7 (by omega) (by omega)
  have f_h0 := f_h0.only r7 (by omega) (by omega)
  clear r7
  go_wp2_with fail
  refine (heldStringS_any _ _ _ _ _ (1) _ (by have := splitLines_len x0; omega) (by omega) (by omega) (by exact f_g0) (by omega)).mono ?_
  rintro e w8 ⟨rfl, r8⟩
  have r8 := only_below r8
  have z8 := r8.size
  have bel := below_only bel r8 (by first | exact Nat.le_refl _ | omega) (by omega)
  have o_w0 := o_w0.only r8 (by omega) (by omega)
  have f_w0 := f_w0.only r8 (by omega) (by omega)
  have f_g0 := f_g0.only r8 (by omega) (by omega)
  have o_h0 := o_h0.only r8 (by omega) (by omega)
  have f_h0 := f_h0.only r8 (by omega) (by omega)
  clear r8
  go_wp2
  go_ret
  exact ⟨rfl, bel⟩

set_option maxRecDepth 100000 in
theorem lifted (os : Os) (started : os.Started) (H : Type) (enc : TypeId × Value → H) :
    ReturnsInHanded {} Try.checked os 13 .any (Rows.fnExactSplitLinesSpec.pre6 enc Try.prog Try.f13 Rows.fnExactSplitLinesRow.domain false) (Rows.fnExactSplitLinesSpec.post enc Try.prog Try.f13 false true false false) := by
  refine returnsInHanded_of_change (C := Try.checked) own started (by kernel_rfl) Try.func13
    (ChangeSpec.witness6 (enc := enc) (C := Try.checked) false ⟨#[], #[.string ByteArray.empty], []⟩ 8 (by kernel_rfl) (by kernel_rfl) (by kernel_rfl) (by kernel_rfl)) ?_
  intro W base args ds gs before hval0 hW hcnd _
  have hval : ∀ (j : Nat) t v, Try.f13.params[j]? = some t → args[j]? = some v → Value.okWide Try.prog W .any base t v := hval0
  have hW' := hW
  obtain ⟨p, q, hA0, hV, rfl, hfz, hnd⟩ := hW
  have hA : DataW.TrodAll enc Try.prog W 0 (fun _ => true) true Try.f13.params.toList args.toList ds p := hA0
  rw [Try.params13] at hA hval
  obtain ⟨v0, vs0, d0, ds0, p0, q0, hargs, rfl, rfl, h0, r0⟩ := trodAll_cons hA
  obtain ⟨rfl, rfl, rfl⟩ := trodAll_nil r0
  obtain rfl : args = #[v0] := by cases args; simp_all
  obtain ⟨rfl, rfl⟩ := trodVars_none hV
  obtain ⟨x0, rfl, rfl, rfl, i0⟩ := open_string Try.underlying9 (hval 0 9 v0 rfl rfl) h0
  clear hA0 hval0
  refine (walk x0 W ).mono fun e W' ⟨he, bel⟩ => ?_
  subst he
  exact ⟨_, rfl, _, _, _, [], _, [], hW', trodAll_mk1 (shut_bool Try.underlying4 _), (trodAll_cons_mk (shut_string Try.underlying9 i0) trodAll_mk0), rfl, bel.frame _, fun h => by cases h⟩
theorem over : Rows.fnExactSplitLinesRow.holds Try.pinned (OpenSpec.ofChange Rows.fnExactSplitLinesSpec) :=
  OpenClaim.holds_of_wide 13 Try.f13 rfl rfl rfl rfl rfl rfl rfl ⟨rfl, rfl, rfl, rfl, rfl⟩ rfl rfl rfl rfl rfl (by kernel_rfl) Try.func13 (by kernel_rfl)
    (of_decide_eq_true (by kernel_rfl)) (by unfold Func.isWrapper; first | (rw [if_pos (by decide +kernel)]; kernel_rfl) | (rw [if_neg (by decide +kernel)]; exact ⟨rfl, rfl⟩))
    (fun os started H enc _ => lifted os started H enc)
theorem proved : Rows.FnExactSplitLinesSaid := over
end Go.Proofs.Ytmiibhegfbgloaa.fnExactSplitLines
