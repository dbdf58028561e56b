/- For every input the law FnExactFormatSteps returns true and its arguments read as before. No condition. -/
import Derived.Test.YtjmdlobhbabbcaaDoorRows
import Derived.Test.YtjmdlobhbabbcaaDoorOpen
import Derived.Test.YtjmdlobhbabbcaaDoorLaw
import Derived.Test.YtjmdlobhbabbcaaDoorLawSt
import Derived.Test.YtjmdlobhbabbcaaDoorSets
import Derived.Test.YtjmdlobhbabbcaaDoorFmt2
import Derived.Test.YtjmdlobhbabbcaaDoorLaidW
import Derived.Deep.RegionHeld3
import Derived.SevenTiedAt
namespace Go.Proofs.YtjmdlobhbabbcaaDoor.fnExactFormatSteps
open Go.ChangeShapes Go.WideShapes Go.ChangeAt Go.RowKit
open Go.ChangeMaps (open_string shut_string)
set_option linter.unusedVariables false

theorem own : ownKnob Tryd.prog.godebug = none := by kernel_rfl
theorem laidOut : laidOutB Tryd.prog = true := by kernel_rfl

set_option maxHeartbeats 1600000 in
theorem walk (A_x0 : Option Addr) (x0 : List (Int × Int)) (c_x0 : Nat) (w : World) (f_x0 : RdSt w 0 w.heap.size A_x0 x0) (i_x0 : x0.length ≤ 9223372036854775807) (ld : LdT w w.heap.size) :
    Calls Tryd.prog 5 #[.slice A_x0 x0.length c_x0] w fun e w' => e = .returned (.bool true) ∧ Below w.heap.size w w' := by
  have bel := Below.refl w.heap.size w
  go_enter Tryd.func5, Tryd.ntmps5
  go_wp2_with fail
  refine (szStepS_any _ x0.length _ (1048576) _ i_x0 (by omega) (by omega)).mono ?_
  rintro e w' ⟨r_x0, rfl, b_x0, rfl⟩
  rcases b_x0 with rfl | ⟨b1_x0, b2_x0, b3_x0⟩
  case inl =>
    go_wp2
    go_ret
    exact ⟨rfl, bel⟩
  have l_x0 : x0.length ≤ 1048576 := by omega
  go_wp2_with fail
  refine (toStepS_any _ _ _ 0 w.heap.size _ (by omega) (by exact f_x0) (by omega)).mono ?_
  rintro e w1 ⟨A_x0s, c_x0s, rfl, o_x0s, r1⟩
  have r1 := only_below r1
  have z1 := r1.size
  have bel := below_only bel r1 (by first | exact Nat.le_refl _ | omega) (by omega)
  have ld := ld.only r1 (by omega) (by omega)
  have f_x0 := f_x0.only r1 (by omega) (by omega)
  clear r1
  have f_x0s := o_x0s.rdSt
  go_wp2_with fail
  refine (specFormatSteps_any _ x0 _ _ _ _ (by omega) (by exact f_x0s) (by omega)).mono ?_
  rintro e w2 ⟨rfl, r2⟩
  have r2 := only_below r2
  have z2 := r2.size
  have bel := below_only bel r2 (by first | exact Nat.le_refl _ | omega) (by omega)
  have ld := ld.only r2 (by omega) (by omega)
  have f_x0 := f_x0.only r2 (by omega) (by omega)
  have o_x0s := o_x0s.only r2 (by omega) (by omega)
  have f_x0s := f_x0s.only r2 (by omega) (by omega)
  clear r2
  clear f_x0s
  clear o_x0s
  go_wp2_with fail
  refine (toStepS_any _ _ _ 0 w.heap.size _ (by omega) (by exact f_x0) (by omega)).mono ?_
  rintro e w3 ⟨A_x0x, c_x0x, rfl, o_x0x, r3⟩
  have r3 := only_below r3
  have z3 := r3.size
  have bel := below_only bel r3 (by first | exact Nat.le_refl _ | omega) (by omega)
  have ld := ld.only r3 (by omega) (by omega)
  have f_x0 := f_x0.only r3 (by omega) (by omega)
  clear r3
  have f_x0x := o_x0x.rdSt
  go_wp2_with fail
  refine (implFormatSteps_any _ x0 _ _ _ _ (by omega) (by exact f_x0x) (by omega) _ (by exact ld) (by omega)).mono ?_
  rintro e w4 ⟨rfl, r4⟩
  have r4 := only_below r4
  have z4 := r4.size
  have bel := below_only bel r4 (by first | exact Nat.le_refl _ | omega) (by omega)
  have ld := ld.only r4 (by omega) (by omega)
  have f_x0 := f_x0.only r4 (by omega) (by omega)
  have o_x0x := o_x0x.only r4 (by omega) (by omega)
  have f_x0x := f_x0x.only r4 (by omega) (by omega)
  clear r4
  go_wp2_with fail
  refine (toStepS_any _ _ _ 0 w.heap.size _ (by omega) (by exact f_x0) (by omega)).mono ?_
  rintro e w5 ⟨A_x0t, c_x0t, rfl, o_x0t, r5⟩
  have r5 := only_below r5
  have z5 := r5.size
  have bel := below_only bel r5 (by first | exact Nat.le_refl _ | omega) (by omega)
  have ld := ld.only r5 (by omega) (by omega)
  have f_x0 := f_x0.only r5 (by omega) (by omega)
  have o_x0x := o_x0x.only r5 (by omega) (by omega)
  have f_x0x := f_x0x.only r5 (by omega) (by omega)
  clear r5
  have f_x0t := o_x0t.rdSt
  go_wp2_with fail
  refine (eqStepS_same _ _ (x0) _ _ _ _ _ _ _ _ _ (by omega) (by exact f_x0x) (by exact f_x0t) rfl rfl (by omega) (by omega)).mono ?_
  rintro e w6 ⟨rfl, r6⟩
  have r6 := only_below r6
  have z6 := r6.size
  have bel := below_only bel r6 (by first | exact Nat.le_refl _ | omega) (by omega)
  have ld := ld.only r6 (by omega) (by omega)
  have f_x0 := f_x0.only r6 (by omega) (by omega)
  have o_x0x := o_x0x.only r6 (by omega) (by omega)
  have f_x0x := f_x0x.only r6 (by omega) (by omega)
  have o_x0t := o_x0t.only r6 (by omega) (by omega)
  have f_x0t := f_x0t.only r6 (by omega) (by omega)
  clear r6
  clear f_x0t
  clear o_x0t
  go_wp2
  go_ret
  exact ⟨rfl, bel⟩

theorem reads (os : Os) {H : Type} (enc : TypeId × Value → H) : ∃ x, DataW.whole enc Tryd.prog ((laidWorld os).forCall (fun _ _ => 0) ⟨#[], #[.slice none 0 0], []⟩).memory Tryd.f5.params.toList Rows.fnExactFormatStepsSpec.vars false #[(.slice none 0 0 : Value)].toList 8 = some x := by
  have h : (DataW.whole enc Tryd.prog ((laidWorld os).forCall (fun _ _ => 0) ⟨#[], #[.slice none 0 0], []⟩).memory Tryd.f5.params.toList Rows.fnExactFormatStepsSpec.vars false #[(.slice none 0 0 : Value)].toList 8).isSome = true := by kernel_rfl
  exact Option.isSome_iff_exists.1 h
set_option maxRecDepth 100000 in
theorem lifted (os : Os) (started : os.Started) (H : Type) (enc : TypeId × Value → H) (F : Stop.Interp) :
    ReturnsInHanded {} Tryd.checked os 5 .any ((OpenSpec.ofChange Rows.fnExactFormatStepsSpec).preRow enc Tryd.prog Tryd.f5 Rows.fnExactFormatStepsRow.domain false Rows.fnExactFormatStepsRow.laid) (((OpenSpec.ofChange Rows.fnExactFormatStepsSpec).at F).post enc Tryd.prog Tryd.f5 false true false false) := by
  obtain ⟨x, hx⟩ := reads os enc
  refine returnsInHanded_of_row (C := Tryd.checked) (s := OpenSpec.ofChange Rows.fnExactFormatStepsSpec) ownP started (by kernel_rfl) Tryd.func5
    (witness_row_at (enc := enc) (C := Tryd.checked) false (laidWorld os) #[.slice none 0 0] rfl (by kernel_rfl) (by kernel_rfl) (by kernel_rfl)
      (OpenSpec.preRow_of_cond 8 hx rfl (fun k hk => by cases hk) (by kernel_rfl) (laid_met os _))) ?_
  intro W base args ds gs before hval0 hW _ _ _ hL hSh _
  have hval : ∀ (j : Nat) t v, Tryd.f5.params[j]? = some t → args[j]? = some v → Value.okWide Tryd.prog W .any base t v := hval0
  have hW' := hW
  obtain ⟨p, q, hA0, hV, rfl, hfz, hnd⟩ := hW
  have hA : DataW.TrodAll enc Tryd.prog W 0 (fun _ => true) true Tryd.f5.params.toList args.toList ds p := hA0
  rw [Tryd.params5] at hA hval
  obtain ⟨v0, vs0, d0, ds0, p0, q0, hargs, rfl, rfl, h0, r0⟩ := trodAll_cons hA
  obtain ⟨rfl, rfl, rfl⟩ := trodAll_nil r0
  obtain rfl : args = #[v0] := by cases args; simp_all
  obtain ⟨rfl, rfl⟩ := trodVars_none hV
  have k0 := h0
  have lt0 : ∀ x ∈ p0, x.block < W.heap.size := by obtain ⟨m, hm⟩ := k0; exact DataW.trod_lt m _ _ _ hm
  obtain ⟨A0, x0, c0, rfl, m0, i0⟩ := open_stepS Tryd.underlying29 Tryd.underlying74 (by kernel_rfl) (by kernel_rfl) Tryd.underlying3 Tryd.underlying3 (hval 0 29 v0 rfl rfl) h0
  clear hA0 hval0
  refine (walk A0 x0 c0 W m0 i0 (ldT_of hL)).mono fun e W' ⟨he, bel⟩ => ?_
  subst he
  exact ⟨_, rfl, _, _, _, [], _, [], hW', trodAll_mk1 (shut_bool Tryd.underlying4 _), (trodAll_cons_mk (Below.trod laidOut (by kernel_rfl) (of_decide_eq_true (by kernel_rfl)) k0 bel lt0) trodAll_mk0), rfl, bel.frame _, fun h => by cases h⟩
theorem over : Rows.FnExactFormatStepsSaid :=
  OpenClaim.holds_of_cond 5 Tryd.f5 rfl rfl rfl rfl rfl rfl rfl ⟨rfl, rfl, rfl, rfl, rfl⟩ rfl rfl rfl rfl rfl (by kernel_rfl) Tryd.func5 (by kernel_rfl)
    (of_decide_eq_true (by kernel_rfl)) (by unfold Func.isWrapper; first | (rw [if_pos (by decide +kernel)]; kernel_rfl) | (rw [if_neg (by decide +kernel)]; exact ⟨rfl, rfl⟩))
    (fun os started H enc _ F => by rw [OpenClaim.pre_eq_preRow]; exact lifted os started H enc F)
theorem plain (f : FuncId) (fn : Func) (hf : Tryd.pinned.checked.prog.funcNamed Rows.fnExactFormatStepsRow.func = some f) (hfn : Tryd.pinned.checked.prog.funcs[f]? = some fn) :
    true = Tryd.pinned.checked.prog.looks [] ∧ ∀ (j : Nat) t, fn.params[j]? = some t → Tryd.pinned.checked.prog.wantsStandIn t = false := by
  obtain rfl : f = 5 := Option.some.inj ((show Tryd.prog.funcNamed Rows.fnExactFormatStepsRow.func = some 5 by kernel_rfl).symm.trans hf) |>.symm
  obtain rfl : fn = Tryd.f5 := (Option.some.inj (Tryd.func5.symm.trans hfn)).symm
  refine ⟨by kernel_rfl, fun j t ht => ?_⟩
  rw [Tryd.params5] at ht
  have ht2 := Array.mem_of_getElem? ht
  simp only [List.mem_toArray, List.mem_cons, List.not_mem_nil, or_false] at ht2
  rcases ht2 with rfl
  · exact (show Tryd.prog.wantsStandIn 29 = false by kernel_rfl)
theorem proved : Rows.FnExactFormatStepsCardSaid :=
  Claim7.holds_tied_plain_at .later [] _ _ _ _ over (fun _ h => by cases h) (by kernel_rfl) (fun _ h => by cases h) fnExactFormatSteps_row_tie rfl ⟨rfl, rfl⟩ (by kernel_rfl) rfl plain (by kernel_rfl)
end Go.Proofs.YtjmdlobhbabbcaaDoor.fnExactFormatSteps
