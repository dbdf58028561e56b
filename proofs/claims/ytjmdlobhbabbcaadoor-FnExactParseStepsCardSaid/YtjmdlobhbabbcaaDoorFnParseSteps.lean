/- For every input the law FnExactParseSteps returns true and its arguments read as before. No condition. -/
import Derived.Test.YtjmdlobhbabbcaaDoorRows
import Derived.Test.YtjmdlobhbabbcaaDoorOpen
import Derived.Test.YtjmdlobhbabbcaaDoorLaw
import Derived.Test.YtjmdlobhbabbcaaDoorLawSt
import Derived.Test.YtjmdlobhbabbcaaDoorSets
import Derived.Test.YtjmdlobhbabbcaaDoorFmt4
import Derived.Test.YtjmdlobhbabbcaaDoorLaidW
import Derived.Deep.RegionHeld3
import Derived.SevenTiedAt
namespace Go.Proofs.YtjmdlobhbabbcaaDoor.fnExactParseSteps
open Go.ChangeShapes Go.WideShapes Go.ChangeAt Go.RowKit
open Go.ChangeMaps (open_string shut_string)
set_option linter.unusedVariables false

theorem own : ownKnob Tryd.prog.godebug = none := by kernel_rfl
theorem laidOut : laidOutB Tryd.prog = true := by kernel_rfl

set_option maxHeartbeats 1600000 in
theorem walk (x0 : ByteArray) (w : World)  (ld : LdC w w.heap.size) :
    Calls Tryd.prog 10 #[.string x0] w fun e w' => e = .returned (.bool true) ∧ Below w.heap.size w w' := by
  by_cases g_x0 : x0.size ≤ 1048576
  case neg =>
    go_enter Tryd.func10, Tryd.ntmps10
    go_wp2
    go_ret
    exact ⟨rfl, by repeat' (first | exact Below.refl _ _ | refine Below.alloc ?_ (by simp) _)⟩
  have bel := Below.refl w.heap.size w
  go_enter Tryd.func10, Tryd.ntmps10
  go_wp2_with fail
  refine (specParseSteps_any x0 _ (by omega)).mono ?_
  rintro e w1 ⟨A_w0, c_w0, rfl, o_w0, r1⟩
  have r1 := only_below r1
  have z1 := r1.size
  have bel := below_only bel r1 (by first | exact Nat.le_refl _ | omega) (by omega)
  have ld := ld.only r1 (by omega) (by omega)
  clear r1
  have f_w0 := o_w0.rdSt
  go_wp2_with fail
  refine (implParseSteps_any x0 _ (by omega) _ (by exact ld) (by omega)).mono ?_
  rintro e w2 ⟨A_g0, c_g0, rfl, o_g0, r2⟩
  have r2 := only_below r2
  have z2 := r2.size
  have bel := below_only bel r2 (by first | exact Nat.le_refl _ | omega) (by omega)
  have ld := ld.only r2 (by omega) (by omega)
  have o_w0 := o_w0.only r2 (by omega) (by omega)
  have f_w0 := f_w0.only r2 (by omega) (by omega)
  clear r2
  have f_g0 := o_g0.rdSt
  go_wp2_with fail
  refine (eqStepS_same _ _ ((parSt x0).1) _ _ _ _ _ _ _ _ _ (by have := parSt_len x0; omega) (by exact f_g0) (by exact f_w0) rfl rfl (by omega) (by omega)).mono ?_
  rintro e w3 ⟨rfl, r3⟩
  have r3 := only_below r3
  have z3 := r3.size
  have bel := below_only bel r3 (by first | exact Nat.le_refl _ | omega) (by omega)
  have ld := ld.only r3 (by omega) (by omega)
  have o_w0 := o_w0.only r3 (by omega) (by omega)
  have f_w0 := f_w0.only r3 (by omega) (by omega)
  have o_g0 := o_g0.only r3 (by omega) (by omega)
  have f_g0 := f_g0.only r3 (by omega) (by omega)
  clear r3
  clear f_g0
  go_wp2_with fail
  refine (markStepS_any _ _ _ _ _ (1) _ _ (by have := parSt_len x0; omega) (by omega) (by omega) o_g0 (by omega)).mono ?_
  rintro e w4 ⟨rfl, m_g0, r4⟩
  have z4 := r4.size
  have bel := below_only bel r4 (by first | exact Nat.le_refl _ | omega) (by omega)
  have ld := ld.only r4 (by omega) (by omega)
  have o_w0 := o_w0.only r4 (by omega) (by omega)
  have f_w0 := f_w0.only r4 (by omega) (by omega)
  clear r4
  clear o_g0
  have f_g0 := m_g0.rdSt
  clear m_g0
  go_wp2_with fail
  refine (heldStepS_any _ _ _ _ _ (1) _ (by have := parSt_len x0; omega) (by omega) (by omega) (by exact f_g0)).mono ?_
  rintro e w5 ⟨rfl, r5⟩
  have r5 := only_qt r5
  have z5 := r5.size
  have bel := below_only bel r5 (by first | exact Nat.le_refl _ | omega) (by omega)
  have ld := ld.only r5 (by omega) (by omega)
  have o_w0 := o_w0.only r5 (by omega) (by omega)
  have f_w0 := f_w0.only r5 (by omega) (by omega)
  have f_g0 := f_g0.only r5 (by omega) (by omega)
  clear r5
  go_wp2_with fail
  refine (implParseSteps_any x0 _ (by omega) _ (by exact ld) (by omega)).mono ?_
  rintro e w6 ⟨A_h0, c_h0, rfl, o_h0, r6⟩
  have r6 := only_below r6
  have z6 := r6.size
  have bel := below_only bel r6 (by first | exact Nat.le_refl _ | omega) (by omega)
  have ld := ld.only r6 (by omega) (by omega)
  have o_w0 := o_w0.only r6 (by omega) (by omega)
  have f_w0 := f_w0.only r6 (by omega) (by omega)
  have f_g0 := f_g0.only r6 (by omega) (by omega)
  clear r6
  have f_h0 := o_h0.rdSt
  go_wp2_with fail
  refine (eqStepS_same _ _ ((parSt x0).1) _ _ _ _ _ _ _ _ _ (by have := parSt_len x0; omega) (by exact f_h0) (by exact f_w0) rfl rfl (by omega) (by omega)).mono ?_
  rintro e w7 ⟨rfl, r7⟩
  have r7 := only_below r7
  have z7 := r7.size
  have bel := below_only bel r7 (by first | exact Nat.le_refl _ | omega) (by omega)
  have ld := ld.only r7 (by omega) (by omega)
  have o_w0 := o_w0.only r7 (by omega) (by omega)
  have f_w0 := f_w0.only r7 (by omega) (by omega)
  have f_g0 := f_g0.only r7 (by omega) (by omega)
  have o_h0 := o_h0.only r7 (by omega) (by omega)
  have f_h0 := f_h0.only r7 (by omega) (by omega)
  clear r7
  go_wp2_with fail
  refine (heldStepS_any _ _ _ _ _ (1) _ (by have := parSt_len x0; omega) (by omega) (by omega) (by exact f_g0)).mono ?_
  rintro e w8 ⟨rfl, r8⟩
  have r8 := only_qt r8
  have z8 := r8.size
  have bel := below_only bel r8 (by first | exact Nat.le_refl _ | omega) (by omega)
  have ld := ld.only r8 (by omega) (by omega)
  have o_w0 := o_w0.only r8 (by omega) (by omega)
  have f_w0 := f_w0.only r8 (by omega) (by omega)
  have f_g0 := f_g0.only r8 (by omega) (by omega)
  have o_h0 := o_h0.only r8 (by omega) (by omega)
  have f_h0 := f_h0.only r8 (by omega) (by omega)
  clear r8
  go_wp2
  go_ret
  exact ⟨rfl, bel⟩

theorem reads (os : Os) {H : Type} (enc : TypeId × Value → H) : ∃ x, DataW.whole enc Tryd.prog ((laidWorldE os).forCall (fun _ _ => 0) ⟨#[], #[.string ByteArray.empty], []⟩).memory Tryd.f10.params.toList Rows.fnExactParseStepsSpec.vars false #[(.string ByteArray.empty : Value)].toList 8 = some x := by
  have h : (DataW.whole enc Tryd.prog ((laidWorldE os).forCall (fun _ _ => 0) ⟨#[], #[.string ByteArray.empty], []⟩).memory Tryd.f10.params.toList Rows.fnExactParseStepsSpec.vars false #[(.string ByteArray.empty : Value)].toList 8).isSome = true := by kernel_rfl
  exact Option.isSome_iff_exists.1 h
set_option maxRecDepth 100000 in
theorem lifted (os : Os) (started : os.Started) (H : Type) (enc : TypeId × Value → H) (F : Stop.Interp) :
    ReturnsInHanded {} Tryd.checked os 10 .any ((OpenSpec.ofChange Rows.fnExactParseStepsSpec).preRow enc Tryd.prog Tryd.f10 Rows.fnExactParseStepsRow.domain false Rows.fnExactParseStepsRow.laid) (((OpenSpec.ofChange Rows.fnExactParseStepsSpec).at F).post enc Tryd.prog Tryd.f10 false true false false) := by
  obtain ⟨x, hx⟩ := reads os enc
  refine returnsInHanded_of_row (C := Tryd.checked) (s := OpenSpec.ofChange Rows.fnExactParseStepsSpec) ownP started (by kernel_rfl) Tryd.func10
    (witness_row_at (enc := enc) (C := Tryd.checked) false (laidWorldE os) #[.string ByteArray.empty] rfl (by kernel_rfl) (by kernel_rfl) (by kernel_rfl)
      (OpenSpec.preRow_of_cond 8 hx rfl (fun k hk => by cases hk) (by kernel_rfl) (laid_metE os _))) ?_
  intro W base args ds gs before hval0 hW _ _ _ hL hSh _
  have hval : ∀ (j : Nat) t v, Tryd.f10.params[j]? = some t → args[j]? = some v → Value.okWide Tryd.prog W .any base t v := hval0
  have hW' := hW
  obtain ⟨p, q, hA0, hV, rfl, hfz, hnd⟩ := hW
  have hA : DataW.TrodAll enc Tryd.prog W 0 (fun _ => true) true Tryd.f10.params.toList args.toList ds p := hA0
  rw [Tryd.params10] at hA hval
  obtain ⟨v0, vs0, d0, ds0, p0, q0, hargs, rfl, rfl, h0, r0⟩ := trodAll_cons hA
  obtain ⟨rfl, rfl, rfl⟩ := trodAll_nil r0
  obtain rfl : args = #[v0] := by cases args; simp_all
  obtain ⟨rfl, rfl⟩ := trodVars_none hV
  obtain ⟨x0, rfl, rfl, rfl, i0⟩ := open_string Tryd.underlying9 (hval 0 9 v0 rfl rfl) h0
  clear hA0 hval0
  refine (walk x0 W (ldC_of hL hSh)).mono fun e W' ⟨he, bel⟩ => ?_
  subst he
  exact ⟨_, rfl, _, _, _, [], _, [], hW', trodAll_mk1 (shut_bool Tryd.underlying4 _), (trodAll_cons_mk (shut_string Tryd.underlying9 i0) trodAll_mk0), rfl, bel.frame _, fun h => by cases h⟩
theorem over : Rows.FnExactParseStepsSaid :=
  OpenClaim.holds_of_cond 10 Tryd.f10 rfl rfl rfl rfl rfl rfl rfl ⟨rfl, rfl, rfl, rfl, rfl⟩ rfl rfl rfl rfl rfl (by kernel_rfl) Tryd.func10 (by kernel_rfl)
    (of_decide_eq_true (by kernel_rfl)) (by unfold Func.isWrapper; first | (rw [if_pos (by decide +kernel)]; kernel_rfl) | (rw [if_neg (by decide +kernel)]; exact ⟨rfl, rfl⟩))
    (fun os started H enc _ F => by rw [OpenClaim.pre_eq_preRow]; exact lifted os started H enc F)
theorem plain (f : FuncId) (fn : Func) (hf : Tryd.pinned.checked.prog.funcNamed Rows.fnExactParseStepsRow.func = some f) (hfn : Tryd.pinned.checked.prog.funcs[f]? = some fn) :
    true = Tryd.pinned.checked.prog.looks [] ∧ ∀ (j : Nat) t, fn.params[j]? = some t → Tryd.pinned.checked.prog.wantsStandIn t = false := by
  obtain rfl : f = 10 := Option.some.inj ((show Tryd.prog.funcNamed Rows.fnExactParseStepsRow.func = some 10 by kernel_rfl).symm.trans hf) |>.symm
  obtain rfl : fn = Tryd.f10 := (Option.some.inj (Tryd.func10.symm.trans hfn)).symm
  refine ⟨by kernel_rfl, fun j t ht => ?_⟩
  rw [Tryd.params10] at ht
  have ht2 := Array.mem_of_getElem? ht
  simp only [List.mem_toArray, List.mem_cons, List.not_mem_nil, or_false] at ht2
  rcases ht2 with rfl
  · exact (show Tryd.prog.wantsStandIn 9 = false by kernel_rfl)
theorem proved : Rows.FnExactParseStepsCardSaid :=
  Claim7.holds_tied_plain_at .later [] _ _ _ _ over (fun _ h => by cases h) (by kernel_rfl) (fun _ h => by cases h) fnExactParseSteps_row_tie rfl ⟨rfl, rfl⟩ (by kernel_rfl) rfl plain (by kernel_rfl)
end Go.Proofs.YtjmdlobhbabbcaaDoor.fnExactParseSteps
