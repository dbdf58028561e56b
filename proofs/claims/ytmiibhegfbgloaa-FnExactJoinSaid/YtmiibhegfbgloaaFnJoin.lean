/- For every input the law FnExactJoin returns true and its arguments read as before. No condition. -/
import Derived.Test.YtmiibhegfbgloaaRows
import Derived.Test.YtmiibhegfbgloaaOpen
import Derived.Test.YtmiibhegfbgloaaLaw
import Derived.Test.YtmiibhegfbgloaaLawS
import Derived.Test.YtmiibhegfbgloaaSets
import Derived.Test.YtmiibhegfbgloaaText
namespace Go.Proofs.Ytmiibhegfbgloaa.fnExactJoin
open Go.ChangeShapes Go.WideShapes Go.ChangeAt Go.RowKit
open Go.ChangeMaps (open_string shut_string)
set_option linter.unusedVariables false

theorem own : ownKnob Try.prog.godebug = none := by kernel_rfl
theorem laidOut : laidOutB Try.prog = true := by kernel_rfl

set_option maxHeartbeats 1600000 in
theorem walk (A_x0 : Option Addr) (x0 : List ByteArray) (c_x0 : Nat) (x1 : ByteArray) (w : World) (f_x0 : RdS w 0 w.heap.size A_x0 x0) (i_x0 : (∀ x ∈ x0, x.size ≤ 9223372036854775807) ∧ x0.length ≤ 9223372036854775807) :
    Calls Try.prog 14 #[.slice A_x0 x0.length c_x0, .string x1] w fun e w' => e = .returned (.bool true) ∧ Below w.heap.size w w' := by
  by_cases g_x1 : x1.size ≤ 1048576
  case neg =>
    go_enter Try.func14, Try.ntmps14
    go_wp2
    go_ret
    exact ⟨rfl, Below.refl _ _⟩
  have bel := Below.refl w.heap.size w
  go_enter Try.func14, Try.ntmps14
  go_wp2_with fail
  refine (szStringS_any _ x0 _ _ _ (1048576) _ (by omega) (by omega) i_x0.1 i_x0.2 (by exact f_x0)).mono ?_
  rintro e w1 ⟨r_x0, rfl, b_x0, r1⟩
  have r1 := only_qt r1
  have z1 := r1.size
  have bel := below_only bel r1 (by first | exact Nat.le_refl _ | omega) (by omega)
  have f_x0 := f_x0.only r1 (by omega) (by omega)
  clear r1
  rcases b_x0 with rfl | ⟨b1_x0, b2_x0, b3_x0⟩
  case inl =>
    go_wp2
    go_ret
    exact ⟨rfl, bel⟩
  have bb_x0 : x0.length + strBytes x0 ≤ 1048576 := by omega
  unfold strBytes at bb_x0 b3_x0
  have l_x0 : x0.length ≤ 1048576 := by omega
  clear b3_x0
  go_wp2_with fail
  refine (toStringS_any _ _ _ 0 w.heap.size _ (by omega) (by exact f_x0) (by omega)).mono ?_
  rintro e w2 ⟨A_x0s, c_x0s, rfl, o_x0s, r2⟩
  have r2 := only_below r2
  have z2 := r2.size
  have bel := below_only bel r2 (by first | exact Nat.le_refl _ | omega) (by omega)
  have f_x0 := f_x0.only r2 (by omega) (by omega)
  clear r2
  have f_x0s := o_x0s.rdS
  go_wp2_with fail
  refine (specJoin_any _ x0 _ _ _ x1 _ (by omega) (fun k _ => by have := joinB_take (l := x0) (y := x1) (a := 1048576) (b := 1048576) (by omega) (by omega) k; omega) (by exact f_x0s)).mono ?_
  rintro e w3 ⟨rfl, r3⟩
  have r3 := only_qt r3
  have z3 := r3.size
  have bel := below_only bel r3 (by first | exact Nat.le_refl _ | omega) (by omega)
  have f_x0 := f_x0.only r3 (by omega) (by omega)
  have o_x0s := o_x0s.only r3 (by omega) (by omega)
  have f_x0s := f_x0s.only r3 (by omega) (by omega)
  clear r3
  clear f_x0s
  clear o_x0s
  go_wp2_with fail
  refine (toStringS_any _ _ _ 0 w.heap.size _ (by omega) (by exact f_x0) (by omega)).mono ?_
  rintro e w4 ⟨A_x0x, c_x0x, rfl, o_x0x, r4⟩
  have r4 := only_below r4
  have z4 := r4.size
  have bel := below_only bel r4 (by first | exact Nat.le_refl _ | omega) (by omega)
  have f_x0 := f_x0.only r4 (by omega) (by omega)
  clear r4
  have f_x0x := o_x0x.rdS
  go_wp2_with fail
  refine (implJoin_any _ x0 _ _ _ x1 _ (by omega) (own_cap o_x0x) (by have := joinB_len (l := x0) (y := x1) (a := 1048576) (b := 1048576) (by omega) (by omega); omega) (by exact f_x0x) (by omega)).mono ?_
  rintro e w5 ⟨rfl, r5⟩
  have r5 := only_below r5
  have z5 := r5.size
  have bel := below_only bel r5 (by first | exact Nat.le_refl _ | omega) (by omega)
  have f_x0 := f_x0.only r5 (by omega) (by omega)
  have o_x0x := o_x0x.only r5 (by omega) (by omega)
  have f_x0x := f_x0x.only r5 (by omega) (by omega)
  clear r5
  go_wp2_with fail
  refine (toStringS_any _ _ _ 0 w.heap.size _ (by omega) (by exact f_x0) (by omega)).mono ?_
  rintro e w6 ⟨A_x0t, c_x0t, rfl, o_x0t, r6⟩
  have r6 := only_below r6
  have z6 := r6.size
  have bel := below_only bel r6 (by first | exact Nat.le_refl _ | omega) (by omega)
  have f_x0 := f_x0.only r6 (by omega) (by omega)
  have o_x0x := o_x0x.only r6 (by omega) (by omega)
  have f_x0x := f_x0x.only r6 (by omega) (by omega)
  clear r6
  have f_x0t := o_x0t.rdS
  go_wp2_with fail
  refine (eqStringS_same _ _ x0 _ _ _ _ _ _ _ _ _ (by omega) (by exact f_x0x) (by exact f_x0t) rfl rfl).mono ?_
  rintro e w7 ⟨rfl, r7⟩
  have r7 := only_qt r7
  have z7 := r7.size
  have bel := below_only bel r7 (by first | exact Nat.le_refl _ | omega) (by omega)
  have f_x0 := f_x0.only r7 (by omega) (by omega)
  have o_x0x := o_x0x.only r7 (by omega) (by omega)
  have f_x0x := f_x0x.only r7 (by omega) (by omega)
  have o_x0t := o_x0t.only r7 (by omega) (by omega)
  have f_x0t := f_x0t.only r7 (by omega) (by omega)
  clear r7
  clear f_x0t
  clear o_x0t
  go_wp2
  go_ret
  exact ⟨rfl, bel⟩

set_option maxRecDepth 100000 in
theorem lifted (os : Os) (started : os.Started) (H : Type) (enc : TypeId × Value → H) :
    ReturnsInHanded {} Try.checked os 14 .any (Rows.fnExactJoinSpec.pre6 enc Try.prog Try.f14 Rows.fnExactJoinRow.domain false) (Rows.fnExactJoinSpec.post enc Try.prog Try.f14 false true false false) := by
  refine returnsInHanded_of_change (C := Try.checked) own started (by kernel_rfl) Try.func14
    (ChangeSpec.witness6 (enc := enc) (C := Try.checked) false ⟨#[], #[.slice none 0 0, .string ByteArray.empty], []⟩ 8 (by kernel_rfl) (by kernel_rfl) (by kernel_rfl) (by kernel_rfl)) ?_
  intro W base args ds gs before hval0 hW hcnd _
  have hval : ∀ (j : Nat) t v, Try.f14.params[j]? = some t → args[j]? = some v → Value.okWide Try.prog W .any base t v := hval0
  have hW' := hW
  obtain ⟨p, q, hA0, hV, rfl, hfz, hnd⟩ := hW
  have hA : DataW.TrodAll enc Try.prog W 0 (fun _ => true) true Try.f14.params.toList args.toList ds p := hA0
  rw [Try.params14] at hA hval
  obtain ⟨v0, vs0, d0, ds0, p0, q0, hargs, rfl, rfl, h0, r0⟩ := trodAll_cons hA
  obtain ⟨v1, vs1, d1, ds1, p1, q1, rfl, rfl, rfl, h1, r1⟩ := trodAll_cons r0
  obtain ⟨rfl, rfl, rfl⟩ := trodAll_nil r1
  obtain rfl : args = #[v0, v1] := by cases args; simp_all
  obtain ⟨rfl, rfl⟩ := trodVars_none hV
  have k0 := h0
  have lt0 : ∀ x ∈ p0, x.block < W.heap.size := by obtain ⟨m, hm⟩ := k0; exact DataW.trod_lt m _ _ _ hm
  obtain ⟨A0, x0, c0, rfl, m0, i0⟩ := open_strS Try.underlying34 Try.underlying9 (by kernel_rfl) (hval 0 34 v0 rfl rfl) h0
  obtain ⟨x1, rfl, rfl, rfl, i1⟩ := open_string Try.underlying9 (hval 1 9 v1 rfl rfl) h1
  clear hA0 hval0
  refine (walk A0 x0 c0 x1 W m0 i0).mono fun e W' ⟨he, bel⟩ => ?_
  subst he
  exact ⟨_, rfl, _, _, _, [], _, [], hW', trodAll_mk1 (shut_bool Try.underlying4 _), (trodAll_cons_mk (Below.trod laidOut (by kernel_rfl) (of_decide_eq_true (by kernel_rfl)) k0 bel lt0) (trodAll_cons_mk (shut_string Try.underlying9 i1) trodAll_mk0)), rfl, bel.frame _, fun h => by cases h⟩
theorem over : Rows.fnExactJoinRow.holds Try.pinned (OpenSpec.ofChange Rows.fnExactJoinSpec) :=
  OpenClaim.holds_of_wide 14 Try.f14 rfl rfl rfl rfl rfl rfl rfl ⟨rfl, rfl, rfl, rfl, rfl⟩ rfl rfl rfl rfl rfl (by kernel_rfl) Try.func14 (by kernel_rfl)
    (of_decide_eq_true (by kernel_rfl)) (by unfold Func.isWrapper; first | (rw [if_pos (by decide +kernel)]; kernel_rfl) | (rw [if_neg (by decide +kernel)]; exact ⟨rfl, rfl⟩))
    (fun os started H enc _ => lifted os started H enc)
theorem proved : Rows.FnExactJoinSaid := over
end Go.Proofs.Ytmiibhegfbgloaa.fnExactJoin
