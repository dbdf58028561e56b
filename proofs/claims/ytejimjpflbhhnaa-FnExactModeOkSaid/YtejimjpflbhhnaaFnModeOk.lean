/- For every input the law FnExactModeOk returns true and its arguments read as before. No condition. -/
import Derived.Test.YtejimjpflbhhnaaRows
import Derived.Test.YtejimjpflbhhnaaOpen
import Derived.Test.YtejimjpflbhhnaaLaw
import Derived.Test.YtejimjpflbhhnaaLawMd
import Derived.Test.YtejimjpflbhhnaaSets
import Derived.Test.YtejimjpflbhhnaaModes
import Derived.Deep.RegionHeld3
namespace Go.Proofs.Ytejimjpflbhhnaa.fnExactModeOk
open Go.ChangeShapes Go.WideShapes Go.ChangeAt Go.RowKit
open Go.ChangeMaps (open_string shut_string)
set_option linter.unusedVariables false

theorem own : ownKnob Try.prog.godebug = none := by kernel_rfl
theorem laidOut : laidOutB Try.prog = true := by kernel_rfl

set_option maxHeartbeats 1600000 in
theorem walk (U_x0 C_x0 : Option Addr) (x0 : Md) (cu_x0 cc_x0 : Nat) (x1 : Int) (x2 : Int) (w : World) (fU_x0 : RdI w 0 w.heap.size U_x0 x0.use) (fC_x0 : RdI w 0 w.heap.size C_x0 x0.con) (i_x0 : x0.use.length ≤ 9223372036854775807 ∧ x0.con.length ≤ 9223372036854775807) (i_x1 : (Lit.int .i64 x1).wf = true) (i_x2 : (Lit.int .i64 x2).wf = true) :
    Calls Try.prog 10 #[.agg #[.int .i64 x0.dur, .slice U_x0 x0.use.length cu_x0, .slice C_x0 x0.con.length cc_x0], .int .i64 x1, .int .i64 x2] w fun e w' => e = .returned (.bool true) ∧ Below w.heap.size w w' := by
  have bel := Below.refl w.heap.size w
  go_enter Try.func10, Try.ntmps10
  go_wp2_with fail
  refine at_world fun w1 hW => ?_
  have rW : Only w.heap.size w.heap.size w w1 := by rw [hW]; (repeat' (first | exact Only.refl _ _ _ | refine Only.alloc ?_ _))
  have z1 := rW.size
  have fU_x0 := fU_x0.only rW (by omega) (by omega)
  have fC_x0 := fC_x0.only rW (by omega) (by omega)
  have kb_x0 : Bk w1 w.heap.size 40 #[.int .i64 x0.dur, .slice U_x0 x0.use.length cu_x0, .slice C_x0 x0.con.length cc_x0] := by rw [hW]; exact Bk.made _ _ _
  have bel := below_only bel rW (by omega) (by omega)
  clear hW rW
  refine (szMode_any _ _ _ _ _ _ _ (1048576) _ i_x0.1 i_x0.2 (by omega) (by omega)).mono ?_
  rintro e w2 ⟨r_x0, rfl, b_x0, r2⟩
  have r2 := only_below r2
  have z2 := r2.size
  have bel := below_only bel r2 (by first | exact Nat.le_refl _ | omega) (by omega)
  have fU_x0 := fU_x0.only r2 (by omega) (by omega)
  have fC_x0 := fC_x0.only r2 (by omega) (by omega)
  have kb_x0 := kb_x0.only r2 (by omega)
  clear r2
  have q0_kb_x0 := kb_x0.cell 0
  have q1_kb_x0 := kb_x0.cell 1
  have q2_kb_x0 := kb_x0.cell 2
  simp only [List.getElem?_toArray, List.getElem?_cons_succ, List.getElem?_cons_zero] at q0_kb_x0 q1_kb_x0 q2_kb_x0
  rcases b_x0 with rfl | ⟨b1_x0, b2_x0, b3_x0⟩
  case inl =>
    go_wp2
    go_ret
    exact ⟨rfl, bel⟩
  have l_x0 : x0.use.length ≤ 1048576 := by omega
  have m_x0 : x0.con.length ≤ 1048576 := by omega
  go_wp2_with fail
  refine at_world fun w3 hW => ?_
  have rW : Only w2.heap.size w2.heap.size w2 w3 := by rw [hW]; (repeat' (first | exact Only.refl _ _ _ | refine Only.alloc ?_ _))
  have z3 := rW.size
  clear q0_kb_x0 q1_kb_x0 q2_kb_x0
  have fU_x0 := fU_x0.only rW (by omega) (by omega)
  have fC_x0 := fC_x0.only rW (by omega) (by omega)
  have kb_x0 := kb_x0.only rW (by omega)
  have bel := below_only bel rW (by omega) (by omega)
  clear hW rW
  refine (toMode_any x0 _ _ _ _ 0 w.heap.size _ (by omega) (by omega) (by exact fU_x0) (by exact fC_x0) (by omega)).mono ?_
  rintro e w4 ⟨U_x0s, cu_x0s, C_x0s, cc_x0s, rfl, oU_x0s, oC_x0s, r4⟩
  have r4 := only_below r4
  have z4 := r4.size
  have bel := below_only bel r4 (by first | exact Nat.le_refl _ | omega) (by omega)
  have fU_x0 := fU_x0.only r4 (by omega) (by omega)
  have fC_x0 := fC_x0.only r4 (by omega) (by omega)
  have kb_x0 := kb_x0.only r4 (by omega)
  clear r4
  have q0_kb_x0 := kb_x0.cell 0
  have q1_kb_x0 := kb_x0.cell 1
  have q2_kb_x0 := kb_x0.cell 2
  simp only [List.getElem?_toArray, List.getElem?_cons_succ, List.getElem?_cons_zero] at q0_kb_x0 q1_kb_x0 q2_kb_x0
  have fU_x0s := oU_x0s.rdI
  have fC_x0s := oC_x0s.rdI
  go_wp2_with fail
  refine at_world fun w5 hW => ?_
  have rW : Only w4.heap.size w4.heap.size w4 w5 := by rw [hW]; (repeat' (first | exact Only.refl _ _ _ | refine Only.alloc ?_ _))
  have z5 := rW.size
  clear q0_kb_x0 q1_kb_x0 q2_kb_x0
  have fU_x0 := fU_x0.only rW (by omega) (by omega)
  have fC_x0 := fC_x0.only rW (by omega) (by omega)
  have oU_x0s := oU_x0s.only rW (by omega) (by omega)
  have fU_x0s := fU_x0s.only rW (by omega) (by omega)
  have oC_x0s := oC_x0s.only rW (by omega) (by omega)
  have fC_x0s := fC_x0s.only rW (by omega) (by omega)
  have kb_x0 := kb_x0.only rW (by omega)
  have bel := below_only bel rW (by omega) (by omega)
  clear hW rW
  refine (specModeOk_any _ _ x0 _ _ _ _ x1 x2 _ (by omega) (by omega) (by exact fU_x0s) (by exact fC_x0s) (by omega)).mono ?_
  rintro e w6 ⟨rfl, r6⟩
  have r6 := only_below r6
  have z6 := r6.size
  have bel := below_only bel r6 (by first | exact Nat.le_refl _ | omega) (by omega)
  have fU_x0 := fU_x0.only r6 (by omega) (by omega)
  have fC_x0 := fC_x0.only r6 (by omega) (by omega)
  have oU_x0s := oU_x0s.only r6 (by omega) (by omega)
  have fU_x0s := fU_x0s.only r6 (by omega) (by omega)
  have oC_x0s := oC_x0s.only r6 (by omega) (by omega)
  have fC_x0s := fC_x0s.only r6 (by omega) (by omega)
  have kb_x0 := kb_x0.only r6 (by omega)
  clear r6
  have q0_kb_x0 := kb_x0.cell 0
  have q1_kb_x0 := kb_x0.cell 1
  have q2_kb_x0 := kb_x0.cell 2
  simp only [List.getElem?_toArray, List.getElem?_cons_succ, List.getElem?_cons_zero] at q0_kb_x0 q1_kb_x0 q2_kb_x0
  clear fU_x0s
  clear fC_x0s
  clear oU_x0s
  clear oC_x0s
  go_wp2_with fail
  refine at_world fun w7 hW => ?_
  have rW : Only w6.heap.size w6.heap.size w6 w7 := by rw [hW]; (repeat' (first | exact Only.refl _ _ _ | refine Only.alloc ?_ _))
  have z7 := rW.size
  clear q0_kb_x0 q1_kb_x0 q2_kb_x0
  have fU_x0 := fU_x0.only rW (by omega) (by omega)
  have fC_x0 := fC_x0.only rW (by omega) (by omega)
  have kb_x0 := kb_x0.only rW (by omega)
  have bel := below_only bel rW (by omega) (by omega)
  clear hW rW
  refine (toMode_any x0 _ _ _ _ 0 w.heap.size _ (by omega) (by omega) (by exact fU_x0) (by exact fC_x0) (by omega)).mono ?_
  rintro e w8 ⟨U_x0x, cu_x0x, C_x0x, cc_x0x, rfl, oU_x0x, oC_x0x, r8⟩
  have r8 := only_below r8
  have z8 := r8.size
  have bel := below_only bel r8 (by first | exact Nat.le_refl _ | omega) (by omega)
  have fU_x0 := fU_x0.only r8 (by omega) (by omega)
  have fC_x0 := fC_x0.only r8 (by omega) (by omega)
  have kb_x0 := kb_x0.only r8 (by omega)
  clear r8
  have q0_kb_x0 := kb_x0.cell 0
  have q1_kb_x0 := kb_x0.cell 1
  have q2_kb_x0 := kb_x0.cell 2
  simp only [List.getElem?_toArray, List.getElem?_cons_succ, List.getElem?_cons_zero] at q0_kb_x0 q1_kb_x0 q2_kb_x0
  have fU_x0x := oU_x0x.rdI
  have fC_x0x := oC_x0x.rdI
  go_wp2_with fail
  refine at_world fun w9 hW => ?_
  have rW : Only w8.heap.size w8.heap.size w8 w9 := by rw [hW]; (repeat' (first | exact Only.refl _ _ _ | refine Only.alloc ?_ _))
  have z9 := rW.size
  clear q0_kb_x0 q1_kb_x0 q2_kb_x0
  have fU_x0 := fU_x0.only rW (by omega) (by omega)
  have fC_x0 := fC_x0.only rW (by omega) (by omega)
  have oU_x0x := oU_x0x.only rW (by omega) (by omega)
  have fU_x0x := fU_x0x.only rW (by omega) (by omega)
  have oC_x0x := oC_x0x.only rW (by omega) (by omega)
  have fC_x0x := fC_x0x.only rW (by omega) (by omega)
  have kb_x0 := kb_x0.only rW (by omega)
  have kb_x0x : Bk w9 w8.heap.size 43 #[.int .i64 x0.dur, .slice U_x0x x0.use.length cu_x0x, .slice C_x0x x0.con.length cc_x0x] := by rw [hW]; exact Bk.made _ _ _
  have bel := below_only bel rW (by omega) (by omega)
  clear hW rW
  refine (implModeOk_any _ _ x0 _ _ _ _ x1 x2 _ (by omega) (by omega) (by exact fU_x0x) (by exact fC_x0x) (by omega)).mono ?_
  rintro e w10 ⟨rfl, r10⟩
  have r10 := only_below r10
  have z10 := r10.size
  have bel := below_only bel r10 (by first | exact Nat.le_refl _ | omega) (by omega)
  have fU_x0 := fU_x0.only r10 (by omega) (by omega)
  have fC_x0 := fC_x0.only r10 (by omega) (by omega)
  have oU_x0x := oU_x0x.only r10 (by omega) (by omega)
  have fU_x0x := fU_x0x.only r10 (by omega) (by omega)
  have oC_x0x := oC_x0x.only r10 (by omega) (by omega)
  have fC_x0x := fC_x0x.only r10 (by omega) (by omega)
  have kb_x0 := kb_x0.only r10 (by omega)
  have kb_x0x := kb_x0x.only r10 (by omega)
  clear r10
  have q0_kb_x0 := kb_x0.cell 0
  have q1_kb_x0 := kb_x0.cell 1
  have q2_kb_x0 := kb_x0.cell 2
  have q0_kb_x0x := kb_x0x.cell 0
  have q1_kb_x0x := kb_x0x.cell 1
  have q2_kb_x0x := kb_x0x.cell 2
  simp only [List.getElem?_toArray, List.getElem?_cons_succ, List.getElem?_cons_zero] at q0_kb_x0 q1_kb_x0 q2_kb_x0 q0_kb_x0x q1_kb_x0x q2_kb_x0x
  have hL : w10.heap.size ≤ w10.heap.size := Nat.le_refl _
  go_wp2_with fail
  go_region_held3 (fun w' => (w'.cell? ⟨w.heap.size, 0, none⟩ = some (.int .i64 x0.dur) ∧ w'.cell? ⟨w.heap.size, 1, none⟩ = some (.slice U_x0 x0.use.length cu_x0) ∧ w'.cell? ⟨w.heap.size, 2, none⟩ = some (.slice C_x0 x0.con.length cc_x0) ∧ w'.cell? ⟨w8.heap.size, 0, none⟩ = some (.int .i64 x0.dur) ∧ w'.cell? ⟨w8.heap.size, 1, none⟩ = some (.slice U_x0x x0.use.length cu_x0x) ∧ w'.cell? ⟨w8.heap.size, 2, none⟩ = some (.slice C_x0x x0.con.length cc_x0x)) ∧ Only w10.heap.size w10.heap.size w10 w' ∧ w10.heap.size ≤ w'.heap.size)
    (first | exact ⟨⟨q0_kb_x0, q1_kb_x0, q2_kb_x0, q0_kb_x0x, q1_kb_x0x, q2_kb_x0x⟩, (Only.refl _ _ _).drew, hL⟩ | (go_split_ands; exact (fun hO => ⟨⟨only_cell hO q0_kb_x0, only_cell hO q1_kb_x0, only_cell hO q2_kb_x0, only_cell hO q0_kb_x0x, only_cell hO q1_kb_x0x, only_cell hO q2_kb_x0x⟩, hO, hO.size⟩) (only_grow (by assumption) (by first | exact r_e | exact r_t))))
    (first | (go_at_call 36; (try go_split_ands); refine (toMode_any x0 _ _ _ _ 0 w.heap.size _ (by omega) (by omega) (by exact fU_x0.only (by assumption) (by omega) (by omega)) (by exact fC_x0.only (by assumption) (by omega) (by omega)) (by omega)).mono ?_; rintro e w' ⟨U_t, cu_t, C_t, cc_t, rfl, oU_t, oC_t, r_t⟩) | (go_at_call 38; (try go_split_ands); refine (eqMode_same x0 _ _ _ _ _ _ _ _ _ _ _ _ _ (by omega) (by omega) (by exact fU_x0x.only (by assumption) (by omega) (by omega)) (by exact fC_x0x.only (by assumption) (by omega) (by omega)) (by exact oU_t.rdI) (by exact oC_t.rdI) (by omega) (Nat.le_refl _)).mono ?_; rintro e w' ⟨rfl, r_e⟩))
  go_split_ands
  go_wp2
  go_ret
  exact ⟨rfl, by first | exact bel | exact below_only bel (by assumption) (by omega) (by omega)⟩

set_option maxRecDepth 100000 in
theorem lifted (os : Os) (started : os.Started) (H : Type) (enc : TypeId × Value → H) :
    ReturnsInHanded {} Try.checked os 10 .any (Rows.fnExactModeOkSpec.pre6 enc Try.prog Try.f10 Rows.fnExactModeOkRow.domain false) (Rows.fnExactModeOkSpec.post enc Try.prog Try.f10 false true false false) := by
  refine returnsInHanded_of_change (C := Try.checked) own started (by kernel_rfl) Try.func10
    (ChangeSpec.witness6 (enc := enc) (C := Try.checked) false ⟨#[], #[.agg #[.int .i64 0, .slice none 0 0, .slice none 0 0], .int .i64 0, .int .i64 0], []⟩ 8 (by kernel_rfl) (by kernel_rfl) (by kernel_rfl) (by kernel_rfl)) ?_
  intro W base args ds gs before hval0 hW hcnd _
  have hval : ∀ (j : Nat) t v, Try.f10.params[j]? = some t → args[j]? = some v → Value.okWide Try.prog W .any base t v := hval0
  have hW' := hW
  obtain ⟨p, q, hA0, hV, rfl, hfz, hnd⟩ := hW
  have hA : DataW.TrodAll enc Try.prog W 0 (fun _ => true) true Try.f10.params.toList args.toList ds p := hA0
  rw [Try.params10] at hA hval
  obtain ⟨v0, vs0, d0, ds0, p0, q0, hargs, rfl, rfl, h0, r0⟩ := trodAll_cons hA
  obtain ⟨v1, vs1, d1, ds1, p1, q1, rfl, rfl, rfl, h1, r1⟩ := trodAll_cons r0
  obtain ⟨v2, vs2, d2, ds2, p2, q2, rfl, rfl, rfl, h2, r2⟩ := trodAll_cons r1
  obtain ⟨rfl, rfl, rfl⟩ := trodAll_nil r2
  obtain rfl : args = #[v0, v1, v2] := by cases args; simp_all
  obtain ⟨rfl, rfl⟩ := trodVars_none hV
  have k0 := h0
  have lt0 : ∀ x ∈ p0, x.block < W.heap.size := by obtain ⟨m, hm⟩ := k0; exact DataW.trod_lt m _ _ _ hm
  obtain ⟨U0, C0, x0, cu0, cc0, rfl, m0, n0, i0⟩ := open_mode Try.underlying40 (by kernel_rfl) (by kernel_rfl) Try.underlying3 Try.underlying38 Try.underlying38 Try.underlying3 (by kernel_rfl) (hval 0 40 v0 rfl rfl) h0
  obtain ⟨x1, rfl, rfl, rfl, i1⟩ := open_int Try.underlying3 (hval 1 3 v1 rfl rfl) h1
  obtain ⟨x2, rfl, rfl, rfl, i2⟩ := open_int Try.underlying3 (hval 2 3 v2 rfl rfl) h2
  clear hA0 hval0
  refine (walk U0 C0 x0 cu0 cc0 x1 x2 W m0 n0 i0 i1 i2).mono fun e W' ⟨he, bel⟩ => ?_
  subst he
  exact ⟨_, rfl, _, _, _, [], _, [], hW', trodAll_mk1 (shut_bool Try.underlying4 _), (trodAll_cons_mk (Below.trod laidOut (by kernel_rfl) (of_decide_eq_true (by kernel_rfl)) k0 bel lt0) (trodAll_cons_mk (shut_int Try.underlying3 i1) (trodAll_cons_mk (shut_int Try.underlying3 i2) trodAll_mk0))), rfl, bel.frame _, fun h => by cases h⟩
theorem over : Rows.fnExactModeOkRow.holds Try.pinned (OpenSpec.ofChange Rows.fnExactModeOkSpec) :=
  OpenClaim.holds_of_wide 10 Try.f10 rfl rfl rfl rfl rfl rfl rfl ⟨rfl, rfl, rfl, rfl, rfl⟩ rfl rfl rfl rfl rfl (by kernel_rfl) Try.func10 (by kernel_rfl)
    (of_decide_eq_true (by kernel_rfl)) (by unfold Func.isWrapper; first | (rw [if_pos (by decide +kernel)]; kernel_rfl) | (rw [if_neg (by decide +kernel)]; exact ⟨rfl, rfl⟩))
    (fun os started H enc _ => lifted os started H enc)
theorem proved : Rows.FnExactModeOkSaid := over
end Go.Proofs.Ytejimjpflbhhnaa.fnExactModeOk
