/- Sets satisfy the laws of union and intersection: for every input the law FnSets returns true. No condition. -/
import Derived.Test.YtobgejojjbgilaaRows
import Derived.Test.YtobgejojjbgilaaOpen
import Derived.Test.YtobgejojjbgilaaLaw
import Derived.Test.YtobgejojjbgilaaSets
import Derived.Test.YtobgejojjbgilaaSetOf
import Derived.Test.YtobgejojjbgilaaCur
namespace Go.Proofs.Ytobgejojjbgilaa.fnSets
open Go.ChangeShapes Go.WideShapes Go.ChangeAt Go.RowKit Go.Deep
set_option linter.unusedVariables false

theorem own : ownKnob Try.prog.godebug = none := by kernel_rfl
theorem laidOut : laidOutB Try.prog = true := by kernel_rfl
theorem mem_has {l : List Int} {x : Int} : hasB l x = true ↔ x ∈ l := by unfold hasB; rw [decide_eq_true_eq]
theorem sub_mem {a b : List Int} (h : ∀ x ∈ a, x ∈ b) : subB a b = true := by
  unfold subB
  rw [List.all_eq_true]
  exact fun x hx => mem_has.2 (h x hx)
theorem ss_ok {l : List Int} (h : SS l) : setOkB l = true := by
  symm
  refine setOk_true fun j hj => ?_
  rw [getD_get 0 (by omega), getD_get 0 hj]
  exact List.pairwise_iff_getElem.1 h j (j + 1) (by omega) hj (by omega)
theorem keep_mem {p : Int → Bool} {l : List Int} {x : Int} : x ∈ keepI p l ↔ x ∈ l ∧ p x = true := by unfold keepI; exact List.mem_filter
theorem keep_len (p : Int → Bool) (l : List Int) : (keepI p l).length ≤ l.length := List.length_filter_le _ _
theorem sets_j (a b : List Int) : (setOf (a ++ b)).length ≤ a.length + b.length ∧ setOkB (setOf (a ++ b)) = true ∧ subB a (setOf (a ++ b)) = true ∧ setOf (a ++ b) = setOf (b ++ a) :=
  ⟨by have := setOf_len (a ++ b); rwa [List.length_append] at this, ss_ok (setOf_ss _), sub_mem fun x hx => (setOf_mem _ _).2 (List.mem_append_left _ hx),
   setOf_of (setOf_ss _) fun x => by rw [setOf_mem, List.mem_append, List.mem_append]; exact Or.comm⟩
theorem sets_m (a b : List Int) : (setOf (keepI (yesB b) a)).length ≤ a.length ∧ subB (setOf (keepI (yesB b) a)) b = true :=
  ⟨Nat.le_trans (setOf_len _) (keep_len _ _), sub_mem fun x hx => by rw [setOf_mem, keep_mem] at hx; exact mem_has.1 hx.2⟩
theorem sets_l (a b : List Int) : (setOf (keepI (notB b) a)).length ≤ a.length ∧ setOf (setOf (keepI (notB b) a) ++ setOf (keepI (yesB b) a)) = setOf a ∧ setOf (keepI (yesB b) (setOf (keepI (notB b) a))) = [] := by
  refine ⟨Nat.le_trans (setOf_len _) (keep_len _ _), setOf_of (setOf_ss _) fun x => ?_, ?_⟩
  · rw [setOf_mem, List.mem_append, setOf_mem, setOf_mem, keep_mem, keep_mem]
    unfold notB yesB
    cases hasB b x <;> simp
  · have : keepI (yesB b) (setOf (keepI (notB b) a)) = [] := by
      rw [List.eq_nil_iff_forall_not_mem]
      intro x hx
      rw [keep_mem, setOf_mem, keep_mem] at hx
      unfold notB yesB at hx
      rw [hx.2] at hx
      simp at hx
    rw [this]; rfl
theorem sets_p (a : List Int) (q : Int) : (setOf (a ++ [q])).length ≤ a.length + 1 ∧ hasB (setOf (a ++ [q])) q = true :=
  ⟨by have := setOf_len (a ++ [q]); rwa [List.length_append] at this, mem_has.2 ((setOf_mem _ _).2 (by simp))⟩
theorem sets_r (a : List Int) (q : Int) : (remI a q).length ≤ a.length ∧ hasB (remI a q) q = false := by
  refine ⟨remI_len a q, ?_⟩
  unfold hasB
  rw [decide_eq_false_iff_not]
  unfold remI
  rw [keep_mem]
  unfold remB
  simp
theorem sets_t {q : Int} (h0 : 0 ≤ q) (h1 : q < 8) : ((intRange q).length : Int) = q := by
  obtain ⟨m, rfl⟩ : ∃ m : Nat, q = m := ⟨q.toNat, by omega⟩
  rw [intRange_yes (by omega), firstN_len]
set_option maxHeartbeats 6400000 in
theorem walk (A : Option Addr) (n c : Nat) (w : World) (hmax : n ≤ 9223372036854775807) (fC : RdB w 0 w.heap.size A n) :
    Calls Try.prog 8 #[.slice A n c] w fun e w' => e = .returned (.bool true) ∧ Below w.heap.size w w' := by
  by_cases hn : n ≤ 1048576
  case neg =>
    go_enter Try.func8, Try.ntmps8
    go_wp2
    go_ret
    exact ⟨rfl, Below.refl _ _⟩
  have bel := Below.refl w.heap.size w
  go_enter Try.func8, Try.ntmps8
  go_wp2_with fail
  refine (makeList_any A n c 0 w.heap.size 1 _ (by omega) (by exact fC) (by omega)).mono ?_
  rintro e w1 ⟨Aa, ca, a, rfl, la, oa, r⟩
  have r := only_below r
  have z1 := r.size
  have bel := below_only bel r (by first | exact Nat.le_refl _ | omega) (by omega)
  have fC := fC.only r (by omega) (by omega)
  clear r
  have fa := oa.rdI
  go_wp2_with fail
  refine (makeList_any A n c 0 w.heap.size 2 _ (by omega) (by exact fC) (by omega)).mono ?_
  rintro e w2 ⟨Ab, cb, b, rfl, lb, ob, r⟩
  have r := only_below r
  have z2 := r.size
  have bel := below_only bel r (by first | exact Nat.le_refl _ | omega) (by omega)
  have fC := fC.only r (by omega) (by omega)
  have oa := oa.only r (by omega) (by omega)
  have fa := fa.only r (by omega) (by omega)
  clear r
  have fb := ob.rdI
  go_wp2_with fail
  refine (implSetUnion_any Aa Ab a b ca cb _ _ _ _ _ (by omega) (by omega) (by exact fa) (by exact fb) oa.formI ob.formI (by omega) (by omega)).mono ?_
  rintro e w3 ⟨Aj, cj, rfl, oj, r⟩
  have r := only_below r
  have z3 := r.size
  have bel := below_only bel r (by first | exact Nat.le_refl _ | omega) (by omega)
  have fC := fC.only r (by omega) (by omega)
  have oa := oa.only r (by omega) (by omega)
  have fa := fa.only r (by omega) (by omega)
  have ob := ob.only r (by omega) (by omega)
  have fb := fb.only r (by omega) (by omega)
  clear r
  have fj := oj.rdI
  go_wp2_with fail
  refine (implSetIntersection_any Aa Ab a b ca cb _ _ _ _ _ (by omega) (by omega) (by exact fa) (by exact fb) (by omega) (by omega)).mono ?_
  rintro e w4 ⟨Am, cm, rfl, om, r⟩
  have r := only_below r
  have z4 := r.size
  have bel := below_only bel r (by first | exact Nat.le_refl _ | omega) (by omega)
  have fC := fC.only r (by omega) (by omega)
  have oa := oa.only r (by omega) (by omega)
  have fa := fa.only r (by omega) (by omega)
  have ob := ob.only r (by omega) (by omega)
  have fb := fb.only r (by omega) (by omega)
  have oj := oj.only r (by omega) (by omega)
  have fj := fj.only r (by omega) (by omega)
  clear r
  have fm := om.rdI
  go_wp2_with fail
  refine (implSetDifference_any Aa Ab a b ca cb _ _ _ _ _ (by omega) (by omega) (by exact fa) (by exact fb) (by omega) (by omega)).mono ?_
  rintro e w5 ⟨Al, cl, rfl, ol, r⟩
  have r := only_below r
  have z5 := r.size
  have bel := below_only bel r (by first | exact Nat.le_refl _ | omega) (by omega)
  have fC := fC.only r (by omega) (by omega)
  have oa := oa.only r (by omega) (by omega)
  have fa := fa.only r (by omega) (by omega)
  have ob := ob.only r (by omega) (by omega)
  have fb := fb.only r (by omega) (by omega)
  have oj := oj.only r (by omega) (by omega)
  have fj := fj.only r (by omega) (by omega)
  have om := om.only r (by omega) (by omega)
  have fm := fm.only r (by omega) (by omega)
  clear r
  have fl := ol.rdI
  go_wp2_with fail
  refine (makeNum_any A n c 0 w.heap.size 8 _ (by omega) (by exact fC) (by omega) (by omega) (by omega)).mono ?_
  rintro e w6 ⟨q, rfl, hq0, hq1, r⟩
  have r := only_below r
  have z6 := r.size
  have bel := below_only bel r (by first | exact Nat.le_refl _ | omega) (by omega)
  have fC := fC.only r (by omega) (by omega)
  have oa := oa.only r (by omega) (by omega)
  have fa := fa.only r (by omega) (by omega)
  have ob := ob.only r (by omega) (by omega)
  have fb := fb.only r (by omega) (by omega)
  have oj := oj.only r (by omega) (by omega)
  have fj := fj.only r (by omega) (by omega)
  have om := om.only r (by omega) (by omega)
  have fm := fm.only r (by omega) (by omega)
  have ol := ol.only r (by omega) (by omega)
  have fl := fl.only r (by omega) (by omega)
  clear r
  have HJ := hide (sets_j a b)
  have HMM := hide (sets_m a b)
  have HLL := hide (sets_l a b)
  have hj := HJ.out.1; have hm := HMM.out.1; have hl := HLL.out.1
  generalize setOf (a ++ b) = J at oj fj HJ hj
  generalize setOf (keepI (yesB b) a) = M at om fm HMM hm HLL
  generalize setOf (keepI (notB b) a) = D at ol fl HLL hl
  go_wp2_with fail
  refine (implSetOk_any Aj J cj _ _ _ (by omega) (by exact fj)).mono ?_
  rintro e w7 ⟨rfl, r⟩
  have r := only_qt r
  have z7 := r.size
  have bel := below_only bel r (by first | exact Nat.le_refl _ | omega) (by omega)
  have fC := fC.only r (by omega) (by omega)
  have oa := oa.only r (by omega) (by omega)
  have fa := fa.only r (by omega) (by omega)
  have ob := ob.only r (by omega) (by omega)
  have fb := fb.only r (by omega) (by omega)
  have oj := oj.only r (by omega) (by omega)
  have fj := fj.only r (by omega) (by omega)
  have om := om.only r (by omega) (by omega)
  have fm := fm.only r (by omega) (by omega)
  have ol := ol.only r (by omega) (by omega)
  have fl := fl.only r (by omega) (by omega)
  clear r
  rw [HJ.out.2.1]
  go_wp2_with fail
  refine (implSetSubset_any Aa Aj a J ca cj _ _ _ _ _ (by omega) (by omega) (by exact fa) (by exact fj)).mono ?_
  rintro e w8 ⟨rfl, r⟩
  have r := only_qt r
  have z8 := r.size
  have bel := below_only bel r (by first | exact Nat.le_refl _ | omega) (by omega)
  have fC := fC.only r (by omega) (by omega)
  have oa := oa.only r (by omega) (by omega)
  have fa := fa.only r (by omega) (by omega)
  have ob := ob.only r (by omega) (by omega)
  have fb := fb.only r (by omega) (by omega)
  have oj := oj.only r (by omega) (by omega)
  have fj := fj.only r (by omega) (by omega)
  have om := om.only r (by omega) (by omega)
  have fm := fm.only r (by omega) (by omega)
  have ol := ol.only r (by omega) (by omega)
  have fl := fl.only r (by omega) (by omega)
  clear r
  rw [HJ.out.2.2.1]
  go_wp2_with fail
  refine (implSetSubset_any Am Ab M b cm cb _ _ _ _ _ (by omega) (by omega) (by exact fm) (by exact fb)).mono ?_
  rintro e w9 ⟨rfl, r⟩
  have r := only_qt r
  have z9 := r.size
  have bel := below_only bel r (by first | exact Nat.le_refl _ | omega) (by omega)
  have fC := fC.only r (by omega) (by omega)
  have oa := oa.only r (by omega) (by omega)
  have fa := fa.only r (by omega) (by omega)
  have ob := ob.only r (by omega) (by omega)
  have fb := fb.only r (by omega) (by omega)
  have oj := oj.only r (by omega) (by omega)
  have fj := fj.only r (by omega) (by omega)
  have om := om.only r (by omega) (by omega)
  have fm := fm.only r (by omega) (by omega)
  have ol := ol.only r (by omega) (by omega)
  have fl := fl.only r (by omega) (by omega)
  clear r
  rw [HMM.out.2]
  go_wp2_with fail
  refine (implSetUnion_any Al Am D M cl cm _ _ _ _ _ (by omega) (by omega) (by exact fl) (by exact fm) ol.formI om.formI (by omega) (by omega)).mono ?_
  rintro e w10 ⟨Au, cu, rfl, ou, r⟩
  have r := only_below r
  have z10 := r.size
  have bel := below_only bel r (by first | exact Nat.le_refl _ | omega) (by omega)
  have fC := fC.only r (by omega) (by omega)
  have oa := oa.only r (by omega) (by omega)
  have fa := fa.only r (by omega) (by omega)
  have ob := ob.only r (by omega) (by omega)
  have fb := fb.only r (by omega) (by omega)
  have oj := oj.only r (by omega) (by omega)
  have fj := fj.only r (by omega) (by omega)
  have om := om.only r (by omega) (by omega)
  have fm := fm.only r (by omega) (by omega)
  have ol := ol.only r (by omega) (by omega)
  have fl := fl.only r (by omega) (by omega)
  clear r
  have fu := ou.rdI
  go_wp2_with fail
  refine (implSetOf_any Aa a ca _ _ _ (by omega) (by exact fa)).mono ?_
  rintro e w11 ⟨As, cs, rfl, os, r⟩
  have r := only_below r
  have z11 := r.size
  have bel := below_only bel r (by first | exact Nat.le_refl _ | omega) (by omega)
  have fC := fC.only r (by omega) (by omega)
  have oa := oa.only r (by omega) (by omega)
  have fa := fa.only r (by omega) (by omega)
  have ob := ob.only r (by omega) (by omega)
  have fb := fb.only r (by omega) (by omega)
  have oj := oj.only r (by omega) (by omega)
  have fj := fj.only r (by omega) (by omega)
  have om := om.only r (by omega) (by omega)
  have fm := fm.only r (by omega) (by omega)
  have ol := ol.only r (by omega) (by omega)
  have fl := fl.only r (by omega) (by omega)
  have ou := ou.only r (by omega) (by omega)
  have fu := fu.only r (by omega) (by omega)
  clear r
  have fs := os.rdI
  have HU := hide (HLL.out.2.1)
  rw [HU.out] at ou fu ⊢
  have hs := setOf_len a
  generalize setOf a = S at ou fu os fs hs
  go_wp2_with fail
  refine (implSetEqual_any Au As S S cu cs _ _ _ _ _ (by omega) (by exact fu) (by exact fs)).mono ?_
  rintro e w12 ⟨rfl, r⟩
  have r := only_qt r
  have z12 := r.size
  have bel := below_only bel r (by first | exact Nat.le_refl _ | omega) (by omega)
  have fC := fC.only r (by omega) (by omega)
  have oa := oa.only r (by omega) (by omega)
  have fa := fa.only r (by omega) (by omega)
  have ob := ob.only r (by omega) (by omega)
  have fb := fb.only r (by omega) (by omega)
  have oj := oj.only r (by omega) (by omega)
  have fj := fj.only r (by omega) (by omega)
  have om := om.only r (by omega) (by omega)
  have fm := fm.only r (by omega) (by omega)
  have ol := ol.only r (by omega) (by omega)
  have fl := fl.only r (by omega) (by omega)
  have ou := ou.only r (by omega) (by omega)
  have fu := fu.only r (by omega) (by omega)
  have os := os.only r (by omega) (by omega)
  have fs := fs.only r (by omega) (by omega)
  clear r
  rw [decide_eq_true (rfl : S = S)]
  go_wp2_with fail
  refine (implSetUnion_any Ab Aa b a cb ca _ _ _ _ _ (by omega) (by omega) (by exact fb) (by exact fa) ob.formI oa.formI (by omega) (by omega)).mono ?_
  rintro e w13 ⟨Av, cv, rfl, ov, r⟩
  have r := only_below r
  have z13 := r.size
  have bel := below_only bel r (by first | exact Nat.le_refl _ | omega) (by omega)
  have fC := fC.only r (by omega) (by omega)
  have oa := oa.only r (by omega) (by omega)
  have fa := fa.only r (by omega) (by omega)
  have ob := ob.only r (by omega) (by omega)
  have fb := fb.only r (by omega) (by omega)
  have oj := oj.only r (by omega) (by omega)
  have fj := fj.only r (by omega) (by omega)
  have om := om.only r (by omega) (by omega)
  have fm := fm.only r (by omega) (by omega)
  have ol := ol.only r (by omega) (by omega)
  have fl := fl.only r (by omega) (by omega)
  have ou := ou.only r (by omega) (by omega)
  have fu := fu.only r (by omega) (by omega)
  have os := os.only r (by omega) (by omega)
  have fs := fs.only r (by omega) (by omega)
  clear r
  have fv := ov.rdI
  rw [← HJ.out.2.2.2] at ov fv ⊢
  go_wp2_with fail
  refine (implSetEqual_any Aj Av J J cj cv _ _ _ _ _ (by omega) (by exact fj) (by exact fv)).mono ?_
  rintro e w14 ⟨rfl, r⟩
  have r := only_qt r
  have z14 := r.size
  have bel := below_only bel r (by first | exact Nat.le_refl _ | omega) (by omega)
  have fC := fC.only r (by omega) (by omega)
  have oa := oa.only r (by omega) (by omega)
  have fa := fa.only r (by omega) (by omega)
  have ob := ob.only r (by omega) (by omega)
  have fb := fb.only r (by omega) (by omega)
  have oj := oj.only r (by omega) (by omega)
  have fj := fj.only r (by omega) (by omega)
  have om := om.only r (by omega) (by omega)
  have fm := fm.only r (by omega) (by omega)
  have ol := ol.only r (by omega) (by omega)
  have fl := fl.only r (by omega) (by omega)
  have ou := ou.only r (by omega) (by omega)
  have fu := fu.only r (by omega) (by omega)
  have os := os.only r (by omega) (by omega)
  have fs := fs.only r (by omega) (by omega)
  have ov := ov.only r (by omega) (by omega)
  have fv := fv.only r (by omega) (by omega)
  clear r
  rw [decide_eq_true (rfl : J = J)]
  go_wp2_with fail
  refine (implSetIntersection_any Al Ab D b cl cb _ _ _ _ _ (by omega) (by omega) (by exact fl) (by exact fb) (by omega) (by omega)).mono ?_
  rintro e w15 ⟨Ai, ci, rfl, oi, r⟩
  have r := only_below r
  have z15 := r.size
  have bel := below_only bel r (by first | exact Nat.le_refl _ | omega) (by omega)
  have fC := fC.only r (by omega) (by omega)
  have oa := oa.only r (by omega) (by omega)
  have fa := fa.only r (by omega) (by omega)
  have ob := ob.only r (by omega) (by omega)
  have fb := fb.only r (by omega) (by omega)
  have oj := oj.only r (by omega) (by omega)
  have fj := fj.only r (by omega) (by omega)
  have om := om.only r (by omega) (by omega)
  have fm := fm.only r (by omega) (by omega)
  have ol := ol.only r (by omega) (by omega)
  have fl := fl.only r (by omega) (by omega)
  have ou := ou.only r (by omega) (by omega)
  have fu := fu.only r (by omega) (by omega)
  have os := os.only r (by omega) (by omega)
  have fs := fs.only r (by omega) (by omega)
  have ov := ov.only r (by omega) (by omega)
  have fv := fv.only r (by omega) (by omega)
  clear r
  have fi := oi.rdI
  rw [HLL.out.2.2] at oi fi ⊢
  go_wp2_with fail
  refine (implSetAdd_any Aa a ca _ _ q _ (by omega) (by exact fa)).mono ?_
  rintro e w16 ⟨Ap, cp, rfl, op, r⟩
  have r := only_below r
  have z16 := r.size
  have bel := below_only bel r (by first | exact Nat.le_refl _ | omega) (by omega)
  have fC := fC.only r (by omega) (by omega)
  have oa := oa.only r (by omega) (by omega)
  have fa := fa.only r (by omega) (by omega)
  have ob := ob.only r (by omega) (by omega)
  have fb := fb.only r (by omega) (by omega)
  have oj := oj.only r (by omega) (by omega)
  have fj := fj.only r (by omega) (by omega)
  have om := om.only r (by omega) (by omega)
  have fm := fm.only r (by omega) (by omega)
  have ol := ol.only r (by omega) (by omega)
  have fl := fl.only r (by omega) (by omega)
  have ou := ou.only r (by omega) (by omega)
  have fu := fu.only r (by omega) (by omega)
  have os := os.only r (by omega) (by omega)
  have fs := fs.only r (by omega) (by omega)
  have ov := ov.only r (by omega) (by omega)
  have fv := fv.only r (by omega) (by omega)
  have oi := oi.only r (by omega) (by omega)
  have fi := fi.only r (by omega) (by omega)
  clear r
  have fp := op.rdI
  have HP := hide (sets_p a q)
  have hp := HP.out.1
  generalize setOf (a ++ [q]) = P at op fp HP hp
  go_wp2_with fail
  refine (implSetHas_any Ap P cp _ _ q _ (by omega) (by exact fp)).mono ?_
  rintro e w17 ⟨rfl, r⟩
  have r := only_qt r
  have z17 := r.size
  have bel := below_only bel r (by first | exact Nat.le_refl _ | omega) (by omega)
  have fC := fC.only r (by omega) (by omega)
  have oa := oa.only r (by omega) (by omega)
  have fa := fa.only r (by omega) (by omega)
  have ob := ob.only r (by omega) (by omega)
  have fb := fb.only r (by omega) (by omega)
  have oj := oj.only r (by omega) (by omega)
  have fj := fj.only r (by omega) (by omega)
  have om := om.only r (by omega) (by omega)
  have fm := fm.only r (by omega) (by omega)
  have ol := ol.only r (by omega) (by omega)
  have fl := fl.only r (by omega) (by omega)
  have ou := ou.only r (by omega) (by omega)
  have fu := fu.only r (by omega) (by omega)
  have os := os.only r (by omega) (by omega)
  have fs := fs.only r (by omega) (by omega)
  have ov := ov.only r (by omega) (by omega)
  have fv := fv.only r (by omega) (by omega)
  have oi := oi.only r (by omega) (by omega)
  have fi := fi.only r (by omega) (by omega)
  have op := op.only r (by omega) (by omega)
  have fp := fp.only r (by omega) (by omega)
  clear r
  rw [HP.out.2]
  go_wp2_with fail
  refine (implSetRemove_any Aa a ca _ _ q _ (by omega) (by exact fa) (by omega)).mono ?_
  rintro e w18 ⟨Ar, cr, rfl, or_, r⟩
  have r := only_below r
  have z18 := r.size
  have bel := below_only bel r (by first | exact Nat.le_refl _ | omega) (by omega)
  have fC := fC.only r (by omega) (by omega)
  have oa := oa.only r (by omega) (by omega)
  have fa := fa.only r (by omega) (by omega)
  have ob := ob.only r (by omega) (by omega)
  have fb := fb.only r (by omega) (by omega)
  have oj := oj.only r (by omega) (by omega)
  have fj := fj.only r (by omega) (by omega)
  have om := om.only r (by omega) (by omega)
  have fm := fm.only r (by omega) (by omega)
  have ol := ol.only r (by omega) (by omega)
  have fl := fl.only r (by omega) (by omega)
  have ou := ou.only r (by omega) (by omega)
  have fu := fu.only r (by omega) (by omega)
  have os := os.only r (by omega) (by omega)
  have fs := fs.only r (by omega) (by omega)
  have ov := ov.only r (by omega) (by omega)
  have fv := fv.only r (by omega) (by omega)
  have oi := oi.only r (by omega) (by omega)
  have fi := fi.only r (by omega) (by omega)
  have op := op.only r (by omega) (by omega)
  have fp := fp.only r (by omega) (by omega)
  clear r
  have fr_ := or_.rdI
  have HR := hide (sets_r a q)
  have hr := HR.out.1
  generalize remI a q = R at or_ fr_ HR hr
  go_wp2_with fail
  refine (implSetHas_any Ar R cr _ _ q _ (by omega) (by exact fr_)).mono ?_
  rintro e w19 ⟨rfl, r⟩
  have r := only_qt r
  have z19 := r.size
  have bel := below_only bel r (by first | exact Nat.le_refl _ | omega) (by omega)
  have fC := fC.only r (by omega) (by omega)
  have oa := oa.only r (by omega) (by omega)
  have fa := fa.only r (by omega) (by omega)
  have ob := ob.only r (by omega) (by omega)
  have fb := fb.only r (by omega) (by omega)
  have oj := oj.only r (by omega) (by omega)
  have fj := fj.only r (by omega) (by omega)
  have om := om.only r (by omega) (by omega)
  have fm := fm.only r (by omega) (by omega)
  have ol := ol.only r (by omega) (by omega)
  have fl := fl.only r (by omega) (by omega)
  have ou := ou.only r (by omega) (by omega)
  have fu := fu.only r (by omega) (by omega)
  have os := os.only r (by omega) (by omega)
  have fs := fs.only r (by omega) (by omega)
  have ov := ov.only r (by omega) (by omega)
  have fv := fv.only r (by omega) (by omega)
  have oi := oi.only r (by omega) (by omega)
  have fi := fi.only r (by omega) (by omega)
  have op := op.only r (by omega) (by omega)
  have fp := fp.only r (by omega) (by omega)
  have or_ := or_.only r (by omega) (by omega)
  have fr_ := fr_.only r (by omega) (by omega)
  clear r
  rw [HR.out.2]
  go_wp2_with fail
  refine (implIntRange_any q _).mono ?_
  rintro e w20 ⟨At, ct, rfl, ot, r⟩
  have r := only_below r
  have z20 := r.size
  have bel := below_only bel r (by first | exact Nat.le_refl _ | omega) (by omega)
  have fC := fC.only r (by omega) (by omega)
  have oa := oa.only r (by omega) (by omega)
  have fa := fa.only r (by omega) (by omega)
  have ob := ob.only r (by omega) (by omega)
  have fb := fb.only r (by omega) (by omega)
  have oj := oj.only r (by omega) (by omega)
  have fj := fj.only r (by omega) (by omega)
  have om := om.only r (by omega) (by omega)
  have fm := fm.only r (by omega) (by omega)
  have ol := ol.only r (by omega) (by omega)
  have fl := fl.only r (by omega) (by omega)
  have ou := ou.only r (by omega) (by omega)
  have fu := fu.only r (by omega) (by omega)
  have os := os.only r (by omega) (by omega)
  have fs := fs.only r (by omega) (by omega)
  have ov := ov.only r (by omega) (by omega)
  have fv := fv.only r (by omega) (by omega)
  have oi := oi.only r (by omega) (by omega)
  have fi := fi.only r (by omega) (by omega)
  have op := op.only r (by omega) (by omega)
  have fp := fp.only r (by omega) (by omega)
  have or_ := or_.only r (by omega) (by omega)
  have fr_ := fr_.only r (by omega) (by omega)
  clear r
  have ft := ot.rdI
  have HT := hide (sets_t hq0 hq1)
  have ht : ((intRange q).length : Int) = q := HT.out
  have ht2 : (((intRange q).length : Int) == q) = true := by simp [ht]
  generalize (intRange q).length = tl at ht ht2
  go_wp2
  go_ret
  exact ⟨rfl, bel⟩

theorem one_cellsB {w : World} {a : Addr} {o : Nat} {cs : List Value} (h : w.cells? 0 (a.add o) 1 = some cs) : ∃ u, cs = [u] ∧ w.cell? (a.add o) = some u := by
  obtain ⟨_, hl, hat⟩ := World.cells?_some h
  obtain ⟨u, rfl⟩ := List.length_eq_one_iff.1 hl
  refine ⟨u, rfl, ?_⟩
  have := hat 0 (by omega)
  rw [add_add, Nat.add_zero] at this
  exact this
theorem open_bytesB {H : Type} {enc : TypeId × Value → H} {P : Program} {w : World} {spare : Nat → Bool} {held : Bool} {t e : TypeId} {base : Nat} {v : Value} {d : DataW H} {p : List MemPlace} (ht : P.underlying t = some (.slice e)) (he : P.underlying e = some (.int .u8)) (hC : P.cellsOf e = 1)
    (hv : Value.okWide P w .any base t v) (h : DataW.Trod enc P w 0 spare held t v d p) : ∃ A n c, v = .slice A n c ∧ RdB w 0 w.heap.size A n ∧ n ≤ 9223372036854775807 := by
  obtain ⟨a0, len0, cap0, rfl⟩ := okWide_slice ht hv
  obtain ⟨n, hf⟩ := h
  rcases open_slice ht hf with ⟨hcs, _⟩ | ⟨a, len, cap, m, k, D, Pl, hcs, _, hl, hm, hmm, _, hi⟩
  · simp [Value.cells] at hcs
    obtain ⟨rfl, rfl, rfl⟩ := hcs
    exact ⟨_, _, _, rfl, fun h0 => absurd h0 (by omega), by omega⟩
  · simp [Value.cells] at hcs
    obtain ⟨rfl, rfl, rfl⟩ := hcs
    have hlm : len0 ≤ m := by rw [hmm]; split <;> omega
    have E : ∀ i, i < len0 → ∃ x : Int, 0 ≤ x ∧ x ≤ 255 ∧ w.cell? (a.add i) = some (.int .u8 x) := by
      intro i hil
      obtain ⟨cs', hcs', hts'⟩ := hi i (by omega)
      rw [hC, Nat.mul_one] at hcs'
      obtain ⟨u, rfl, hu⟩ := one_cellsB hcs'
      obtain ⟨x, e1, _, hw⟩ := DataW.trod_int he hts'
      simp at e1
      subst e1
      have hb : 0 ≤ x ∧ x ≤ 255 := by
        have e0 : IntKind.u8.min = 0 := by decide
        have e1 : IntKind.u8.max = 255 := by decide
        simp only [Lit.wf, Bool.and_eq_true, decide_eq_true_eq, e0, e1] at hw
        omega
      exact ⟨x, hb.1, hb.2, hu⟩
    refine ⟨_, _, _, rfl, fun h0 => ?_, by unfold maxLen at hm; omega⟩
    obtain ⟨x0, _, _, hx0⟩ := E 0 h0
    have hb' : a.block < w.heap.size := by
      have := World.block_lt_of_cell? _ _ hx0
      unfold Addr.add at this
      split at this <;> exact this
    obtain ⟨xb, xo, xs⟩ := a
    have hs : xs = none := by
      have := World.cell?_spot hx0
      simpa [Addr.add] using this
    subst hs
    refine ⟨xb, xo, rfl, Nat.zero_le _, hb', fun j hj => ?_⟩
    obtain ⟨x, h1, h2, h3⟩ := E j hj
    rw [add_none] at h3
    exact ⟨x, h1, h2, h3⟩

set_option maxRecDepth 100000 in
theorem lifted (os : Os) (started : os.Started) (H : Type) (enc : TypeId × Value → H) :
    ReturnsInHanded {} Try.checked os 8 .any (Rows.fnSetsSpec.pre6 enc Try.prog Try.f8 Rows.fnSetsRow.domain false) (Rows.fnSetsSpec.post enc Try.prog Try.f8 false true false false) := by
  refine returnsInHanded_of_change (C := Try.checked) own started (by kernel_rfl) Try.func8
    (ChangeSpec.witness6 (enc := enc) (C := Try.checked) false ⟨#[], #[.slice none 0 0], []⟩ 8 (by kernel_rfl) (by kernel_rfl) (by kernel_rfl) (by kernel_rfl)) ?_
  intro W base args ds gs before hval0 hW hcnd _
  have hval : ∀ (j : Nat) t v, Try.f8.params[j]? = some t → args[j]? = some v → Value.okWide Try.prog W .any base t v := hval0
  have hW' := hW
  obtain ⟨p, q, hA0, hV, rfl, hfz, hnd⟩ := hW
  have hA : DataW.TrodAll enc Try.prog W 0 (fun _ => true) true Try.f8.params.toList args.toList ds p := hA0
  rw [Try.params8] at hA hval
  obtain ⟨v0, vs0, d0, ds0, p0, q0, hargs, rfl, rfl, h0, r0⟩ := trodAll_cons hA
  obtain ⟨rfl, rfl, rfl⟩ := trodAll_nil r0
  obtain rfl : args = #[v0] := by cases args; simp_all
  obtain ⟨rfl, rfl⟩ := trodVars_none hV
  have k0 := h0
  have lt0 : ∀ x ∈ p0, x.block < W.heap.size := by obtain ⟨m, hm⟩ := k0; exact DataW.trod_lt m _ _ _ hm
  obtain ⟨A0, x0, c0, rfl, m0, i0⟩ := open_bytesB Try.underlying30 Try.underlying5 (by kernel_rfl) (hval 0 30 v0 rfl rfl) h0
  clear hA0 hval0
  refine (walk A0 x0 c0 W i0 m0).mono fun e W' ⟨he, bel⟩ => ?_
  subst he
  exact ⟨_, rfl, _, _, _, [], _, [], hW', trodAll_mk1 (shut_bool Try.underlying4 _), (trodAll_cons_mk (Below.trod laidOut (by kernel_rfl) (of_decide_eq_true (by kernel_rfl)) k0 bel lt0) trodAll_mk0), rfl, bel.frame _, fun h => by cases h⟩
theorem over : Rows.fnSetsRow.holds Try.pinned (OpenSpec.ofChange Rows.fnSetsSpec) :=
  OpenClaim.holds_of_wide 8 Try.f8 rfl rfl rfl rfl rfl rfl rfl ⟨rfl, rfl, rfl, rfl, rfl⟩ rfl rfl rfl rfl rfl (by kernel_rfl) Try.func8 (by kernel_rfl)
    (of_decide_eq_true (by kernel_rfl)) (by unfold Func.isWrapper; first | (rw [if_pos (by decide +kernel)]; kernel_rfl) | (rw [if_neg (by decide +kernel)]; exact ⟨rfl, rfl⟩))
    (fun os started H enc _ => lifted os started H enc)
theorem proved : Rows.FnSetsSaid := over
end Go.Proofs.Ytobgejojjbgilaa.fnSets
