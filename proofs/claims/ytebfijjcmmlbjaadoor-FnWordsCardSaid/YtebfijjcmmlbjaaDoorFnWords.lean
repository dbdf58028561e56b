/- Numbers, lists of them and strings are parsed and joined as they were: for every input the law FnWords returns true. No condition. -/
import Derived.Test.YtebfijjcmmlbjaaDoorRows
import Derived.Test.YtebfijjcmmlbjaaDoorOpen
import Derived.Test.YtebfijjcmmlbjaaDoorLaw
import Derived.Test.YtebfijjcmmlbjaaDoorSets
import Derived.Test.YtebfijjcmmlbjaaDoorSetOf
import Derived.Test.YtebfijjcmmlbjaaDoorText
import Derived.Test.YtebfijjcmmlbjaaDoorFmt
import Derived.Test.YtebfijjcmmlbjaaDoorFmt2
import Derived.Test.YtebfijjcmmlbjaaDoorFmt3
import Derived.Test.YtebfijjcmmlbjaaDoorCur
import Derived.Test.YtebfijjcmmlbjaaDoorKitKp
import Derived.Test.YtebfijjcmmlbjaaDoorPlainTx
import Derived.Test.YtebfijjcmmlbjaaDoorLaidW
import Derived.Deep.RegionHeld3
import Derived.SevenTiedAt
namespace Go.Proofs.YtebfijjcmmlbjaaDoor.fnWords
open Go.ChangeShapes Go.WideShapes Go.ChangeAt Go.RowKit Go.Deep
set_option linter.unusedVariables false

theorem own : ownKnob Tryd.prog.godebug = none := by kernel_rfl
theorem laidOut : laidOutB Tryd.prog = true := by kernel_rfl
theorem all_in {l : List Int} (h : ∀ x ∈ l, 0 ≤ x ∧ x < 8) : l.all inI = true := by
  rw [List.all_eq_true]
  intro x hx
  have := h x hx
  exact (inI_iff x).2 (by omega)
theorem parseInt_fmt (k : Int) (hg : Nat) (w : World) (hk : -100000 ≤ k ∧ k ≤ 100000) (ld : LdE w hg) (hhg : hg ≤ w.heap.size) :
    Calls Tryd.prog 7 #[.string (fmtI k)] w fun e w' => e = .returned (.tuple #[.int .i64 k, .bool true]) ∧ Below w.heap.size w w' := by
  have h := implParseInt_any (fmtI k) hg w (by have := fmtI_size k; omega) ld hhg
  rw [(okI_fmt hk).1, (okI_fmt hk).2] at h
  exact h
theorem parseInts_fmt (l : List Int) (hg : Nat) (w : World) (hl : l.all inI = true) (hll : l.length ≤ 65535) (ld : LdE w hg) (hhg : hg ≤ w.heap.size) :
    Calls Tryd.prog 9 #[.string (fmtIs l)] w fun e w' => ∃ A c, e = .returned (.tuple #[.slice A l.length c, .bool true]) ∧ OwnR w' w.heap.size w'.heap.size 3 1 A l.length c (l.map (.int .i64)) ∧ Below w.heap.size w w' := by
  have h := implParseInts_any (fmtIs l) w (by have := fmtIs_size l; omega) hg ld hhg
  rw [parIs_fmt hl] at h
  exact h
theorem split_sum (S : ByteArray) (c : UInt8) (hS : S.size ≤ 200) : (splitAny S ⟨#[c]⟩).length + ((splitAny S ⟨#[c]⟩).map ByteArray.size).sum ≤ 40401 := by
  have h1 := splitAny_len S ⟨#[c]⟩
  have h2 := sum_le ByteArray.size S.size (splitAny S ⟨#[c]⟩) (fun x hx => splitAny_size S ⟨#[c]⟩ x hx)
  have h3 : S.size * (splitAny S ⟨#[c]⟩).length ≤ S.size * (S.size + 1) := Nat.mul_le_mul_left _ h1
  have h4 : S.size * (S.size + 1) ≤ 200 * 201 := Nat.mul_le_mul hS (by omega)
  omega
set_option maxRecDepth 20000 in
set_option maxHeartbeats 6400000 in
theorem walk (A : Option Addr) (n c : Nat) (w : World) (hmax : n ≤ 9223372036854775807) (fC : RdB w 0 w.heap.size A n) (ld : LdE w w.heap.size) :
    Calls Tryd.prog 3 #[.slice A n c] w fun e w' => e = .returned (.bool true) ∧ Below w.heap.size w w' := by
  by_cases hn : n ≤ 1048576
  case neg =>
    go_enter Tryd.func3, Tryd.ntmps3
    go_wp2
    go_ret
    exact ⟨rfl, Below.refl _ _⟩
  have bel := Below.refl w.heap.size w
  go_enter Tryd.func3, Tryd.ntmps3
  go_wp2_with fail
  refine (makeNumBig_any A n c 0 w.heap.size 2000 _ (by omega) (by exact fC) (by omega) (by omega) (by omega)).mono ?_
  rintro e w1 ⟨v, rfl, hv0, hv1, r⟩
  have r := only_below r
  have z1 := r.size
  have bel := below_only bel r (by first | exact Nat.le_refl _ | omega) (by omega)
  have fC := fC.only r (by omega) (by omega)
  have ld := ld.only r (by omega) (by omega)
  clear r
  go_wp2_with fail
  refine (makeListB_any A n c 0 w.heap.size 1 _ (by omega) (by exact fC) (by omega)).mono ?_
  rintro e w2 ⟨Al, cl, l, rfl, ll, lb, ol, r⟩
  have r := only_below r
  have z2 := r.size
  have bel := below_only bel r (by first | exact Nat.le_refl _ | omega) (by omega)
  have fC := fC.only r (by omega) (by omega)
  have ld := ld.only r (by omega) (by omega)
  clear r
  have fl := ol.rdI
  have HLI : Hid (l.all inI = true) := hide (all_in lb)
  clear lb
  go_wp2_with fail
  refine (implFormatInt_any (v - 1000) w.heap.size _ (by exact ld.t)).mono ?_
  rintro e w3 ⟨rfl, r⟩
  have r := only_below r
  have z3 := r.size
  have bel := below_only bel r (by first | exact Nat.le_refl _ | omega) (by omega)
  have fC := fC.only r (by omega) (by omega)
  have ld := ld.only r (by omega) (by omega)
  have ol := ol.only r (by omega) (by omega)
  have fl := fl.only r (by omega) (by omega)
  clear r
  have HN : Hid (-100000 ≤ v - 1000 ∧ v - 1000 ≤ 100000) := hide (by omega)
  go_wp2_with fail
  refine (parseInt_fmt (v - 1000) w.heap.size _ HN.out (by exact ld) (by omega)).mono ?_
  rintro e w4 ⟨rfl, r⟩
  have r := only_below r
  have z4 := r.size
  have bel := below_only bel r (by first | exact Nat.le_refl _ | omega) (by omega)
  have fC := fC.only r (by omega) (by omega)
  have ld := ld.only r (by omega) (by omega)
  have ol := ol.only r (by omega) (by omega)
  have fl := fl.only r (by omega) (by omega)
  clear r
  go_wp2_with fail
  refine (implFormatInts_any Al l cl _ _ _ (by omega) (by exact fl) (by omega) w.heap.size (by exact ld.t) (by omega)).mono ?_
  rintro e w5 ⟨rfl, r⟩
  have r := only_below r
  have z5 := r.size
  have bel := below_only bel r (by first | exact Nat.le_refl _ | omega) (by omega)
  have fC := fC.only r (by omega) (by omega)
  have ld := ld.only r (by omega) (by omega)
  have ol := ol.only r (by omega) (by omega)
  have fl := fl.only r (by omega) (by omega)
  clear r
  go_wp2_with fail
  refine (parseInts_fmt l w.heap.size _ HLI.out (by omega) (by exact ld) (by omega)).mono ?_
  rintro e w6 ⟨Am, cm, rfl, om, r⟩
  have r := only_below r
  have z6 := r.size
  have bel := below_only bel r (by first | exact Nat.le_refl _ | omega) (by omega)
  have fC := fC.only r (by omega) (by omega)
  have ld := ld.only r (by omega) (by omega)
  have ol := ol.only r (by omega) (by omega)
  have fl := fl.only r (by omega) (by omega)
  clear r
  have fm := om.rdI
  have HOL := hide ((ol.alloc (.cells #[.int .i64 (v - 1000)] 3)))
  go_wp2_with (at_builtin; go_must (refine wpList_pushK _ (.tmp 30) (.tmp 32) 24 3 _ 1 8 Tryd.underlying24 Tryd.infoInt rfl (by omega) _ _ Al l.length cl _ HOL.out (by simp; omega) w6.heap.size 0 1 1 [.int .i64 (v - 1000)] (by omega) rfl (one_new _ _ _) (one_cell rfl) (by omega) (by omega) (by simp; omega) ?_ rfl rfl rfl rfl))
  intro Ap cp w' op hOn ol2
  have hAl : Below w6.heap.size w6 (w6.alloc (.cells #[.int .i64 (v - 1000)] 3)) := (Below.refl _ _).alloc (Nat.le_refl _) _
  have hz8 : (w6.alloc (.cells #[.int .i64 (v - 1000)] 3)).heap.size = w6.heap.size + 1 := by simp
  have z8 : w6.heap.size + 1 ≤ w'.heap.size := by have := hOn.size; omega
  have bel := below_only (bel.trans (hAl.mono (by omega))) hOn (by omega) (by omega)
  have fC := (fC.below hAl (by omega)).only hOn (by omega) (by omega)
  have ld := (ld.below hAl (by omega)).only hOn (by omega) (by omega)
  have om := (om.below hAl (by omega)).only hOn (by omega) (by omega)
  have fm := (fm.below hAl (by omega)).only hOn (by omega) (by omega)
  have ol := ol2; clear ol2 hOn hAl HOL
  have fl := ol.rdI
  have op2 : OwnR w' _ w'.heap.size 3 1 Ap (l ++ [v - 1000]).length cp ((l ++ [v - 1000]).map (.int .i64)) := op.eqn (by simp) (by simp)
  clear op
  have fp := op2.rdI
  have hpl : (l ++ [v - 1000]).length = l.length + 1 := by simp
  have HF := implFormatInts_any Ap (l ++ [v - 1000]) cp _ _ w' (by omega) (by exact fp) (Nat.le_refl _) w.heap.size (by exact ld.t) (by omega)
  rw [hpl] at HF
  have HF2 := hide HF; clear HF fp op2
  go_wp2_with fail
  refine (HF2.out).mono ?_
  rintro e w7 ⟨rfl, r⟩
  have r := only_below r
  have z7 := r.size
  have bel := below_only bel r (by first | exact Nat.le_refl _ | omega) (by omega)
  have fC := fC.only r (by omega) (by omega)
  have ld := ld.only r (by omega) (by omega)
  have ol := ol.only r (by omega) (by omega)
  have fl := fl.only r (by omega) (by omega)
  have om := om.only r (by omega) (by omega)
  have fm := fm.only r (by omega) (by omega)
  clear r
  clear HF2
  have HSZ := hide (fmtIs_size (l ++ [v - 1000]))
  have hsz : (fmtIs (l ++ [v - 1000])).size ≤ 200 := by have := HSZ.out; omega
  generalize fmtIs (l ++ [v - 1000]) = S at hsz HSZ ⊢
  clear HSZ
  have heq : (v - 1000 == v - 1000) = true := by simp
  go_wp2_with fail
  refine (implSetEqual_any Am Al l l cm cl _ _ _ _ _ (by omega) (by exact fm) (by exact fl)).mono ?_
  rintro e w8 ⟨rfl, r⟩
  have r := only_qt r
  have z8 := r.size
  have bel := below_only bel r (by first | exact Nat.le_refl _ | omega) (by omega)
  have fC := fC.only r (by omega) (by omega)
  have ld := ld.only r (by omega) (by omega)
  have ol := ol.only r (by omega) (by omega)
  have fl := fl.only r (by omega) (by omega)
  have om := om.only r (by omega) (by omega)
  have fm := fm.only r (by omega) (by omega)
  clear r
  rw [decide_eq_true (rfl : l = l)]
  clear heq
  have hsl := splitAny_len S ⟨#[44]⟩
  have HSJ := hide (join_splitAny S 44)
  have HSB := hide (split_sum S 44 hsz)
  go_wp2_with fail
  refine (implSplitAny_any S ⟨#[44]⟩ _ (by omega) (by decide)).mono ?_
  rintro e w9 ⟨Ax, cx, rfl, ox, r⟩
  have r := only_below r
  have z9 := r.size
  have bel := below_only bel r (by first | exact Nat.le_refl _ | omega) (by omega)
  have fC := fC.only r (by omega) (by omega)
  have ld := ld.only r (by omega) (by omega)
  have ol := ol.only r (by omega) (by omega)
  have fl := fl.only r (by omega) (by omega)
  have om := om.only r (by omega) (by omega)
  have fm := fm.only r (by omega) (by omega)
  clear r
  have fx := ox.rdS
  have hcx := own_cap ox
  go_wp2_with fail
  refine (implJoin_any Ax (splitAny S ⟨#[44]⟩) cx _ _ ⟨#[44]⟩ _ (by omega) hcx (by have := joinB_len (l := splitAny S ⟨#[44]⟩) (y := ⟨#[44]⟩) (a := 100000) (b := 1) (by have := HSB.out; omega) (by decide); omega) (by exact fx) (by omega)).mono ?_
  rintro e w10 ⟨rfl, r⟩
  have r := only_below r
  have z10 := r.size
  have bel := below_only bel r (by first | exact Nat.le_refl _ | omega) (by omega)
  have fC := fC.only r (by omega) (by omega)
  have ld := ld.only r (by omega) (by omega)
  have ol := ol.only r (by omega) (by omega)
  have fl := fl.only r (by omega) (by omega)
  have om := om.only r (by omega) (by omega)
  have fm := fm.only r (by omega) (by omega)
  clear r
  rw [HSJ.out]
  clear fx ox hcx hsl HSB HSJ
  go_wp2_with fail
  refine (implIsName_any ⟨#[120, 49]⟩ _ (by decide)).mono ?_
  rintro e w11 ⟨rfl, rfl⟩
  rw [show isNm ⟨#[120, 49]⟩ = true by decide +kernel]
  go_wp2_with fail
  refine (implIsName_any ⟨#[49, 120]⟩ _ (by decide)).mono ?_
  rintro e w11 ⟨rfl, rfl⟩
  rw [show isNm ⟨#[49, 120]⟩ = false by decide +kernel]
  go_wp2_with fail
  refine (implSplitLines_any ⟨#[97, 10, 98, 10]⟩ _ (by decide)).mono ?_
  rintro e w11 ⟨At, ct, rfl, ot, r⟩
  have r := only_below r
  have z11 := r.size
  have bel := below_only bel r (by first | exact Nat.le_refl _ | omega) (by omega)
  have fC := fC.only r (by omega) (by omega)
  have ld := ld.only r (by omega) (by omega)
  have ol := ol.only r (by omega) (by omega)
  have fl := fl.only r (by omega) (by omega)
  have om := om.only r (by omega) (by omega)
  have fm := fm.only r (by omega) (by omega)
  clear r
  clear ot
  rw [show (splitLines ⟨#[97, 10, 98, 10]⟩).length = 2 by decide +kernel]
  go_wp2_with fail
  refine (implClampedSum_any Am l cm _ _ _ (by omega) (by exact fm)).mono ?_
  rintro e w12 ⟨rfl, r⟩
  have r := only_qt r
  have z12 := r.size
  have bel := below_only bel r (by first | exact Nat.le_refl _ | omega) (by omega)
  have fC := fC.only r (by omega) (by omega)
  have ld := ld.only r (by omega) (by omega)
  have ol := ol.only r (by omega) (by omega)
  have fl := fl.only r (by omega) (by omega)
  have om := om.only r (by omega) (by omega)
  have fm := fm.only r (by omega) (by omega)
  clear r
  go_wp2_with fail
  refine (implClampedSum_any Al l cl _ _ _ (by omega) (by exact fl)).mono ?_
  rintro e w13 ⟨rfl, r⟩
  have r := only_qt r
  have z13 := r.size
  have bel := below_only bel r (by first | exact Nat.le_refl _ | omega) (by omega)
  have fC := fC.only r (by omega) (by omega)
  have ld := ld.only r (by omega) (by omega)
  have ol := ol.only r (by omega) (by omega)
  have fl := fl.only r (by omega) (by omega)
  have om := om.only r (by omega) (by omega)
  have fm := fm.only r (by omega) (by omega)
  clear r
  have hcs : (clampSum l == clampSum l) = true := by simp
  generalize clampSum l = cs at hcs ⊢
  go_wp2
  go_ret
  exact ⟨rfl, bel⟩

theorem one_cellsB {w : World} {a : Addr} {o : Nat} {cs : List Value} (h : w.cells? 0 (a.add o) 1 = some cs) : ∃ u, cs = [u] ∧ w.cell? (a.add o) = some u := by
  obtain ⟨_, hl, hat⟩ := World.cells?_some h
  obtain ⟨u, rfl⟩ := List.length_eq_one_iff.1 hl
  refine ⟨u, rfl, ?_⟩
  have := hat 0 (by omega)
  rw [add_add, Nat.add_zero] at this
  exact this
theorem open_bytesB {H : Type} {enc : TypeId × Value → H} {P : Program} {w : World} {spare : Nat → Bool} {held : Bool} {t e : TypeId} {base : Nat} {v : Value} {d : DataW H} {p : List MemPlace} (ht : P.underlying t = some (.slice e)) (he : P.underlying e = some (.int .u8)) (hC : P.cellsOf e = 1)
    (hv : Value.okWide P w .any base t v) (h : DataW.Trod enc P w 0 spare held t v d p) : ∃ A n c, v = .slice A n c ∧ RdB w 0 w.heap.size A n ∧ n ≤ 9223372036854775807 := by
  obtain ⟨a0, len0, cap0, rfl⟩ := okWide_slice ht hv
  obtain ⟨n, hf⟩ := h
  rcases open_slice ht hf with ⟨hcs, _⟩ | ⟨a, len, cap, m, k, D, Pl, hcs, _, hl, hm, hmm, _, hi⟩
  · simp [Value.cells] at hcs
    obtain ⟨rfl, rfl, rfl⟩ := hcs
    exact ⟨_, _, _, rfl, fun h0 => absurd h0 (by omega), by omega⟩
  · simp [Value.cells] at hcs
    obtain ⟨rfl, rfl, rfl⟩ := hcs
    have hlm : len0 ≤ m := by rw [hmm]; split <;> omega
    have E : ∀ i, i < len0 → ∃ x : Int, 0 ≤ x ∧ x ≤ 255 ∧ w.cell? (a.add i) = some (.int .u8 x) := by
      intro i hil
      obtain ⟨cs', hcs', hts'⟩ := hi i (by omega)
      rw [hC, Nat.mul_one] at hcs'
      obtain ⟨u, rfl, hu⟩ := one_cellsB hcs'
      obtain ⟨x, e1, _, hw⟩ := DataW.trod_int he hts'
      simp at e1
      subst e1
      have hb : 0 ≤ x ∧ x ≤ 255 := by
        have e0 : IntKind.u8.min = 0 := by decide
        have e1 : IntKind.u8.max = 255 := by decide
        simp only [Lit.wf, Bool.and_eq_true, decide_eq_true_eq, e0, e1] at hw
        omega
      exact ⟨x, hb.1, hb.2, hu⟩
    refine ⟨_, _, _, rfl, fun h0 => ?_, by unfold maxLen at hm; omega⟩
    obtain ⟨x0, _, _, hx0⟩ := E 0 h0
    have hb' : a.block < w.heap.size := by
      have := World.block_lt_of_cell? _ _ hx0
      unfold Addr.add at this
      split at this <;> exact this
    obtain ⟨xb, xo, xs⟩ := a
    have hs : xs = none := by
      have := World.cell?_spot hx0
      simpa [Addr.add] using this
    subst hs
    refine ⟨xb, xo, rfl, Nat.zero_le _, hb', fun j hj => ?_⟩
    obtain ⟨x, h1, h2, h3⟩ := E j hj
    rw [add_none] at h3
    exact ⟨x, h1, h2, h3⟩

theorem reads (os : Os) {H : Type} (enc : TypeId × Value → H) : ∃ x, DataW.whole enc Tryd.prog ((laidWorldE os).forCall (fun _ _ => 0) ⟨#[], #[.slice none 0 0], []⟩).memory Tryd.f3.params.toList Rows.fnWordsSpec.vars false #[(.slice none 0 0 : Value)].toList 8 = some x := by
  have h : (DataW.whole enc Tryd.prog ((laidWorldE os).forCall (fun _ _ => 0) ⟨#[], #[.slice none 0 0], []⟩).memory Tryd.f3.params.toList Rows.fnWordsSpec.vars false #[(.slice none 0 0 : Value)].toList 8).isSome = true := by kernel_rfl
  exact Option.isSome_iff_exists.1 h
set_option maxRecDepth 100000 in
theorem lifted (os : Os) (started : os.Started) (H : Type) (enc : TypeId × Value → H) (F : Stop.Interp) :
    ReturnsInHanded {} Tryd.checked os 3 .any ((OpenSpec.ofChange Rows.fnWordsSpec).preRow enc Tryd.prog Tryd.f3 Rows.fnWordsRow.domain false Rows.fnWordsRow.laid) (((OpenSpec.ofChange Rows.fnWordsSpec).at F).post enc Tryd.prog Tryd.f3 false true false false) := by
  obtain ⟨x, hx⟩ := reads os enc
  refine returnsInHanded_of_row (C := Tryd.checked) (s := OpenSpec.ofChange Rows.fnWordsSpec) ownP started (by kernel_rfl) Tryd.func3
    (witness_row_at (enc := enc) (C := Tryd.checked) false (laidWorldE os) #[.slice none 0 0] rfl (by kernel_rfl) (by kernel_rfl) (by kernel_rfl)
      (OpenSpec.preRow_of_cond 8 hx rfl (fun k hk => by cases hk) (by kernel_rfl) (laid_metE os _))) ?_
  intro W base args ds gs before hval0 hW _ _ _ hL hSh _
  have hval : ∀ (j : Nat) t v, Tryd.f3.params[j]? = some t → args[j]? = some v → Value.okWide Tryd.prog W .any base t v := hval0
  have hW' := hW
  obtain ⟨p, q, hA0, hV, rfl, hfz, hnd⟩ := hW
  have hA : DataW.TrodAll enc Tryd.prog W 0 (fun _ => true) true Tryd.f3.params.toList args.toList ds p := hA0
  rw [Tryd.params3] at hA hval
  obtain ⟨v0, vs0, d0, ds0, p0, q0, hargs, rfl, rfl, h0, r0⟩ := trodAll_cons hA
  obtain ⟨rfl, rfl, rfl⟩ := trodAll_nil r0
  obtain rfl : args = #[v0] := by cases args; simp_all
  obtain ⟨rfl, rfl⟩ := trodVars_none hV
  have k0 := h0
  have lt0 : ∀ x ∈ p0, x.block < W.heap.size := by obtain ⟨m, hm⟩ := k0; exact DataW.trod_lt m _ _ _ hm
  obtain ⟨A0, x0, c0, rfl, m0, i0⟩ := open_bytesB Tryd.underlying22 Tryd.underlying5 (by kernel_rfl) (hval 0 22 v0 rfl rfl) h0
  clear hA0 hval0
  refine (walk A0 x0 c0 W i0 m0 (ldE_of hL)).mono fun e W' ⟨he, bel⟩ => ?_
  subst he
  exact ⟨_, rfl, _, _, _, [], _, [], hW', trodAll_mk1 (shut_bool Tryd.underlying4 _), (trodAll_cons_mk (Below.trod laidOut (by kernel_rfl) (of_decide_eq_true (by kernel_rfl)) k0 bel lt0) trodAll_mk0), rfl, bel.frame _, fun h => by cases h⟩
theorem over : Rows.FnWordsSaid :=
  OpenClaim.holds_of_cond 3 Tryd.f3 rfl rfl rfl rfl rfl rfl rfl ⟨rfl, rfl, rfl, rfl, rfl⟩ rfl rfl rfl rfl rfl (by kernel_rfl) Tryd.func3 (by kernel_rfl)
    (of_decide_eq_true (by kernel_rfl)) (by unfold Func.isWrapper; first | (rw [if_pos (by decide +kernel)]; kernel_rfl) | (rw [if_neg (by decide +kernel)]; exact ⟨rfl, rfl⟩))
    (fun os started H enc _ F => by rw [OpenClaim.pre_eq_preRow]; exact lifted os started H enc F)
theorem plain (f : FuncId) (fn : Func) (hf : Tryd.pinned.checked.prog.funcNamed Rows.fnWordsRow.func = some f) (hfn : Tryd.pinned.checked.prog.funcs[f]? = some fn) :
    true = Tryd.pinned.checked.prog.looks [] ∧ ∀ (j : Nat) t, fn.params[j]? = some t → Tryd.pinned.checked.prog.wantsStandIn t = false := by
  obtain rfl : f = 3 := Option.some.inj ((show Tryd.prog.funcNamed Rows.fnWordsRow.func = some 3 by kernel_rfl).symm.trans hf) |>.symm
  obtain rfl : fn = Tryd.f3 := (Option.some.inj (Tryd.func3.symm.trans hfn)).symm
  refine ⟨by kernel_rfl, fun j t ht => ?_⟩
  rw [Tryd.params3] at ht
  have ht2 := Array.mem_of_getElem? ht
  simp only [List.mem_toArray, List.mem_cons, List.not_mem_nil, or_false] at ht2
  rcases ht2 with rfl
  · exact (show Tryd.prog.wantsStandIn 22 = false by kernel_rfl)
theorem proved : Rows.FnWordsCardSaid :=
  Claim7.holds_tied_plain_at .later [] _ _ _ _ over (fun _ h => by cases h) (by kernel_rfl) (fun _ h => by cases h) fnWords_row_tie rfl ⟨rfl, rfl⟩ (by kernel_rfl) rfl plain (by kernel_rfl)
end Go.Proofs.YtebfijjcmmlbjaaDoor.fnWords
