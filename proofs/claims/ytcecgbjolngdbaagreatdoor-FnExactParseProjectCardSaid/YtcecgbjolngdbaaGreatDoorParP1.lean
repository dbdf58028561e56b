/- A resource is parsed out of the words of a line: the program. -/
import Derived.Test.YtcecgbjolngdbaaGreatDoorKitPv
import Derived.Test.YtcecgbjolngdbaaGreatDoorFmt3
import Derived.Test.YtcecgbjolngdbaaGreatDoorFmt4
import Derived.Test.YtcecgbjolngdbaaGreatDoorLawRs
import Derived.Test.YtcecgbjolngdbaaGreatDoorPlainPz
import Derived.Deep.RegionHeld3
import Derived.Deep.RegionLaw
import Derived.Deep.DrawnRows
namespace Go.Proofs.YtcecgbjolngdbaaGreatDoor
open Go.ChangeShapes Go.WideShapes Go.ChangeAt Go.RowKit
set_option linter.unusedVariables false
set_option linter.unusedSimpArgs false
attribute [local go_sem ↓] Go.wp_at_zero Go.wp_at_succ

def okR (l : List ByteArray) : Bool := okRs (wRes :: l)
def parR (l : List ByteArray) : Rs := parRs (wRes :: l)
theorem okR_def (l : List ByteArray) : okR l = (decide (1 ≤ l.length ∧ l.length ≤ 2) && ((parSt (gw l 0)).2 && (decide (l.length = 1) || ((parIs (gw l 1)).2 && decide ((parIs (gw l 1)).1.length = 16))))) := by
  unfold okR okRs
  rw [List.length_cons]
  have e1 : decide (2 ≤ l.length + 1 ∧ l.length + 1 ≤ 3) = decide (1 ≤ l.length ∧ l.length ≤ 2) := decide_eq_decide.2 (by omega)
  have e2 : decide (l.length + 1 = 2) = decide (l.length = 1) := decide_eq_decide.2 (by omega)
  rw [e1, e2]; rfl
theorem parR_one {l : List ByteArray} (h : l.length = 1) : parR l = ⟨(parSt (gw l 0)).1, []⟩ := by
  unfold parR parRs
  rw [List.length_cons, h]; rfl
theorem parR_two {l : List ByteArray} (h : l.length = 2) : parR l = ⟨(parSt (gw l 0)).1, rows4 (parIs (gw l 1)).1⟩ := by
  unfold parR parRs
  rw [List.length_cons, h]; rfl
theorem only2 (w : World) (g : Nat) (v1 v2 : Value) : Only g (g + 1) w ((w.setCell ⟨g, 0, none⟩ v1).setCell ⟨g, 1, none⟩ v2) :=
  ((Only.refl _ _ _).setCell ⟨by dsimp only; omega, by dsimp only; omega⟩ _).setCell ⟨by dsimp only; omega, by dsimp only; omega⟩ _
theorem OwRc.zero (w : World) : OwRc w #[.slice none 0 0, .slice none 0 0] rs0 [] := ⟨none, 0, none, 0, [], [], rfl, RowB.nil_ _ _ _, OwG.nil_ _ _ _ _ _, rfl⟩
theorem at_reg {c : Code} {P : Program} {Q : Exit → Act → World → Prop} {a : Act} {W : World} (h : ∀ V, V = W → c.wp P Q a V) : c.wp P Q a W := h W rfl
/-- Four numbers of a row that is read. -/
def quad (l : List Int) (k : Nat) : List Int := (l.drop (4 * k)).take 4
theorem quad_len {l : List Int} {k : Nat} (h : 4 * k + 4 ≤ l.length) : (quad l k).length = 4 := by unfold quad; rw [List.length_take, List.length_drop]; omega
theorem quad_get {l : List Int} {k j : Nat} (h : 4 * k + 4 ≤ l.length) (hj : j < 4) : (quad l k).getD j 0 = l.getD (4 * k + j) 0 := by
  have h1 := quad_len h
  rw [getD_get 0 (by omega), getD_get 0 (by omega)]
  unfold quad
  simp
theorem RdI.quad {w : World} {lo hi b off : Nat} {l : List Int} {k : Nat} (h : RdI w lo hi (some ⟨b, off, none⟩) l) (hk : 4 * k + 4 ≤ l.length) : ∀ j, j < (quad l k).length → w.cell? ⟨b, off + 4 * k + j, none⟩ = some (.int .i64 ((quad l k).getD j 0)) := fun j hj => by
  rw [quad_len hk] at hj
  obtain ⟨b', off', e, _, _, hc⟩ := h (by omega)
  injection e with e; injection e with e1 e2; subst e1; subst e2
  rw [quad_get hk hj, Nat.add_assoc]
  exact hc (4 * k + j) (by omega)
theorem rows4_take (l : List Int) (k : Nat) (h : 4 * k + 4 ≤ l.length) : (rows4 l).take (k + 1) = (rows4 l).take k ++ [quad l k] := by
  rw [take_snoc [] (by rw [rows4_len]; omega), rows4_get l k (by omega)]; rfl
theorem rows4_tl (l : List Int) (k : Nat) (h : k ≤ l.length / 4) : ((rows4 l).take k).length = k := by rw [List.length_take, rows4_len]; omega
theorem clone4_any (b off c : Nat) (l : List Int) (w : World) (hl : l.length = 4) (hc : ∀ j, j < l.length → w.cell? ⟨b, off + j, none⟩ = some (.int .i64 (l.getD j 0))) :
    Calls Tryz.prog 134 #[.slice (some ⟨b, off, none⟩) 4 c] w fun e w' => ∃ A' c' bs, e = .returned (.slice A' 4 c') ∧ RowB w' 3 1 A' 4 c' (l.map (.int .i64)) bs ∧ Nd bs w.heap.size w'.heap.size ∧ Below w.heap.size w w' := by
  refine (Tryz.slices_Clone_int b off 4 c l w (by omega) (by omega) hc).mono ?_
  rintro e w' ⟨v', rfl, hO, _, hB⟩
  obtain ⟨A', c', rfl⟩ := own_shape hO
  have hT : l.take 4 = l := List.take_of_length_le (by omega)
  rw [hT] at hO
  obtain ⟨bs, h1, h2⟩ := RowB.of (OwnR.of_own hO)
  exact ⟨A', c', bs, rfl, h1, h2, hB⟩
theorem row_ready {w w1 : World} {T A1 : Option Addr} {ct c1 lo : Nat} {l : List (List Int)} {q : List Int} {bT bQ : List Nat} (hG : OwG 1 25 OwII [] w T ct l bT) (hn : Nd bT lo w.heap.size) (hB : Below w.heap.size w w1) (hR : RowB w1 3 1 A1 4 c1 (q.map (.int .i64)) bQ) (hnQ : Nd bQ w.heap.size w1.heap.size) (hq : q.length = 4) (hlo : lo ≤ w.heap.size) :
    ∀ o, OwG 1 25 OwII [] (w1.alloc o) T ct l bT ∧ OwII (w1.alloc o) #[.slice A1 4 c1] q bQ ∧ Nd (bT ++ bQ) lo (w1.alloc o).heap.size := fun o => by
  have hs := hB.size
  refine ⟨OwG.keep_ OwSS.keeps hG fun b hb => ?_, ⟨A1, c1, by rw [hq], (hR.allocd (fun b hb => hR.lt b hb) o).eqn hq.symm rfl⟩, (Nd.app hn hnQ (Nat.le_refl _) hlo hs).mono (Nat.le_refl _) (by simp)⟩
  have := (hn.2 b hb).2
  exact (Below.heap_alloc w1 o b (by omega)).trans (hB.block b this)
set_option maxRecDepth 20000 in
set_option maxHeartbeats 6400000 in
theorem resourceOf_any (A : Option Addr) (l : List ByteArray) (c lo hi : Nat) (w : World) (hl : l.length ≤ 16777216) (hx : ∀ x ∈ l, x.size ≤ 1048576) (ha : RdS w lo hi A l) (hhi : hi ≤ w.heap.size) (hg : Nat) (ld : LdC w hg) (hhg : hg ≤ w.heap.size) :
    Calls Tryz.prog 119 #[.slice A l.length c] w fun e w' => ∃ (r : Rs) (b : Bool) (S : Option Addr) (cs : Nat) (T : Option Addr) (ct : Nat) (bs : List Nat), e = .returned (.tuple #[.agg #[.slice S r.steps.length cs, .slice T r.setup.length ct], .bool b]) ∧ OwRc w' #[.slice S r.steps.length cs, .slice T r.setup.length ct] r bs ∧ Nd bs w.heap.size w'.heap.size ∧ Below w.heap.size w w' ∧ b = okR l ∧ (b = true → r = parR l) := by
  have HOK := hide (okR_def l)
  go_enter Tryz.func119, Tryz.ntmps119
  go_wp2_with fail
  refine at_world fun V0 hW => ?_
  have z0 : V0.heap.size = w.heap.size + 1 := by rw [hW]; simp
  have k0 : Bk V0 w.heap.size 71 #[.slice none 0 0, .slice none 0 0] := by rw [hW]; exact Bk.made w _ _
  have B : Below w.heap.size w V0 := by rw [hW]; exact (Below.refl _ _).alloc (Nat.le_refl _) _
  clear hW
  refine (within_any l.length 1 2 V0).mono ?_
  rintro e w1 ⟨rfl, rfl⟩
  by_cases hin : 1 ≤ l.length ∧ l.length ≤ 2
  case neg =>
    rw [decide_eq_false (show ¬ ((1 : Int) ≤ (l.length : Int) ∧ (l.length : Int) ≤ 2) from by omega)]
    have HF := hide (show okR l = false from by rw [HOK.out, decide_eq_false hin]; rfl)
    clear hin
    have c0 := k0.cell 0
    have c1 := k0.cell 1
    have f0 := k0.frozen 0
    have f1 := k0.frozen 1
    simp only [List.getElem?_toArray, List.getElem?_cons_succ, List.getElem?_cons_zero] at c0 c1
    go_wp2
    refine bodyPost_ret (v := .tuple #[.agg #[.slice none 0 0, .slice none 0 0], .bool false]) ?_ rfl ?_
    · simp [results, Tryz.results119, go_sem, *]
    exact ⟨rs0, false, none, 0, none, 0, [], rfl, OwRc.zero _, Nd.nil _ _, below_only B (only2 V0 w.heap.size _ _) (Nat.le_refl _) (by omega), HF.out.symm, fun h => by cases h⟩
  rw [decide_eq_true (show ((1 : Int) ≤ (l.length : Int) ∧ (l.length : Int) ≤ 2) from by omega)]
  obtain ⟨b, off, rfl, h1, h2, hc⟩ := (ha.below B hhi) (by omega)
  have q0 := hc 0 (by omega)
  rw [Nat.add_zero] at q0
  have s0 := hx _ (getD_mem (k := 0) ByteArray.empty (by omega : 0 < l.length))
  have HX0 := hide (show gw l 0 = l.getD 0 ByteArray.empty from rfl)
  have HC := hide hc
  have HXS := hide hx
  clear hc ha hx
  generalize l.getD 0 ByteArray.empty = x0 at q0 s0 HX0
  have hp : (0 : Int) < (l.length : Int) := by omega
  have HIN := hide hin
  go_wp2_with fail
  refine (implParseSteps_any x0 V0 (by omega) hg (ld.below B hhg) (by omega)).mono ?_
  rintro e V1 ⟨S, cs, rfl, oS, r⟩
  have z1 := r.size
  have k0 := k0.below r (by omega)
  have B := B.trans (r.mono (by omega))
  have HC := hide (fun j (hj : j < l.length) => (r.cell (p := ⟨b, off + j, none⟩) (by show b < _; omega)).trans (HC.out j hj))
  have HR := hide r
  clear r q0 hp
  have hst := parSt_len x0
  by_cases h1l : l.length = 1
  · have HF := hide (show okR l = (parSt x0).2 from by rw [HOK.out, HX0.out, decide_eq_true (show 1 ≤ l.length ∧ l.length ≤ 2 from HIN.out), decide_eq_true h1l]; simp)
    have HP := hide (show parR l = ⟨(parSt x0).1, []⟩ from by rw [parR_one h1l, HX0.out])
    have hne : ((l.length : Int) == 2) = false := by simp; omega
    obtain ⟨bs, rS, nS⟩ := RowB.of oS
    have RS := hide rS; have NS := hide nS
    clear h1l hin oS rS nS HC
    generalize (parSt x0).2 = ok at HF ⊢
    generalize (parSt x0).1 = P at HP RS hst ⊢
    have HB := hide (B.alloc (by omega) (.cells #[.slice S P.length cs, .slice none 0 0] 71))
    have k0 := k0.alloc (.cells #[.slice S P.length cs, .slice none 0 0] 71)
    have RS2 := hide (RS.out.allocd (fun q hq => RS.out.lt q hq) (.cells #[.slice S P.length cs, .slice none 0 0] 71))
    have c0 := k0.cell 0
    have c1 := k0.cell 1
    have f0 := k0.frozen 0
    have f1 := k0.frozen 1
    simp only [List.getElem?_toArray, List.getElem?_cons_succ, List.getElem?_cons_zero] at c0 c1
    go_wp2
    refine bodyPost_ret (v := .tuple #[.agg #[.slice S P.length cs, .slice none 0 0], .bool ok]) ?_ rfl ?_
    · simp [results, Tryz.results119, go_sem, *]
    refine ⟨⟨P, []⟩, ok, S, cs, none, 0, bs, rfl, ⟨S, cs, none, 0, bs, [], rfl, RS2.out.keep ?_, OwG.nil_ _ _ _ _ _, by simp⟩, NS.out.mono (by omega) (by rw [set_size, set_size, World.size_alloc]; omega), below_only HB.out (only2 _ w.heap.size _ _) (Nat.le_refl _) (by simp; omega), HF.out.symm, fun _ => HP.out.symm⟩
    intro q hq
    refine (only2 _ w.heap.size _ _).block q ?_ ?_
    · have := RS.out.lt q hq; simp; omega
    · have := NS.out.2 q hq; omega
  · have h2l : l.length = 2 := by have := HIN.out; omega
    have hne : ((l.length : Int) == 2) = true := by simp [h2l]
    have q1 := HC.out 1 (by omega)
    have s1 := HXS.out _ (getD_mem (k := 1) ByteArray.empty (by omega : 1 < l.length))
    have HX1 := hide (show gw l 1 = l.getD 1 ByteArray.empty from rfl)
    generalize l.getD 1 ByteArray.empty = x1 at q1 s1 HX1
    have hp : (1 : Int) < (l.length : Int) := by omega
    have HM := hide (show okR l = ((parSt x0).2 && ((parIs x1).2 && decide ((parIs x1).1.length = 16))) from by rw [HOK.out, HX0.out, HX1.out, decide_eq_true (show 1 ≤ l.length ∧ l.length ≤ 2 from HIN.out), decide_eq_false h1l]; simp)
    have HP := hide (show parR l = ⟨(parSt x0).1, rows4 (parIs x1).1⟩ from by rw [parR_two h2l, HX0.out, HX1.out])
    obtain ⟨bS, rS, nS⟩ := RowB.of oS
    have RS := hide rS; have NS := hide nS
    clear h1l h2l hin oS rS nS HC HXS
    generalize (parSt x0).2 = ok at HM ⊢
    generalize (parSt x0).1 = P at HP RS hst ⊢
    have aq1 := fun o => (World.cell?_alloc_lt V1 o ⟨b, off + 1, none⟩ (by show b < _; omega)).trans q1
    go_wp2_with fail
    refine at_world fun V2 hW => ?_
    have bV : Below V1.heap.size V1 V2 := by rw [hW]; exact (Below.refl _ _).alloc (Nat.le_refl _) _
    have z2 : V2.heap.size = V1.heap.size + 1 := by rw [hW]; simp
    have k1 : Bk V2 V1.heap.size 71 #[.slice S P.length cs, .slice none 0 0] := by rw [hW]; exact Bk.made V1 _ _
    have k0 := k0.below bV (by omega)
    have B := B.trans (bV.mono (by omega))
    have RS := hide (RS.out.below bV (fun q hq => RS.out.lt q hq))
    clear hW bV q1 aq1 hp hne
    refine (implParseInts_any x1 V2 (by omega) hg (ld.e.below B hhg) (by omega)).mono ?_
    rintro e V3 ⟨AL, cL, rfl, oL, r⟩
    have z3 := r.size
    have k0 := k0.below r (by omega)
    have k1 := k1.below r (by omega)
    have B := B.trans (r.mono (by omega))
    have RS := hide (RS.out.below r (fun q hq => RS.out.lt q hq))
    have hN := parIs_len x1
    have OL := hide oL
    clear r oL
    generalize (parIs x1).1 = N at HM HP hN OL ⊢
    cases hall : (parIs x1).2
    · have HF := hide (show okR l = false from by rw [HM.out, hall]; simp)
      clear hall k1
      have c0 := k0.cell 0
      have c1 := k0.cell 1
      have f0 := k0.frozen 0
      have f1 := k0.frozen 1
      simp only [List.getElem?_toArray, List.getElem?_cons_succ, List.getElem?_cons_zero] at c0 c1
      go_wp2
      refine bodyPost_ret (v := .tuple #[.agg #[.slice none 0 0, .slice none 0 0], .bool false]) ?_ rfl ?_
      · simp [results, Tryz.results119, go_sem, *]
      exact ⟨rs0, false, none, 0, none, 0, [], rfl, OwRc.zero _, Nd.nil _ _, below_only B (only2 V3 w.heap.size _ _) (Nat.le_refl _) (by omega), HF.out.symm, fun h => by cases h⟩
    have HM := hide (show okR l = (ok && decide (N.length = 16)) from by rw [HM.out, hall, Bool.true_and])
    clear hall
    by_cases h16 : N.length = 16
    case neg =>
      have HF := hide (show okR l = false from by rw [HM.out, decide_eq_false h16, Bool.and_false])
      have hne : ((N.length : Int) != 16) = true := by simp; omega
      clear h16 k1
      have c0 := k0.cell 0
      have c1 := k0.cell 1
      have f0 := k0.frozen 0
      have f1 := k0.frozen 1
      simp only [List.getElem?_toArray, List.getElem?_cons_succ, List.getElem?_cons_zero] at c0 c1
      go_wp2
      refine bodyPost_ret (v := .tuple #[.agg #[.slice none 0 0, .slice none 0 0], .bool false]) ?_ rfl ?_
      · simp [results, Tryz.results119, go_sem, *]
      exact ⟨rs0, false, none, 0, none, 0, [], rfl, OwRc.zero _, Nd.nil _ _, below_only B (only2 V3 w.heap.size _ _) (Nat.le_refl _) (by omega), HF.out.symm, fun h => by cases h⟩
    have HF := hide (show okR l = ok from by rw [HM.out, decide_eq_true h16, Bool.and_true])
    have hne : ((N.length : Int) != 16) = false := by simp [h16]
    obtain ⟨gL, rfl, gl1, gl2, gl3⟩ := OL.out.some_ (by omega)
    have hcap := own_cap OL.out
    have hcap2 : 16 ≤ cL := by omega
    have RL := hide OL.out.rdI
    have H16 := hide h16
    have hcL : (cL : Int) = cL := rfl
    rw [h16]
    clear hcap OL h16
    have HK1 := hide k1
    clear k1
    go_wp2
    go_loopw [9] (fun v wr => ∃ (k : Nat) (T : Option Addr) (ct : Nat) (bT : List Nat), k ≤ 4 ∧ v = .int .i64 ((4 * k : Nat) : Int) ∧ Bk wr V1.heap.size 71 #[.slice S P.length cs, .slice T k ct] ∧ Hid (OwG 1 25 OwII [] wr T ct ((rows4 N).take k) bT ∧ Nd bT V3.heap.size wr.heap.size) ∧ Fr V1.heap.size V3.heap.size V3 wr) (fun v _ => 20 - (intOf v).toNat)
    case atStart => exact ⟨0, none, 0, [], Nat.zero_le _, rfl, HK1.out, hide ⟨OwG.nil_ _ _ _ _ _, Nd.nil _ _⟩, Fr.refl _ _ _⟩
    case round =>
      clear HK1
      obtain ⟨k, T, ct, bT, hk, rfl, kr, HG, hFr⟩ := hrel
      have hsz := hFr.size
      by_cases hlt : k < 4
      · have HQ := hide (quad_len (l := N) (k := k) (by have := H16.out; omega))
        have HRT := hide (rows4_take N k (by have := H16.out; omega))
        have HLT := hide (rows4_tl N k (by have := H16.out; omega))
        have hQC : ∀ W, Fr V1.heap.size V3.heap.size V3 W → ∀ j, j < (quad N k).length → W.cell? ⟨gL, 4 * k + j, none⟩ = some (.int .i64 ((quad N k).getD j 0)) := fun W hW j hj => by rw [← RdI.quad (RL.out.keep fun q h1 h2 => hW.block q (by omega) (by omega) (by omega)) (by have := H16.out; omega) j hj, Nat.zero_add]
        obtain ⟨n, hn⟩ : ∃ n, n = 4 * k := ⟨_, rfl⟩
        have hn1 : n + 4 ≤ 16 := by omega
        have HNK := hide hn
        rw [← hn] at hQC ⊢
        have HQC := hide hQC
        clear hQC
        have hi0 : (0 : Int) ≤ (n : Int) := by omega
        have hi1 : (n : Int) < 16 := by omega
        have hi2 : IntKind.i64.wrap ((n : Int) + 4) = (n : Int) + 4 := IntWalk.i64_in _ (by omega)
        have hi3 : ((n : Int) + 4).toNat = n + 4 := by omega
        have hi4 : (n : Int) + 4 ≤ (cL : Int) := by omega
        have hi5 : (n : Int) ≤ (n : Int) + 4 := by omega
        have hi6 : ¬ n = cL := by omega
        have hi7 : ¬ cL = n := by omega
        have c1 := kr.cell 1
        have f1 := kr.frozen 1
        simp only [List.getElem?_toArray, List.getElem?_cons_succ, List.getElem?_cons_zero] at c1
        clear hn
        go_wp2_with fail
        go_region_law (first | (go_simp; go_at_call 134; refine (clone4_any gL n _ (quad N k) _ HQ.out (HQC.out _ (hFr.qt 1))).mono ?_; rintro e w1 ⟨A1, cA, bQ, rfl, hRQ, hNQ, hBQ⟩; have hBQ := (below_quiet (Below.refl wr.heap.size wr) 1).trans hBQ; have kr1 := kr.below hBQ kr.lt; have c1 := kr1.cell 1; have ac1 := fun o => (kr1.alloc o).cell 1; simp only [List.getElem?_toArray, List.getElem?_cons_succ, List.getElem?_cons_zero] at c1 ac1; have HRY := hide (row_ready HG.out.1 HG.out.2 hBQ hRQ hNQ HQ.out hsz)) | (refine step_pushN OwSS.keeps (by rfl) (.tmp 47) (.tmp 54) 69 (by rfl) 25 _ 1 24 Tryz.underlying69 Tryz.infoSS rfl (by omega) T k ct ((rows4 N).take k) bT V3.heap.size HLT.out (by rfl) (quad N k) #[.slice A1 4 cA] bQ (HRY.out _) rfl _ 0 1 (by rfl) (one_new _ _ _) (one_cell rfl) (by omega) (by omega) (by have := hBQ.size; simp; omega) ?_; intro A2 c2 bs2 w2 hG2 hN2 hb2 hO2; have kr2 := (hO2.block V1.heap.size (by have := hBQ.size; simp; omega) (fun hm => by have := (HG.out.2.2 _ hm).1; omega)).trans (kr1.alloc _); have c1 := Bk.cell kr2 1; have f1 := Bk.frozen kr2 1; simp only [List.getElem?_toArray, List.getElem?_cons_succ, List.getElem?_cons_zero] at c1))
        all_goals go_wp2
        all_goals go_roundw
        all_goals first
          | (simp [intOf]; omega; done)
          | (refine ⟨k + 1, A2, c2, bs2, by omega, val_int (by have := HNK.out; omega), Bk.set kr2 1 _, hide ⟨?_, by rw [set_size]; exact hN2⟩, ((((hFr.trans (Fr.of_below hBQ hsz)).alloc _).trans (Fr.of_only hO2 (fun x hx => .inr (HG.out.2.2 x hx).1)))).set 1 _⟩
             rw [HRT.out]
             exact OwG.keep_ OwSS.keeps hG2 (fun q hq => Below.heap_setCell w2 _ _ q (by have := (hN2.2 q hq).1; show q ≠ V1.heap.size; omega)))
      · obtain rfl : k = 4 := by omega
        have d0 := kr.cell 0
        have d1 := kr.cell 1
        simp only [List.getElem?_toArray, List.getElem?_cons_succ, List.getElem?_cons_zero] at d0 d1
        have hk0 := k0.lt
        have k0 : Bk wr w.heap.size 71 #[.slice none 0 0, .slice none 0 0] := (hFr.block w.heap.size (by omega) (by omega) (by omega)).trans k0
        have hR4 : (rows4 N).length = 4 := by rw [rows4_len, H16.out]
        have hT4 : (rows4 N).take 4 = rows4 N := List.take_of_length_le (by omega)
        have HR4 := hide hR4; have HT4 := hide hT4
        have HB := hide (B.trans (hFr.below (B := w.heap.size) (by omega) (by omega) (by omega)))
        clear hR4 hT4 B RL
        have c0 := k0.cell 0
        have c1 := k0.cell 1
        have f0 := k0.frozen 0
        have f1 := k0.frozen 1
        simp only [List.getElem?_toArray, List.getElem?_cons_succ, List.getElem?_cons_zero] at c0 c1
        go_wp2
        refine bodyPost_ret (v := .tuple #[.agg #[.slice S P.length cs, .slice T 4 ct], .bool ok]) ?_ rfl ?_
        · simp [results, Tryz.results119, go_sem, *]
        refine ⟨⟨P, rows4 N⟩, ok, S, cs, T, ct, bS ++ bT, by show _ = Ending.returned (.tuple #[.agg #[_, .slice T (rows4 N).length ct], _]); rw [HR4.out], ⟨S, cs, T, ct, bS, bT, rfl, ?_, ?_, rfl⟩, ?_, below_only HB.out (only2 _ w.heap.size _ _) (Nat.le_refl _) (by omega), HF.out.symm, fun _ => HP.out.symm⟩
        · refine (RS.out.keep fun q hq => hFr.block q (RS.out.lt q hq) (RS.out.lt q hq) ?_).keep fun q hq => (only2 wr w.heap.size _ _).block q ?_ ?_
          · have := NS.out.2 q hq; omega
          · have := RS.out.lt q hq; omega
          · have := NS.out.2 q hq; omega
        · have h5 := HG.out.1
          rw [HT4.out] at h5
          refine OwG.keep_ OwSS.keeps h5 fun q hq => (only2 wr w.heap.size _ _).block q ?_ ?_
          · have := HG.out.2.2 q hq; omega
          · have := HG.out.2.2 q hq; omega
        · have h6 := Nd.app NS.out HG.out.2 (by omega) (by omega) (by omega)
          refine h6.mono (by omega) ?_
          rw [set_size, set_size]
          exact Nat.le_refl _
end Go.Proofs.YtcecgbjolngdbaaGreatDoor
