/- A line of a project is taken: the program. -/
import Derived.Test.YtcecgbjolngdbaaGreatDoorParP1
import Derived.Test.YtcecgbjolngdbaaGreatDoorParP2
namespace Go.Proofs.YtcecgbjolngdbaaGreatDoor
open Go.ChangeShapes Go.WideShapes Go.ChangeAt Go.RowKit
set_option linter.unusedVariables false
set_option linter.unusedSimpArgs false
attribute [local go_sem ↓] Go.wp_at_zero Go.wp_at_succ

theorem lineB_dead (l : List ByteArray) : lineB (wDead :: l) = (decide (l.length = 1) && okI (gw l 0)) := by
  unfold lineB
  rw [if_pos (show gw (wDead :: l) 0 = wDead from rfl), List.length_cons]
  have e1 : decide (l.length + 1 = 2) = decide (l.length = 1) := decide_eq_decide.2 (by omega)
  rw [e1]; rfl
theorem lineB_stk (l : List ByteArray) : lineB (wStk :: l) = (decide (l.length = 1) && okI (gw l 0)) := by
  obtain ⟨n1, n2, n3, n4, n5, n6, n7, n8, n9, n10, n11, n12, n13, n14⟩ := wd_ne2
  unfold lineB
  rw [show gw (wStk :: l) 0 = wStk from rfl, if_neg n2, if_neg n3, if_pos rfl, List.length_cons]
  have e1 : decide (l.length + 1 = 2) = decide (l.length = 1) := decide_eq_decide.2 (by omega)
  rw [e1]; rfl
theorem lineB_res (l : List ByteArray) : lineB (wRes :: l) = okR l := by
  obtain ⟨n1, _⟩ := wd_ne2
  unfold lineB
  rw [show gw (wRes :: l) 0 = wRes from rfl, if_neg n1, if_pos rfl]; rfl
theorem lineB_act (l : List ByteArray) : lineB (wAct :: l) = okA l := by
  obtain ⟨n1, n2, n3, n4, n5, n6, _⟩ := wd_ne2
  unfold lineB
  rw [show gw (wAct :: l) 0 = wAct from rfl, if_neg n4, if_neg n5, if_neg n6, if_pos rfl]; rfl
theorem lineB_lk {x : ByteArray} (hx : x = wSta ∨ x = wEnd) (l : List ByteArray) : lineB (x :: l) = okL l := by
  obtain ⟨n1, n2, n3, n4, n5, n6, n7, n8, n9, n10, n11, n12, n13, n14⟩ := wd_ne2
  have e1 : decide ((x :: l).length = 4) = decide (l.length = 3) := decide_eq_decide.2 (by rw [List.length_cons]; omega)
  unfold lineB okL
  rw [e1]
  rcases hx with rfl | rfl
  · rw [show gw (wSta :: l) 0 = wSta from rfl, if_neg n7, if_neg n8, if_neg n9, if_neg n10, if_pos (.inl rfl)]; rfl
  · rw [show gw (wEnd :: l) 0 = wEnd from rfl, if_neg n11, if_neg n12, if_neg n13, if_neg n14, if_pos (.inr rfl)]; rfl
theorem lineB_no {x : ByteArray} (h1 : x ≠ wDead) (h2 : x ≠ wRes) (h3 : x ≠ wStk) (h4 : x ≠ wAct) (h5 : x ≠ wSta) (h6 : x ≠ wEnd) (l : List ByteArray) : lineB (x :: l) = false := by
  unfold lineB
  rw [show gw (x :: l) 0 = x from rfl, if_neg h1, if_neg h2, if_neg h3, if_neg h4, if_neg (by rintro (h | h); exact h5 h; exact h6 h)]
theorem stepP_dead (p : Pj) (l : List ByteArray) : stepP p (wDead :: l) = { p with dead := valI (gw l 0) } := by
  unfold stepP; rw [if_pos (show gw (wDead :: l) 0 = wDead from rfl)]; rfl
theorem stepP_res (p : Pj) (l : List ByteArray) : stepP p (wRes :: l) = { p with res := p.res ++ [parR l] } := by
  obtain ⟨n1, _⟩ := wd_ne2
  unfold stepP; rw [show gw (wRes :: l) 0 = wRes from rfl, if_neg n1, if_pos rfl]; rfl
theorem stepP_stk (p : Pj) (l : List ByteArray) : stepP p (wStk :: l) = { p with stocks := p.stocks ++ [valI (gw l 0)] } := by
  obtain ⟨n1, n2, n3, _⟩ := wd_ne2
  unfold stepP; rw [show gw (wStk :: l) 0 = wStk from rfl, if_neg n2, if_neg n3, if_pos rfl]; rfl
theorem stepP_act (p : Pj) (l : List ByteArray) : stepP p (wAct :: l) = { p with acts := p.acts ++ [parA l] } := by
  obtain ⟨n1, n2, n3, n4, n5, n6, _⟩ := wd_ne2
  unfold stepP; rw [show gw (wAct :: l) 0 = wAct from rfl, if_neg n4, if_neg n5, if_neg n6, if_pos rfl]; rfl
theorem stepP_lk {x : ByteArray} (hx : x = wSta ∨ x = wEnd) (p : Pj) (l : List ByteArray) : stepP p (x :: l) = { p with links := p.links ++ [⟨actIdx p.acts (gw l 0), actIdx p.acts (gw l 1), decide (x = wEnd), valI (gw l 2)⟩] } := by
  obtain ⟨n1, n2, n3, n4, n5, n6, n7, n8, n9, n10, n11, n12, n13, n14⟩ := wd_ne2
  unfold stepP
  rcases hx with rfl | rfl
  · rw [show gw (wSta :: l) 0 = wSta from rfl, if_neg n7, if_neg n8, if_neg n9, if_neg n10, if_pos (.inl rfl)]; rfl
  · rw [show gw (wEnd :: l) 0 = wEnd from rfl, if_neg n11, if_neg n12, if_neg n13, if_neg n14, if_pos (.inr rfl)]; rfl
theorem RdS.tail {w : World} {lo hi b : Nat} {x : ByteArray} {l : List ByteArray} (h : RdS w lo hi (some ⟨b, 0, none⟩) (x :: l)) : RdS w lo hi (some ⟨b, 1, none⟩) l := fun h0 => by
  obtain ⟨b', off', e, h1, h2, hc⟩ := h (by simp)
  injection e with e; injection e with e1 e2; subst e1; subst e2
  refine ⟨b, 1, rfl, h1, h2, fun j hj => ?_⟩
  have := hc (j + 1) (by simp; omega)
  have e : 0 + (j + 1) = 1 + j := by omega
  rw [e] at this
  exact this
theorem ne_lit {a : ByteArray} {l : List UInt8} (h : a ≠ ⟨l.toArray⟩) : ¬ a.toList = l ∧ (a.toList == l) = false := by
  have h1 : ¬ a.toList = l := fun e => h (str_ext (by rw [ByteArray.toList_eq] at e; simpa using e))
  exact ⟨h1, by rw [beq_eq_false_iff_ne]; exact h1⟩
theorem four_new (w : World) (x y z u : Value) (t : TypeId) : ∀ j v, [x, y, z, u][j]? = some v → (w.alloc (.cells #[x, y, z, u] t)).cell? ⟨w.heap.size, 0 + j, none⟩ = some v := by
  intro j v hj
  rw [World.cell?_alloc_at _ _ _ _ rfl, Nat.zero_add]
  match j, hj with
  | 0, hj => exact hj
  | 1, hj => exact hj
  | 2, hj => exact hj
  | 3, hj => exact hj
theorem four_cell {x y z u : Value} (h : x.oneCell' = true) (h' : y.oneCell' = true) (h'' : z.oneCell' = true) (h3 : u.oneCell' = true) : ∀ v ∈ [x, y, z, u], v.oneCell' = true := by
  intro v hv
  simp at hv
  rcases hv with rfl | rfl | rfl | rfl
  · exact h
  · exact h'
  · exact h''
  · exact h3
/-- Below a world's end nothing turns when it draws and makes one thing more. -/
theorem below_da {V V3 : World} (h : Below V.heap.size V V3) (o : Obj) : Below V.heap.size V (V3.drew.alloc o) := (below_quiet h 1).alloc h.size o
theorem only_setNew {lo hi : Nat} {a w : World} (h : Only lo hi a w) {p : Addr} (hp : a.heap.size ≤ p.block) (u : Value) : Only lo hi a (w.setCell p u) :=
  ⟨h.os, h.tape, h.output, by rw [set_size]; exact h.size, fun k hk hn => (Below.heap_setCell w p u k (by rintro rfl; omega)).trans (h.block k hk hn)⟩
theorem only_end {V W : World} (h : Only V.heap.size V.heap.size V W) : Below V.heap.size V W := ⟨h.os, h.tape, h.output, h.size, fun k hk => h.block k hk (by omega)⟩
theorem lk_ready {V W : World} {g lo : Nat} {p : Pj} {A L R S : Option Addr} {ca cl cr cs : Nat} {b1 b2 b3 b4 : List Nat} (h : PjB V g lo p A L R S ca cl cr cs b1 b2 b3 b4) (hW : Below V.heap.size V W) (k : Lk) :
    OwG 4 75 OwLk lk0 W L cl p.links b2 ∧ OwLk W #[.int .i64 k.src, .int .i64 k.dst, .bool k.fe, .int .i64 k.lag] k [] ∧ Nd (b2 ++ []) lo W.heap.size := by
  have h2 := h.below hW (Nat.le_refl _)
  exact ⟨h2.links, ⟨rfl, rfl⟩, by rw [List.append_nil]; exact (nd_app (nd_app h2.nd).2.1).1⟩
theorem only_below2 {bs : List Nat} {V W W' : World} (h : Below V.heap.size V W) (r : OnlyIn bs W W') : OnlyIn bs V W' := ((OnlyIn.refl bs V).below h (Nat.le_refl _)).trans r
theorem new_blocks {V W : World} {bs bs' bq : List Nat} {lo : Nat} (hq : Nd bq V.heap.size lo) (hs : V.heap.size ≤ W.heap.size) (h : ∀ k ∈ bs', k ∈ bs ∨ k ∈ bq ∨ k = W.heap.size) : ∀ k ∈ bs', k ∈ bs ∨ V.heap.size ≤ k := fun k hk => by
  rcases h k hk with h | h | h
  · exact .inl h
  · exact .inr (hq.2 k h).1
  · exact .inr (by omega)
set_option maxRecDepth 20000 in
set_option maxHeartbeats 12800000 in
theorem line_any (g lo : Nat) (p : Pj) (x : ByteArray) (w : World) (hP : PjG w g lo p) (hlo : lo ≤ w.heap.size) (hx : x.size ≤ 1048576) (hps : szPj p ≤ 16777200) (hg : Nat) (ld : LdC w hg) (hhg : hg ≤ g) :
    Calls Tryz.prog 62 #[.pointer (some ⟨g, 0, none⟩), .string x] w fun e w' => e = .returned (.bool (lineB (words x))) ∧ (lineB (words x) = true → PjG w' g lo (stepP p (words x))) ∧ Fr g lo w w' := by
  obtain ⟨A, L, R, S, ca, cl, cr, cs, b1, b2, b3, b4, hP⟩ := hP
  have hlow := hP.low
  have hgl := hP.lt
  have hsz1 : p.acts.length ≤ 16777200 ∧ p.links.length ≤ 16777200 ∧ p.res.length ≤ 16777200 ∧ p.stocks.length ≤ 16777200 := by
    have e : szPj p = szL szAc p.acts + (p.links.length + (szL szRs p.res + p.stocks.length)) := rfl
    have := szL_len szAc p.acts
    have := szL_len szRs p.res
    omega
  have HXS0 := hide (show ∀ y ∈ words x, y.size ≤ x.size from splitAny_size x space)
  have HSW := hide (show splitAny x ⟨#[32]⟩ = words x from rfl)
  obtain ⟨w0, rest, hw⟩ : ∃ w0 rest, words x = w0 :: rest := by
    have hne := words_ne x
    cases hh : words x with
    | nil => exact absurd hh hne
    | cons a b => exact ⟨a, b, rfl⟩
  rw [hw] at HXS0 HSW ⊢
  have hrl : rest.length ≤ 16777216 := by
    have h := splitAny_len x space
    rw [show splitAny x space = w0 :: rest from HSW.out, List.length_cons] at h
    omega
  have HX2 := hide (show ∀ y ∈ rest, y.size ≤ 1048576 from fun y hy => by have := HXS0.out y (by simp [hy]); omega)
  clear hw HXS0
  go_enter Tryz.func62, Tryz.ntmps62
  go_wp2_with fail
  refine (implSplitAny_any x ⟨#[32]⟩ w (by omega) (by decide)).mono ?_
  rintro e V1 ⟨A', c', rfl, oL, r⟩
  have z1 := r.size
  have hP := hP.below r (Nat.le_refl _)
  have ld := ld.below r (by omega)
  have HFR := hide (Fr.of_below (g := g) r hlo)
  rw [HSW.out] at oL ⊢
  clear HSW
  obtain ⟨b, rfl, g1, g2, g3⟩ := oL.some_ (by simp)
  have hcap := own_cap oL
  have q0 := oL.rdS
  have HRD := hide (RdS.tail oL.rdS)
  have c0 := oL.cellAt 0 (by simp)
  have c0 : V1.cell? ⟨b, 0, none⟩ = some (.string w0) := c0
  rw [List.length_cons] at hcap ⊢
  clear oL r q0
  by_cases hc1 : c' = 1
  · obtain rfl := hc1
    obtain rfl : rest = [] := List.length_eq_zero_iff.1 (by omega)
    have HRD := hide (show RdS V1 w.heap.size V1.heap.size (some ⟨b, 0, none⟩) [] from fun h => by simp at h)
    have hcap2 : ([] : List ByteArray).length ≤ 0 := Nat.le_refl _
    by_cases e1 : w0 = wDead
    · obtain rfl : w0 = (⟨#[100, 101, 97, 100, 108, 105, 110, 101]⟩ : ByteArray) := e1
      have HF := hide (show lineB ((⟨#[100, 101, 97, 100, 108, 105, 110, 101]⟩ : ByteArray) :: ([] : List ByteArray)) = _ from lineB_dead ([] : List ByteArray))
      have HS := hide (show stepP p ((⟨#[100, 101, 97, 100, 108, 105, 110, 101]⟩ : ByteArray) :: ([] : List ByteArray)) = _ from stepP_dead p ([] : List ByteArray))
      by_cases hl : (([] : List ByteArray)).length = 1
      case neg =>
        have HF2 := hide (show lineB ((⟨#[100, 101, 97, 100, 108, 105, 110, 101]⟩ : ByteArray) :: ([] : List ByteArray)) = false from by rw [HF.out, decide_eq_false hl]; rfl)
        have hne : ((((([] : List ByteArray)).length : Nat) : Int) != 1) = true := by first | (simp; done) | (simp; omega)
        clear hl
        go_wp2
        go_ret
        exact ⟨ret_bool HF2.out.symm, (fun h => by rw [HF2.out] at h; cases h), HFR.out⟩
      case pos =>
        all_goals (try (exact absurd hl (by simp; done)))
        all_goals
          obtain ⟨bb, off, hRA, k1, k2, hc⟩ := HRD.out (by omega)
          injection hRA with hRA; injection hRA with hb ho; subst hb; subst ho
          have q1 := hc 0 (by omega)
          rw [Nat.add_zero] at q1
          have s0 := HX2.out _ (getD_mem (k := 0) ByteArray.empty (by omega : 0 < (([] : List ByteArray)).length))
          have HY := hide (show gw ([] : List ByteArray) 0 = (([] : List ByteArray)).getD 0 ByteArray.empty from rfl)
          have HF2 := hide (show lineB ((⟨#[100, 101, 97, 100, 108, 105, 110, 101]⟩ : ByteArray) :: ([] : List ByteArray)) = okI (gw ([] : List ByteArray) 0) from by rw [HF.out, decide_eq_true hl]; rfl)
          generalize (([] : List ByteArray)).getD 0 ByteArray.empty = y at q1 s0 HY
          have hne : ((((([] : List ByteArray)).length : Nat) : Int) != 1) = false := by simp [hl]
          have hp : 0 < (([] : List ByteArray)).length := by omega
          clear hc hl
          go_wp2_with fail
          refine (implParseInt_any y hg V1 (by omega) ld.e (by omega)).mono ?_
          rintro e V2 ⟨rfl, r⟩
          have hP2 := hP.below r (Nat.le_refl _)
          have z2 := r.size
          have HFR2 := hide (HFR.out.trans (Fr.of_below r (by omega)))
          clear q1 r
          have d0 := hP2.box.cell 0
          have f0 := hP2.box.frozen 0
          simp only [List.getElem?_toArray, List.getElem?_cons_succ, List.getElem?_cons_zero] at d0
          go_wp2
          go_ret
          refine ⟨ret_bool ?_, (fun _ => ?_), HFR2.out.set 0 _⟩
          · rw [HF2.out, HY.out]
          · rw [HS.out, HY.out]
            exact ⟨_, _, _, _, _, _, _, _, _, _, _, _, hP2.setDead _⟩
    by_cases e2 : w0 = wRes
    · obtain rfl : w0 = (⟨#[114, 101, 115, 111, 117, 114, 99, 101]⟩ : ByteArray) := e2
      have HF := hide (show lineB ((⟨#[114, 101, 115, 111, 117, 114, 99, 101]⟩ : ByteArray) :: ([] : List ByteArray)) = _ from lineB_res ([] : List ByteArray))
      have HS := hide (show stepP p ((⟨#[114, 101, 115, 111, 117, 114, 99, 101]⟩ : ByteArray) :: ([] : List ByteArray)) = _ from stepP_res p ([] : List ByteArray))
      have hln : (([] : List ByteArray)).length ≤ 16777216 := by first | exact hrl | simp
      go_wp2_with fail
      refine (resourceOf_any (some ⟨b, 0, none⟩) ([] : List ByteArray) 0 w.heap.size V1.heap.size V1 (by omega) HX2.out HRD.out (Nat.le_refl _) hg ld (by omega)).mono ?_
      rintro e V2 ⟨r, ok, S', cs', T', ct', bq, rfl, hOR, hNR, rb, hbk, hval⟩
      have HBK := hide hbk; have HVL := hide hval
      have z2 := rb.size
      have hP2 := hP.below rb (Nat.le_refl _)
      have HFR2 := hide (HFR.out.trans (Fr.of_below rb (by omega)))
      have HRY := hide (fun W hW => el_ready (W := W) OwRs.keeps hP.res (nd_app (nd_app (nd_app hP.nd).2.1).2.1).1 rb hOR hNR (by omega) hW)
      have HNR := hide hNR
      clear hbk hval hOR hNR
      go_wp2_with fail
      refine at_reg fun V3 hV3 => ?_
      have bV : Below V2.heap.size V2 V3 := by rw [hV3]; exact (Below.refl _ _).alloc (Nat.le_refl _) _
      have mb : Bk V3 V2.heap.size 71 #[.slice S' r.steps.length cs', .slice T' r.setup.length ct'] := by rw [hV3]; exact Bk.made _ _ _
      have z3 := bV.size
      have hP3 := hP2.below bV (Nat.le_refl _)
      have bW := rb.trans (bV.mono (by omega))
      have m0 := mb.cell 0
      have m1 := mb.cell 1
      have d0 := hP3.box.cell 3
      have ad := fun o => (hP3.drew.alloc o).box.cell 3
      have f0 := hP3.box.frozen 3
      simp only [List.getElem?_toArray, List.getElem?_cons_succ, List.getElem?_cons_zero] at d0 ad m0 m1
      have hgl3 := hP3.lt
      have hst := hsz1.2.2.1
      have hgn : g ∉ b3 := fun hm => by have := (hP.nd.2 g (by simp [hm])).1; omega
      have HGN := hide hgn
      have HBX := hide (fun o => (hP3.drew.alloc o).box)
      have HBD := hide (fun o => below_da bV o)
      have HBW := hide (fun o => below_da bW o)
      have HN3 := hide (show ∀ x ∈ b3, lo ≤ x from fun x hm => (hP.nd.2 x (by simp [hm])).1)
      clear hV3 mb hgn hP2 hP3
      go_region_law (first | (refine step_pushN OwRs.keeps (by rfl) (.tmp 50) (.tmp 52) 32 (by rfl) 71 _ 2 48 Tryz.underlying32 Tryz.infoRs rfl (by omega) R p.res.length cr p.res b3 lo rfl (by rfl) r #[.slice S' r.steps.length cs', .slice T' r.setup.length ct'] bq (HRY.out _ (HBD.out _)) rfl _ 0 1 (by rfl) (two_new _ _ _ _) (two_cell rfl rfl) (by omega) (by omega) (by have := (HBW.out (.cells #[] 71)).size; simp at this ⊢; omega) ?_; intro A2 c2 bs2 w2 hG2 hN2 hb2 hO2; have kb2 := (hO2.block g (by simp; omega) HGN.out).trans (HBX.out _); have d0 := Bk.cell kb2 3; have f0 := Bk.frozen kb2 3; simp only [List.getElem?_toArray, List.getElem?_cons_succ, List.getElem?_cons_zero] at d0; have HG2 := hide hG2; have HN2 := hide hN2; have HB2 := hide hb2; have HO2 := hide hO2; clear hG2 hN2 hb2 hO2))
      all_goals go_wp2
      all_goals go_ret
      all_goals
        refine ⟨ret_bool (HBK.out.trans HF.out.symm), (fun h => ?_), ((((HFR2.out.trans (Fr.of_below bV (by omega))).qt 1).alloc _).trans (Fr.of_only HO2.out (fun x hm => .inr (HN3.out x hm)))).set 3 _⟩
        rw [HS.out, ← HVL.out (by rw [HBK.out, ← HF.out]; exact h)]
        exact ⟨_, _, _, _, _, _, _, _, _, _, _, _, PjB.setRes hP (only_below2 (HBW.out _) HO2.out) HG2.out HN2.out (new_blocks HNR.out (HBW.out _).size HB2.out)⟩
    by_cases e3 : w0 = wStk
    · obtain rfl : w0 = (⟨#[115, 116, 111, 99, 107]⟩ : ByteArray) := e3
      have HF := hide (show lineB ((⟨#[115, 116, 111, 99, 107]⟩ : ByteArray) :: ([] : List ByteArray)) = _ from lineB_stk ([] : List ByteArray))
      have HS := hide (show stepP p ((⟨#[115, 116, 111, 99, 107]⟩ : ByteArray) :: ([] : List ByteArray)) = _ from stepP_stk p ([] : List ByteArray))
      by_cases hl : (([] : List ByteArray)).length = 1
      case neg =>
        have HF2 := hide (show lineB ((⟨#[115, 116, 111, 99, 107]⟩ : ByteArray) :: ([] : List ByteArray)) = false from by rw [HF.out, decide_eq_false hl]; rfl)
        have hne : ((((([] : List ByteArray)).length : Nat) : Int) != 1) = true := by first | (simp; done) | (simp; omega)
        clear hl
        go_wp2
        go_ret
        exact ⟨ret_bool HF2.out.symm, (fun h => by rw [HF2.out] at h; cases h), HFR.out⟩
      case pos =>
        all_goals (try (exact absurd hl (by simp; done)))
        all_goals
          obtain ⟨bb, off, hRA, k1, k2, hc⟩ := HRD.out (by omega)
          injection hRA with hRA; injection hRA with hb ho; subst hb; subst ho
          have q1 := hc 0 (by omega)
          rw [Nat.add_zero] at q1
          have s0 := HX2.out _ (getD_mem (k := 0) ByteArray.empty (by omega : 0 < (([] : List ByteArray)).length))
          have HY := hide (show gw ([] : List ByteArray) 0 = (([] : List ByteArray)).getD 0 ByteArray.empty from rfl)
          have HF2 := hide (show lineB ((⟨#[115, 116, 111, 99, 107]⟩ : ByteArray) :: ([] : List ByteArray)) = okI (gw ([] : List ByteArray) 0) from by rw [HF.out, decide_eq_true hl]; rfl)
          generalize (([] : List ByteArray)).getD 0 ByteArray.empty = y at q1 s0 HY
          have hne : ((((([] : List ByteArray)).length : Nat) : Int) != 1) = false := by simp [hl]
          have hp : 0 < (([] : List ByteArray)).length := by omega
          clear hc hl
          go_wp2_with fail
          refine (implParseInt_any y hg V1 (by omega) ld.e (by omega)).mono ?_
          rintro e V2 ⟨rfl, r⟩
          have hP2 := hP.below r (Nat.le_refl _)
          have z2 := r.size
          have HFR2 := hide (HFR.out.trans (Fr.of_below r (by omega)))
          clear q1 r
          have d0 := hP2.box.cell 4
          simp only [List.getElem?_toArray, List.getElem?_cons_succ, List.getElem?_cons_zero] at d0
          have hst := hsz1.2.2.2
          have HP3 := hide (fun o => hP2.alloc o)
          have hlt := hP2.lt
          clear hP2
          go_wp2_with (at_builtin; go_must (refine wpList_pushB _ (.tmp 73) (.tmp 75) 25 3 _ 1 8 Tryz.underlying25 Tryz.infoInt rfl (by omega) S p.stocks.length cs _ b4 (HP3.out _).stocks V2.heap.size 0 1 1 [.int .i64 (valI y)] (by omega) rfl (one_new _ _ _) (one_cell rfl) (by omega) (by omega) ?_ rfl rfl rfl rfl))
          intro A2 c2 bs2 w2 hR2 hb2 hO2
          have hg4 : g ∉ b4 := fun hm => by have := ((HP3.out (.cells #[] 3)).nd.2 g (by simp [hm])).1; omega
          have kb2 := (hO2.block g (by simp; omega) hg4).trans (HP3.out _).box
          have d4 := Bk.cell kb2 4
          have f4 := Bk.frozen kb2 4
          simp only [List.getElem?_toArray, List.getElem?_cons_succ, List.getElem?_cons_zero] at d4
          have HO2 := hide hO2
          have HR2 := hide hR2
          have HB2 := hide hb2
          have hb4 : ∀ x ∈ b4, lo ≤ x := fun x hm => ((HP3.out (.cells #[] 3)).nd.2 x (by simp [hm])).1
          have HB4 := hide hb4
          clear d0 hR2 hO2 hb2 hb4
          go_wp2
          go_ret
          refine ⟨ret_bool ?_, (fun _ => ?_), ((HFR2.out.alloc _).trans (Fr.of_only HO2.out (fun x hm => .inr (HB4.out x hm)))).set 4 _⟩
          · rw [HF2.out, HY.out]
          · rw [HS.out, HY.out]
            exact ⟨_, _, _, _, _, _, _, _, _, _, _, _, PjB.setStocks (HP3.out _) HO2.out HR2.out (by first | exact HB2.out | (have := HB2.out; simpa using this)) (by simp; omega)⟩
    by_cases e4 : w0 = wAct
    · obtain rfl : w0 = (⟨#[97, 99, 116, 105, 118, 105, 116, 121]⟩ : ByteArray) := e4
      have HF := hide (show lineB ((⟨#[97, 99, 116, 105, 118, 105, 116, 121]⟩ : ByteArray) :: ([] : List ByteArray)) = _ from lineB_act ([] : List ByteArray))
      have HS := hide (show stepP p ((⟨#[97, 99, 116, 105, 118, 105, 116, 121]⟩ : ByteArray) :: ([] : List ByteArray)) = _ from stepP_act p ([] : List ByteArray))
      have hln : (([] : List ByteArray)).length ≤ 16777216 := by first | exact hrl | simp
      go_wp2_with fail
      refine (activityOf_any (some ⟨b, 0, none⟩) ([] : List ByteArray) 0 w.heap.size V1.heap.size V1 (by omega) hcap2 HX2.out HRD.out (Nat.le_refl _) hg ld.e (by omega)).mono ?_
      rintro e V2 ⟨r, ok, S', cs', bq, rfl, hOR, hNR, rb, hbk, hval⟩
      have HBK := hide hbk; have HVL := hide hval
      have z2 := rb.size
      have hP2 := hP.below rb (Nat.le_refl _)
      have HFR2 := hide (HFR.out.trans (Fr.of_below rb (by omega)))
      have HRY := hide (fun W hW => el_ready (W := W) OwAs.keeps hP.acts (nd_app hP.nd).1 rb hOR hNR (by omega) hW)
      have HNR := hide hNR
      clear hbk hval hOR hNR
      go_wp2_with fail
      refine at_reg fun V3 hV3 => ?_
      have bV : Below V2.heap.size V2 V3 := by rw [hV3]; exact (Below.refl _ _).alloc (Nat.le_refl _) _
      have mb : Bk V3 V2.heap.size 46 #[.string r.name, .int .i64 r.fam, .slice S' r.modes.length cs'] := by rw [hV3]; exact Bk.made _ _ _
      have z3 := bV.size
      have hP3 := hP2.below bV (Nat.le_refl _)
      have bW := rb.trans (bV.mono (by omega))
      have m0 := mb.cell 0
      have m1 := mb.cell 1
      have m2 := mb.cell 2
      have d0 := hP3.box.cell 1
      have ad := fun o => (hP3.drew.alloc o).box.cell 1
      have f0 := hP3.box.frozen 1
      simp only [List.getElem?_toArray, List.getElem?_cons_succ, List.getElem?_cons_zero] at d0 ad m0 m1 m2
      have hgl3 := hP3.lt
      have hst := hsz1.1
      have hgn : g ∉ b1 := fun hm => by have := (hP.nd.2 g (by simp [hm])).1; omega
      have HGN := hide hgn
      have HBX := hide (fun o => (hP3.drew.alloc o).box)
      have HBD := hide (fun o => below_da bV o)
      have HBW := hide (fun o => below_da bW o)
      have HN3 := hide (show ∀ x ∈ b1, lo ≤ x from fun x hm => (hP.nd.2 x (by simp [hm])).1)
      clear hV3 mb hgn hP2 hP3
      go_region_law (first | (refine step_pushN OwAs.keeps (by rfl) (.tmp 91) (.tmp 93) 30 (by rfl) 46 _ 3 48 Tryz.underlying30 Tryz.infoAc rfl (by omega) A p.acts.length ca p.acts b1 lo rfl (by rfl) r #[.string r.name, .int .i64 r.fam, .slice S' r.modes.length cs'] bq (HRY.out _ (HBD.out _)) rfl _ 0 1 (by rfl) (three_new _ _ _ _ _) (three_cell rfl rfl rfl) (by omega) (by omega) (by have := (HBW.out (.cells #[] 46)).size; simp at this ⊢; omega) ?_; intro A2 c2 bs2 w2 hG2 hN2 hb2 hO2; have kb2 := (hO2.block g (by simp; omega) HGN.out).trans (HBX.out _); have d0 := Bk.cell kb2 1; have f0 := Bk.frozen kb2 1; simp only [List.getElem?_toArray, List.getElem?_cons_succ, List.getElem?_cons_zero] at d0; have HG2 := hide hG2; have HN2 := hide hN2; have HB2 := hide hb2; have HO2 := hide hO2; clear hG2 hN2 hb2 hO2))
      all_goals go_wp2
      all_goals go_ret
      all_goals
        refine ⟨ret_bool (HBK.out.trans HF.out.symm), (fun h => ?_), ((((HFR2.out.trans (Fr.of_below bV (by omega))).qt 1).alloc _).trans (Fr.of_only HO2.out (fun x hm => .inr (HN3.out x hm)))).set 1 _⟩
        rw [HS.out, ← HVL.out (by rw [HBK.out, ← HF.out]; exact h)]
        exact ⟨_, _, _, _, _, _, _, _, _, _, _, _, PjB.setActs hP (only_below2 (HBW.out _) HO2.out) HG2.out HN2.out (new_blocks HNR.out (HBW.out _).size HB2.out)⟩
    by_cases e5 : w0 = wSta
    · obtain rfl : w0 = (⟨#[115, 116, 97, 114, 116]⟩ : ByteArray) := e5
      have HF := hide (show lineB ((⟨#[115, 116, 97, 114, 116]⟩ : ByteArray) :: ([] : List ByteArray)) = _ from lineB_lk (.inl rfl) ([] : List ByteArray))
      have HS := hide (show stepP p ((⟨#[115, 116, 97, 114, 116]⟩ : ByteArray) :: ([] : List ByteArray)) = { p with links := p.links ++ [⟨actIdx p.acts (gw ([] : List ByteArray) 0), actIdx p.acts (gw ([] : List ByteArray) 1), false, valI (gw ([] : List ByteArray) 2)⟩] } from stepP_lk (.inl rfl) p ([] : List ByteArray))
      have hz : Bk (V1.alloc (.cells #[.int .i64 0, .int .i64 0, .bool false, .int .i64 0] 75)).drew V1.heap.size 75 #[.int .i64 0, .int .i64 0, .bool false, .int .i64 0] := Bk.made V1 _ _
      have HLK : Hid (∀ W, Only V1.heap.size V1.heap.size V1 W → Calls Tryz.prog 121 #[.agg #[.int .i64 p.dead, .slice A p.acts.length ca, .slice L p.links.length cl, .slice R p.res.length cr, .slice S p.stocks.length cs], .slice (some ⟨b, 0, none⟩) (([] : List ByteArray)).length 0, .bool false] W fun e w' => ∃ (k : Lk) (b : Bool), e = .returned (.tuple #[.agg #[.int .i64 k.src, .int .i64 k.dst, .bool k.fe, .int .i64 k.lag], .bool b]) ∧ Below W.heap.size W w' ∧ b = okL ([] : List ByteArray) ∧ (b = true → k = ⟨actIdx p.acts (gw ([] : List ByteArray) 0), actIdx p.acts (gw ([] : List ByteArray) 1), false, valI (gw ([] : List ByteArray) 2)⟩)) :=
        hide (fun W hO => linkOf_any p false A L R S (some ⟨b, 0, none⟩) ([] : List ByteArray) ca cl cr cs 0 lo V1.heap.size w.heap.size V1.heap.size W (by omega) (hP.rdA.only hO (Nat.le_refl _) (by omega)) hO.size HX2.out (HRD.out.only hO (Nat.le_refl _) (by omega)) hO.size hg (ld.e.only hO (by omega) (by omega)) (by have := hO.size; omega))
      have p0 := hP.box.cell 0
      have p1 := hP.box.cell 1
      have p2 := hP.box.cell 2
      have p3 := hP.box.cell 3
      have p4 := hP.box.cell 4
      simp only [List.getElem?_toArray, List.getElem?_cons_succ, List.getElem?_cons_zero] at p0 p1 p2 p3 p4
      have HKP : Hid (∀ W, Only V1.heap.size V1.heap.size V1 W → (W.cell? ⟨g, 0, none⟩ = some (.int .i64 p.dead) ∧ W.cell? ⟨g, 1, none⟩ = some (.slice A p.acts.length ca) ∧ W.cell? ⟨g, 2, none⟩ = some (.slice L p.links.length cl) ∧ W.cell? ⟨g, 3, none⟩ = some (.slice R p.res.length cr) ∧ W.cell? ⟨g, 4, none⟩ = some (.slice S p.stocks.length cs) ∧ W.cell? ⟨b, 0, none⟩ = some (.string (⟨#[115, 116, 97, 114, 116]⟩ : ByteArray))) ∧ Only V1.heap.size V1.heap.size V1 W) :=
        hide (fun W hO => ⟨⟨only_cell hO p0, only_cell hO p1, only_cell hO p2, only_cell hO p3, only_cell hO p4, only_cell hO c0⟩, hO⟩)
      have HP := hide hP
      have hst := hsz1.2.1
      clear hP
      go_wp2_with fail
      go_region_held3 (fun w' => (w'.cell? ⟨g, 0, none⟩ = some (.int .i64 p.dead) ∧ w'.cell? ⟨g, 1, none⟩ = some (.slice A p.acts.length ca) ∧ w'.cell? ⟨g, 2, none⟩ = some (.slice L p.links.length cl) ∧ w'.cell? ⟨g, 3, none⟩ = some (.slice R p.res.length cr) ∧ w'.cell? ⟨g, 4, none⟩ = some (.slice S p.stocks.length cs) ∧ w'.cell? ⟨b, 0, none⟩ = some (.string (⟨#[115, 116, 97, 114, 116]⟩ : ByteArray))) ∧ Only V1.heap.size V1.heap.size V1 w')
        (exact HKP.out _ (by repeat' (first | assumption | exact Only.refl _ _ _ | refine Only.drew ?_ | refine Only.alloc ?_ _ | refine only_setNew ?_ (by first | exact Nat.le_refl _ | (have := hO'.size; dsimp only; omega)) _)))
        (first | (go_at_call 121; (try go_split_ands); refine (HLK.out _ (by assumption)).mono ?_; rintro e V2 ⟨k, ok, rfl, r_e, hbk, hval⟩; have hkd := bk_below r_e (by assumption); have HBK := hide hbk; have HVL := hide hval; have hO' := only_grow2 (lo := V1.heap.size) (hi := V1.heap.size) (w := V1) (by assumption) r_e; clear hbk hval; have g0 := Bk.cell hkd 0; have g1 := Bk.cell hkd 1; have g2 := Bk.cell hkd 2; have g3 := Bk.cell hkd 3; have f0 := Bk.frozen hkd 0; have f1 := Bk.frozen hkd 1; have f2 := Bk.frozen hkd 2; have f3 := Bk.frozen hkd 3; simp only [List.getElem?_toArray, List.getElem?_cons_succ, List.getElem?_cons_zero] at g0 g1 g2 g3) | (go_at_call 121; (try go_split_ands); refine (HLK.out _ (by assumption)).mono ?_; rintro e V2 ⟨k, ok, rfl, r_e, hbk, hval⟩; have HBK := hide hbk; have HVL := hide hval; have hO' := only_grow2 (lo := V1.heap.size) (hi := V1.heap.size) (w := V1) (by assumption) r_e; clear hbk hval))
      · obtain ⟨V3, hV3⟩ : ∃ V, V = V2.alloc (.cells #[.int .i64 k.src, .int .i64 k.dst, .bool k.fe, .int .i64 k.lag] 75) := ⟨_, rfl⟩
        rw [← hV3]
        have hO3 : Only V1.heap.size V1.heap.size V1 V3 := by rw [hV3]; exact Only.alloc hO' _
        have mb : Bk V3 V2.heap.size 75 #[.int .i64 k.src, .int .i64 k.dst, .bool k.fe, .int .i64 k.lag] := by rw [hV3]; exact Bk.made V2 _ _
        have bW : Below V1.heap.size V1 V3 := only_end hO3
        have hP3 := HP.out.below bW (Nat.le_refl _)
        have z3 := bW.size
        have HRY := hide (fun W (hW : Below V3.heap.size V3 W) => lk_ready hP3 hW k)
        have m0 := mb.cell 0
        have m1 := mb.cell 1
        have m2 := mb.cell 2
        have m3 := mb.cell 3
        have d0 := hP3.box.cell 2
        have ad := fun o => (hP3.drew.alloc o).box.cell 2
        have f0 := hP3.box.frozen 2
        simp only [List.getElem?_toArray, List.getElem?_cons_succ, List.getElem?_cons_zero] at d0 ad m0 m1 m2 m3
        have hgl3 := hP3.lt
        have HGN := hide (show g ∉ b2 from fun hm => by have := (HP.out.nd.2 g (by simp [hm])).1; omega)
        have HBX := hide (fun o => (hP3.drew.alloc o).box)
        have HBD := hide (fun o => below_da (Below.refl V3.heap.size V3) o)
        have HBW := hide (fun o => below_da bW o)
        have HN3 := hide (show ∀ x ∈ b2, lo ≤ x from fun x hm => (HP.out.nd.2 x (by simp [hm])).1)
        have HFR2 := hide (HFR.out.trans (Fr.of_below bW (by omega)))
        clear hV3 mb hP3 p0 p1 p2 p3 p4 hO3 bW
        go_wp2_with fail
        go_region_law (first | (refine step_pushN OwLs.keeps (by rfl) (.tmp 117) (.tmp 119) 31 (by rfl) 75 _ 4 32 Tryz.underlying31 Tryz.infoLk rfl (by omega) L p.links.length cl p.links b2 lo rfl (by rfl) k #[.int .i64 k.src, .int .i64 k.dst, .bool k.fe, .int .i64 k.lag] [] (HRY.out _ (HBD.out _)) rfl _ 0 1 (by rfl) (four_new _ _ _ _ _ _) (four_cell rfl rfl rfl rfl) (by omega) (by omega) (by have := (HBW.out (.cells #[] 75)).size; simp at this ⊢; omega) ?_; intro A2 c2 bs2 w2 hG2 hN2 hb2 hO2; have kb2 := (hO2.block g (by simp; omega) HGN.out).trans (HBX.out _); have d0 := Bk.cell kb2 2; have f0 := Bk.frozen kb2 2; simp only [List.getElem?_toArray, List.getElem?_cons_succ, List.getElem?_cons_zero] at d0; have HG2 := hide hG2; have HN2 := hide hN2; have HB2 := hide hb2; have HO2 := hide hO2; clear hG2 hN2 hb2 hO2))
        all_goals go_wp2
        all_goals go_ret
        all_goals
          refine ⟨ret_bool (HBK.out.trans HF.out.symm), (fun h => ?_), (((HFR2.out.qt 1).alloc _).trans (Fr.of_only HO2.out (fun x hm => .inr (HN3.out x hm)))).set 2 _⟩
          rw [HS.out, ← HVL.out (by rw [HBK.out, ← HF.out]; exact h)]
          exact ⟨_, _, _, _, _, _, _, _, _, _, _, _, PjB.setLinks HP.out (only_below2 (HBW.out _) HO2.out) HG2.out HN2.out (new_blocks (Nd.nil V1.heap.size 0) (HBW.out _).size HB2.out)⟩
      · obtain ⟨V3, hV3⟩ : ∃ V, V = (((V2.setCell ⟨V1.heap.size, 0, none⟩ (.int .i64 k.src)).setCell ⟨V1.heap.size, 1, none⟩ (.int .i64 k.dst)).setCell ⟨V1.heap.size, 2, none⟩ (.bool k.fe)).setCell ⟨V1.heap.size, 3, none⟩ (.int .i64 k.lag) := ⟨_, rfl⟩
        rw [← hV3]
        have hO3 : Only V1.heap.size V1.heap.size V1 V3 := by rw [hV3]; exact only_setNew (only_setNew (only_setNew (only_setNew hO' (Nat.le_refl _) _) (Nat.le_refl _) _) (Nat.le_refl _) _) (Nat.le_refl _) _
        have mb : Bk V3 V1.heap.size 75 #[.int .i64 k.src, .int .i64 k.dst, .bool k.fe, .int .i64 k.lag] := by rw [hV3]; exact (((Bk.set hkd 0 _).set 1 _).set 2 _).set 3 _
        have bW : Below V1.heap.size V1 V3 := only_end hO3
        have hP3 := HP.out.below bW (Nat.le_refl _)
        have z3 := bW.size
        have HRY := hide (fun W (hW : Below V3.heap.size V3 W) => lk_ready hP3 hW k)
        have m0 := mb.cell 0
        have m1 := mb.cell 1
        have m2 := mb.cell 2
        have m3 := mb.cell 3
        have d0 := hP3.box.cell 2
        have ad := fun o => (hP3.drew.alloc o).box.cell 2
        have f0 := hP3.box.frozen 2
        simp only [List.getElem?_toArray, List.getElem?_cons_succ, List.getElem?_cons_zero] at d0 ad m0 m1 m2 m3
        have hgl3 := hP3.lt
        have HGN := hide (show g ∉ b2 from fun hm => by have := (HP.out.nd.2 g (by simp [hm])).1; omega)
        have HBX := hide (fun o => (hP3.drew.alloc o).box)
        have HBD := hide (fun o => below_da (Below.refl V3.heap.size V3) o)
        have HBW := hide (fun o => below_da bW o)
        have HN3 := hide (show ∀ x ∈ b2, lo ≤ x from fun x hm => (HP.out.nd.2 x (by simp [hm])).1)
        have HFR2 := hide (HFR.out.trans (Fr.of_below bW (by omega)))
        clear hV3 mb hP3 p0 p1 p2 p3 p4 hO3 bW
        go_wp2_with fail
        go_region_law (first | (refine step_pushN OwLs.keeps (by rfl) (.tmp 117) (.tmp 119) 31 (by rfl) 75 _ 4 32 Tryz.underlying31 Tryz.infoLk rfl (by omega) L p.links.length cl p.links b2 lo rfl (by rfl) k #[.int .i64 k.src, .int .i64 k.dst, .bool k.fe, .int .i64 k.lag] [] (HRY.out _ (HBD.out _)) rfl _ 0 1 (by rfl) (four_new _ _ _ _ _ _) (four_cell rfl rfl rfl rfl) (by omega) (by omega) (by have := (HBW.out (.cells #[] 75)).size; simp at this ⊢; omega) ?_; intro A2 c2 bs2 w2 hG2 hN2 hb2 hO2; have kb2 := (hO2.block g (by simp; omega) HGN.out).trans (HBX.out _); have d0 := Bk.cell kb2 2; have f0 := Bk.frozen kb2 2; simp only [List.getElem?_toArray, List.getElem?_cons_succ, List.getElem?_cons_zero] at d0; have HG2 := hide hG2; have HN2 := hide hN2; have HB2 := hide hb2; have HO2 := hide hO2; clear hG2 hN2 hb2 hO2))
        all_goals go_wp2
        all_goals go_ret
        all_goals
          refine ⟨ret_bool (HBK.out.trans HF.out.symm), (fun h => ?_), (((HFR2.out.qt 1).alloc _).trans (Fr.of_only HO2.out (fun x hm => .inr (HN3.out x hm)))).set 2 _⟩
          rw [HS.out, ← HVL.out (by rw [HBK.out, ← HF.out]; exact h)]
          exact ⟨_, _, _, _, _, _, _, _, _, _, _, _, PjB.setLinks HP.out (only_below2 (HBW.out _) HO2.out) HG2.out HN2.out (new_blocks (Nd.nil V1.heap.size 0) (HBW.out _).size HB2.out)⟩

    by_cases e6 : w0 = wEnd
    · obtain rfl : w0 = (⟨#[101, 110, 100]⟩ : ByteArray) := e6
      have HF := hide (show lineB ((⟨#[101, 110, 100]⟩ : ByteArray) :: ([] : List ByteArray)) = _ from lineB_lk (.inr rfl) ([] : List ByteArray))
      have HS := hide (show stepP p ((⟨#[101, 110, 100]⟩ : ByteArray) :: ([] : List ByteArray)) = { p with links := p.links ++ [⟨actIdx p.acts (gw ([] : List ByteArray) 0), actIdx p.acts (gw ([] : List ByteArray) 1), true, valI (gw ([] : List ByteArray) 2)⟩] } from stepP_lk (.inr rfl) p ([] : List ByteArray))
      have hz : Bk (V1.alloc (.cells #[.int .i64 0, .int .i64 0, .bool false, .int .i64 0] 75)).drew V1.heap.size 75 #[.int .i64 0, .int .i64 0, .bool false, .int .i64 0] := Bk.made V1 _ _
      have HLK : Hid (∀ W, Only V1.heap.size V1.heap.size V1 W → Calls Tryz.prog 121 #[.agg #[.int .i64 p.dead, .slice A p.acts.length ca, .slice L p.links.length cl, .slice R p.res.length cr, .slice S p.stocks.length cs], .slice (some ⟨b, 0, none⟩) (([] : List ByteArray)).length 0, .bool true] W fun e w' => ∃ (k : Lk) (b : Bool), e = .returned (.tuple #[.agg #[.int .i64 k.src, .int .i64 k.dst, .bool k.fe, .int .i64 k.lag], .bool b]) ∧ Below W.heap.size W w' ∧ b = okL ([] : List ByteArray) ∧ (b = true → k = ⟨actIdx p.acts (gw ([] : List ByteArray) 0), actIdx p.acts (gw ([] : List ByteArray) 1), true, valI (gw ([] : List ByteArray) 2)⟩)) :=
        hide (fun W hO => linkOf_any p true A L R S (some ⟨b, 0, none⟩) ([] : List ByteArray) ca cl cr cs 0 lo V1.heap.size w.heap.size V1.heap.size W (by omega) (hP.rdA.only hO (Nat.le_refl _) (by omega)) hO.size HX2.out (HRD.out.only hO (Nat.le_refl _) (by omega)) hO.size hg (ld.e.only hO (by omega) (by omega)) (by have := hO.size; omega))
      have p0 := hP.box.cell 0
      have p1 := hP.box.cell 1
      have p2 := hP.box.cell 2
      have p3 := hP.box.cell 3
      have p4 := hP.box.cell 4
      simp only [List.getElem?_toArray, List.getElem?_cons_succ, List.getElem?_cons_zero] at p0 p1 p2 p3 p4
      have HKP : Hid (∀ W, Only V1.heap.size V1.heap.size V1 W → (W.cell? ⟨g, 0, none⟩ = some (.int .i64 p.dead) ∧ W.cell? ⟨g, 1, none⟩ = some (.slice A p.acts.length ca) ∧ W.cell? ⟨g, 2, none⟩ = some (.slice L p.links.length cl) ∧ W.cell? ⟨g, 3, none⟩ = some (.slice R p.res.length cr) ∧ W.cell? ⟨g, 4, none⟩ = some (.slice S p.stocks.length cs) ∧ W.cell? ⟨b, 0, none⟩ = some (.string (⟨#[101, 110, 100]⟩ : ByteArray))) ∧ Only V1.heap.size V1.heap.size V1 W) :=
        hide (fun W hO => ⟨⟨only_cell hO p0, only_cell hO p1, only_cell hO p2, only_cell hO p3, only_cell hO p4, only_cell hO c0⟩, hO⟩)
      have HP := hide hP
      have hst := hsz1.2.1
      clear hP
      go_wp2_with fail
      go_region_held3 (fun w' => (w'.cell? ⟨g, 0, none⟩ = some (.int .i64 p.dead) ∧ w'.cell? ⟨g, 1, none⟩ = some (.slice A p.acts.length ca) ∧ w'.cell? ⟨g, 2, none⟩ = some (.slice L p.links.length cl) ∧ w'.cell? ⟨g, 3, none⟩ = some (.slice R p.res.length cr) ∧ w'.cell? ⟨g, 4, none⟩ = some (.slice S p.stocks.length cs) ∧ w'.cell? ⟨b, 0, none⟩ = some (.string (⟨#[101, 110, 100]⟩ : ByteArray))) ∧ Only V1.heap.size V1.heap.size V1 w')
        (exact HKP.out _ (by repeat' (first | assumption | exact Only.refl _ _ _ | refine Only.drew ?_ | refine Only.alloc ?_ _ | refine only_setNew ?_ (by first | exact Nat.le_refl _ | (have := hO'.size; dsimp only; omega)) _)))
        (first | (go_at_call 121; (try go_split_ands); refine (HLK.out _ (by assumption)).mono ?_; rintro e V2 ⟨k, ok, rfl, r_e, hbk, hval⟩; have hkd := bk_below r_e (by assumption); have HBK := hide hbk; have HVL := hide hval; have hO' := only_grow2 (lo := V1.heap.size) (hi := V1.heap.size) (w := V1) (by assumption) r_e; clear hbk hval; have g0 := Bk.cell hkd 0; have g1 := Bk.cell hkd 1; have g2 := Bk.cell hkd 2; have g3 := Bk.cell hkd 3; have f0 := Bk.frozen hkd 0; have f1 := Bk.frozen hkd 1; have f2 := Bk.frozen hkd 2; have f3 := Bk.frozen hkd 3; simp only [List.getElem?_toArray, List.getElem?_cons_succ, List.getElem?_cons_zero] at g0 g1 g2 g3) | (go_at_call 121; (try go_split_ands); refine (HLK.out _ (by assumption)).mono ?_; rintro e V2 ⟨k, ok, rfl, r_e, hbk, hval⟩; have HBK := hide hbk; have HVL := hide hval; have hO' := only_grow2 (lo := V1.heap.size) (hi := V1.heap.size) (w := V1) (by assumption) r_e; clear hbk hval))
      · obtain ⟨V3, hV3⟩ : ∃ V, V = V2.alloc (.cells #[.int .i64 k.src, .int .i64 k.dst, .bool k.fe, .int .i64 k.lag] 75) := ⟨_, rfl⟩
        rw [← hV3]
        have hO3 : Only V1.heap.size V1.heap.size V1 V3 := by rw [hV3]; exact Only.alloc hO' _
        have mb : Bk V3 V2.heap.size 75 #[.int .i64 k.src, .int .i64 k.dst, .bool k.fe, .int .i64 k.lag] := by rw [hV3]; exact Bk.made V2 _ _
        have bW : Below V1.heap.size V1 V3 := only_end hO3
        have hP3 := HP.out.below bW (Nat.le_refl _)
        have z3 := bW.size
        have HRY := hide (fun W (hW : Below V3.heap.size V3 W) => lk_ready hP3 hW k)
        have m0 := mb.cell 0
        have m1 := mb.cell 1
        have m2 := mb.cell 2
        have m3 := mb.cell 3
        have d0 := hP3.box.cell 2
        have ad := fun o => (hP3.drew.alloc o).box.cell 2
        have f0 := hP3.box.frozen 2
        simp only [List.getElem?_toArray, List.getElem?_cons_succ, List.getElem?_cons_zero] at d0 ad m0 m1 m2 m3
        have hgl3 := hP3.lt
        have HGN := hide (show g ∉ b2 from fun hm => by have := (HP.out.nd.2 g (by simp [hm])).1; omega)
        have HBX := hide (fun o => (hP3.drew.alloc o).box)
        have HBD := hide (fun o => below_da (Below.refl V3.heap.size V3) o)
        have HBW := hide (fun o => below_da bW o)
        have HN3 := hide (show ∀ x ∈ b2, lo ≤ x from fun x hm => (HP.out.nd.2 x (by simp [hm])).1)
        have HFR2 := hide (HFR.out.trans (Fr.of_below bW (by omega)))
        clear hV3 mb hP3 p0 p1 p2 p3 p4 hO3 bW
        go_wp2_with fail
        go_region_law (first | (refine step_pushN OwLs.keeps (by rfl) (.tmp 117) (.tmp 119) 31 (by rfl) 75 _ 4 32 Tryz.underlying31 Tryz.infoLk rfl (by omega) L p.links.length cl p.links b2 lo rfl (by rfl) k #[.int .i64 k.src, .int .i64 k.dst, .bool k.fe, .int .i64 k.lag] [] (HRY.out _ (HBD.out _)) rfl _ 0 1 (by rfl) (four_new _ _ _ _ _ _) (four_cell rfl rfl rfl rfl) (by omega) (by omega) (by have := (HBW.out (.cells #[] 75)).size; simp at this ⊢; omega) ?_; intro A2 c2 bs2 w2 hG2 hN2 hb2 hO2; have kb2 := (hO2.block g (by simp; omega) HGN.out).trans (HBX.out _); have d0 := Bk.cell kb2 2; have f0 := Bk.frozen kb2 2; simp only [List.getElem?_toArray, List.getElem?_cons_succ, List.getElem?_cons_zero] at d0; have HG2 := hide hG2; have HN2 := hide hN2; have HB2 := hide hb2; have HO2 := hide hO2; clear hG2 hN2 hb2 hO2))
        all_goals go_wp2
        all_goals go_ret
        all_goals
          refine ⟨ret_bool (HBK.out.trans HF.out.symm), (fun h => ?_), (((HFR2.out.qt 1).alloc _).trans (Fr.of_only HO2.out (fun x hm => .inr (HN3.out x hm)))).set 2 _⟩
          rw [HS.out, ← HVL.out (by rw [HBK.out, ← HF.out]; exact h)]
          exact ⟨_, _, _, _, _, _, _, _, _, _, _, _, PjB.setLinks HP.out (only_below2 (HBW.out _) HO2.out) HG2.out HN2.out (new_blocks (Nd.nil V1.heap.size 0) (HBW.out _).size HB2.out)⟩
      · obtain ⟨V3, hV3⟩ : ∃ V, V = (((V2.setCell ⟨V1.heap.size, 0, none⟩ (.int .i64 k.src)).setCell ⟨V1.heap.size, 1, none⟩ (.int .i64 k.dst)).setCell ⟨V1.heap.size, 2, none⟩ (.bool k.fe)).setCell ⟨V1.heap.size, 3, none⟩ (.int .i64 k.lag) := ⟨_, rfl⟩
        rw [← hV3]
        have hO3 : Only V1.heap.size V1.heap.size V1 V3 := by rw [hV3]; exact only_setNew (only_setNew (only_setNew (only_setNew hO' (Nat.le_refl _) _) (Nat.le_refl _) _) (Nat.le_refl _) _) (Nat.le_refl _) _
        have mb : Bk V3 V1.heap.size 75 #[.int .i64 k.src, .int .i64 k.dst, .bool k.fe, .int .i64 k.lag] := by rw [hV3]; exact (((Bk.set hkd 0 _).set 1 _).set 2 _).set 3 _
        have bW : Below V1.heap.size V1 V3 := only_end hO3
        have hP3 := HP.out.below bW (Nat.le_refl _)
        have z3 := bW.size
        have HRY := hide (fun W (hW : Below V3.heap.size V3 W) => lk_ready hP3 hW k)
        have m0 := mb.cell 0
        have m1 := mb.cell 1
        have m2 := mb.cell 2
        have m3 := mb.cell 3
        have d0 := hP3.box.cell 2
        have ad := fun o => (hP3.drew.alloc o).box.cell 2
        have f0 := hP3.box.frozen 2
        simp only [List.getElem?_toArray, List.getElem?_cons_succ, List.getElem?_cons_zero] at d0 ad m0 m1 m2 m3
        have hgl3 := hP3.lt
        have HGN := hide (show g ∉ b2 from fun hm => by have := (HP.out.nd.2 g (by simp [hm])).1; omega)
        have HBX := hide (fun o => (hP3.drew.alloc o).box)
        have HBD := hide (fun o => below_da (Below.refl V3.heap.size V3) o)
        have HBW := hide (fun o => below_da bW o)
        have HN3 := hide (show ∀ x ∈ b2, lo ≤ x from fun x hm => (HP.out.nd.2 x (by simp [hm])).1)
        have HFR2 := hide (HFR.out.trans (Fr.of_below bW (by omega)))
        clear hV3 mb hP3 p0 p1 p2 p3 p4 hO3 bW
        go_wp2_with fail
        go_region_law (first | (refine step_pushN OwLs.keeps (by rfl) (.tmp 117) (.tmp 119) 31 (by rfl) 75 _ 4 32 Tryz.underlying31 Tryz.infoLk rfl (by omega) L p.links.length cl p.links b2 lo rfl (by rfl) k #[.int .i64 k.src, .int .i64 k.dst, .bool k.fe, .int .i64 k.lag] [] (HRY.out _ (HBD.out _)) rfl _ 0 1 (by rfl) (four_new _ _ _ _ _ _) (four_cell rfl rfl rfl rfl) (by omega) (by omega) (by have := (HBW.out (.cells #[] 75)).size; simp at this ⊢; omega) ?_; intro A2 c2 bs2 w2 hG2 hN2 hb2 hO2; have kb2 := (hO2.block g (by simp; omega) HGN.out).trans (HBX.out _); have d0 := Bk.cell kb2 2; have f0 := Bk.frozen kb2 2; simp only [List.getElem?_toArray, List.getElem?_cons_succ, List.getElem?_cons_zero] at d0; have HG2 := hide hG2; have HN2 := hide hN2; have HB2 := hide hb2; have HO2 := hide hO2; clear hG2 hN2 hb2 hO2))
        all_goals go_wp2
        all_goals go_ret
        all_goals
          refine ⟨ret_bool (HBK.out.trans HF.out.symm), (fun h => ?_), (((HFR2.out.qt 1).alloc _).trans (Fr.of_only HO2.out (fun x hm => .inr (HN3.out x hm)))).set 2 _⟩
          rw [HS.out, ← HVL.out (by rw [HBK.out, ← HF.out]; exact h)]
          exact ⟨_, _, _, _, _, _, _, _, _, _, _, _, PjB.setLinks HP.out (only_below2 (HBW.out _) HO2.out) HG2.out HN2.out (new_blocks (Nd.nil V1.heap.size 0) (HBW.out _).size HB2.out)⟩

    have HF := hide (lineB_no e1 e2 e3 e4 e5 e6 ([] : List ByteArray))
    obtain ⟨t1, u1⟩ := ne_lit (l := [100, 101, 97, 100, 108, 105, 110, 101]) e1
    obtain ⟨t2, u2⟩ := ne_lit (l := [114, 101, 115, 111, 117, 114, 99, 101]) e2
    obtain ⟨t3, u3⟩ := ne_lit (l := [115, 116, 111, 99, 107]) e3
    obtain ⟨t4, u4⟩ := ne_lit (l := [97, 99, 116, 105, 118, 105, 116, 121]) e4
    obtain ⟨t5, u5⟩ := ne_lit (l := [115, 116, 97, 114, 116]) e5
    obtain ⟨t6, u6⟩ := ne_lit (l := [101, 110, 100]) e6
    clear e1 e2 e3 e4 e5 e6
    go_wp2
    go_ret
    exact ⟨ret_bool HF.out.symm, (fun h => by rw [HF.out] at h; cases h), HFR.out⟩
  · have hc2 : ¬ 1 = c' := fun h => hc1 h.symm
    have hcap2 : rest.length ≤ c' - 1 := by omega
    have hc3 : (1 : Int) ≤ (c' : Int) := by omega
    have hc4 : ((rest.length + 1 : Nat) : Int) ≤ (c' : Int) := by omega
    by_cases e1 : w0 = wDead
    · obtain rfl : w0 = (⟨#[100, 101, 97, 100, 108, 105, 110, 101]⟩ : ByteArray) := e1
      have HF := hide (show lineB ((⟨#[100, 101, 97, 100, 108, 105, 110, 101]⟩ : ByteArray) :: rest) = _ from lineB_dead rest)
      have HS := hide (show stepP p ((⟨#[100, 101, 97, 100, 108, 105, 110, 101]⟩ : ByteArray) :: rest) = _ from stepP_dead p rest)
      by_cases hl : (rest).length = 1
      case neg =>
        have HF2 := hide (show lineB ((⟨#[100, 101, 97, 100, 108, 105, 110, 101]⟩ : ByteArray) :: rest) = false from by rw [HF.out, decide_eq_false hl]; rfl)
        have hne : ((((rest).length : Nat) : Int) != 1) = true := by first | (simp; done) | (simp; omega)
        clear hl
        go_wp2
        go_ret
        exact ⟨ret_bool HF2.out.symm, (fun h => by rw [HF2.out] at h; cases h), HFR.out⟩
      case pos =>
        all_goals (try (exact absurd hl (by simp; done)))
        all_goals
          obtain ⟨bb, off, hRA, k1, k2, hc⟩ := HRD.out (by omega)
          injection hRA with hRA; injection hRA with hb ho; subst hb; subst ho
          have q1 := hc 0 (by omega)
          rw [Nat.add_zero] at q1
          have s0 := HX2.out _ (getD_mem (k := 0) ByteArray.empty (by omega : 0 < (rest).length))
          have HY := hide (show gw rest 0 = (rest).getD 0 ByteArray.empty from rfl)
          have HF2 := hide (show lineB ((⟨#[100, 101, 97, 100, 108, 105, 110, 101]⟩ : ByteArray) :: rest) = okI (gw rest 0) from by rw [HF.out, decide_eq_true hl]; rfl)
          generalize (rest).getD 0 ByteArray.empty = y at q1 s0 HY
          have hne : ((((rest).length : Nat) : Int) != 1) = false := by simp [hl]
          have hp : 0 < (rest).length := by omega
          clear hc hl
          go_wp2_with fail
          refine (implParseInt_any y hg V1 (by omega) ld.e (by omega)).mono ?_
          rintro e V2 ⟨rfl, r⟩
          have hP2 := hP.below r (Nat.le_refl _)
          have z2 := r.size
          have HFR2 := hide (HFR.out.trans (Fr.of_below r (by omega)))
          clear q1 r
          have d0 := hP2.box.cell 0
          have f0 := hP2.box.frozen 0
          simp only [List.getElem?_toArray, List.getElem?_cons_succ, List.getElem?_cons_zero] at d0
          go_wp2
          go_ret
          refine ⟨ret_bool ?_, (fun _ => ?_), HFR2.out.set 0 _⟩
          · rw [HF2.out, HY.out]
          · rw [HS.out, HY.out]
            exact ⟨_, _, _, _, _, _, _, _, _, _, _, _, hP2.setDead _⟩
    by_cases e2 : w0 = wRes
    · obtain rfl : w0 = (⟨#[114, 101, 115, 111, 117, 114, 99, 101]⟩ : ByteArray) := e2
      have HF := hide (show lineB ((⟨#[114, 101, 115, 111, 117, 114, 99, 101]⟩ : ByteArray) :: rest) = _ from lineB_res rest)
      have HS := hide (show stepP p ((⟨#[114, 101, 115, 111, 117, 114, 99, 101]⟩ : ByteArray) :: rest) = _ from stepP_res p rest)
      have hln : (rest).length ≤ 16777216 := by first | exact hrl | simp
      go_wp2_with fail
      refine (resourceOf_any (some ⟨b, 1, none⟩) rest (c' - 1) w.heap.size V1.heap.size V1 (by omega) HX2.out HRD.out (Nat.le_refl _) hg ld (by omega)).mono ?_
      rintro e V2 ⟨r, ok, S', cs', T', ct', bq, rfl, hOR, hNR, rb, hbk, hval⟩
      have HBK := hide hbk; have HVL := hide hval
      have z2 := rb.size
      have hP2 := hP.below rb (Nat.le_refl _)
      have HFR2 := hide (HFR.out.trans (Fr.of_below rb (by omega)))
      have HRY := hide (fun W hW => el_ready (W := W) OwRs.keeps hP.res (nd_app (nd_app (nd_app hP.nd).2.1).2.1).1 rb hOR hNR (by omega) hW)
      have HNR := hide hNR
      clear hbk hval hOR hNR
      go_wp2_with fail
      refine at_reg fun V3 hV3 => ?_
      have bV : Below V2.heap.size V2 V3 := by rw [hV3]; exact (Below.refl _ _).alloc (Nat.le_refl _) _
      have mb : Bk V3 V2.heap.size 71 #[.slice S' r.steps.length cs', .slice T' r.setup.length ct'] := by rw [hV3]; exact Bk.made _ _ _
      have z3 := bV.size
      have hP3 := hP2.below bV (Nat.le_refl _)
      have bW := rb.trans (bV.mono (by omega))
      have m0 := mb.cell 0
      have m1 := mb.cell 1
      have d0 := hP3.box.cell 3
      have ad := fun o => (hP3.drew.alloc o).box.cell 3
      have f0 := hP3.box.frozen 3
      simp only [List.getElem?_toArray, List.getElem?_cons_succ, List.getElem?_cons_zero] at d0 ad m0 m1
      have hgl3 := hP3.lt
      have hst := hsz1.2.2.1
      have hgn : g ∉ b3 := fun hm => by have := (hP.nd.2 g (by simp [hm])).1; omega
      have HGN := hide hgn
      have HBX := hide (fun o => (hP3.drew.alloc o).box)
      have HBD := hide (fun o => below_da bV o)
      have HBW := hide (fun o => below_da bW o)
      have HN3 := hide (show ∀ x ∈ b3, lo ≤ x from fun x hm => (hP.nd.2 x (by simp [hm])).1)
      clear hV3 mb hgn hP2 hP3
      go_region_law (first | (refine step_pushN OwRs.keeps (by rfl) (.tmp 50) (.tmp 52) 32 (by rfl) 71 _ 2 48 Tryz.underlying32 Tryz.infoRs rfl (by omega) R p.res.length cr p.res b3 lo rfl (by rfl) r #[.slice S' r.steps.length cs', .slice T' r.setup.length ct'] bq (HRY.out _ (HBD.out _)) rfl _ 0 1 (by rfl) (two_new _ _ _ _) (two_cell rfl rfl) (by omega) (by omega) (by have := (HBW.out (.cells #[] 71)).size; simp at this ⊢; omega) ?_; intro A2 c2 bs2 w2 hG2 hN2 hb2 hO2; have kb2 := (hO2.block g (by simp; omega) HGN.out).trans (HBX.out _); have d0 := Bk.cell kb2 3; have f0 := Bk.frozen kb2 3; simp only [List.getElem?_toArray, List.getElem?_cons_succ, List.getElem?_cons_zero] at d0; have HG2 := hide hG2; have HN2 := hide hN2; have HB2 := hide hb2; have HO2 := hide hO2; clear hG2 hN2 hb2 hO2))
      all_goals go_wp2
      all_goals go_ret
      all_goals
        refine ⟨ret_bool (HBK.out.trans HF.out.symm), (fun h => ?_), ((((HFR2.out.trans (Fr.of_below bV (by omega))).qt 1).alloc _).trans (Fr.of_only HO2.out (fun x hm => .inr (HN3.out x hm)))).set 3 _⟩
        rw [HS.out, ← HVL.out (by rw [HBK.out, ← HF.out]; exact h)]
        exact ⟨_, _, _, _, _, _, _, _, _, _, _, _, PjB.setRes hP (only_below2 (HBW.out _) HO2.out) HG2.out HN2.out (new_blocks HNR.out (HBW.out _).size HB2.out)⟩
    by_cases e3 : w0 = wStk
    · obtain rfl : w0 = (⟨#[115, 116, 111, 99, 107]⟩ : ByteArray) := e3
      have HF := hide (show lineB ((⟨#[115, 116, 111, 99, 107]⟩ : ByteArray) :: rest) = _ from lineB_stk rest)
      have HS := hide (show stepP p ((⟨#[115, 116, 111, 99, 107]⟩ : ByteArray) :: rest) = _ from stepP_stk p rest)
      by_cases hl : (rest).length = 1
      case neg =>
        have HF2 := hide (show lineB ((⟨#[115, 116, 111, 99, 107]⟩ : ByteArray) :: rest) = false from by rw [HF.out, decide_eq_false hl]; rfl)
        have hne : ((((rest).length : Nat) : Int) != 1) = true := by first | (simp; done) | (simp; omega)
        clear hl
        go_wp2
        go_ret
        exact ⟨ret_bool HF2.out.symm, (fun h => by rw [HF2.out] at h; cases h), HFR.out⟩
      case pos =>
        all_goals (try (exact absurd hl (by simp; done)))
        all_goals
          obtain ⟨bb, off, hRA, k1, k2, hc⟩ := HRD.out (by omega)
          injection hRA with hRA; injection hRA with hb ho; subst hb; subst ho
          have q1 := hc 0 (by omega)
          rw [Nat.add_zero] at q1
          have s0 := HX2.out _ (getD_mem (k := 0) ByteArray.empty (by omega : 0 < (rest).length))
          have HY := hide (show gw rest 0 = (rest).getD 0 ByteArray.empty from rfl)
          have HF2 := hide (show lineB ((⟨#[115, 116, 111, 99, 107]⟩ : ByteArray) :: rest) = okI (gw rest 0) from by rw [HF.out, decide_eq_true hl]; rfl)
          generalize (rest).getD 0 ByteArray.empty = y at q1 s0 HY
          have hne : ((((rest).length : Nat) : Int) != 1) = false := by simp [hl]
          have hp : 0 < (rest).length := by omega
          clear hc hl
          go_wp2_with fail
          refine (implParseInt_any y hg V1 (by omega) ld.e (by omega)).mono ?_
          rintro e V2 ⟨rfl, r⟩
          have hP2 := hP.below r (Nat.le_refl _)
          have z2 := r.size
          have HFR2 := hide (HFR.out.trans (Fr.of_below r (by omega)))
          clear q1 r
          have d0 := hP2.box.cell 4
          simp only [List.getElem?_toArray, List.getElem?_cons_succ, List.getElem?_cons_zero] at d0
          have hst := hsz1.2.2.2
          have HP3 := hide (fun o => hP2.alloc o)
          have hlt := hP2.lt
          clear hP2
          go_wp2_with (at_builtin; go_must (refine wpList_pushB _ (.tmp 73) (.tmp 75) 25 3 _ 1 8 Tryz.underlying25 Tryz.infoInt rfl (by omega) S p.stocks.length cs _ b4 (HP3.out _).stocks V2.heap.size 0 1 1 [.int .i64 (valI y)] (by omega) rfl (one_new _ _ _) (one_cell rfl) (by omega) (by omega) ?_ rfl rfl rfl rfl))
          intro A2 c2 bs2 w2 hR2 hb2 hO2
          have hg4 : g ∉ b4 := fun hm => by have := ((HP3.out (.cells #[] 3)).nd.2 g (by simp [hm])).1; omega
          have kb2 := (hO2.block g (by simp; omega) hg4).trans (HP3.out _).box
          have d4 := Bk.cell kb2 4
          have f4 := Bk.frozen kb2 4
          simp only [List.getElem?_toArray, List.getElem?_cons_succ, List.getElem?_cons_zero] at d4
          have HO2 := hide hO2
          have HR2 := hide hR2
          have HB2 := hide hb2
          have hb4 : ∀ x ∈ b4, lo ≤ x := fun x hm => ((HP3.out (.cells #[] 3)).nd.2 x (by simp [hm])).1
          have HB4 := hide hb4
          clear d0 hR2 hO2 hb2 hb4
          go_wp2
          go_ret
          refine ⟨ret_bool ?_, (fun _ => ?_), ((HFR2.out.alloc _).trans (Fr.of_only HO2.out (fun x hm => .inr (HB4.out x hm)))).set 4 _⟩
          · rw [HF2.out, HY.out]
          · rw [HS.out, HY.out]
            exact ⟨_, _, _, _, _, _, _, _, _, _, _, _, PjB.setStocks (HP3.out _) HO2.out HR2.out (by first | exact HB2.out | (have := HB2.out; simpa using this)) (by simp; omega)⟩
    by_cases e4 : w0 = wAct
    · obtain rfl : w0 = (⟨#[97, 99, 116, 105, 118, 105, 116, 121]⟩ : ByteArray) := e4
      have HF := hide (show lineB ((⟨#[97, 99, 116, 105, 118, 105, 116, 121]⟩ : ByteArray) :: rest) = _ from lineB_act rest)
      have HS := hide (show stepP p ((⟨#[97, 99, 116, 105, 118, 105, 116, 121]⟩ : ByteArray) :: rest) = _ from stepP_act p rest)
      have hln : (rest).length ≤ 16777216 := by first | exact hrl | simp
      go_wp2_with fail
      refine (activityOf_any (some ⟨b, 1, none⟩) rest (c' - 1) w.heap.size V1.heap.size V1 (by omega) hcap2 HX2.out HRD.out (Nat.le_refl _) hg ld.e (by omega)).mono ?_
      rintro e V2 ⟨r, ok, S', cs', bq, rfl, hOR, hNR, rb, hbk, hval⟩
      have HBK := hide hbk; have HVL := hide hval
      have z2 := rb.size
      have hP2 := hP.below rb (Nat.le_refl _)
      have HFR2 := hide (HFR.out.trans (Fr.of_below rb (by omega)))
      have HRY := hide (fun W hW => el_ready (W := W) OwAs.keeps hP.acts (nd_app hP.nd).1 rb hOR hNR (by omega) hW)
      have HNR := hide hNR
      clear hbk hval hOR hNR
      go_wp2_with fail
      refine at_reg fun V3 hV3 => ?_
      have bV : Below V2.heap.size V2 V3 := by rw [hV3]; exact (Below.refl _ _).alloc (Nat.le_refl _) _
      have mb : Bk V3 V2.heap.size 46 #[.string r.name, .int .i64 r.fam, .slice S' r.modes.length cs'] := by rw [hV3]; exact Bk.made _ _ _
      have z3 := bV.size
      have hP3 := hP2.below bV (Nat.le_refl _)
      have bW := rb.trans (bV.mono (by omega))
      have m0 := mb.cell 0
      have m1 := mb.cell 1
      have m2 := mb.cell 2
      have d0 := hP3.box.cell 1
      have ad := fun o => (hP3.drew.alloc o).box.cell 1
      have f0 := hP3.box.frozen 1
      simp only [List.getElem?_toArray, List.getElem?_cons_succ, List.getElem?_cons_zero] at d0 ad m0 m1 m2
      have hgl3 := hP3.lt
      have hst := hsz1.1
      have hgn : g ∉ b1 := fun hm => by have := (hP.nd.2 g (by simp [hm])).1; omega
      have HGN := hide hgn
      have HBX := hide (fun o => (hP3.drew.alloc o).box)
      have HBD := hide (fun o => below_da bV o)
      have HBW := hide (fun o => below_da bW o)
      have HN3 := hide (show ∀ x ∈ b1, lo ≤ x from fun x hm => (hP.nd.2 x (by simp [hm])).1)
      clear hV3 mb hgn hP2 hP3
      go_region_law (first | (refine step_pushN OwAs.keeps (by rfl) (.tmp 91) (.tmp 93) 30 (by rfl) 46 _ 3 48 Tryz.underlying30 Tryz.infoAc rfl (by omega) A p.acts.length ca p.acts b1 lo rfl (by rfl) r #[.string r.name, .int .i64 r.fam, .slice S' r.modes.length cs'] bq (HRY.out _ (HBD.out _)) rfl _ 0 1 (by rfl) (three_new _ _ _ _ _) (three_cell rfl rfl rfl) (by omega) (by omega) (by have := (HBW.out (.cells #[] 46)).size; simp at this ⊢; omega) ?_; intro A2 c2 bs2 w2 hG2 hN2 hb2 hO2; have kb2 := (hO2.block g (by simp; omega) HGN.out).trans (HBX.out _); have d0 := Bk.cell kb2 1; have f0 := Bk.frozen kb2 1; simp only [List.getElem?_toArray, List.getElem?_cons_succ, List.getElem?_cons_zero] at d0; have HG2 := hide hG2; have HN2 := hide hN2; have HB2 := hide hb2; have HO2 := hide hO2; clear hG2 hN2 hb2 hO2))
      all_goals go_wp2
      all_goals go_ret
      all_goals
        refine ⟨ret_bool (HBK.out.trans HF.out.symm), (fun h => ?_), ((((HFR2.out.trans (Fr.of_below bV (by omega))).qt 1).alloc _).trans (Fr.of_only HO2.out (fun x hm => .inr (HN3.out x hm)))).set 1 _⟩
        rw [HS.out, ← HVL.out (by rw [HBK.out, ← HF.out]; exact h)]
        exact ⟨_, _, _, _, _, _, _, _, _, _, _, _, PjB.setActs hP (only_below2 (HBW.out _) HO2.out) HG2.out HN2.out (new_blocks HNR.out (HBW.out _).size HB2.out)⟩
    by_cases e5 : w0 = wSta
    · obtain rfl : w0 = (⟨#[115, 116, 97, 114, 116]⟩ : ByteArray) := e5
      have HF := hide (show lineB ((⟨#[115, 116, 97, 114, 116]⟩ : ByteArray) :: rest) = _ from lineB_lk (.inl rfl) rest)
      have HS := hide (show stepP p ((⟨#[115, 116, 97, 114, 116]⟩ : ByteArray) :: rest) = { p with links := p.links ++ [⟨actIdx p.acts (gw rest 0), actIdx p.acts (gw rest 1), false, valI (gw rest 2)⟩] } from stepP_lk (.inl rfl) p rest)
      have hz : Bk (V1.alloc (.cells #[.int .i64 0, .int .i64 0, .bool false, .int .i64 0] 75)).drew V1.heap.size 75 #[.int .i64 0, .int .i64 0, .bool false, .int .i64 0] := Bk.made V1 _ _
      have HLK : Hid (∀ W, Only V1.heap.size V1.heap.size V1 W → Calls Tryz.prog 121 #[.agg #[.int .i64 p.dead, .slice A p.acts.length ca, .slice L p.links.length cl, .slice R p.res.length cr, .slice S p.stocks.length cs], .slice (some ⟨b, 1, none⟩) (rest).length (c' - 1), .bool false] W fun e w' => ∃ (k : Lk) (b : Bool), e = .returned (.tuple #[.agg #[.int .i64 k.src, .int .i64 k.dst, .bool k.fe, .int .i64 k.lag], .bool b]) ∧ Below W.heap.size W w' ∧ b = okL rest ∧ (b = true → k = ⟨actIdx p.acts (gw rest 0), actIdx p.acts (gw rest 1), false, valI (gw rest 2)⟩)) :=
        hide (fun W hO => linkOf_any p false A L R S (some ⟨b, 1, none⟩) rest ca cl cr cs (c' - 1) lo V1.heap.size w.heap.size V1.heap.size W (by omega) (hP.rdA.only hO (Nat.le_refl _) (by omega)) hO.size HX2.out (HRD.out.only hO (Nat.le_refl _) (by omega)) hO.size hg (ld.e.only hO (by omega) (by omega)) (by have := hO.size; omega))
      have p0 := hP.box.cell 0
      have p1 := hP.box.cell 1
      have p2 := hP.box.cell 2
      have p3 := hP.box.cell 3
      have p4 := hP.box.cell 4
      simp only [List.getElem?_toArray, List.getElem?_cons_succ, List.getElem?_cons_zero] at p0 p1 p2 p3 p4
      have HKP : Hid (∀ W, Only V1.heap.size V1.heap.size V1 W → (W.cell? ⟨g, 0, none⟩ = some (.int .i64 p.dead) ∧ W.cell? ⟨g, 1, none⟩ = some (.slice A p.acts.length ca) ∧ W.cell? ⟨g, 2, none⟩ = some (.slice L p.links.length cl) ∧ W.cell? ⟨g, 3, none⟩ = some (.slice R p.res.length cr) ∧ W.cell? ⟨g, 4, none⟩ = some (.slice S p.stocks.length cs) ∧ W.cell? ⟨b, 0, none⟩ = some (.string (⟨#[115, 116, 97, 114, 116]⟩ : ByteArray))) ∧ Only V1.heap.size V1.heap.size V1 W) :=
        hide (fun W hO => ⟨⟨only_cell hO p0, only_cell hO p1, only_cell hO p2, only_cell hO p3, only_cell hO p4, only_cell hO c0⟩, hO⟩)
      have HP := hide hP
      have hst := hsz1.2.1
      clear hP
      go_wp2_with fail
      go_region_held3 (fun w' => (w'.cell? ⟨g, 0, none⟩ = some (.int .i64 p.dead) ∧ w'.cell? ⟨g, 1, none⟩ = some (.slice A p.acts.length ca) ∧ w'.cell? ⟨g, 2, none⟩ = some (.slice L p.links.length cl) ∧ w'.cell? ⟨g, 3, none⟩ = some (.slice R p.res.length cr) ∧ w'.cell? ⟨g, 4, none⟩ = some (.slice S p.stocks.length cs) ∧ w'.cell? ⟨b, 0, none⟩ = some (.string (⟨#[115, 116, 97, 114, 116]⟩ : ByteArray))) ∧ Only V1.heap.size V1.heap.size V1 w')
        (exact HKP.out _ (by repeat' (first | assumption | exact Only.refl _ _ _ | refine Only.drew ?_ | refine Only.alloc ?_ _ | refine only_setNew ?_ (by first | exact Nat.le_refl _ | (have := hO'.size; dsimp only; omega)) _)))
        (first | (go_at_call 121; (try go_split_ands); refine (HLK.out _ (by assumption)).mono ?_; rintro e V2 ⟨k, ok, rfl, r_e, hbk, hval⟩; have hkd := bk_below r_e (by assumption); have HBK := hide hbk; have HVL := hide hval; have hO' := only_grow2 (lo := V1.heap.size) (hi := V1.heap.size) (w := V1) (by assumption) r_e; clear hbk hval; have g0 := Bk.cell hkd 0; have g1 := Bk.cell hkd 1; have g2 := Bk.cell hkd 2; have g3 := Bk.cell hkd 3; have f0 := Bk.frozen hkd 0; have f1 := Bk.frozen hkd 1; have f2 := Bk.frozen hkd 2; have f3 := Bk.frozen hkd 3; simp only [List.getElem?_toArray, List.getElem?_cons_succ, List.getElem?_cons_zero] at g0 g1 g2 g3) | (go_at_call 121; (try go_split_ands); refine (HLK.out _ (by assumption)).mono ?_; rintro e V2 ⟨k, ok, rfl, r_e, hbk, hval⟩; have HBK := hide hbk; have HVL := hide hval; have hO' := only_grow2 (lo := V1.heap.size) (hi := V1.heap.size) (w := V1) (by assumption) r_e; clear hbk hval))
      · obtain ⟨V3, hV3⟩ : ∃ V, V = V2.alloc (.cells #[.int .i64 k.src, .int .i64 k.dst, .bool k.fe, .int .i64 k.lag] 75) := ⟨_, rfl⟩
        rw [← hV3]
        have hO3 : Only V1.heap.size V1.heap.size V1 V3 := by rw [hV3]; exact Only.alloc hO' _
        have mb : Bk V3 V2.heap.size 75 #[.int .i64 k.src, .int .i64 k.dst, .bool k.fe, .int .i64 k.lag] := by rw [hV3]; exact Bk.made V2 _ _
        have bW : Below V1.heap.size V1 V3 := only_end hO3
        have hP3 := HP.out.below bW (Nat.le_refl _)
        have z3 := bW.size
        have HRY := hide (fun W (hW : Below V3.heap.size V3 W) => lk_ready hP3 hW k)
        have m0 := mb.cell 0
        have m1 := mb.cell 1
        have m2 := mb.cell 2
        have m3 := mb.cell 3
        have d0 := hP3.box.cell 2
        have ad := fun o => (hP3.drew.alloc o).box.cell 2
        have f0 := hP3.box.frozen 2
        simp only [List.getElem?_toArray, List.getElem?_cons_succ, List.getElem?_cons_zero] at d0 ad m0 m1 m2 m3
        have hgl3 := hP3.lt
        have HGN := hide (show g ∉ b2 from fun hm => by have := (HP.out.nd.2 g (by simp [hm])).1; omega)
        have HBX := hide (fun o => (hP3.drew.alloc o).box)
        have HBD := hide (fun o => below_da (Below.refl V3.heap.size V3) o)
        have HBW := hide (fun o => below_da bW o)
        have HN3 := hide (show ∀ x ∈ b2, lo ≤ x from fun x hm => (HP.out.nd.2 x (by simp [hm])).1)
        have HFR2 := hide (HFR.out.trans (Fr.of_below bW (by omega)))
        clear hV3 mb hP3 p0 p1 p2 p3 p4 hO3 bW
        go_wp2_with fail
        go_region_law (first | (refine step_pushN OwLs.keeps (by rfl) (.tmp 117) (.tmp 119) 31 (by rfl) 75 _ 4 32 Tryz.underlying31 Tryz.infoLk rfl (by omega) L p.links.length cl p.links b2 lo rfl (by rfl) k #[.int .i64 k.src, .int .i64 k.dst, .bool k.fe, .int .i64 k.lag] [] (HRY.out _ (HBD.out _)) rfl _ 0 1 (by rfl) (four_new _ _ _ _ _ _) (four_cell rfl rfl rfl rfl) (by omega) (by omega) (by have := (HBW.out (.cells #[] 75)).size; simp at this ⊢; omega) ?_; intro A2 c2 bs2 w2 hG2 hN2 hb2 hO2; have kb2 := (hO2.block g (by simp; omega) HGN.out).trans (HBX.out _); have d0 := Bk.cell kb2 2; have f0 := Bk.frozen kb2 2; simp only [List.getElem?_toArray, List.getElem?_cons_succ, List.getElem?_cons_zero] at d0; have HG2 := hide hG2; have HN2 := hide hN2; have HB2 := hide hb2; have HO2 := hide hO2; clear hG2 hN2 hb2 hO2))
        all_goals go_wp2
        all_goals go_ret
        all_goals
          refine ⟨ret_bool (HBK.out.trans HF.out.symm), (fun h => ?_), (((HFR2.out.qt 1).alloc _).trans (Fr.of_only HO2.out (fun x hm => .inr (HN3.out x hm)))).set 2 _⟩
          rw [HS.out, ← HVL.out (by rw [HBK.out, ← HF.out]; exact h)]
          exact ⟨_, _, _, _, _, _, _, _, _, _, _, _, PjB.setLinks HP.out (only_below2 (HBW.out _) HO2.out) HG2.out HN2.out (new_blocks (Nd.nil V1.heap.size 0) (HBW.out _).size HB2.out)⟩
      · obtain ⟨V3, hV3⟩ : ∃ V, V = (((V2.setCell ⟨V1.heap.size, 0, none⟩ (.int .i64 k.src)).setCell ⟨V1.heap.size, 1, none⟩ (.int .i64 k.dst)).setCell ⟨V1.heap.size, 2, none⟩ (.bool k.fe)).setCell ⟨V1.heap.size, 3, none⟩ (.int .i64 k.lag) := ⟨_, rfl⟩
        rw [← hV3]
        have hO3 : Only V1.heap.size V1.heap.size V1 V3 := by rw [hV3]; exact only_setNew (only_setNew (only_setNew (only_setNew hO' (Nat.le_refl _) _) (Nat.le_refl _) _) (Nat.le_refl _) _) (Nat.le_refl _) _
        have mb : Bk V3 V1.heap.size 75 #[.int .i64 k.src, .int .i64 k.dst, .bool k.fe, .int .i64 k.lag] := by rw [hV3]; exact (((Bk.set hkd 0 _).set 1 _).set 2 _).set 3 _
        have bW : Below V1.heap.size V1 V3 := only_end hO3
        have hP3 := HP.out.below bW (Nat.le_refl _)
        have z3 := bW.size
        have HRY := hide (fun W (hW : Below V3.heap.size V3 W) => lk_ready hP3 hW k)
        have m0 := mb.cell 0
        have m1 := mb.cell 1
        have m2 := mb.cell 2
        have m3 := mb.cell 3
        have d0 := hP3.box.cell 2
        have ad := fun o => (hP3.drew.alloc o).box.cell 2
        have f0 := hP3.box.frozen 2
        simp only [List.getElem?_toArray, List.getElem?_cons_succ, List.getElem?_cons_zero] at d0 ad m0 m1 m2 m3
        have hgl3 := hP3.lt
        have HGN := hide (show g ∉ b2 from fun hm => by have := (HP.out.nd.2 g (by simp [hm])).1; omega)
        have HBX := hide (fun o => (hP3.drew.alloc o).box)
        have HBD := hide (fun o => below_da (Below.refl V3.heap.size V3) o)
        have HBW := hide (fun o => below_da bW o)
        have HN3 := hide (show ∀ x ∈ b2, lo ≤ x from fun x hm => (HP.out.nd.2 x (by simp [hm])).1)
        have HFR2 := hide (HFR.out.trans (Fr.of_below bW (by omega)))
        clear hV3 mb hP3 p0 p1 p2 p3 p4 hO3 bW
        go_wp2_with fail
        go_region_law (first | (refine step_pushN OwLs.keeps (by rfl) (.tmp 117) (.tmp 119) 31 (by rfl) 75 _ 4 32 Tryz.underlying31 Tryz.infoLk rfl (by omega) L p.links.length cl p.links b2 lo rfl (by rfl) k #[.int .i64 k.src, .int .i64 k.dst, .bool k.fe, .int .i64 k.lag] [] (HRY.out _ (HBD.out _)) rfl _ 0 1 (by rfl) (four_new _ _ _ _ _ _) (four_cell rfl rfl rfl rfl) (by omega) (by omega) (by have := (HBW.out (.cells #[] 75)).size; simp at this ⊢; omega) ?_; intro A2 c2 bs2 w2 hG2 hN2 hb2 hO2; have kb2 := (hO2.block g (by simp; omega) HGN.out).trans (HBX.out _); have d0 := Bk.cell kb2 2; have f0 := Bk.frozen kb2 2; simp only [List.getElem?_toArray, List.getElem?_cons_succ, List.getElem?_cons_zero] at d0; have HG2 := hide hG2; have HN2 := hide hN2; have HB2 := hide hb2; have HO2 := hide hO2; clear hG2 hN2 hb2 hO2))
        all_goals go_wp2
        all_goals go_ret
        all_goals
          refine ⟨ret_bool (HBK.out.trans HF.out.symm), (fun h => ?_), (((HFR2.out.qt 1).alloc _).trans (Fr.of_only HO2.out (fun x hm => .inr (HN3.out x hm)))).set 2 _⟩
          rw [HS.out, ← HVL.out (by rw [HBK.out, ← HF.out]; exact h)]
          exact ⟨_, _, _, _, _, _, _, _, _, _, _, _, PjB.setLinks HP.out (only_below2 (HBW.out _) HO2.out) HG2.out HN2.out (new_blocks (Nd.nil V1.heap.size 0) (HBW.out _).size HB2.out)⟩

    by_cases e6 : w0 = wEnd
    · obtain rfl : w0 = (⟨#[101, 110, 100]⟩ : ByteArray) := e6
      have HF := hide (show lineB ((⟨#[101, 110, 100]⟩ : ByteArray) :: rest) = _ from lineB_lk (.inr rfl) rest)
      have HS := hide (show stepP p ((⟨#[101, 110, 100]⟩ : ByteArray) :: rest) = { p with links := p.links ++ [⟨actIdx p.acts (gw rest 0), actIdx p.acts (gw rest 1), true, valI (gw rest 2)⟩] } from stepP_lk (.inr rfl) p rest)
      have hz : Bk (V1.alloc (.cells #[.int .i64 0, .int .i64 0, .bool false, .int .i64 0] 75)).drew V1.heap.size 75 #[.int .i64 0, .int .i64 0, .bool false, .int .i64 0] := Bk.made V1 _ _
      have HLK : Hid (∀ W, Only V1.heap.size V1.heap.size V1 W → Calls Tryz.prog 121 #[.agg #[.int .i64 p.dead, .slice A p.acts.length ca, .slice L p.links.length cl, .slice R p.res.length cr, .slice S p.stocks.length cs], .slice (some ⟨b, 1, none⟩) (rest).length (c' - 1), .bool true] W fun e w' => ∃ (k : Lk) (b : Bool), e = .returned (.tuple #[.agg #[.int .i64 k.src, .int .i64 k.dst, .bool k.fe, .int .i64 k.lag], .bool b]) ∧ Below W.heap.size W w' ∧ b = okL rest ∧ (b = true → k = ⟨actIdx p.acts (gw rest 0), actIdx p.acts (gw rest 1), true, valI (gw rest 2)⟩)) :=
        hide (fun W hO => linkOf_any p true A L R S (some ⟨b, 1, none⟩) rest ca cl cr cs (c' - 1) lo V1.heap.size w.heap.size V1.heap.size W (by omega) (hP.rdA.only hO (Nat.le_refl _) (by omega)) hO.size HX2.out (HRD.out.only hO (Nat.le_refl _) (by omega)) hO.size hg (ld.e.only hO (by omega) (by omega)) (by have := hO.size; omega))
      have p0 := hP.box.cell 0
      have p1 := hP.box.cell 1
      have p2 := hP.box.cell 2
      have p3 := hP.box.cell 3
      have p4 := hP.box.cell 4
      simp only [List.getElem?_toArray, List.getElem?_cons_succ, List.getElem?_cons_zero] at p0 p1 p2 p3 p4
      have HKP : Hid (∀ W, Only V1.heap.size V1.heap.size V1 W → (W.cell? ⟨g, 0, none⟩ = some (.int .i64 p.dead) ∧ W.cell? ⟨g, 1, none⟩ = some (.slice A p.acts.length ca) ∧ W.cell? ⟨g, 2, none⟩ = some (.slice L p.links.length cl) ∧ W.cell? ⟨g, 3, none⟩ = some (.slice R p.res.length cr) ∧ W.cell? ⟨g, 4, none⟩ = some (.slice S p.stocks.length cs) ∧ W.cell? ⟨b, 0, none⟩ = some (.string (⟨#[101, 110, 100]⟩ : ByteArray))) ∧ Only V1.heap.size V1.heap.size V1 W) :=
        hide (fun W hO => ⟨⟨only_cell hO p0, only_cell hO p1, only_cell hO p2, only_cell hO p3, only_cell hO p4, only_cell hO c0⟩, hO⟩)
      have HP := hide hP
      have hst := hsz1.2.1
      clear hP
      go_wp2_with fail
      go_region_held3 (fun w' => (w'.cell? ⟨g, 0, none⟩ = some (.int .i64 p.dead) ∧ w'.cell? ⟨g, 1, none⟩ = some (.slice A p.acts.length ca) ∧ w'.cell? ⟨g, 2, none⟩ = some (.slice L p.links.length cl) ∧ w'.cell? ⟨g, 3, none⟩ = some (.slice R p.res.length cr) ∧ w'.cell? ⟨g, 4, none⟩ = some (.slice S p.stocks.length cs) ∧ w'.cell? ⟨b, 0, none⟩ = some (.string (⟨#[101, 110, 100]⟩ : ByteArray))) ∧ Only V1.heap.size V1.heap.size V1 w')
        (exact HKP.out _ (by repeat' (first | assumption | exact Only.refl _ _ _ | refine Only.drew ?_ | refine Only.alloc ?_ _ | refine only_setNew ?_ (by first | exact Nat.le_refl _ | (have := hO'.size; dsimp only; omega)) _)))
        (first | (go_at_call 121; (try go_split_ands); refine (HLK.out _ (by assumption)).mono ?_; rintro e V2 ⟨k, ok, rfl, r_e, hbk, hval⟩; have hkd := bk_below r_e (by assumption); have HBK := hide hbk; have HVL := hide hval; have hO' := only_grow2 (lo := V1.heap.size) (hi := V1.heap.size) (w := V1) (by assumption) r_e; clear hbk hval; have g0 := Bk.cell hkd 0; have g1 := Bk.cell hkd 1; have g2 := Bk.cell hkd 2; have g3 := Bk.cell hkd 3; have f0 := Bk.frozen hkd 0; have f1 := Bk.frozen hkd 1; have f2 := Bk.frozen hkd 2; have f3 := Bk.frozen hkd 3; simp only [List.getElem?_toArray, List.getElem?_cons_succ, List.getElem?_cons_zero] at g0 g1 g2 g3) | (go_at_call 121; (try go_split_ands); refine (HLK.out _ (by assumption)).mono ?_; rintro e V2 ⟨k, ok, rfl, r_e, hbk, hval⟩; have HBK := hide hbk; have HVL := hide hval; have hO' := only_grow2 (lo := V1.heap.size) (hi := V1.heap.size) (w := V1) (by assumption) r_e; clear hbk hval))
      · obtain ⟨V3, hV3⟩ : ∃ V, V = V2.alloc (.cells #[.int .i64 k.src, .int .i64 k.dst, .bool k.fe, .int .i64 k.lag] 75) := ⟨_, rfl⟩
        rw [← hV3]
        have hO3 : Only V1.heap.size V1.heap.size V1 V3 := by rw [hV3]; exact Only.alloc hO' _
        have mb : Bk V3 V2.heap.size 75 #[.int .i64 k.src, .int .i64 k.dst, .bool k.fe, .int .i64 k.lag] := by rw [hV3]; exact Bk.made V2 _ _
        have bW : Below V1.heap.size V1 V3 := only_end hO3
        have hP3 := HP.out.below bW (Nat.le_refl _)
        have z3 := bW.size
        have HRY := hide (fun W (hW : Below V3.heap.size V3 W) => lk_ready hP3 hW k)
        have m0 := mb.cell 0
        have m1 := mb.cell 1
        have m2 := mb.cell 2
        have m3 := mb.cell 3
        have d0 := hP3.box.cell 2
        have ad := fun o => (hP3.drew.alloc o).box.cell 2
        have f0 := hP3.box.frozen 2
        simp only [List.getElem?_toArray, List.getElem?_cons_succ, List.getElem?_cons_zero] at d0 ad m0 m1 m2 m3
        have hgl3 := hP3.lt
        have HGN := hide (show g ∉ b2 from fun hm => by have := (HP.out.nd.2 g (by simp [hm])).1; omega)
        have HBX := hide (fun o => (hP3.drew.alloc o).box)
        have HBD := hide (fun o => below_da (Below.refl V3.heap.size V3) o)
        have HBW := hide (fun o => below_da bW o)
        have HN3 := hide (show ∀ x ∈ b2, lo ≤ x from fun x hm => (HP.out.nd.2 x (by simp [hm])).1)
        have HFR2 := hide (HFR.out.trans (Fr.of_below bW (by omega)))
        clear hV3 mb hP3 p0 p1 p2 p3 p4 hO3 bW
        go_wp2_with fail
        go_region_law (first | (refine step_pushN OwLs.keeps (by rfl) (.tmp 117) (.tmp 119) 31 (by rfl) 75 _ 4 32 Tryz.underlying31 Tryz.infoLk rfl (by omega) L p.links.length cl p.links b2 lo rfl (by rfl) k #[.int .i64 k.src, .int .i64 k.dst, .bool k.fe, .int .i64 k.lag] [] (HRY.out _ (HBD.out _)) rfl _ 0 1 (by rfl) (four_new _ _ _ _ _ _) (four_cell rfl rfl rfl rfl) (by omega) (by omega) (by have := (HBW.out (.cells #[] 75)).size; simp at this ⊢; omega) ?_; intro A2 c2 bs2 w2 hG2 hN2 hb2 hO2; have kb2 := (hO2.block g (by simp; omega) HGN.out).trans (HBX.out _); have d0 := Bk.cell kb2 2; have f0 := Bk.frozen kb2 2; simp only [List.getElem?_toArray, List.getElem?_cons_succ, List.getElem?_cons_zero] at d0; have HG2 := hide hG2; have HN2 := hide hN2; have HB2 := hide hb2; have HO2 := hide hO2; clear hG2 hN2 hb2 hO2))
        all_goals go_wp2
        all_goals go_ret
        all_goals
          refine ⟨ret_bool (HBK.out.trans HF.out.symm), (fun h => ?_), (((HFR2.out.qt 1).alloc _).trans (Fr.of_only HO2.out (fun x hm => .inr (HN3.out x hm)))).set 2 _⟩
          rw [HS.out, ← HVL.out (by rw [HBK.out, ← HF.out]; exact h)]
          exact ⟨_, _, _, _, _, _, _, _, _, _, _, _, PjB.setLinks HP.out (only_below2 (HBW.out _) HO2.out) HG2.out HN2.out (new_blocks (Nd.nil V1.heap.size 0) (HBW.out _).size HB2.out)⟩
      · obtain ⟨V3, hV3⟩ : ∃ V, V = (((V2.setCell ⟨V1.heap.size, 0, none⟩ (.int .i64 k.src)).setCell ⟨V1.heap.size, 1, none⟩ (.int .i64 k.dst)).setCell ⟨V1.heap.size, 2, none⟩ (.bool k.fe)).setCell ⟨V1.heap.size, 3, none⟩ (.int .i64 k.lag) := ⟨_, rfl⟩
        rw [← hV3]
        have hO3 : Only V1.heap.size V1.heap.size V1 V3 := by rw [hV3]; exact only_setNew (only_setNew (only_setNew (only_setNew hO' (Nat.le_refl _) _) (Nat.le_refl _) _) (Nat.le_refl _) _) (Nat.le_refl _) _
        have mb : Bk V3 V1.heap.size 75 #[.int .i64 k.src, .int .i64 k.dst, .bool k.fe, .int .i64 k.lag] := by rw [hV3]; exact (((Bk.set hkd 0 _).set 1 _).set 2 _).set 3 _
        have bW : Below V1.heap.size V1 V3 := only_end hO3
        have hP3 := HP.out.below bW (Nat.le_refl _)
        have z3 := bW.size
        have HRY := hide (fun W (hW : Below V3.heap.size V3 W) => lk_ready hP3 hW k)
        have m0 := mb.cell 0
        have m1 := mb.cell 1
        have m2 := mb.cell 2
        have m3 := mb.cell 3
        have d0 := hP3.box.cell 2
        have ad := fun o => (hP3.drew.alloc o).box.cell 2
        have f0 := hP3.box.frozen 2
        simp only [List.getElem?_toArray, List.getElem?_cons_succ, List.getElem?_cons_zero] at d0 ad m0 m1 m2 m3
        have hgl3 := hP3.lt
        have HGN := hide (show g ∉ b2 from fun hm => by have := (HP.out.nd.2 g (by simp [hm])).1; omega)
        have HBX := hide (fun o => (hP3.drew.alloc o).box)
        have HBD := hide (fun o => below_da (Below.refl V3.heap.size V3) o)
        have HBW := hide (fun o => below_da bW o)
        have HN3 := hide (show ∀ x ∈ b2, lo ≤ x from fun x hm => (HP.out.nd.2 x (by simp [hm])).1)
        have HFR2 := hide (HFR.out.trans (Fr.of_below bW (by omega)))
        clear hV3 mb hP3 p0 p1 p2 p3 p4 hO3 bW
        go_wp2_with fail
        go_region_law (first | (refine step_pushN OwLs.keeps (by rfl) (.tmp 117) (.tmp 119) 31 (by rfl) 75 _ 4 32 Tryz.underlying31 Tryz.infoLk rfl (by omega) L p.links.length cl p.links b2 lo rfl (by rfl) k #[.int .i64 k.src, .int .i64 k.dst, .bool k.fe, .int .i64 k.lag] [] (HRY.out _ (HBD.out _)) rfl _ 0 1 (by rfl) (four_new _ _ _ _ _ _) (four_cell rfl rfl rfl rfl) (by omega) (by omega) (by have := (HBW.out (.cells #[] 75)).size; simp at this ⊢; omega) ?_; intro A2 c2 bs2 w2 hG2 hN2 hb2 hO2; have kb2 := (hO2.block g (by simp; omega) HGN.out).trans (HBX.out _); have d0 := Bk.cell kb2 2; have f0 := Bk.frozen kb2 2; simp only [List.getElem?_toArray, List.getElem?_cons_succ, List.getElem?_cons_zero] at d0; have HG2 := hide hG2; have HN2 := hide hN2; have HB2 := hide hb2; have HO2 := hide hO2; clear hG2 hN2 hb2 hO2))
        all_goals go_wp2
        all_goals go_ret
        all_goals
          refine ⟨ret_bool (HBK.out.trans HF.out.symm), (fun h => ?_), (((HFR2.out.qt 1).alloc _).trans (Fr.of_only HO2.out (fun x hm => .inr (HN3.out x hm)))).set 2 _⟩
          rw [HS.out, ← HVL.out (by rw [HBK.out, ← HF.out]; exact h)]
          exact ⟨_, _, _, _, _, _, _, _, _, _, _, _, PjB.setLinks HP.out (only_below2 (HBW.out _) HO2.out) HG2.out HN2.out (new_blocks (Nd.nil V1.heap.size 0) (HBW.out _).size HB2.out)⟩

    have HF := hide (lineB_no e1 e2 e3 e4 e5 e6 rest)
    obtain ⟨t1, u1⟩ := ne_lit (l := [100, 101, 97, 100, 108, 105, 110, 101]) e1
    obtain ⟨t2, u2⟩ := ne_lit (l := [114, 101, 115, 111, 117, 114, 99, 101]) e2
    obtain ⟨t3, u3⟩ := ne_lit (l := [115, 116, 111, 99, 107]) e3
    obtain ⟨t4, u4⟩ := ne_lit (l := [97, 99, 116, 105, 118, 105, 116, 121]) e4
    obtain ⟨t5, u5⟩ := ne_lit (l := [115, 116, 97, 114, 116]) e5
    obtain ⟨t6, u6⟩ := ne_lit (l := [101, 110, 100]) e6
    clear e1 e2 e3 e4 e5 e6
    go_wp2
    go_ret
    exact ⟨ret_bool HF.out.symm, (fun h => by rw [HF.out] at h; cases h), HFR.out⟩
end Go.Proofs.YtcecgbjolngdbaaGreatDoor
