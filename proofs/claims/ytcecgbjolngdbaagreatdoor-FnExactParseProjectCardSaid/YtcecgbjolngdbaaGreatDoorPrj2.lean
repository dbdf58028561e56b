/- Projects that are valid. -/
import Derived.Test.YtcecgbjolngdbaaGreatDoorKitMd
import Derived.Test.YtcecgbjolngdbaaGreatDoorPrj1
import Derived.Test.YtcecgbjolngdbaaGreatDoorRes
import Derived.Test.YtcecgbjolngdbaaGreatDoorAct
namespace Go.Proofs.YtcecgbjolngdbaaGreatDoor
open Go.ChangeShapes Go.WideShapes Go.ChangeAt Go.RowKit
set_option linter.unusedVariables false

theorem hasActivity_any (p : Pj) (A L R S : Option Addr) (ca cl cr cs : Nat) (a : Int) (w : World) (hs : p.acts.length ≤ 16777216) :
    Calls Tryz.prog 154 #[.agg #[.int .i64 p.dead, .slice A p.acts.length ca, .slice L p.links.length cl, .slice R p.res.length cr, .slice S p.stocks.length cs], .int .i64 a] w fun e w' => e = .returned (.bool (decide (0 ≤ a ∧ a ≤ (p.acts.length : Int) - 1))) ∧ Below w.heap.size w w' := by
  have HB2 : Hid (∀ o, Below w.heap.size w (w.alloc o)) := fun o => (Below.refl _ _).alloc (Nat.le_refl _) _
  by_cases h : 0 ≤ a ∧ a ≤ (p.acts.length : Int) - 1
  · rw [decide_eq_true h]
    go_enter Tryz.func154, Tryz.ntmps154
    go_wp2_with fail
    refine (within_yes _ h).mono ?_
    rintro e w1 ⟨rfl, rfl⟩
    go_wp2
    go_ret
    exact ⟨rfl, HB2.out _⟩
  · rw [decide_eq_false h]
    go_enter Tryz.func154, Tryz.ntmps154
    go_wp2_with fail
    refine (within_no _ h).mono ?_
    rintro e w1 ⟨rfl, rfl⟩
    go_wp2
    go_ret
    exact ⟨rfl, HB2.out _⟩
set_option maxHeartbeats 1600000 in
theorem linkOk_any (p : Pj) (k : Lk) (A L R S : Option Addr) (ca cl cr cs : Nat) (w : World) (hs : p.acts.length ≤ 16777216) :
    Calls Tryz.prog 106 #[.agg #[.int .i64 p.dead, .slice A p.acts.length ca, .slice L p.links.length cl, .slice R p.res.length cr, .slice S p.stocks.length cs], .agg #[.int .i64 k.src, .int .i64 k.dst, .bool k.fe, .int .i64 k.lag]] w fun e w' => e = .returned (.bool (lkOkB p.acts.length k)) ∧ Below w.heap.size w w' := by
  have HM : Hid (lkOkB p.acts.length k = ((decide (0 ≤ k.src ∧ k.src ≤ (p.acts.length : Int) - 1) && decide (0 ≤ k.dst ∧ k.dst ≤ (p.acts.length : Int) - 1)) && (decide (k.src ≠ k.dst) && decide (-60 ≤ k.lag ∧ k.lag ≤ 60)))) := rfl
  generalize hVP : lkOkB p.acts.length k = res at HM ⊢
  clear hVP
  obtain ⟨s, d, f, g⟩ := k
  simp only at HM ⊢
  go_enter Tryz.func106, Tryz.ntmps106
  go_wp2_with fail
  refine at_world fun W0 hW => ?_
  have z0 : W0.heap.size = w.heap.size + 2 := by rw [hW]; simp
  have hB0 : Below w.heap.size w W0 := by rw [hW]; exact ((Below.refl _ _).alloc (Nat.le_refl _) _).alloc (by simp) _
  have k0 : Bk W0 w.heap.size 34 #[.int .i64 p.dead, .slice A p.acts.length ca, .slice L p.links.length cl, .slice R p.res.length cr, .slice S p.stocks.length cs] := by rw [hW]; exact (Bk.made w _ _).alloc _
  have k1 : Bk W0 (w.heap.size + 1) 75 #[.int .i64 s, .int .i64 d, .bool f, .int .i64 g] := by
    rw [hW]
    have := Bk.made (w.alloc (.cells #[.int .i64 p.dead, .slice A p.acts.length ca, .slice L p.links.length cl, .slice R p.res.length cr, .slice S p.stocks.length cs] 34)) 75 #[.int .i64 s, .int .i64 d, .bool f, .int .i64 g]
    rw [World.size_alloc] at this
    exact this
  clear hW
  refine (hasActivity_any p A L R S ca cl cr cs s W0 hs).mono ?_
  rintro e W1 ⟨rfl, hB1⟩
  have k0 := k0.below hB1 (by omega)
  have k1 := k1.below hB1 (by omega)
  have z1 := hB1.size
  have hB := hB0.trans (hB1.mono (by omega))
  clear hB0 hB1
  have c0 := k0.cell 0
  have c1 := k0.cell 1
  have c2 := k0.cell 2
  have c3 := k0.cell 3
  have c4 := k0.cell 4
  have e0 := k1.cell 0
  have e1 := k1.cell 1
  have e3 := k1.cell 3
  simp only [List.getElem?_toArray, List.getElem?_cons_succ, List.getElem?_cons_zero] at c0 c1 c2 c3 c4 e0 e1 e3
  by_cases h1 : 0 ≤ s ∧ s ≤ (p.acts.length : Int) - 1
  case neg =>
    have HF := hide (show false = res from by rw [HM.out, decide_eq_false h1]; rfl)
    rw [decide_eq_false h1]
    go_wp2
    go_ret
    exact ⟨ret_bool HF.out, hB⟩
  rw [decide_eq_true h1]
  go_wp2_with fail
  refine (hasActivity_any p A L R S ca cl cr cs d W1 hs).mono ?_
  rintro e W2 ⟨rfl, hB2⟩
  clear c0 c1 c2 c3 c4 e0 e1 e3
  have k1 := k1.below hB2 (by omega)
  have hB := hB.trans (hB2.mono (by omega))
  have e0 := k1.cell 0
  have e1 := k1.cell 1
  have e3 := k1.cell 3
  simp only [List.getElem?_toArray, List.getElem?_cons_succ, List.getElem?_cons_zero] at e0 e1 e3
  by_cases h2 : 0 ≤ d ∧ d ≤ (p.acts.length : Int) - 1
  case neg =>
    have HF := hide (show false = res from by rw [HM.out, decide_eq_false h2]; simp)
    rw [decide_eq_false h2]
    go_wp2
    go_ret
    exact ⟨ret_bool HF.out, hB⟩
  rw [decide_eq_true h2]
  by_cases h3 : s = d
  · have HF := hide (show false = res from by rw [HM.out, decide_eq_false (p := s ≠ d) (fun h => h h3)]; simp)
    have hd : (s != d) = false := by simp [h3]
    clear h3
    go_wp2
    go_ret
    exact ⟨ret_bool HF.out, hB⟩
  · have hd : (s != d) = true := by simp [h3]
    have HD := hide (decide_eq_true (p := s ≠ d) h3)
    clear h3
    by_cases h4 : -60 ≤ g ∧ g ≤ 60
    · have HF := hide (show true = res from by rw [HM.out, decide_eq_true h1, decide_eq_true h2, HD.out, decide_eq_true h4]; rfl)
      go_wp2_with fail
      refine (within_yes _ h4).mono ?_
      rintro e w1 ⟨rfl, rfl⟩
      go_wp2
      go_ret
      exact ⟨ret_bool HF.out, hB⟩
    · have HF := hide (show false = res from by rw [HM.out, decide_eq_false h4]; simp)
      go_wp2_with fail
      refine (within_no _ h4).mono ?_
      rintro e w1 ⟨rfl, rfl⟩
      go_wp2
      go_ret
      exact ⟨ret_bool HF.out, hB⟩
set_option maxHeartbeats 1600000 in
theorem indexFuncL_any (F : FuncId) (caps : Array Value) (p : Lk → Bool) (A : Option Addr) (l : List Lk) (c lo hi : Nat) (w : World) (hl : l.length ≤ 16777216) (ha : RdLs w lo hi A l) (hhi : hi ≤ w.heap.size)
    (hE : ∀ (args : Array Value) (W : World), (callFunc F args).run Tryz.prog W = .ok (.enter F args) W)
    (hf : ∀ (W : World) (m : Lk) , Below w.heap.size w W → m ∈ l →  Calls Tryz.prog F (#[.agg #[.int .i64 m.src, .int .i64 m.dst, .bool m.fe, .int .i64 m.lag]] ++ caps) W fun e w' => e = .returned (.bool (p m)) ∧ Below W.heap.size W w') :
    Calls Tryz.prog 153 #[.slice A l.length c, .func (.func F) #[] caps] w fun e w' => e = .returned (.int .i64 (idxI p l)) ∧ Below w.heap.size w w' := by
  have HF := hide hf; clear hf
  go_enter Tryz.func153, Tryz.ntmps153
  go_wp2
  go_loopw [8] (fun i wr => ∃ k : Nat, k ≤ l.length ∧ i = .int .i64 k ∧ Hid (∀ j, j < k → p (l.getD j lk0) = false) ∧ Below w.heap.size w wr) (fun i _ => l.length - (intOf i).toNat)
  case atStart => exact ⟨0, Nat.zero_le _, rfl, hide (fun j h => absurd h (by omega)), Below.refl _ _⟩
  case round =>
    obtain ⟨k, hk, rfl, H, hB⟩ := hrel
    by_cases hlt : k < l.length
    · have har := ha.below hB hhi
      have hsz := hB.size
      obtain ⟨b, off, rfl, h1, h2, g0, g1, g2, g3⟩ := har.at hlt
      have HMEM := hide (getD_mem lk0 hlt)
      clear har ha
      generalize hX : l.getD k lk0 = m at g0 g1 g2 g3 HMEM
      have HX := hide hX; clear hX
      have HCALL := hide (HF.out wr m hB HMEM.out)
      clear HF
      go_wp2_with fail
      refine HCALL.out.mono ?_
      rintro e w1 ⟨rfl, hB1⟩
      have hB2 := hB.trans (hB1.mono hsz)
      clear hB1 HCALL
      cases hp : p m
      · have HP := hide (show p (l.getD k lk0) = false from by rw [HX.out]; exact hp)
        clear hp
        go_wp2
        go_roundw
        case rel =>
          refine ⟨k + 1, by omega, by go_num, hide (fun j hj => ?_), hB2⟩
          by_cases e : j = k
          · subst e; exact HP.out
          · exact H.out j (by omega)
        case measure => simp [intOf]; omega
      · have HI := hide (idxI_at lk0 hlt H.out (by rw [HX.out]; exact hp))
        clear hp
        go_wp2
        go_ret
        exact ⟨ret_int HI.out.symm, hB2⟩
    · have HI := hide (idxI_none (p := p) (l := l) lk0 (fun j hj => H.out j (by omega)))
      go_wp2
      go_ret
      exact ⟨ret_int HI.out.symm, hB⟩
theorem containsFuncL_any (F : FuncId) (caps : Array Value) (p : Lk → Bool) (A : Option Addr) (l : List Lk) (c lo hi : Nat) (w : World) (hl : l.length ≤ 16777216) (ha : RdLs w lo hi A l) (hhi : hi ≤ w.heap.size)
    (hE : ∀ (args : Array Value) (W : World), (callFunc F args).run Tryz.prog W = .ok (.enter F args) W)
    (hf : ∀ (W : World) (m : Lk), Below w.heap.size w W → m ∈ l → Calls Tryz.prog F (#[.agg #[.int .i64 m.src, .int .i64 m.dst, .bool m.fe, .int .i64 m.lag]] ++ caps) W fun e w' => e = .returned (.bool (p m)) ∧ Below W.heap.size W w') :
    Calls Tryz.prog 104 #[.slice A l.length c, .func (.func F) #[] caps] w fun e w' => e = .returned (.bool (l.any p)) ∧ Below w.heap.size w w' := by
  have HF := hide hf; clear hf
  have HI := hide (idxI_any (p := p) (l := l))
  go_enter Tryz.func104, Tryz.ntmps104
  go_wp2_with fail
  refine (indexFuncL_any F caps p A l c lo hi _ hl ha hhi hE HF.out).mono ?_
  rintro e w1 ⟨rfl, hB⟩
  generalize idxI p l = n at HI
  go_wp2
  go_ret
  exact ⟨ret_bool (by rw [← HI.out]), hB⟩
set_option maxHeartbeats 800000 in
theorem linkClosure (p : Pj) (A L R S : Option Addr) (ca cl cr cs : Nat) (g : Nat) (W : World) (m : Lk) (hs : p.acts.length ≤ 16777216) (kg : Bk W g 34 #[.int .i64 p.dead, .slice A p.acts.length ca, .slice L p.links.length cl, .slice R p.res.length cr, .slice S p.stocks.length cs]) :
    Calls Tryz.prog 105 (#[.agg #[.int .i64 m.src, .int .i64 m.dst, .bool m.fe, .int .i64 m.lag]] ++ #[.pointer (some ⟨g, 0, none⟩)]) W fun e w' => e = .returned (.bool (!(lkOkB p.acts.length m))) ∧ Below W.heap.size W w' := by
  have HB2 : Hid (∀ o, Below W.heap.size W (W.alloc o)) := fun o => (Below.refl _ _).alloc (Nat.le_refl _) _
  have hk := fun o => kg.alloc o
  have c0 := fun o => (hk o).cell 0
  have c1 := fun o => (hk o).cell 1
  have c2 := fun o => (hk o).cell 2
  have c3 := fun o => (hk o).cell 3
  have c4 := fun o => (hk o).cell 4
  simp only [List.getElem?_toArray, List.getElem?_cons_succ, List.getElem?_cons_zero] at c0 c1 c2 c3 c4
  clear hk kg
  go_enter Tryz.func105, Tryz.ntmps105
  go_wp2_with fail
  refine (linkOk_any p m A L R S ca cl cr cs _ hs).mono ?_
  rintro e w1 ⟨rfl, hB1⟩
  have hB := (HB2.out _).trans (hB1.mono (by simp))
  clear hB1
  generalize hbb : lkOkB p.acts.length m = b
  have HBB := hide hbb; clear hbb
  go_wp2
  go_ret
  exact ⟨ret_bool (by rw [HBB.out]), hB⟩
set_option maxHeartbeats 16000000 in
theorem implProjectOk_any (p : Pj) (A L R S : Option Addr) (ca cl cr cs lo hi : Nat) (w : World) (hs : szPj p ≤ 16777216) (fA : RdAs w lo hi A p.acts) (fL : RdLs w lo hi L p.links) (fR : RdRs w lo hi R p.res) (fS : RdI w lo hi S p.stocks) (hhi : hi ≤ w.heap.size) :
    Calls Tryz.prog 44 #[.agg #[.int .i64 p.dead, .slice A p.acts.length ca, .slice L p.links.length cl, .slice R p.res.length cr, .slice S p.stocks.length cs]] w fun e w' => e = .returned (.bool (pjOkB p)) ∧ Below w.heap.size w w' := by
  have hmf : ∀ (fn : Fn) (first cap : Array Value) (w : World), (Instr.makeFunc fn first cap).run Tryz.prog w = .ok (.func fn first cap) w := fun _ _ _ _ => rfl
  have HSA := hide (show szL szAc p.acts ≤ 16777216 from by unfold szPj at hs; omega)
  have HSR := hide (show szL szRs p.res ≤ 16777216 from by unfold szPj at hs; omega)
  have hl0 : p.acts.length ≤ 16777216 := Nat.le_trans (szL_len szAc _) HSA.out
  have hl1 : p.res.length ≤ 16777216 := Nat.le_trans (szL_len szRs _) HSR.out
  have hl2 : p.stocks.length ≤ 16777216 := by unfold szPj at hs; omega
  have hl3 : p.links.length ≤ 16777216 := by unfold szPj at hs; omega
  clear hs
  obtain ⟨W0, hW0⟩ : ∃ W0, W0 = w.alloc (.cells #[.int .i64 p.dead, .slice A p.acts.length ca, .slice L p.links.length cl, .slice R p.res.length cr, .slice S p.stocks.length cs] 34) := ⟨_, rfl⟩
  have hB0 : Below w.heap.size w W0 := by rw [hW0]; exact (Below.refl _ _).alloc (Nat.le_refl _) _
  have k0 : Bk W0 w.heap.size 34 #[.int .i64 p.dead, .slice A p.acts.length ca, .slice L p.links.length cl, .slice R p.res.length cr, .slice S p.stocks.length cs] := by rw [hW0]; exact Bk.made w _ _
  have z0 : W0.heap.size = w.heap.size + 1 := by rw [hW0]; simp
  have fA := fA.below hB0 hhi
  have fL := fL.below hB0 hhi
  have fR := fR.below hB0 hhi
  have fS := fS.below hB0 hhi
  have HB := hide hB0; clear hB0
  go_enter Tryz.func44, Tryz.ntmps44
  by_cases g1 : 1 ≤ p.dead ∧ p.dead ≤ 60
  case neg =>
    have HF := hide (show false = pjOkB p from by unfold pjOkB pjHeadB; rw [decide_eq_false g1]; rfl)
    go_wp2_with fail
    refine (within_no _ g1).mono ?_
    rintro e w1 ⟨rfl, rfl⟩
    go_wp2
    go_ret
    exact ⟨ret_bool HF.out, by rw [← hW0]; exact HB.out⟩
  go_wp2_with fail
  refine (within_yes _ g1).mono ?_
  rintro e w1 ⟨rfl, rfl⟩
  by_cases g2 : 1 ≤ (p.acts.length : Int) ∧ (p.acts.length : Int) ≤ 6
  case neg =>
    have HF := hide (show false = pjOkB p from by unfold pjOkB pjHeadB; rw [decide_eq_false g2]; simp)
    go_wp2_with fail
    refine (within_no _ g2).mono ?_
    rintro e w1 ⟨rfl, rfl⟩
    go_wp2
    go_ret
    exact ⟨ret_bool HF.out, by rw [← hW0]; exact HB.out⟩
  go_wp2_with fail
  refine (within_yes _ g2).mono ?_
  rintro e w1 ⟨rfl, rfl⟩
  by_cases g3 : p.res.length ≤ 3
  case neg =>
    have HF := hide (show false = pjOkB p from by unfold pjOkB pjHeadB; rw [decide_eq_false g3]; simp)
    have d3 : (3 : Int) < (p.res.length : Int) := by omega
    go_wp2
    go_ret
    exact ⟨ret_bool HF.out, by rw [← hW0]; exact HB.out⟩
  have d3 : ¬ (3 : Int) < (p.res.length : Int) := by omega
  by_cases g4 : p.stocks.length ≤ 2
  case neg =>
    have HF := hide (show false = pjOkB p from by unfold pjOkB pjHeadB; rw [decide_eq_false g4]; simp)
    have d4 : (2 : Int) < (p.stocks.length : Int) := by omega
    go_wp2
    go_ret
    exact ⟨ret_bool HF.out, by rw [← hW0]; exact HB.out⟩
  have d4 : ¬ (2 : Int) < (p.stocks.length : Int) := by omega
  by_cases g5 : p.links.length ≤ 12
  case neg =>
    have HF := hide (show false = pjOkB p from by unfold pjOkB pjHeadB; rw [decide_eq_false g5]; simp)
    have d5 : (12 : Int) < (p.links.length : Int) := by omega
    go_wp2
    go_ret
    exact ⟨ret_bool HF.out, by rw [← hW0]; exact HB.out⟩
  have d5 : ¬ (12 : Int) < (p.links.length : Int) := by omega
  have HH := hide (show pjHeadB p = true from by unfold pjHeadB; rw [decide_eq_true g1, decide_eq_true g2, decide_eq_true g3, decide_eq_true g4, decide_eq_true g5]; rfl)
  have HM := hide (show pjOkB p = ((List.range p.acts.length).all (acAtB p) && (p.res.all rsOkB && (p.stocks.all stkB && p.links.all (lkOkB p.acts.length)))) from by rw [show pjOkB p = (pjHeadB p && ((List.range p.acts.length).all (acAtB p) && (p.res.all rsOkB && (p.stocks.all stkB && p.links.all (lkOkB p.acts.length))))) from rfl, HH.out, Bool.true_and])
  have hla : p.acts.length ≤ 16777216 := by omega
  have hlr : p.res.length ≤ 16777216 := by omega
  have hls : p.stocks.length ≤ 16777216 := by omega
  have hll : p.links.length ≤ 16777216 := by omega
  clear HH
  go_wp2
  clear g1 g2 g3 g4 g5 d3 d4 d5
  go_loopw [41] (fun i wr => ∃ k : Nat, k ≤ p.acts.length ∧ i = .int .i64 k ∧ Below W0.heap.size W0 wr ∧ Hid (∀ j, j < k → acAtB p j = true)) (fun i _ => p.acts.length - (intOf i).toNat)
  case atStart => exact ⟨0, Nat.zero_le _, rfl, by rw [← hW0]; exact Below.refl _ _, hide (fun j h => absurd h (by omega))⟩
  case round =>
    clear hW0
    obtain ⟨k, hk, rfl, hB, H⟩ := hrel
    have hsz := hB.size
    by_cases hlt : k < p.acts.length
    · have har := fA.below hB (by omega)
      have k1 := k0.below hB (by omega)
      have hhr : hi ≤ wr.heap.size := by omega
      obtain ⟨b, off, M, cm, hA0, h1, h2, g0, g1, g2, fU⟩ := har.at hlt
      have hs3 : szAc (p.acts.getD k ac0) ≤ 16777216 := by have := szL_at szAc ac0 hlt; have := HSA.out; omega
      have HAT := hide (show acAtB p k = (acOkB (p.acts.getD k ac0) p.res.length p.stocks.length && decide (actIdx p.acts (p.acts.getD k ac0).name = (k : Int))) from rfl)
      subst hA0
      generalize p.acts.getD k ac0 = m at g0 g1 g2 fU hs3 HAT
      have c3 := fun o => (k1.alloc o).cell 3
      have c4 := fun o => (k1.alloc o).cell 4
      simp only [List.getElem?_toArray, List.getElem?_cons_succ, List.getElem?_cons_zero] at c3 c4
      go_wp2_with fail
      refine at_world fun V hV => ?_
      have zV : V.heap.size = wr.heap.size + 1 := by rw [hV]; simp
      have bV : Below wr.heap.size wr V := by rw [hV]; exact (Below.refl _ _).alloc (Nat.le_refl _) _
      have kA : Bk V wr.heap.size 46 #[.string m.name, .int .i64 m.fam, .slice M m.modes.length cm] := by rw [hV]; exact Bk.made _ _ _
      have k2 := k1.below bV (by omega)
      clear hV c3 c4 g0 g1 g2
      refine (implActivityOk_any m M cm lo hi p.res.length p.stocks.length V hs3 (fU.below bV hhr) (by omega)).mono ?_
      rintro e V1 ⟨rfl, hB1⟩
      have z1 := hB1.size
      have kA := kA.below hB1 (by omega)
      have k2 := k2.below hB1 (by omega)
      have bV := bV.trans (hB1.mono (by omega))
      clear hB1
      cases hm : acOkB m p.res.length p.stocks.length
      · have HF := hide (show false = pjOkB p from by rw [HM.out, range_no hlt (by rw [HAT.out, hm]; rfl)]; rfl)
        clear hm
        go_wp2
        go_ret
        exact ⟨ret_bool HF.out, HB.out.trans ((hB.trans (bV.mono hsz)).mono (by omega))⟩
      · have HAT := hide (show acAtB p k = decide (actIdx p.acts m.name = (k : Int)) from by rw [HAT.out, hm, Bool.true_and])
        clear hm
        have a0 := kA.cell 0
        have c0 := k2.cell 0
        have c1 := k2.cell 1
        have c2 := k2.cell 2
        have c3 := k2.cell 3
        have c4 := k2.cell 4
        simp only [List.getElem?_toArray, List.getElem?_cons_succ, List.getElem?_cons_zero] at a0 c0 c1 c2 c3 c4
        have HAR := hide (har.below bV hhr)
        go_wp2_with fail
        refine (implActivityIndex_any p m.name (some ⟨b, off, none⟩) L R S ca cl cr cs lo hi V1 hla HAR.out (by omega)).mono ?_
        rintro e V2 ⟨rfl, hB2⟩
        have bV2 := bV.trans (hB2.mono (by omega))
        clear hB2 a0 c0 c1 c2 c3 c4
        have hBn := hB.trans (bV2.mono hsz)
        clear bV2 bV
        by_cases hix : actIdx p.acts m.name = (k : Int)
        · have HT := hide (show acAtB p k = true from by rw [HAT.out, decide_eq_true hix])
          have hd : (actIdx p.acts m.name != (k : Int)) = false := by simp [hix]
          have hd2 := hix
          generalize actIdx p.acts m.name = ix at hd hd2
          go_wp2
          go_roundw
          case rel =>
            refine ⟨k + 1, by omega, by go_num, hBn, hide (fun j hj => ?_)⟩
            by_cases e : j = k
            · subst e; exact HT.out
            · exact H.out j (by omega)
          case measure => simp [intOf]; omega
        · have HF := hide (show false = pjOkB p from by rw [HM.out, range_no hlt (by rw [HAT.out, decide_eq_false hix])]; rfl)
          have hd : (actIdx p.acts m.name != (k : Int)) = true := by simp [hix]
          generalize actIdx p.acts m.name = ix at hd hix
          go_wp2
          go_ret
          exact ⟨ret_bool HF.out, HB.out.trans (hBn.mono (by omega))⟩
    · have HM := hide (show pjOkB p = (p.res.all rsOkB && (p.stocks.all stkB && p.links.all (lkOkB p.acts.length))) from by rw [HM.out, range_yes (fun j hj => H.out j (by omega)), Bool.true_and])
      clear H
      have k1 := k0.below hB (by omega)
      have c3 := k1.cell 3
      simp only [List.getElem?_toArray, List.getElem?_cons_succ, List.getElem?_cons_zero] at c3
      go_wp2
      clear c3 k1
      go_loopw [67] (fun i wr => ∃ k : Nat, k ≤ p.res.length ∧ i = .int .i64 k ∧ Below W0.heap.size W0 wr ∧ Hid ((p.res.take k).all rsOkB = true)) (fun i _ => p.res.length - (intOf i).toNat)
      case atStart => exact ⟨0, Nat.zero_le _, rfl, hB, hide rfl⟩
      case round =>
        clear hB hsz
        obtain ⟨k, hk, rfl, hB, H⟩ := hrel
        have hsz := hB.size
        by_cases hlt : k < p.res.length
        · have har := fR.below hB (by omega)
          have hhr : hi ≤ wr.heap.size := by omega
          obtain ⟨b, off, S1, cs1, T1, ct1, hR0, h1, h2, g0, g1, fS1, fT1⟩ := har.at hlt
          have hs3 : szRs (p.res.getD k rs0) ≤ 16777216 := by have := szL_at szRs rs0 hlt; have := HSR.out; omega
          subst hR0
          generalize hX : p.res.getD k rs0 = m at g0 g1 fS1 fT1 hs3
          have HX := hide hX; clear hX
          have HB2 : Hid (∀ o, Below wr.heap.size wr (wr.alloc o)) := fun o => (Below.refl _ _).alloc (Nat.le_refl _) _
          clear har
          go_wp2_with fail
          refine (implResourceOk_any m S1 T1 cs1 ct1 lo hi _ hs3 (by exact fS1.below (HB2.out _) hhr) (by exact fT1.below (HB2.out _) hhr) (by simp; omega)).mono ?_
          rintro e w1 ⟨rfl, hB1⟩
          have hB2 := hB.trans (((HB2.out _).trans (hB1.mono (by simp))).mono hsz)
          clear hB1 g0 g1 fS1 fT1
          cases hm : rsOkB m
          · have HF := hide (show false = pjOkB p from by rw [HM.out, all_noG rs0 hlt (by rw [HX.out]; exact hm)]; rfl)
            clear hm
            go_wp2
            go_ret
            exact ⟨ret_bool HF.out, HB.out.trans (hB2.mono (by omega))⟩
          · have HF := hide (all_stepG rs0 H.out hlt (by rw [HX.out]; exact hm))
            clear hm
            go_wp2
            go_roundw
            case rel => exact ⟨k + 1, by omega, by go_num, hB2, HF⟩
            case measure => simp [intOf]; omega
        · have HM := hide (show pjOkB p = (p.stocks.all stkB && p.links.all (lkOkB p.acts.length)) from by rw [HM.out, all_endG (by omega) H.out, Bool.true_and])
          clear H
          have k1 := k0.below hB (by omega)
          have c4 := k1.cell 4
          simp only [List.getElem?_toArray, List.getElem?_cons_succ, List.getElem?_cons_zero] at c4
          go_wp2
          clear c4 k1
          go_loopw [78] (fun i wr => ∃ k : Nat, k ≤ p.stocks.length ∧ i = .int .i64 k ∧ Below W0.heap.size W0 wr ∧ Hid ((p.stocks.take k).all stkB = true)) (fun i _ => p.stocks.length - (intOf i).toNat)
          case atStart => exact ⟨0, Nat.zero_le _, rfl, hB, hide rfl⟩
          case round =>
            clear hB hsz
            obtain ⟨k, hk, rfl, hB, H⟩ := hrel
            have hsz := hB.size
            by_cases hlt : k < p.stocks.length
            · have har := fS.below hB (by omega)
              obtain ⟨b, off, hS0, h1, h2, hc⟩ := har (by omega)
              have g1 := hc k hlt
              clear hc har
              subst hS0
              generalize hX : p.stocks.getD k 0 = x at g1
              have HX := hide hX; clear hX
              by_cases hx : 0 ≤ x ∧ x ≤ 100
              · have HF := hide (all_stepG 0 H.out hlt (by rw [HX.out]; exact decide_eq_true hx))
                go_wp2_with fail
                refine (within_yes _ hx).mono ?_
                rintro e w1 ⟨rfl, rfl⟩
                go_wp2
                go_roundw
                case rel => exact ⟨k + 1, by omega, by go_num, hB, HF⟩
                case measure => simp [intOf]; omega
              · have HF := hide (show false = pjOkB p from by rw [HM.out, all_noG 0 hlt (by rw [HX.out]; exact decide_eq_false hx)]; rfl)
                go_wp2_with fail
                refine (within_no _ hx).mono ?_
                rintro e w1 ⟨rfl, rfl⟩
                go_wp2
                go_ret
                exact ⟨ret_bool HF.out, HB.out.trans (hB.mono (by omega))⟩
            · have HM := hide (show pjOkB p = p.links.all (lkOkB p.acts.length) from by rw [HM.out, all_endG (by omega) H.out, Bool.true_and])
              clear H
              have k1 := k0.below hB (by omega)
              have c2 := k1.cell 2
              simp only [List.getElem?_toArray, List.getElem?_cons_succ, List.getElem?_cons_zero] at c2
              have HK := hide k1
              have hN := any_not (lkOkB p.acts.length) p.links
              have HNN := hide hN; clear hN
              go_wp2_with fail
              refine (containsFuncL_any 105 #[.pointer (some ⟨w.heap.size, 0, none⟩)] (fun k => !(lkOkB p.acts.length k)) L p.links cl lo hi wr hll (fL.below hB (by omega)) (by omega) (run_enter Tryz.func105 (by kernel_rfl) rfl)
                (fun W m hW _ => linkClosure p A L R S ca cl cr cs w.heap.size W m hla (HK.out.below hW (by omega)))).mono ?_
              rintro e w1 ⟨rfl, hB1⟩
              have hB2 := hB.trans (hB1.mono hsz)
              clear hB1 c2
              generalize (p.links.any fun k => !(lkOkB p.acts.length k)) = bb at HNN
              have HF := hide (show (!bb) = pjOkB p from by rw [HM.out, HNN.out])
              go_wp2
              go_ret
              exact ⟨ret_bool HF.out, HB.out.trans (hB2.mono (by omega))⟩
set_option maxHeartbeats 16000000 in
theorem specProjectOk_any (p : Pj) (A L R S : Option Addr) (ca cl cr cs lo hi : Nat) (w : World) (hs : szPj p ≤ 16777216) (fA : RdAs w lo hi A p.acts) (fL : RdLs w lo hi L p.links) (fR : RdRs w lo hi R p.res) (fS : RdI w lo hi S p.stocks) (hhi : hi ≤ w.heap.size) :
    Calls Tryz.prog 33 #[.agg #[.int .i64 p.dead, .slice A p.acts.length ca, .slice L p.links.length cl, .slice R p.res.length cr, .slice S p.stocks.length cs]] w fun e w' => e = .returned (.bool (pjOkB p)) ∧ Below w.heap.size w w' := by
  have HSA := hide (show szL szAc p.acts ≤ 16777216 from by unfold szPj at hs; omega)
  have HSR := hide (show szL szRs p.res ≤ 16777216 from by unfold szPj at hs; omega)
  have hl0 : p.acts.length ≤ 16777216 := Nat.le_trans (szL_len szAc _) HSA.out
  have hl1 : p.res.length ≤ 16777216 := Nat.le_trans (szL_len szRs _) HSR.out
  have hl2 : p.stocks.length ≤ 16777216 := by unfold szPj at hs; omega
  have hl3 : p.links.length ≤ 16777216 := by unfold szPj at hs; omega
  clear hs
  obtain ⟨W0, hW0⟩ : ∃ W0, W0 = w.alloc (.cells #[.int .i64 p.dead, .slice A p.acts.length ca, .slice L p.links.length cl, .slice R p.res.length cr, .slice S p.stocks.length cs] 34) := ⟨_, rfl⟩
  have hB0 : Below w.heap.size w W0 := by rw [hW0]; exact (Below.refl _ _).alloc (Nat.le_refl _) _
  have k0 : Bk W0 w.heap.size 34 #[.int .i64 p.dead, .slice A p.acts.length ca, .slice L p.links.length cl, .slice R p.res.length cr, .slice S p.stocks.length cs] := by rw [hW0]; exact Bk.made w _ _
  have z0 : W0.heap.size = w.heap.size + 1 := by rw [hW0]; simp
  have fA := fA.below hB0 hhi
  have fL := fL.below hB0 hhi
  have fR := fR.below hB0 hhi
  have fS := fS.below hB0 hhi
  have HB := hide hB0; clear hB0
  go_enter Tryz.func33, Tryz.ntmps33
  by_cases g1 : 1 ≤ p.dead ∧ p.dead ≤ 60
  case neg =>
    have HF := hide (show false = pjOkB p from by unfold pjOkB pjHeadB; rw [decide_eq_false g1]; rfl)
    go_wp2_with fail
    refine (l01In_no _ g1).mono ?_
    rintro e w1 ⟨rfl, rfl⟩
    go_wp2
    go_ret
    exact ⟨ret_bool HF.out, by rw [← hW0]; exact HB.out⟩
  go_wp2_with fail
  refine (l01In_yes _ g1).mono ?_
  rintro e w1 ⟨rfl, rfl⟩
  by_cases g2 : 1 ≤ (p.acts.length : Int) ∧ (p.acts.length : Int) ≤ 6
  case neg =>
    have HF := hide (show false = pjOkB p from by unfold pjOkB pjHeadB; rw [decide_eq_false g2]; simp)
    go_wp2_with fail
    refine (l01In_no _ g2).mono ?_
    rintro e w1 ⟨rfl, rfl⟩
    go_wp2
    go_ret
    exact ⟨ret_bool HF.out, by rw [← hW0]; exact HB.out⟩
  go_wp2_with fail
  refine (l01In_yes _ g2).mono ?_
  rintro e w1 ⟨rfl, rfl⟩
  by_cases g3 : p.res.length ≤ 3
  case neg =>
    have HF := hide (show false = pjOkB p from by unfold pjOkB pjHeadB; rw [decide_eq_false g3]; simp)
    have d3 : (3 : Int) < (p.res.length : Int) := by omega
    go_wp2
    go_ret
    exact ⟨ret_bool HF.out, by rw [← hW0]; exact HB.out⟩
  have d3 : ¬ (3 : Int) < (p.res.length : Int) := by omega
  by_cases g4 : p.stocks.length ≤ 2
  case neg =>
    have HF := hide (show false = pjOkB p from by unfold pjOkB pjHeadB; rw [decide_eq_false g4]; simp)
    have d4 : (2 : Int) < (p.stocks.length : Int) := by omega
    go_wp2
    go_ret
    exact ⟨ret_bool HF.out, by rw [← hW0]; exact HB.out⟩
  have d4 : ¬ (2 : Int) < (p.stocks.length : Int) := by omega
  by_cases g5 : p.links.length ≤ 12
  case neg =>
    have HF := hide (show false = pjOkB p from by unfold pjOkB pjHeadB; rw [decide_eq_false g5]; simp)
    have d5 : (12 : Int) < (p.links.length : Int) := by omega
    go_wp2
    go_ret
    exact ⟨ret_bool HF.out, by rw [← hW0]; exact HB.out⟩
  have d5 : ¬ (12 : Int) < (p.links.length : Int) := by omega
  have HH := hide (show pjHeadB p = true from by unfold pjHeadB; rw [decide_eq_true g1, decide_eq_true g2, decide_eq_true g3, decide_eq_true g4, decide_eq_true g5]; rfl)
  have HM := hide (show pjOkB p = ((List.range p.acts.length).all (acAtB p) && (p.res.all rsOkB && (p.stocks.all stkB && p.links.all (lkOkB p.acts.length)))) from by rw [show pjOkB p = (pjHeadB p && ((List.range p.acts.length).all (acAtB p) && (p.res.all rsOkB && (p.stocks.all stkB && p.links.all (lkOkB p.acts.length))))) from rfl, HH.out, Bool.true_and])
  have hla : p.acts.length ≤ 16777216 := by omega
  have hlr : p.res.length ≤ 16777216 := by omega
  have hls : p.stocks.length ≤ 16777216 := by omega
  have hll : p.links.length ≤ 16777216 := by omega
  clear HH
  go_wp2
  clear g1 g2 g3 g4 g5 d3 d4 d5
  go_loopw [45] (fun i wr => ∃ k : Nat, k ≤ p.acts.length ∧ i = .int .i64 k ∧ Below W0.heap.size W0 wr ∧ Hid (∀ j, j < k → acAtB p j = true)) (fun i _ => p.acts.length - (intOf i).toNat)
  case atStart => exact ⟨0, Nat.zero_le _, rfl, by rw [← hW0]; exact Below.refl _ _, hide (fun j h => absurd h (by omega))⟩
  case round =>
    clear hW0
    obtain ⟨k, hk, rfl, hB, H⟩ := hrel
    have hsz := hB.size
    by_cases hlt : k < p.acts.length
    · have har := fA.below hB (by omega)
      have k1 := k0.below hB (by omega)
      have hhr : hi ≤ wr.heap.size := by omega
      obtain ⟨b, off, M, cm, hA0, h1, h2, g0, g1, g2, fU⟩ := har.at hlt
      have hs3 : szAc (p.acts.getD k ac0) ≤ 16777216 := by have := szL_at szAc ac0 hlt; have := HSA.out; omega
      have HAT := hide (show acAtB p k = (acOkB (p.acts.getD k ac0) p.res.length p.stocks.length && decide (actIdx p.acts (p.acts.getD k ac0).name = (k : Int))) from rfl)
      subst hA0
      generalize p.acts.getD k ac0 = m at g0 g1 g2 fU hs3 HAT
      have c3 := fun o => (k1.alloc o).cell 3
      have c4 := fun o => (k1.alloc o).cell 4
      simp only [List.getElem?_toArray, List.getElem?_cons_succ, List.getElem?_cons_zero] at c3 c4
      go_wp2_with fail
      refine at_world fun V hV => ?_
      have zV : V.heap.size = wr.heap.size + 1 := by rw [hV]; simp
      have bV : Below wr.heap.size wr V := by rw [hV]; exact (Below.refl _ _).alloc (Nat.le_refl _) _
      have kA : Bk V wr.heap.size 46 #[.string m.name, .int .i64 m.fam, .slice M m.modes.length cm] := by rw [hV]; exact Bk.made _ _ _
      have k2 := k1.below bV (by omega)
      clear hV c3 c4 g0 g1 g2
      refine (specActivityOk_any m M cm lo hi p.res.length p.stocks.length V hs3 (fU.below bV hhr) (by omega)).mono ?_
      rintro e V1 ⟨rfl, hB1⟩
      have z1 := hB1.size
      have kA := kA.below hB1 (by omega)
      have k2 := k2.below hB1 (by omega)
      have bV := bV.trans (hB1.mono (by omega))
      clear hB1
      cases hm : acOkB m p.res.length p.stocks.length
      · have HF := hide (show false = pjOkB p from by rw [HM.out, range_no hlt (by rw [HAT.out, hm]; rfl)]; rfl)
        clear hm
        go_wp2
        go_ret
        exact ⟨ret_bool HF.out, HB.out.trans ((hB.trans (bV.mono hsz)).mono (by omega))⟩
      · have HAT := hide (show acAtB p k = decide (actIdx p.acts m.name = (k : Int)) from by rw [HAT.out, hm, Bool.true_and])
        clear hm
        have a0 := kA.cell 0
        have c0 := k2.cell 0
        have c1 := k2.cell 1
        have c2 := k2.cell 2
        have c3 := k2.cell 3
        have c4 := k2.cell 4
        simp only [List.getElem?_toArray, List.getElem?_cons_succ, List.getElem?_cons_zero] at a0 c0 c1 c2 c3 c4
        have HAR := hide (har.below bV hhr)
        go_wp2_with fail
        refine (specActivityIndex_any p m.name (some ⟨b, off, none⟩) L R S ca cl cr cs lo hi V1 hla HAR.out (by omega)).mono ?_
        rintro e V2 ⟨rfl, hB2⟩
        have bV2 := bV.trans (hB2.mono (by omega))
        clear hB2 a0 c0 c1 c2 c3 c4
        have hBn := hB.trans (bV2.mono hsz)
        clear bV2 bV
        by_cases hix : actIdx p.acts m.name = (k : Int)
        · have HT := hide (show acAtB p k = true from by rw [HAT.out, decide_eq_true hix])
          have hd : (actIdx p.acts m.name != (k : Int)) = false := by simp [hix]
          have hd2 := hix
          generalize actIdx p.acts m.name = ix at hd hd2
          go_wp2
          go_roundw
          case rel =>
            refine ⟨k + 1, by omega, by go_num, hBn, hide (fun j hj => ?_)⟩
            by_cases e : j = k
            · subst e; exact HT.out
            · exact H.out j (by omega)
          case measure => simp [intOf]; omega
        · have HF := hide (show false = pjOkB p from by rw [HM.out, range_no hlt (by rw [HAT.out, decide_eq_false hix])]; rfl)
          have hd : (actIdx p.acts m.name != (k : Int)) = true := by simp [hix]
          generalize actIdx p.acts m.name = ix at hd hix
          go_wp2
          go_ret
          exact ⟨ret_bool HF.out, HB.out.trans (hBn.mono (by omega))⟩
    · have HM := hide (show pjOkB p = (p.res.all rsOkB && (p.stocks.all stkB && p.links.all (lkOkB p.acts.length))) from by rw [HM.out, range_yes (fun j hj => H.out j (by omega)), Bool.true_and])
      clear H
      have k1 := k0.below hB (by omega)
      have c3 := k1.cell 3
      simp only [List.getElem?_toArray, List.getElem?_cons_succ, List.getElem?_cons_zero] at c3
      go_wp2
      clear c3 k1
      go_loopw [71] (fun i wr => ∃ k : Nat, k ≤ p.res.length ∧ i = .int .i64 k ∧ Below W0.heap.size W0 wr ∧ Hid ((p.res.take k).all rsOkB = true)) (fun i _ => p.res.length - (intOf i).toNat)
      case atStart => exact ⟨0, Nat.zero_le _, rfl, hB, hide rfl⟩
      case round =>
        clear hB hsz
        obtain ⟨k, hk, rfl, hB, H⟩ := hrel
        have hsz := hB.size
        by_cases hlt : k < p.res.length
        · have har := fR.below hB (by omega)
          have hhr : hi ≤ wr.heap.size := by omega
          obtain ⟨b, off, S1, cs1, T1, ct1, hR0, h1, h2, g0, g1, fS1, fT1⟩ := har.at hlt
          have hs3 : szRs (p.res.getD k rs0) ≤ 16777216 := by have := szL_at szRs rs0 hlt; have := HSR.out; omega
          subst hR0
          generalize hX : p.res.getD k rs0 = m at g0 g1 fS1 fT1 hs3
          have HX := hide hX; clear hX
          have HB2 : Hid (∀ o, Below wr.heap.size wr (wr.alloc o)) := fun o => (Below.refl _ _).alloc (Nat.le_refl _) _
          clear har
          go_wp2_with fail
          refine (specResourceOk_any m S1 T1 cs1 ct1 lo hi _ hs3 (by exact fS1.below (HB2.out _) hhr) (by exact fT1.below (HB2.out _) hhr) (by simp; omega)).mono ?_
          rintro e w1 ⟨rfl, hB1⟩
          have hB2 := hB.trans (((HB2.out _).trans (hB1.mono (by simp))).mono hsz)
          clear hB1 g0 g1 fS1 fT1
          cases hm : rsOkB m
          · have HF := hide (show false = pjOkB p from by rw [HM.out, all_noG rs0 hlt (by rw [HX.out]; exact hm)]; rfl)
            clear hm
            go_wp2
            go_ret
            exact ⟨ret_bool HF.out, HB.out.trans (hB2.mono (by omega))⟩
          · have HF := hide (all_stepG rs0 H.out hlt (by rw [HX.out]; exact hm))
            clear hm
            go_wp2
            go_roundw
            case rel => exact ⟨k + 1, by omega, by go_num, hB2, HF⟩
            case measure => simp [intOf]; omega
        · have HM := hide (show pjOkB p = (p.stocks.all stkB && p.links.all (lkOkB p.acts.length)) from by rw [HM.out, all_endG (by omega) H.out, Bool.true_and])
          clear H
          have k1 := k0.below hB (by omega)
          have c4 := k1.cell 4
          simp only [List.getElem?_toArray, List.getElem?_cons_succ, List.getElem?_cons_zero] at c4
          go_wp2
          clear c4 k1
          go_loopw [82] (fun i wr => ∃ k : Nat, k ≤ p.stocks.length ∧ i = .int .i64 k ∧ Below W0.heap.size W0 wr ∧ Hid ((p.stocks.take k).all stkB = true)) (fun i _ => p.stocks.length - (intOf i).toNat)
          case atStart => exact ⟨0, Nat.zero_le _, rfl, hB, hide rfl⟩
          case round =>
            clear hB hsz
            obtain ⟨k, hk, rfl, hB, H⟩ := hrel
            have hsz := hB.size
            by_cases hlt : k < p.stocks.length
            · have har := fS.below hB (by omega)
              obtain ⟨b, off, hS0, h1, h2, hc⟩ := har (by omega)
              have g1 := hc k hlt
              clear hc har
              subst hS0
              generalize hX : p.stocks.getD k 0 = x at g1
              have HX := hide hX; clear hX
              by_cases hx : 0 ≤ x ∧ x ≤ 100
              · have HF := hide (all_stepG 0 H.out hlt (by rw [HX.out]; exact decide_eq_true hx))
                go_wp2_with fail
                refine (l01In_yes _ hx).mono ?_
                rintro e w1 ⟨rfl, rfl⟩
                go_wp2
                go_roundw
                case rel => exact ⟨k + 1, by omega, by go_num, hB, HF⟩
                case measure => simp [intOf]; omega
              · have HF := hide (show false = pjOkB p from by rw [HM.out, all_noG 0 hlt (by rw [HX.out]; exact decide_eq_false hx)]; rfl)
                go_wp2_with fail
                refine (l01In_no _ hx).mono ?_
                rintro e w1 ⟨rfl, rfl⟩
                go_wp2
                go_ret
                exact ⟨ret_bool HF.out, HB.out.trans (hB.mono (by omega))⟩
            · have HM := hide (show pjOkB p = p.links.all (lkOkB p.acts.length) from by rw [HM.out, all_endG (by omega) H.out, Bool.true_and])
              clear H
              have k1 := k0.below hB (by omega)
              have c2 := k1.cell 2
              simp only [List.getElem?_toArray, List.getElem?_cons_succ, List.getElem?_cons_zero] at c2
              go_wp2
              clear c2 k1
              go_loopw [93] (fun i wr => ∃ k : Nat, k ≤ p.links.length ∧ i = .int .i64 k ∧ Below W0.heap.size W0 wr ∧ Hid ((p.links.take k).all (lkOkB p.acts.length) = true)) (fun i _ => p.links.length - (intOf i).toNat)
              case atStart => exact ⟨0, Nat.zero_le _, rfl, hB, hide rfl⟩
              case round =>
                clear hB hsz
                obtain ⟨k, hk, rfl, hB, H⟩ := hrel
                have hsz := hB.size
                by_cases hlt : k < p.links.length
                · have har := fL.below hB (by omega)
                  obtain ⟨b, off, hL0, h1, h2, g0, g1, g2, g3⟩ := har.at hlt
                  subst hL0
                  generalize hX : p.links.getD k lk0 = m at g0 g1 g2 g3
                  have HX := hide hX; clear hX
                  clear har
                  have HNO := hide (show lkOkB p.acts.length m = false → false = pjOkB p from fun hm => by rw [HM.out, all_noG lk0 hlt (by rw [HX.out]; exact hm)])
                  have HYES := hide (show lkOkB p.acts.length m = true → (p.links.take (k + 1)).all (lkOkB p.acts.length) = true from fun hm => all_stepG lk0 H.out hlt (by rw [HX.out]; exact hm))
                  have HQ := hide (show lkOkB p.acts.length m = ((decide (0 ≤ m.src ∧ m.src ≤ (p.acts.length : Int) - 1) && decide (0 ≤ m.dst ∧ m.dst ≤ (p.acts.length : Int) - 1)) && (decide (m.src ≠ m.dst) && decide (-60 ≤ m.lag ∧ m.lag ≤ 60))) from rfl)
                  have hB2 := fun o => hB.alloc hsz o
                  have HB2 := hide hB2; clear hB2
                  have hF2 := HB.out.size
                  clear HX H
                  by_cases q1 : 0 ≤ m.src ∧ m.src ≤ (p.acts.length : Int) - 1
                  case neg =>
                    have HF := hide (HNO.out (by rw [HQ.out, decide_eq_false q1]; rfl))
                    go_wp2_with fail
                    refine (l01In_no _ q1).mono ?_
                    rintro e w1 ⟨rfl, rfl⟩
                    go_wp2
                    go_ret
                    exact ⟨ret_bool HF.out, HB.out.trans ((HB2.out _).mono hF2)⟩
                  go_wp2_with fail
                  refine (l01In_yes _ q1).mono ?_
                  rintro e w1 ⟨rfl, rfl⟩
                  by_cases q2 : 0 ≤ m.dst ∧ m.dst ≤ (p.acts.length : Int) - 1
                  case neg =>
                    have HF := hide (HNO.out (by rw [HQ.out, decide_eq_false q2]; simp))
                    go_wp2_with fail
                    refine (l01In_no _ q2).mono ?_
                    rintro e w1 ⟨rfl, rfl⟩
                    go_wp2
                    go_ret
                    exact ⟨ret_bool HF.out, HB.out.trans ((HB2.out _).mono hF2)⟩
                  go_wp2_with fail
                  refine (l01In_yes _ q2).mono ?_
                  rintro e w1 ⟨rfl, rfl⟩
                  by_cases q3 : m.src = m.dst
                  · have HF := hide (HNO.out (by rw [HQ.out, decide_eq_false (p := m.src ≠ m.dst) (fun h => h q3)]; simp))
                    have hd : (m.src == m.dst) = true := by simp [q3]
                    clear q1 q2
                    go_wp2
                    go_ret
                    exact ⟨ret_bool HF.out, HB.out.trans ((HB2.out _).mono hF2)⟩
                  have hd : (m.src == m.dst) = false := by simp [q3]
                  by_cases q4 : -60 ≤ m.lag ∧ m.lag ≤ 60
                  case neg =>
                    have HF := hide (HNO.out (by rw [HQ.out, decide_eq_false q4]; simp))
                    go_wp2_with fail
                    refine (l01In_no _ q4).mono ?_
                    rintro e w1 ⟨rfl, rfl⟩
                    go_wp2
                    go_ret
                    exact ⟨ret_bool HF.out, HB.out.trans ((HB2.out _).mono hF2)⟩
                  have HF := hide (HYES.out (by rw [HQ.out, decide_eq_true q1, decide_eq_true q2, decide_eq_true (p := m.src ≠ m.dst) q3, decide_eq_true q4]; rfl))
                  go_wp2_with fail
                  refine (l01In_yes _ q4).mono ?_
                  rintro e w1 ⟨rfl, rfl⟩
                  clear q1 q2 q3 q4
                  go_wp2
                  go_roundw
                  case rel => exact ⟨k + 1, by omega, by go_num, HB2.out _, HF⟩
                  case measure => simp [intOf]; omega
                · have HF := hide (show true = pjOkB p from by rw [HM.out, all_endG (by omega) H.out])
                  go_wp2
                  go_ret
                  exact ⟨ret_bool HF.out, HB.out.trans (hB.mono (by omega))⟩
end Go.Proofs.YtcecgbjolngdbaaGreatDoor
