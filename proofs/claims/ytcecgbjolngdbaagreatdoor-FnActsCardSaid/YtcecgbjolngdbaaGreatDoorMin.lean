/- The least usage, consumption, work of the chosen modes. -/
import Derived.Test.YtcecgbjolngdbaaGreatDoorKitMd
import Derived.Test.YtcecgbjolngdbaaGreatDoorModes2
namespace Go.Proofs.YtcecgbjolngdbaaGreatDoor
open Go.ChangeShapes Go.WideShapes Go.ChangeAt Go.RowKit
set_option linter.unusedVariables false

theorem chosenTo_no {l : List Md} {s : List Int} {k : Nat} (h : hasB s k = false) : chosenTo l s (k + 1) = chosenTo l s k := by rw [chosenTo, h]; rfl
theorem chosenTo_yes {l : List Md} {s : List Int} {k : Nat} (h : hasB s k = true) : chosenTo l s (k + 1) = chosenTo l s k ++ [l.getD k md0] := by rw [chosenTo, h]; rfl
theorem useO_some {i : Int} {m : Md} (h : 0 ≤ i ∧ i ≤ (m.use.length : Int) - 1) : someO (useO i) m = true ∧ valO (useO i) m = m.use.getD i.toNat 0 := by unfold someO valO useO; rw [elemO_yes h]; exact ⟨rfl, rfl⟩
theorem conO_some {i : Int} {m : Md} (h : 0 ≤ i ∧ i ≤ (m.con.length : Int) - 1) : someO (conO i) m = true ∧ valO (conO i) m = m.con.getD i.toNat 0 := by unfold someO valO conO; rw [elemO_yes h]; exact ⟨rfl, rfl⟩
theorem workO_some {i : Int} {m : Md} (h : 0 ≤ i ∧ i ≤ (m.use.length : Int) - 1) : someO (workO i) m = true ∧ valO (workO i) m = wrap64 (m.dur * m.use.getD i.toNat 0) := by unfold someO valO workO; rw [elemO_yes h]; exact ⟨rfl, rfl⟩
theorem useO_none {i : Int} {m : Md} (h : ¬ (0 ≤ i ∧ i ≤ (m.use.length : Int) - 1)) : someO (useO i) m = false ∧ valO (useO i) m = 0 := by unfold someO valO useO; rw [elemO_no h]; exact ⟨rfl, rfl⟩
theorem conO_none {i : Int} {m : Md} (h : ¬ (0 ≤ i ∧ i ≤ (m.con.length : Int) - 1)) : someO (conO i) m = false ∧ valO (conO i) m = 0 := by unfold someO valO conO; rw [elemO_no h]; exact ⟨rfl, rfl⟩
theorem workO_none {i : Int} {m : Md} (h : ¬ (0 ≤ i ∧ i ≤ (m.use.length : Int) - 1)) : someO (workO i) m = false ∧ valO (workO i) m = 0 := by unfold someO valO workO; rw [elemO_no h]; exact ⟨rfl, rfl⟩
theorem element_any (A : Option Addr) (l : List Int) (c lo hi : Nat) (i : Int) (w : World) (hl : l.length ≤ 16777216) (ha : RdI w lo hi A l) :
    Calls Tryz.prog 90 #[.slice A l.length c, .int .i64 i] w fun e w' => e = .returned (.tuple #[.int .i64 ((elemO l i).getD 0), .bool (elemO l i).isSome]) ∧ w = w' := by
  by_cases hin : 0 ≤ i ∧ i ≤ (l.length : Int) - 1
  · obtain ⟨bb, oo, rfl, hb1, hb2, hcc0⟩ := ha (by omega)
    have hcc := hcc0 i.toNat (by omega)
    clear hcc0
    have hi0 := hin.1
    have hi1 : i < (l.length : Int) := by omega
    have HE := hide (elemO_yes hin)
    clear ha
    generalize l.getD i.toNat 0 = X at hcc HE
    go_enter Tryz.func90, Tryz.ntmps90
    go_wp2_with fail
    refine (within_yes _ hin).mono ?_
    rintro e w2 ⟨rfl, rfl⟩
    go_wp2
    go_ret2
    exact ⟨by rw [HE.out]; rfl, rfl⟩
  · have HE := hide (elemO_no hin)
    go_enter Tryz.func90, Tryz.ntmps90
    go_wp2_with fail
    refine (within_no _ hin).mono ?_
    rintro e w2 ⟨rfl, rfl⟩
    go_wp2
    go_ret2
    exact ⟨by rw [HE.out]; rfl, rfl⟩
set_option maxHeartbeats 3200000 in
theorem leastOf_any (F : FuncId) (caps : Array Value) (f : Md → Option Int) (A : Option Addr) (l : List Md) (c lo hi : Nat) (w : World) (hl : l.length ≤ 16777216) (hsz : ∀ j, j < l.length → szMd (l.getD j md0) ≤ 16777216) (ha : RdMs w lo hi A l) (hhi : hi ≤ w.heap.size)
    (hE : ∀ (args : Array Value) (W : World), (callFunc F args).run Tryz.prog W = .ok (.enter F args) W)
    (hf : ∀ (W : World) (m : Md) (U C : Option Addr) (cu cc lo' hi' : Nat), Below w.heap.size w W → szMd m ≤ 16777216 → RdI W lo' hi' U m.use → RdI W lo' hi' C m.con → hi' ≤ W.heap.size →
      Calls Tryz.prog F (#[.agg #[.int .i64 m.dur, .slice U m.use.length cu, .slice C m.con.length cc]] ++ caps) W fun e w' => e = .returned (.tuple #[.int .i64 (valO f m), .bool (someO f m)]) ∧ Below W.heap.size W w') :
    Calls Tryz.prog 88 #[.slice A l.length c, .func (.func F) #[] caps] w fun e w' => e = .returned (.int .i64 (leastM f l)) ∧ Below w.heap.size w w' := by
  have HF := hide hf; clear hf
  have HSZ := hide hsz; clear hsz
  go_enter Tryz.func88, Tryz.ntmps88
  go_wp2
  go_loopw [5, 12] (fun v i wr => ∃ k : Nat, k ≤ l.length ∧ i = .int .i64 k ∧ v = .int .i64 (leastV ((l.take k).map (valO f))) ∧ Hid ((l.take k).all (someO f) = true) ∧ Below w.heap.size w wr) (fun _ i _ => l.length - (intOf i).toNat)
  case atStart => exact ⟨0, Nat.zero_le _, rfl, rfl, hide rfl, Below.refl _ _⟩
  case round =>
    obtain ⟨k, hk, rfl, rfl, HA, hB⟩ := hrel
    by_cases hlt : k < l.length
    · have har := ha.below hB hhi
      have hsz := hB.size
      obtain ⟨b, off, U, cu, C, cc, rfl, h1, h2, g0, g1, g2, fU, fC⟩ := har.at hlt
      have HT := hide (take_snoc md0 hlt)
      have HMEM := hide (show l.getD k md0 ∈ l from by rw [getD_get md0 hlt]; exact List.getElem_mem hlt)
      have HS3 := hide (HSZ.out k hlt)
      clear har ha
      generalize l.getD k md0 = m at g0 g1 g2 HT fU fC HS3 HMEM
      have HSN := hide (leastV_snoc ((l.take k).map (valO f)) (valO f m))
      have HLM : Hid (((l.take k).map (valO f)).length = k) := by rw [List.length_map, List.length_take]; exact hide (by omega)
      have HAS : Hid (someO f m = true → (l.take k ++ [m]).all (someO f) = true) := fun h => by rw [List.all_append, HA.out, List.all_cons, h]; rfl
      have HB2 : Hid (∀ o, Below wr.heap.size wr (wr.alloc o)) := fun o => (Below.refl _ _).alloc (Nat.le_refl _) _
      have HCALL := hide (fun o => HF.out (wr.alloc o) m U C cu cc lo hi (hB.trans ((HB2.out o).mono hsz)) HS3.out (fU.below (HB2.out o) (by omega)) (fC.below (HB2.out o) (by omega)) (by simp; omega))
      clear fU fC HF
      go_wp2_with fail
      refine (HCALL.out _).mono ?_
      rintro e w1 ⟨rfl, hB1⟩
      have hB2 := hB.trans (((HB2.out _).trans (hB1.mono (by simp))).mono hsz)
      clear hB1 HCALL
      cases hso : someO f m
      · have HZ := hide (leastM_no HMEM.out hso).symm
        clear hso
        go_wp2
        go_ret
        exact ⟨ret_int HZ.out, hB2⟩
      · have HAS := hide (HAS.out hso)
        clear hso
        generalize hVV : valO f m = V at HSN
        have HVV := hide hVV; clear hVV
        generalize leastV ((l.take k).map (valO f)) = n at HSN
        by_cases hk0 : k = 0
        · have hd : ((k : Int) == 0) = true := by rw [hk0]; rfl
          have HK := hide hk0; clear hk0
          go_wp2
          go_roundw
          case rel => exact ⟨k + 1, by omega, by go_num, by rw [HT.out, List.map_append, List.map_cons, List.map_nil, HVV.out, HSN.out, if_pos (.inl (by rw [HLM.out]; exact HK.out))], by rw [HT.out]; exact HAS, hB2⟩
          case measure => simp [intOf]; omega
        · have hd : ((k : Int) == 0) = false := by rw [beq_eq_false_iff_ne]; omega
          have hd2 : ¬ (k : Int) = 0 := by omega
          by_cases hlt2 : V < n
          · go_wp2
            go_roundw
            case rel => exact ⟨k + 1, by omega, by go_num, by rw [HT.out, List.map_append, List.map_cons, List.map_nil, HVV.out, HSN.out, if_pos (.inr hlt2)], by rw [HT.out]; exact HAS, hB2⟩
            case measure => simp [intOf]; omega
          · go_wp2
            go_roundw
            case rel => exact ⟨k + 1, by omega, by go_num, by rw [HT.out, List.map_append, List.map_cons, List.map_nil, HVV.out, HSN.out, if_neg (by rw [not_or, HLM.out]; exact ⟨hk0, by omega⟩)], by rw [HT.out]; exact HAS, hB2⟩
            case measure => simp [intOf]; omega
    · obtain rfl : k = l.length := by omega
      have HZ := hide (leastM_yes (f := f) (l := l) (by rw [List.take_length] at HA; exact HA.out))
      go_wp2
      go_ret
      exact ⟨ret_int (by rw [HZ.out, List.take_length]), hB⟩
set_option maxHeartbeats 800000 in
theorem useClosure (i : Int) (g : Nat) (W : World) (m : Md) (U C : Option Addr) (cu cc lo hi : Nat) (hg : W.cell? ⟨g, 0, none⟩ = some (.int .i64 i)) (hs : szMd m ≤ 16777216) (fU : RdI W lo hi U m.use) (fC : RdI W lo hi C m.con) (hhi : hi ≤ W.heap.size) :
    Calls Tryz.prog 89 (#[.agg #[.int .i64 m.dur, .slice U m.use.length cu, .slice C m.con.length cc]] ++ #[.pointer (some ⟨g, 0, none⟩)]) W fun e w' => e = .returned (.tuple #[.int .i64 (valO (useO i) m), .bool (someO (useO i) m)]) ∧ Below W.heap.size W w' := by
  have HB2 : Hid (∀ o, Below W.heap.size W (W.alloc o)) := fun o => (Below.refl _ _).alloc (Nat.le_refl _) _
  have hl : (m.use).length ≤ 16777216 := by unfold szMd at hs; omega
  have hgl := World.block_lt_of_cell? _ _ hg
  have g1 := fun o => (World.cell?_alloc_lt W o ⟨g, 0, none⟩ hgl).trans hg
  have HX : Hid (∀ o, RdI (W.alloc o) lo hi U (m.use)) := fun o => by first | exact fU.below (HB2.out o) hhi | exact fC.below (HB2.out o) hhi
  clear fU fC hg
  go_enter Tryz.func89, Tryz.ntmps89
  go_wp2_with fail
  refine (element_any U (m.use) _ lo hi i _ hl (by exact HX.out _)).mono ?_
  rintro e w1 ⟨rfl, rfl⟩
  have HVV : Hid (valO (useO i) m = (elemO m.use i).getD 0) := by
    unfold valO useO
    cases elemO (m.use) i <;> first | rfl | (exact hide (by simp [wrap64]))
  have HSS : Hid (someO (useO i) m = (elemO (m.use) i).isSome) := by
    unfold someO useO
    cases elemO (m.use) i <;> rfl
  generalize (elemO (m.use) i).isSome = sb at HSS ⊢
  generalize (elemO (m.use) i).getD 0 = X at HVV ⊢
  go_wp2
  go_ret2
  exact ⟨by rw [HVV.out, HSS.out]; rfl, HB2.out _⟩
set_option maxHeartbeats 800000 in
theorem conClosure (i : Int) (g : Nat) (W : World) (m : Md) (U C : Option Addr) (cu cc lo hi : Nat) (hg : W.cell? ⟨g, 0, none⟩ = some (.int .i64 i)) (hs : szMd m ≤ 16777216) (fU : RdI W lo hi U m.use) (fC : RdI W lo hi C m.con) (hhi : hi ≤ W.heap.size) :
    Calls Tryz.prog 92 (#[.agg #[.int .i64 m.dur, .slice U m.use.length cu, .slice C m.con.length cc]] ++ #[.pointer (some ⟨g, 0, none⟩)]) W fun e w' => e = .returned (.tuple #[.int .i64 (valO (conO i) m), .bool (someO (conO i) m)]) ∧ Below W.heap.size W w' := by
  have HB2 : Hid (∀ o, Below W.heap.size W (W.alloc o)) := fun o => (Below.refl _ _).alloc (Nat.le_refl _) _
  have hl : (m.con).length ≤ 16777216 := by unfold szMd at hs; omega
  have hgl := World.block_lt_of_cell? _ _ hg
  have g1 := fun o => (World.cell?_alloc_lt W o ⟨g, 0, none⟩ hgl).trans hg
  have HX : Hid (∀ o, RdI (W.alloc o) lo hi C (m.con)) := fun o => by first | exact fU.below (HB2.out o) hhi | exact fC.below (HB2.out o) hhi
  clear fU fC hg
  go_enter Tryz.func92, Tryz.ntmps92
  go_wp2_with fail
  refine (element_any C (m.con) _ lo hi i _ hl (by exact HX.out _)).mono ?_
  rintro e w1 ⟨rfl, rfl⟩
  have HVV : Hid (valO (conO i) m = (elemO m.con i).getD 0) := by
    unfold valO conO
    cases elemO (m.con) i <;> first | rfl | (exact hide (by simp [wrap64]))
  have HSS : Hid (someO (conO i) m = (elemO (m.con) i).isSome) := by
    unfold someO conO
    cases elemO (m.con) i <;> rfl
  generalize (elemO (m.con) i).isSome = sb at HSS ⊢
  generalize (elemO (m.con) i).getD 0 = X at HVV ⊢
  go_wp2
  go_ret2
  exact ⟨by rw [HVV.out, HSS.out]; rfl, HB2.out _⟩
set_option maxHeartbeats 800000 in
theorem workClosure (i : Int) (g : Nat) (W : World) (m : Md) (U C : Option Addr) (cu cc lo hi : Nat) (hg : W.cell? ⟨g, 0, none⟩ = some (.int .i64 i)) (hs : szMd m ≤ 16777216) (fU : RdI W lo hi U m.use) (fC : RdI W lo hi C m.con) (hhi : hi ≤ W.heap.size) :
    Calls Tryz.prog 91 (#[.agg #[.int .i64 m.dur, .slice U m.use.length cu, .slice C m.con.length cc]] ++ #[.pointer (some ⟨g, 0, none⟩)]) W fun e w' => e = .returned (.tuple #[.int .i64 (valO (workO i) m), .bool (someO (workO i) m)]) ∧ Below W.heap.size W w' := by
  have HB2 : Hid (∀ o, Below W.heap.size W (W.alloc o)) := fun o => (Below.refl _ _).alloc (Nat.le_refl _) _
  have hl : (m.use).length ≤ 16777216 := by unfold szMd at hs; omega
  have hgl := World.block_lt_of_cell? _ _ hg
  have g1 := fun o => (World.cell?_alloc_lt W o ⟨g, 0, none⟩ hgl).trans hg
  have HX : Hid (∀ o, RdI (W.alloc o) lo hi U (m.use)) := fun o => by first | exact fU.below (HB2.out o) hhi | exact fC.below (HB2.out o) hhi
  clear fU fC hg
  go_enter Tryz.func91, Tryz.ntmps91
  go_wp2_with fail
  refine (element_any U (m.use) _ lo hi i _ hl (by exact HX.out _)).mono ?_
  rintro e w1 ⟨rfl, rfl⟩
  have HVV : Hid (valO (workO i) m = wrap64 (m.dur * (elemO m.use i).getD 0)) := by
    unfold valO workO
    cases elemO (m.use) i <;> first | rfl | (exact hide (by simp [wrap64]))
  have HSS : Hid (someO (workO i) m = (elemO (m.use) i).isSome) := by
    unfold someO workO
    cases elemO (m.use) i <;> rfl
  generalize (elemO (m.use) i).isSome = sb at HSS ⊢
  generalize (elemO (m.use) i).getD 0 = X at HVV ⊢
  go_wp2
  go_ret2
  exact ⟨by rw [HVV.out, HSS.out]; rfl, HB2.out _⟩
set_option maxHeartbeats 1600000 in
theorem implMinUsage_any (a : Ac) (s : List Int) (i : Int) (M B : Option Addr) (cm cb lo hi lo' hi' : Nat) (w : World) (hs0 : szAc a ≤ 16777216) (hs : s.length ≤ 16777216) (fM : RdMs w lo hi M a.modes) (fS : RdI w lo' hi' B s) (hhi : hi ≤ w.heap.size) (hhi' : hi' ≤ w.heap.size) :
    Calls Tryz.prog 26 #[.agg #[.string a.name, .int .i64 a.fam, .slice M a.modes.length cm], .slice B s.length cb, .int .i64 i] w fun e w' => e = .returned (.int .i64 (leastM (useO i) (chosenTo a.modes s a.modes.length))) ∧ Below w.heap.size w w' := by
  have hmf : ∀ (fn : Fn) (first cap : Array Value) (w : World), (Instr.makeFunc fn first cap).run Tryz.prog w = .ok (.func fn first cap) w := fun _ _ _ _ => rfl
  have HSM := hide (show szL szMd a.modes ≤ 16777216 from by unfold szAc at hs0; omega)
  have hm : a.modes.length ≤ 16777216 := Nat.le_trans (szL_len szMd _) HSM.out
  have HC1 := hide (chosenTo_len a.modes s a.modes.length)
  have HC2 : Hid (∀ j, j < (chosenTo a.modes s a.modes.length).length → szMd ((chosenTo a.modes s a.modes.length).getD j md0) ≤ 16777216) := fun j hj => by
    have := chosenTo_sz (Nat.le_refl a.modes.length) j hj
    have := HSM.out
    omega
  clear hs0
  go_enter Tryz.func26, Tryz.ntmps26
  go_wp2_with fail
  refine at_world fun W0 hW => ?_
  have z0 : W0.heap.size = w.heap.size + 2 := by rw [hW]; simp
  have hB0 : Below w.heap.size w W0 := by rw [hW]; exact ((Below.refl _ _).alloc (Nat.le_refl _) _).alloc (by simp) _
  have c0 : W0.cell? ⟨w.heap.size + 1, 0, none⟩ = some (.int .i64 i) := by
    rw [hW]; simp
  clear hW
  refine (chosen_any a s M B cm cb lo hi lo' hi' W0 hm hs (fM.below hB0 hhi) (fS.below hB0 hhi') (by omega) (by omega)).mono ?_
  rintro e W1 ⟨A', c', rfl, fD, hB1⟩
  have z1 := hB1.size
  have hB := hB0.trans (hB1.mono (by omega))
  have c1 : W1.cell? ⟨w.heap.size + 1, 0, none⟩ = some (.int .i64 i) := (hB1.cell (p := ⟨w.heap.size + 1, 0, none⟩) (by show w.heap.size + 1 < _; omega)).trans c0
  clear fM fS hB0 hB1 c0
  generalize hDD : chosenTo a.modes s a.modes.length = D at fD HC1 HC2
  have HDD := hide hDD; clear hDD
  have hD : D.length ≤ 16777216 := by have := HC1.out; omega
  have HC := hide c1
  go_wp2_with fail
  refine (leastOf_any 89 #[.pointer (some ⟨w.heap.size + 1, 0, none⟩)] (useO i) A' D c' 0 W1.heap.size W1 hD HC2.out fD (Nat.le_refl _) (run_enter Tryz.func89 (by kernel_rfl) rfl) (fun W m U C cu cc lo' hi' hW h1 h2 h3 h4 => useClosure i (w.heap.size + 1) W m U C cu cc lo' hi' ((hW.cell (p := ⟨w.heap.size + 1, 0, none⟩) (by show w.heap.size + 1 < _; omega)).trans HC.out) h1 h2 h3 h4)).mono ?_
  rintro e W2 ⟨rfl, hB2⟩
  have hB := hB.trans (hB2.mono (by omega))
  clear hB2
  go_wp2
  go_ret
  exact ⟨ret_int (by rw [HDD.out]), hB⟩
set_option maxHeartbeats 1600000 in
theorem implMinConsumption_any (a : Ac) (s : List Int) (i : Int) (M B : Option Addr) (cm cb lo hi lo' hi' : Nat) (w : World) (hs0 : szAc a ≤ 16777216) (hs : s.length ≤ 16777216) (fM : RdMs w lo hi M a.modes) (fS : RdI w lo' hi' B s) (hhi : hi ≤ w.heap.size) (hhi' : hi' ≤ w.heap.size) :
    Calls Tryz.prog 28 #[.agg #[.string a.name, .int .i64 a.fam, .slice M a.modes.length cm], .slice B s.length cb, .int .i64 i] w fun e w' => e = .returned (.int .i64 (leastM (conO i) (chosenTo a.modes s a.modes.length))) ∧ Below w.heap.size w w' := by
  have hmf : ∀ (fn : Fn) (first cap : Array Value) (w : World), (Instr.makeFunc fn first cap).run Tryz.prog w = .ok (.func fn first cap) w := fun _ _ _ _ => rfl
  have HSM := hide (show szL szMd a.modes ≤ 16777216 from by unfold szAc at hs0; omega)
  have hm : a.modes.length ≤ 16777216 := Nat.le_trans (szL_len szMd _) HSM.out
  have HC1 := hide (chosenTo_len a.modes s a.modes.length)
  have HC2 : Hid (∀ j, j < (chosenTo a.modes s a.modes.length).length → szMd ((chosenTo a.modes s a.modes.length).getD j md0) ≤ 16777216) := fun j hj => by
    have := chosenTo_sz (Nat.le_refl a.modes.length) j hj
    have := HSM.out
    omega
  clear hs0
  go_enter Tryz.func28, Tryz.ntmps28
  go_wp2_with fail
  refine at_world fun W0 hW => ?_
  have z0 : W0.heap.size = w.heap.size + 2 := by rw [hW]; simp
  have hB0 : Below w.heap.size w W0 := by rw [hW]; exact ((Below.refl _ _).alloc (Nat.le_refl _) _).alloc (by simp) _
  have c0 : W0.cell? ⟨w.heap.size + 1, 0, none⟩ = some (.int .i64 i) := by
    rw [hW]; simp
  clear hW
  refine (chosen_any a s M B cm cb lo hi lo' hi' W0 hm hs (fM.below hB0 hhi) (fS.below hB0 hhi') (by omega) (by omega)).mono ?_
  rintro e W1 ⟨A', c', rfl, fD, hB1⟩
  have z1 := hB1.size
  have hB := hB0.trans (hB1.mono (by omega))
  have c1 : W1.cell? ⟨w.heap.size + 1, 0, none⟩ = some (.int .i64 i) := (hB1.cell (p := ⟨w.heap.size + 1, 0, none⟩) (by show w.heap.size + 1 < _; omega)).trans c0
  clear fM fS hB0 hB1 c0
  generalize hDD : chosenTo a.modes s a.modes.length = D at fD HC1 HC2
  have HDD := hide hDD; clear hDD
  have hD : D.length ≤ 16777216 := by have := HC1.out; omega
  have HC := hide c1
  go_wp2_with fail
  refine (leastOf_any 92 #[.pointer (some ⟨w.heap.size + 1, 0, none⟩)] (conO i) A' D c' 0 W1.heap.size W1 hD HC2.out fD (Nat.le_refl _) (run_enter Tryz.func92 (by kernel_rfl) rfl) (fun W m U C cu cc lo' hi' hW h1 h2 h3 h4 => conClosure i (w.heap.size + 1) W m U C cu cc lo' hi' ((hW.cell (p := ⟨w.heap.size + 1, 0, none⟩) (by show w.heap.size + 1 < _; omega)).trans HC.out) h1 h2 h3 h4)).mono ?_
  rintro e W2 ⟨rfl, hB2⟩
  have hB := hB.trans (hB2.mono (by omega))
  clear hB2
  go_wp2
  go_ret
  exact ⟨ret_int (by rw [HDD.out]), hB⟩
set_option maxHeartbeats 1600000 in
theorem implMinWork_any (a : Ac) (s : List Int) (i : Int) (M B : Option Addr) (cm cb lo hi lo' hi' : Nat) (w : World) (hs0 : szAc a ≤ 16777216) (hs : s.length ≤ 16777216) (fM : RdMs w lo hi M a.modes) (fS : RdI w lo' hi' B s) (hhi : hi ≤ w.heap.size) (hhi' : hi' ≤ w.heap.size) :
    Calls Tryz.prog 27 #[.agg #[.string a.name, .int .i64 a.fam, .slice M a.modes.length cm], .slice B s.length cb, .int .i64 i] w fun e w' => e = .returned (.int .i64 (leastM (workO i) (chosenTo a.modes s a.modes.length))) ∧ Below w.heap.size w w' := by
  have hmf : ∀ (fn : Fn) (first cap : Array Value) (w : World), (Instr.makeFunc fn first cap).run Tryz.prog w = .ok (.func fn first cap) w := fun _ _ _ _ => rfl
  have HSM := hide (show szL szMd a.modes ≤ 16777216 from by unfold szAc at hs0; omega)
  have hm : a.modes.length ≤ 16777216 := Nat.le_trans (szL_len szMd _) HSM.out
  have HC1 := hide (chosenTo_len a.modes s a.modes.length)
  have HC2 : Hid (∀ j, j < (chosenTo a.modes s a.modes.length).length → szMd ((chosenTo a.modes s a.modes.length).getD j md0) ≤ 16777216) := fun j hj => by
    have := chosenTo_sz (Nat.le_refl a.modes.length) j hj
    have := HSM.out
    omega
  clear hs0
  go_enter Tryz.func27, Tryz.ntmps27
  go_wp2_with fail
  refine at_world fun W0 hW => ?_
  have z0 : W0.heap.size = w.heap.size + 2 := by rw [hW]; simp
  have hB0 : Below w.heap.size w W0 := by rw [hW]; exact ((Below.refl _ _).alloc (Nat.le_refl _) _).alloc (by simp) _
  have c0 : W0.cell? ⟨w.heap.size + 1, 0, none⟩ = some (.int .i64 i) := by
    rw [hW]; simp
  clear hW
  refine (chosen_any a s M B cm cb lo hi lo' hi' W0 hm hs (fM.below hB0 hhi) (fS.below hB0 hhi') (by omega) (by omega)).mono ?_
  rintro e W1 ⟨A', c', rfl, fD, hB1⟩
  have z1 := hB1.size
  have hB := hB0.trans (hB1.mono (by omega))
  have c1 : W1.cell? ⟨w.heap.size + 1, 0, none⟩ = some (.int .i64 i) := (hB1.cell (p := ⟨w.heap.size + 1, 0, none⟩) (by show w.heap.size + 1 < _; omega)).trans c0
  clear fM fS hB0 hB1 c0
  generalize hDD : chosenTo a.modes s a.modes.length = D at fD HC1 HC2
  have HDD := hide hDD; clear hDD
  have hD : D.length ≤ 16777216 := by have := HC1.out; omega
  have HC := hide c1
  go_wp2_with fail
  refine (leastOf_any 91 #[.pointer (some ⟨w.heap.size + 1, 0, none⟩)] (workO i) A' D c' 0 W1.heap.size W1 hD HC2.out fD (Nat.le_refl _) (run_enter Tryz.func91 (by kernel_rfl) rfl) (fun W m U C cu cc lo' hi' hW h1 h2 h3 h4 => workClosure i (w.heap.size + 1) W m U C cu cc lo' hi' ((hW.cell (p := ⟨w.heap.size + 1, 0, none⟩) (by show w.heap.size + 1 < _; omega)).trans HC.out) h1 h2 h3 h4)).mono ?_
  rintro e W2 ⟨rfl, hB2⟩
  have hB := hB.trans (hB2.mono (by omega))
  clear hB2
  go_wp2
  go_ret
  exact ⟨ret_int (by rw [HDD.out]), hB⟩
end Go.Proofs.YtcecgbjolngdbaaGreatDoor
