/- Rows are put together; links are formatted. -/
import Derived.Test.YtcecgbjolngdbaaGreatDoorFmt2
import Derived.Test.YtcecgbjolngdbaaGreatDoorPlainPj
import Derived.Test.YtcecgbjolngdbaaGreatDoorKitMd
import Derived.Test.YtcecgbjolngdbaaGreatDoorPrj2
import Derived.Lib.AppendZerosOnto
namespace Go.Proofs.YtcecgbjolngdbaaGreatDoor
open Go.ChangeShapes Go.WideShapes Go.ChangeAt Go.RowKit
set_option linter.unusedVariables false
set_option linter.unusedSimpArgs false

set_option maxRecDepth 20000 in
set_option maxHeartbeats 1600000 in
theorem growNil_any (n : Nat) (w : World) (hn0 : 0 < n) (hn : n ≤ 65536) :
    Calls Tryz.prog 109 #[.slice none 0 0, .int .i64 n] w fun e w' => ∃ c, e = .returned (.slice (some ⟨w.heap.size, 0, none⟩) 0 c) ∧ OwnR w' w.heap.size w'.heap.size 3 1 (some ⟨w.heap.size, 0, none⟩) 0 c [] ∧ Below w.heap.size w w' := by
  obtain ⟨i0, hi0, hz0, hz1, hz2⟩ := info_parts Tryz.infoInt
  have hold : (Builtin.firstCells i0.size 0 (.slice none 0 0)).run Tryz.prog w.drew = .ok ([] : List Value).toArray w.drew := run_firstCells_none w.drew i0.size 0 0 0
  have hrz : ∀ ty, (Builtin.append_ #[25, 3] ty #[.slice none 0 0, .int .i64 (n : Int)]).run Tryz.prog w =
      .ok (.slice (some ⟨w.heap.size, 0, none⟩) n (grownCap w n 0 3)) (w.drew.alloc (.cells (([] : List Value).toArray ++ Builtin.zeroCells (Value.int .i64 0).cells n ++ Builtin.zeroCells (Value.int .i64 0).cells (grownCap w n 0 3 - n)) 3)) := fun ty => by
    have h := Lib.run_append_grow_zeros w 25 3 ty 3 i0 (.int .i64 0) .i64 .i64 Tryz.underlying25 Tryz.underlying3 hi0 hz0 none 0 0 [] hold n hn0 (by omega) (by omega) (by omega) (by rw [hz2]; omega) (by rw [hz2]; exact growslice_fits (by omega) (by omega))
    rw [Nat.zero_add] at h
    exact h
  have hGn : n ≤ grownCap w n 0 3 := grownCap_ge w _ _ _
  have hGm : grownCap w n 0 3 ≤ maxLen := grownCap_le_maxLen w n 0 3 (by unfold maxLen; omega)
  have hcs : (([] : List Value).toArray ++ Builtin.zeroCells (Value.int .i64 0).cells n ++ Builtin.zeroCells (Value.int .i64 0).cells (grownCap w n 0 3 - n)).size = grownCap w n 0 3 * 1 := by
    rw [Array.size_append, Array.size_append, size_zeroCells, size_zeroCells]
    show 0 + n * 1 + (grownCap w n 0 3 - n) * 1 = _
    omega
  have hO := OwnR.made w.drew w.heap.size 3 1 (([] : List Value).toArray ++ Builtin.zeroCells (Value.int .i64 0).cells n ++ Builtin.zeroCells (Value.int .i64 0).cells (grownCap w n 0 3 - n)) (grownCap w n 0 3) (Nat.le_refl _) hGm hcs
  have hO2 := hO.cut (m := 0) (Nat.zero_le _)
  rw [Nat.zero_mul, List.take_zero] at hO2
  have HB : Hid (∀ o, Below w.heap.size w (w.drew.alloc o)) := hide (fun o => (below_quiet (Below.refl w.heap.size w) 1).alloc (Nat.le_refl _) o)
  have HO := hide hO2
  have hG63 : grownCap w n 0 3 ≤ 9223372036854775807 := by unfold maxLen at hGm; omega
  generalize grownCap w n 0 3 = G at hrz hGn hG63 HO
  generalize ([] : List Value).toArray ++ Builtin.zeroCells (Value.int .i64 0).cells n ++ Builtin.zeroCells (Value.int .i64 0).cells (G - n) = cs at hrz HO
  clear hold hcs hO hO2 hGm
  have h1 : (0 : Int) < (n : Int) := by omega
  go_enter Tryz.func109, Tryz.ntmps109
  go_wp2_with (at_builtin; refine Lib.wpList_append_run _ rfl _ _ _ _ rfl _ _ rfl rfl _ _ (hrz _) ?_)
  all_goals go_ret
  all_goals rw [show (w.alloc (.cells cs 3)).drew = w.drew.alloc (.cells cs 3) from rfl]
  all_goals exact ⟨G, rfl, by simpa using HO.out, HB.out _⟩
theorem flat4 {l : List (List Int)} (h : ∀ r ∈ l, r.length = 4) (k : Nat) (hk : k ≤ l.length) : (l.take k).flatten.length = 4 * k := by
  induction k with
  | zero => simp
  | succ k ih =>
    rw [take_snoc [] (by omega), List.flatten_append, List.length_append, ih (by omega)]
    have := h _ (getD_mem (k := k) [] (by omega))
    rw [List.flatten_cons, List.flatten_nil, List.append_nil, this]; omega
theorem flatR_snoc {l : List (List Int)} {k : Nat} (hk : k < l.length) : (l.take (k + 1)).flatten = (l.take k).flatten ++ l.getD k [] := by
  rw [take_snoc [] hk, List.flatten_append]; simp
set_option maxRecDepth 20000 in
set_option maxHeartbeats 3200000 in
theorem concat_any (A : Option Addr) (l : List (List Int)) (c lo hi : Nat) (w : World) (hl0 : 0 < l.length) (hl : l.length ≤ 1000) (h4 : ∀ r ∈ l, r.length = 4) (ha : RdSS w lo hi A l) (hhi : hi ≤ w.heap.size) :
    Calls Tryz.prog 48 #[.slice A l.length c] w fun e w' => ∃ A' c', e = .returned (.slice A' l.flatten.length c') ∧ OwnR w' w.heap.size w'.heap.size 3 1 A' l.flatten.length c' (l.flatten.map (.int .i64)) ∧ Below w.heap.size w w' := by
  have H4 := hide h4; clear h4
  go_enter Tryz.func48, Tryz.ntmps48
  go_wp2
  go_loopw [3, 11] (fun v i wr => ∃ k : Nat, k ≤ l.length ∧ i = .int .i64 k ∧ v = .int .i64 ((4 * k : Nat) : Int) ∧ Qt w wr) (fun _ i _ => l.length - (intOf i).toNat)
  case atStart => exact ⟨0, Nat.zero_le _, rfl, rfl, Qt.refl _⟩
  case round =>
    obtain ⟨k, hk, rfl, rfl, ⟨d, rfl⟩⟩ := hrel
    by_cases hlt : k < l.length
    · obtain ⟨b, off, R, cr, rfl, h1, h2, g0, fR⟩ := ha.at hlt
      have hr := H4.out _ (getD_mem (k := k) [] hlt)
      clear ha fR
      generalize l.getD k [] = m at g0 hr
      rw [hr] at g0
      have hnn : ¬ ((4 * k : Nat) : Int) + 4 < 0 := by omega
      have hw0 : IntKind.i64.wrap (((4 * k : Nat) : Int) + 4) = ((4 * k : Nat) : Int) + 4 := IntWalk.i64_in _ (by omega)
      have hk4 : ((4 * k : Nat) : Int) ≤ 4000 := by omega
      have hk5 : (0 : Int) ≤ ((4 * k : Nat) : Int) := by omega
      obtain ⟨q, hq⟩ : ∃ q : Int, q = ((4 * k : Nat) : Int) := ⟨_, rfl⟩
      rw [← hq] at hnn hw0 hk4 hk5 ⊢
      go_wp2
      go_roundw
      case rel => exact ⟨k + 1, by omega, by go_num, val_int (by omega), ⟨_, rfl⟩⟩
      case measure => simp [intOf]; omega
    · obtain rfl : k = l.length := by omega
      have hB0 := below_quiet (Below.refl w.heap.size w) d
      have hG := growNil_any (4 * l.length) (w.drewN d) (by omega) (by omega)
      have HG := hide hG; clear hG
      go_wp2_with fail
      refine HG.out.mono ?_
      rintro e w1 ⟨cG, rfl, hO1, r⟩
      have hB1 := hB0.trans (r.mono (by simp))
      have z1 := r.size
      have hO1 : OwnR w1 w.heap.size w1.heap.size 3 1 (some ⟨(w.drewN d).heap.size, 0, none⟩) 0 cG [] := hO1
      clear r HG hB0
      go_wp2
      go_loopw [6, 27] (fun v i wr => ∃ (k : Nat) (A1 : Option Addr) (c1 : Nat), k ≤ l.length ∧ i = .int .i64 k ∧ v = .slice A1 (l.take k).flatten.length c1 ∧ OwnR wr w.heap.size wr.heap.size 3 1 A1 (l.take k).flatten.length c1 ((l.take k).flatten.map (.int .i64)) ∧ Below w.heap.size w wr) (fun _ i _ => l.length - (intOf i).toNat)
      case atStart => exact ⟨0, _, _, Nat.zero_le _, rfl, rfl, by simpa using hO1, hB1⟩
      case round =>
        obtain ⟨k, A1, c1, hk, rfl, rfl, hO, hB⟩ := hrel
        clear hO1 hB1
        have hsz := hB.size
        by_cases hlt : k < l.length
        · obtain ⟨b, off, R, cr, rfl, h1, h2, g0, fR⟩ := (ha.below hB hhi).at hlt
          have hr := H4.out _ (getD_mem (k := k) [] hlt)
          have HF := hide (flatR_snoc hlt)
          have HLN := hide (flat4 H4.out k hk)
          have hln : (l.take k).flatten.length ≤ 4000 := by have := HLN.out; omega
          clear ha
          generalize l.getD k [] = m at g0 hr fR HF
          generalize (l.take k).flatten = F at hO HF HLN hln ⊢
          obtain ⟨b', off', rfl, x1, x2, xc⟩ := fR (by omega)
          have hnews : ∀ j u, (m.map (Value.int .i64))[j]? = some u → wr.cell? ⟨b', off' + j, none⟩ = some u := fun j u hj => by
            rw [List.getElem?_map] at hj
            have hj2 : j < m.length := by
              apply Decidable.byContradiction
              intro h
              rw [List.getElem?_eq_none (by omega)] at hj
              cases hj
            rw [xc j hj2]
            rw [List.getElem?_eq_getElem hj2] at hj
            rw [getD_get 0 hj2]
            exact hj
          have HNW := hide hnews
          rw [hr] at g0
          clear xc fR hnews
          go_wp2_with (at_builtin; go_must (refine wpList_push _ (.tmp 31) (.tmp 32) 25 3 _ 1 8 Tryz.underlying25 Tryz.infoInt rfl (by omega) w.heap.size _ A1 F.length c1 _ hO b' off' 4 cr (m.map (.int .i64)) (by rw [List.length_map, hr]) HNW.out (fun u hu => by obtain ⟨z, _, rfl⟩ := List.mem_map.1 hu; rfl) (by omega) (by omega) hsz w.heap.size w hB (Nat.le_refl _) ?_ rfl rfl rfl rfl))
          intro A' c' w' hO' hB' hs' _
          have HE := hide (show (l.take (k + 1)).flatten.length = F.length + 4 from by rw [HF.out, List.length_append, hr])
          have hO2 : OwnR w' w.heap.size w'.heap.size 3 1 A' (l.take (k + 1)).flatten.length c' ((l.take (k + 1)).flatten.map (.int .i64)) := hO'.eqn HE.out.symm (by rw [HF.out, List.map_append])
          clear hO hB hO'
          go_wp2
          go_roundw
          case rel => exact ⟨k + 1, A', c', by omega, by go_num, by rw [HE.out], hO2, hB'⟩
          case measure => simp [intOf]; omega
        · obtain rfl : k = l.length := by omega
          rw [List.take_length] at hO ⊢
          go_wp2
          go_ret
          exact ⟨_, _, rfl, hO, hB⟩
theorem linkL_eq (p : Pj) (k : Lk) (s d : Nat) (hs : k.src = s) (hd : k.dst = d) : linkL p k = linkW k ++ space ++ (p.acts.getD s ac0).name ++ space ++ (p.acts.getD d ac0).name ++ space ++ fmtI k.lag := by
  unfold linkL nameAt; rw [hs, hd]; rfl
theorem sta_sp : (⟨#[115, 116, 97, 114, 116, 32]⟩ : ByteArray) = wSta ++ space := by decide
theorem end_sp : (⟨#[101, 110, 100, 32]⟩ : ByteArray) = wEnd ++ space := by decide
set_option maxRecDepth 20000 in
set_option maxHeartbeats 3200000 in
theorem l06Link_any (p : Pj) (k : Lk) (A L R S : Option Addr) (ca cl cr cs lo hi : Nat) (w : World) (hl : p.acts.length ≤ 65536) (fA : RdAs w lo hi A p.acts) (hs : 0 ≤ k.src ∧ k.src ≤ (p.acts.length : Int) - 1) (hd : 0 ≤ k.dst ∧ k.dst ≤ (p.acts.length : Int) - 1) (hn : ∀ a ∈ p.acts, a.name.size ≤ 8) (hhi : hi ≤ w.heap.size)  :
    Calls Tryz.prog 38 #[.agg #[.int .i64 p.dead, .slice A p.acts.length ca, .slice L p.links.length cl, .slice R p.res.length cr, .slice S p.stocks.length cs], .agg #[.int .i64 k.src, .int .i64 k.dst, .bool k.fe, .int .i64 k.lag]] w fun e w' => e = .returned (.string (linkL p k)) ∧ Below w.heap.size w w' := by
  have HC : Hid (∀ (x : Int) (W : World), Below w.heap.size w W → Calls Tryz.prog 34 #[.int .i64 x] W fun e w' => e = .returned (.string (fmtI x)) ∧ Below W.heap.size W w') := hide (fun x W _ => specFormatInt_any x W)
  obtain ⟨src, dst, fe, lag⟩ := k
  simp only at hs hd
  obtain ⟨s, rfl⟩ : ∃ s : Nat, src = s := ⟨src.toNat, by omega⟩
  obtain ⟨d, rfl⟩ : ∃ d : Nat, dst = d := ⟨dst.toNat, by omega⟩
  have hs1 : s < p.acts.length := by omega
  have hd1 : d < p.acts.length := by omega
  have HL := hide (linkL_eq p ⟨s, d, fe, lag⟩ s d rfl rfl)
  have hn1 := hn _ (getD_mem (k := s) ac0 hs1)
  have hn2 := hn _ (getD_mem (k := d) ac0 hd1)
  have hf1 := fmtI_size lag
  obtain ⟨b, off, M1, cm1, hA1, h1, h2, g0, _, _, _⟩ := fA.at hs1
  obtain ⟨b2, off2, M2, cm2, hA2, _, _, g1, _, _, _⟩ := fA.at hd1
  subst hA1
  injection hA2 with hA2; injection hA2 with hb ho; subst hb; subst ho
  obtain ⟨V, hV⟩ : ∃ V, V = (w.alloc (.cells #[.int .i64 p.dead, .slice (some ⟨b, off, none⟩) p.acts.length ca, .slice L p.links.length cl, .slice R p.res.length cr, .slice S p.stocks.length cs] 34)).alloc (.cells #[.int .i64 (s : Int), .int .i64 (d : Int), .bool fe, .int .i64 lag] 75) := ⟨_, rfl⟩
  have bV : Below w.heap.size w V := by rw [hV]; exact ((Below.refl _ _).alloc (Nat.le_refl _) _).alloc (by simp) _
  have k0 : Bk V w.heap.size 34 #[.int .i64 p.dead, .slice (some ⟨b, off, none⟩) p.acts.length ca, .slice L p.links.length cl, .slice R p.res.length cr, .slice S p.stocks.length cs] := by rw [hV]; exact (Bk.made w _ _).alloc _
  have k1 : Bk V (w.heap.size + 1) 75 #[.int .i64 (s : Int), .int .i64 (d : Int), .bool fe, .int .i64 lag] := by
    rw [hV]
    have := Bk.made (w.alloc (.cells #[.int .i64 p.dead, .slice (some ⟨b, off, none⟩) p.acts.length ca, .slice L p.links.length cl, .slice R p.res.length cr, .slice S p.stocks.length cs] 34)) 75 #[.int .i64 (s : Int), .int .i64 (d : Int), .bool fe, .int .i64 lag]
    simpa using this
  have zV : V.heap.size = w.heap.size + 2 := by rw [hV]; simp
  have p1 := k0.cell 1
  have e0 := k1.cell 0
  have e1 := k1.cell 1
  have e2 := k1.cell 2
  have e3 := k1.cell 3
  simp only [List.getElem?_toArray, List.getElem?_cons_succ, List.getElem?_cons_zero] at p1 e0 e1 e2 e3
  have q0 := (bV.cell (p := ⟨b, off + s * 3, none⟩) (by show b < _; omega)).trans g0
  have q1 := (bV.cell (p := ⟨b, off + d * 3, none⟩) (by show b < _; omega)).trans g1
  have hs2 : (0 : Int) ≤ (s : Int) := by omega
  have hs3 : (s : Int) < (p.acts.length : Int) := by omega
  have hd2 : (0 : Int) ≤ (d : Int) := by omega
  have hd3 : (d : Int) < (p.acts.length : Int) := by omega
  have HV := hide hV
  have HBV := hide bV
  generalize (p.acts.getD s ac0).name = n1 at q0 hn1 HL
  generalize (p.acts.getD d ac0).name = n2 at q1 hn2 HL
  clear fA hn g0 g1 hs hd hV bV k0 k1
  have hL : V.heap.size ≤ V.heap.size := Nat.le_refl _
  cases fe
  · have e2' : w.heap.size = w.heap.size := rfl
    have HE := hide (show (⟨#[115, 116, 97, 114, 116, 32]⟩ : ByteArray) ++ n1 ++ ⟨#[32]⟩ ++ n2 ++ ⟨#[32]⟩ ++ fmtI lag = linkL p ⟨s, d, false, lag⟩ from by rw [HL.out]; first | rfl | (rw [sta_sp]; rfl))
    have c1 : (9223372036854775807 < 6 + n1.size) = False := eq_false (by omega)
    have c2 : (9223372036854775807 < 6 + n1.size + 1) = False := eq_false (by omega)
    have c3 : (9223372036854775807 < 6 + n1.size + 1 + n2.size) = False := eq_false (by omega)
    have c4 : (9223372036854775807 < 6 + n1.size + 1 + n2.size + 1) = False := eq_false (by omega)
    have c5 : (9223372036854775807 < 6 + n1.size + 1 + n2.size + 1 + (fmtI lag).size) = False := eq_false (by omega)
    go_enter Tryz.func38, Tryz.ntmps38
    go_wp2_with fail
    rw [← HV.out]
    go_region_held3 (fun w' => (w'.cell? ⟨w.heap.size, 1, none⟩ = some (.slice (some ⟨b, off, none⟩) p.acts.length ca) ∧ w'.cell? ⟨w.heap.size + 1, 0, none⟩ = some (.int .i64 (s : Int)) ∧ w'.cell? ⟨w.heap.size + 1, 1, none⟩ = some (.int .i64 (d : Int)) ∧ w'.cell? ⟨w.heap.size + 1, 3, none⟩ = some (.int .i64 lag) ∧ w'.cell? ⟨b, off + s * 3, none⟩ = some (.string n1) ∧ w'.cell? ⟨b, off + d * 3, none⟩ = some (.string n2)) ∧ Only V.heap.size V.heap.size V w' ∧ V.heap.size ≤ w'.heap.size)
      (first | exact ⟨⟨p1, e0, e1, e3, q0, q1⟩, (Only.refl _ _ _).drew, hL⟩ | (go_split_ands; exact (fun hO => ⟨⟨only_cell hO p1, only_cell hO e0, only_cell hO e1, only_cell hO e3, only_cell hO q0, only_cell hO q1⟩, hO, hO.size⟩) (only_grow (by assumption) r_e)))
      (first | (go_at_call 34; (try go_split_ands); refine (HC.out _ _ (below_only HBV.out (by assumption) (by omega) (by omega))).mono ?_; rintro e w' ⟨rfl, r_e⟩))
    go_split_ands
    have hBB : Below w.heap.size w w' := below_only HBV.out (by assumption) (by omega) (by omega)
    go_wp2
    go_ret
    exact ⟨ret_str HE.out, hBB⟩
  · have HE := hide (show (⟨#[101, 110, 100, 32]⟩ : ByteArray) ++ n1 ++ ⟨#[32]⟩ ++ n2 ++ ⟨#[32]⟩ ++ fmtI lag = linkL p ⟨s, d, true, lag⟩ from by rw [HL.out]; first | rfl | (rw [end_sp]; rfl))
    have c1 : (9223372036854775807 < 4 + n1.size) = False := eq_false (by omega)
    have c2 : (9223372036854775807 < 4 + n1.size + 1) = False := eq_false (by omega)
    have c3 : (9223372036854775807 < 4 + n1.size + 1 + n2.size) = False := eq_false (by omega)
    have c4 : (9223372036854775807 < 4 + n1.size + 1 + n2.size + 1) = False := eq_false (by omega)
    have c5 : (9223372036854775807 < 4 + n1.size + 1 + n2.size + 1 + (fmtI lag).size) = False := eq_false (by omega)
    go_enter Tryz.func38, Tryz.ntmps38
    go_wp2_with fail
    rw [← HV.out]
    go_region_held3 (fun w' => (w'.cell? ⟨w.heap.size, 1, none⟩ = some (.slice (some ⟨b, off, none⟩) p.acts.length ca) ∧ w'.cell? ⟨w.heap.size + 1, 0, none⟩ = some (.int .i64 (s : Int)) ∧ w'.cell? ⟨w.heap.size + 1, 1, none⟩ = some (.int .i64 (d : Int)) ∧ w'.cell? ⟨w.heap.size + 1, 3, none⟩ = some (.int .i64 lag) ∧ w'.cell? ⟨b, off + s * 3, none⟩ = some (.string n1) ∧ w'.cell? ⟨b, off + d * 3, none⟩ = some (.string n2)) ∧ Only V.heap.size V.heap.size V w' ∧ V.heap.size ≤ w'.heap.size)
      (first | exact ⟨⟨p1, e0, e1, e3, q0, q1⟩, (Only.refl _ _ _).drew, hL⟩ | (go_split_ands; exact (fun hO => ⟨⟨only_cell hO p1, only_cell hO e0, only_cell hO e1, only_cell hO e3, only_cell hO q0, only_cell hO q1⟩, hO, hO.size⟩) (only_grow (by assumption) r_e)))
      (first | (go_at_call 34; (try go_split_ands); refine (HC.out _ _ (below_only HBV.out (by assumption) (by omega) (by omega))).mono ?_; rintro e w' ⟨rfl, r_e⟩))
    go_split_ands
    have hBB : Below w.heap.size w w' := below_only HBV.out (by assumption) (by omega) (by omega)
    go_wp2
    go_ret
    exact ⟨ret_str HE.out, hBB⟩
set_option maxRecDepth 20000 in
set_option maxHeartbeats 3200000 in
theorem linkText_any (p : Pj) (k : Lk) (A L R S : Option Addr) (ca cl cr cs lo hi : Nat) (w : World) (hl : p.acts.length ≤ 65536) (fA : RdAs w lo hi A p.acts) (hs : 0 ≤ k.src ∧ k.src ≤ (p.acts.length : Int) - 1) (hd : 0 ≤ k.dst ∧ k.dst ≤ (p.acts.length : Int) - 1) (hn : ∀ a ∈ p.acts, a.name.size ≤ 8) (hhi : hi ≤ w.heap.size) (hg : Nat) (ld : LdT w hg) (hhg : hg ≤ w.heap.size) :
    Calls Tryz.prog 49 #[.agg #[.int .i64 p.dead, .slice A p.acts.length ca, .slice L p.links.length cl, .slice R p.res.length cr, .slice S p.stocks.length cs], .agg #[.int .i64 k.src, .int .i64 k.dst, .bool k.fe, .int .i64 k.lag]] w fun e w' => e = .returned (.string (linkL p k)) ∧ Below w.heap.size w w' := by
  have HC : Hid (∀ (x : Int) (W : World), Below w.heap.size w W → Calls Tryz.prog 45 #[.int .i64 x] W fun e w' => e = .returned (.string (fmtI x)) ∧ Below W.heap.size W w') := hide (fun x W hb => implFormatInt_any x hg W (ld.below hb hhg))
  obtain ⟨src, dst, fe, lag⟩ := k
  simp only at hs hd
  obtain ⟨s, rfl⟩ : ∃ s : Nat, src = s := ⟨src.toNat, by omega⟩
  obtain ⟨d, rfl⟩ : ∃ d : Nat, dst = d := ⟨dst.toNat, by omega⟩
  have hs1 : s < p.acts.length := by omega
  have hd1 : d < p.acts.length := by omega
  have HL := hide (linkL_eq p ⟨s, d, fe, lag⟩ s d rfl rfl)
  have hn1 := hn _ (getD_mem (k := s) ac0 hs1)
  have hn2 := hn _ (getD_mem (k := d) ac0 hd1)
  have hf1 := fmtI_size lag
  obtain ⟨b, off, M1, cm1, hA1, h1, h2, g0, _, _, _⟩ := fA.at hs1
  obtain ⟨b2, off2, M2, cm2, hA2, _, _, g1, _, _, _⟩ := fA.at hd1
  subst hA1
  injection hA2 with hA2; injection hA2 with hb ho; subst hb; subst ho
  obtain ⟨V, hV⟩ : ∃ V, V = (w.alloc (.cells #[.int .i64 p.dead, .slice (some ⟨b, off, none⟩) p.acts.length ca, .slice L p.links.length cl, .slice R p.res.length cr, .slice S p.stocks.length cs] 34)).alloc (.cells #[.int .i64 (s : Int), .int .i64 (d : Int), .bool fe, .int .i64 lag] 75) := ⟨_, rfl⟩
  have bV : Below w.heap.size w V := by rw [hV]; exact ((Below.refl _ _).alloc (Nat.le_refl _) _).alloc (by simp) _
  have k0 : Bk V w.heap.size 34 #[.int .i64 p.dead, .slice (some ⟨b, off, none⟩) p.acts.length ca, .slice L p.links.length cl, .slice R p.res.length cr, .slice S p.stocks.length cs] := by rw [hV]; exact (Bk.made w _ _).alloc _
  have k1 : Bk V (w.heap.size + 1) 75 #[.int .i64 (s : Int), .int .i64 (d : Int), .bool fe, .int .i64 lag] := by
    rw [hV]
    have := Bk.made (w.alloc (.cells #[.int .i64 p.dead, .slice (some ⟨b, off, none⟩) p.acts.length ca, .slice L p.links.length cl, .slice R p.res.length cr, .slice S p.stocks.length cs] 34)) 75 #[.int .i64 (s : Int), .int .i64 (d : Int), .bool fe, .int .i64 lag]
    simpa using this
  have zV : V.heap.size = w.heap.size + 2 := by rw [hV]; simp
  have p1 := k0.cell 1
  have e0 := k1.cell 0
  have e1 := k1.cell 1
  have e2 := k1.cell 2
  have e3 := k1.cell 3
  simp only [List.getElem?_toArray, List.getElem?_cons_succ, List.getElem?_cons_zero] at p1 e0 e1 e2 e3
  have q0 := (bV.cell (p := ⟨b, off + s * 3, none⟩) (by show b < _; omega)).trans g0
  have q1 := (bV.cell (p := ⟨b, off + d * 3, none⟩) (by show b < _; omega)).trans g1
  have hs2 : (0 : Int) ≤ (s : Int) := by omega
  have hs3 : (s : Int) < (p.acts.length : Int) := by omega
  have hd2 : (0 : Int) ≤ (d : Int) := by omega
  have hd3 : (d : Int) < (p.acts.length : Int) := by omega
  have HV := hide hV
  have HBV := hide bV
  generalize (p.acts.getD s ac0).name = n1 at q0 hn1 HL
  generalize (p.acts.getD d ac0).name = n2 at q1 hn2 HL
  clear fA hn g0 g1 hs hd hV bV k0 k1
  have hL : V.heap.size ≤ V.heap.size := Nat.le_refl _
  cases fe
  · have e2' : w.heap.size = w.heap.size := rfl
    have HE := hide (show (⟨#[115, 116, 97, 114, 116]⟩ : ByteArray) ++ ⟨#[32]⟩ ++ n1 ++ ⟨#[32]⟩ ++ n2 ++ ⟨#[32]⟩ ++ fmtI lag = linkL p ⟨s, d, false, lag⟩ from by rw [HL.out]; first | rfl | (rw [sta_sp]; rfl))
    have c1 : (9223372036854775807 < 6 + n1.size) = False := eq_false (by omega)
    have c2 : (9223372036854775807 < 6 + n1.size + 1) = False := eq_false (by omega)
    have c3 : (9223372036854775807 < 6 + n1.size + 1 + n2.size) = False := eq_false (by omega)
    have c4 : (9223372036854775807 < 6 + n1.size + 1 + n2.size + 1) = False := eq_false (by omega)
    have c5 : (9223372036854775807 < 6 + n1.size + 1 + n2.size + 1 + (fmtI lag).size) = False := eq_false (by omega)
    go_enter Tryz.func49, Tryz.ntmps49
    go_wp2_with fail
    rw [← HV.out]
    go_region_held3 (fun w' => (w'.cell? ⟨w.heap.size, 1, none⟩ = some (.slice (some ⟨b, off, none⟩) p.acts.length ca) ∧ w'.cell? ⟨w.heap.size + 1, 0, none⟩ = some (.int .i64 (s : Int)) ∧ w'.cell? ⟨w.heap.size + 1, 1, none⟩ = some (.int .i64 (d : Int)) ∧ w'.cell? ⟨w.heap.size + 1, 3, none⟩ = some (.int .i64 lag) ∧ w'.cell? ⟨b, off + s * 3, none⟩ = some (.string n1) ∧ w'.cell? ⟨b, off + d * 3, none⟩ = some (.string n2)) ∧ Only V.heap.size V.heap.size V w' ∧ V.heap.size ≤ w'.heap.size)
      (first | exact ⟨⟨p1, e0, e1, e3, q0, q1⟩, (Only.refl _ _ _).drew, hL⟩ | (go_split_ands; exact (fun hO => ⟨⟨only_cell hO p1, only_cell hO e0, only_cell hO e1, only_cell hO e3, only_cell hO q0, only_cell hO q1⟩, hO, hO.size⟩) (only_grow (by assumption) r_e)))
      (first | (go_at_call 45; (try go_split_ands); refine (HC.out _ _ (below_only HBV.out (by assumption) (by omega) (by omega))).mono ?_; rintro e w' ⟨rfl, r_e⟩))
    go_split_ands
    have hBB : Below w.heap.size w w' := below_only HBV.out (by assumption) (by omega) (by omega)
    go_wp2
    go_ret
    exact ⟨ret_str HE.out, hBB⟩
  · have HE := hide (show (⟨#[101, 110, 100]⟩ : ByteArray) ++ ⟨#[32]⟩ ++ n1 ++ ⟨#[32]⟩ ++ n2 ++ ⟨#[32]⟩ ++ fmtI lag = linkL p ⟨s, d, true, lag⟩ from by rw [HL.out]; first | rfl | (rw [end_sp]; rfl))
    have c1 : (9223372036854775807 < 4 + n1.size) = False := eq_false (by omega)
    have c2 : (9223372036854775807 < 4 + n1.size + 1) = False := eq_false (by omega)
    have c3 : (9223372036854775807 < 4 + n1.size + 1 + n2.size) = False := eq_false (by omega)
    have c4 : (9223372036854775807 < 4 + n1.size + 1 + n2.size + 1) = False := eq_false (by omega)
    have c5 : (9223372036854775807 < 4 + n1.size + 1 + n2.size + 1 + (fmtI lag).size) = False := eq_false (by omega)
    go_enter Tryz.func49, Tryz.ntmps49
    go_wp2_with fail
    rw [← HV.out]
    go_region_held3 (fun w' => (w'.cell? ⟨w.heap.size, 1, none⟩ = some (.slice (some ⟨b, off, none⟩) p.acts.length ca) ∧ w'.cell? ⟨w.heap.size + 1, 0, none⟩ = some (.int .i64 (s : Int)) ∧ w'.cell? ⟨w.heap.size + 1, 1, none⟩ = some (.int .i64 (d : Int)) ∧ w'.cell? ⟨w.heap.size + 1, 3, none⟩ = some (.int .i64 lag) ∧ w'.cell? ⟨b, off + s * 3, none⟩ = some (.string n1) ∧ w'.cell? ⟨b, off + d * 3, none⟩ = some (.string n2)) ∧ Only V.heap.size V.heap.size V w' ∧ V.heap.size ≤ w'.heap.size)
      (first | exact ⟨⟨p1, e0, e1, e3, q0, q1⟩, (Only.refl _ _ _).drew, hL⟩ | (go_split_ands; exact (fun hO => ⟨⟨only_cell hO p1, only_cell hO e0, only_cell hO e1, only_cell hO e3, only_cell hO q0, only_cell hO q1⟩, hO, hO.size⟩) (only_grow (by assumption) r_e)))
      (first | (go_at_call 45; (try go_split_ands); refine (HC.out _ _ (below_only HBV.out (by assumption) (by omega) (by omega))).mono ?_; rintro e w' ⟨rfl, r_e⟩))
    go_split_ands
    have hBB : Below w.heap.size w w' := below_only HBV.out (by assumption) (by omega) (by omega)
    go_wp2
    go_ret
    exact ⟨ret_str HE.out, hBB⟩
end Go.Proofs.YtcecgbjolngdbaaGreatDoor
