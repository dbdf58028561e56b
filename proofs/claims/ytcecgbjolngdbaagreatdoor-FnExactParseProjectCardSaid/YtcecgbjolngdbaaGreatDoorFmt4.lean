/- Steps are parsed. -/
import Derived.Test.YtcecgbjolngdbaaGreatDoorFmt3
namespace Go.Proofs.YtcecgbjolngdbaaGreatDoor
open Go.ChangeShapes Go.WideShapes Go.ChangeAt Go.RowKit
set_option linter.unusedVariables false
set_option linter.unusedSimpArgs false

theorem cut_size (w : ByteArray) : (cutA w).size ≤ w.size ∧ (cutB w).size ≤ w.size := by
  have e : w.data.toList.length = w.size := by simp
  have h1 : ∀ l : List UInt8, (⟨l.toArray⟩ : ByteArray).size = l.length := fun l => by simp [ByteArray.size]
  have h2 : (Lib.cut w.data.toList colon.data.toList).1.length ≤ w.data.toList.length ∧ (Lib.cut w.data.toList colon.data.toList).2.1.length ≤ w.data.toList.length := by
    unfold Lib.cut
    split
    · exact ⟨List.length_take_le' _ _, by rw [List.length_drop]; omega⟩
    · exact ⟨Nat.le_refl _, Nat.zero_le _⟩
  rw [e] at h2
  exact ⟨by unfold cutA; rw [h1]; exact h2.1, by unfold cutB; rw [h1]; exact h2.2⟩
theorem parSt_no1 {s : ByteArray} (h : ¬ (splitAny s comma).all okSt = true) : parSt s = ([], false) := by
  unfold parSt
  rw [if_neg (fun hh => h (by rw [Bool.and_eq_true] at hh; exact hh.1))]
theorem parSt_end {s : ByteArray} (h : (splitAny s comma).all okSt = true) : parSt s = if stOkB ((splitAny s comma).map valSt) = true then ((splitAny s comma).map valSt, true) else ([], false) := by
  unfold parSt
  rw [h, Bool.true_and]
theorem parSt_no2 {s : ByteArray} (h : ¬ (splitAny s comma).all okSt2 = true) : parSt s = ([], false) := by
  rw [parSt_spec, if_neg (fun hh => h (by rw [Bool.and_eq_true] at hh; exact hh.1))]
theorem parSt_end2 {s : ByteArray} (h : (splitAny s comma).all okSt2 = true) : parSt s = if fmtSt ((splitAny s comma).map valSt2) = s then ((splitAny s comma).map valSt2, true) else ([], false) := by
  rw [parSt_spec, h, Bool.true_and]
  simp only [decide_eq_true_eq]
theorem flat_snoc (l : List (Int × Int)) (a b : Int) : flatSt (l ++ [(a, b)]) = flatSt l ++ [.int .i64 a, .int .i64 b] := by rw [flatSt_app]; rfl
theorem strCut_any (x : ByteArray) (W : World) (hs : x.size ≤ 16777216) (hm : ∃ m, W.cell? ⟨0, 0, none⟩ = some (.int .i64 m)) :
    Calls Tryz.prog 181 #[.string x, .string ⟨#[58]⟩] W fun e w' => e = .returned (.tuple #[.string (cutA x), .string (cutB x), .bool (cutOk x)]) ∧ Below W.heap.size W w' := by
  obtain ⟨m, hm⟩ := hm
  refine (Tryz.strings_Cut x ⟨#[58]⟩ m W (by omega) hm).mono ?_
  rintro e w' ⟨rfl, n, rfl⟩
  exact ⟨rfl, below_quiet (Below.refl _ _) _⟩
theorem LdC.max {w : World} {hi : Nat} (h : LdC w hi) : ∃ m, w.cell? ⟨0, 0, none⟩ = some (.int .i64 m) := h.2.1
set_option maxRecDepth 20000 in
set_option maxHeartbeats 3200000 in
theorem implParseSteps_any (s : ByteArray) (w : World) (hs : s.size ≤ 1048576) (hg : Nat) (ld : LdC w hg) (hhg : hg ≤ w.heap.size) :
    Calls Tryz.prog 162 #[.string s] w fun e w' => ∃ A c, e = .returned (.tuple #[.slice A (parSt s).1.length c, .bool (parSt s).2]) ∧ OwnR w' w.heap.size w'.heap.size 128 2 A (parSt s).1.length c (flatSt (parSt s).1) ∧ Below w.heap.size w w' := by
  have HC : Hid (∀ (x : ByteArray) (W : World), x.size ≤ 16777216 → Below w.heap.size w W → Calls Tryz.prog 84 #[.string x] W fun e w' => e = .returned (.tuple #[.int .i64 (valI x), .bool (okI x)]) ∧ Below W.heap.size W w') := hide (fun x W h1 hb => implParseInt_any x hg W h1 (ld.e.below hb hhg) (Nat.le_trans hhg hb.size))
  have HCut : Hid (∀ (x : ByteArray) (W : World), x.size ≤ 16777216 → Below w.heap.size w W → Calls Tryz.prog 181 #[.string x, .string ⟨#[58]⟩] W fun e w' => e = .returned (.tuple #[.string (cutA x), .string (cutB x), .bool (cutOk x)]) ∧ Below W.heap.size W w') := hide (fun x W h1 hb => strCut_any x W h1 (ld.below hb hhg).max)
  go_enter Tryz.func162, Tryz.ntmps162
  go_wp2_with fail
  refine at_world fun V0 hW => ?_
  have z0 : V0.heap.size = w.heap.size + 1 := by rw [hW]; simp
  have hR0 : RowB V0 128 2 (some ⟨w.heap.size, 0, none⟩) 0 0 [] [w.heap.size] := by rw [hW]; exact RowB.made w 128 2 #[] 0 (by unfold maxLen; omega) rfl
  have B0 : Below w.heap.size w V0 := by rw [hW]; exact (Below.refl _ _).alloc (Nat.le_refl _) _
  clear hW
  refine (implSplitAny_any s ⟨#[44]⟩ V0 (by omega) (by decide)).mono ?_
  rintro e V1 ⟨A, c, rfl, oL, r⟩
  have z1 := r.size
  have hR0 := hR0.below r (fun b hb => by simp at hb; omega)
  have B0 := B0.trans (r.mono (by omega)); clear r
  have HL := hide (show splitAny s ⟨#[44]⟩ = splitAny s comma from rfl)
  have hLn := splitAny_len s ⟨#[44]⟩
  have HSZ := hide (splitAny_size s ⟨#[44]⟩)
  have hRd := oL.rdS; clear oL
  generalize splitAny s ⟨#[44]⟩ = L at HL hLn HSZ hRd ⊢
  have HR0 := hide hR0; clear hR0
  have HB0 := hide B0
  have hRd0 := hide hRd; clear hRd
  go_wp2
  go_loopw [4, 18] (fun v i wr => ∃ (k : Nat) (A1 : Option Addr) (c1 : Nat) (bs : List Nat), k ≤ L.length ∧ i = .int .i64 k ∧ v = .slice A1 k c1 ∧ RowB wr 128 2 A1 k c1 (flatSt ((L.take k).map valSt)) bs ∧ Hid ((∀ b ∈ bs, w.heap.size ≤ b) ∧ Off bs V0.heap.size V1.heap.size) ∧ Hid ((L.take k).all okSt = true) ∧ Below w.heap.size w wr ∧ V1.heap.size ≤ wr.heap.size ∧ Hid (RdS wr V0.heap.size V1.heap.size A L)) (fun _ i _ => L.length - (intOf i).toNat)
  case atStart => exact ⟨0, _, _, _, Nat.zero_le _, rfl, rfl, by simpa [flatSt] using HR0.out, hide ⟨by simp, Off.one (.inl (by omega))⟩, hide (by simp), HB0.out, Nat.le_refl _, hRd0⟩
  case round =>
    obtain ⟨k, A1, c1, bs, hk, rfl, rfl, hR, HN, HA, hB, hz, HRd⟩ := hrel
    clear HR0 HB0 hRd0 B0
    have hsz := hB.size
    by_cases hlt : k < L.length
    · obtain ⟨b, off, rfl, g1, g2, hc⟩ := HRd.out (by omega)
      have q1 := hc k hlt
      have hxs := HSZ.out _ (getD_mem ByteArray.empty hlt)
      clear hc
      have HT := hide (take_snoc ByteArray.empty hlt)
      have HY := hide (fun h => all_take_succ (p := okSt) ByteArray.empty hlt HA.out h)
      have HNo := hide (all_no (p := okSt) ByteArray.empty hlt)
      generalize L.getD k ByteArray.empty = x at q1 hxs HT HY HNo
      have hcs := cut_size x
      have HF := hide (fun h => parSt_no1 (s := s) (by rw [← HL.out]; exact HNo.out h))
      have HOK : Hid (okSt x = (cutOk x && (okI (cutA x) && okI (cutB x)))) := hide rfl
      have HVAL : Hid (valSt x = (valI (cutA x), valI (cutB x))) := hide rfl
      go_wp2_with fail
      refine (HCut.out x wr (by omega) hB).mono ?_
      rintro e w0 ⟨rfl, hB1⟩
      have hR := hR.below hB1 (fun b hb => hR.lt b hb)
      have HRd := hide (HRd.out.below hB1 hz)
      have hz := Nat.le_trans hz hB1.size
      have hB := hB.trans (hB1.mono hsz)
      have hsz := hB.size
      clear hB1 q1
      go_wp2_with fail
      refine (HC.out (cutA x) w0 (by omega) hB).mono ?_
      rintro e w1 ⟨rfl, hB1⟩
      have hR := hR.below hB1 (fun b hb => hR.lt b hb)
      have HRd := hide (HRd.out.below hB1 hz)
      have hz := Nat.le_trans hz hB1.size
      have hB := hB.trans (hB1.mono hsz)
      have hsz := hB.size
      clear hB1
      go_wp2_with fail
      refine (HC.out (cutB x) w1 (by omega) hB).mono ?_
      rintro e w2 ⟨rfl, hB1⟩
      have hR := hR.below hB1 (fun b hb => hR.lt b hb)
      have HRd := hide (HRd.out.below hB1 hz)
      have hz := Nat.le_trans hz hB1.size
      have hB := hB.trans (hB1.mono hsz)
      have hsz := hB.size
      clear hB1 hcs
      cases h1 : cutOk x
      · have HF := hide (HF.out (by rw [HOK.out, h1]; rfl))
        clear h1
        go_wp2
        go_ret2
        exact ⟨_, _, by rw [HF.out]; rfl, by rw [HF.out]; exact OwnR.empty _ _ _ _ _, hB⟩
      cases h2 : okI (cutA x)
      · have HF := hide (HF.out (by rw [HOK.out, h1, h2]; rfl))
        clear h1 h2
        go_wp2
        go_ret2
        exact ⟨_, _, by rw [HF.out]; rfl, by rw [HF.out]; exact OwnR.empty _ _ _ _ _, hB⟩
      cases h3 : okI (cutB x)
      · have HF := hide (HF.out (by rw [HOK.out, h1, h2, h3]; rfl))
        clear h1 h2 h3
        go_wp2
        go_ret2
        exact ⟨_, _, by rw [HF.out]; rfl, by rw [HF.out]; exact OwnR.empty _ _ _ _ _, hB⟩
      have HK := hide (HY.out (by rw [HOK.out, h1, h2, h3]; rfl))
      clear h1 h2 h3
      have HL2 := hide (fun b (hb : b ∈ bs) => hR.lt b hb)
      have HB2 := hide hB; clear hB
      generalize valI (cutA x) = va at HVAL ⊢
      generalize valI (cutB x) = vb at HVAL ⊢
      go_wp2_with (at_builtin; go_must (refine wpList_pushB _ (.tmp 48) (.tmp 52) 68 128 _ 2 16 Tryz.underlying68 Tryz.infoSt rfl (by omega) A1 k c1 _ bs (hR.allocd HL2.out _) w2.heap.size 0 1 1 [.int .i64 va, .int .i64 vb] (by omega) rfl (two_new _ _ _ _) (two_cell rfl rfl) (by omega) (by omega) ?_ rfl rfl rfl rfl))
      intro A' c' bs' w' hR' hbs' hN'
      clear hR
      have hzz := hN'.size
      have hz2 : V1.heap.size ≤ (w2.alloc (.cells #[.int .i64 va, .int .i64 vb] 128)).heap.size := by simp; omega
      go_wp2
      go_roundw
      case rel =>
        refine ⟨k + 1, A', c', bs', by omega, by go_num, rfl, hR'.eqn rfl (by rw [HT.out, List.map_append, List.map_cons, List.map_nil, HVAL.out, flat_snoc]; first | rfl | rw [List.map_take]), hide ⟨grown_lo HN.out.1 hbs' (by omega), HN.out.2.grown hbs' (by omega)⟩, HK, OnlyIn.belowB (HB2.out.alloc (by omega) _) hN' HN.out.1 (by simp; omega), by omega, hide ?_⟩
        refine RdS.keep ?_ (hN'.at_off HN.out.2 hz2)
        exact HRd.out.keep (fun q _ hq => Below.heap_alloc _ _ _ (by omega))
      case measure => simp [intOf]; omega
    · obtain rfl : k = L.length := by omega
      have hall : L.all okSt = true := by have := HA.out; rwa [List.take_length] at this
      have HF := hide (show parSt s = if stOkB (L.map valSt) = true then (L.map valSt, true) else ([], false) from by rw [HL.out]; exact parSt_end (by rw [← HL.out]; exact hall))
      have HO := hide (show OwnR wr w.heap.size wr.heap.size 128 2 A1 (L.map valSt).length c1 (flatSt (L.map valSt)) from (hR.own (lo := w.heap.size) (hi := wr.heap.size) (fun b hb => ⟨HN.out.1 b hb, hR.lt b hb⟩)).eqn (by simp) (by rw [List.take_length]))
      have hSO := implStepsOk_any A1 (L.map valSt) c1 w.heap.size wr.heap.size wr (by rw [List.length_map]; omega) HO.out.rdSt (Nat.le_refl _)
      rw [List.length_map] at hSO
      have HSO := hide hSO; clear hSO hR hall
      go_wp2_with fail
      refine HSO.out.mono ?_
      rintro e w3 ⟨rfl, hB3⟩
      have HO := hide ((HO.out.below hB3 (Nat.le_refl _)).mono (Nat.le_refl _) hB3.size)
      have hB4 := hB.trans (hB3.mono hsz)
      clear hB3 HSO
      cases hst : stOkB (L.map valSt)
      · have HF := hide (show parSt s = ([], false) from by rw [HF.out, hst]; rfl)
        clear hst
        go_wp2
        go_ret2
        exact ⟨_, _, by rw [HF.out]; rfl, by rw [HF.out]; exact OwnR.empty _ _ _ _ _, hB4⟩
      · have HF := hide (show parSt s = (L.map valSt, true) from by rw [HF.out, hst]; rfl)
        clear hst
        go_wp2
        go_ret2
        exact ⟨A1, c1, by rw [HF.out]; simp, by rw [HF.out]; exact HO.out, hB4⟩
set_option maxRecDepth 20000 in
set_option maxHeartbeats 3200000 in
theorem specParseSteps_any (s : ByteArray) (w : World) (hs : s.size ≤ 1048576) :
    Calls Tryz.prog 116 #[.string s] w fun e w' => ∃ A c, e = .returned (.tuple #[.slice A (parSt s).1.length c, .bool (parSt s).2]) ∧ OwnR w' w.heap.size w'.heap.size 128 2 A (parSt s).1.length c (flatSt (parSt s).1) ∧ Below w.heap.size w w' := by
  have HC : Hid (∀ (x : ByteArray) (W : World), x.size ≤ 16777216 → Calls Tryz.prog 57 #[.string x] W fun e w' => e = .returned (.tuple #[.int .i64 (valI x), .bool (okI x)]) ∧ Below W.heap.size W w') := hide (fun x W h1 => specParseInt_any x W h1)
  go_enter Tryz.func116, Tryz.ntmps116
  go_wp2_with fail
  refine at_world fun V0 hW => ?_
  have z0 : V0.heap.size = w.heap.size + 1 := by rw [hW]; simp
  have hR0 : RowB V0 128 2 (some ⟨w.heap.size, 0, none⟩) 0 0 [] [w.heap.size] := by rw [hW]; exact RowB.made w 128 2 #[] 0 (by unfold maxLen; omega) rfl
  have B0 : Below w.heap.size w V0 := by rw [hW]; exact (Below.refl _ _).alloc (Nat.le_refl _) _
  clear hW
  refine (specSplitAny_any s ⟨#[44]⟩ V0 (by omega) (by decide)).mono ?_
  rintro e V1 ⟨A, c, rfl, oL, r⟩
  have z1 := r.size
  have hR0 := hR0.below r (fun b hb => by simp at hb; omega)
  have B0 := B0.trans (r.mono (by omega)); clear r
  have HL := hide (show splitAny s ⟨#[44]⟩ = splitAny s comma from rfl)
  have hLn := splitAny_len s ⟨#[44]⟩
  have HSZ := hide (splitAny_size s ⟨#[44]⟩)
  have hRd := oL.rdS; clear oL
  generalize splitAny s ⟨#[44]⟩ = L at HL hLn HSZ hRd ⊢
  have HR0 := hide hR0; clear hR0
  have HB0 := hide B0
  have hRd0 := hide hRd; clear hRd
  go_wp2
  go_loopw [4, 16] (fun v i wr => ∃ (k : Nat) (A1 : Option Addr) (c1 : Nat) (bs : List Nat), k ≤ L.length ∧ i = .int .i64 k ∧ v = .slice A1 k c1 ∧ RowB wr 128 2 A1 k c1 (flatSt ((L.take k).map valSt2)) bs ∧ Hid ((∀ b ∈ bs, w.heap.size ≤ b) ∧ Off bs V0.heap.size V1.heap.size) ∧ Hid ((L.take k).all okSt2 = true) ∧ Below w.heap.size w wr ∧ V1.heap.size ≤ wr.heap.size ∧ Hid (RdS wr V0.heap.size V1.heap.size A L)) (fun _ i _ => L.length - (intOf i).toNat)
  case atStart => exact ⟨0, _, _, _, Nat.zero_le _, rfl, rfl, by simpa [flatSt] using HR0.out, hide ⟨by simp, Off.one (.inl (by omega))⟩, hide (by simp), HB0.out, Nat.le_refl _, hRd0⟩
  case round =>
    obtain ⟨k, A1, c1, bs, hk, rfl, rfl, hR, HN, HA, hB, hz, HRd⟩ := hrel
    clear HR0 HB0 hRd0 B0
    have hsz := hB.size
    have hRl := hide (fun b (hb : b ∈ bs) => hR.lt b hb)
    by_cases hlt : k < L.length
    · obtain ⟨b, off, rfl, g1, g2, hc⟩ := HRd.out (by omega)
      have q1 := hc k hlt
      have hxs := HSZ.out _ (getD_mem ByteArray.empty hlt)
      clear hc
      have HT := hide (take_snoc ByteArray.empty hlt)
      have HY := hide (fun h => all_take_succ (p := okSt2) ByteArray.empty hlt HA.out h)
      have HNo := hide (all_no (p := okSt2) ByteArray.empty hlt)
      generalize L.getD k ByteArray.empty = x at q1 hxs HT HY HNo
      have HF := hide (fun h => parSt_no2 (s := s) (by rw [← HL.out]; exact HNo.out h))
      obtain ⟨Q, hQ⟩ : ∃ Q, Q = splitAny x colon ++ [ByteArray.empty] := ⟨_, rfl⟩
      have HOK : Hid (okSt2 x = (okI (Q.getD 0 ByteArray.empty) && okI (Q.getD 1 ByteArray.empty))) := hide (by unfold okSt2; rw [hQ])
      have HVAL : Hid (valSt2 x = (valI (Q.getD 0 ByteArray.empty), valI (Q.getD 1 ByteArray.empty))) := hide (by unfold valSt2; rw [hQ])
      have hQl : Q.length = (splitAny x colon).length + 1 := by rw [hQ]; simp
      have hpl := splitAny_pos x colon
      have hpl2 := splitAny_len x colon
      have hqs : ∀ y ∈ Q, y.size ≤ s.size := by
        intro y hy
        rw [hQ] at hy
        rcases List.mem_append.1 hy with h | h
        · exact Nat.le_trans (splitAny_size x colon y h) hxs
        · simp at h; subst h; exact Nat.zero_le _
      have HQ := hide hQ; clear hQ
      have HQS := hide hqs; clear hqs
      go_wp2_with fail
      refine (specSplitAny_any x ⟨#[58]⟩ wr (by omega) (by decide)).mono ?_
      rintro e w0 ⟨P, cp, rfl, oP, hB1⟩
      have hP0 : RowB w0 9 1 P (splitAny x colon).length cp ((splitAny x colon).map .string) _ := (RowB.of oP).choose_spec.1
      have hPn := (RowB.of oP).choose_spec.2
      generalize (RowB.of oP).choose = bp at hP0 hPn
      clear oP
      have hR := hR.below hB1 (fun b hb => hR.lt b hb)
      have HRd := hide (HRd.out.below hB1 hz)
      have hsw := hB1.size
      have hz := Nat.le_trans hz hB1.size
      have hB := hB.trans (hB1.mono hsz)
      have hsz := hB.size
      have HLw := hide (fun b (hb : b ∈ bs) => hRl.out b hb)
      clear hB1 q1
      have HPn := hide hPn.2; clear hPn
      have HLP := hide (fun b (hb : b ∈ bp) => hP0.lt b hb)
      have HR := hide hR; clear hR
      have HBB := hide hB; clear hB
      go_wp2_with (at_builtin; go_must (refine wpList_pushB _ (.tmp 21) (.tmp 22) 67 9 _ 1 16 Tryz.underlying67 Tryz.infoStr rfl (by omega) P (splitAny x colon).length cp _ bp (hP0.allocd HLP.out _) w0.heap.size 0 1 1 [.string ⟨#[]⟩] (by omega) rfl (one_new _ _ _) (one_cell rfl) (by omega) (by omega) ?_ rfl rfl rfl rfl))
      intro P' cp' bp' wq hP' hbp' hNq
      clear hP0
      have hzq := hNq.size
      have hz2 : V1.heap.size ≤ (w0.alloc (.cells #[.string ⟨#[]⟩] 9)).heap.size := by simp; omega
      have hw1 : w.heap.size ≤ (w0.alloc (.cells #[.string ⟨#[]⟩] 9)).heap.size := by simp; omega
      have HBq : Hid (Below w.heap.size w wq) := hide (OnlyIn.belowB (HBB.out.alloc (by omega) _) hNq (fun b hb => by have := HPn.out b hb; omega) hw1)
      have HRdq : Hid (RdS wq V0.heap.size V1.heap.size (some ⟨b, off, none⟩) L) := hide (RdS.keep (HRd.out.keep (fun q _ hq => Below.heap_alloc _ _ _ (by omega))) (hNq.at_off (fun b hb hh => by have := HPn.out b hb; omega) hz2))
      have HRq : Hid (RowB wq 128 2 A1 k c1 (flatSt ((L.take k).map valSt2)) bs) := hide ((HR.out.allocd (fun b hb => by have := HLw.out b hb; omega) _).keep (fun b hb => hNq.block b (by have := HLw.out b hb; simp; omega) (fun hm => by have := HPn.out b hm; have := HLw.out b hb; omega)))
      have hPq : RowB wq 9 1 P' Q.length cp' (Q.map .string) bp' := hP'.eqn (by omega) (by rw [HQ.out, List.map_append]; rfl)
      clear hP' HR HRd HBB hNq
      obtain ⟨gq, rfl, rfl⟩ := hPq.at_ (by omega)
      have e0 : wq.cell? ⟨gq, 0, none⟩ = some (.string (Q.getD 0 ByteArray.empty)) := by
        rw [hPq.cellAt 0 (by omega), getD_get _ (by omega)]; simp
      have e1 : wq.cell? ⟨gq, 1, none⟩ = some (.string (Q.getD 1 ByteArray.empty)) := by
        rw [hPq.cellAt 1 (by omega), getD_get _ (by omega)]; simp
      have hgq := hPq.lt gq (by simp)
      have s0 := HQS.out _ (getD_mem (k := 0) ByteArray.empty (by omega : 0 < Q.length))
      have s1 := HQS.out _ (getD_mem (k := 1) ByteArray.empty (by omega : 1 < Q.length))
      clear hPq
      rw [show (splitAny x colon).length + 1 = Q.length from hQl.symm]
      have hl0 : (0 : Int) < (Q.length : Int) := by omega
      have hl1 : (1 : Int) < (Q.length : Int) := by omega
      generalize Q.getD 0 ByteArray.empty = y0 at e0 s0 HOK HVAL
      generalize Q.getD 1 ByteArray.empty = y1 at e1 s1 HOK HVAL
      have E1 := hide e1; clear e1
      go_wp2_with fail
      refine (HC.out y0 wq (by omega)).mono ?_
      rintro e w1 ⟨rfl, hB1⟩
      have e1 := (hB1.cell (p := ⟨gq, 1, none⟩) hgq).trans E1.out
      have HRq := hide (HRq.out.below hB1 (fun b hb => HRq.out.lt b hb))
      have HRdq := hide (HRdq.out.below hB1 (by omega))
      have HBq := hide (HBq.out.trans (hB1.mono (by omega)))
      have hz3 := hB1.size
      clear hB1 e0
      go_wp2_with fail
      refine (HC.out y1 w1 (by omega)).mono ?_
      rintro e w2 ⟨rfl, hB1⟩
      have hR := HRq.out.below hB1 (fun b hb => HRq.out.lt b hb)
      have HRd := hide (HRdq.out.below hB1 (by omega))
      have hB := HBq.out.trans (hB1.mono (by omega))
      have hz4 := hB1.size
      clear hB1 e1
      have hsz : w.heap.size ≤ w2.heap.size := by omega
      have hz : V1.heap.size ≤ w2.heap.size := by omega
      cases h1 : okI y0
      · have HF := hide (HF.out (by rw [HOK.out, h1]; rfl))
        clear h1
        go_wp2
        go_ret2
        exact ⟨_, _, by rw [HF.out]; rfl, by rw [HF.out]; exact OwnR.empty _ _ _ _ _, hB⟩
      cases h2 : okI y1
      · have HF := hide (HF.out (by rw [HOK.out, h1, h2]; rfl))
        clear h1 h2
        go_wp2
        go_ret2
        exact ⟨_, _, by rw [HF.out]; rfl, by rw [HF.out]; exact OwnR.empty _ _ _ _ _, hB⟩
      have h3 : true = true := rfl
      have HK := hide (HY.out (by rw [HOK.out, h1, h2]; rfl))
      clear h1 h2 h3
      have HL2 := hide (fun b (hb : b ∈ bs) => hR.lt b hb)
      have HB2 := hide hB; clear hB
      generalize valI y0 = va at HVAL ⊢
      generalize valI y1 = vb at HVAL ⊢
      go_wp2_with (at_builtin; go_must (refine wpList_pushB _ (.tmp 44) (.tmp 48) 68 128 _ 2 16 Tryz.underlying68 Tryz.infoSt rfl (by omega) A1 k c1 _ bs (hR.allocd HL2.out _) w2.heap.size 0 1 1 [.int .i64 va, .int .i64 vb] (by omega) rfl (two_new _ _ _ _) (two_cell rfl rfl) (by omega) (by omega) ?_ rfl rfl rfl rfl))
      intro A' c' bs' w' hR' hbs' hN'
      clear hR
      have hzz := hN'.size
      have hz2 : V1.heap.size ≤ (w2.alloc (.cells #[.int .i64 va, .int .i64 vb] 128)).heap.size := by simp; omega
      go_wp2
      go_roundw
      case rel =>
        refine ⟨k + 1, A', c', bs', by omega, by go_num, rfl, hR'.eqn rfl (by rw [HT.out, List.map_append, List.map_cons, List.map_nil, HVAL.out, flat_snoc]; first | rfl | rw [List.map_take]), hide ⟨grown_lo HN.out.1 hbs' (by omega), HN.out.2.grown hbs' (by omega)⟩, HK, OnlyIn.belowB (HB2.out.alloc (by omega) _) hN' HN.out.1 (by simp; omega), by omega, hide ?_⟩
        refine RdS.keep ?_ (hN'.at_off HN.out.2 hz2)
        exact HRd.out.keep (fun q _ hq => Below.heap_alloc _ _ _ (by omega))
      case measure => simp [intOf]; omega
    · obtain rfl : k = L.length := by omega
      have hall : L.all okSt2 = true := by have := HA.out; rwa [List.take_length] at this
      have HF := hide (show parSt s = if fmtSt (L.map valSt2) = s then (L.map valSt2, true) else ([], false) from by rw [HL.out]; exact parSt_end2 (by rw [← HL.out]; exact hall))
      have HO := hide (show OwnR wr w.heap.size wr.heap.size 128 2 A1 (L.map valSt2).length c1 (flatSt (L.map valSt2)) from (hR.own (lo := w.heap.size) (hi := wr.heap.size) (fun b hb => ⟨HN.out.1 b hb, hR.lt b hb⟩)).eqn (by simp) (by rw [List.take_length]))
      have hSO := specFormatSteps_any A1 (L.map valSt2) c1 w.heap.size wr.heap.size wr (by rw [List.length_map]; omega) HO.out.rdSt (Nat.le_refl _)
      rw [List.length_map] at hSO
      have HSO := hide hSO; clear hSO hR hall
      go_wp2_with fail
      refine HSO.out.mono ?_
      rintro e w3 ⟨rfl, hB3⟩
      have HO := hide ((HO.out.below hB3 (Nat.le_refl _)).mono (Nat.le_refl _) hB3.size)
      have hB4 := hB.trans (hB3.mono hsz)
      clear hB3 HSO
      by_cases hst : fmtSt (L.map valSt2) = s
      · have HF := hide (show parSt s = (L.map valSt2, true) from by rw [HF.out, if_pos hst])
        rw [hst]
        clear hst
        go_wp2
        go_ret2
        exact ⟨A1, c1, by rw [HF.out]; simp, by rw [HF.out]; exact HO.out, hB4⟩
      · have HF := hide (show parSt s = ([], false) from by rw [HF.out, if_neg hst])
        have hf1 := str_ne_list hst
        have hf2 := beq_list hst
        clear hst
        go_wp2
        go_ret2
        exact ⟨_, _, by rw [HF.out]; rfl, by rw [HF.out]; exact OwnR.empty _ _ _ _ _, hB4⟩
end Go.Proofs.YtcecgbjolngdbaaGreatDoor
