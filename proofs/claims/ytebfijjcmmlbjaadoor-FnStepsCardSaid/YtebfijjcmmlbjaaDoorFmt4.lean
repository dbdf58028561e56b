/- Steps are parsed. -/
import Derived.Test.YtebfijjcmmlbjaaDoorFmt3
namespace Go.Proofs.YtebfijjcmmlbjaaDoor
open Go.ChangeShapes Go.WideShapes Go.ChangeAt Go.RowKit
set_option linter.unusedVariables false
set_option linter.unusedSimpArgs false

theorem cut_size (w : ByteArray) : (cutA w).size ≤ w.size ∧ (cutB w).size ≤ w.size := by
  have e : w.data.toList.length = w.size := by simp
  have h1 : ∀ l : List UInt8, (⟨l.toArray⟩ : ByteArray).size = l.length := fun l => by simp [ByteArray.size]
  have h2 : (Lib.cut w.data.toList colon.data.toList).1.length ≤ w.data.toList.length ∧ (Lib.cut w.data.toList colon.data.toList).2.1.length ≤ w.data.toList.length := by
    unfold Lib.cut
    split
    · exact ⟨List.length_take_le' _ _, by rw [List.length_drop]; omega⟩
    · exact ⟨Nat.le_refl _, Nat.zero_le _⟩
  rw [e] at h2
  exact ⟨by unfold cutA; rw [h1]; exact h2.1, by unfold cutB; rw [h1]; exact h2.2⟩
theorem parSt_no1 {s : ByteArray} (h : ¬ (splitAny s comma).all okSt = true) : parSt s = ([], false) := by
  unfold parSt
  rw [if_neg (fun hh => h (by rw [Bool.and_eq_true] at hh; exact hh.1))]
theorem parSt_end {s : ByteArray} (h : (splitAny s comma).all okSt = true) : parSt s = if stOkB ((splitAny s comma).map valSt) = true then ((splitAny s comma).map valSt, true) else ([], false) := by
  unfold parSt
  rw [h, Bool.true_and]
theorem parSt_no2 {s : ByteArray} (h : ¬ (splitAny s comma).all okSt2 = true) : parSt s = ([], false) := by
  rw [parSt_spec, if_neg (fun hh => h (by rw [Bool.and_eq_true] at hh; exact hh.1))]
theorem parSt_end2 {s : ByteArray} (h : (splitAny s comma).all okSt2 = true) : parSt s = if fmtSt ((splitAny s comma).map valSt2) = s then ((splitAny s comma).map valSt2, true) else ([], false) := by
  rw [parSt_spec, h, Bool.true_and]
  simp only [decide_eq_true_eq]
theorem flat_snoc (l : List (Int × Int)) (a b : Int) : flatSt (l ++ [(a, b)]) = flatSt l ++ [.int .i64 a, .int .i64 b] := by rw [flatSt_app]; rfl
theorem strCut_any (x : ByteArray) (W : World) (hs : x.size ≤ 16777216) (hm : ∃ m, W.cell? ⟨2, 0, none⟩ = some (.int .i64 m)) :
    Calls Tryd.prog 39 #[.string x, .string ⟨#[58]⟩] W fun e w' => e = .returned (.tuple #[.string (cutA x), .string (cutB x), .bool (cutOk x)]) ∧ Below W.heap.size W w' := by
  obtain ⟨m, hm⟩ := hm
  refine (Tryd.strings_Cut x ⟨#[58]⟩ m W (by omega) hm).mono ?_
  rintro e w' ⟨rfl, n, rfl⟩
  exact ⟨rfl, below_quiet (Below.refl _ _) _⟩
theorem LdC.max {w : World} {hi : Nat} (h : LdC w hi) : ∃ m, w.cell? ⟨2, 0, none⟩ = some (.int .i64 m) := h.2.1
set_option maxRecDepth 20000 in
set_option maxHeartbeats 3200000 in
theorem implParseSteps_any (s : ByteArray) (w : World) (hs : s.size ≤ 1048576) (hg : Nat) (ld : LdC w hg) (hhg : hg ≤ w.heap.size) :
    Calls Tryd.prog 20 #[.string s] w fun e w' => ∃ A c, e = .returned (.tuple #[.slice A (parSt s).1.length c, .bool (parSt s).2]) ∧ OwnR w' w.heap.size w'.heap.size 66 2 A (parSt s).1.length c (flatSt (parSt s).1) ∧ Below w.heap.size w w' := by
  have HC : Hid (∀ (x : ByteArray) (W : World), x.size ≤ 16777216 → Below w.heap.size w W → Calls Tryd.prog 7 #[.string x] W fun e w' => e = .returned (.tuple #[.int .i64 (valI x), .bool (okI x)]) ∧ Below W.heap.size W w') := hide (fun x W h1 hb => implParseInt_any x hg W h1 (ld.e.below hb hhg) (Nat.le_trans hhg hb.size))
  have HCut : Hid (∀ (x : ByteArray) (W : World), x.size ≤ 16777216 → Below w.heap.size w W → Calls Tryd.prog 39 #[.string x, .string ⟨#[58]⟩] W fun e w' => e = .returned (.tuple #[.string (cutA x), .string (cutB x), .bool (cutOk x)]) ∧ Below W.heap.size W w') := hide (fun x W h1 hb => strCut_any x W h1 (ld.below hb hhg).max)
  go_enter Tryd.func20, Tryd.ntmps20
  go_wp2_with fail
  refine at_world fun V0 hW => ?_
  have z0 : V0.heap.size = w.heap.size + 1 := by rw [hW]; simp
  have hR0 : RowB V0 66 2 (some ⟨w.heap.size, 0, none⟩) 0 0 [] [w.heap.size] := by rw [hW]; exact RowB.made w 66 2 #[] 0 (by unfold maxLen; omega) rfl
  have B0 : Below w.heap.size w V0 := by rw [hW]; exact (Below.refl _ _).alloc (Nat.le_refl _) _
  clear hW
  refine (implSplitAny_any s ⟨#[44]⟩ V0 (by omega) (by decide)).mono ?_
  rintro e V1 ⟨A, c, rfl, oL, r⟩
  have z1 := r.size
  have hR0 := hR0.below r (fun b hb => by simp at hb; omega)
  have B0 := B0.trans (r.mono (by omega)); clear r
  have HL := hide (show splitAny s ⟨#[44]⟩ = splitAny s comma from rfl)
  have hLn := splitAny_len s ⟨#[44]⟩
  have HSZ := hide (splitAny_size s ⟨#[44]⟩)
  have hRd := oL.rdS; clear oL
  generalize splitAny s ⟨#[44]⟩ = L at HL hLn HSZ hRd ⊢
  have HR0 := hide hR0; clear hR0
  have HB0 := hide B0
  have hRd0 := hide hRd; clear hRd
  go_wp2
  go_loopw [4, 18] (fun v i wr => ∃ (k : Nat) (A1 : Option Addr) (c1 : Nat) (bs : List Nat), k ≤ L.length ∧ i = .int .i64 k ∧ v = .slice A1 k c1 ∧ RowB wr 66 2 A1 k c1 (flatSt ((L.take k).map valSt)) bs ∧ Hid ((∀ b ∈ bs, w.heap.size ≤ b) ∧ Off bs V0.heap.size V1.heap.size) ∧ Hid ((L.take k).all okSt = true) ∧ Below w.heap.size w wr ∧ V1.heap.size ≤ wr.heap.size ∧ Hid (RdS wr V0.heap.size V1.heap.size A L)) (fun _ i _ => L.length - (intOf i).toNat)
  case atStart => exact ⟨0, _, _, _, Nat.zero_le _, rfl, rfl, by simpa [flatSt] using HR0.out, hide ⟨by simp, Off.one (.inl (by omega))⟩, hide (by simp), HB0.out, Nat.le_refl _, hRd0⟩
  case round =>
    obtain ⟨k, A1, c1, bs, hk, rfl, rfl, hR, HN, HA, hB, hz, HRd⟩ := hrel
    clear HR0 HB0 hRd0 B0
    have hsz := hB.size
    by_cases hlt : k < L.length
    · obtain ⟨b, off, rfl, g1, g2, hc⟩ := HRd.out (by omega)
      have q1 := hc k hlt
      have hxs := HSZ.out _ (getD_mem ByteArray.empty hlt)
      clear hc
      have HT := hide (take_snoc ByteArray.empty hlt)
      have HY := hide (fun h => all_take_succ (p := okSt) ByteArray.empty hlt HA.out h)
      have HNo := hide (all_no (p := okSt) ByteArray.empty hlt)
      generalize L.getD k ByteArray.empty = x at q1 hxs HT HY HNo
      have hcs := cut_size x
      have HF := hide (fun h => parSt_no1 (s := s) (by rw [← HL.out]; exact HNo.out h))
      have HOK : Hid (okSt x = (cutOk x && (okI (cutA x) && okI (cutB x)))) := hide rfl
      have HVAL : Hid (valSt x = (valI (cutA x), valI (cutB x))) := hide rfl
      go_wp2_with fail
      refine (HCut.out x wr (by omega) hB).mono ?_
      rintro e w0 ⟨rfl, hB1⟩
      have hR := hR.below hB1 (fun b hb => hR.lt b hb)
      have HRd := hide (HRd.out.below hB1 hz)
      have hz := Nat.le_trans hz hB1.size
      have hB := hB.trans (hB1.mono hsz)
      have hsz := hB.size
      clear hB1 q1
      go_wp2_with fail
      refine (HC.out (cutA x) w0 (by omega) hB).mono ?_
      rintro e w1 ⟨rfl, hB1⟩
      have hR := hR.below hB1 (fun b hb => hR.lt b hb)
      have HRd := hide (HRd.out.below hB1 hz)
      have hz := Nat.le_trans hz hB1.size
      have hB := hB.trans (hB1.mono hsz)
      have hsz := hB.size
      clear hB1
      go_wp2_with fail
      refine (HC.out (cutB x) w1 (by omega) hB).mono ?_
      rintro e w2 ⟨rfl, hB1⟩
      have hR := hR.below hB1 (fun b hb => hR.lt b hb)
      have HRd := hide (HRd.out.below hB1 hz)
      have hz := Nat.le_trans hz hB1.size
      have hB := hB.trans (hB1.mono hsz)
      have hsz := hB.size
      clear hB1 hcs
      cases h1 : cutOk x
      · have HF := hide (HF.out (by rw [HOK.out, h1]; rfl))
        clear h1
        go_wp2
        go_ret2
        exact ⟨_, _, by rw [HF.out]; rfl, by rw [HF.out]; exact OwnR.empty _ _ _ _ _, hB⟩
      cases h2 : okI (cutA x)
      · have HF := hide (HF.out (by rw [HOK.out, h1, h2]; rfl))
        clear h1 h2
        go_wp2
        go_ret2
        exact ⟨_, _, by rw [HF.out]; rfl, by rw [HF.out]; exact OwnR.empty _ _ _ _ _, hB⟩
      cases h3 : okI (cutB x)
      · have HF := hide (HF.out (by rw [HOK.out, h1, h2, h3]; rfl))
        clear h1 h2 h3
        go_wp2
        go_ret2
        exact ⟨_, _, by rw [HF.out]; rfl, by rw [HF.out]; exact OwnR.empty _ _ _ _ _, hB⟩
      have HK := hide (HY.out (by rw [HOK.out, h1, h2, h3]; rfl))
      clear h1 h2 h3
      have HL2 := hide (fun b (hb : b ∈ bs) => hR.lt b hb)
      have HB2 := hide hB; clear hB
      generalize valI (cutA x) = va at HVAL ⊢
      generalize valI (cutB x) = vb at HVAL ⊢
      go_wp2_with (at_builtin; go_must (refine wpList_pushB _ (.tmp 48) (.tmp 52) 40 66 _ 2 16 Tryd.underlying40 Tryd.infoSt rfl (by omega) A1 k c1 _ bs (hR.allocd HL2.out _) w2.heap.size 0 1 1 [.int .i64 va, .int .i64 vb] (by omega) rfl (two_new _ _ _ _) (two_cell rfl rfl) (by omega) (by omega) ?_ rfl rfl rfl rfl))
      intro A' c' bs' w' hR' hbs' hN'
      clear hR
      have hzz := hN'.size
      have hz2 : V1.heap.size ≤ (w2.alloc (.cells #[.int .i64 va, .int .i64 vb] 66)).heap.size := by simp; omega
      go_wp2
      go_roundw
      case rel =>
        refine ⟨k + 1, A', c', bs', by omega, by go_num, rfl, hR'.eqn rfl (by rw [HT.out, List.map_append, List.map_cons, List.map_nil, HVAL.out, flat_snoc]; first | rfl | rw [List.map_take]), hide ⟨grown_lo HN.out.1 hbs' (by omega), HN.out.2.grown hbs' (by omega)⟩, HK, OnlyIn.belowB (HB2.out.alloc (by omega) _) hN' HN.out.1 (by simp; omega), by omega, hide ?_⟩
        refine RdS.keep ?_ (hN'.at_off HN.out.2 hz2)
        exact HRd.out.keep (fun q _ hq => Below.heap_alloc _ _ _ (by omega))
      case measure => simp [intOf]; omega
    · obtain rfl : k = L.length := by omega
      have hall : L.all okSt = true := by have := HA.out; rwa [List.take_length] at this
      have HF := hide (show parSt s = if stOkB (L.map valSt) = true then (L.map valSt, true) else ([], false) from by rw [HL.out]; exact parSt_end (by rw [← HL.out]; exact hall))
      have HO := hide (show OwnR wr w.heap.size wr.heap.size 66 2 A1 (L.map valSt).length c1 (flatSt (L.map valSt)) from (hR.own (lo := w.heap.size) (hi := wr.heap.size) (fun b hb => ⟨HN.out.1 b hb, hR.lt b hb⟩)).eqn (by simp) (by rw [List.take_length]))
      have hSO := implStepsOk_any A1 (L.map valSt) c1 w.heap.size wr.heap.size wr (by rw [List.length_map]; omega) HO.out.rdSt (Nat.le_refl _)
      rw [List.length_map] at hSO
      have HSO := hide hSO; clear hSO hR hall
      go_wp2_with fail
      refine HSO.out.mono ?_
      rintro e w3 ⟨rfl, hB3⟩
      have HO := hide ((HO.out.below hB3 (Nat.le_refl _)).mono (Nat.le_refl _) hB3.size)
      have hB4 := hB.trans (hB3.mono hsz)
      clear hB3 HSO
      cases hst : stOkB (L.map valSt)
      · have HF := hide (show parSt s = ([], false) from by rw [HF.out, hst]; rfl)
        clear hst
        go_wp2
        go_ret2
        exact ⟨_, _, by rw [HF.out]; rfl, by rw [HF.out]; exact OwnR.empty _ _ _ _ _, hB4⟩
      · have HF := hide (show parSt s = (L.map valSt, true) from by rw [HF.out, hst]; rfl)
        clear hst
        go_wp2
        go_ret2
        exact ⟨A1, c1, by rw [HF.out]; simp, by rw [HF.out]; exact HO.out, hB4⟩
end Go.Proofs.YtebfijjcmmlbjaaDoor
