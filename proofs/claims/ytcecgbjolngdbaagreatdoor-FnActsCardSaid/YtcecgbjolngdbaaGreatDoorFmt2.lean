/- Lists of numbers, steps and modes are formatted. -/
import Derived.Test.YtcecgbjolngdbaaGreatDoorFmt
import Derived.Test.YtcecgbjolngdbaaGreatDoorPlainTx
import Derived.Test.YtcecgbjolngdbaaGreatDoorKitIn
import Derived.Test.YtcecgbjolngdbaaGreatDoorText
import Derived.Test.YtcecgbjolngdbaaGreatDoorSteps
import Derived.Deep.RegionHeld3
namespace Go.Proofs.YtcecgbjolngdbaaGreatDoor
open Go.ChangeShapes Go.WideShapes Go.ChangeAt Go.RowKit
set_option linter.unusedVariables false
set_option linter.unusedSimpArgs false

theorem sum_le {α : Type} (f : α → Nat) (b : Nat) (l : List α) (h : ∀ x ∈ l, f x ≤ b) : (l.map f).sum ≤ b * l.length := by
  induction l with
  | nil => simp
  | cons a l ih =>
    have := h a (by simp)
    have := ih (fun x hx => h x (by simp [hx]))
    simp only [List.map_cons, List.sum_cons, List.length_cons]
    rw [Nat.mul_succ]; omega
theorem fmtI_sum (l : List Int) : ((l.map fmtI).map ByteArray.size).sum ≤ 7 * l.length := by
  have := sum_le ByteArray.size 7 (l.map fmtI) (fun x hx => by obtain ⟨n, _, rfl⟩ := List.mem_map.1 hx; exact fmtI_size n)
  simpa using this
theorem specJoinB_any (A : Option Addr) (L : List ByteArray) (c : Nat) (bs : List Nat) (y : ByteArray) (w : World) (hl0 : L.length ≤ 16777216) (hl : L.length + (L.map ByteArray.size).sum ≤ 33554432) (hy : y.size ≤ 1) (h : RowB w 9 1 A L.length c (L.map .string) bs) :
    Calls Tryz.prog 39 #[.slice A L.length c, .string y] w fun e w' => e = .returned (.string (joinB L y)) ∧ Below w.heap.size w w' := by
  obtain ⟨⟨lo, hi, ho⟩, _⟩ := h
  refine (specJoin_any A L c lo hi y w (by omega) (fun k _ => by have := joinB_take (l := L) (y := y) hl hy k; omega) ho.rdS).mono ?_
  rintro e w' ⟨rfl, q⟩
  exact ⟨rfl, Qt.below (Below.refl _ _) q⟩
theorem stringsJoinB_any (A : Option Addr) (L : List ByteArray) (c : Nat) (bs : List Nat) (y : ByteArray) (w : World) (hl0 : L.length ≤ 16777216) (hl : L.length + (L.map ByteArray.size).sum ≤ 33554432) (hy : y.size ≤ 1) (h : RowB w 9 1 A L.length c (L.map .string) bs) :
    Calls Tryz.prog 50 #[.slice A L.length c, .string y] w fun e w' => e = .returned (.string (joinB L y)) ∧ Below w.heap.size w w' := by
  have ho := h.own (lo := 0) (hi := w.heap.size) (fun b hb => ⟨Nat.zero_le _, h.lt b hb⟩)
  have hcap := own_cap ho
  have ha := ho.rdS
  have hb := joinB_len (l := L) (y := y) hl hy
  by_cases h0 : L.length = 0
  · obtain rfl : L = [] := List.eq_nil_of_length_eq_zero h0
    refine (Tryz.strings_Join_none A c y _).mono ?_
    rintro e w1 ⟨rfl, rfl⟩
    exact ⟨ret_str (joinB_zero y).symm, Below.refl _ _⟩
  · obtain ⟨b, off, rfl, h1, h2, hc⟩ := ha (by omega)
    have hc' : ∀ (j : Nat) x, L[j]? = some x → w.cell? ⟨b, off + j, none⟩ = some (.string x) := by
      intro j x hj
      obtain ⟨hj1, hj2⟩ := List.getElem?_eq_some_iff.1 hj
      rw [hc j hj1, getD_get _ hj1, hj2]
    refine (Tryz.strings_Join b off c L y _ hc' (by omega) (by omega) hcap (by omega)).mono ?_
    rintro e w1 ⟨rfl, hB⟩
    exact ⟨rfl, hB⟩
set_option maxRecDepth 20000 in
set_option maxHeartbeats 1600000 in
theorem specFormatInts_any (A : Option Addr) (l : List Int) (c lo hi : Nat) (w : World) (hl : l.length ≤ 1048577) (ha : RdI w lo hi A l) (hhi : hi ≤ w.heap.size)  :
    Calls Tryz.prog 36 #[.slice A l.length c] w fun e w' => e = .returned (.string (fmtIs l)) ∧ Below w.heap.size w w' := by
  have HC : Hid (∀ (x : Int) (W : World), Below w.heap.size w W → Calls Tryz.prog 34 #[.int .i64 x] W fun e w' => e = .returned (.string (fmtI x)) ∧ Below W.heap.size W w') := hide (fun x W _ => specFormatInt_any x W)
  have hO0 := RowB.made w 9 1 #[] 0 (by unfold maxLen; omega) rfl
  go_enter Tryz.func36, Tryz.ntmps36
  go_wp2
  go_loopw [3, 9] (fun v i wr => ∃ (k : Nat) (A1 : Option Addr) (c1 : Nat) (bs : List Nat), k ≤ l.length ∧ i = .int .i64 k ∧ v = .slice A1 k c1 ∧ RowB wr 9 1 A1 k c1 (((l.take k).map fmtI).map .string) bs ∧ (∀ b ∈ bs, w.heap.size ≤ b) ∧ Hid ((l.take k).all inI = true) ∧ Below w.heap.size w wr) (fun _ i _ => l.length - (intOf i).toNat)
  case atStart => exact ⟨0, _, _, _, Nat.zero_le _, rfl, rfl, by simpa using hO0, by simp, hide (by simp), (Below.refl _ _).alloc (Nat.le_refl _) _⟩
  case round =>
    obtain ⟨k, A1, c1, bs, hk, rfl, rfl, hR, hbs, HA, hB⟩ := hrel
    clear hO0
    have hsz := hB.size
    by_cases hlt : k < l.length
    · have har := ha.below hB hhi
      obtain ⟨b, off, rfl, h1, h2, hc⟩ := har (by omega)
      have g1 := hc k hlt
      clear hc har ha
      generalize hX : l.getD k 0 = x at g1
      have HX := hide hX; clear hX
      have HT := hide (take_snoc 0 hlt)
      go_wp2_with fail
      refine (HC.out x wr hB).mono ?_
      rintro e w1 ⟨rfl, hB1⟩
      have hB2 := hB.trans (hB1.mono hsz)
      have hsz1 := hB1.size
      cases hin : inI x
      · have HF := hide (fmtIs_no (l := l) (fun h => by
          rw [List.all_eq_true] at h
          have := h x (by rw [← HX.out]; exact getD_mem 0 hlt)
          rw [hin] at this; cases this))
        have hz : fmtI x = ByteArray.empty := fmtI_out (fun h => by have := (inI_iff x).2 h; rw [hin] at this; cases this)
        rw [hz]
        clear hz
        have hem : ByteArray.empty.toList.isEmpty = true := str_empty_yes rfl
        go_wp2
        go_ret
        exact ⟨ret_str HF.out.symm, hB2⟩
      · have HI := hide hin; clear hin
        have hem : (fmtI x).toList.isEmpty = false := str_empty_no ((inI_ne x).1 HI.out)
        have hR1 := hR.below hB1 (fun b hb => hR.lt b hb)
        clear hR
        go_wp2_with fail
        refine (HC.out x w1 hB2).mono ?_
        rintro e w2 ⟨rfl, hB3⟩
        have hB4 := hB2.trans (hB3.mono (by omega))
        have hsz2 := hB3.size
        have hR2 := hR1.below hB3 (fun b hb => hR1.lt b hb)
        have hlt2 : ∀ b ∈ bs, b < w2.heap.size := fun b hb => hR2.lt b hb
        clear hR1 hB3 hB1 hem g1
        have HN := hide hbs; clear hbs
        have HL2 := hide hlt2; clear hlt2
        have HB4 := hide hB4; clear hB4 hB2
        go_wp2_with (at_builtin; go_must (refine wpList_pushB _ (.tmp 16) (.tmp 19) 67 9 _ 1 16 Tryz.underlying67 Tryz.infoStr rfl (by omega) A1 k c1 _ bs (hR2.allocd HL2.out _) w2.heap.size 0 1 1 [.string (fmtI x)] (by omega) rfl (one_new _ _ _) (one_cell rfl) (by omega) (by omega) ?_ rfl rfl rfl rfl))
        intro A' c' bs' w' hR' hbs' hN'
        clear hR2
        go_wp2
        go_roundw
        case rel =>
          refine ⟨k + 1, A', c', bs', by omega, by go_num, rfl, hR'.eqn rfl ?_, ?_, hide ?_, ?_⟩
          · rw [HT.out, HX.out]; simp
          · intro b hb
            rcases hbs' with rfl | rfl
            · exact HN.out b hb
            · simp at hb; omega
          · rw [HT.out, HX.out, List.all_append, HA.out]; simp [HI.out]
          · refine OnlyIn.belowB ((HB4.out).alloc (by omega) _) hN' (fun b hb => HN.out b hb) (by simp; omega)
        case measure => simp [intOf]; omega
    · obtain rfl : k = l.length := by omega
      have hall : l.all inI = true := by have := HA.out; rwa [List.take_length] at this
      by_cases h0 : l.length = 0
      · obtain rfl : l = [] := List.eq_nil_of_length_eq_zero h0
        clear hR HA hall
        go_wp2
        go_ret
        exact ⟨ret_str rfl, hB⟩
      · have HF := hide (show fmtIs l = joinB (l.map fmtI) ⟨#[44]⟩ from fmtIs_yes hall (fun e => h0 (by rw [e]; rfl)))
        have hsum := fmtI_sum l
        have HR := hide (show RowB wr 9 1 A1 (l.map fmtI).length c1 ((l.map fmtI).map .string) bs from hR.eqn (by simp) (by rw [List.take_length]))
        have hJ := specJoinB_any A1 (l.map fmtI) c1 bs ⟨#[44]⟩ wr (by rw [List.length_map]; omega) (by rw [List.length_map]; omega) (by decide) HR.out
        rw [List.length_map] at hJ
        have HJ := hide hJ; clear hJ hR HA hall hsum
        go_wp2_with fail
        refine HJ.out.mono ?_
        rintro e w3 ⟨rfl, hB3⟩
        have hB4 := hB.trans (hB3.mono hsz)
        clear hB3 HJ
        generalize joinB (l.map fmtI) ⟨#[44]⟩ = J at HF ⊢
        go_wp2
        go_ret
        exact ⟨ret_str HF.out.symm, hB4⟩
set_option maxRecDepth 20000 in
set_option maxHeartbeats 1600000 in
theorem implFormatInts_any (A : Option Addr) (l : List Int) (c lo hi : Nat) (w : World) (hl : l.length ≤ 1048577) (ha : RdI w lo hi A l) (hhi : hi ≤ w.heap.size) (hg : Nat) (ld : LdT w hg) (hhg : hg ≤ w.heap.size) :
    Calls Tryz.prog 47 #[.slice A l.length c] w fun e w' => e = .returned (.string (fmtIs l)) ∧ Below w.heap.size w w' := by
  have HC : Hid (∀ (x : Int) (W : World), Below w.heap.size w W → Calls Tryz.prog 45 #[.int .i64 x] W fun e w' => e = .returned (.string (fmtI x)) ∧ Below W.heap.size W w') := hide (fun x W hb => implFormatInt_any x hg W (ld.below hb hhg))
  have hO0 := RowB.made w 9 1 #[] 0 (by unfold maxLen; omega) rfl
  go_enter Tryz.func47, Tryz.ntmps47
  go_wp2
  go_loopw [3, 9] (fun v i wr => ∃ (k : Nat) (A1 : Option Addr) (c1 : Nat) (bs : List Nat), k ≤ l.length ∧ i = .int .i64 k ∧ v = .slice A1 k c1 ∧ RowB wr 9 1 A1 k c1 (((l.take k).map fmtI).map .string) bs ∧ (∀ b ∈ bs, w.heap.size ≤ b) ∧ Hid ((l.take k).all inI = true) ∧ Below w.heap.size w wr) (fun _ i _ => l.length - (intOf i).toNat)
  case atStart => exact ⟨0, _, _, _, Nat.zero_le _, rfl, rfl, by simpa using hO0, by simp, hide (by simp), (Below.refl _ _).alloc (Nat.le_refl _) _⟩
  case round =>
    obtain ⟨k, A1, c1, bs, hk, rfl, rfl, hR, hbs, HA, hB⟩ := hrel
    clear hO0
    have hsz := hB.size
    by_cases hlt : k < l.length
    · have har := ha.below hB hhi
      obtain ⟨b, off, rfl, h1, h2, hc⟩ := har (by omega)
      have g1 := hc k hlt
      clear hc har ha
      generalize hX : l.getD k 0 = x at g1
      have HX := hide hX; clear hX
      have HT := hide (take_snoc 0 hlt)
      go_wp2_with fail
      refine (HC.out x wr hB).mono ?_
      rintro e w1 ⟨rfl, hB1⟩
      have hB2 := hB.trans (hB1.mono hsz)
      have hsz1 := hB1.size
      cases hin : inI x
      · have HF := hide (fmtIs_no (l := l) (fun h => by
          rw [List.all_eq_true] at h
          have := h x (by rw [← HX.out]; exact getD_mem 0 hlt)
          rw [hin] at this; cases this))
        have hz : fmtI x = ByteArray.empty := fmtI_out (fun h => by have := (inI_iff x).2 h; rw [hin] at this; cases this)
        rw [hz]
        clear hz
        have hem : ByteArray.empty.toList.isEmpty = true := str_empty_yes rfl
        go_wp2
        go_ret
        exact ⟨ret_str HF.out.symm, hB2⟩
      · have HI := hide hin; clear hin
        have hem : (fmtI x).toList.isEmpty = false := str_empty_no ((inI_ne x).1 HI.out)
        have hR1 := hR.below hB1 (fun b hb => hR.lt b hb)
        clear hR
        go_wp2_with fail
        refine (HC.out x w1 hB2).mono ?_
        rintro e w2 ⟨rfl, hB3⟩
        have hB4 := hB2.trans (hB3.mono (by omega))
        have hsz2 := hB3.size
        have hR2 := hR1.below hB3 (fun b hb => hR1.lt b hb)
        have hlt2 : ∀ b ∈ bs, b < w2.heap.size := fun b hb => hR2.lt b hb
        clear hR1 hB3 hB1 hem g1
        have HN := hide hbs; clear hbs
        have HL2 := hide hlt2; clear hlt2
        have HB4 := hide hB4; clear hB4 hB2
        go_wp2_with (at_builtin; go_must (refine wpList_pushB _ (.tmp 16) (.tmp 19) 67 9 _ 1 16 Tryz.underlying67 Tryz.infoStr rfl (by omega) A1 k c1 _ bs (hR2.allocd HL2.out _) w2.heap.size 0 1 1 [.string (fmtI x)] (by omega) rfl (one_new _ _ _) (one_cell rfl) (by omega) (by omega) ?_ rfl rfl rfl rfl))
        intro A' c' bs' w' hR' hbs' hN'
        clear hR2
        go_wp2
        go_roundw
        case rel =>
          refine ⟨k + 1, A', c', bs', by omega, by go_num, rfl, hR'.eqn rfl ?_, ?_, hide ?_, ?_⟩
          · rw [HT.out, HX.out]; simp
          · intro b hb
            rcases hbs' with rfl | rfl
            · exact HN.out b hb
            · simp at hb; omega
          · rw [HT.out, HX.out, List.all_append, HA.out]; simp [HI.out]
          · refine OnlyIn.belowB ((HB4.out).alloc (by omega) _) hN' (fun b hb => HN.out b hb) (by simp; omega)
        case measure => simp [intOf]; omega
    · obtain rfl : k = l.length := by omega
      have hall : l.all inI = true := by have := HA.out; rwa [List.take_length] at this
      by_cases h0 : l.length = 0
      · obtain rfl : l = [] := List.eq_nil_of_length_eq_zero h0
        clear hR HA hall
        go_wp2
        go_ret
        exact ⟨ret_str rfl, hB⟩
      · have HF := hide (show fmtIs l = joinB (l.map fmtI) ⟨#[44]⟩ from fmtIs_yes hall (fun e => h0 (by rw [e]; rfl)))
        have hsum := fmtI_sum l
        have HR := hide (show RowB wr 9 1 A1 (l.map fmtI).length c1 ((l.map fmtI).map .string) bs from hR.eqn (by simp) (by rw [List.take_length]))
        have hJ := stringsJoinB_any A1 (l.map fmtI) c1 bs ⟨#[44]⟩ wr (by rw [List.length_map]; omega) (by rw [List.length_map]; omega) (by decide) HR.out
        rw [List.length_map] at hJ
        have HJ := hide hJ; clear hJ hR HA hall hsum
        go_wp2_with fail
        refine HJ.out.mono ?_
        rintro e w3 ⟨rfl, hB3⟩
        have hB4 := hB.trans (hB3.mono hsz)
        clear hB3 HJ
        generalize joinB (l.map fmtI) ⟨#[44]⟩ = J at HF ⊢
        go_wp2
        go_ret
        exact ⟨ret_str HF.out.symm, hB4⟩
theorem stepW_size (s : Int × Int) : (stepW s).size ≤ 15 := by
  have h1 := fmtI_size s.1
  have h2 := fmtI_size s.2
  have e : (stepW s).size = (fmtI s.1).size + 1 + (fmtI s.2).size := by unfold stepW; rw [ByteArray.size_append, ByteArray.size_append]; rfl
  omega
theorem stepW_sum (l : List (Int × Int)) : ((l.map stepW).map ByteArray.size).sum ≤ 15 * l.length := by
  have := sum_le ByteArray.size 15 (l.map stepW) (fun x hx => by obtain ⟨n, _, rfl⟩ := List.mem_map.1 hx; exact stepW_size n)
  simpa using this
theorem two_cells (w : World) (x y : Value) (t : TypeId) : (w.alloc (.cells #[x, y] t)).cell? ⟨w.heap.size, 0, none⟩ = some x ∧ (w.alloc (.cells #[x, y] t)).cell? ⟨w.heap.size, 1, none⟩ = some y := by
  constructor
  · rw [World.cell?_alloc_at _ _ _ _ rfl]; rfl
  · rw [World.cell?_alloc_at _ _ _ _ rfl]; rfl
theorem only_below_of {w V w' : World} {a : Nat} (h : Below w.heap.size w V) (ho : Only a a V w') : Below w.heap.size w w' := by
  have hs := h.size
  exact h.trans ⟨ho.os, ho.tape, ho.output, ho.size, fun k hk => ho.block k (by omega) (by omega)⟩
theorem OnlyIn.allocd {bs : List Nat} {a w : World} (h : OnlyIn bs a w) (o : Obj) : OnlyIn bs a (w.alloc o) := h.below ((Below.refl a.heap.size w).alloc h.size o) (Nat.le_refl _)
theorem OnlyIn.drewd {bs : List Nat} {a w : World} (h : OnlyIn bs a w) : OnlyIn bs a w.drew := ⟨h.os, h.tape, h.output, h.size, h.block⟩
theorem OnlyIn.cellFar {bs : List Nat} {w w' : World} (h : OnlyIn bs w w') {b o : Nat} {v : Value} (hlt : b < w.heap.size) (hn : b ∉ bs) (hc : w.cell? ⟨b, o, none⟩ = some v) : w'.cell? ⟨b, o, none⟩ = some v :=
  (World.cell?_of_block (a := ⟨b, o, none⟩) (h.block b hlt hn)).trans hc
set_option maxRecDepth 20000 in
set_option maxHeartbeats 6400000 in
theorem specFormatSteps_any (A : Option Addr) (l : List (Int × Int)) (c lo hi : Nat) (w : World) (hl : l.length ≤ 1048577) (ha : RdSt w lo hi A l) (hhi : hi ≤ w.heap.size)  :
    Calls Tryz.prog 35 #[.slice A l.length c] w fun e w' => e = .returned (.string (fmtSt l)) ∧ Below w.heap.size w w' := by
  have HC : Hid (∀ (x : Int) (W : World), Below w.heap.size w W → Calls Tryz.prog 34 #[.int .i64 x] W fun e w' => e = .returned (.string (fmtI x)) ∧ Below W.heap.size W w') := hide (fun x W _ => specFormatInt_any x W)
  go_enter Tryz.func35, Tryz.ntmps35
  go_wp2_with fail
  refine (specStepsOk_any A l c lo hi w (by omega) ha hhi).mono ?_
  rintro e w0 ⟨rfl, hB0⟩
  have hsz0 := hB0.size
  cases hok : stOkB l
  · have HF := hide (show fmtSt l = ByteArray.empty from by unfold fmtSt; rw [hok]; rfl)
    clear hok
    go_wp2
    go_ret
    exact ⟨ret_str HF.out.symm, hB0⟩
  have HF := hide (show fmtSt l = joinB (l.map stepW) ⟨#[44]⟩ from by unfold fmtSt; rw [hok]; rfl)
  clear hok
  have hO0 := RowB.made w0 9 1 #[] 0 (by unfold maxLen; omega) rfl
  go_wp2
  go_loopw [3, 12] (fun v i wr => ∃ (k : Nat) (A1 : Option Addr) (c1 : Nat) (bs : List Nat), k ≤ l.length ∧ i = .int .i64 k ∧ v = .slice A1 k c1 ∧ RowB wr 9 1 A1 k c1 (((l.take k).map stepW).map .string) bs ∧ (∀ b ∈ bs, w.heap.size ≤ b) ∧ Below w.heap.size w wr) (fun _ i _ => l.length - (intOf i).toNat)
  case atStart => exact ⟨0, _, _, _, Nat.zero_le _, rfl, rfl, by simpa using hO0, by simp; omega, hB0.alloc (by omega) _⟩
  case round =>
    obtain ⟨k, A1, c1, bs, hk, rfl, rfl, hR, hbs, hB⟩ := hrel
    clear hO0 hB0
    have hsz := hB.size
    by_cases hlt : k < l.length
    · have har := ha.below hB hhi
      obtain ⟨b, off, rfl, h1, h2, hc⟩ := har (by omega)
      obtain ⟨g1, g2⟩ := hc k hlt
      clear hc har ha
      generalize hX : l.getD k (0, 0) = X at g1 g2
      obtain ⟨x, y⟩ := X
      simp only at g1 g2
      have HX := hide hX; clear hX
      have HT := hide (take_snoc (0, 0) hlt)
      have hxs := fmtI_size x
      have hys := fmtI_size y
      have ha1 : ¬ (9223372036854775807 ≤ (fmtI x).size) := by omega
      have ha2 : ¬ (9223372036854775807 < (fmtI x).size + 1) := by omega
      have ha3 : ¬ (9223372036854775807 < (fmtI x).size + 1 + (fmtI y).size) := by omega
      have ha4 : (9223372036854775807 < (fmtI x).size + 1) = False := by simp; omega
      have ha5 : (9223372036854775807 < (fmtI x).size + 1 + (fmtI y).size) = False := by simp; omega
      have HRW := hide hR
      have hlt2 : ∀ b ∈ bs, b < wr.heap.size := fun b hb => hR.lt b hb
      have HL2 := hide hlt2; clear hlt2 hR
      have HN := hide hbs; clear hbs
      obtain ⟨q0, q1⟩ := two_cells wr (.int .i64 x) (.int .i64 y) 128
      have hOI : OnlyIn bs wr (wr.alloc (.cells #[.int .i64 x, .int .i64 y] 128)) := (OnlyIn.refl bs wr).allocd _
      have hL0 : wr.heap.size < (wr.alloc (.cells #[.int .i64 x, .int .i64 y] 128)).heap.size := by simp
      have HNB : Hid (wr.heap.size ∉ bs) := hide fun h => by have := HL2.out _ h; omega
      go_wp2_with fail
      have hK : Kp bs wr (wr.alloc (.cells #[.int .i64 x, .int .i64 y] 128)) := (Kp.refl HL2.out).allocd _
      go_region_held3 (fun w' => w'.cell? ⟨wr.heap.size, 0, none⟩ = some (.int .i64 x) ∧ w'.cell? ⟨wr.heap.size, 1, none⟩ = some (.int .i64 y) ∧ OnlyIn bs wr w' ∧ wr.heap.size < w'.heap.size)
        (first | exact ⟨q0, q1, hOI.drewd, hL0⟩ | (go_split_ands; exact ⟨hN'.cellFar (by assumption) HNB.out (by assumption), hN'.cellFar (by assumption) HNB.out (by assumption), OnlyIn.more (by assumption) hN' (fun _ h => h), Nat.lt_of_lt_of_le (by assumption) hN'.size⟩) | (go_split_ands; exact ⟨(hb1.cell (p := ⟨wr.heap.size, 0, none⟩) (by assumption)).trans (by assumption), (hb1.cell (p := ⟨wr.heap.size, 1, none⟩) (by assumption)).trans (by assumption), OnlyIn.below (by assumption) hb1 (Nat.le_of_lt (by assumption)), Nat.lt_of_lt_of_le (by assumption) hb1.size⟩) | (go_split_ands; exact ⟨(World.cell?_alloc_lt _ _ ⟨wr.heap.size, 0, none⟩ (by assumption)).trans (by assumption), (World.cell?_alloc_lt _ _ ⟨wr.heap.size, 1, none⟩ (by assumption)).trans (by assumption), OnlyIn.allocd (by assumption) _, by simp; omega⟩))
        (first | (go_at_call 34; (try go_split_ands); refine (HC.out _ _ (OnlyIn.belowB hB (by assumption) HN.out hsz)).mono ?_; rintro e w' ⟨rfl, hb1⟩; have hK := Kp.belowd hb1 (by assumption); have hzz := Nat.lt_of_lt_of_le (show wr.heap.size < _ by assumption) hb1.size) | (refine step_pushB (by rfl) (.tmp 16) (.tmp 25) 67 (by rfl) 9 _ 1 16 Tryz.underlying67 Tryz.infoStr rfl (by omega) A1 k c1 _ bs (by rfl) ((hK.rowB HRW.out).allocd (fun q hq => (hK q hq).1) _) _ 0 1 1 [_] (by rfl) (by omega) rfl (one_new _ _ _) (one_cell rfl) (by omega) (by omega) ?_; intro A' c' bs' w' hR' hbs' hN'))
      all_goals (try go_split_ands)
      all_goals have hON := OnlyIn.belowB hB (by assumption) HN.out hsz
      all_goals go_wp2
      all_goals go_roundw
      all_goals first
        | (simp [intOf]; omega; done)
        | (refine ⟨k + 1, A', c', bs', by omega, by go_num, rfl, hR'.eqn rfl (by rw [HT.out, HX.out]; simp [stepW, colon]), ?_, hON⟩
           intro b hb
           rcases hbs' with rfl | rfl
           · exact HN.out b hb
           · simp at hb; omega)
    · obtain rfl : k = l.length := by omega
      have hsum := stepW_sum l
      have HR := hide (show RowB wr 9 1 A1 (l.map stepW).length c1 ((l.map stepW).map .string) bs from hR.eqn (by simp) (by rw [List.take_length]))
      have hJ := specJoinB_any A1 (l.map stepW) c1 bs ⟨#[44]⟩ wr (by rw [List.length_map]; omega) (by rw [List.length_map]; omega) (by decide) HR.out
      rw [List.length_map] at hJ
      have HJ := hide hJ; clear hJ hR hsum
      go_wp2_with fail
      refine HJ.out.mono ?_
      rintro e w3 ⟨rfl, hB3⟩
      have hB4 := hB.trans (hB3.mono hsz)
      clear hB3 HJ
      generalize joinB (l.map stepW) ⟨#[44]⟩ = J at HF ⊢
      go_wp2
      go_ret
      exact ⟨ret_str HF.out.symm, hB4⟩
set_option maxRecDepth 20000 in
set_option maxHeartbeats 6400000 in
theorem implFormatSteps_any (A : Option Addr) (l : List (Int × Int)) (c lo hi : Nat) (w : World) (hl : l.length ≤ 1048577) (ha : RdSt w lo hi A l) (hhi : hi ≤ w.heap.size) (hg : Nat) (ld : LdT w hg) (hhg : hg ≤ w.heap.size) :
    Calls Tryz.prog 46 #[.slice A l.length c] w fun e w' => e = .returned (.string (fmtSt l)) ∧ Below w.heap.size w w' := by
  have HC : Hid (∀ (x : Int) (W : World), Below w.heap.size w W → Calls Tryz.prog 45 #[.int .i64 x] W fun e w' => e = .returned (.string (fmtI x)) ∧ Below W.heap.size W w') := hide (fun x W hb => implFormatInt_any x hg W (ld.below hb hhg))
  go_enter Tryz.func46, Tryz.ntmps46
  go_wp2_with fail
  refine (implStepsOk_any A l c lo hi w (by omega) ha hhi).mono ?_
  rintro e w0 ⟨rfl, hB0⟩
  have hsz0 := hB0.size
  cases hok : stOkB l
  · have HF := hide (show fmtSt l = ByteArray.empty from by unfold fmtSt; rw [hok]; rfl)
    clear hok
    go_wp2
    go_ret
    exact ⟨ret_str HF.out.symm, hB0⟩
  have HF := hide (show fmtSt l = joinB (l.map stepW) ⟨#[44]⟩ from by unfold fmtSt; rw [hok]; rfl)
  clear hok
  have hO0 := RowB.made w0 9 1 #[] 0 (by unfold maxLen; omega) rfl
  go_wp2
  go_loopw [3, 12] (fun v i wr => ∃ (k : Nat) (A1 : Option Addr) (c1 : Nat) (bs : List Nat), k ≤ l.length ∧ i = .int .i64 k ∧ v = .slice A1 k c1 ∧ RowB wr 9 1 A1 k c1 (((l.take k).map stepW).map .string) bs ∧ (∀ b ∈ bs, w.heap.size ≤ b) ∧ Below w.heap.size w wr) (fun _ i _ => l.length - (intOf i).toNat)
  case atStart => exact ⟨0, _, _, _, Nat.zero_le _, rfl, rfl, by simpa using hO0, by simp; omega, hB0.alloc (by omega) _⟩
  case round =>
    obtain ⟨k, A1, c1, bs, hk, rfl, rfl, hR, hbs, hB⟩ := hrel
    clear hO0 hB0
    have hsz := hB.size
    by_cases hlt : k < l.length
    · have har := ha.below hB hhi
      obtain ⟨b, off, rfl, h1, h2, hc⟩ := har (by omega)
      obtain ⟨g1, g2⟩ := hc k hlt
      clear hc har ha
      generalize hX : l.getD k (0, 0) = X at g1 g2
      obtain ⟨x, y⟩ := X
      simp only at g1 g2
      have HX := hide hX; clear hX
      have HT := hide (take_snoc (0, 0) hlt)
      have hxs := fmtI_size x
      have hys := fmtI_size y
      have ha1 : ¬ (9223372036854775807 ≤ (fmtI x).size) := by omega
      have ha2 : ¬ (9223372036854775807 < (fmtI x).size + 1) := by omega
      have ha3 : ¬ (9223372036854775807 < (fmtI x).size + 1 + (fmtI y).size) := by omega
      have ha4 : (9223372036854775807 < (fmtI x).size + 1) = False := by simp; omega
      have ha5 : (9223372036854775807 < (fmtI x).size + 1 + (fmtI y).size) = False := by simp; omega
      have HRW := hide hR
      have hlt2 : ∀ b ∈ bs, b < wr.heap.size := fun b hb => hR.lt b hb
      have HL2 := hide hlt2; clear hlt2 hR
      have HN := hide hbs; clear hbs
      obtain ⟨q0, q1⟩ := two_cells wr (.int .i64 x) (.int .i64 y) 128
      have hOI : OnlyIn bs wr (wr.alloc (.cells #[.int .i64 x, .int .i64 y] 128)) := (OnlyIn.refl bs wr).allocd _
      have hL0 : wr.heap.size < (wr.alloc (.cells #[.int .i64 x, .int .i64 y] 128)).heap.size := by simp
      have HNB : Hid (wr.heap.size ∉ bs) := hide fun h => by have := HL2.out _ h; omega
      go_wp2_with fail
      have hK : Kp bs wr (wr.alloc (.cells #[.int .i64 x, .int .i64 y] 128)) := (Kp.refl HL2.out).allocd _
      go_region_held3 (fun w' => w'.cell? ⟨wr.heap.size, 0, none⟩ = some (.int .i64 x) ∧ w'.cell? ⟨wr.heap.size, 1, none⟩ = some (.int .i64 y) ∧ OnlyIn bs wr w' ∧ wr.heap.size < w'.heap.size)
        (first | exact ⟨q0, q1, hOI.drewd, hL0⟩ | (go_split_ands; exact ⟨hN'.cellFar (by assumption) HNB.out (by assumption), hN'.cellFar (by assumption) HNB.out (by assumption), OnlyIn.more (by assumption) hN' (fun _ h => h), Nat.lt_of_lt_of_le (by assumption) hN'.size⟩) | (go_split_ands; exact ⟨(hb1.cell (p := ⟨wr.heap.size, 0, none⟩) (by assumption)).trans (by assumption), (hb1.cell (p := ⟨wr.heap.size, 1, none⟩) (by assumption)).trans (by assumption), OnlyIn.below (by assumption) hb1 (Nat.le_of_lt (by assumption)), Nat.lt_of_lt_of_le (by assumption) hb1.size⟩) | (go_split_ands; exact ⟨(World.cell?_alloc_lt _ _ ⟨wr.heap.size, 0, none⟩ (by assumption)).trans (by assumption), (World.cell?_alloc_lt _ _ ⟨wr.heap.size, 1, none⟩ (by assumption)).trans (by assumption), OnlyIn.allocd (by assumption) _, by simp; omega⟩))
        (first | (go_at_call 45; (try go_split_ands); refine (HC.out _ _ (OnlyIn.belowB hB (by assumption) HN.out hsz)).mono ?_; rintro e w' ⟨rfl, hb1⟩; have hK := Kp.belowd hb1 (by assumption); have hzz := Nat.lt_of_lt_of_le (show wr.heap.size < _ by assumption) hb1.size) | (refine step_pushB (by rfl) (.tmp 16) (.tmp 25) 67 (by rfl) 9 _ 1 16 Tryz.underlying67 Tryz.infoStr rfl (by omega) A1 k c1 _ bs (by rfl) ((hK.rowB HRW.out).allocd (fun q hq => (hK q hq).1) _) _ 0 1 1 [_] (by rfl) (by omega) rfl (one_new _ _ _) (one_cell rfl) (by omega) (by omega) ?_; intro A' c' bs' w' hR' hbs' hN'))
      all_goals (try go_split_ands)
      all_goals have hON := OnlyIn.belowB hB (by assumption) HN.out hsz
      all_goals go_wp2
      all_goals go_roundw
      all_goals first
        | (simp [intOf]; omega; done)
        | (refine ⟨k + 1, A', c', bs', by omega, by go_num, rfl, hR'.eqn rfl (by rw [HT.out, HX.out]; simp [stepW, colon]), ?_, hON⟩
           intro b hb
           rcases hbs' with rfl | rfl
           · exact HN.out b hb
           · simp at hb; omega)
    · obtain rfl : k = l.length := by omega
      have hsum := stepW_sum l
      have HR := hide (show RowB wr 9 1 A1 (l.map stepW).length c1 ((l.map stepW).map .string) bs from hR.eqn (by simp) (by rw [List.take_length]))
      have hJ := stringsJoinB_any A1 (l.map stepW) c1 bs ⟨#[44]⟩ wr (by rw [List.length_map]; omega) (by rw [List.length_map]; omega) (by decide) HR.out
      rw [List.length_map] at hJ
      have HJ := hide hJ; clear hJ hR hsum
      go_wp2_with fail
      refine HJ.out.mono ?_
      rintro e w3 ⟨rfl, hB3⟩
      have hB4 := hB.trans (hB3.mono hsz)
      clear hB3 HJ
      generalize joinB (l.map stepW) ⟨#[44]⟩ = J at HF ⊢
      go_wp2
      go_ret
      exact ⟨ret_str HF.out.symm, hB4⟩
theorem fmtIs_size (l : List Int) : (fmtIs l).size ≤ 16 * l.length + 1 := by
  unfold fmtIs
  split
  · split
    · exact Nat.le_add_left _ _
    · have h := fmtI_sum l
      have := joinB_len (l := l.map fmtI) (y := comma) (a := 8 * l.length) (b := 1) (by rw [List.length_map]; omega) (by decide)
      have e : (joinB (l.map fmtI) comma).size = (Lib.join ((l.map fmtI).map (·.data.toList)) comma.data.toList).length := by simp [joinB, ByteArray.size]
      omega
  · exact Nat.zero_le _
set_option maxRecDepth 20000 in
set_option maxHeartbeats 1600000 in
theorem specFormatMode_any (m : Md) (U C : Option Addr) (cu cc lo hi : Nat) (w : World) (hu : m.use.length ≤ 1048577) (hc : m.con.length ≤ 1048577) (fu : RdI w lo hi U m.use) (fc : RdI w lo hi C m.con) (hhi : hi ≤ w.heap.size) :
    Calls Tryz.prog 37 #[.agg #[.int .i64 m.dur, .slice U m.use.length cu, .slice C m.con.length cc]] w fun e w' => e = .returned (.string (fmtMd m)) ∧ Below w.heap.size w w' := by
  go_enter Tryz.func37, Tryz.ntmps37
  go_wp2_with fail
  refine at_world fun V0 hW => ?_
  have z0 : V0.heap.size = w.heap.size + 1 := by rw [hW]; simp
  have k0 : Bk V0 w.heap.size 53 #[.int .i64 m.dur, .slice U m.use.length cu, .slice C m.con.length cc] := by rw [hW]; exact Bk.made w _ _
  have B : Below w.heap.size w V0 := by rw [hW]; exact (Below.refl _ _).alloc (Nat.le_refl _) _
  clear hW
  refine (specFormatInts_any U m.use cu lo hi V0 hu (fu.below B hhi) (by omega)).mono ?_
  rintro e V1 ⟨rfl, r⟩
  have z1 := r.size
  have k0 := k0.below r (by omega)
  have B := B.trans (r.mono (by omega)); clear r
  have c2 := k0.cell 2
  simp only [List.getElem?_toArray, List.getElem?_cons_succ, List.getElem?_cons_zero] at c2
  go_wp2_with fail
  refine (specFormatInts_any C m.con cc lo hi V1 hc (fc.below B hhi) (by omega)).mono ?_
  rintro e V2 ⟨rfl, r⟩
  have z2 := r.size
  have k0 := k0.below r (by omega)
  have hB := B.trans (r.mono (by omega)); clear r c2 B
  have z3 := hB.size
  by_cases hd : 1 ≤ m.dur ∧ m.dur ≤ 12
  case neg =>
    have HF := hide (show fmtMd m = ByteArray.empty from by unfold fmtMd durInB; rw [decide_eq_false hd]; rfl)
    have c0 := k0.cell 0
    simp only [List.getElem?_toArray, List.getElem?_cons_succ, List.getElem?_cons_zero] at c0
    go_wp2_with fail
    refine (l01In_any m.dur 1 12 _).mono ?_
    rintro e w4 ⟨rfl, rfl⟩
    rw [decide_eq_false hd]
    clear hd c0
    go_wp2
    go_ret
    exact ⟨ret_str HF.out.symm, hB⟩
  case pos =>
    have c0 := k0.cell 0
    simp only [List.getElem?_toArray, List.getElem?_cons_succ, List.getElem?_cons_zero] at c0
    go_wp2_with fail
    refine (l01In_any m.dur 1 12 _).mono ?_
    rintro e w4 ⟨rfl, rfl⟩
    rw [decide_eq_true hd]
    cases hu1 : m.use.all inI
    · have HF := hide (show fmtMd m = ByteArray.empty from by unfold fmtMd; rw [hu1]; simp)
      have hz : fmtIs m.use = ByteArray.empty := fmtIs_no (by rw [hu1]; decide)
      rw [hz]
      have hem : ByteArray.empty.toList.isEmpty = true := str_empty_yes rfl
      clear hd hz hu1 c0
      go_wp2
      go_ret
      exact ⟨ret_str HF.out.symm, hB⟩
    cases hc1 : m.con.all inI
    · have HF := hide (show fmtMd m = ByteArray.empty from by unfold fmtMd; rw [hc1]; simp)
      have hz : fmtIs m.con = ByteArray.empty := fmtIs_no (by rw [hc1]; decide)
      rw [hz]
      have hem : ByteArray.empty.toList.isEmpty = true := str_empty_yes rfl
      have hem2 : (fmtIs m.use).toList.isEmpty = false := str_empty_no (fmtIs_ne hu1)
      clear hd hz hu1 hc1 c0
      go_wp2
      go_ret
      exact ⟨ret_str HF.out.symm, hB⟩
    have HF := hide (show fmtMd m = fmtI m.dur ++ ⟨#[47]⟩ ++ fmtIs m.use ++ ⟨#[47]⟩ ++ fmtIs m.con from by unfold fmtMd durInB; rw [hu1, hc1, decide_eq_true hd]; rfl)
    have hem1 : (fmtIs m.use).toList.isEmpty = false := str_empty_no (fmtIs_ne hu1)
    have hem2 : (fmtIs m.con).toList.isEmpty = false := str_empty_no (fmtIs_ne hc1)
    have hs1 := fmtIs_size m.use
    have hs2 := fmtIs_size m.con
    have hs3 := fmtI_size m.dur
    have hs4 : (fmtI m.dur).size + (fmtIs m.use).size + (fmtIs m.con).size ≤ 33554500 := by omega
    clear hd hu1 hc1
    have HC := hide (specFormatInt_any m.dur V2)
    generalize fmtIs m.use = X1 at HF hem1 hs1 hs4 ⊢
    generalize fmtIs m.con = X2 at HF hem2 hs2 hs4 ⊢
    have HS1 := hide hs1; have HS2 := hide hs2; clear hs1 hs2
    go_wp2_with fail
    refine HC.out.mono ?_
    rintro e w5 ⟨rfl, hB5⟩
    have hB6 := hB.trans (hB5.mono z3)
    clear hB5 HC c0 hem1 hem2
    go_wp2
    go_ret
    exact ⟨ret_str HF.out.symm, hB6⟩
set_option maxRecDepth 20000 in
set_option maxHeartbeats 3200000 in
theorem implFormatMode_any (m : Md) (U C : Option Addr) (cu cc lo hi : Nat) (w : World) (hu : m.use.length ≤ 1048577) (hc : m.con.length ≤ 1048577) (fu : RdI w lo hi U m.use) (fc : RdI w lo hi C m.con) (hhi : hi ≤ w.heap.size) (hg : Nat) (ld : LdT w hg) (hhg : hg ≤ w.heap.size) :
    Calls Tryz.prog 22 #[.agg #[.int .i64 m.dur, .slice U m.use.length cu, .slice C m.con.length cc]] w fun e w' => e = .returned (.string (fmtMd m)) ∧ Below w.heap.size w w' := by
  have q1 : ∀ o v, o = Obj.cells #[.int .i64 m.dur, .slice U m.use.length cu, .slice C m.con.length cc] v → (w.alloc o).cell? ⟨w.heap.size, 1, none⟩ = some (.slice U m.use.length cu) ∧ (w.alloc o).cell? ⟨w.heap.size, 2, none⟩ = some (.slice C m.con.length cc) ∧ Below w.heap.size w (w.alloc o) ∧ w.heap.size < (w.alloc o).heap.size := by
    rintro _ v rfl
    exact ⟨(Bk.made w _ _).cell 1, (Bk.made w _ _).cell 2, (Below.refl _ _).alloc (Nat.le_refl _) _, by simp⟩
  obtain ⟨q1, q2, q3, q4⟩ := q1 _ 53 rfl
  have kk : Bk (w.alloc (.cells #[.int .i64 m.dur, .slice U m.use.length cu, .slice C m.con.length cc] 53)) w.heap.size 53 #[.int .i64 m.dur, .slice U m.use.length cu, .slice C m.con.length cc] := Bk.made w _ _
  go_enter Tryz.func22, Tryz.ntmps22
  go_wp2_with fail
  have KK := hide kk; clear kk
  go_region_held3 (fun w' => w'.cell? ⟨w.heap.size, 1, none⟩ = some (.slice U m.use.length cu) ∧ w'.cell? ⟨w.heap.size, 2, none⟩ = some (.slice C m.con.length cc) ∧ Only (w.heap.size + 1) (w.heap.size + 1) (w.alloc (.cells #[.int .i64 m.dur, .slice U m.use.length cu, .slice C m.con.length cc] 53)) w' ∧ w.heap.size < w'.heap.size)
    (first | exact ⟨q1, q2, (Only.refl _ _ _).drew, q4⟩ | (go_split_ands; exact ⟨(hb1.cell (p := ⟨w.heap.size, 1, none⟩) (by assumption)).trans (by assumption), (hb1.cell (p := ⟨w.heap.size, 2, none⟩) (by assumption)).trans (by assumption), Only.below (by assumption) hb1 (by first | (simp; done) | (simp; omega)), Nat.lt_of_lt_of_le (by assumption) hb1.size⟩))
    (first | (go_at_call_of 47 U; (try go_split_ands); have hBB := only_below_of q3 (by assumption); refine (implFormatInts_any U m.use cu lo hi _ hu (fu.below hBB hhi) (by have := hBB.size; omega) hg (ld.below hBB hhg) (by have := hBB.size; omega)).mono ?_; rintro e w' ⟨rfl, hb1⟩) | (go_at_call_of 47 C; (try go_split_ands); have hBB := only_below_of q3 (by assumption); refine (implFormatInts_any C m.con cc lo hi _ hc (fc.below hBB hhi) (by have := hBB.size; omega) hg (ld.below hBB hhg) (by have := hBB.size; omega)).mono ?_; rintro e w' ⟨rfl, hb1⟩))
  all_goals rename_i hS
  all_goals have ho := hS.2.2.1
  all_goals have k0 := KK.out.only ho (by omega)
  all_goals have hB := only_below_of q3 ho
  all_goals clear hS ho q1 q2 q3 q4
  case _ =>
    have z3 := hB.size
    by_cases hd : 1 ≤ m.dur ∧ m.dur ≤ 12
    case neg =>
      have HF := hide (show fmtMd m = ByteArray.empty from by unfold fmtMd durInB; rw [decide_eq_false hd]; rfl)
      have c0 := k0.cell 0
      simp only [List.getElem?_toArray, List.getElem?_cons_succ, List.getElem?_cons_zero] at c0
      go_wp2_with fail
      refine (within_any m.dur 1 12 _).mono ?_
      rintro e w4 ⟨rfl, rfl⟩
      rw [decide_eq_false hd]
      clear hd c0
      go_wp2
      go_ret
      exact ⟨ret_str HF.out.symm, hB⟩
    case pos =>
      have c0 := k0.cell 0
      simp only [List.getElem?_toArray, List.getElem?_cons_succ, List.getElem?_cons_zero] at c0
      go_wp2_with fail
      refine (within_any m.dur 1 12 _).mono ?_
      rintro e w4 ⟨rfl, rfl⟩
      rw [decide_eq_true hd]
      cases hu1 : m.use.all inI
      · have HF := hide (show fmtMd m = ByteArray.empty from by unfold fmtMd; rw [hu1]; simp)
        have hz : fmtIs m.use = ByteArray.empty := fmtIs_no (by rw [hu1]; decide)
        rw [hz]
        have hem : ByteArray.empty.toList.isEmpty = true := str_empty_yes rfl
        clear hd hz hu1 c0
        go_wp2
        go_ret
        exact ⟨ret_str HF.out.symm, hB⟩
      cases hc1 : m.con.all inI
      · have HF := hide (show fmtMd m = ByteArray.empty from by unfold fmtMd; rw [hc1]; simp)
        have hz : fmtIs m.con = ByteArray.empty := fmtIs_no (by rw [hc1]; decide)
        rw [hz]
        have hem : ByteArray.empty.toList.isEmpty = true := str_empty_yes rfl
        have hem2 : (fmtIs m.use).toList.isEmpty = false := str_empty_no (fmtIs_ne hu1)
        clear hd hz hu1 hc1 c0
        go_wp2
        go_ret
        exact ⟨ret_str HF.out.symm, hB⟩
      have HF := hide (show fmtMd m = fmtI m.dur ++ ⟨#[47]⟩ ++ fmtIs m.use ++ ⟨#[47]⟩ ++ fmtIs m.con from by unfold fmtMd durInB; rw [hu1, hc1, decide_eq_true hd]; rfl)
      have hem1 : (fmtIs m.use).toList.isEmpty = false := str_empty_no (fmtIs_ne hu1)
      have hem2 : (fmtIs m.con).toList.isEmpty = false := str_empty_no (fmtIs_ne hc1)
      have hs1 := fmtIs_size m.use
      have hs2 := fmtIs_size m.con
      have hs3 := fmtI_size m.dur
      have hs4 : (fmtI m.dur).size + (fmtIs m.use).size + (fmtIs m.con).size ≤ 33554500 := by omega
      clear hd hu1 hc1
      have HC := hide (implFormatInt_any m.dur hg _ (ld.below hB hhg))
      generalize fmtIs m.use = X1 at HF hem1 hs1 hs4 ⊢
      generalize fmtIs m.con = X2 at HF hem2 hs2 hs4 ⊢
      have HS1 := hide hs1; have HS2 := hide hs2; clear hs1 hs2
      go_wp2_with fail
      refine HC.out.mono ?_
      rintro e w5 ⟨rfl, hB5⟩
      have hB6 := hB.trans (hB5.mono z3)
      clear hB5 HC c0 hem1 hem2
      go_wp2
      go_ret
      exact ⟨ret_str HF.out.symm, hB6⟩
end Go.Proofs.YtcecgbjolngdbaaGreatDoor
