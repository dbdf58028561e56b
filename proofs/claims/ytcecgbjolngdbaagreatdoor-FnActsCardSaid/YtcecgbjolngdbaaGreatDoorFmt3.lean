/- Lists of numbers, steps and modes are parsed. -/
import Derived.Test.YtcecgbjolngdbaaGreatDoorFmt2
import Derived.Test.YtcecgbjolngdbaaGreatDoorSteps4
import Derived.Test.YtcecgbjolngdbaaGreatDoorKitOw
namespace Go.Proofs.YtcecgbjolngdbaaGreatDoor
open Go.ChangeShapes Go.WideShapes Go.ChangeAt Go.RowKit
set_option linter.unusedVariables false
set_option linter.unusedSimpArgs false

theorem extract_size (s : ByteArray) (a b : Nat) : (s.extract a b).size ≤ s.size := by rw [ByteArray.size_extract]; omega
theorem splitTo_size (s y : ByteArray) (k : Nat) : ∀ x ∈ (splitTo s y k).1, x.size ≤ s.size := by
  induction k with
  | zero => intro x hx; simp [splitTo] at hx
  | succ k ih =>
    rw [splitTo]
    split
    · split
      · intro x hx
        rcases List.mem_append.1 hx with hx | hx
        · exact ih x hx
        · simp at hx; subst hx; exact extract_size _ _ _
      · exact ih
    · exact ih
theorem splitAny_size (s y : ByteArray) : ∀ x ∈ splitAny s y, x.size ≤ s.size := by
  unfold splitAny
  intro x hx
  rcases List.mem_append.1 hx with hx | hx
  · exact splitTo_size s y _ x hx
  · simp at hx; subst hx; exact extract_size _ _ _
theorem all_take_succ {α : Type} {p : α → Bool} {l : List α} {k : Nat} (d : α) (hk : k < l.length) (h : (l.take k).all p = true) (hx : p (l.getD k d) = true) : (l.take (k + 1)).all p = true := by
  rw [take_snoc d hk, List.all_append, h, List.all_cons, hx]; rfl
theorem all_no {α : Type} {p : α → Bool} {l : List α} {k : Nat} (d : α) (hk : k < l.length) (hx : p (l.getD k d) = false) : ¬ l.all p = true := by
  rw [List.all_eq_true]
  intro h
  have := h _ (getD_mem d hk)
  rw [hx] at this; cases this
theorem parIs_no {s : ByteArray} (hd : ¬ s = dash) (h : ¬ (splitAny s comma).all okI = true) : parIs s = ([], false) := by unfold parIs; rw [if_neg hd, if_neg h]
theorem parIs_yes {s : ByteArray} (hd : ¬ s = dash) (h : (splitAny s comma).all okI = true) : parIs s = ((splitAny s comma).map valI, true) := by unfold parIs; rw [if_neg hd, if_pos h]
theorem Off.one {g lo hi : Nat} (h : g < lo ∨ hi ≤ g) : Off [g] lo hi := fun b hb hh => by simp at hb; omega
theorem Off.grown {bs bs' : List Nat} {lo hi n : Nat} (h : Off bs lo hi) (hb : bs' = bs ∨ bs' = [n]) (hn : hi ≤ n) : Off bs' lo hi := by
  rcases hb with rfl | rfl
  · exact h
  · exact Off.one (.inr hn)
theorem grown_lo {bs bs' : List Nat} {lo n : Nat} (h : ∀ b ∈ bs, lo ≤ b) (hb : bs' = bs ∨ bs' = [n]) (hn : lo ≤ n) : ∀ b ∈ bs', lo ≤ b := by
  rcases hb with rfl | rfl
  · exact h
  · intro b hb; simp at hb; omega
set_option maxRecDepth 20000 in
set_option maxHeartbeats 1600000 in
theorem specParseInts_any (s : ByteArray) (w : World) (hs : s.size ≤ 1048577)  :
    Calls Tryz.prog 117 #[.string s] w fun e w' => ∃ A c, e = .returned (.tuple #[.slice A (parIs s).1.length c, .bool (parIs s).2]) ∧ OwnR w' w.heap.size w'.heap.size 3 1 A (parIs s).1.length c ((parIs s).1.map (.int .i64)) ∧ Below w.heap.size w w' := by
  have HC : Hid (∀ (x : ByteArray) (W : World), x.size ≤ 16777216 → Below w.heap.size w W → Calls Tryz.prog 57 #[.string x] W fun e w' => e = .returned (.tuple #[.int .i64 (valI x), .bool (okI x)]) ∧ Below W.heap.size W w') := hide (fun x W h1 _ => specParseInt_any x W h1)
  by_cases hd : s = dash
  · obtain rfl : s = ⟨#[45]⟩ := hd
    have hO0 := OwnR.made w w.heap.size 3 1 #[] 0 (Nat.le_refl _) (by unfold maxLen; omega) rfl
    have HF := hide (show parIs ⟨#[45]⟩ = ([], true) from rfl)
    have HO := hide hO0; clear hO0
    have HB := hide ((Below.refl w.heap.size w).alloc (Nat.le_refl _) (.cells #[] 3))
    go_enter Tryz.func117, Tryz.ntmps117
    go_wp2
    go_ret2
    exact ⟨_, _, by rw [HF.out]; rfl, by rw [HF.out]; simpa using HO.out, HB.out⟩
  have h1 := str_ne_list (b := ⟨#[45]⟩) hd
  have h2 := beq_list (b := ⟨#[45]⟩) hd
  have h3 : ¬ s.toList = [45] := fun e => h1 (by rw [e, ByteArray.toList_eq])
  have h4 : (s.toList == [45]) = false := by rw [beq_eq_false_iff_ne]; exact h3
  have HD := hide hd; clear hd
  go_enter Tryz.func117, Tryz.ntmps117
  go_wp2_with fail
  refine at_world fun V0 hW => ?_
  have z0 : V0.heap.size = w.heap.size + 1 := by rw [hW]; simp
  have hR0 : RowB V0 3 1 (some ⟨w.heap.size, 0, none⟩) 0 0 [] [w.heap.size] := by rw [hW]; exact RowB.made w 3 1 #[] 0 (by unfold maxLen; omega) rfl
  have B0 : Below w.heap.size w V0 := by rw [hW]; exact (Below.refl _ _).alloc (Nat.le_refl _) _
  clear hW h1 h2 h3 h4
  refine (specSplitAny_any s ⟨#[44]⟩ V0 (by omega) (by decide)).mono ?_
  rintro e V1 ⟨A, c, rfl, oL, r⟩
  have z1 := r.size
  have hR0 := hR0.below r (fun b hb => by simp at hb; omega)
  have B0 := B0.trans (r.mono (by omega)); clear r
  have HL := hide (show splitAny s ⟨#[44]⟩ = splitAny s comma from rfl)
  have hLn := splitAny_len s ⟨#[44]⟩
  have HSZ := hide (splitAny_size s ⟨#[44]⟩)
  have hRd := oL.rdS; clear oL
  generalize splitAny s ⟨#[44]⟩ = L at HL hLn HSZ hRd ⊢
  have HR0 := hide hR0; clear hR0
  have HB0 := hide B0
  have hRd0 := hide hRd; clear hRd
  go_wp2
  go_loopw [4, 16] (fun v i wr => ∃ (k : Nat) (A1 : Option Addr) (c1 : Nat) (bs : List Nat), k ≤ L.length ∧ i = .int .i64 k ∧ v = .slice A1 k c1 ∧ RowB wr 3 1 A1 k c1 (((L.take k).map valI).map (.int .i64)) bs ∧ Hid ((∀ b ∈ bs, w.heap.size ≤ b) ∧ Off bs V0.heap.size V1.heap.size) ∧ Hid ((L.take k).all okI = true) ∧ Below w.heap.size w wr ∧ V1.heap.size ≤ wr.heap.size ∧ Hid (RdS wr V0.heap.size V1.heap.size A L)) (fun _ i _ => L.length - (intOf i).toNat)
  case atStart => exact ⟨0, _, _, _, Nat.zero_le _, rfl, rfl, by simpa using HR0.out, hide ⟨by simp, Off.one (.inl (by omega))⟩, hide (by simp), HB0.out, Nat.le_refl _, hRd0⟩
  case round =>
    obtain ⟨k, A1, c1, bs, hk, rfl, rfl, hR, HN, HA, hB, hz, HRd⟩ := hrel
    clear HR0 HB0 hRd0 B0
    have hsz := hB.size
    by_cases hlt : k < L.length
    · obtain ⟨b, off, rfl, g1, g2, hc⟩ := HRd.out (by omega)
      have q1 := hc k hlt
      have hxs := HSZ.out _ (getD_mem ByteArray.empty hlt)
      clear hc
      have HT := hide (take_snoc ByteArray.empty hlt)
      have HY := hide (fun h => all_take_succ (p := okI) ByteArray.empty hlt HA.out h)
      have HNo := hide (all_no (p := okI) ByteArray.empty hlt)
      generalize L.getD k ByteArray.empty = x at q1 hxs HT HY HNo
      go_wp2_with fail
      refine (HC.out x wr (by omega) hB).mono ?_
      rintro e w1 ⟨rfl, hB1⟩
      have hB2 := hB.trans (hB1.mono hsz)
      have hsz1 := hB1.size
      clear q1
      cases hok : okI x
      · have HF := hide (parIs_no (s := s) HD.out (by rw [← HL.out]; exact HNo.out hok))
        clear hok
        go_wp2
        go_ret2
        exact ⟨_, _, by rw [HF.out]; rfl, by rw [HF.out]; exact OwnR.empty _ _ _ _ _, hB2⟩
      · have HK := hide (HY.out hok); clear hok
        have hR1 := hR.below hB1 (fun b hb => hR.lt b hb)
        have hRd1 := HRd.out.below hB1 hz
        have HRd1 := hide hRd1; clear hRd1 HRd hR hB1
        have HL2 := hide (fun b (hb : b ∈ bs) => hR1.lt b hb)
        have HB2 := hide hB2; clear hB2
        go_wp2_with (at_builtin; go_must (refine wpList_pushB _ (.tmp 27) (.tmp 29) 25 3 _ 1 8 Tryz.underlying25 Tryz.infoInt rfl (by omega) A1 k c1 _ bs (hR1.allocd HL2.out _) w1.heap.size 0 1 1 [.int .i64 (valI x)] (by omega) rfl (one_new _ _ _) (one_cell rfl) (by omega) (by omega) ?_ rfl rfl rfl rfl))
        intro A' c' bs' w' hR' hbs' hN'
        clear hR1
        have hzz := hN'.size
        have hz2 : V1.heap.size ≤ (w1.alloc (.cells #[.int .i64 (valI x)] 3)).heap.size := by simp; omega
        go_wp2
        go_roundw
        case rel =>
          refine ⟨k + 1, A', c', bs', by omega, by go_num, rfl, hR'.eqn rfl (by rw [HT.out]; simp), hide ⟨grown_lo HN.out.1 hbs' (by omega), HN.out.2.grown hbs' (by omega)⟩, HK, OnlyIn.belowB (HB2.out.alloc (by omega) _) hN' HN.out.1 (by simp; omega), by omega, hide ?_⟩
          refine RdS.keep ?_ (hN'.at_off HN.out.2 hz2)
          exact HRd1.out.keep (fun q _ hq => Below.heap_alloc _ _ _ (by omega))
        case measure => simp [intOf]; omega
    · obtain rfl : k = L.length := by omega
      have hall : L.all okI = true := by have := HA.out; rwa [List.take_length] at this
      have HF := hide (show parIs s = (L.map valI, true) from by rw [HL.out]; exact parIs_yes HD.out (by rw [← HL.out]; exact hall))
      have HO := hide (hR.own (lo := w.heap.size) (hi := wr.heap.size) (fun b hb => ⟨HN.out.1 b hb, hR.lt b hb⟩))
      clear hR hall
      go_wp2
      go_ret2
      exact ⟨A1, c1, by rw [HF.out]; simp, by rw [HF.out]; exact HO.out.eqn (by simp) (by rw [List.take_length]), hB⟩
set_option maxRecDepth 20000 in
set_option maxHeartbeats 1600000 in
theorem implParseInts_any (s : ByteArray) (w : World) (hs : s.size ≤ 1048577) (hg : Nat) (ld : LdE w hg) (hhg : hg ≤ w.heap.size) :
    Calls Tryz.prog 85 #[.string s] w fun e w' => ∃ A c, e = .returned (.tuple #[.slice A (parIs s).1.length c, .bool (parIs s).2]) ∧ OwnR w' w.heap.size w'.heap.size 3 1 A (parIs s).1.length c ((parIs s).1.map (.int .i64)) ∧ Below w.heap.size w w' := by
  have HC : Hid (∀ (x : ByteArray) (W : World), x.size ≤ 16777216 → Below w.heap.size w W → Calls Tryz.prog 84 #[.string x] W fun e w' => e = .returned (.tuple #[.int .i64 (valI x), .bool (okI x)]) ∧ Below W.heap.size W w') := hide (fun x W h1 hb => implParseInt_any x hg W h1 (ld.below hb hhg) (Nat.le_trans hhg hb.size))
  by_cases hd : s = dash
  · obtain rfl : s = ⟨#[45]⟩ := hd
    have hO0 := OwnR.made w w.heap.size 3 1 #[] 0 (Nat.le_refl _) (by unfold maxLen; omega) rfl
    have HF := hide (show parIs ⟨#[45]⟩ = ([], true) from rfl)
    have HO := hide hO0; clear hO0
    have HB := hide ((Below.refl w.heap.size w).alloc (Nat.le_refl _) (.cells #[] 3))
    go_enter Tryz.func85, Tryz.ntmps85
    go_wp2
    go_ret2
    exact ⟨_, _, by rw [HF.out]; rfl, by rw [HF.out]; simpa using HO.out, HB.out⟩
  have h1 := str_ne_list (b := ⟨#[45]⟩) hd
  have h2 := beq_list (b := ⟨#[45]⟩) hd
  have h3 : ¬ s.toList = [45] := fun e => h1 (by rw [e, ByteArray.toList_eq])
  have h4 : (s.toList == [45]) = false := by rw [beq_eq_false_iff_ne]; exact h3
  have HD := hide hd; clear hd
  go_enter Tryz.func85, Tryz.ntmps85
  go_wp2_with fail
  refine at_world fun V0 hW => ?_
  have z0 : V0.heap.size = w.heap.size + 1 := by rw [hW]; simp
  have hR0 : RowB V0 3 1 (some ⟨w.heap.size, 0, none⟩) 0 0 [] [w.heap.size] := by rw [hW]; exact RowB.made w 3 1 #[] 0 (by unfold maxLen; omega) rfl
  have B0 : Below w.heap.size w V0 := by rw [hW]; exact (Below.refl _ _).alloc (Nat.le_refl _) _
  clear hW h1 h2 h3 h4
  refine (implSplitAny_any s ⟨#[44]⟩ V0 (by omega) (by decide)).mono ?_
  rintro e V1 ⟨A, c, rfl, oL, r⟩
  have z1 := r.size
  have hR0 := hR0.below r (fun b hb => by simp at hb; omega)
  have B0 := B0.trans (r.mono (by omega)); clear r
  have HL := hide (show splitAny s ⟨#[44]⟩ = splitAny s comma from rfl)
  have hLn := splitAny_len s ⟨#[44]⟩
  have HSZ := hide (splitAny_size s ⟨#[44]⟩)
  have hRd := oL.rdS; clear oL
  generalize splitAny s ⟨#[44]⟩ = L at HL hLn HSZ hRd ⊢
  have HR0 := hide hR0; clear hR0
  have HB0 := hide B0
  have hRd0 := hide hRd; clear hRd
  go_wp2
  go_loopw [4, 16] (fun v i wr => ∃ (k : Nat) (A1 : Option Addr) (c1 : Nat) (bs : List Nat), k ≤ L.length ∧ i = .int .i64 k ∧ v = .slice A1 k c1 ∧ RowB wr 3 1 A1 k c1 (((L.take k).map valI).map (.int .i64)) bs ∧ Hid ((∀ b ∈ bs, w.heap.size ≤ b) ∧ Off bs V0.heap.size V1.heap.size) ∧ Hid ((L.take k).all okI = true) ∧ Below w.heap.size w wr ∧ V1.heap.size ≤ wr.heap.size ∧ Hid (RdS wr V0.heap.size V1.heap.size A L)) (fun _ i _ => L.length - (intOf i).toNat)
  case atStart => exact ⟨0, _, _, _, Nat.zero_le _, rfl, rfl, by simpa using HR0.out, hide ⟨by simp, Off.one (.inl (by omega))⟩, hide (by simp), HB0.out, Nat.le_refl _, hRd0⟩
  case round =>
    obtain ⟨k, A1, c1, bs, hk, rfl, rfl, hR, HN, HA, hB, hz, HRd⟩ := hrel
    clear HR0 HB0 hRd0 B0
    have hsz := hB.size
    by_cases hlt : k < L.length
    · obtain ⟨b, off, rfl, g1, g2, hc⟩ := HRd.out (by omega)
      have q1 := hc k hlt
      have hxs := HSZ.out _ (getD_mem ByteArray.empty hlt)
      clear hc
      have HT := hide (take_snoc ByteArray.empty hlt)
      have HY := hide (fun h => all_take_succ (p := okI) ByteArray.empty hlt HA.out h)
      have HNo := hide (all_no (p := okI) ByteArray.empty hlt)
      generalize L.getD k ByteArray.empty = x at q1 hxs HT HY HNo
      go_wp2_with fail
      refine (HC.out x wr (by omega) hB).mono ?_
      rintro e w1 ⟨rfl, hB1⟩
      have hB2 := hB.trans (hB1.mono hsz)
      have hsz1 := hB1.size
      clear q1
      cases hok : okI x
      · have HF := hide (parIs_no (s := s) HD.out (by rw [← HL.out]; exact HNo.out hok))
        clear hok
        go_wp2
        go_ret2
        exact ⟨_, _, by rw [HF.out]; rfl, by rw [HF.out]; exact OwnR.empty _ _ _ _ _, hB2⟩
      · have HK := hide (HY.out hok); clear hok
        have hR1 := hR.below hB1 (fun b hb => hR.lt b hb)
        have hRd1 := HRd.out.below hB1 hz
        have HRd1 := hide hRd1; clear hRd1 HRd hR hB1
        have HL2 := hide (fun b (hb : b ∈ bs) => hR1.lt b hb)
        have HB2 := hide hB2; clear hB2
        go_wp2_with (at_builtin; go_must (refine wpList_pushB _ (.tmp 27) (.tmp 29) 25 3 _ 1 8 Tryz.underlying25 Tryz.infoInt rfl (by omega) A1 k c1 _ bs (hR1.allocd HL2.out _) w1.heap.size 0 1 1 [.int .i64 (valI x)] (by omega) rfl (one_new _ _ _) (one_cell rfl) (by omega) (by omega) ?_ rfl rfl rfl rfl))
        intro A' c' bs' w' hR' hbs' hN'
        clear hR1
        have hzz := hN'.size
        have hz2 : V1.heap.size ≤ (w1.alloc (.cells #[.int .i64 (valI x)] 3)).heap.size := by simp; omega
        go_wp2
        go_roundw
        case rel =>
          refine ⟨k + 1, A', c', bs', by omega, by go_num, rfl, hR'.eqn rfl (by rw [HT.out]; simp), hide ⟨grown_lo HN.out.1 hbs' (by omega), HN.out.2.grown hbs' (by omega)⟩, HK, OnlyIn.belowB (HB2.out.alloc (by omega) _) hN' HN.out.1 (by simp; omega), by omega, hide ?_⟩
          refine RdS.keep ?_ (hN'.at_off HN.out.2 hz2)
          exact HRd1.out.keep (fun q _ hq => Below.heap_alloc _ _ _ (by omega))
        case measure => simp [intOf]; omega
    · obtain rfl : k = L.length := by omega
      have hall : L.all okI = true := by have := HA.out; rwa [List.take_length] at this
      have HF := hide (show parIs s = (L.map valI, true) from by rw [HL.out]; exact parIs_yes HD.out (by rw [← HL.out]; exact hall))
      have HO := hide (hR.own (lo := w.heap.size) (hi := wr.heap.size) (fun b hb => ⟨HN.out.1 b hb, hR.lt b hb⟩))
      clear hR hall
      go_wp2
      go_ret2
      exact ⟨A1, c1, by rw [HF.out]; simp, by rw [HF.out]; exact HO.out.eqn (by simp) (by rw [List.take_length]), hB⟩
end Go.Proofs.YtcecgbjolngdbaaGreatDoor
