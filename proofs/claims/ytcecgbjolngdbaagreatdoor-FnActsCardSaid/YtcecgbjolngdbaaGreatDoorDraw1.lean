/- Steps are drawn. -/
import Derived.Test.YtcecgbjolngdbaaGreatDoorCur
import Derived.Test.YtcecgbjolngdbaaGreatDoorKitIn
import Derived.Test.YtcecgbjolngdbaaGreatDoorKitKp
import Derived.Test.YtcecgbjolngdbaaGreatDoorSteps4
import Derived.Test.YtcecgbjolngdbaaGreatDoorPlainLw
import Derived.Test.YtcecgbjolngdbaaGreatDoorFmt2
import Derived.Deep.RegionHeld3
namespace Go.Proofs.YtcecgbjolngdbaaGreatDoor
open Go.ChangeShapes Go.WideShapes Go.ChangeAt Go.RowKit
set_option linter.unusedVariables false
set_option linter.unusedSimpArgs false

/-- Steps as they are drawn: in order from 0 on, none far behind the one before. -/
def DrS (l : List (Int × Int)) : Prop :=
  (∀ s ∈ l, (0 ≤ s.1 ∧ s.1 ≤ stA l (l.length - 1)) ∧ (0 ≤ s.2 ∧ s.2 ≤ 20)) ∧ l.Pairwise (fun a b => a.1 < b.1) ∧ stA l 0 = 0 ∧ 1 ≤ l.length ∧ stA l (l.length - 1) ≤ 9 * ((l.length : Int) - 1)
theorem DrS.one {k : Int} (h : 0 ≤ k ∧ k ≤ 20) : DrS [((0 : Int), k)] := by
  refine ⟨fun s hs => ?_, List.pairwise_singleton _ _, rfl, by simp, by simp [stA]⟩
  simp only [List.mem_singleton] at hs
  subst hs
  exact ⟨⟨Int.le_refl _, by simp [stA]⟩, h⟩
theorem DrS.snoc {l : List (Int × Int)} {v u : Int} (h : DrS l) (hv : 0 ≤ v ∧ v < 9) (hu : 0 ≤ u ∧ u ≤ 20) : DrS (l ++ [(stA l (l.length - 1) + 1 + v, u)]) := by
  obtain ⟨h1, h2, h3, h4, h5⟩ := h
  have hl : (l ++ [(stA l (l.length - 1) + 1 + v, u)]).length - 1 = l.length := by simp
  have hlast : stA (l ++ [(stA l (l.length - 1) + 1 + v, u)]) l.length = stA l (l.length - 1) + 1 + v := by
    have e : (l ++ [(stA l (l.length - 1) + 1 + v, u)]).getD l.length (0, 0) = (stA l (l.length - 1) + 1 + v, u) := by simp
    show ((l ++ [(stA l (l.length - 1) + 1 + v, u)]).getD l.length (0, 0)).1 = _
    rw [e]
  refine ⟨fun s hs => ?_, ?_, ?_, by simp, ?_⟩
  · rw [hl, hlast]
    rcases List.mem_append.1 hs with hs | hs
    · have := h1 s hs
      omega
    · simp only [List.mem_singleton] at hs
      subst hs
      obtain ⟨s0, hs0⟩ := List.exists_mem_of_length_pos (by omega : 0 < l.length)
      have := h1 s0 hs0
      simp only
      omega
  · rw [List.pairwise_append]
    refine ⟨h2, List.pairwise_singleton _ _, fun a ha b hb => ?_⟩
    simp only [List.mem_singleton] at hb
    subst hb
    have := h1 a ha
    simp only
    omega
  · have e : stA (l ++ [(stA l (l.length - 1) + 1 + v, u)]) 0 = stA l 0 := by
      show ((l ++ [(stA l (l.length - 1) + 1 + v, u)]).getD 0 (0, 0)).1 = (l.getD 0 (0, 0)).1
      rw [List.getD_eq_getElem?_getD, List.getD_eq_getElem?_getD, List.getElem?_append_left (by omega)]
    rw [e]; exact h3
  · rw [hl, hlast]
    simp only [List.length_append, List.length_singleton]
    omega
theorem DrS.ok {l : List (Int × Int)} (h : DrS l) (h3 : l.length ≤ 3) : stOkB l = true := by
  obtain ⟨h1, h2, h4, h5, h6⟩ := h
  exact (stOk_iff l).2 ⟨fun s hs => by have := h1 s hs; omega, h2, h4, h5, by omega⟩
theorem RdB.onlyIn {w w' : World} {lo hi : Nat} {A : Option Addr} {n : Nat} {bs : List Nat} (h : RdB w lo hi A n) (hb : OnlyIn bs w w') (hf : ∀ x ∈ bs, ¬ (lo ≤ x ∧ x < hi)) (hs : hi ≤ w.heap.size) : RdB w' lo hi A n := fun h0 => by
  obtain ⟨b, off, e, h1, h2, hc⟩ := h h0
  refine ⟨b, off, e, h1, h2, fun j hj => ?_⟩
  obtain ⟨x, x0, x1, hx⟩ := hc j hj
  exact ⟨x, x0, x1, (World.cell?_of_block (a := ⟨b, off + j, none⟩) (hb.block b (by omega) (fun hm => hf b hm ⟨h1, h2⟩))).trans hx⟩
theorem CurN.onlyIn {w w' : World} {g : Nat} {A : Option Addr} {n c : Nat} {bs : List Nat} (h : CurN w g A n c) (hb : OnlyIn bs w w') (hf : g ∉ bs) : CurN w' g A n c := h.keep (hb.block g h.lt hf)
theorem OnlyIn.one {g : Nat} {w w' : World} (h : Only g (g + 1) w w') : OnlyIn [g] w w' := ⟨h.os, h.tape, h.output, h.size, fun k hk hn => h.block k hk (fun hh => hn (by simp; omega))⟩
theorem Kp.only {bs : List Nat} {w W W' : World} {lo hi : Nat} (h : Kp bs w W) (hb : Only lo hi W W') (hd : ∀ b ∈ bs, ¬ (lo ≤ b ∧ b < hi)) : Kp bs w W' := fun b hm => ⟨Nat.lt_of_lt_of_le (h b hm).1 hb.size, (hb.block b (h b hm).1 (hd b hm)).trans (h b hm).2⟩
theorem Only.thenIn {lo hi : Nat} {a w w' : World} {bs : List Nat} (h : Only lo hi a w) (r : OnlyIn bs w w') (hb : ∀ x ∈ bs, (lo ≤ x ∧ x < hi) ∨ a.heap.size ≤ x) : Only lo hi a w' :=
  ⟨r.os.trans h.os, r.tape.trans h.tape, r.output.trans h.output, Nat.le_trans h.size r.size, fun k hk hn => (r.block k (Nat.lt_of_lt_of_le hk h.size) (fun hm => by have := hb k hm; omega)).trans (h.block k hk hn)⟩
set_option maxRecDepth 20000 in
set_option maxHeartbeats 6400000 in
theorem l03Draw_any (g : Nat) (A : Option Addr) (n c : Nat) (lo hi : Nat) (w : World) (hn : n ≤ 16777216) (hC : CurN w g A n c) (hA : RdB w lo hi A n) (hd : hi ≤ g) :
    Calls Tryz.prog 130 #[.pointer (some ⟨g, 0, none⟩)] w fun e w' => ∃ A' c' l, e = .returned (.slice A' (List.length l) c') ∧ stOkB l = true ∧ l.length ≤ 3 ∧ OwnR w' w.heap.size w'.heap.size 128 2 A' l.length c' (flatSt l) ∧ CurN w' g A n c ∧ Only g (g + 1) w w' := by
  have hg := hC.lt
  go_enter Tryz.func130, Tryz.ntmps130
  go_wp2_with fail
  refine (l01BelowN_any g A n c 4 lo hi w hn hC hA hd (by omega)).mono ?_
  rintro e w1 ⟨k1, rfl, hk0, hk1, _, hC1, hO1⟩
  have hk1 := hk1 (by decide)
  have z1 := hO1.size
  have hA1 := hA.only hO1 (by omega) (by omega)
  clear hC
  have hR0 := RowB.made w1 128 2 #[.int .i64 0, .int .i64 (1 + k1)] 1 (by unfold maxLen; omega) rfl
  have hD := hide (DrS.one (k := 1 + k1) (by omega))
  have bA : ∀ o, Below w1.heap.size w1 (w1.alloc o) := fun o => (Below.refl _ _).alloc (Nat.le_refl _) o
  have HC2 : Hid (∀ o, CurN (w1.alloc o) g A n c) := hide (fun o => hC1.alloc o)
  have HA2 : Hid (∀ o, RdB (w1.alloc o) lo hi A n) := hide (fun o => hA1.below (bA o) (by omega))
  have HO2 : Hid (∀ o, Only g (g + 1) w (w1.alloc o)) := hide (fun o => hO1.trans ((Only.refl _ _ _).alloc o))
  have HR := hide hR0
  clear bA hR0 hC1 hA1 hO1
  go_wp2_with fail
  refine at_world fun W hW => ?_
  have zW : W.heap.size = w1.heap.size + 1 := by rw [hW]; simp
  have hCW : CurN W g A n c := by rw [hW]; exact HC2.out _
  have hAW : RdB W lo hi A n := by rw [hW]; exact HA2.out _
  have hOW : Only g (g + 1) w W := by rw [hW]; exact HO2.out _
  have hRW : RowB W 128 2 (some ⟨w1.heap.size, 0, none⟩) 1 1 [.int .i64 0, .int .i64 (1 + k1)] [w1.heap.size] := by rw [hW]; exact HR.out
  clear hW HC2 HA2 HO2 HR
  refine (l01BelowN_any g A n c 6 lo hi W hn hCW hAW hd (by omega)).mono ?_
  rintro e w2 ⟨k2, rfl, hj0, hj1, _, hC2, hO2⟩
  have hj1 := hj1 (by decide)
  have z2 := hO2.size
  have hA2 := hAW.only hO2 (by omega) (by omega)
  have hR2 : RowB w2 128 2 (some ⟨w1.heap.size, 0, none⟩) 1 1 [.int .i64 0, .int .i64 (1 + k1)] [w1.heap.size] := hRW.keep fun b hb => hO2.block b (by simp at hb; omega) (by simp at hb; omega)
  have hOO := hOW.trans hO2
  obtain ⟨k0, rfl⟩ : ∃ k : Nat, k2 = k := ⟨k2.toNat, by omega⟩
  clear hCW hAW hOW hRW hO2
  go_wp2
  go_loopw [3, 4] (fun v i wr => ∃ (k : Nat) (A1 : Option Addr) (c1 : Nat) (l : List (Int × Int)) (bs : List Nat), l.length + k ≤ 3 ∧ i = .int .i64 k ∧ v = .slice A1 l.length c1 ∧ Hid (DrS l) ∧ RowB wr 128 2 A1 l.length c1 (flatSt l) bs ∧ (∀ b ∈ bs, w.heap.size ≤ b) ∧ CurN wr g A n c ∧ Only g (g + 1) w wr) (fun _ i _ => (intOf i).toNat)
  case atStart => exact ⟨k0 / 2, _, _, [((0 : Int), 1 + k1)], [w1.heap.size], by simp; omega, val_int (by omega), rfl, hD, by simpa [flatSt] using hR2, fun b hb => by simp at hb; omega, hC2, hOO⟩
  case round =>
    obtain ⟨k, A1, c1, l, bs, hlk, rfl, rfl, HD, hR, hbs, hCr, hB⟩ := hrel
    clear hR2 hOO hC2 hA2 hD
    have hsz := hB.size
    by_cases hlt : 0 < k
    · obtain ⟨m, hm⟩ : ∃ m, l.length = m + 1 := ⟨l.length - 1, by have := HD.out.2.2.2.1; omega⟩
      obtain ⟨b, rfl, rfl⟩ := hR.at_ (by omega)
      have hbw := hbs b (by simp)
      have hbl := hR.lt b (by simp)
      have g0 : wr.cell? ⟨b, m * 2, none⟩ = some (.int .i64 (stA l m)) := by
        rw [hR.cellAt _ (by omega)]
        exact flat_get (fun s : Int × Int => [Value.int .i64 s.1, Value.int .i64 s.2]) 2 (fun _ => rfl) l (0, 0) m 0 (by omega) (by omega)
      have HDS : Hid (∀ v u : Int, 0 ≤ v → v < 9 → 0 ≤ u → u < 5 → DrS (l ++ [(stA l m + 1 + v, u)])) := hide (fun v u v0 v1 u0 u1 => by
        have := HD.out.snoc (v := v) (u := u) ⟨v0, v1⟩ ⟨u0, by omega⟩
        rwa [hm, Nat.add_sub_cancel] at this)
      have hst : 0 ≤ stA l m ∧ stA l m ≤ 27 := by
        obtain ⟨h1, _, _, h4, h5⟩ := HD.out
        have e : l.getD m (0, 0) ∈ l := getD_mem (0, 0) (by omega)
        have := (h1 _ e).1.1
        rw [hm, Nat.add_sub_cancel] at h5
        have e2 : (l.getD m (0, 0)).1 = stA l m := rfl
        rw [e2] at this
        omega
      have HAR := hide (hA.only hB (by omega) (by omega))
      have HRB : Hid (∀ W', OnlyIn [g, b] wr W' → RdB W' lo hi A n) := hide (fun W' ho => HAR.out.onlyIn ho (fun x hx => by simp at hx; omega) (by omega))
      have HRW := hide (show RowB wr 128 2 (some ⟨b, 0, none⟩) (m + 1) c1 (flatSt l) [b] from hm ▸ hR)
      have HLD : Hid (∀ w' c2, RowB w' 128 2 (some ⟨b, 0, none⟩) (m + 1) c2 (flatSt l) [b] → w'.cell? ⟨b, m * 2, none⟩ = some (.int .i64 (stA l m))) := hide (fun w' c2 h => by
        rw [h.cellAt _ (by omega)]
        exact flat_get (fun s : Int × Int => [Value.int .i64 s.1, Value.int .i64 s.2]) 2 (fun _ => rfl) l (0, 0) m 0 (by omega) (by omega))
      have HL := hide hm
      rw [hm]
      have hm0 : (0 : Int) ≤ (m : Int) := by omega
      have hmi : IntKind.i64.wrap (m : Int) = (m : Int) := wrap_nat m (by omega)
      have hm2' : m < m + 1 := by omega
      have hK : Kp [b] wr wr := Kp.refl (fun x hx => by simp at hx; omega)
      have hgb : g ≠ b := by omega
      have HGB := hide hgb
      have hOI : OnlyIn [g, b] wr wr := OnlyIn.refl _ _
      have hW0 : wr.heap.size ≤ wr.heap.size := Nat.le_refl _
      have hmb : m ≤ 16777216 := by omega
      clear hR hm hbs
      generalize stA l m = a at g0 hst HDS HLD
      have G0 := hide g0
      go_wp2_with fail
      have hmi2 : (m : Int) < (m : Int) + 1 := by omega
      have hx0 : ∀ w', OnlyIn [g, b] wr w' → Kp [b] wr w' → w'.cell? ⟨b, m * 2, none⟩ = some (.int .i64 a) := fun w' _ hk => (World.cell?_of_block (a := ⟨b, m * 2, none⟩) (hk b (by simp)).2).trans G0.out
      have HX0 := hide hx0; clear hx0
      go_region_held3 (fun w' => CurN w' g A n c ∧ w'.cell? ⟨b, m * 2, none⟩ = some (.int .i64 a) ∧ OnlyIn [g, b] wr w' ∧ wr.heap.size ≤ w'.heap.size)
        (first | exact ⟨hCr, g0, hOI.drewd, hW0⟩ | (go_split_ands; exact ⟨hC', HX0.out _ (by assumption) hK, (by assumption), (by assumption)⟩) | (go_split_ands; exact ⟨CurN.onlyIn (by assumption) hN' (by simp; exact HGB.out), hcl', OnlyIn.more (by assumption) hN' (fun _ h => by simp at h; simp [h]), Nat.le_trans (by assumption) hN'.size⟩) | (go_split_ands; exact ⟨CurN.alloc (by assumption) _, (World.cell?_alloc_lt _ _ ⟨b, m * 2, none⟩ (by show b < _; omega)).trans (by assumption), OnlyIn.allocd (by assumption) _, by simp; omega⟩))
        (first | (go_at_call_of 129 (Value.int IntKind.i64 9); (try go_split_ands); refine (l01BelowN_any g A n c _ lo hi _ hn (by assumption) (HRB.out _ (by assumption)) hd (by omega)).mono ?_; rintro e w' ⟨v9, rfl, hv90, hv91, _, hC', ho1⟩; have hv91 := hv91 (by decide); have hK := Kp.only (by assumption) ho1 (fun x hx => by simp at hx; omega); have hOI := OnlyIn.more (by assumption) (OnlyIn.one ho1) (fun _ h => by simp at h; simp [h]); have hzz := Nat.le_trans (by assumption) ho1.size) | (go_at_call_of 129 (Value.int IntKind.i64 5); (try go_split_ands); refine (l01BelowN_any g A n c _ lo hi _ hn (by assumption) (HRB.out _ (by assumption)) hd (by omega)).mono ?_; rintro e w' ⟨v5, rfl, hv50, hv51, _, hC', ho1⟩; have hv51 := hv51 (by decide); have hK := Kp.only (by assumption) ho1 (fun x hx => by simp at hx; omega); have hOI := OnlyIn.more (by assumption) (OnlyIn.one ho1) (fun _ h => by simp at h; simp [h]); have hzz := Nat.le_trans (by assumption) ho1.size) | (refine step_pushK (by rfl) (.tmp 17) (.tmp 32) 68 (by rfl) 128 _ 2 16 Tryz.underlying68 Tryz.infoSt rfl (by omega) b (m + 1) c1 _ (by rfl) ((hK.rowB HRW.out).allocd (fun q hq => (hK q hq).1) _) _ 0 1 1 [_, _] (by rfl) (by omega) rfl (two_new _ _ _ _) (two_cell rfl rfl) (by omega) (by omega) ?_; intro A' c' bs' w' hR' hbs' hN' hold; have hcl' := HLD.out _ _ hold))
      all_goals (try go_split_ands)
      have hBF : Only g (g + 1) w w' := hB.thenIn (by assumption) (fun x hx => by simp at hx; omega)
      have HDN := hide (HDS.out v9 v5 hv90 hv91 hv50 hv51)
      have HLL := hide (show (l ++ [(a + 1 + v9, v5)]).length = m + 1 + 1 from by rw [List.length_append, HL.out]; rfl)
      have ew : IntKind.i64.wrap (IntKind.i64.wrap (a + 1) + v9) = a + 1 + v9 := by rw [IntWalk.i64_in (a + 1) (by omega), IntWalk.i64_in _ (by omega)]
      have hRF : RowB w' 128 2 A' (m + 1 + 1) c' (flatSt (l ++ [(a + 1 + v9, v5)])) bs' := hR'.eqn rfl (by rw [flatSt_app, ew]; rfl)
      have hbF : ∀ q ∈ bs', w.heap.size ≤ q := fun q hq => by
        rcases hbs' with rfl | ⟨g', rfl, hg'⟩
        · simp at hq; omega
        · rw [World.size_alloc] at hg'
          simp at hq; omega
      clear hR' hold hcl' hN'
      go_wp2
      go_roundw
      case rel => exact ⟨k - 1, A', c', l ++ [(a + 1 + v9, v5)], bs', by have := HLL.out; have := HL.out; omega, val_int (by omega), by rw [HLL.out], HDN, by rw [HLL.out]; exact hRF, hbF, by assumption, hBF⟩
      case measure => simp [intOf]; omega
    · have hk : k = 0 := by omega
      subst hk
      have HOK := hide (HD.out.ok (by omega))
      have hRO := hR.own (lo := w.heap.size) (hi := wr.heap.size) (fun b hb => ⟨hbs b hb, hR.lt b hb⟩)
      have hl3 : l.length ≤ 3 := by omega
      clear hR
      go_wp2
      go_ret
      exact ⟨A1, c1, l, rfl, HOK.out, hl3, hRO, hCr, hB⟩
end Go.Proofs.YtcecgbjolngdbaaGreatDoor
