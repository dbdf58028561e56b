/- Projects are drawn: what the law FnActs asks of them. -/
import Derived.Test.YtcecgbjolngdbaaGreatDoorDraw2
import Derived.Test.YtcecgbjolngdbaaGreatDoorLawRs
import Derived.Deep.Cut
import Derived.Deep.CutRange
import Derived.Deep.DeepCutAuto
namespace Go.Proofs.YtcecgbjolngdbaaGreatDoor
open Go.ChangeShapes Go.WideShapes Go.ChangeAt Go.RowKit
set_option linter.unusedVariables false
set_option linter.unusedSimpArgs false
attribute [local go_sem ↓] Go.wp_at_zero Go.wp_at_succ

theorem new_low {lo m : Nat} {bs bs3 : List Nat} (h : ∀ q ∈ bs, lo ≤ q) (h3 : bs3 = bs ∨ bs3 = [m]) (hm : lo ≤ m) : ∀ q ∈ bs3, lo ≤ q := by
  rcases h3 with rfl | rfl
  · exact h
  · intro q hq; simp at hq; omega
theorem only_push {g : Nat} {a w2 w3 : World} {o : Obj} {bs : List Nat} (h : Only g (g + 1) a w2) (h3 : OnlyIn bs (w2.alloc o) w3) (hb : ∀ q ∈ bs, a.heap.size ≤ q) : Only g (g + 1) a w3 := (h.alloc o).thenIn h3 fun q hq => .inr (hb q hq)
theorem curN_push {g : Nat} {A : Option Addr} {n c : Nat} {w2 w3 : World} {o : Obj} {bs : List Nat} (h : CurN w2 g A n c) (h3 : OnlyIn bs (w2.alloc o) w3) {m : Nat} (hb : ∀ q ∈ bs, m ≤ q) (hg : g < m) : CurN w3 g A n c := (h.alloc o).onlyIn h3 fun hm => by have := hb g hm; omega
theorem bk_push {k : Nat} {t : TypeId} {cs : Array Value} {w2 w3 : World} {o : Obj} {bs : List Nat} (h : Bk w2 k t cs) (h3 : OnlyIn bs (w2.alloc o) w3) (hb : k ∉ bs) : Bk w3 k t cs := (h3.block k (by have := h.lt; simp; omega) hb).trans (h.alloc o)
set_option maxRecDepth 20000 in
set_option maxHeartbeats 3200000 in
theorem l05Setup_any (g : Nat) (A : Option Addr) (n c lo hi : Nat) (w : World) (hn : n ≤ 16777216) (hC : CurN w g A n c) (hA : RdB w lo hi A n) (hd : hi ≤ g) :
    Calls Tryz.prog 132 #[.pointer (some ⟨g, 0, none⟩)] w fun e w' => ∃ (T : Option Addr) (k ct : Nat), e = .returned (.slice T k ct) ∧ CurN w' g A n c ∧ Only g (g + 1) w w' := by
  have hg := hC.lt
  have HR0 := hide (RowB.made w 25 1 #[] 0 (by unfold maxLen; omega) rfl)
  have HC0 := hide (hC.alloc (.cells #[] 25))
  have HO0 := hide (show Only g (g + 1) w (w.alloc (.cells #[] 25)) from (Only.refl _ _ _).alloc _)
  have hAw : Hid (∀ W, Only g (g + 1) w W → RdB W lo hi A n) := hide fun W hW => hA.only hW (by omega) (by omega)
  clear hC hA
  go_enter Tryz.func132, Tryz.ntmps132
  go_wp2
  go_loopw [3, 4] (fun v i wr => ∃ (k nr : Nat) (T : Option Addr) (ct : Nat) (xs : List Value) (bT : List Nat), k ≤ 4 ∧ nr ≤ k ∧ v = .slice T nr ct ∧ i = .int .i64 k ∧ Hid (RowB wr 25 1 T nr ct xs bT ∧ ∀ b ∈ bT, w.heap.size ≤ b) ∧ CurN wr g A n c ∧ Only g (g + 1) w wr) (fun _ i _ => 4 - (intOf i).toNat)
  case atStart => exact ⟨0, 0, _, 0, _, _, by omega, Nat.le_refl _, rfl, rfl, hide ⟨HR0.out, fun b hb => by simp at hb; omega⟩, HC0.out, HO0.out⟩
  case round =>
    obtain ⟨wo, rfl⟩ : ∃ wo : World, wo = wr := ⟨_, rfl⟩
    clear HR0 HC0 HO0
    obtain ⟨k, nr, T, ct, xs, bT, hk, hnr, rfl, rfl, HT, hCo, hB⟩ := hrel
    have hsz := hB.size
    by_cases hlt : k < 4
    · have hlti : (k : Int) < 4 := by omega
      have HRU := hide (RowB.made wo 3 1 #[] 0 (by unfold maxLen; omega) rfl)
      have HC1 := hide (hCo.alloc (.cells #[] 3))
      have HO1 := hide (show Only g (g + 1) wo (wo.alloc (.cells #[] 3)) from (Only.refl _ _ _).alloc _)
      have HB := hide hB
      clear hCo hB
      go_wp2
      go_loopw [5, 6] (fun v i wr => ∃ (q nq : Nat) (U : Option Addr) (cu : Nat) (ys : List Value) (bU : List Nat), q ≤ 4 ∧ nq ≤ q ∧ v = .slice U nq cu ∧ i = .int .i64 q ∧ Hid (RowB wr 3 1 U nq cu ys bU ∧ ∀ b ∈ bU, wo.heap.size ≤ b) ∧ CurN wr g A n c ∧ Only g (g + 1) wo wr) (fun _ i _ => 4 - (intOf i).toNat)
      case atStart => exact ⟨0, 0, _, 0, _, _, by omega, Nat.le_refl _, rfl, rfl, hide ⟨HRU.out, fun b hb => by simp at hb; omega⟩, HC1.out, HO1.out⟩
      case round =>
        obtain ⟨wq, rfl⟩ : ∃ wq : World, wq = wr := ⟨_, rfl⟩
        clear HRU HC1 HO1
        obtain ⟨q, nq, U, cu, ys, bU, hq, hnq, rfl, rfl, HU, hCq, hBq⟩ := hrel
        have hqz := hBq.size
        by_cases hql : q < 4
        · have hqli : (q : Int) < 4 := by omega
          by_cases hkq : k = q
          · subst hkq
            have HCQ := hide hCq
            have HBQ := hide hBq
            clear hCq hBq
            go_wp2_with (at_builtin; go_must (refine wpList_pushB _ (.tmp 23) (.tmp 25) 25 3 _ 1 8 Tryz.underlying25 Tryz.infoInt rfl (by omega) U nq cu ys bU (HU.out.1.allocd (fun b hb => HU.out.1.lt b hb) _) wq.heap.size 0 1 1 [.int .i64 0] (by omega) rfl (one_new _ _ _) (one_cell rfl) (by omega) (by omega) ?_ rfl rfl rfl rfl))
            intro A3 c3 bs3 w3 hR3 hb3 hO3
            have HR3 := hide hR3
            have HB3 := hide hb3
            have HO3 := hide hO3
            clear hR3 hb3 hO3
            go_wp2
            go_roundw
            case rel => exact ⟨k + 1, nq + 1, A3, c3, _, bs3, by omega, by omega, rfl, by go_num, hide ⟨HR3.out, new_low HU.out.2 HB3.out (by first | omega | (simp; omega))⟩, curN_push HCQ.out HO3.out HU.out.2 (by omega), only_push HBQ.out HO3.out HU.out.2⟩
            case measure => simp [intOf]; omega
          · have hkq1 : ¬ (k : Int) = (q : Int) := by omega
            go_wp2_with fail
            refine (l01BelowN_any g A n c 3 lo hi wq hn hCq (hAw.out _ (HB.out.trans hBq)) hd (by omega)).mono ?_
            rintro e w2 ⟨x, rfl, hx0, hx1, _, hC2, hO2⟩
            have HCQ := hide hC2
            have HBQ := hide (hBq.trans hO2)
            have y2 := hO2.size
            have HU2 := hide (HU.out.1.keep fun b hb => hO2.block b (HU.out.1.lt b hb) (by have := HU.out.2 b hb; omega))
            clear hCq hBq hC2 hO2 hx1
            go_wp2_with (at_builtin; go_must (refine wpList_pushB _ (.tmp 23) (.tmp 25) 25 3 _ 1 8 Tryz.underlying25 Tryz.infoInt rfl (by omega) U nq cu ys bU (HU2.out.allocd (fun b hb => HU2.out.lt b hb) _) w2.heap.size 0 1 1 [.int .i64 x] (by omega) rfl (one_new _ _ _) (one_cell rfl) (by omega) (by omega) ?_ rfl rfl rfl rfl))
            intro A3 c3 bs3 w3 hR3 hb3 hO3
            have HR3 := hide hR3
            have HB3 := hide hb3
            have HO3 := hide hO3
            clear hR3 hb3 hO3
            go_wp2
            go_roundw
            case rel => exact ⟨q + 1, nq + 1, A3, c3, _, bs3, by omega, by omega, rfl, by go_num, hide ⟨HR3.out, new_low HU.out.2 HB3.out (by first | omega | (simp; omega))⟩, curN_push HCQ.out HO3.out HU.out.2 (by omega), only_push HBQ.out HO3.out HU.out.2⟩
            case measure => simp [intOf]; omega
        · have hqli : ¬ (q : Int) < 4 := by omega
          have HCQ := hide hCq
          have HBQ := hide (HB.out.trans hBq)
          have HT2 := hide (HT.out.1.keep fun b hb => hBq.block b (HT.out.1.lt b hb) (by have := HT.out.2 b hb; omega))
          clear hCq hBq
          go_wp2_with (at_builtin; go_must (refine wpList_pushB _ (.tmp 27) (.tmp 29) 69 25 _ 1 24 Tryz.underlying69 Tryz.infoSS rfl (by omega) T nr ct xs bT (HT2.out.allocd (fun b hb => HT2.out.lt b hb) _) wq.heap.size 0 1 1 [.slice U nq cu] (by omega) rfl (one_new _ _ _) (one_cell rfl) (by omega) (by omega) ?_ rfl rfl rfl rfl))
          intro A3 c3 bs3 w3 hR3 hb3 hO3
          have HR3 := hide hR3
          have HB3 := hide hb3
          have HO3 := hide hO3
          clear hR3 hb3 hO3
          go_wp2
          go_roundw
          case rel => exact ⟨k + 1, nr + 1, A3, c3, _, bs3, by omega, by omega, rfl, by go_num, hide ⟨HR3.out, new_low HT.out.2 HB3.out (by first | omega | (simp; omega))⟩, curN_push HCQ.out HO3.out HT.out.2 (by omega), only_push HBQ.out HO3.out HT.out.2⟩
          case measure => simp [intOf]; omega
    · have hlti : ¬ (k : Int) < 4 := by omega
      go_wp2
      go_ret
      first
        | exact ⟨T, nr, ct, rfl, hCo, hB⟩
        | exact ⟨⟨T, nr, ct, rfl⟩, hCo, hB⟩
end Go.Proofs.YtcecgbjolngdbaaGreatDoor
