/- What the laws' own helpers do with modes. -/
import Derived.Test.YtcecgbjolngdbaaGreatDoorKit
import Derived.Test.YtcecgbjolngdbaaGreatDoorPlain
import Derived.Test.YtcecgbjolngdbaaGreatDoorPlainMd
import Derived.Test.YtcecgbjolngdbaaGreatDoorLaw
namespace Go.Proofs.YtcecgbjolngdbaaGreatDoor
open Go.ChangeShapes Go.WideShapes Go.ChangeAt Go.RowKit
set_option linter.unusedVariables false

theorem only4 (w : World) (g : Nat) (v1 v2 v3 v4 : Value) : Only g (g + 3) w ((((w.setCell ⟨g + 1 + 1, 2, none⟩ v1).setCell ⟨g + 1, 0, none⟩ v2).setCell ⟨g + 1, 1, none⟩ v3).setCell ⟨g + 1, 2, none⟩ v4) :=
  ((((Only.refl _ _ _).setCell ⟨by dsimp only; omega, by dsimp only; omega⟩ _).setCell ⟨by dsimp only; omega, by dsimp only; omega⟩ _).setCell ⟨by dsimp only; omega, by dsimp only; omega⟩ _).setCell ⟨by dsimp only; omega, by dsimp only; omega⟩ _
theorem szIntS_any (A : Option Addr) (n c : Nat) (q : Int) (w : World) (hn : n ≤ 9223372036854775807) (hq0 : 0 ≤ q) (hq : q ≤ 16777216) :
    Calls Tryz.prog 32 #[.slice A n c, .int .i64 q] w fun e w' => ∃ r, e = .returned (.int .i64 r) ∧ (r = -1 ∨ (0 ≤ r ∧ r ≤ q ∧ (n : Int) + r = q)) ∧ w = w' := by
  by_cases h : (n : Int) ≤ q
  · go_enter Tryz.func32, Tryz.ntmps32
    go_wp2
    go_ret
    exact ⟨_, rfl, .inr ⟨by omega, by omega, by omega⟩, rfl⟩
  · go_enter Tryz.func32, Tryz.ntmps32
    go_wp2
    go_ret
    exact ⟨_, rfl, .inl rfl, rfl⟩
set_option maxHeartbeats 800000 in
theorem szMode_any (d : Int) (U C : Option Addr) (n k cu cc : Nat) (q : Int) (w : World) (hn : n ≤ 9223372036854775807) (hk : k ≤ 9223372036854775807) (hq0 : 0 ≤ q) (hq : q ≤ 16777216) :
    Calls Tryz.prog 172 #[.agg #[.int .i64 d, .slice U n cu, .slice C k cc], .int .i64 q] w fun e w' => ∃ r, e = .returned (.int .i64 r) ∧ (r = -1 ∨ (0 ≤ r ∧ r ≤ q ∧ (n : Int) + k + r = q)) ∧ Below w.heap.size w w' := by
  have HB : Hid (∀ o, Below w.heap.size w (w.alloc o)) := fun o => (Below.refl _ _).alloc (Nat.le_refl _) _
  go_enter Tryz.func172, Tryz.ntmps172
  go_wp2_with fail
  refine (szIntS_any U n cu q _ hn hq0 hq).mono ?_
  rintro e w1 ⟨r, rfl, hr, rfl⟩
  rcases hr with rfl | ⟨r0, r1, r2⟩
  · go_wp2
    go_ret
    exact ⟨_, rfl, .inl rfl, HB.out _⟩
  · have HR := hide r2; clear r2
    go_wp2_with fail
    refine (szIntS_any C k cc r _ hk r0 (by omega)).mono ?_
    rintro e w1 ⟨r', rfl, hr, rfl⟩
    rcases hr with rfl | ⟨s0, s1, s2⟩
    · go_wp2
      go_ret
      exact ⟨_, rfl, .inl rfl, HB.out _⟩
    · have HR' := hide s2; clear s2
      go_wp2
      go_ret
      exact ⟨_, rfl, .inr ⟨s0, by omega, by have := HR.out; have := HR'.out; omega⟩, HB.out _⟩
set_option maxHeartbeats 1600000 in
theorem toMode_any (m : Md) (U C : Option Addr) (cu cc lo hi : Nat) (w : World) (hu : m.use.length ≤ 16777216) (hc : m.con.length ≤ 16777216) (fu : RdI w lo hi U m.use) (fc : RdI w lo hi C m.con) (hhi : hi ≤ w.heap.size) :
    Calls Tryz.prog 174 #[.agg #[.int .i64 m.dur, .slice U m.use.length cu, .slice C m.con.length cc]] w fun e w' => ∃ U' cu' C' cc', e = .returned (.agg #[.int .i64 m.dur, .slice U' m.use.length cu', .slice C' m.con.length cc']) ∧
      OwnR w' w.heap.size w'.heap.size 3 1 U' m.use.length cu' (m.use.map (.int .i64)) ∧ OwnR w' w.heap.size w'.heap.size 3 1 C' m.con.length cc' (m.con.map (.int .i64)) ∧ Below w.heap.size w w' := by
  go_enter Tryz.func174, Tryz.ntmps174
  go_wp2_with fail
  refine at_world fun W3 hW => ?_
  have z3 : W3.heap.size = w.heap.size + 3 := by rw [hW]; simp
  have k0 : Bk W3 w.heap.size 185 #[.int .i64 m.dur, .slice U m.use.length cu, .slice C m.con.length cc] := by
    rw [hW]; exact ((Bk.made w _ _).alloc _).alloc _
  have k1 : Bk W3 (w.heap.size + 1) 53 #[.int .i64 0, .slice none 0 0, .slice none 0 0] := by
    rw [hW]
    have := (Bk.made (w.alloc (.cells #[.int .i64 m.dur, .slice U m.use.length cu, .slice C m.con.length cc] 185)) 53 #[.int .i64 0, .slice none 0 0, .slice none 0 0]).alloc (.cells #[.int .i64 m.dur, .slice none 0 0, .slice none 0 0] 53)
    simpa using this
  have k2 : Bk W3 (w.heap.size + 2) 53 #[.int .i64 m.dur, .slice none 0 0, .slice none 0 0] := by
    rw [hW]
    have := Bk.made ((w.alloc (.cells #[.int .i64 m.dur, .slice U m.use.length cu, .slice C m.con.length cc] 185)).alloc (.cells #[.int .i64 0, .slice none 0 0, .slice none 0 0] 53)) 53 #[.int .i64 m.dur, .slice none 0 0, .slice none 0 0]
    simpa using this
  have B3 : Below w.heap.size w W3 := by
    rw [hW]; exact (((Below.refl _ _).alloc (Nat.le_refl _) _).alloc (by simp) _).alloc (by simp; omega) _
  clear hW
  refine (toIntS_any U m.use cu lo hi W3 hu (fu.below B3 hhi) (by omega)).mono ?_
  rintro e w4 ⟨U', cu', rfl, oU, r4⟩
  have z4 := r4.size
  have k0 := k0.below r4 (by omega)
  have k1 := k1.below r4 (by omega)
  have k2 := k2.below r4 (by omega)
  have B4 := B3.trans (r4.mono (by omega))
  have oU := oU.mono (show w.heap.size + 3 ≤ W3.heap.size from by omega) (Nat.le_refl _)
  clear r4 B3
  have c1 := k0.cell 2
  have c2 := k2.cell 1
  have c3 := k2.frozen 1
  simp only [List.getElem?_toArray, List.getElem?_cons_succ, List.getElem?_cons_zero] at c1 c2
  go_wp2_with fail
  refine at_world fun W5 hW => ?_
  clear c1 c2 c3
  have z5 : W5.heap.size = w4.heap.size := by rw [hW]; simp [World.setCell]
  have k1 : Bk W5 (w.heap.size + 1) 53 #[.int .i64 0, .slice none 0 0, .slice none 0 0] := by rw [hW]; exact k1.far (by show w.heap.size + 1 ≠ w.heap.size + 2; omega) _
  have k2 : Bk W5 (w.heap.size + 2) 53 #[.int .i64 m.dur, .slice U' m.use.length cu', .slice none 0 0] := by rw [hW]; exact k2.set 1 _
  have B5 : Below w.heap.size w W5 := by rw [hW]; exact B4.setCell (by show w.heap.size ≤ w.heap.size + 2; omega) _
  have oU : OwnR W5 (w.heap.size + 3) w4.heap.size 3 1 U' m.use.length cu' (m.use.map (.int .i64)) := by
    rw [hW]; exact oU.keep fun k hk _ => Below.heap_setCell _ _ _ _ (by show k ≠ w.heap.size + 2; omega)
  clear hW B4 k0
  refine (toIntS_any C m.con cc lo hi W5 hc (fc.below B5 hhi) (by omega)).mono ?_
  rintro e w6 ⟨C', cc', rfl, oC, r6⟩
  have z6 := r6.size
  have k1 := k1.below r6 (by omega)
  have k2 := k2.below r6 (by omega)
  have B6 := B5.trans (r6.mono (by omega))
  have oU := oU.below r6 (by omega)
  have oC := oC.mono (show w.heap.size + 3 ≤ W5.heap.size from by omega) (Nat.le_refl _)
  clear r6 B5
  have c1 := k2.cell 0
  have c2 := k2.cell 1
  have c3 := k2.cell 2
  have c4 := k2.frozen 2
  have c5 := k1.cell 0
  have c6 := k1.cell 1
  have c7 := k1.cell 2
  have c8 := k1.frozen 0
  have c9 := k1.frozen 1
  have c10 := k1.frozen 2
  simp only [List.getElem?_toArray, List.getElem?_cons_succ, List.getElem?_cons_zero] at c1 c2 c3 c5 c6 c7
  go_wp2
  refine bodyPost_ret (v := .agg #[.int .i64 m.dur, .slice U' m.use.length cu', .slice C' m.con.length cc']) ?_ rfl ⟨U', cu', C', cc', rfl, ?_, ?_, ?_⟩
  · simp [results, Tryz.results174, go_sem, *]
  · refine (oU.only (only4 w6 w.heap.size _ _ _ _) (by omega) (by omega)).mono (by omega) ?_
    simp [World.setCell]; omega
  · refine (oC.only (only4 w6 w.heap.size _ _ _ _) (by omega) (by omega)).mono (by omega) ?_
    simp [World.setCell]
  · exact below_only B6 (only4 w6 w.heap.size _ _ _ _) (Nat.le_refl _) (by omega)
set_option maxHeartbeats 1600000 in
theorem eqMode_same (m : Md) (U C U' C' : Option Addr) (cu cc cu' cc' lo hi lo' hi' : Nat) (w : World) (hu : m.use.length ≤ 16777216) (hc : m.con.length ≤ 16777216) (fu : RdI w lo hi U m.use) (fc : RdI w lo hi C m.con) (fu' : RdI w lo' hi' U' m.use) (fc' : RdI w lo' hi' C' m.con) (hhi : hi ≤ w.heap.size) (hhi' : hi' ≤ w.heap.size) :
    Calls Tryz.prog 179 #[.agg #[.int .i64 m.dur, .slice U m.use.length cu, .slice C m.con.length cc], .agg #[.int .i64 m.dur, .slice U' m.use.length cu', .slice C' m.con.length cc']] w fun e w' => e = .returned (.bool true) ∧ Below w.heap.size w w' := by
  have HB : Hid (∀ o o', Below w.heap.size w ((w.alloc o).alloc o')) := fun o o' => ((Below.refl _ _).alloc (Nat.le_refl _) _).alloc (by simp) _
  have H1 : Hid (∀ o o', RdI ((w.alloc o).alloc o') lo hi U m.use) := fun o o' => fu.below (HB.out o o') hhi
  have H2 : Hid (∀ o o', RdI ((w.alloc o).alloc o') lo hi C m.con) := fun o o' => fc.below (HB.out o o') hhi
  have H3 : Hid (∀ o o', RdI ((w.alloc o).alloc o') lo' hi' U' m.use) := fun o o' => fu'.below (HB.out o o') hhi'
  have H4 : Hid (∀ o o', RdI ((w.alloc o).alloc o') lo' hi' C' m.con) := fun o o' => fc'.below (HB.out o o') hhi'
  have hd : (m.dur != m.dur) = false := by simp
  clear fu fc fu' fc'
  go_enter Tryz.func179, Tryz.ntmps179
  go_wp2_with fail
  refine (eqIntS_same U U' m.use _ _ cu cu' lo hi lo' hi' _ hu (by exact H1.out _ _) (by exact H3.out _ _) rfl rfl).mono ?_
  rintro e w1 ⟨rfl, ⟨d, rfl⟩⟩
  go_wp2_with fail
  refine (eqIntS_same C C' m.con _ _ cc cc' lo hi lo' hi' _ hc (by exact H2.out _ _) (by exact H4.out _ _) rfl rfl).mono ?_
  rintro e w1 ⟨rfl, ⟨d2, rfl⟩⟩
  go_wp2
  go_ret
  exact ⟨rfl, (by first | exact below_quiet (HB.out _ _) _ | exact below_quiet (below_quiet (HB.out _ _) _) _)⟩
end Go.Proofs.YtcecgbjolngdbaaGreatDoor
