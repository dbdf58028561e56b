/- The place of an activity in a project. -/
import Derived.Test.YtcecgbjolngdbaaGreatDoorKitMd
import Derived.Test.YtcecgbjolngdbaaGreatDoorModes3
namespace Go.Proofs.YtcecgbjolngdbaaGreatDoor
open Go.ChangeShapes Go.WideShapes Go.ChangeAt Go.RowKit
set_option linter.unusedVariables false

set_option maxHeartbeats 1600000 in
theorem indexFuncA_any (F : FuncId) (caps : Array Value) (p : Ac → Bool) (A : Option Addr) (l : List Ac) (c lo hi : Nat) (w : World) (hl : l.length ≤ 16777216) (ha : RdAs w lo hi A l) (hhi : hi ≤ w.heap.size)
    (hE : ∀ (args : Array Value) (W : World), (callFunc F args).run Tryz.prog W = .ok (.enter F args) W)
    (hf : ∀ (W : World) (m : Ac) (M : Option Addr) (cm lo' hi' : Nat), Below w.heap.size w W → m ∈ l → RdMs W lo' hi' M m.modes → hi' ≤ W.heap.size → Calls Tryz.prog F (#[.agg #[.string m.name, .int .i64 m.fam, .slice M m.modes.length cm]] ++ caps) W fun e w' => e = .returned (.bool (p m)) ∧ Below W.heap.size W w') :
    Calls Tryz.prog 151 #[.slice A l.length c, .func (.func F) #[] caps] w fun e w' => e = .returned (.int .i64 (idxI p l)) ∧ Below w.heap.size w w' := by
  have HF := hide hf; clear hf
  go_enter Tryz.func151, Tryz.ntmps151
  go_wp2
  go_loopw [8] (fun i wr => ∃ k : Nat, k ≤ l.length ∧ i = .int .i64 k ∧ Hid (∀ j, j < k → p (l.getD j ac0) = false) ∧ Below w.heap.size w wr) (fun i _ => l.length - (intOf i).toNat)
  case atStart => exact ⟨0, Nat.zero_le _, rfl, hide (fun j h => absurd h (by omega)), Below.refl _ _⟩
  case round =>
    obtain ⟨k, hk, rfl, H, hB⟩ := hrel
    by_cases hlt : k < l.length
    · have har := ha.below hB hhi
      have hsz := hB.size
      obtain ⟨b, off, M, cm, rfl, h1, h2, g0, g1, g2, fU⟩ := har.at hlt
      have HMEM := hide (getD_mem ac0 hlt)
      clear har ha
      generalize hX : l.getD k ac0 = m at g0 g1 g2 fU HMEM
      have HX := hide hX; clear hX
      have HCALL := hide (HF.out wr m M cm lo hi hB HMEM.out fU (by omega))
      clear HF
      go_wp2_with fail
      refine HCALL.out.mono ?_
      rintro e w1 ⟨rfl, hB1⟩
      have hB2 := hB.trans (hB1.mono hsz)
      clear hB1 HCALL
      cases hp : p m
      · have HP := hide (show p (l.getD k ac0) = false from by rw [HX.out]; exact hp)
        clear hp
        go_wp2
        go_roundw
        case rel =>
          refine ⟨k + 1, by omega, by go_num, hide (fun j hj => ?_), hB2⟩
          by_cases e : j = k
          · subst e; exact HP.out
          · exact H.out j (by omega)
        case measure => simp [intOf]; omega
      · have HI := hide (idxI_at ac0 hlt H.out (by rw [HX.out]; exact hp))
        clear hp
        go_wp2
        go_ret
        exact ⟨ret_int HI.out.symm, hB2⟩
    · have HI := hide (idxI_none (p := p) (l := l) ac0 (fun j hj => H.out j (by omega)))
      go_wp2
      go_ret
      exact ⟨ret_int HI.out.symm, hB⟩
theorem actClosure (nm : ByteArray) (g : Nat) (W : World) (m : Ac) (M : Option Addr) (cm : Nat) (hg : W.cell? ⟨g, 0, none⟩ = some (.string nm)) :
    Calls Tryz.prog 152 (#[.agg #[.string m.name, .int .i64 m.fam, .slice M m.modes.length cm]] ++ #[.pointer (some ⟨g, 0, none⟩)]) W fun e w' => e = .returned (.bool (nameB nm m)) ∧ Below W.heap.size W w' := by
  have HB2 : Hid (∀ o, Below W.heap.size W (W.alloc o)) := fun o => (Below.refl _ _).alloc (Nat.le_refl _) _
  have hgl := World.block_lt_of_cell? _ _ hg
  have g1 := fun o => (World.cell?_alloc_lt W o ⟨g, 0, none⟩ hgl).trans hg
  clear hg
  obtain ⟨x, y, l⟩ := m
  by_cases h1 : x = nm
  · have HF : Hid (true = nameB nm ⟨x, y, l⟩) := (decide_eq_true h1).symm
    subst h1
    go_enter Tryz.func152, Tryz.ntmps152
    go_wp2
    go_ret
    exact ⟨ret_bool HF.out, HB2.out _⟩
  · have HF : Hid (false = nameB nm ⟨x, y, l⟩) := (decide_eq_false h1).symm
    have h2 := toList_ne h1
    have h3 : (x.toList == nm.toList) = false := by rw [beq_eq_false_iff_ne]; exact h2
    clear h1
    go_enter Tryz.func152, Tryz.ntmps152
    go_wp2
    go_ret
    exact ⟨ret_bool HF.out, HB2.out _⟩
set_option maxHeartbeats 800000 in
theorem implActivityIndex_any (p : Pj) (nm : ByteArray) (A L R S : Option Addr) (ca cl cr cs lo hi : Nat) (w : World) (hs : p.acts.length ≤ 16777216) (fA : RdAs w lo hi A p.acts) (hhi : hi ≤ w.heap.size) :
    Calls Tryz.prog 102 #[.agg #[.int .i64 p.dead, .slice A p.acts.length ca, .slice L p.links.length cl, .slice R p.res.length cr, .slice S p.stocks.length cs], .string nm] w fun e w' => e = .returned (.int .i64 (actIdx p.acts nm)) ∧ Below w.heap.size w w' := by
  have hmf : ∀ (fn : Fn) (first cap : Array Value) (w : World), (Instr.makeFunc fn first cap).run Tryz.prog w = .ok (.func fn first cap) w := fun _ _ _ _ => rfl
  go_enter Tryz.func102, Tryz.ntmps102
  go_wp2_with fail
  refine at_world fun W0 hW => ?_
  have z0 : W0.heap.size = w.heap.size + 2 := by rw [hW]; simp
  have hB0 : Below w.heap.size w W0 := by rw [hW]; exact ((Below.refl _ _).alloc (Nat.le_refl _) _).alloc (by simp) _
  have c0 : W0.cell? ⟨w.heap.size + 1, 0, none⟩ = some (.string nm) := by
    rw [hW]; simp
  clear hW
  have HC := hide c0
  refine (indexFuncA_any 152 #[.pointer (some ⟨w.heap.size + 1, 0, none⟩)] (nameB nm) A p.acts ca lo hi W0 hs (fA.below hB0 hhi) (by omega) (run_enter Tryz.func152 (by kernel_rfl) rfl)
    (fun W m M cm lo' hi' hW h1 h2 h3 => actClosure nm (w.heap.size + 1) W m M cm ((hW.cell (p := ⟨w.heap.size + 1, 0, none⟩) (by show w.heap.size + 1 < _; omega)).trans HC.out))).mono ?_
  rintro e W1 ⟨rfl, hB1⟩
  have hB := hB0.trans (hB1.mono (by omega))
  clear hB1
  go_wp2
  go_ret
  exact ⟨rfl, hB⟩
set_option maxHeartbeats 800000 in
theorem specActivityIndex_any (p : Pj) (nm : ByteArray) (A L R S : Option Addr) (ca cl cr cs lo hi : Nat) (w : World) (hs : p.acts.length ≤ 16777216) (fA : RdAs w lo hi A p.acts) (hhi : hi ≤ w.heap.size) :
    Calls Tryz.prog 60 #[.agg #[.int .i64 p.dead, .slice A p.acts.length ca, .slice L p.links.length cl, .slice R p.res.length cr, .slice S p.stocks.length cs], .string nm] w fun e w' => e = .returned (.int .i64 (actIdx p.acts nm)) ∧ Below w.heap.size w w' := by
  have HM : Hid (actIdx p.acts nm = idxI (nameB nm) p.acts) := rfl
  generalize p.acts = l at hs fA HM ⊢
  go_enter Tryz.func60, Tryz.ntmps60
  go_wp2
  go_loopw [10] (fun i wr => ∃ k : Nat, k ≤ l.length ∧ i = .int .i64 k ∧ Hid (∀ j, j < k → nameB nm (l.getD j ac0) = false) ∧ Below w.heap.size w wr) (fun i _ => l.length - (intOf i).toNat)
  case atStart => exact ⟨0, Nat.zero_le _, rfl, hide (fun j h => absurd h (by omega)), (Below.refl _ _).alloc (Nat.le_refl _) _⟩
  case round =>
    obtain ⟨k, hk, rfl, H, hB⟩ := hrel
    by_cases hlt : k < l.length
    · have har := fA.below hB hhi
      have hsz := hB.size
      obtain ⟨b, off, M, cm, rfl, h1, h2, g0, g1, g2, fU⟩ := har.at hlt
      clear har fA fU
      generalize hX : l.getD k ac0 = m at g0 g1 g2
      have HX := hide hX; clear hX
      obtain ⟨x, y, z⟩ := m
      simp only at g0 g1 g2
      by_cases h1 : x = nm
      · have HI := hide (idxI_at (p := nameB nm) ac0 hlt H.out (by rw [HX.out]; exact decide_eq_true h1))
        subst h1
        go_wp2
        go_ret
        exact ⟨ret_int (by rw [HM.out, HI.out]), hB.alloc hsz _⟩
      · have HP := hide (show nameB nm (l.getD k ac0) = false from by rw [HX.out]; exact decide_eq_false h1)
        have h2 := toList_ne h1
        have h3 : (x.toList == nm.toList) = false := by rw [beq_eq_false_iff_ne]; exact h2
        clear h1
        go_wp2
        go_roundw
        case rel =>
          refine ⟨k + 1, by omega, by go_num, hide (fun j hj => ?_), hB.alloc hsz _⟩
          by_cases e : j = k
          · subst e; exact HP.out
          · exact H.out j (by omega)
        case measure => simp [intOf]; omega
    · have HI := hide (idxI_none (p := nameB nm) (l := l) ac0 (fun j hj => H.out j (by omega)))
      go_wp2
      go_ret
      exact ⟨ret_int (by rw [HM.out, HI.out]), hB⟩
end Go.Proofs.YtcecgbjolngdbaaGreatDoor
