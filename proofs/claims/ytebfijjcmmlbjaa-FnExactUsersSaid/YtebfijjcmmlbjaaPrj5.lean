/- The users of a resource. -/
import Derived.Test.YtebfijjcmmlbjaaPrj3
import Derived.Test.YtebfijjcmmlbjaaPlainSort
import Derived.Test.YtebfijjcmmlbjaaSetOf
import Derived.Test.YtebfijjcmmlbjaaKitIn
namespace Go.Proofs.Ytebfijjcmmlbjaa
open Go.ChangeShapes Go.WideShapes Go.ChangeAt Go.RowKit
set_option linter.unusedVariables false
set_option linter.unusedSimpArgs false

def usesB (i : Nat) (m : Md) : Bool := decide (0 < m.use.getD i 0)
def usersTo (l : List Ac) (i : Nat) : Nat → List Int
  | 0 => []
  | k + 1 => if (l.getD k ac0).modes.any (usesB i) then usersTo l i k ++ [(k : Int)] else usersTo l i k
def inRes (p : Pj) (r : Int) : Bool := decide (0 ≤ r ∧ r ≤ (p.res.length : Int) - 1)
def usersM (p : Pj) (r : Int) : List Int := if (pjOkB p && inRes p r) = true then usersTo p.acts r.toNat p.acts.length else []
theorem usersTo_len (l : List Ac) (i k : Nat) : (usersTo l i k).length ≤ k := by
  induction k with
  | zero => simp [usersTo]
  | succ k ih => rw [usersTo]; split <;> (try simp) <;> omega
theorem usersTo_lt (l : List Ac) (i k : Nat) : ∀ x ∈ usersTo l i k, x < (k : Int) := by
  induction k with
  | zero => intro x hx; simp [usersTo] at hx
  | succ k ih =>
    rw [usersTo]
    split
    · intro x hx
      rcases List.mem_append.1 hx with h | h
      · have := ih x h; omega
      · simp at h; omega
    · intro x hx; have := ih x hx; omega
theorem usersTo_ss (l : List Ac) (i k : Nat) : SS (usersTo l i k) := by
  induction k with
  | zero => exact List.Pairwise.nil
  | succ k ih =>
    rw [usersTo]
    split
    · exact List.pairwise_append.2 ⟨ih, List.pairwise_singleton _ _, fun x hx y hy => by simp at hy; subst hy; exact usersTo_lt l i k x hx⟩
    · exact ih
theorem users_snoc_ss (l : List Ac) (i k : Nat) : SS (usersTo l i k ++ [(k : Int)]) :=
  List.pairwise_append.2 ⟨usersTo_ss l i k, List.pairwise_singleton _ _, fun x hx y hy => by simp at hy; subst hy; exact usersTo_lt l i k x hx⟩
theorem users_add1 (l : List Ac) (i k : Nat) : setOf (usersTo l i k ++ [(k : Int)]) = usersTo l i k ++ [(k : Int)] := setOf_self (users_snoc_ss l i k)
theorem users_add2 (l : List Ac) (i k : Nat) : setOf (usersTo l i k ++ [(k : Int)] ++ [(k : Int)]) = usersTo l i k ++ [(k : Int)] :=
  (setOf_of (users_snoc_ss l i k) fun x => by simp).symm
theorem usersM_len (p : Pj) (r : Int) : (usersM p r).length ≤ p.acts.length := by
  unfold usersM; split
  · exact usersTo_len _ _ _
  · exact Nat.zero_le _
theorem acOk_use {a : Ac} {r s : Int} (h : acOkB a r s = true) {m : Md} (hm : m ∈ a.modes) : (m.use.length : Int) = r := by
  unfold acOkB at h
  rw [Bool.and_eq_true, List.all_eq_true] at h
  have := h.1 m hm
  unfold mdOkB amtsB at this
  simp only [Bool.and_eq_true, decide_eq_true_eq] at this
  exact this.1.2.2
set_option maxHeartbeats 1600000 in
theorem indexFuncM_any (F : FuncId) (caps : Array Value) (p : Md → Bool) (A : Option Addr) (l : List Md) (c lo hi : Nat) (w : World) (hl : l.length ≤ 16777216) (ha : RdMs w lo hi A l) (hhi : hi ≤ w.heap.size)
    (hE : ∀ (args : Array Value) (W : World), (callFunc F args).run Try.prog W = .ok (.enter F args) W)
    (hf : ∀ (W : World) (m : Md) (U C : Option Addr) (cu cc lo' hi' : Nat), Below w.heap.size w W → m ∈ l → RdI W lo' hi' U m.use → RdI W lo' hi' C m.con → hi' ≤ W.heap.size → Calls Try.prog F (#[.agg #[.int .i64 m.dur, .slice U m.use.length cu, .slice C m.con.length cc]] ++ caps) W fun e w' => e = .returned (.bool (p m)) ∧ Below W.heap.size W w') :
    Calls Try.prog 70 #[.slice A l.length c, .func (.func F) #[] caps] w fun e w' => e = .returned (.int .i64 (idxI p l)) ∧ Below w.heap.size w w' := by
  have HF := hide hf; clear hf
  go_enter Try.func70, Try.ntmps70
  go_wp2
  go_loopw [8] (fun i wr => ∃ k : Nat, k ≤ l.length ∧ i = .int .i64 k ∧ Hid (∀ j, j < k → p (l.getD j md0) = false) ∧ Below w.heap.size w wr) (fun i _ => l.length - (intOf i).toNat)
  case atStart => exact ⟨0, Nat.zero_le _, rfl, hide (fun j h => absurd h (by omega)), Below.refl _ _⟩
  case round =>
    obtain ⟨k, hk, rfl, H, hB⟩ := hrel
    by_cases hlt : k < l.length
    · have har := ha.below hB hhi
      have hsz := hB.size
      obtain ⟨b, off, U, cu, C, cc, rfl, h1, h2, g0, g1, g2, fU, fC⟩ := har.at hlt
      have HMEM := hide (getD_mem md0 hlt)
      clear har ha
      generalize hX : l.getD k md0 = m at g0 g1 g2 fU fC HMEM
      have HX := hide hX; clear hX
      have HCALL := hide (HF.out wr m U C cu cc lo hi hB HMEM.out fU fC (by omega))
      clear HF
      go_wp2_with fail
      refine HCALL.out.mono ?_
      rintro e w1 ⟨rfl, hB1⟩
      have hB2 := hB.trans (hB1.mono hsz)
      clear hB1 HCALL
      cases hp : p m
      · have HP := hide (show p (l.getD k md0) = false from by rw [HX.out]; exact hp)
        clear hp
        go_wp2
        go_roundw
        case rel =>
          refine ⟨k + 1, by omega, by go_num, hide (fun j hj => ?_), hB2⟩
          by_cases e : j = k
          · subst e; exact HP.out
          · exact H.out j (by omega)
        case measure => simp [intOf]; omega
      · have HI := hide (idxI_at md0 hlt H.out (by rw [HX.out]; exact hp))
        clear hp
        go_wp2
        go_ret
        exact ⟨ret_int HI.out.symm, hB2⟩
    · have HI := hide (idxI_none (p := p) (l := l) md0 (fun j hj => H.out j (by omega)))
      go_wp2
      go_ret
      exact ⟨ret_int HI.out.symm, hB⟩
theorem containsFuncM_any (F : FuncId) (caps : Array Value) (p : Md → Bool) (A : Option Addr) (l : List Md) (c lo hi : Nat) (w : World) (hl : l.length ≤ 16777216) (ha : RdMs w lo hi A l) (hhi : hi ≤ w.heap.size)
    (hE : ∀ (args : Array Value) (W : World), (callFunc F args).run Try.prog W = .ok (.enter F args) W)
    (hf : ∀ (W : World) (m : Md) (U C : Option Addr) (cu cc lo' hi' : Nat), Below w.heap.size w W → m ∈ l → RdI W lo' hi' U m.use → RdI W lo' hi' C m.con → hi' ≤ W.heap.size → Calls Try.prog F (#[.agg #[.int .i64 m.dur, .slice U m.use.length cu, .slice C m.con.length cc]] ++ caps) W fun e w' => e = .returned (.bool (p m)) ∧ Below W.heap.size W w') :
    Calls Try.prog 41 #[.slice A l.length c, .func (.func F) #[] caps] w fun e w' => e = .returned (.bool (l.any p)) ∧ Below w.heap.size w w' := by
  have HF := hide hf; clear hf
  have HI := hide (idxI_any (p := p) (l := l))
  go_enter Try.func41, Try.ntmps41
  go_wp2_with fail
  refine (indexFuncM_any F caps p A l c lo hi _ hl ha hhi hE HF.out).mono ?_
  rintro e w1 ⟨rfl, hB⟩
  generalize idxI p l = n at HI
  go_wp2
  go_ret
  exact ⟨ret_bool (by rw [← HI.out]), hB⟩
set_option maxHeartbeats 800000 in
theorem userClosure (i : Nat) (g : Nat) (W : World) (m : Md) (U C : Option Addr) (cu cc lo hi : Nat) (hg : W.cell? ⟨g, 0, none⟩ = some (.int .i64 (i : Int))) (hi0 : i < m.use.length) (hu : m.use.length ≤ 16777216) (fU : RdI W lo hi U m.use) (hhi : hi ≤ W.heap.size) :
    Calls Try.prog 42 (#[.agg #[.int .i64 m.dur, .slice U m.use.length cu, .slice C m.con.length cc]] ++ #[.pointer (some ⟨g, 0, none⟩)]) W fun e w' => e = .returned (.bool (usesB i m)) ∧ Below W.heap.size W w' := by
  have HB2 : Hid (∀ o, Below W.heap.size W (W.alloc o)) := fun o => (Below.refl _ _).alloc (Nat.le_refl _) _
  have hgl := World.block_lt_of_cell? _ _ hg
  obtain ⟨b, off, rfl, h1, h2, hc⟩ := fU (by omega)
  have c0 := fun o => (World.cell?_alloc_lt W o ⟨g, 0, none⟩ hgl).trans hg
  have c1 := fun o => (World.cell?_alloc_lt W o ⟨b, off + i, none⟩ (by show b < _; omega)).trans (hc i hi0)
  have HU : Hid (usesB i m = decide (0 < m.use.getD i 0)) := hide rfl
  have e0 : (0 : Int) ≤ (i : Int) := by omega
  have e1 : (i : Int) < (m.use.length : Int) := by omega
  clear hc hg fU
  generalize m.use.getD i 0 = u at c1 HU
  go_enter Try.func42, Try.ntmps42
  go_wp2
  all_goals go_ret
  all_goals exact ⟨ret_bool (by rw [HU.out]), HB2.out _⟩
set_option maxRecDepth 20000 in
set_option maxHeartbeats 3200000 in
theorem implUsers_any (p : Pj) (r : Int) (A L R S : Option Addr) (ca cl cr cs lo hi : Nat) (w : World) (hs : szPj p ≤ 16777216) (fA : RdAs w lo hi A p.acts) (fL : RdLs w lo hi L p.links) (fR : RdRs w lo hi R p.res) (fS : RdI w lo hi S p.stocks) (hhi : hi ≤ w.heap.size) :
    Calls Try.prog 11 #[.agg #[.int .i64 p.dead, .slice A p.acts.length ca, .slice L p.links.length cl, .slice R p.res.length cr, .slice S p.stocks.length cs], .int .i64 r] w fun e w' => ∃ A' c', e = .returned (.slice A' (usersM p r).length c') ∧ OwnR w' w.heap.size w'.heap.size 3 1 A' (usersM p r).length c' ((usersM p r).map (.int .i64)) ∧ Below w.heap.size w w' := by
  have HSA := hide (show szL szAc p.acts ≤ 16777216 from by unfold szPj at hs; omega)
  have hl0 : p.acts.length ≤ 16777216 := Nat.le_trans (szL_len szAc _) HSA.out
  have hl1 : p.res.length ≤ 16777216 := by unfold szPj at hs; have := szL_len szRs p.res; omega
  have HM : Hid (usersM p r = if (pjOkB p && inRes p r) = true then usersTo p.acts r.toNat p.acts.length else []) := hide rfl
  go_enter Try.func11, Try.ntmps11
  go_wp2_with fail
  refine at_world fun W0 hW => ?_
  have z0 : W0.heap.size = w.heap.size + 2 := by rw [hW]; simp
  have hB0 : Below w.heap.size w W0 := by rw [hW]; exact ((Below.refl _ _).alloc (Nat.le_refl _) _).alloc (by simp) _
  have k0 : Bk W0 w.heap.size 34 #[.int .i64 p.dead, .slice A p.acts.length ca, .slice L p.links.length cl, .slice R p.res.length cr, .slice S p.stocks.length cs] := by rw [hW]; exact (Bk.made w _ _).alloc _
  have k1 : Bk W0 (w.heap.size + 1) 3 #[.int .i64 r] := by
    rw [hW]
    have := Bk.made (w.alloc (.cells #[.int .i64 p.dead, .slice A p.acts.length ca, .slice L p.links.length cl, .slice R p.res.length cr, .slice S p.stocks.length cs] 34)) 3 #[.int .i64 r]
    simpa using this
  clear hW
  refine (implProjectOk_any p A L R S ca cl cr cs lo hi W0 hs (fA.below hB0 hhi) (fL.below hB0 hhi) (fR.below hB0 hhi) (fS.below hB0 hhi) (by omega)).mono ?_
  rintro e W1 ⟨rfl, hB1⟩
  have hB := hB0.trans (hB1.mono (by omega))
  have k0 := k0.below hB1 (by omega)
  have k1 := k1.below hB1 (by omega)
  have z1 := hB1.size
  clear fL fR fS hB0 hB1 hs
  cases hok : pjOkB p
  · have HK := hide (show usersM p r = [] from by rw [HM.out, hok]; rfl)
    clear hok
    go_wp2
    go_ret
    exact ⟨_, _, by rw [HK.out]; rfl, by rw [HK.out]; exact OwnR.empty _ _ _ _ _, hB⟩
  have HOK := hide hok
  have c0 := k0.cell 0
  have c1 := k0.cell 1
  have c2 := k0.cell 2
  have c3 := k0.cell 3
  have c4 := k0.cell 4
  have d0 := k1.cell 0
  simp only [List.getElem?_toArray, List.getElem?_cons_succ, List.getElem?_cons_zero] at c0 c1 c2 c3 c4 d0
  clear hok
  go_wp2_with fail
  refine (hasResource_any p A L R S ca cl cr cs r _ hl1).mono ?_
  rintro e W2 ⟨rfl, hB2⟩
  have hB := hB.trans (hB2.mono (by omega))
  have k0 := k0.below hB2 (by omega)
  have k1 := k1.below hB2 (by omega)
  have z2 := hB2.size
  clear hB2 c0 c1 c2 c3 c4 d0
  by_cases hin : 0 ≤ r ∧ r ≤ (p.res.length : Int) - 1
  case neg =>
    have HK := hide (show usersM p r = [] from by rw [HM.out]; unfold inRes; rw [decide_eq_false hin, Bool.and_false]; rfl)
    rw [decide_eq_false hin]
    clear hin
    go_wp2
    go_ret
    exact ⟨_, _, by rw [HK.out]; rfl, by rw [HK.out]; exact OwnR.empty _ _ _ _ _, hB⟩
  have HK := hide (show usersM p r = usersTo p.acts r.toNat p.acts.length from by rw [HM.out, HOK.out]; unfold inRes; rw [decide_eq_true hin]; rfl)
  rw [decide_eq_true hin]
  obtain ⟨i0, rfl⟩ : ∃ i : Nat, r = i := ⟨r.toNat, by omega⟩
  rw [Int.toNat_natCast] at HK
  have hin2 : i0 < p.res.length := by omega
  clear hin HM
  have HO0 := hide (OwnR.made W2 W2.heap.size 3 1 #[] 0 (Nat.le_refl _) (by unfold maxLen; omega) rfl)
  have c1 := fun o => (k0.alloc o).cell 1
  simp only [List.getElem?_toArray, List.getElem?_cons_succ, List.getElem?_cons_zero] at c1
  have hU : Hid (∀ k, k < p.acts.length → ∀ m ∈ (p.acts.getD k ac0).modes, i0 < m.use.length) := hide (fun k hk m hm => by have := acOk_use (pjOk_acts HOK.out hk) hm; omega)
  go_wp2
  clear c1
  go_loopw [5, 21] (fun v i wr => ∃ (k : Nat) (A1 : Option Addr) (c1 : Nat), k ≤ p.acts.length ∧ i = .int .i64 k ∧ v = .slice A1 (usersTo p.acts i0 k).length c1 ∧ OwnR wr W2.heap.size wr.heap.size 3 1 A1 (usersTo p.acts i0 k).length c1 ((usersTo p.acts i0 k).map (.int .i64)) ∧ Below W2.heap.size W2 wr) (fun _ i _ => p.acts.length - (intOf i).toNat)
  case atStart => exact ⟨0, _, _, Nat.zero_le _, rfl, rfl, by simpa [usersTo] using HO0.out, (Below.refl _ _).alloc (Nat.le_refl _) _⟩
  case round =>
    obtain ⟨k, A1, c1, hk, rfl, rfl, hO, hBr⟩ := hrel
    clear HO0
    have hsz := hBr.size
    by_cases hlt : k < p.acts.length
    · have har := fA.below (hB.trans (hBr.mono (by omega))) hhi
      have kr := k1.below hBr (by omega)
      have hmu := hU.out k hlt
      have hsm : szAc (p.acts.getD k ac0) ≤ 16777216 := by have := szL_at szAc ac0 hlt; have := HSA.out; omega
      have HT := hide (show usersTo p.acts i0 (k + 1) = if (p.acts.getD k ac0).modes.any (usesB i0) then usersTo p.acts i0 k ++ [(k : Int)] else usersTo p.acts i0 k from rfl)
      obtain ⟨b, off, M, cm, rfl, h1, h2, g0, g1, g2, fM⟩ := har.at hlt
      clear har fA
      generalize p.acts.getD k ac0 = m at g0 g1 g2 fM hmu hsm HT
      have esm : szAc m = m.name.size + szL szMd m.modes := rfl
      have hml : m.modes.length ≤ 16777216 := by have := szL_len szMd m.modes; omega
      have hmz : szL szMd m.modes ≤ 16777216 := by omega
      go_wp2_with fail
      refine at_world fun V hV => ?_
      have bV : Below wr.heap.size wr V := by rw [hV]; exact (Below.refl _ _).alloc (Nat.le_refl _) _
      have zV : V.heap.size = wr.heap.size + 1 := by rw [hV]; simp
      have kV := kr.below bV (by omega)
      have hO := hO.below bV (Nat.le_refl _)
      have hBV := hBr.trans (bV.mono (by omega))
      have fM := fM.below bV (by omega)
      clear hV bV g0 g1 g2 kr hBr
      refine (containsFuncM_any 42 #[.pointer (some ⟨w.heap.size + 1, 0, none⟩)] (usesB i0) M m.modes cm lo hi V hml fM (by omega) (run_enter Try.func42 (by kernel_rfl) rfl) (fun W mm U C cu cc lo' hi' hBW hmm fU fC hhw => by
        have hz := szL_mem (f := szMd) hmm
        have ez : szMd mm = mm.use.length + mm.con.length := rfl
        exact userClosure i0 (w.heap.size + 1) W mm U C cu cc lo' hi' ((kV.below hBW (by omega)).cell 0) (hmu mm hmm) (by omega) fU hhw)).mono ?_
      rintro e V1 ⟨rfl, r⟩
      have zz := r.size
      have hO := hO.below r (by omega)
      have hBV := hBV.trans (r.mono (by omega))
      clear r fM hmu kV
      cases hany : m.modes.any (usesB i0)
      · have HT := hide (show usersTo p.acts i0 (k + 1) = usersTo p.acts i0 k from by rw [HT.out, hany]; rfl)
        clear hany
        go_wp2
        go_roundw
        case rel => exact ⟨k + 1, A1, c1, by omega, by go_num, by rw [HT.out], by rw [HT.out]; exact hO.mono (Nat.le_refl _) (by omega), hBV⟩
        case measure => simp [intOf]; omega
      · have HT := hide (show usersTo p.acts i0 (k + 1) = usersTo p.acts i0 k ++ [(k : Int)] from by rw [HT.out, hany]; rfl)
        have HLN := hide (usersTo_len p.acts i0 k)
        clear hany
        have hln := HLN.out
        go_wp2_with (at_builtin; go_must (refine wpList_push _ (.tmp 30) (.tmp 32) 25 3 _ 1 8 Try.underlying25 Try.infoInt rfl (by omega) W2.heap.size _ A1 (usersTo p.acts i0 k).length c1 _ ((hO.mono (hi' := V1.heap.size) (Nat.le_refl _) (by omega)).alloc _) V1.heap.size 0 1 1 [.int .i64 k] rfl (one_new _ _ _) (one_cell rfl) (by omega) (by omega) (by simp; omega) W2.heap.size W2 (hBV.alloc (by omega) _) (Nat.le_refl _) ?_ rfl rfl rfl rfl))
        intro A' c' w' hO' hB' hs' _
        clear hO hBV
        go_wp2
        go_roundw
        case rel => exact ⟨k + 1, A', c', by omega, by go_num, by rw [HT.out]; simp, hO'.eqn (by rw [HT.out]; simp) (by rw [HT.out]; simp), hB'⟩
        case measure => simp [intOf]; omega
    · obtain rfl : k = p.acts.length := by omega
      have hBB := hB.trans (hBr.mono (by omega))
      clear fA
      go_wp2
      go_ret
      exact ⟨_, _, by rw [HK.out]; rfl, by rw [HK.out]; exact hO.mono (by omega) (Nat.le_refl _), hBB⟩
def inT (U : List Int) (k : Nat) (b : Bool) : List Int := if b = true then U ++ [(k : Int)] else U
theorem inT_len (U : List Int) (k : Nat) (b : Bool) : (inT U k b).length ≤ U.length + 1 := by unfold inT; split <;> simp
theorem inT_add {l : List Ac} {i k : Nat} (b : Bool) : setOf (inT (usersTo l i k) k b ++ [(k : Int)]) = inT (usersTo l i k) k true := by
  cases b
  · exact users_add1 l i k
  · exact users_add2 l i k
set_option maxRecDepth 20000 in
set_option maxHeartbeats 6400000 in
theorem specUsers_any (p : Pj) (r : Int) (A L R S : Option Addr) (ca cl cr cs lo hi : Nat) (w : World) (hs : szPj p ≤ 16777215) (fA : RdAs w lo hi A p.acts) (fL : RdLs w lo hi L p.links) (fR : RdRs w lo hi R p.res) (fS : RdI w lo hi S p.stocks) (hhi : hi ≤ w.heap.size) :
    Calls Try.prog 10 #[.agg #[.int .i64 p.dead, .slice A p.acts.length ca, .slice L p.links.length cl, .slice R p.res.length cr, .slice S p.stocks.length cs], .int .i64 r] w fun e w' => ∃ A' c', e = .returned (.slice A' (usersM p r).length c') ∧ OwnR w' w.heap.size w'.heap.size 3 1 A' (usersM p r).length c' ((usersM p r).map (.int .i64)) ∧ Below w.heap.size w w' := by
  have HSA := hide (show szL szAc p.acts ≤ 16777216 from by unfold szPj at hs; omega)
  have hl0 : p.acts.length ≤ 16777215 := by unfold szPj at hs; have := szL_len szAc p.acts; omega
  have hl1 : p.res.length ≤ 16777216 := by unfold szPj at hs; have := szL_len szRs p.res; omega
  have HM : Hid (usersM p r = if (pjOkB p && inRes p r) = true then usersTo p.acts r.toNat p.acts.length else []) := hide rfl
  go_enter Try.func10, Try.ntmps10
  go_wp2_with fail
  refine at_world fun W0 hW => ?_
  have z0 : W0.heap.size = w.heap.size + 2 := by rw [hW]; simp
  have hB0 : Below w.heap.size w W0 := by rw [hW]; exact ((Below.refl _ _).alloc (Nat.le_refl _) _).alloc (by simp) _
  have k0 : Bk W0 w.heap.size 34 #[.int .i64 p.dead, .slice A p.acts.length ca, .slice L p.links.length cl, .slice R p.res.length cr, .slice S p.stocks.length cs] := by rw [hW]; exact (Bk.made w _ _).alloc _
  have hO : OwnR W0 (w.heap.size + 1) W0.heap.size 3 1 (some ⟨w.heap.size + 1, 0, none⟩) 0 0 [] := by
    rw [hW]
    have := OwnR.made (w.alloc (.cells #[.int .i64 p.dead, .slice A p.acts.length ca, .slice L p.links.length cl, .slice R p.res.length cr, .slice S p.stocks.length cs] 34)) (w.heap.size + 1) 3 1 #[] 0 (by simp) (by unfold maxLen; omega) rfl
    simpa using this
  clear hW
  refine (specProjectOk_any p A L R S ca cl cr cs lo hi W0 (by omega) (fA.below hB0 hhi) (fL.below hB0 hhi) (fR.below hB0 hhi) (fS.below hB0 hhi) (by omega)).mono ?_
  rintro e W1 ⟨rfl, hB1⟩
  have hB := hB0.trans (hB1.mono (by omega))
  have k0 := k0.below hB1 (by omega)
  have z1 := hB1.size
  have hO := hO.below hB1 (by omega)
  clear fL fR fS hB0 hB1 hs
  cases hok : pjOkB p
  · have HK := hide (show usersM p r = [] from by rw [HM.out, hok]; rfl)
    clear hok hO
    go_wp2
    go_ret
    exact ⟨_, _, by rw [HK.out]; rfl, by rw [HK.out]; exact OwnR.empty _ _ _ _ _, hB⟩
  have HOK := hide hok
  have c3 := k0.cell 3
  simp only [List.getElem?_toArray, List.getElem?_cons_succ, List.getElem?_cons_zero] at c3
  clear hok
  by_cases hin : 0 ≤ r ∧ r ≤ (p.res.length : Int) - 1
  case neg =>
    have HK := hide (show usersM p r = [] from by rw [HM.out]; unfold inRes; rw [decide_eq_false hin, Bool.and_false]; rfl)
    go_wp2_with fail
    refine (l01In_no _ hin).mono ?_
    rintro e w1 ⟨rfl, rfl⟩
    clear hin hO
    go_wp2
    go_ret
    exact ⟨_, _, by rw [HK.out]; rfl, by rw [HK.out]; exact OwnR.empty _ _ _ _ _, hB⟩
  have HK := hide (show usersM p r = usersTo p.acts r.toNat p.acts.length from by rw [HM.out, HOK.out]; unfold inRes; rw [decide_eq_true hin]; rfl)
  go_wp2_with fail
  refine (l01In_yes _ hin).mono ?_
  rintro e w1 ⟨rfl, rfl⟩
  obtain ⟨i0, rfl⟩ : ∃ i : Nat, r = i := ⟨r.toNat, by omega⟩
  rw [Int.toNat_natCast] at HK
  have hin2 : i0 < p.res.length := by omega
  clear hin HM c3
  have c1 := k0.cell 1
  simp only [List.getElem?_toArray, List.getElem?_cons_succ, List.getElem?_cons_zero] at c1
  have hU : Hid (∀ k, k < p.acts.length → ∀ m ∈ (p.acts.getD k ac0).modes, i0 < m.use.length) := hide (fun k hk m hm => by have := acOk_use (pjOk_acts HOK.out hk) hm; omega)
  have HO0 := hide hO; clear hO
  go_wp2
  clear c1
  go_loopw [5, 26] (fun v i wr => ∃ (k : Nat) (A1 : Option Addr) (c1 : Nat), k ≤ p.acts.length ∧ i = .int .i64 k ∧ v = .slice A1 (usersTo p.acts i0 k).length c1 ∧ OwnR wr (w.heap.size + 1) wr.heap.size 3 1 A1 (usersTo p.acts i0 k).length c1 ((usersTo p.acts i0 k).map (.int .i64)) ∧ Below (w.heap.size + 1) W1 wr) (fun _ i _ => p.acts.length - (intOf i).toNat)
  case atStart => exact ⟨0, _, _, Nat.zero_le _, rfl, rfl, by simpa [usersTo] using HO0.out.mono (Nat.le_refl _) (by omega), Below.refl _ _⟩
  case round =>
    obtain ⟨k, A1, c1, hk, rfl, rfl, hO, hBr⟩ := hrel
    clear HO0
    have hsz := hBr.size
    by_cases hlt : k < p.acts.length
    · have har := fA.below hB hhi
      have hmu := hU.out k hlt
      have hsm : szAc (p.acts.getD k ac0) ≤ 16777216 := by have := szL_at szAc ac0 hlt; have := HSA.out; omega
      have HT := hide (show usersTo p.acts i0 (k + 1) = inT (usersTo p.acts i0 k) k ((p.acts.getD k ac0).modes.any (usesB i0)) from rfl)
      obtain ⟨b, off, M, cm, rfl, h1, h2, g0, g1, g2, fM⟩ := har.at hlt
      have g0 := (hBr.cell (p := ⟨b, off + k * 3, none⟩) (by show b < _; omega)).trans g0
      have g1 := (hBr.cell (p := ⟨b, off + k * 3 + 1, none⟩) (by show b < _; omega)).trans g1
      have g2 := (hBr.cell (p := ⟨b, off + k * 3 + 2, none⟩) (by show b < _; omega)).trans g2
      have HLN := hide (usersTo_len p.acts i0 k)
      have HADD : Hid (∀ b, setOf (inT (usersTo p.acts i0 k) k b ++ [(k : Int)]) = inT (usersTo p.acts i0 k) k true) := hide (fun b => inT_add b)
      clear har fA
      generalize p.acts.getD k ac0 = m at g0 g1 g2 fM hmu hsm HT
      generalize usersTo p.acts i0 k = U at hO HT HLN HADD ⊢
      have esm : szAc m = m.name.size + szL szMd m.modes := rfl
      have hml : m.modes.length ≤ 16777216 := by have := szL_len szMd m.modes; omega
      have HMZ := hide (show szL szMd m.modes ≤ 16777216 from by omega)
      have b1 : Below wr.heap.size wr (wr.alloc (.cells #[.string m.name, .int .i64 m.fam, .slice M m.modes.length cm] 47)) := (Below.refl _ _).alloc (Nat.le_refl _) _
      go_wp2
      go_loopw [5, 34] (fun v i wz => ∃ (j : Nat) (A2 : Option Addr) (c2 : Nat), j ≤ m.modes.length ∧ i = .int .i64 j ∧ v = .slice A2 (inT U k ((m.modes.take j).any (usesB i0))).length c2 ∧ OwnR wz (w.heap.size + 1) wz.heap.size 3 1 A2 (inT U k ((m.modes.take j).any (usesB i0))).length c2 ((inT U k ((m.modes.take j).any (usesB i0))).map (.int .i64)) ∧ Below (w.heap.size + 1) W1 wz) (fun _ i _ => m.modes.length - (intOf i).toNat)
      case atStart =>
        refine ⟨0, A1, c1, Nat.zero_le _, rfl, rfl, ?_, hBr.trans (b1.mono (by omega))⟩
        exact (hO.below b1 (Nat.le_refl _)).mono (Nat.le_refl _) (by simp)
      case round =>
        clear hO b1 g0 g1 g2
        obtain ⟨j, A2, c2, hj, rfl, rfl, hO, hBz⟩ := hrel
        have hsz2 := hBz.size
        by_cases hlj : j < m.modes.length
        · have hfm := fM.below hBz (by omega)
          have hmm := hmu _ (getD_mem md0 hlj)
          have hms : szMd (m.modes.getD j md0) ≤ 16777216 := by have := szL_at szMd md0 hlj; have := HMZ.out; omega
          have HJ := hide (show (m.modes.take (j + 1)).any (usesB i0) = ((m.modes.take j).any (usesB i0) || usesB i0 (m.modes.getD j md0)) from by rw [take_snoc md0 hlj]; simp)
          obtain ⟨b, off, X, cx, Y, cy, rfl, h1, h2, g0, g1, g2, fX, fY⟩ := hfm.at hlj
          clear hfm fM
          generalize m.modes.getD j md0 = q at g0 g1 g2 fX fY hmm hms HJ
          have HLI := hide (inT_len U k ((m.modes.take j).any (usesB i0)))
          generalize (m.modes.take j).any (usesB i0) = bb at hO HJ HLI ⊢
          obtain ⟨b', off', rfl, x1, x2, xc⟩ := fX (by omega)
          have x0 := xc i0 hmm
          have y0 := fun o => (World.cell?_alloc_lt wr o ⟨b', off' + i0, none⟩ (by show b' < _; omega)).trans x0
          have eq : szMd q = q.use.length + q.con.length := rfl
          have HQ := hide (show usesB i0 q = decide (0 < q.use.getD i0 0) from rfl)
          have e0 : (0 : Int) ≤ (i0 : Int) := by omega
          have e1 : (i0 : Int) < (q.use.length : Int) := by omega
          clear xc x0 fX fY
          generalize q.use.getD i0 0 = u at y0 HQ
          by_cases hu : 0 < u
          · have HJ := hide (show (m.modes.take (j + 1)).any (usesB i0) = true from by rw [HJ.out, HQ.out, decide_eq_true hu, Bool.or_true])
            go_wp2_with fail
            refine at_world fun V hV => ?_
            have bV : Below wr.heap.size wr V := by rw [hV]; exact (Below.refl _ _).alloc (Nat.le_refl _) _
            have hO := (hO.below bV (Nat.le_refl _)).mono (hi' := V.heap.size) (Nat.le_refl _) bV.size
            have hBV := hBz.trans (bV.mono (by omega))
            have zV := bV.size
            clear hV bV g0 g1 g2 y0
            have hll : (inT U k bb).length ≤ 16777215 := by have := HLI.out; have := HLN.out; omega
            refine (specSetAdd_any A2 (inT U k bb) c2 (w.heap.size + 1) V.heap.size k V hll hO.rdI (Nat.le_refl _)).mono ?_
            rintro e V1 ⟨A3, c3, rfl, hO3, r⟩
            rw [HADD.out] at hO3 ⊢
            have hO3 := hO3.mono (lo' := w.heap.size + 1) (by omega) (Nat.le_refl _)
            have hBV := hBV.trans (r.mono (by omega))
            clear hO r
            go_wp2
            go_roundw
            case rel => exact ⟨j + 1, A3, c3, by omega, by go_num, by rw [HJ.out], by rw [HJ.out]; exact hO3, hBV⟩
            case measure => simp [intOf]; omega
          · have HJ := hide (show (m.modes.take (j + 1)).any (usesB i0) = bb from by rw [HJ.out, HQ.out, decide_eq_false hu, Bool.or_false])
            have bV : ∀ o, Below wr.heap.size wr (wr.alloc o) := fun o => (Below.refl _ _).alloc (Nat.le_refl _) o
            have HO3 : Hid (∀ o, OwnR (wr.alloc o) (w.heap.size + 1) (wr.alloc o).heap.size 3 1 A2 (inT U k bb).length c2 ((inT U k bb).map (.int .i64))) := hide (fun o => (hO.below (bV o) (Nat.le_refl _)).mono (Nat.le_refl _) (bV o).size)
            have HB3 : Hid (∀ o, Below (w.heap.size + 1) W1 (wr.alloc o)) := hide (fun o => hBz.trans ((bV o).mono (by omega)))
            clear hO bV
            go_wp2
            go_roundw
            case rel => exact ⟨j + 1, A2, c2, by omega, by go_num, by rw [HJ.out], by rw [HJ.out]; exact HO3.out _, HB3.out _⟩
            case measure => simp [intOf]; omega
        · obtain rfl : j = m.modes.length := by omega
          rw [List.take_length, ← HT.out] at hO
          have HE := hide (show inT U k ((m.modes.take m.modes.length).any (usesB i0)) = usersTo p.acts i0 (k + 1) from by rw [List.take_length, HT.out])
          go_wp2
          go_roundw
          case rel => exact ⟨k + 1, A2, c2, by omega, by go_num, by rw [HE.out], hO, hBz⟩
          case measure => simp [intOf]; omega
    · obtain rfl : k = p.acts.length := by omega
      have hBB := hB.trans (hBr.mono (by omega))
      clear fA
      go_wp2
      go_ret
      exact ⟨_, _, by rw [HK.out]; rfl, by rw [HK.out]; exact hO.mono (by omega) (Nat.le_refl _), hBB⟩
end Go.Proofs.Ytebfijjcmmlbjaa
