/- The least over more modes is never greater, and the shortest duration is at most the longest: for every input the law FnActs returns true. No condition. -/
import Derived.Test.YtcecgbjolngdbaaGreatDoorRows
import Derived.Test.YtcecgbjolngdbaaGreatDoorOpen
import Derived.Test.YtcecgbjolngdbaaGreatDoorLaw
import Derived.Test.YtcecgbjolngdbaaGreatDoorSets
import Derived.Test.YtcecgbjolngdbaaGreatDoorSetOf
import Derived.Test.YtcecgbjolngdbaaGreatDoorAct
import Derived.Test.YtcecgbjolngdbaaGreatDoorModes
import Derived.Test.YtcecgbjolngdbaaGreatDoorModes2
import Derived.Test.YtcecgbjolngdbaaGreatDoorModes3
import Derived.Test.YtcecgbjolngdbaaGreatDoorMin
import Derived.Test.YtcecgbjolngdbaaGreatDoorFmt2
import Derived.Test.YtcecgbjolngdbaaGreatDoorFmt5
import Derived.Test.YtcecgbjolngdbaaGreatDoorCur
import Derived.Test.YtcecgbjolngdbaaGreatDoorDraw4
import Derived.Test.YtcecgbjolngdbaaGreatDoorPlainAs
import Derived.Test.YtcecgbjolngdbaaGreatDoorLaidW
import Derived.Deep.RegionHeld3
import Derived.SevenTiedAt
namespace Go.Proofs.YtcecgbjolngdbaaGreatDoor.fnActs
open Go.ChangeShapes Go.WideShapes Go.ChangeAt Go.RowKit Go.Deep
set_option linter.unusedVariables false
set_option linter.unusedSimpArgs false

theorem own : ownKnob Tryz.prog.godebug = none := by kernel_rfl
theorem laidOut : laidOutB Tryz.prog = true := by kernel_rfl
theorem fmtMd_sz (m : Md) : (fmtMd m).size ≤ 11 + 16 * (m.use.length + m.con.length) := by
  unfold fmtMd
  split
  · rw [ByteArray.size_append, ByteArray.size_append, ByteArray.size_append, ByteArray.size_append]
    have := fmtI_size m.dur
    have := fmtIs_size m.use
    have := fmtIs_size m.con
    have : slash.size = 1 := rfl
    omega
  · show 0 ≤ _
    omega
/-- What stands while the law asks of the activity. -/
structure ActW (w0 : World) (gp ga N hg : Nat) (pc : Array Value) (a : Ac) (M : Option Addr) (cm : Nat) (X Y : Option Addr) (xs ys : List Int) (W : World) : Prop where
  bel : Below w0.heap.size w0 W
  kp : Bk W gp 34 pc
  ka : Bk W ga 46 #[.string a.name, .int .i64 a.fam, .slice M a.modes.length cm]
  fM : RdMs W 0 N M a.modes
  fX : RdI W 0 N X xs
  fY : RdI W 0 N Y ys
  ld : LdE W hg
  hgN : hg ≤ N
  sz : N ≤ W.heap.size
theorem ActW.next {w0 : World} {gp ga N hg : Nat} {pc : Array Value} {a : Ac} {M : Option Addr} {cm : Nat} {X Y : Option Addr} {xs ys : List Int} {W W' : World} (h : ActW w0 gp ga N hg pc a M cm X Y xs ys W) (r : Below W.heap.size W W') : ActW w0 gp ga N hg pc a M cm X Y xs ys W' := by
  have g1 := h.sz; have g2 := h.hgN
  exact ⟨h.bel.trans (r.mono h.bel.size), h.kp.below r h.kp.lt, h.ka.below r h.ka.lt, h.fM.below r g1, h.fX.below r g1, h.fY.below r g1, h.ld.below r (by omega), g2, Nat.le_trans g1 r.size⟩
/-- A mode in a box. -/
structure MdW (gm N : Nat) (m : Md) (U C : Option Addr) (cu cc : Nat) (W : World) : Prop where
  km : Bk W gm 53 #[.int .i64 m.dur, .slice U m.use.length cu, .slice C m.con.length cc]
  fU : RdI W 0 N U m.use
  fC : RdI W 0 N C m.con
  sz : N ≤ W.heap.size
theorem MdW.next {gm N : Nat} {m : Md} {U C : Option Addr} {cu cc : Nat} {W W' : World} (h : MdW gm N m U C cu cc W) (r : Below W.heap.size W W') : MdW gm N m U C cu cc W' :=
  ⟨h.km.below r h.km.lt, h.fU.below r h.sz, h.fC.below r h.sz, Nat.le_trans h.sz r.size⟩
theorem RdI.at0 {W : World} {N b off : Nat} {l : List Int} (h : RdI W 0 N (some ⟨b, off, none⟩) l) (h0 : 0 < l.length) : W.cell? ⟨b, off, none⟩ = some (.int .i64 (l.getD 0 0)) := by
  obtain ⟨b', o', e, _, _, hc⟩ := h h0
  injection e with e; injection e with e1 e2; subst e1; subst e2
  exact hc 0 h0
theorem modes_first (a : Ac) (M : Option Addr) (cm : Nat) (w : World) (h : a.modes.length ≤ 200) :
    Calls Tryz.prog 16 #[.agg #[.string a.name, .int .i64 a.fam, .slice M a.modes.length cm]] w fun e w' => ∃ A c, e = .returned (.slice A a.modes.length c) ∧ OwnR w' w.heap.size w'.heap.size 3 1 A a.modes.length c ((firstN a.modes.length).map (.int .i64)) ∧ Below w.heap.size w w' := by
  have hh := implModeIndexes_any a M cm w
  rw [intRange_yes h] at hh
  rw [firstN_len] at hh
  exact hh
theorem act_ok {a : Ac} {nr ns : Int} (h : acOkB a nr ns = true) (M : Option Addr) (cm lo hi : Nat) (w : World) (hs : szAc a ≤ 16777216) (fM : RdMs w lo hi M a.modes) (hhi : hi ≤ w.heap.size) :
    Calls Tryz.prog 19 #[.agg #[.string a.name, .int .i64 a.fam, .slice M a.modes.length cm], .int .i64 nr, .int .i64 ns] w fun e w' => e = .returned (.bool true) ∧ Below w.heap.size w w' := by
  have hh := implActivityOk_any a M cm lo hi nr ns w hs fM hhi
  rwa [h] at hh
theorem act_eq (a : Ac) (M : Option Addr) (cm lo hi : Nat) (w : World) (hs : szAc a ≤ 16777216) (fM : RdMs w lo hi M a.modes) (hhi : hi ≤ w.heap.size) :
    Calls Tryz.prog 20 #[.agg #[.string a.name, .int .i64 a.fam, .slice M a.modes.length cm], .agg #[.string a.name, .int .i64 a.fam, .slice M a.modes.length cm]] w fun e w' => e = .returned (.bool true) ∧ Below w.heap.size w w' := by
  have hh := implActivityEqual_any a a M M cm cm lo hi lo hi w hs fM fM hhi hhi
  rwa [decide_eq_true (rfl : a = a)] at hh
theorem mode_back {a : Ac} {nr ns : Int} {m : Md} (q : ModeAsk a nr ns m) (w : World) (hg : Nat) (ld : LdE w hg) (hhg : hg ≤ w.heap.size) :
    Calls Tryz.prog 21 #[.string (fmtMd m)] w fun e w' => ∃ U cu C cc, e = .returned (.tuple #[.agg #[.int .i64 m.dur, .slice U m.use.length cu, .slice C m.con.length cc], .bool true]) ∧ Below w.heap.size w w' := by
  have hh := implParseMode_any (fmtMd m) w (by have := fmtMd_sz m; have := q.use0; have := q.con0; omega) hg ld hhg
  rw [q.fmt, q.fmtB] at hh
  refine hh.mono ?_
  rintro e w' ⟨U, cu, C, cc, rfl, _, r⟩
  exact ⟨U, cu, C, cc, rfl, r⟩
theorem mode_ok {a : Ac} {nr ns : Int} {m : Md} (q : ModeAsk a nr ns m) (U C : Option Addr) (cu cc lo hi : Nat) (w : World) (fu : RdI w lo hi U m.use) (fc : RdI w lo hi C m.con) (hhi : hi ≤ w.heap.size) :
    Calls Tryz.prog 23 #[.agg #[.int .i64 m.dur, .slice U m.use.length cu, .slice C m.con.length cc], .int .i64 nr, .int .i64 ns] w fun e w' => e = .returned (.bool true) ∧ Below w.heap.size w w' := by
  have hh := implModeOk_any U C m cu cc lo hi nr ns w (by have := q.use0; omega) (by have := q.con0; omega) fu fc hhi
  rwa [q.ok] at hh
section
variable {w0 : World} {gp ga N hg : Nat} {pc : Array Value} {a : Ac} {M : Option Addr} {cm : Nat} {X Y : Option Addr} {ys : List Int} {W : World} {nr ns : Int} {m : Md}
theorem dur_lo (h : ActW w0 gp ga N hg pc a M cm X Y (firstN a.modes.length) ys W) (q : ModeAsk a nr ns m) (hs : szAc a ≤ 100) (hl : a.modes.length ≤ 3) (c : Nat) :
    Calls Tryz.prog 24 #[.agg #[.string a.name, .int .i64 a.fam, .slice M a.modes.length cm], .slice X a.modes.length c] W fun e w' => ∃ D, e = .returned (.int .i64 D) ∧ D ≤ m.dur ∧ Below W.heap.size W w' := by
  have hh := implMinDuration_any a (firstN a.modes.length) M X cm c 0 N 0 N W (by omega) (by rw [firstN_len]; omega) h.fM h.fX h.sz h.sz
  rw [firstN_len] at hh
  exact hh.mono fun e w' r => ⟨_, r.1, q.durs, r.2⟩
theorem dur_hi (h : ActW w0 gp ga N hg pc a M cm X Y (firstN a.modes.length) ys W) (q : ModeAsk a nr ns m) (hs : szAc a ≤ 100) (hl : a.modes.length ≤ 3) (c : Nat) :
    Calls Tryz.prog 25 #[.agg #[.string a.name, .int .i64 a.fam, .slice M a.modes.length cm], .slice X a.modes.length c] W fun e w' => ∃ D, e = .returned (.int .i64 D) ∧ m.dur ≤ D ∧ Below W.heap.size W w' := by
  have hh := implMaxDuration_any a (firstN a.modes.length) M X cm c 0 N 0 N W (by omega) (by rw [firstN_len]; omega) h.fM h.fX h.sz h.sz
  rw [firstN_len] at hh
  exact hh.mono fun e w' r => ⟨_, r.1, q.durm, r.2⟩
theorem use_lo (h : ActW w0 gp ga N hg pc a M cm X Y (firstN a.modes.length) ys W) (q : ModeAsk a nr ns m) (hs : szAc a ≤ 100) (hl : a.modes.length ≤ 3) (c : Nat) :
    Calls Tryz.prog 26 #[.agg #[.string a.name, .int .i64 a.fam, .slice M a.modes.length cm], .slice X a.modes.length c, .int .i64 0] W fun e w' => ∃ D, e = .returned (.int .i64 D) ∧ D ≤ m.use.getD 0 0 ∧ Below W.heap.size W w' := by
  have hh := implMinUsage_any a (firstN a.modes.length) 0 M X cm c 0 N 0 N W (by omega) (by rw [firstN_len]; omega) h.fM h.fX h.sz h.sz
  rw [firstN_len] at hh
  exact hh.mono fun e w' r => ⟨_, r.1, q.uses, r.2⟩
theorem work_lo (h : ActW w0 gp ga N hg pc a M cm X Y (firstN a.modes.length) ys W) (q : ModeAsk a nr ns m) (hs : szAc a ≤ 100) (hl : a.modes.length ≤ 3) (c : Nat) :
    Calls Tryz.prog 27 #[.agg #[.string a.name, .int .i64 a.fam, .slice M a.modes.length cm], .slice X a.modes.length c, .int .i64 0] W fun e w' => ∃ D, e = .returned (.int .i64 D) ∧ D ≤ m.dur * m.use.getD 0 0 ∧ Below W.heap.size W w' := by
  have hh := implMinWork_any a (firstN a.modes.length) 0 M X cm c 0 N 0 N W (by omega) (by rw [firstN_len]; omega) h.fM h.fX h.sz h.sz
  rw [firstN_len] at hh
  exact hh.mono fun e w' r => ⟨_, r.1, q.works, r.2⟩
theorem con_lo (h : ActW w0 gp ga N hg pc a M cm X Y (firstN a.modes.length) ys W) (q : ModeAsk a nr ns m) (hs : szAc a ≤ 100) (hl : a.modes.length ≤ 3) (c : Nat) (h0 : 0 < m.con.length) :
    Calls Tryz.prog 28 #[.agg #[.string a.name, .int .i64 a.fam, .slice M a.modes.length cm], .slice X a.modes.length c, .int .i64 0] W fun e w' => ∃ D, e = .returned (.int .i64 D) ∧ D ≤ m.con.getD 0 0 ∧ Below W.heap.size W w' := by
  have hh := implMinConsumption_any a (firstN a.modes.length) 0 M X cm c 0 N 0 N W (by omega) (by rw [firstN_len]; omega) h.fM h.fX h.sz h.sz
  rw [firstN_len] at hh
  exact hh.mono fun e w' r => ⟨_, r.1, q.cons h0, r.2⟩
end
/-- A project is made. -/
def MkPost (w : World) (e : Ending) (w' : World) : Prop :=
  ∃ (dd : Int) (l : List Ac) (M : Option Addr) (cm : Nat) (bs : List Nat) (L R S : Option Addr) (nl cl nr cr ns cs : Nat), e = .returned (.agg #[.int .i64 dd, .slice M l.length cm, .slice L nl cl, .slice R nr cr, .slice S ns cs]) ∧ 1 ≤ l.length ∧ (1 ≤ nr ∧ nr ≤ 2) ∧ ns ≤ 1 ∧ (∀ a ∈ l, acOkB a nr ns = true) ∧ OwG 3 46 OwA ac0 w' M cm l bs ∧ Nd bs w.heap.size w'.heap.size ∧ Below w.heap.size w w'
set_option maxHeartbeats 3200000 in
theorem makeProject_any (A : Option Addr) (n c lo hi : Nat) (w : World) (hn : n ≤ 16777216) (hA : RdB w lo hi A n) (hhi : hi ≤ w.heap.size) :
    Calls Tryz.prog 15 #[.slice A n c] w (MkPost w) := by
  go_enter Tryz.func15, Tryz.ntmps15
  go_wp2_with fail
  refine at_world fun V0 hW => ?_
  have z0 : V0.heap.size = w.heap.size + 1 := by rw [hW]; simp
  have k0 : Bk V0 w.heap.size 34 zPj := by rw [hW]; exact Bk.made w _ _
  have B : Below w.heap.size w V0 := by rw [hW]; exact (Below.refl _ _).alloc (Nat.le_refl _) _
  have hA0 := hA.below B hhi
  clear hW
  refine (l01New_any A n c lo hi V0 hn hA0 (by omega)).mono ?_
  rintro e V1 ⟨g, rfl, hg0, hg1, hC, r⟩
  have z1 := r.size
  have k0 := k0.below r (by omega)
  have B := B.trans (r.mono (by omega))
  have hA1 := hA0.below r (by omega)
  have hC := CurN.of hC
  clear r
  go_wp2_with fail
  refine (l05Draw_any g A n c lo hi V1 hn hC hA1 (by omega)).mono ?_
  rintro e V2 ⟨dd, l, M, cm, bs, L, R, S, nl, cl, nr, cr, ns, cs, rfl, hl, hnr, hns, hok, hG, hN, hO⟩
  have z2 := hO.size
  have k0 := k0.only hO (by omega)
  have HB := hide (below_only B hO (by omega) (by omega))
  have x0 := k0.cell 0
  have x1 := k0.cell 1
  have x2 := k0.cell 2
  have x3 := k0.cell 3
  have x4 := k0.cell 4
  have f0 := k0.frozen 0
  have f1 := k0.frozen 1
  have f2 := k0.frozen 2
  have f3 := k0.frozen 3
  have f4 := k0.frozen 4
  simp only [List.getElem?_toArray, List.getElem?_cons_succ, List.getElem?_cons_zero] at x0 x1 x2 x3 x4
  have HOK := hide hok; have HG := hide hG; have HN := hide hN
  clear hok hG hN hO k0 B
  go_wp2
  refine bodyPost_ret (v := .agg #[.int .i64 dd, .slice M l.length cm, .slice L nl cl, .slice R nr cr, .slice S ns cs]) ?_ rfl ?_
  · simp [results, Tryz.results15, go_sem, *]
  unfold MkPost
  refine ⟨dd, l, M, cm, bs, L, R, S, nl, cl, nr, cr, ns, cs, rfl, hl, hnr, hns, HOK.out, ?_, ?_, ?_⟩
  · refine OwG.keep_ OwAs.keeps HG.out fun q hq => (only5D V2 w.heap.size _ _ _ _ _).block q ?_ ?_
    · have := HN.out.2 q hq; omega
    · have := HN.out.2 q hq; omega
  · refine HN.out.mono (by omega) ?_
    rw [set_size, set_size, set_size, set_size, set_size]
    exact Nat.le_refl _
  · exact below_only HB.out (only5D V2 w.heap.size _ _ _ _ _) (Nat.le_refl _) (by omega)
/-- Of n operations the first k have come up. -/
def upTo (n k : Nat) : Array Bool := ((List.range n).map fun j => decide (j < k)).toArray
theorem upTo_get (n k j : Nat) : (upTo n k)[j]? = if j < n then some (decide (j < k)) else none := by
  unfold upTo
  rw [List.getElem?_toArray, List.getElem?_map]
  split
  · rename_i h
    rw [List.getElem?_range h]; rfl
  · rename_i h
    rw [List.getElem?_eq_none (by simpa using h)]; rfl
theorem upTo_zero (n : Nat) : Array.replicate n false = upTo n 0 := by
  apply Array.ext_getElem?
  intro j
  rw [upTo_get, Array.getElem?_replicate]
  split <;> simp
theorem upTo_set (n k : Nat) : (upTo n k).setIfInBounds k true = upTo n (k + 1) := by
  apply Array.ext_getElem?
  intro j
  rw [upTo_get, Array.getElem?_setIfInBounds, upTo_get]
  have hz : (upTo n k).size = n := by unfold upTo; simp
  rw [hz]
  by_cases e : k = j
  · subst e
    rw [if_pos rfl]
    split
    · simp
    · rfl
  · rw [if_neg e]
    split
    · congr 1
      exact decide_eq_decide.2 (by omega)
    · rfl
section
variable {P : Program} {ops : Array Oper} {Q : Exit → Act → World → Prop} {md : Region.Mode} {S : World → Prop}
theorem take_k {n k f : Nat} {oi : Oper} {v : Value} {a : Act} {w : World} (hi : ops[k]? = some oi) (hs : Region.noSelect ops = true) (hf : Region.free md ops (upTo n k) k = true) (hr : (Region.ready md ops (upTo n k)).contains k = true)
    (hQ : ∀ c a w, Q (.panic c) (a.put oi.dst v) w → Q (.panic c) a w) (hy : YieldsIf P ops S oi v a) (hS : S w) (h : wpAnyH P md ops Q S f (upTo n (k + 1)) (a.put oi.dst v) w) : wpAnyH P md ops Q S (f + 1) (upTo n k) a w :=
  wpAnyH_take hi hs hf hr hQ hy hS (by rw [upTo_set]; exact h)
theorem step_k {n k f : Nat} {o : Oper} {a : Act} {w : World} (hr : Region.ready md ops (upTo n k) = [k]) (ho : ops[k]? = some o)
    (h : ∀ K : Act → World → Prop, Shut (∀ a w, S w → (S w → wpAnyH P md ops Q S f (upTo n (k + 1)) a w) → K a w) → if Region.wanted o (yielded ops a.tmps) = true then Oper.wp P o a w K Q else K (a.put o.dst undef) w) : wpAnyH P md ops Q S (f + 1) (upTo n k) a w :=
  wpAnyH_ready hr (by simp) (AllReadyH.cons ho (by rw [upTo_set]; exact h) AllReadyH.nil)
theorem start_k {n id : Nat} {a : Act} {w : World} (S : World → Prop) (hm : P.follows .mixedOrders = true) (hn : ops.size = n) (hS : S w.drew) (h : S w.drew → wpAnyH P .any ops Q S n (upTo n 0) a w.drew) : (Code.region id ops true).wp P Q a w := by
  refine wp_region_held_drew (S := S) hm hS fun hh => ?_
  rw [hn, upTo_zero]
  exact h hh
theorem done_k {n : Nat} {a : Act} {w : World} (hr : Region.ready md ops (upTo n n) = []) (h : Q .normal a w) : wpAnyH P md ops Q S 0 (upTo n n) a w := wpAnyH_done hr h 0
end
theorem at_reg {c : Code} {P : Program} {Q : Exit → Act → World → Prop} {a : Act} {W : World} (h : ∀ V, V = W → c.wp P Q a V) : c.wp P Q a W := h W rfl
section
variable {w0 : World} {gp ga N hg gm gx : Nat} {dd : Int} {A0 L R S0 : Option Addr} {l0 c0 nl cl nr cr ns cs : Nat} {a : Ac} {M : Option Addr} {cm : Nat} {X Y : Option Addr} {xs ys : List Int} {W : World} {m : Md} {bu ou cu cc : Nat} {C : Option Addr} {v1 v2 : Value} {pc : Array Value} {u : Int}
theorem cells_of (h : ActW w0 gp ga N hg #[.int .i64 dd, .slice A0 l0 c0, .slice L nl cl, .slice R nr cr, .slice S0 ns cs] a M cm X Y xs ys W) (hm : MdW gm N m (some ⟨bu, ou, none⟩) C cu cc W) (hx : Bk W gx 53 #[.int .i64 m.dur, v1, v2]) (h0 : 0 < m.use.length) (hu : m.use.getD 0 0 = u) :
    W.cell? ⟨ga, 0, none⟩ = some (.string a.name) ∧ W.cell? ⟨ga, 1, none⟩ = some (.int .i64 a.fam) ∧ W.cell? ⟨ga, 2, none⟩ = some (.slice M a.modes.length cm) ∧ W.cell? ⟨gp, 3, none⟩ = some (.slice R nr cr) ∧ W.cell? ⟨gp, 4, none⟩ = some (.slice S0 ns cs) ∧
    W.cell? ⟨gm, 0, none⟩ = some (.int .i64 m.dur) ∧ W.cell? ⟨gm, 1, none⟩ = some (.slice (some ⟨bu, ou, none⟩) m.use.length cu) ∧ W.cell? ⟨gm, 2, none⟩ = some (.slice C m.con.length cc) ∧ W.cell? ⟨gx, 0, none⟩ = some (.int .i64 m.dur) ∧ W.cell? ⟨bu, ou, none⟩ = some (.int .i64 u) :=
  ⟨h.ka.cell 0, h.ka.cell 1, h.ka.cell 2, h.kp.cell 3, h.kp.cell 4, hm.km.cell 0, hm.km.cell 1, hm.km.cell 2, hx.cell 0, by rw [← hu]; exact RdI.at0 hm.fU h0⟩
theorem con_cell (hm : MdW gm N m (some ⟨bu, ou, none⟩) (some ⟨l0, c0, none⟩) cu cc W) (h0 : 0 < m.con.length) (hu : m.con.getD 0 0 = u) : W.cell? ⟨l0, c0, none⟩ = some (.int .i64 u) := by rw [← hu]; exact RdI.at0 hm.fC h0
theorem act_cells (h : ActW w0 gp ga N hg pc a M cm X Y xs ys W) : W.cell? ⟨ga, 0, none⟩ = some (.string a.name) ∧ W.cell? ⟨ga, 1, none⟩ = some (.int .i64 a.fam) ∧ W.cell? ⟨ga, 2, none⟩ = some (.slice M a.modes.length cm) := ⟨h.ka.cell 0, h.ka.cell 1, h.ka.cell 2⟩
theorem dur_Y (h : ActW w0 gp ga N hg pc a M cm X Y xs ys W) (hs : szAc a ≤ 100) (hl : a.modes.length ≤ 3) (hy : ys.length ≤ a.modes.length) (c : Nat) :
    Calls Tryz.prog 24 #[.agg #[.string a.name, .int .i64 a.fam, .slice M a.modes.length cm], .slice Y ys.length c] W fun e w' => e = .returned (.int .i64 (minDur a.modes ys)) ∧ Below W.heap.size W w' :=
  implMinDuration_any a ys M Y cm c 0 N 0 N W (by omega) (by omega) h.fM h.fY h.sz h.sz
theorem use_Y (h : ActW w0 gp ga N hg pc a M cm X Y xs ys W) (hs : szAc a ≤ 100) (hl : a.modes.length ≤ 3) (hy : ys.length ≤ a.modes.length) (c : Nat) :
    Calls Tryz.prog 26 #[.agg #[.string a.name, .int .i64 a.fam, .slice M a.modes.length cm], .slice Y ys.length c, .int .i64 0] W fun e w' => e = .returned (.int .i64 (leastM (useO 0) (chosenTo a.modes ys a.modes.length))) ∧ Below W.heap.size W w' :=
  implMinUsage_any a ys 0 M Y cm c 0 N 0 N W (by omega) (by omega) h.fM h.fY h.sz h.sz
theorem dur_X (h : ActW w0 gp ga N hg pc a M cm X Y (firstN a.modes.length) ys W) (hs : szAc a ≤ 100) (hl : a.modes.length ≤ 3) (c : Nat) :
    Calls Tryz.prog 24 #[.agg #[.string a.name, .int .i64 a.fam, .slice M a.modes.length cm], .slice X a.modes.length c] W fun e w' => e = .returned (.int .i64 (minDur a.modes (firstN a.modes.length))) ∧ Below W.heap.size W w' := by
  have hh := implMinDuration_any a (firstN a.modes.length) M X cm c 0 N 0 N W (by omega) (by rw [firstN_len]; omega) h.fM h.fX h.sz h.sz
  rwa [firstN_len] at hh
theorem use_X (h : ActW w0 gp ga N hg pc a M cm X Y (firstN a.modes.length) ys W) (hs : szAc a ≤ 100) (hl : a.modes.length ≤ 3) (c : Nat) :
    Calls Tryz.prog 26 #[.agg #[.string a.name, .int .i64 a.fam, .slice M a.modes.length cm], .slice X a.modes.length c, .int .i64 0] W fun e w' => e = .returned (.int .i64 (leastM (useO 0) (chosenTo a.modes (firstN a.modes.length) a.modes.length))) ∧ Below W.heap.size W w' := by
  have hh := implMinUsage_any a (firstN a.modes.length) 0 M X cm c 0 N 0 N W (by omega) (by rw [firstN_len]; omega) h.fM h.fX h.sz h.sz
  rwa [firstN_len] at hh
end
theorem sect_first (k : Nat) (hk : k ≤ 200) (X Y0 : Option Addr) (l0 : List Int) (c d lo hi lo' hi' : Nat) (w : World) (hy : l0.length ≤ 16777216) (ha : RdI w lo hi X (firstN k)) (hb : RdI w lo' hi' Y0 l0) (hhi : hi ≤ w.heap.size) (hhi' : hi' ≤ w.heap.size) :
    Calls Tryz.prog 17 #[.slice X k c, .slice Y0 l0.length d] w fun e w' => ∃ A' c', e = .returned (.slice A' (setOf (keepI (yesB l0) (firstN k))).length c') ∧ OwnR w' w.heap.size w'.heap.size 3 1 A' (setOf (keepI (yesB l0) (firstN k))).length c' ((setOf (keepI (yesB l0) (firstN k))).map (.int .i64)) ∧ Below w.heap.size w w' := by
  have hh := implSetIntersection_any X Y0 (firstN k) l0 c d lo hi lo' hi' w (by rw [firstN_len]; omega) hy ha hb hhi hhi'
  rw [firstN_len] at hh
  exact hh
theorem sect_len (k : Nat) (l0 : List Int) : (setOf (keepI (yesB l0) (firstN k))).length ≤ k := by
  have h1 := setOf_len (keepI (yesB l0) (firstN k))
  have h2 := List.length_filter_le (yesB l0) (firstN k)
  rw [firstN_len] at h2
  unfold keepI at *
  omega
set_option maxRecDepth 20000 in
set_option maxHeartbeats 12800000 in
theorem walk (A : Option Addr) (n c : Nat) (w : World) (hmax : n ≤ 9223372036854775807) (fC : RdB w 0 w.heap.size A n) (ld : LdE w w.heap.size) :
    Calls Tryz.prog 5 #[.slice A n c] w fun e w' => e = .returned (.bool true) ∧ Below w.heap.size w w' := by
  by_cases hn : n ≤ 1048576
  case neg =>
    go_enter Tryz.func5, Tryz.ntmps5
    go_wp2
    go_ret
    exact ⟨rfl, Below.refl _ _⟩
  go_enter Tryz.func5, Tryz.ntmps5
  go_wp2_with fail
  refine (makeProject_any A n c 0 w.heap.size _ (by omega) (by exact fC) (by omega)).mono ?_
  rintro e w1 ⟨dd, l, M0, cm0, bs, L, R, S0, nl, cl, nr, cr, ns, cs, rfl, hl1, hnr, hns, hok, hG, hN, r⟩
  have z1 := r.size
  have bel := r
  have fC := fC.below r (Nat.le_refl _)
  have ld := ld.below r (Nat.le_refl _)
  obtain ⟨b, off, Mm, cm, rfl, hb1, hb2, q0, q1, q2, fM⟩ := RdAs.at (OwG.rd_ OwAs.ord hG hN.2) (k := 0) (by omega)
  have hoka := hok _ (getD_mem (k := 0) ac0 (by omega))
  have hl0 : 0 < l.length := by omega
  simp only [Nat.zero_mul, Nat.add_zero] at q0 q1 q2
  generalize l.getD 0 ac0 = a at q0 q1 q2 fM hoka
  clear hG hN hok r
  have sm := acOk_small hoka (by omega) (by omega)
  have hsz : szAc a ≤ 100 := by unfold szAc; omega
  have hm1 := sm.2.1
  have hm3 := sm.2.2.1
  have HOK := hide hoka
  clear sm hoka
  have aq0 := fun o => (World.cell?_alloc_lt w1 o ⟨b, off, none⟩ hb2).trans q0
  have aq1 := fun o => (World.cell?_alloc_lt w1 o ⟨b, off + 1, none⟩ hb2).trans q1
  have aq2 := fun o => (World.cell?_alloc_lt w1 o ⟨b, off + 2, none⟩ hb2).trans q2
  go_wp2_with fail
  refine at_world fun w2 hW => ?_
  have kp : Bk w2 w1.heap.size 34 #[.int .i64 dd, .slice (some ⟨b, off, none⟩) l.length cm0, .slice L nl cl, .slice R nr cr, .slice S0 ns cs] := by rw [hW]; exact (Bk.made w1 _ _).alloc _
  have ka : Bk w2 (w1.heap.size + 1) 46 #[.string a.name, .int .i64 a.fam, .slice Mm a.modes.length cm] := by
    rw [hW]
    have := Bk.made (w1.alloc (.cells #[.int .i64 dd, .slice (some ⟨b, off, none⟩) l.length cm0, .slice L nl cl, .slice R nr cr, .slice S0 ns cs] 34)) 46 #[.string a.name, .int .i64 a.fam, .slice Mm a.modes.length cm]
    rwa [World.size_alloc] at this
  have r : Below w1.heap.size w1 w2 := by rw [hW]; exact ((Below.refl _ _).alloc (Nat.le_refl _) _).alloc (by simp) _
  have z2 : w1.heap.size + 2 ≤ w2.heap.size := by rw [hW]; simp
  clear hW aq0 aq1 aq2 q0 q1 q2
  have bel := bel.trans (r.mono z1)
  have fC := fC.below r z1
  have ld := ld.below r z1
  have fM := fM.below r (Nat.le_refl _)
  clear r
  refine (modes_first a Mm cm w2 (by omega)).mono ?_
  rintro e w3 ⟨X, cx, rfl, oX, r⟩
  have z3 := r.size
  have bel := bel.trans (r.mono (by omega))
  have fC := fC.below r (by omega)
  have ld := ld.below r (by omega)
  have fM := fM.below r (by omega)
  have kp := kp.below r (by omega)
  have ka := ka.below r (by omega)
  have fX := oX.rdI
  clear r oX
  go_wp2_with fail
  refine (makeList_any A n c 0 w.heap.size 1 w3 (by omega) fC (by omega)).mono ?_
  rintro e w4 ⟨Y0, cy0, l0, rfl, hl6, oY, r⟩
  have z4 := r.size
  have bel := bel.trans (r.mono (by omega))
  have ld := ld.below r (by omega)
  have fM := fM.below r (by omega)
  have kp := kp.below r (by omega)
  have ka := ka.below r (by omega)
  have fX := fX.below r (by omega)
  have fY := oY.rdI
  clear r oY fC
  go_wp2_with fail
  refine (sect_first a.modes.length (by omega) X Y0 l0 _ _ _ _ _ _ w4 (by omega) fX fY (by omega) (by omega)).mono ?_
  rintro e w5 ⟨Y, cy, rfl, oY, r⟩
  have z5 := r.size
  have bel := bel.trans (r.mono (by omega))
  have ld := ld.below r (by omega)
  have fM := fM.below r (by omega)
  have kp := kp.below r (by omega)
  have ka := ka.below r (by omega)
  have fX := fX.below r (by omega)
  have fY := oY.rdI
  clear r oY
  have hSl := sect_len a.modes.length l0
  have HEND := hide (fun h0 => acts_end HOK.out (by omega) l0 (S := setOf (keepI (yesB l0) (firstN a.modes.length))) rfl h0)
  generalize setOf (keepI (yesB l0) (firstN a.modes.length)) = S at hSl HEND fY ⊢
  have HA : Hid (ActW w w1.heap.size (w1.heap.size + 1) w5.heap.size w.heap.size #[.int .i64 dd, .slice (some ⟨b, off, none⟩) l.length cm0, .slice L nl cl, .slice R nr cr, .slice S0 ns cs] a Mm cm X Y (firstN a.modes.length) S w5) := hide ⟨bel, kp, ka, fM.mono (Nat.zero_le _) (by omega), fX.mono (Nat.zero_le _) (by omega), fY.mono (Nat.zero_le _) (Nat.le_refl _), ld, by omega, Nat.le_refl _⟩
  clear bel kp ka fM fX fY ld
  have a0 := HA.out.ka.cell 0
  have a1 := HA.out.ka.cell 1
  have a2 := HA.out.ka.cell 2
  have p3 := HA.out.kp.cell 3
  have p4 := HA.out.kp.cell 4
  simp only [List.getElem?_toArray, List.getElem?_cons_succ, List.getElem?_cons_zero] at a0 a1 a2 p3 p4
  go_wp2_with fail
  refine (act_ok HOK.out Mm cm 0 _ w5 (by omega) HA.out.fM HA.out.sz).mono ?_
  rintro e w6 ⟨rfl, r⟩
  have HA := hide (HA.out.next r)
  clear r a0 a1 a2 p3 p4
  have a0 := HA.out.ka.cell 0
  have a1 := HA.out.ka.cell 1
  have a2 := HA.out.ka.cell 2
  have p3 := HA.out.kp.cell 3
  have p4 := HA.out.kp.cell 4
  simp only [List.getElem?_toArray, List.getElem?_cons_succ, List.getElem?_cons_zero] at a0 a1 a2 p3 p4
  have hne : ((a.modes.length : Int) != (a.modes.length : Int)) = false := by simp
  go_wp2_with fail
  refine (act_eq a Mm cm 0 _ w6 (by omega) HA.out.fM HA.out.sz).mono ?_
  rintro e w7 ⟨rfl, r⟩
  have HA := hide (HA.out.next r)
  clear r a0 a1 a2 p3 p4 hne
  have a0 := HA.out.ka.cell 0
  have a1 := HA.out.ka.cell 1
  have a2 := HA.out.ka.cell 2
  have p3 := HA.out.kp.cell 3
  have p4 := HA.out.kp.cell 4
  simp only [List.getElem?_toArray, List.getElem?_cons_succ, List.getElem?_cons_zero] at a0 a1 a2 p3 p4
  go_wp2
  go_loopw [52] (fun v wr => ∃ k : Nat, k ≤ a.modes.length ∧ v = .int .i64 k ∧ Hid (ActW w w1.heap.size (w1.heap.size + 1) w5.heap.size w.heap.size #[.int .i64 dd, .slice (some ⟨b, off, none⟩) l.length cm0, .slice L nl cl, .slice R nr cr, .slice S0 ns cs] a Mm cm X Y (firstN a.modes.length) S wr)) (fun v _ => a.modes.length - (intOf v).toNat)
  case atStart => exact ⟨0, Nat.zero_le _, rfl, HA⟩
  case round =>
    clear HA a0 a1 a2 p3 p4
    obtain ⟨k, hk, rfl, HA⟩ := hrel
    have hN5 := HA.out.sz
    by_cases hlt : k < a.modes.length
    · have q := mode_ask HOK.out (by omega) (by omega) (getD_mem (k := k) md0 hlt)
      obtain ⟨bm, om, U, cu, C, cc, rfl, hb3, hb4, m0, m1, m2, fU, fC⟩ := RdMs.at HA.out.fM hlt
      generalize a.modes.getD k md0 = m at q m0 m1 m2 fU fC
      have hu0 : 0 < m.use.length := by have := q.use0; omega
      obtain ⟨bu, ou, rfl, hu1, hu2, hcu⟩ := fU hu0
      clear hcu
      have hdur := q.dur
      have huse := q.use0
      have hcon := q.con0
      have huv := q.u
      have hP := work_in hdur huv
      have HQ := hide q
      clear q
      go_wp2_with fail
      refine at_world fun v1 hW => ?_
      have r : Below wr.heap.size wr v1 := by rw [hW]; exact (Below.refl _ _).alloc (Nat.le_refl _) _
      have HM : Hid (MdW wr.heap.size w5.heap.size m (some ⟨bu, ou, none⟩) C cu cc v1) := hide ⟨by rw [hW]; exact Bk.made _ _ _, fU.below r hN5, fC.below r hN5, Nat.le_trans hN5 r.size⟩
      have HA := hide (HA.out.next r)
      clear r hW fU fC m0 m1 m2
      refine (implFormatMode_any m _ _ _ _ 0 w5.heap.size v1 (by omega) (by omega) HM.out.fU HM.out.fC HM.out.sz w.heap.size HA.out.ld.t (Nat.le_trans HA.out.hgN HA.out.sz)).mono ?_
      rintro e v2 ⟨rfl, r⟩
      have HA := hide (HA.out.next r)
      have HM := hide (HM.out.next r)
      clear r
      go_wp2_with fail
      refine (mode_back HQ.out v2 w.heap.size HA.out.ld (Nat.le_trans HA.out.hgN HA.out.sz)).mono ?_
      rintro e v3 ⟨U', cu', C', cc', rfl, r⟩
      have HA := hide (HA.out.next r)
      have HM := hide (HM.out.next r)
      clear r
      have am0 := fun o => (HM.out.km.alloc o).cell 0
      have hdd : (m.dur != m.dur) = false := by simp
      go_wp2_with fail
      refine at_reg fun v4 hW => ?_
      have r : Below v3.heap.size v3 v4 := by rw [hW]; exact (Below.refl _ _).alloc (Nat.le_refl _) _
      have kx : Bk v4 v3.heap.size 53 #[.int .i64 m.dur, .slice U' m.use.length cu', .slice C' m.con.length cc'] := by rw [hW]; exact Bk.made _ _ _
      have HA := hide (HA.out.next r)
      have HM := hide (HM.out.next r)
      clear r
      clear hW am0
      have HAW := hide (fun W (hW : Below v4.heap.size v4 W) => HA.out.next hW)
      have HMW := hide (fun W (hW : Below v4.heap.size v4 W) => HM.out.next hW)
      obtain ⟨u, hu⟩ : ∃ u, m.use.getD 0 0 = u := ⟨_, rfl⟩
      have HCL := hide (fun W (hW : Below v4.heap.size v4 W) => cells_of (HA.out.next hW) (HM.out.next hW) (kx.below hW kx.lt) hu0 hu)
      rw [hu] at hP huv
      have HU := hide hu
      clear hu
      have hu1 : (0 : Int) < (m.use.length : Int) := by omega
      have HWP := hide (show IntKind.i64.wrap (m.dur * u) = m.dur * u from IntWalk.i64_in _ (by omega))
      simp only [List.append_eq, List.cons_append, List.nil_append]
      refine start_k (n := 75) (fun W => Below v4.heap.size v4 W) (by kernel_rfl) (by kernel_rfl) (below_quiet (Below.refl _ _) 1) (fun hb => ?_)
      refine take_k (k := 0) (f := 74) (v := ?_) rfl (by kernel_rfl) (by kernel_rfl) (by kernel_rfl) (fun _ _ _ h => h) (Or.inl ⟨by rfl, ?_⟩) hb ?_
      rotate_left
      · intro W hS
        clear hS
        go_simp
        try with_reducible rfl
      try simp only [List.getElem_toArray, List.getElem_cons_succ, List.getElem_cons_zero, Act.put, List.setIfInBounds_toArray, List.set_cons_zero, List.set_cons_succ]
      refine take_k (k := 1) (f := 73) (v := ?_) rfl (by kernel_rfl) (by kernel_rfl) (by kernel_rfl) (fun _ _ _ h => h) (Or.inl ⟨by rfl, ?_⟩) hb ?_
      rotate_left
      · intro W hS
        clear hS
        go_simp
        try with_reducible rfl
      try simp only [List.getElem_toArray, List.getElem_cons_succ, List.getElem_cons_zero, Act.put, List.setIfInBounds_toArray, List.set_cons_zero, List.set_cons_succ]
      refine take_k (k := 2) (f := 72) (v := ?_) rfl (by kernel_rfl) (by kernel_rfl) (by kernel_rfl) (fun _ _ _ h => h) (Or.inl ⟨by rfl, ?_⟩) hb ?_
      rotate_left
      · intro W hS
        clear hS
        go_simp
        try with_reducible rfl
      try simp only [List.getElem_toArray, List.getElem_cons_succ, List.getElem_cons_zero, Act.put, List.setIfInBounds_toArray, List.set_cons_zero, List.set_cons_succ]
      refine take_k (k := 3) (f := 71) (v := ?_) rfl (by kernel_rfl) (by kernel_rfl) (by kernel_rfl) (fun _ _ _ h => h) (Or.inl ⟨by rfl, ?_⟩) hb ?_
      rotate_left
      · intro W hS
        clear hS
        go_simp
        try with_reducible rfl
      try simp only [List.getElem_toArray, List.getElem_cons_succ, List.getElem_cons_zero, Act.put, List.setIfInBounds_toArray, List.set_cons_zero, List.set_cons_succ]
      refine take_k (k := 4) (f := 70) (v := ?_) rfl (by kernel_rfl) (by kernel_rfl) (by kernel_rfl) (fun _ _ _ h => h) (Or.inl ⟨by rfl, ?_⟩) hb ?_
      rotate_left
      · intro W hS
        have l0 := (HCL.out W hS).2.2.2.2.2.2.2.2.1
        clear hS
        go_simp
        try with_reducible rfl
      try simp only [List.getElem_toArray, List.getElem_cons_succ, List.getElem_cons_zero, Act.put, List.setIfInBounds_toArray, List.set_cons_zero, List.set_cons_succ]
      refine take_k (k := 5) (f := 69) (v := ?_) rfl (by kernel_rfl) (by kernel_rfl) (by kernel_rfl) (fun _ _ _ h => h) (Or.inl ⟨by rfl, ?_⟩) hb ?_
      rotate_left
      · intro W hS
        clear hS
        go_simp
        try with_reducible rfl
      try simp only [List.getElem_toArray, List.getElem_cons_succ, List.getElem_cons_zero, Act.put, List.setIfInBounds_toArray, List.set_cons_zero, List.set_cons_succ]
      refine take_k (k := 6) (f := 68) (v := ?_) rfl (by kernel_rfl) (by kernel_rfl) (by kernel_rfl) (fun _ _ _ h => h) (Or.inl ⟨by rfl, ?_⟩) hb ?_
      rotate_left
      · intro W hS
        have l0 := (HCL.out W hS).2.2.2.2.2.1
        clear hS
        go_simp
        try with_reducible rfl
      try simp only [List.getElem_toArray, List.getElem_cons_succ, List.getElem_cons_zero, Act.put, List.setIfInBounds_toArray, List.set_cons_zero, List.set_cons_succ]
      refine take_k (k := 7) (f := 67) (v := ?_) rfl (by kernel_rfl) (by kernel_rfl) (by kernel_rfl) (fun _ _ _ h => h) (Or.inl ⟨by rfl, ?_⟩) hb ?_
      rotate_left
      · intro W hS
        clear hS
        go_simp
        try with_reducible rfl
      try simp only [List.getElem_toArray, List.getElem_cons_succ, List.getElem_cons_zero, Act.put, List.setIfInBounds_toArray, List.set_cons_zero, List.set_cons_succ]
      refine take_k (k := 8) (f := 66) (v := ?_) rfl (by kernel_rfl) (by kernel_rfl) (by kernel_rfl) (fun _ _ _ h => h) (Or.inl ⟨by rfl, ?_⟩) hb ?_
      rotate_left
      · intro W hS
        clear hS
        go_simp
        try with_reducible rfl
      try simp only [List.getElem_toArray, List.getElem_cons_succ, List.getElem_cons_zero, Act.put, List.setIfInBounds_toArray, List.set_cons_zero, List.set_cons_succ]
      refine take_k (k := 9) (f := 65) (v := ?_) rfl (by kernel_rfl) (by kernel_rfl) (by kernel_rfl) (fun _ _ _ h => h) (Or.inl ⟨by rfl, ?_⟩) hb ?_
      rotate_left
      · intro W hS
        clear hS
        go_simp
        try with_reducible rfl
      try simp only [List.getElem_toArray, List.getElem_cons_succ, List.getElem_cons_zero, Act.put, List.setIfInBounds_toArray, List.set_cons_zero, List.set_cons_succ]
      refine take_k (k := 10) (f := 64) (v := ?_) rfl (by kernel_rfl) (by kernel_rfl) (by kernel_rfl) (fun _ _ _ h => h) (Or.inl ⟨by rfl, ?_⟩) hb ?_
      rotate_left
      · intro W hS
        have l0 := (HCL.out W hS).2.2.2.2.2.1
        have l1 := (HCL.out W hS).2.2.2.2.2.2.1
        have l2 := (HCL.out W hS).2.2.2.2.2.2.2.1
        clear hS
        go_simp
        try with_reducible rfl
      try simp only [List.getElem_toArray, List.getElem_cons_succ, List.getElem_cons_zero, Act.put, List.setIfInBounds_toArray, List.set_cons_zero, List.set_cons_succ]
      refine take_k (k := 11) (f := 63) (v := ?_) rfl (by kernel_rfl) (by kernel_rfl) (by kernel_rfl) (fun _ _ _ h => h) (Or.inl ⟨by rfl, ?_⟩) hb ?_
      rotate_left
      · intro W hS
        clear hS
        go_simp
        try with_reducible rfl
      try simp only [List.getElem_toArray, List.getElem_cons_succ, List.getElem_cons_zero, Act.put, List.setIfInBounds_toArray, List.set_cons_zero, List.set_cons_succ]
      refine take_k (k := 12) (f := 62) (v := ?_) rfl (by kernel_rfl) (by kernel_rfl) (by kernel_rfl) (fun _ _ _ h => h) (Or.inl ⟨by rfl, ?_⟩) hb ?_
      rotate_left
      · intro W hS
        have l0 := (HCL.out W hS).2.2.2.1
        clear hS
        go_simp
        try with_reducible rfl
      try simp only [List.getElem_toArray, List.getElem_cons_succ, List.getElem_cons_zero, Act.put, List.setIfInBounds_toArray, List.set_cons_zero, List.set_cons_succ]
      refine take_k (k := 13) (f := 61) (v := ?_) rfl (by kernel_rfl) (by kernel_rfl) (by kernel_rfl) (fun _ _ _ h => h) (Or.inl ⟨by rfl, ?_⟩) hb ?_
      rotate_left
      · intro W hS
        clear hS
        go_simp
        try with_reducible rfl
      try simp only [List.getElem_toArray, List.getElem_cons_succ, List.getElem_cons_zero, Act.put, List.setIfInBounds_toArray, List.set_cons_zero, List.set_cons_succ]
      refine take_k (k := 14) (f := 60) (v := ?_) rfl (by kernel_rfl) (by kernel_rfl) (by kernel_rfl) (fun _ _ _ h => h) (Or.inl ⟨by rfl, ?_⟩) hb ?_
      rotate_left
      · intro W hS
        clear hS
        go_simp
        try with_reducible rfl
      try simp only [List.getElem_toArray, List.getElem_cons_succ, List.getElem_cons_zero, Act.put, List.setIfInBounds_toArray, List.set_cons_zero, List.set_cons_succ]
      refine take_k (k := 15) (f := 59) (v := ?_) rfl (by kernel_rfl) (by kernel_rfl) (by kernel_rfl) (fun _ _ _ h => h) (Or.inl ⟨by rfl, ?_⟩) hb ?_
      rotate_left
      · intro W hS
        have l0 := (HCL.out W hS).2.2.2.2.1
        clear hS
        go_simp
        try with_reducible rfl
      try simp only [List.getElem_toArray, List.getElem_cons_succ, List.getElem_cons_zero, Act.put, List.setIfInBounds_toArray, List.set_cons_zero, List.set_cons_succ]
      refine take_k (k := 16) (f := 58) (v := ?_) rfl (by kernel_rfl) (by kernel_rfl) (by kernel_rfl) (fun _ _ _ h => h) (Or.inl ⟨by rfl, ?_⟩) hb ?_
      rotate_left
      · intro W hS
        clear hS
        go_simp
        try with_reducible rfl
      try simp only [List.getElem_toArray, List.getElem_cons_succ, List.getElem_cons_zero, Act.put, List.setIfInBounds_toArray, List.set_cons_zero, List.set_cons_succ]
      refine step_k (k := 17) (f := 57) (by kernel_rfl) rfl (fun K hK => ?_)
      go_simp
      go_at_call 23
      refine (mode_ok HQ.out _ C cu cc 0 _ _ (HMW.out _ hb).fU (HMW.out _ hb).fC (HMW.out _ hb).sz).mono ?_
      rintro e w' ⟨rfl, r⟩
      have hb := hb.trans (r.mono hb.size)
      refine hK.out _ _ hb (fun _ => ?_)
      clear hK K r
      try simp only [List.getElem_toArray, List.getElem_cons_succ, List.getElem_cons_zero, Act.put, List.setIfInBounds_toArray, List.set_cons_zero, List.set_cons_succ]
      refine take_k (k := 18) (f := 56) (v := ?_) rfl (by kernel_rfl) (by kernel_rfl) (by kernel_rfl) (fun _ _ _ h => h) (Or.inl ⟨by rfl, ?_⟩) hb ?_
      rotate_left
      · intro W hS
        clear hS
        go_simp
        try with_reducible rfl
      try simp only [List.getElem_toArray, List.getElem_cons_succ, List.getElem_cons_zero, Act.put, List.setIfInBounds_toArray, List.set_cons_zero, List.set_cons_succ]
      refine take_k (k := 19) (f := 55) (v := ?_) rfl (by kernel_rfl) (by kernel_rfl) (by kernel_rfl) (fun _ _ _ h => h) (Or.inl ⟨by rfl, ?_⟩) hb ?_
      rotate_left
      · intro W hS
        clear hS
        go_simp
        try with_reducible rfl
      try simp only [List.getElem_toArray, List.getElem_cons_succ, List.getElem_cons_zero, Act.put, List.setIfInBounds_toArray, List.set_cons_zero, List.set_cons_succ]
      refine take_k (k := 20) (f := 54) (v := ?_) rfl (by kernel_rfl) (by kernel_rfl) (by kernel_rfl) (fun _ _ _ h => h) (Or.inl ⟨by rfl, ?_⟩) hb ?_
      rotate_left
      · intro W hS
        clear hS
        go_simp
        try with_reducible rfl
      try simp only [List.getElem_toArray, List.getElem_cons_succ, List.getElem_cons_zero, Act.put, List.setIfInBounds_toArray, List.set_cons_zero, List.set_cons_succ]
      refine take_k (k := 21) (f := 53) (v := ?_) rfl (by kernel_rfl) (by kernel_rfl) (by kernel_rfl) (fun _ _ _ h => h) (Or.inl ⟨by rfl, ?_⟩) hb ?_
      rotate_left
      · intro W hS
        clear hS
        go_simp
        try with_reducible rfl
      try simp only [List.getElem_toArray, List.getElem_cons_succ, List.getElem_cons_zero, Act.put, List.setIfInBounds_toArray, List.set_cons_zero, List.set_cons_succ]
      refine take_k (k := 22) (f := 52) (v := ?_) rfl (by kernel_rfl) (by kernel_rfl) (by kernel_rfl) (fun _ _ _ h => h) (Or.inl ⟨by rfl, ?_⟩) hb ?_
      rotate_left
      · intro W hS
        have l0 := (HCL.out W hS).2.2.2.2.2.1
        clear hS
        go_simp
        try with_reducible rfl
      try simp only [List.getElem_toArray, List.getElem_cons_succ, List.getElem_cons_zero, Act.put, List.setIfInBounds_toArray, List.set_cons_zero, List.set_cons_succ]
      refine take_k (k := 23) (f := 51) (v := ?_) rfl (by kernel_rfl) (by kernel_rfl) (by kernel_rfl) (fun _ _ _ h => h) (Or.inl ⟨by rfl, ?_⟩) hb ?_
      rotate_left
      · intro W hS
        have l0 := (HCL.out W hS).1
        have l1 := (HCL.out W hS).2.1
        have l2 := (HCL.out W hS).2.2.1
        clear hS
        go_simp
        try with_reducible rfl
      try simp only [List.getElem_toArray, List.getElem_cons_succ, List.getElem_cons_zero, Act.put, List.setIfInBounds_toArray, List.set_cons_zero, List.set_cons_succ]
      refine take_k (k := 24) (f := 50) (v := ?_) rfl (by kernel_rfl) (by kernel_rfl) (by kernel_rfl) (fun _ _ _ h => h) (Or.inl ⟨by rfl, ?_⟩) hb ?_
      rotate_left
      · intro W hS
        clear hS
        go_simp
        try with_reducible rfl
      try simp only [List.getElem_toArray, List.getElem_cons_succ, List.getElem_cons_zero, Act.put, List.setIfInBounds_toArray, List.set_cons_zero, List.set_cons_succ]
      refine step_k (k := 25) (f := 49) (by kernel_rfl) rfl (fun K hK => ?_)
      go_simp
      go_at_call 24
      refine (dur_lo (HAW.out _ hb) HQ.out hsz hm3 cx).mono ?_
      rintro e w' ⟨D1, rfl, hD1, r⟩
      have hb := hb.trans (r.mono hb.size)
      have hD1 : ¬ m.dur < D1 := Int.not_lt.2 hD1
      refine hK.out _ _ hb (fun _ => ?_)
      clear hK K r
      try simp only [List.getElem_toArray, List.getElem_cons_succ, List.getElem_cons_zero, Act.put, List.setIfInBounds_toArray, List.set_cons_zero, List.set_cons_succ]
      refine take_k (k := 26) (f := 48) (v := ?_) rfl (by kernel_rfl) (by kernel_rfl) (by kernel_rfl) (fun _ _ _ h => h) (Or.inl ⟨by rfl, ?_⟩) hb ?_
      rotate_left
      · intro W hS
        clear hS
        go_simp
        try with_reducible rfl
      try simp only [List.getElem_toArray, List.getElem_cons_succ, List.getElem_cons_zero, Act.put, List.setIfInBounds_toArray, List.set_cons_zero, List.set_cons_succ]
      refine take_k (k := 27) (f := 47) (v := ?_) rfl (by kernel_rfl) (by kernel_rfl) (by kernel_rfl) (fun _ _ _ h => h) (Or.inl ⟨by rfl, ?_⟩) hb ?_
      rotate_left
      · intro W hS
        clear hS
        go_simp
        try with_reducible rfl
      try simp only [List.getElem_toArray, List.getElem_cons_succ, List.getElem_cons_zero, Act.put, List.setIfInBounds_toArray, List.set_cons_zero, List.set_cons_succ]
      refine take_k (k := 28) (f := 46) (v := ?_) rfl (by kernel_rfl) (by kernel_rfl) (by kernel_rfl) (fun _ _ _ h => h) (Or.inl ⟨by rfl, ?_⟩) hb ?_
      rotate_left
      · intro W hS
        clear hS
        go_simp
        try with_reducible rfl
      try simp only [List.getElem_toArray, List.getElem_cons_succ, List.getElem_cons_zero, Act.put, List.setIfInBounds_toArray, List.set_cons_zero, List.set_cons_succ]
      refine take_k (k := 29) (f := 45) (v := ?_) rfl (by kernel_rfl) (by kernel_rfl) (by kernel_rfl) (fun _ _ _ h => h) (Or.inl ⟨by rfl, ?_⟩) hb ?_
      rotate_left
      · intro W hS
        clear hS
        go_simp
        try with_reducible rfl
      try simp only [List.getElem_toArray, List.getElem_cons_succ, List.getElem_cons_zero, Act.put, List.setIfInBounds_toArray, List.set_cons_zero, List.set_cons_succ]
      refine take_k (k := 30) (f := 44) (v := ?_) rfl (by kernel_rfl) (by kernel_rfl) (by kernel_rfl) (fun _ _ _ h => h) (Or.inl ⟨by rfl, ?_⟩) hb ?_
      rotate_left
      · intro W hS
        have l0 := (HCL.out W hS).2.2.2.2.2.1
        clear hS
        go_simp
        try with_reducible rfl
      try simp only [List.getElem_toArray, List.getElem_cons_succ, List.getElem_cons_zero, Act.put, List.setIfInBounds_toArray, List.set_cons_zero, List.set_cons_succ]
      refine take_k (k := 31) (f := 43) (v := ?_) rfl (by kernel_rfl) (by kernel_rfl) (by kernel_rfl) (fun _ _ _ h => h) (Or.inl ⟨by rfl, ?_⟩) hb ?_
      rotate_left
      · intro W hS
        have l0 := (HCL.out W hS).1
        have l1 := (HCL.out W hS).2.1
        have l2 := (HCL.out W hS).2.2.1
        clear hS
        go_simp
        try with_reducible rfl
      try simp only [List.getElem_toArray, List.getElem_cons_succ, List.getElem_cons_zero, Act.put, List.setIfInBounds_toArray, List.set_cons_zero, List.set_cons_succ]
      refine take_k (k := 32) (f := 42) (v := ?_) rfl (by kernel_rfl) (by kernel_rfl) (by kernel_rfl) (fun _ _ _ h => h) (Or.inl ⟨by rfl, ?_⟩) hb ?_
      rotate_left
      · intro W hS
        clear hS
        go_simp
        try with_reducible rfl
      try simp only [List.getElem_toArray, List.getElem_cons_succ, List.getElem_cons_zero, Act.put, List.setIfInBounds_toArray, List.set_cons_zero, List.set_cons_succ]
      refine step_k (k := 33) (f := 41) (by kernel_rfl) rfl (fun K hK => ?_)
      go_simp
      go_at_call 25
      refine (dur_hi (HAW.out _ hb) HQ.out hsz hm3 cx).mono ?_
      rintro e w' ⟨D2, rfl, hD2, r⟩
      have hb := hb.trans (r.mono hb.size)
      have hD2 : ¬ D2 < m.dur := Int.not_lt.2 hD2
      refine hK.out _ _ hb (fun _ => ?_)
      clear hK K r
      try simp only [List.getElem_toArray, List.getElem_cons_succ, List.getElem_cons_zero, Act.put, List.setIfInBounds_toArray, List.set_cons_zero, List.set_cons_succ]
      refine take_k (k := 34) (f := 40) (v := ?_) rfl (by kernel_rfl) (by kernel_rfl) (by kernel_rfl) (fun _ _ _ h => h) (Or.inl ⟨by rfl, ?_⟩) hb ?_
      rotate_left
      · intro W hS
        clear hS
        go_simp
        try with_reducible rfl
      try simp only [List.getElem_toArray, List.getElem_cons_succ, List.getElem_cons_zero, Act.put, List.setIfInBounds_toArray, List.set_cons_zero, List.set_cons_succ]
      refine take_k (k := 35) (f := 39) (v := ?_) rfl (by kernel_rfl) (by kernel_rfl) (by kernel_rfl) (fun _ _ _ h => h) (Or.inl ⟨by rfl, ?_⟩) hb ?_
      rotate_left
      · intro W hS
        clear hS
        go_simp
        try with_reducible rfl
      try simp only [List.getElem_toArray, List.getElem_cons_succ, List.getElem_cons_zero, Act.put, List.setIfInBounds_toArray, List.set_cons_zero, List.set_cons_succ]
      refine take_k (k := 36) (f := 38) (v := ?_) rfl (by kernel_rfl) (by kernel_rfl) (by kernel_rfl) (fun _ _ _ h => h) (Or.inl ⟨by rfl, ?_⟩) hb ?_
      rotate_left
      · intro W hS
        clear hS
        go_simp
        try with_reducible rfl
      try simp only [List.getElem_toArray, List.getElem_cons_succ, List.getElem_cons_zero, Act.put, List.setIfInBounds_toArray, List.set_cons_zero, List.set_cons_succ]
      refine take_k (k := 37) (f := 37) (v := ?_) rfl (by kernel_rfl) (by kernel_rfl) (by kernel_rfl) (fun _ _ _ h => h) (Or.inl ⟨by rfl, ?_⟩) hb ?_
      rotate_left
      · intro W hS
        clear hS
        go_simp
        try with_reducible rfl
      try simp only [List.getElem_toArray, List.getElem_cons_succ, List.getElem_cons_zero, Act.put, List.setIfInBounds_toArray, List.set_cons_zero, List.set_cons_succ]
      refine take_k (k := 38) (f := 36) (v := ?_) rfl (by kernel_rfl) (by kernel_rfl) (by kernel_rfl) (fun _ _ _ h => h) (Or.inl ⟨by rfl, ?_⟩) hb ?_
      rotate_left
      · intro W hS
        have l0 := (HCL.out W hS).2.2.2.2.2.2.1
        clear hS
        go_simp
        try with_reducible rfl
      try simp only [List.getElem_toArray, List.getElem_cons_succ, List.getElem_cons_zero, Act.put, List.setIfInBounds_toArray, List.set_cons_zero, List.set_cons_succ]
      refine take_k (k := 39) (f := 35) (v := ?_) rfl (by kernel_rfl) (by kernel_rfl) (by kernel_rfl) (fun _ _ _ h => h) (Or.inl ⟨by rfl, ?_⟩) hb ?_
      rotate_left
      · intro W hS
        clear hS
        go_simp
        try with_reducible rfl
      try simp only [List.getElem_toArray, List.getElem_cons_succ, List.getElem_cons_zero, Act.put, List.setIfInBounds_toArray, List.set_cons_zero, List.set_cons_succ]
      refine take_k (k := 40) (f := 34) (v := ?_) rfl (by kernel_rfl) (by kernel_rfl) (by kernel_rfl) (fun _ _ _ h => h) (Or.inl ⟨by rfl, ?_⟩) hb ?_
      rotate_left
      · intro W hS
        have l0 := (HCL.out W hS).2.2.2.2.2.2.2.2.2
        clear hS
        go_simp
        try with_reducible rfl
      try simp only [List.getElem_toArray, List.getElem_cons_succ, List.getElem_cons_zero, Act.put, List.setIfInBounds_toArray, List.set_cons_zero, List.set_cons_succ]
      refine take_k (k := 41) (f := 33) (v := ?_) rfl (by kernel_rfl) (by kernel_rfl) (by kernel_rfl) (fun _ _ _ h => h) (Or.inl ⟨by rfl, ?_⟩) hb ?_
      rotate_left
      · intro W hS
        have l0 := (HCL.out W hS).1
        have l1 := (HCL.out W hS).2.1
        have l2 := (HCL.out W hS).2.2.1
        clear hS
        go_simp
        try with_reducible rfl
      try simp only [List.getElem_toArray, List.getElem_cons_succ, List.getElem_cons_zero, Act.put, List.setIfInBounds_toArray, List.set_cons_zero, List.set_cons_succ]
      refine take_k (k := 42) (f := 32) (v := ?_) rfl (by kernel_rfl) (by kernel_rfl) (by kernel_rfl) (fun _ _ _ h => h) (Or.inl ⟨by rfl, ?_⟩) hb ?_
      rotate_left
      · intro W hS
        clear hS
        go_simp
        try with_reducible rfl
      try simp only [List.getElem_toArray, List.getElem_cons_succ, List.getElem_cons_zero, Act.put, List.setIfInBounds_toArray, List.set_cons_zero, List.set_cons_succ]
      refine step_k (k := 43) (f := 31) (by kernel_rfl) rfl (fun K hK => ?_)
      go_simp
      go_at_call 26
      refine (use_lo (HAW.out _ hb) HQ.out hsz hm3 cx).mono ?_
      rintro e w' ⟨D3, rfl, hD3, r⟩
      have hb := hb.trans (r.mono hb.size)
      rw [HU.out] at hD3
      have hD3 : ¬ u < D3 := Int.not_lt.2 hD3
      refine hK.out _ _ hb (fun _ => ?_)
      clear hK K r
      try simp only [List.getElem_toArray, List.getElem_cons_succ, List.getElem_cons_zero, Act.put, List.setIfInBounds_toArray, List.set_cons_zero, List.set_cons_succ]
      refine take_k (k := 44) (f := 30) (v := ?_) rfl (by kernel_rfl) (by kernel_rfl) (by kernel_rfl) (fun _ _ _ h => h) (Or.inl ⟨by rfl, ?_⟩) hb ?_
      rotate_left
      · intro W hS
        clear hS
        go_simp
        try with_reducible rfl
      try simp only [List.getElem_toArray, List.getElem_cons_succ, List.getElem_cons_zero, Act.put, List.setIfInBounds_toArray, List.set_cons_zero, List.set_cons_succ]
      refine take_k (k := 45) (f := 29) (v := ?_) rfl (by kernel_rfl) (by kernel_rfl) (by kernel_rfl) (fun _ _ _ h => h) (Or.inl ⟨by rfl, ?_⟩) hb ?_
      rotate_left
      · intro W hS
        clear hS
        go_simp
        try with_reducible rfl
      try simp only [List.getElem_toArray, List.getElem_cons_succ, List.getElem_cons_zero, Act.put, List.setIfInBounds_toArray, List.set_cons_zero, List.set_cons_succ]
      refine take_k (k := 46) (f := 28) (v := ?_) rfl (by kernel_rfl) (by kernel_rfl) (by kernel_rfl) (fun _ _ _ h => h) (Or.inl ⟨by rfl, ?_⟩) hb ?_
      rotate_left
      · intro W hS
        clear hS
        go_simp
        try with_reducible rfl
      try simp only [List.getElem_toArray, List.getElem_cons_succ, List.getElem_cons_zero, Act.put, List.setIfInBounds_toArray, List.set_cons_zero, List.set_cons_succ]
      refine take_k (k := 47) (f := 27) (v := ?_) rfl (by kernel_rfl) (by kernel_rfl) (by kernel_rfl) (fun _ _ _ h => h) (Or.inl ⟨by rfl, ?_⟩) hb ?_
      rotate_left
      · intro W hS
        clear hS
        go_simp
        try with_reducible rfl
      try simp only [List.getElem_toArray, List.getElem_cons_succ, List.getElem_cons_zero, Act.put, List.setIfInBounds_toArray, List.set_cons_zero, List.set_cons_succ]
      refine take_k (k := 48) (f := 26) (v := ?_) rfl (by kernel_rfl) (by kernel_rfl) (by kernel_rfl) (fun _ _ _ h => h) (Or.inl ⟨by rfl, ?_⟩) hb ?_
      rotate_left
      · intro W hS
        have l0 := (HCL.out W hS).2.2.2.2.2.1
        clear hS
        go_simp
        try with_reducible rfl
      try simp only [List.getElem_toArray, List.getElem_cons_succ, List.getElem_cons_zero, Act.put, List.setIfInBounds_toArray, List.set_cons_zero, List.set_cons_succ]
      refine take_k (k := 49) (f := 25) (v := ?_) rfl (by kernel_rfl) (by kernel_rfl) (by kernel_rfl) (fun _ _ _ h => h) (Or.inl ⟨by rfl, ?_⟩) hb ?_
      rotate_left
      · intro W hS
        clear hS
        go_simp
        try with_reducible rfl
      try simp only [List.getElem_toArray, List.getElem_cons_succ, List.getElem_cons_zero, Act.put, List.setIfInBounds_toArray, List.set_cons_zero, List.set_cons_succ]
      refine take_k (k := 50) (f := 24) (v := ?_) rfl (by kernel_rfl) (by kernel_rfl) (by kernel_rfl) (fun _ _ _ h => h) (Or.inl ⟨by rfl, ?_⟩) hb ?_
      rotate_left
      · intro W hS
        have l0 := (HCL.out W hS).2.2.2.2.2.2.1
        clear hS
        go_simp
        try with_reducible rfl
      try simp only [List.getElem_toArray, List.getElem_cons_succ, List.getElem_cons_zero, Act.put, List.setIfInBounds_toArray, List.set_cons_zero, List.set_cons_succ]
      refine take_k (k := 51) (f := 23) (v := ?_) rfl (by kernel_rfl) (by kernel_rfl) (by kernel_rfl) (fun _ _ _ h => h) (Or.inl ⟨by rfl, ?_⟩) hb ?_
      rotate_left
      · intro W hS
        clear hS
        go_simp
        try with_reducible rfl
      try simp only [List.getElem_toArray, List.getElem_cons_succ, List.getElem_cons_zero, Act.put, List.setIfInBounds_toArray, List.set_cons_zero, List.set_cons_succ]
      refine take_k (k := 52) (f := 22) (v := ?_) rfl (by kernel_rfl) (by kernel_rfl) (by kernel_rfl) (fun _ _ _ h => h) (Or.inl ⟨by rfl, ?_⟩) hb ?_
      rotate_left
      · intro W hS
        have l0 := (HCL.out W hS).2.2.2.2.2.2.2.2.2
        clear hS
        go_simp
        try with_reducible rfl
      try simp only [List.getElem_toArray, List.getElem_cons_succ, List.getElem_cons_zero, Act.put, List.setIfInBounds_toArray, List.set_cons_zero, List.set_cons_succ]
      refine take_k (k := 53) (f := 21) (v := ?_) rfl (by kernel_rfl) (by kernel_rfl) (by kernel_rfl) (fun _ _ _ h => h) (Or.inl ⟨by rfl, ?_⟩) hb ?_
      rotate_left
      · intro W hS
        clear hS
        go_simp
        try with_reducible rfl
      try simp only [List.getElem_toArray, List.getElem_cons_succ, List.getElem_cons_zero, Act.put, List.setIfInBounds_toArray, List.set_cons_zero, List.set_cons_succ]
      try rw [HWP.out]
      refine take_k (k := 54) (f := 20) (v := ?_) rfl (by kernel_rfl) (by kernel_rfl) (by kernel_rfl) (fun _ _ _ h => h) (Or.inl ⟨by rfl, ?_⟩) hb ?_
      rotate_left
      · intro W hS
        have l0 := (HCL.out W hS).1
        have l1 := (HCL.out W hS).2.1
        have l2 := (HCL.out W hS).2.2.1
        clear hS
        go_simp
        try with_reducible rfl
      try simp only [List.getElem_toArray, List.getElem_cons_succ, List.getElem_cons_zero, Act.put, List.setIfInBounds_toArray, List.set_cons_zero, List.set_cons_succ]
      refine take_k (k := 55) (f := 19) (v := ?_) rfl (by kernel_rfl) (by kernel_rfl) (by kernel_rfl) (fun _ _ _ h => h) (Or.inl ⟨by rfl, ?_⟩) hb ?_
      rotate_left
      · intro W hS
        clear hS
        go_simp
        try with_reducible rfl
      try simp only [List.getElem_toArray, List.getElem_cons_succ, List.getElem_cons_zero, Act.put, List.setIfInBounds_toArray, List.set_cons_zero, List.set_cons_succ]
      refine step_k (k := 56) (f := 18) (by kernel_rfl) rfl (fun K hK => ?_)
      go_simp
      go_at_call 27
      refine (work_lo (HAW.out _ hb) HQ.out hsz hm3 cx).mono ?_
      rintro e w' ⟨D4, rfl, hD4, r⟩
      have hb := hb.trans (r.mono hb.size)
      rw [HU.out] at hD4
      have hD4 : ¬ m.dur * u < D4 := Int.not_lt.2 hD4
      refine hK.out _ _ hb (fun _ => ?_)
      clear hK K r
      try simp only [List.getElem_toArray, List.getElem_cons_succ, List.getElem_cons_zero, Act.put, List.setIfInBounds_toArray, List.set_cons_zero, List.set_cons_succ]
      refine take_k (k := 57) (f := 17) (v := ?_) rfl (by kernel_rfl) (by kernel_rfl) (by kernel_rfl) (fun _ _ _ h => h) (Or.inl ⟨by rfl, ?_⟩) hb ?_
      rotate_left
      · intro W hS
        clear hS
        go_simp
        try with_reducible rfl
      try simp only [List.getElem_toArray, List.getElem_cons_succ, List.getElem_cons_zero, Act.put, List.setIfInBounds_toArray, List.set_cons_zero, List.set_cons_succ]
      refine take_k (k := 58) (f := 16) (v := ?_) rfl (by kernel_rfl) (by kernel_rfl) (by kernel_rfl) (fun _ _ _ h => h) (Or.inl ⟨by rfl, ?_⟩) hb ?_
      rotate_left
      · intro W hS
        clear hS
        go_simp
        try with_reducible rfl
      try simp only [List.getElem_toArray, List.getElem_cons_succ, List.getElem_cons_zero, Act.put, List.setIfInBounds_toArray, List.set_cons_zero, List.set_cons_succ]
      refine take_k (k := 59) (f := 15) (v := ?_) rfl (by kernel_rfl) (by kernel_rfl) (by kernel_rfl) (fun _ _ _ h => h) (Or.inl ⟨by rfl, ?_⟩) hb ?_
      rotate_left
      · intro W hS
        clear hS
        go_simp
        try with_reducible rfl
      try simp only [List.getElem_toArray, List.getElem_cons_succ, List.getElem_cons_zero, Act.put, List.setIfInBounds_toArray, List.set_cons_zero, List.set_cons_succ]
      refine take_k (k := 60) (f := 14) (v := ?_) rfl (by kernel_rfl) (by kernel_rfl) (by kernel_rfl) (fun _ _ _ h => h) (Or.inl ⟨by rfl, ?_⟩) hb ?_
      rotate_left
      · intro W hS
        clear hS
        go_simp
        try with_reducible rfl
      try simp only [List.getElem_toArray, List.getElem_cons_succ, List.getElem_cons_zero, Act.put, List.setIfInBounds_toArray, List.set_cons_zero, List.set_cons_succ]
      refine take_k (k := 61) (f := 13) (v := ?_) rfl (by kernel_rfl) (by kernel_rfl) (by kernel_rfl) (fun _ _ _ h => h) (Or.inl ⟨by rfl, ?_⟩) hb ?_
      rotate_left
      · intro W hS
        have l0 := (HCL.out W hS).2.2.2.2.2.2.2.1
        clear hS
        go_simp
        try with_reducible rfl
      try simp only [List.getElem_toArray, List.getElem_cons_succ, List.getElem_cons_zero, Act.put, List.setIfInBounds_toArray, List.set_cons_zero, List.set_cons_succ]
      refine take_k (k := 62) (f := 12) (v := ?_) rfl (by kernel_rfl) (by kernel_rfl) (by kernel_rfl) (fun _ _ _ h => h) (Or.inl ⟨by rfl, ?_⟩) hb ?_
      rotate_left
      · intro W hS
        clear hS
        go_simp
        try with_reducible rfl
      try simp only [List.getElem_toArray, List.getElem_cons_succ, List.getElem_cons_zero, Act.put, List.setIfInBounds_toArray, List.set_cons_zero, List.set_cons_succ]
      by_cases hc0 : 0 < m.con.length
      · obtain ⟨bc, oc, rfl, _, _, _⟩ := HM.out.fC hc0
        have hc1 : (0 : Int) < (m.con.length : Int) := Int.ofNat_lt.2 hc0
        obtain ⟨uc, huc⟩ : ∃ u, m.con.getD 0 0 = u := ⟨_, rfl⟩
        have HCO := hide (fun W (hW : Below v4.heap.size v4 W) => con_cell (HMW.out W hW) hc0 huc)
        have HV := hide huc
        clear huc
        refine take_k (k := 63) (f := 11) (v := ?_) rfl (by kernel_rfl) (by kernel_rfl) (by kernel_rfl) (fun _ _ _ h => h) (Or.inl ⟨by rfl, ?_⟩) hb ?_
        rotate_left
        · intro W hS
          clear hS
          go_simp
          try with_reducible rfl
        try simp only [List.getElem_toArray, List.getElem_cons_succ, List.getElem_cons_zero, Act.put, List.setIfInBounds_toArray, List.set_cons_zero, List.set_cons_succ]
        refine take_k (k := 64) (f := 10) (v := ?_) rfl (by kernel_rfl) (by kernel_rfl) (by kernel_rfl) (fun _ _ _ h => h) (Or.inl ⟨by rfl, ?_⟩) hb ?_
        rotate_left
        · intro W hS
          clear hS
          go_simp
          try with_reducible rfl
        try simp only [List.getElem_toArray, List.getElem_cons_succ, List.getElem_cons_zero, Act.put, List.setIfInBounds_toArray, List.set_cons_zero, List.set_cons_succ]
        refine take_k (k := 65) (f := 9) (v := ?_) rfl (by kernel_rfl) (by kernel_rfl) (by kernel_rfl) (fun _ _ _ h => h) (Or.inl ⟨by rfl, ?_⟩) hb ?_
        rotate_left
        · intro W hS
          clear hS
          go_simp
          try with_reducible rfl
        try simp only [List.getElem_toArray, List.getElem_cons_succ, List.getElem_cons_zero, Act.put, List.setIfInBounds_toArray, List.set_cons_zero, List.set_cons_succ]
        refine take_k (k := 66) (f := 8) (v := ?_) rfl (by kernel_rfl) (by kernel_rfl) (by kernel_rfl) (fun _ _ _ h => h) (Or.inl ⟨by rfl, ?_⟩) hb ?_
        rotate_left
        · intro W hS
          have l0 := (HCL.out W hS).2.2.2.2.2.2.2.1
          clear hS
          go_simp
          try with_reducible rfl
        try simp only [List.getElem_toArray, List.getElem_cons_succ, List.getElem_cons_zero, Act.put, List.setIfInBounds_toArray, List.set_cons_zero, List.set_cons_succ]
        refine take_k (k := 67) (f := 7) (v := ?_) rfl (by kernel_rfl) (by kernel_rfl) (by kernel_rfl) (fun _ _ _ h => h) (Or.inl ⟨by rfl, ?_⟩) hb ?_
        rotate_left
        · intro W hS
          clear hS
          go_simp
          try with_reducible rfl
        try simp only [List.getElem_toArray, List.getElem_cons_succ, List.getElem_cons_zero, Act.put, List.setIfInBounds_toArray, List.set_cons_zero, List.set_cons_succ]
        refine take_k (k := 68) (f := 6) (v := ?_) rfl (by kernel_rfl) (by kernel_rfl) (by kernel_rfl) (fun _ _ _ h => h) (Or.inl ⟨by rfl, ?_⟩) hb ?_
        rotate_left
        · intro W hS
          have l0 := HCO.out W hS
          clear hS
          go_simp
          try with_reducible rfl
        try simp only [List.getElem_toArray, List.getElem_cons_succ, List.getElem_cons_zero, Act.put, List.setIfInBounds_toArray, List.set_cons_zero, List.set_cons_succ]
        refine take_k (k := 69) (f := 5) (v := ?_) rfl (by kernel_rfl) (by kernel_rfl) (by kernel_rfl) (fun _ _ _ h => h) (Or.inl ⟨by rfl, ?_⟩) hb ?_
        rotate_left
        · intro W hS
          have l0 := (HCL.out W hS).1
          have l1 := (HCL.out W hS).2.1
          have l2 := (HCL.out W hS).2.2.1
          clear hS
          go_simp
          try with_reducible rfl
        try simp only [List.getElem_toArray, List.getElem_cons_succ, List.getElem_cons_zero, Act.put, List.setIfInBounds_toArray, List.set_cons_zero, List.set_cons_succ]
        refine take_k (k := 70) (f := 4) (v := ?_) rfl (by kernel_rfl) (by kernel_rfl) (by kernel_rfl) (fun _ _ _ h => h) (Or.inl ⟨by rfl, ?_⟩) hb ?_
        rotate_left
        · intro W hS
          clear hS
          go_simp
          try with_reducible rfl
        try simp only [List.getElem_toArray, List.getElem_cons_succ, List.getElem_cons_zero, Act.put, List.setIfInBounds_toArray, List.set_cons_zero, List.set_cons_succ]
        refine step_k (k := 71) (f := 3) (by kernel_rfl) rfl (fun K hK => ?_)
        go_simp
        go_at_call 28
        refine (con_lo (HAW.out _ hb) HQ.out hsz hm3 cx hc0).mono ?_
        rintro e w' ⟨D5, rfl, hD5, r⟩
        have hb := hb.trans (r.mono hb.size)
        rw [HV.out] at hD5
        have hD5 : ¬ uc < D5 := Int.not_lt.2 hD5
        refine hK.out _ _ hb (fun _ => ?_)
        clear hK K r
        try simp only [List.getElem_toArray, List.getElem_cons_succ, List.getElem_cons_zero, Act.put, List.setIfInBounds_toArray, List.set_cons_zero, List.set_cons_succ]
        refine take_k (k := 72) (f := 2) (v := ?_) rfl (by kernel_rfl) (by kernel_rfl) (by kernel_rfl) (fun _ _ _ h => h) (Or.inl ⟨by rfl, ?_⟩) hb ?_
        rotate_left
        · intro W hS
          clear hS
          go_simp
          try with_reducible rfl
        try simp only [List.getElem_toArray, List.getElem_cons_succ, List.getElem_cons_zero, Act.put, List.setIfInBounds_toArray, List.set_cons_zero, List.set_cons_succ]
        refine take_k (k := 73) (f := 1) (v := ?_) rfl (by kernel_rfl) (by kernel_rfl) (by kernel_rfl) (fun _ _ _ h => h) (Or.inl ⟨by rfl, ?_⟩) hb ?_
        rotate_left
        · intro W hS
          clear hS
          go_simp
          try with_reducible rfl
        try simp only [List.getElem_toArray, List.getElem_cons_succ, List.getElem_cons_zero, Act.put, List.setIfInBounds_toArray, List.set_cons_zero, List.set_cons_succ]
        refine take_k (k := 74) (f := 0) (v := ?_) rfl (by kernel_rfl) (by kernel_rfl) (by kernel_rfl) (fun _ _ _ h => h) (Or.inl ⟨by rfl, ?_⟩) hb ?_
        rotate_left
        · intro W hS
          clear hS
          go_simp
          try with_reducible rfl
        try simp only [List.getElem_toArray, List.getElem_cons_succ, List.getElem_cons_zero, Act.put, List.setIfInBounds_toArray, List.set_cons_zero, List.set_cons_succ]
        refine done_k (by kernel_rfl) ?_
        have HF := hide (HAW.out _ hb)
        clear hdd hb
        go_wp2
        go_roundw
        case rel => exact ⟨k + 1, by omega, by go_num, HF⟩
        case measure => simp [intOf]; omega
      · have hc1 : m.con.length = 0 := Nat.eq_zero_of_not_pos hc0
        have hc2 : ¬ (0 : Int) < (m.con.length : Int) := fun h => hc0 (Int.ofNat_lt.1 h)
        refine take_k (k := 63) (f := 11) (v := ?_) rfl (by kernel_rfl) (by kernel_rfl) (by kernel_rfl) (fun _ _ _ h => h) (Or.inl ⟨by rfl, ?_⟩) hb ?_
        rotate_left
        · intro W hS
          clear hS
          go_simp
          try with_reducible rfl
        try simp only [List.getElem_toArray, List.getElem_cons_succ, List.getElem_cons_zero, Act.put, List.setIfInBounds_toArray, List.set_cons_zero, List.set_cons_succ]
        refine take_k (k := 64) (f := 10) (v := ?_) rfl (by kernel_rfl) (by kernel_rfl) (by kernel_rfl) (fun _ _ _ h => h) (Or.inl ⟨by rfl, ?_⟩) hb ?_
        rotate_left
        · intro W hS
          clear hS
          go_simp
          try with_reducible rfl
        try simp only [List.getElem_toArray, List.getElem_cons_succ, List.getElem_cons_zero, Act.put, List.setIfInBounds_toArray, List.set_cons_zero, List.set_cons_succ]
        refine take_k (k := 65) (f := 9) (v := undef) rfl (by kernel_rfl) (by kernel_rfl) (by kernel_rfl) (fun _ _ _ h => h) (Or.inr ⟨by rfl, rfl⟩) hb ?_
        try simp only [List.getElem_toArray, List.getElem_cons_succ, List.getElem_cons_zero, Act.put, List.setIfInBounds_toArray, List.set_cons_zero, List.set_cons_succ]
        refine take_k (k := 66) (f := 8) (v := undef) rfl (by kernel_rfl) (by kernel_rfl) (by kernel_rfl) (fun _ _ _ h => h) (Or.inr ⟨by rfl, rfl⟩) hb ?_
        try simp only [List.getElem_toArray, List.getElem_cons_succ, List.getElem_cons_zero, Act.put, List.setIfInBounds_toArray, List.set_cons_zero, List.set_cons_succ]
        refine take_k (k := 67) (f := 7) (v := undef) rfl (by kernel_rfl) (by kernel_rfl) (by kernel_rfl) (fun _ _ _ h => h) (Or.inr ⟨by rfl, rfl⟩) hb ?_
        try simp only [List.getElem_toArray, List.getElem_cons_succ, List.getElem_cons_zero, Act.put, List.setIfInBounds_toArray, List.set_cons_zero, List.set_cons_succ]
        refine take_k (k := 68) (f := 6) (v := undef) rfl (by kernel_rfl) (by kernel_rfl) (by kernel_rfl) (fun _ _ _ h => h) (Or.inr ⟨by rfl, rfl⟩) hb ?_
        try simp only [List.getElem_toArray, List.getElem_cons_succ, List.getElem_cons_zero, Act.put, List.setIfInBounds_toArray, List.set_cons_zero, List.set_cons_succ]
        refine take_k (k := 69) (f := 5) (v := undef) rfl (by kernel_rfl) (by kernel_rfl) (by kernel_rfl) (fun _ _ _ h => h) (Or.inr ⟨by rfl, rfl⟩) hb ?_
        try simp only [List.getElem_toArray, List.getElem_cons_succ, List.getElem_cons_zero, Act.put, List.setIfInBounds_toArray, List.set_cons_zero, List.set_cons_succ]
        refine take_k (k := 70) (f := 4) (v := undef) rfl (by kernel_rfl) (by kernel_rfl) (by kernel_rfl) (fun _ _ _ h => h) (Or.inr ⟨by rfl, rfl⟩) hb ?_
        try simp only [List.getElem_toArray, List.getElem_cons_succ, List.getElem_cons_zero, Act.put, List.setIfInBounds_toArray, List.set_cons_zero, List.set_cons_succ]
        refine take_k (k := 71) (f := 3) (v := undef) rfl (by kernel_rfl) (by kernel_rfl) (by kernel_rfl) (fun _ _ _ h => h) (Or.inr ⟨by rfl, rfl⟩) hb ?_
        try simp only [List.getElem_toArray, List.getElem_cons_succ, List.getElem_cons_zero, Act.put, List.setIfInBounds_toArray, List.set_cons_zero, List.set_cons_succ]
        refine take_k (k := 72) (f := 2) (v := undef) rfl (by kernel_rfl) (by kernel_rfl) (by kernel_rfl) (fun _ _ _ h => h) (Or.inr ⟨by rfl, rfl⟩) hb ?_
        try simp only [List.getElem_toArray, List.getElem_cons_succ, List.getElem_cons_zero, Act.put, List.setIfInBounds_toArray, List.set_cons_zero, List.set_cons_succ]
        refine take_k (k := 73) (f := 1) (v := ?_) rfl (by kernel_rfl) (by kernel_rfl) (by kernel_rfl) (fun _ _ _ h => h) (Or.inl ⟨by rfl, ?_⟩) hb ?_
        rotate_left
        · intro W hS
          clear hS
          go_simp
          try with_reducible rfl
        try simp only [List.getElem_toArray, List.getElem_cons_succ, List.getElem_cons_zero, Act.put, List.setIfInBounds_toArray, List.set_cons_zero, List.set_cons_succ]
        refine take_k (k := 74) (f := 0) (v := ?_) rfl (by kernel_rfl) (by kernel_rfl) (by kernel_rfl) (fun _ _ _ h => h) (Or.inl ⟨by rfl, ?_⟩) hb ?_
        rotate_left
        · intro W hS
          clear hS
          go_simp
          try with_reducible rfl
        try simp only [List.getElem_toArray, List.getElem_cons_succ, List.getElem_cons_zero, Act.put, List.setIfInBounds_toArray, List.set_cons_zero, List.set_cons_succ]
        refine done_k (by kernel_rfl) ?_
        have HF := hide (HAW.out _ hb)
        clear hdd hb
        go_wp2
        go_roundw
        case rel => exact ⟨k + 1, by omega, by go_num, HF⟩
        case measure => simp [intOf]; omega
    · obtain rfl : k = a.modes.length := by omega
      have hb0 := HA.out
      have HAW := hide (fun W (hW : Below wr.heap.size wr W) => HA.out.next hW)
      have HCA := hide (fun W (hW : Below wr.heap.size wr W) => act_cells (HA.out.next hW))
      clear hb0
      go_wp2_with fail
      refine start_k (n := 22) (fun W => Below wr.heap.size wr W) (by kernel_rfl) (by kernel_rfl) (below_quiet (Below.refl _ _) 1) (fun hb => ?_)
      by_cases hS0 : S = []
      · subst hS0
        refine take_k (k := 0) (f := 21) (v := ?_) rfl (by kernel_rfl) (by kernel_rfl) (by kernel_rfl) (fun _ _ _ h => h) (Or.inl ⟨by rfl, ?_⟩) hb ?_
        rotate_left
        · intro W hS
          clear hS
          go_simp
          try with_reducible rfl
        try simp only [List.getElem_toArray, List.getElem_cons_succ, List.getElem_cons_zero, Act.put, List.setIfInBounds_toArray, List.set_cons_zero, List.set_cons_succ]
        refine take_k (k := 1) (f := 20) (v := ?_) rfl (by kernel_rfl) (by kernel_rfl) (by kernel_rfl) (fun _ _ _ h => h) (Or.inl ⟨by rfl, ?_⟩) hb ?_
        rotate_left
        · intro W hS
          clear hS
          go_simp
          try with_reducible rfl
        try simp only [List.getElem_toArray, List.getElem_cons_succ, List.getElem_cons_zero, Act.put, List.setIfInBounds_toArray, List.set_cons_zero, List.set_cons_succ]
        refine take_k (k := 2) (f := 19) (v := ?_) rfl (by kernel_rfl) (by kernel_rfl) (by kernel_rfl) (fun _ _ _ h => h) (Or.inl ⟨by rfl, ?_⟩) hb ?_
        rotate_left
        · intro W hS
          clear hS
          go_simp
          try with_reducible rfl
        try simp only [List.getElem_toArray, List.getElem_cons_succ, List.getElem_cons_zero, Act.put, List.setIfInBounds_toArray, List.set_cons_zero, List.set_cons_succ]
        refine take_k (k := 3) (f := 18) (v := ?_) rfl (by kernel_rfl) (by kernel_rfl) (by kernel_rfl) (fun _ _ _ h => h) (Or.inl ⟨by rfl, ?_⟩) hb ?_
        rotate_left
        · intro W hS
          clear hS
          go_simp
          try with_reducible rfl
        try simp only [List.getElem_toArray, List.getElem_cons_succ, List.getElem_cons_zero, Act.put, List.setIfInBounds_toArray, List.set_cons_zero, List.set_cons_succ]
        refine take_k (k := 4) (f := 17) (v := undef) rfl (by kernel_rfl) (by kernel_rfl) (by kernel_rfl) (fun _ _ _ h => h) (Or.inr ⟨by rfl, rfl⟩) hb ?_
        try simp only [List.getElem_toArray, List.getElem_cons_succ, List.getElem_cons_zero, Act.put, List.setIfInBounds_toArray, List.set_cons_zero, List.set_cons_succ]
        refine take_k (k := 5) (f := 16) (v := undef) rfl (by kernel_rfl) (by kernel_rfl) (by kernel_rfl) (fun _ _ _ h => h) (Or.inr ⟨by rfl, rfl⟩) hb ?_
        try simp only [List.getElem_toArray, List.getElem_cons_succ, List.getElem_cons_zero, Act.put, List.setIfInBounds_toArray, List.set_cons_zero, List.set_cons_succ]
        refine take_k (k := 6) (f := 15) (v := undef) rfl (by kernel_rfl) (by kernel_rfl) (by kernel_rfl) (fun _ _ _ h => h) (Or.inr ⟨by rfl, rfl⟩) hb ?_
        try simp only [List.getElem_toArray, List.getElem_cons_succ, List.getElem_cons_zero, Act.put, List.setIfInBounds_toArray, List.set_cons_zero, List.set_cons_succ]
        refine take_k (k := 7) (f := 14) (v := undef) rfl (by kernel_rfl) (by kernel_rfl) (by kernel_rfl) (fun _ _ _ h => h) (Or.inr ⟨by rfl, rfl⟩) hb ?_
        try simp only [List.getElem_toArray, List.getElem_cons_succ, List.getElem_cons_zero, Act.put, List.setIfInBounds_toArray, List.set_cons_zero, List.set_cons_succ]
        refine take_k (k := 8) (f := 13) (v := undef) rfl (by kernel_rfl) (by kernel_rfl) (by kernel_rfl) (fun _ _ _ h => h) (Or.inr ⟨by rfl, rfl⟩) hb ?_
        try simp only [List.getElem_toArray, List.getElem_cons_succ, List.getElem_cons_zero, Act.put, List.setIfInBounds_toArray, List.set_cons_zero, List.set_cons_succ]
        refine take_k (k := 9) (f := 12) (v := undef) rfl (by kernel_rfl) (by kernel_rfl) (by kernel_rfl) (fun _ _ _ h => h) (Or.inr ⟨by rfl, rfl⟩) hb ?_
        try simp only [List.getElem_toArray, List.getElem_cons_succ, List.getElem_cons_zero, Act.put, List.setIfInBounds_toArray, List.set_cons_zero, List.set_cons_succ]
        refine take_k (k := 10) (f := 11) (v := undef) rfl (by kernel_rfl) (by kernel_rfl) (by kernel_rfl) (fun _ _ _ h => h) (Or.inr ⟨by rfl, rfl⟩) hb ?_
        try simp only [List.getElem_toArray, List.getElem_cons_succ, List.getElem_cons_zero, Act.put, List.setIfInBounds_toArray, List.set_cons_zero, List.set_cons_succ]
        refine take_k (k := 11) (f := 10) (v := undef) rfl (by kernel_rfl) (by kernel_rfl) (by kernel_rfl) (fun _ _ _ h => h) (Or.inr ⟨by rfl, rfl⟩) hb ?_
        try simp only [List.getElem_toArray, List.getElem_cons_succ, List.getElem_cons_zero, Act.put, List.setIfInBounds_toArray, List.set_cons_zero, List.set_cons_succ]
        refine take_k (k := 12) (f := 9) (v := undef) rfl (by kernel_rfl) (by kernel_rfl) (by kernel_rfl) (fun _ _ _ h => h) (Or.inr ⟨by rfl, rfl⟩) hb ?_
        try simp only [List.getElem_toArray, List.getElem_cons_succ, List.getElem_cons_zero, Act.put, List.setIfInBounds_toArray, List.set_cons_zero, List.set_cons_succ]
        refine take_k (k := 13) (f := 8) (v := undef) rfl (by kernel_rfl) (by kernel_rfl) (by kernel_rfl) (fun _ _ _ h => h) (Or.inr ⟨by rfl, rfl⟩) hb ?_
        try simp only [List.getElem_toArray, List.getElem_cons_succ, List.getElem_cons_zero, Act.put, List.setIfInBounds_toArray, List.set_cons_zero, List.set_cons_succ]
        refine take_k (k := 14) (f := 7) (v := undef) rfl (by kernel_rfl) (by kernel_rfl) (by kernel_rfl) (fun _ _ _ h => h) (Or.inr ⟨by rfl, rfl⟩) hb ?_
        try simp only [List.getElem_toArray, List.getElem_cons_succ, List.getElem_cons_zero, Act.put, List.setIfInBounds_toArray, List.set_cons_zero, List.set_cons_succ]
        refine take_k (k := 15) (f := 6) (v := undef) rfl (by kernel_rfl) (by kernel_rfl) (by kernel_rfl) (fun _ _ _ h => h) (Or.inr ⟨by rfl, rfl⟩) hb ?_
        try simp only [List.getElem_toArray, List.getElem_cons_succ, List.getElem_cons_zero, Act.put, List.setIfInBounds_toArray, List.set_cons_zero, List.set_cons_succ]
        refine take_k (k := 16) (f := 5) (v := undef) rfl (by kernel_rfl) (by kernel_rfl) (by kernel_rfl) (fun _ _ _ h => h) (Or.inr ⟨by rfl, rfl⟩) hb ?_
        try simp only [List.getElem_toArray, List.getElem_cons_succ, List.getElem_cons_zero, Act.put, List.setIfInBounds_toArray, List.set_cons_zero, List.set_cons_succ]
        refine take_k (k := 17) (f := 4) (v := undef) rfl (by kernel_rfl) (by kernel_rfl) (by kernel_rfl) (fun _ _ _ h => h) (Or.inr ⟨by rfl, rfl⟩) hb ?_
        try simp only [List.getElem_toArray, List.getElem_cons_succ, List.getElem_cons_zero, Act.put, List.setIfInBounds_toArray, List.set_cons_zero, List.set_cons_succ]
        refine take_k (k := 18) (f := 3) (v := undef) rfl (by kernel_rfl) (by kernel_rfl) (by kernel_rfl) (fun _ _ _ h => h) (Or.inr ⟨by rfl, rfl⟩) hb ?_
        try simp only [List.getElem_toArray, List.getElem_cons_succ, List.getElem_cons_zero, Act.put, List.setIfInBounds_toArray, List.set_cons_zero, List.set_cons_succ]
        refine take_k (k := 19) (f := 2) (v := undef) rfl (by kernel_rfl) (by kernel_rfl) (by kernel_rfl) (fun _ _ _ h => h) (Or.inr ⟨by rfl, rfl⟩) hb ?_
        try simp only [List.getElem_toArray, List.getElem_cons_succ, List.getElem_cons_zero, Act.put, List.setIfInBounds_toArray, List.set_cons_zero, List.set_cons_succ]
        refine take_k (k := 20) (f := 1) (v := ?_) rfl (by kernel_rfl) (by kernel_rfl) (by kernel_rfl) (fun _ _ _ h => h) (Or.inl ⟨by rfl, ?_⟩) hb ?_
        rotate_left
        · intro W hS
          clear hS
          go_simp
          try with_reducible rfl
        try simp only [List.getElem_toArray, List.getElem_cons_succ, List.getElem_cons_zero, Act.put, List.setIfInBounds_toArray, List.set_cons_zero, List.set_cons_succ]
        refine take_k (k := 21) (f := 0) (v := ?_) rfl (by kernel_rfl) (by kernel_rfl) (by kernel_rfl) (fun _ _ _ h => h) (Or.inl ⟨by rfl, ?_⟩) hb ?_
        rotate_left
        · intro W hS
          clear hS
          go_simp
          try with_reducible rfl
        try simp only [List.getElem_toArray, List.getElem_cons_succ, List.getElem_cons_zero, Act.put, List.setIfInBounds_toArray, List.set_cons_zero, List.set_cons_succ]
        refine done_k (by kernel_rfl) ?_
        have HF := hide (HAW.out _ hb).bel
        clear hb
        go_wp2
        go_ret
        exact ⟨rfl, HF.out⟩
      · have hSn : 0 < S.length := List.length_pos_iff.2 hS0
        have hSi : ¬ (S.length : Int) = 0 := by omega
        have hSi2 : ((S.length : Int) == 0) = false := by simp; exact hS0
        obtain ⟨hE, hF⟩ := HEND.out hS0
        refine wpAnyH_take (i := 0) (v := ?_) rfl (by kernel_rfl) (by kernel_rfl) (by kernel_rfl) (fun _ _ _ h => h) (Or.inl ⟨by rfl, ?_⟩) hb ?_
        rotate_left
        · intro W hS
          clear hS
          go_simp
          try with_reducible rfl
        try simp only [List.getElem_toArray, List.getElem_cons_succ, List.getElem_cons_zero, Act.put, List.setIfInBounds_toArray, List.set_cons_zero, List.set_cons_succ]
        refine wpAnyH_take (i := 1) (v := ?_) rfl (by kernel_rfl) (by kernel_rfl) (by kernel_rfl) (fun _ _ _ h => h) (Or.inl ⟨by rfl, ?_⟩) hb ?_
        rotate_left
        · intro W hS
          clear hS
          go_simp
          try with_reducible rfl
        try simp only [List.getElem_toArray, List.getElem_cons_succ, List.getElem_cons_zero, Act.put, List.setIfInBounds_toArray, List.set_cons_zero, List.set_cons_succ]
        refine wpAnyH_take (i := 2) (v := ?_) rfl (by kernel_rfl) (by kernel_rfl) (by kernel_rfl) (fun _ _ _ h => h) (Or.inl ⟨by rfl, ?_⟩) hb ?_
        rotate_left
        · intro W hS
          clear hS
          go_simp
          try with_reducible rfl
        try simp only [List.getElem_toArray, List.getElem_cons_succ, List.getElem_cons_zero, Act.put, List.setIfInBounds_toArray, List.set_cons_zero, List.set_cons_succ]
        refine wpAnyH_take (i := 3) (v := ?_) rfl (by kernel_rfl) (by kernel_rfl) (by kernel_rfl) (fun _ _ _ h => h) (Or.inl ⟨by rfl, ?_⟩) hb ?_
        rotate_left
        · intro W hS
          clear hS
          go_simp
          try with_reducible rfl
        try simp only [List.getElem_toArray, List.getElem_cons_succ, List.getElem_cons_zero, Act.put, List.setIfInBounds_toArray, List.set_cons_zero, List.set_cons_succ]
        refine wpAnyH_take (i := 4) (v := ?_) rfl (by kernel_rfl) (by kernel_rfl) (by kernel_rfl) (fun _ _ _ h => h) (Or.inl ⟨by rfl, ?_⟩) hb ?_
        rotate_left
        · intro W hS
          have l0 := (HCA.out W hS).1
          have l1 := (HCA.out W hS).2.1
          have l2 := (HCA.out W hS).2.2
          clear hS
          go_simp
          try with_reducible rfl
        try simp only [List.getElem_toArray, List.getElem_cons_succ, List.getElem_cons_zero, Act.put, List.setIfInBounds_toArray, List.set_cons_zero, List.set_cons_succ]
        refine wpAnyH_take (i := 5) (v := ?_) rfl (by kernel_rfl) (by kernel_rfl) (by kernel_rfl) (fun _ _ _ h => h) (Or.inl ⟨by rfl, ?_⟩) hb ?_
        rotate_left
        · intro W hS
          clear hS
          go_simp
          try with_reducible rfl
        try simp only [List.getElem_toArray, List.getElem_cons_succ, List.getElem_cons_zero, Act.put, List.setIfInBounds_toArray, List.set_cons_zero, List.set_cons_succ]
        refine wpAnyH_take (i := 7) (v := ?_) rfl (by kernel_rfl) (by kernel_rfl) (by kernel_rfl) (fun _ _ _ h => h) (Or.inl ⟨by rfl, ?_⟩) hb ?_
        rotate_left
        · intro W hS
          have l0 := (HCA.out W hS).1
          have l1 := (HCA.out W hS).2.1
          have l2 := (HCA.out W hS).2.2
          clear hS
          go_simp
          try with_reducible rfl
        try simp only [List.getElem_toArray, List.getElem_cons_succ, List.getElem_cons_zero, Act.put, List.setIfInBounds_toArray, List.set_cons_zero, List.set_cons_succ]
        refine wpAnyH_take (i := 8) (v := ?_) rfl (by kernel_rfl) (by kernel_rfl) (by kernel_rfl) (fun _ _ _ h => h) (Or.inl ⟨by rfl, ?_⟩) hb ?_
        rotate_left
        · intro W hS
          clear hS
          go_simp
          try with_reducible rfl
        try simp only [List.getElem_toArray, List.getElem_cons_succ, List.getElem_cons_zero, Act.put, List.setIfInBounds_toArray, List.set_cons_zero, List.set_cons_succ]
        refine wpAnyH_ready (rs := [6]) (by kernel_rfl) (by simp) (AllReadyH.cons rfl (fun K hK => ?_) AllReadyH.nil)
        go_simp
        go_at_call 24
        refine (dur_Y (HAW.out _ hb) hsz hm3 hSl cy).mono ?_
        rintro e w' ⟨rfl, r⟩
        have hb := hb.trans (r.mono hb.size)
        refine hK.out _ _ hb (fun _ => ?_)
        clear hK K r
        try simp only [List.getElem_toArray, List.getElem_cons_succ, List.getElem_cons_zero, Act.put, List.setIfInBounds_toArray, List.set_cons_zero, List.set_cons_succ]
        refine wpAnyH_ready (rs := [9]) (by kernel_rfl) (by simp) (AllReadyH.cons rfl (fun K hK => ?_) AllReadyH.nil)
        go_simp
        go_at_call 24
        refine (dur_X (HAW.out _ hb) hsz hm3 cx).mono ?_
        rintro e w' ⟨rfl, r⟩
        have hb := hb.trans (r.mono hb.size)
        refine hK.out _ _ hb (fun _ => ?_)
        clear hK K r
        try simp only [List.getElem_toArray, List.getElem_cons_succ, List.getElem_cons_zero, Act.put, List.setIfInBounds_toArray, List.set_cons_zero, List.set_cons_succ]
        refine wpAnyH_take (i := 10) (v := ?_) rfl (by kernel_rfl) (by kernel_rfl) (by kernel_rfl) (fun _ _ _ h => h) (Or.inl ⟨by rfl, ?_⟩) hb ?_
        rotate_left
        · intro W hS
          clear hS
          go_simp
          try with_reducible rfl
        try simp only [List.getElem_toArray, List.getElem_cons_succ, List.getElem_cons_zero, Act.put, List.setIfInBounds_toArray, List.set_cons_zero, List.set_cons_succ]
        refine wpAnyH_take (i := 11) (v := ?_) rfl (by kernel_rfl) (by kernel_rfl) (by kernel_rfl) (fun _ _ _ h => h) (Or.inl ⟨by rfl, ?_⟩) hb ?_
        rotate_left
        · intro W hS
          clear hS
          go_simp
          try with_reducible rfl
        try simp only [List.getElem_toArray, List.getElem_cons_succ, List.getElem_cons_zero, Act.put, List.setIfInBounds_toArray, List.set_cons_zero, List.set_cons_succ]
        refine wpAnyH_take (i := 12) (v := ?_) rfl (by kernel_rfl) (by kernel_rfl) (by kernel_rfl) (fun _ _ _ h => h) (Or.inl ⟨by rfl, ?_⟩) hb ?_
        rotate_left
        · intro W hS
          have l0 := (HCA.out W hS).1
          have l1 := (HCA.out W hS).2.1
          have l2 := (HCA.out W hS).2.2
          clear hS
          go_simp
          try with_reducible rfl
        try simp only [List.getElem_toArray, List.getElem_cons_succ, List.getElem_cons_zero, Act.put, List.setIfInBounds_toArray, List.set_cons_zero, List.set_cons_succ]
        refine wpAnyH_take (i := 13) (v := ?_) rfl (by kernel_rfl) (by kernel_rfl) (by kernel_rfl) (fun _ _ _ h => h) (Or.inl ⟨by rfl, ?_⟩) hb ?_
        rotate_left
        · intro W hS
          clear hS
          go_simp
          try with_reducible rfl
        try simp only [List.getElem_toArray, List.getElem_cons_succ, List.getElem_cons_zero, Act.put, List.setIfInBounds_toArray, List.set_cons_zero, List.set_cons_succ]
        refine wpAnyH_take (i := 15) (v := ?_) rfl (by kernel_rfl) (by kernel_rfl) (by kernel_rfl) (fun _ _ _ h => h) (Or.inl ⟨by rfl, ?_⟩) hb ?_
        rotate_left
        · intro W hS
          have l0 := (HCA.out W hS).1
          have l1 := (HCA.out W hS).2.1
          have l2 := (HCA.out W hS).2.2
          clear hS
          go_simp
          try with_reducible rfl
        try simp only [List.getElem_toArray, List.getElem_cons_succ, List.getElem_cons_zero, Act.put, List.setIfInBounds_toArray, List.set_cons_zero, List.set_cons_succ]
        refine wpAnyH_take (i := 16) (v := ?_) rfl (by kernel_rfl) (by kernel_rfl) (by kernel_rfl) (fun _ _ _ h => h) (Or.inl ⟨by rfl, ?_⟩) hb ?_
        rotate_left
        · intro W hS
          clear hS
          go_simp
          try with_reducible rfl
        try simp only [List.getElem_toArray, List.getElem_cons_succ, List.getElem_cons_zero, Act.put, List.setIfInBounds_toArray, List.set_cons_zero, List.set_cons_succ]
        refine wpAnyH_ready (rs := [14]) (by kernel_rfl) (by simp) (AllReadyH.cons rfl (fun K hK => ?_) AllReadyH.nil)
        go_simp
        go_at_call 26
        refine (use_Y (HAW.out _ hb) hsz hm3 hSl cy).mono ?_
        rintro e w' ⟨rfl, r⟩
        have hb := hb.trans (r.mono hb.size)
        refine hK.out _ _ hb (fun _ => ?_)
        clear hK K r
        try simp only [List.getElem_toArray, List.getElem_cons_succ, List.getElem_cons_zero, Act.put, List.setIfInBounds_toArray, List.set_cons_zero, List.set_cons_succ]
        refine wpAnyH_ready (rs := [17]) (by kernel_rfl) (by simp) (AllReadyH.cons rfl (fun K hK => ?_) AllReadyH.nil)
        go_simp
        go_at_call 26
        refine (use_X (HAW.out _ hb) hsz hm3 cx).mono ?_
        rintro e w' ⟨rfl, r⟩
        have hb := hb.trans (r.mono hb.size)
        refine hK.out _ _ hb (fun _ => ?_)
        clear hK K r
        try simp only [List.getElem_toArray, List.getElem_cons_succ, List.getElem_cons_zero, Act.put, List.setIfInBounds_toArray, List.set_cons_zero, List.set_cons_succ]
        refine wpAnyH_take (i := 18) (v := ?_) rfl (by kernel_rfl) (by kernel_rfl) (by kernel_rfl) (fun _ _ _ h => h) (Or.inl ⟨by rfl, ?_⟩) hb ?_
        rotate_left
        · intro W hS
          clear hS
          go_simp
          try with_reducible rfl
        try simp only [List.getElem_toArray, List.getElem_cons_succ, List.getElem_cons_zero, Act.put, List.setIfInBounds_toArray, List.set_cons_zero, List.set_cons_succ]
        refine wpAnyH_take (i := 19) (v := ?_) rfl (by kernel_rfl) (by kernel_rfl) (by kernel_rfl) (fun _ _ _ h => h) (Or.inl ⟨by rfl, ?_⟩) hb ?_
        rotate_left
        · intro W hS
          clear hS
          go_simp
          try with_reducible rfl
        try simp only [List.getElem_toArray, List.getElem_cons_succ, List.getElem_cons_zero, Act.put, List.setIfInBounds_toArray, List.set_cons_zero, List.set_cons_succ]
        refine wpAnyH_take (i := 20) (v := ?_) rfl (by kernel_rfl) (by kernel_rfl) (by kernel_rfl) (fun _ _ _ h => h) (Or.inl ⟨by rfl, ?_⟩) hb ?_
        rotate_left
        · intro W hS
          clear hS
          go_simp
          try with_reducible rfl
        try simp only [List.getElem_toArray, List.getElem_cons_succ, List.getElem_cons_zero, Act.put, List.setIfInBounds_toArray, List.set_cons_zero, List.set_cons_succ]
        refine wpAnyH_take (i := 21) (v := ?_) rfl (by kernel_rfl) (by kernel_rfl) (by kernel_rfl) (fun _ _ _ h => h) (Or.inl ⟨by rfl, ?_⟩) hb ?_
        rotate_left
        · intro W hS
          clear hS
          go_simp
          try with_reducible rfl
        try simp only [List.getElem_toArray, List.getElem_cons_succ, List.getElem_cons_zero, Act.put, List.setIfInBounds_toArray, List.set_cons_zero, List.set_cons_succ]
        refine wpAnyH_done (by kernel_rfl) ?_ _
        have HF := hide (HAW.out _ hb).bel
        clear hb
        go_wp2
        go_ret
        exact ⟨rfl, HF.out⟩

theorem one_cellsB {w : World} {a : Addr} {o : Nat} {cs : List Value} (h : w.cells? 0 (a.add o) 1 = some cs) : ∃ u, cs = [u] ∧ w.cell? (a.add o) = some u := by
  obtain ⟨_, hl, hat⟩ := World.cells?_some h
  obtain ⟨u, rfl⟩ := List.length_eq_one_iff.1 hl
  refine ⟨u, rfl, ?_⟩
  have := hat 0 (by omega)
  rw [add_add, Nat.add_zero] at this
  exact this
theorem open_bytesB {H : Type} {enc : TypeId × Value → H} {P : Program} {w : World} {spare : Nat → Bool} {held : Bool} {t e : TypeId} {base : Nat} {v : Value} {d : DataW H} {p : List MemPlace} (ht : P.underlying t = some (.slice e)) (he : P.underlying e = some (.int .u8)) (hC : P.cellsOf e = 1)
    (hv : Value.okWide P w .any base t v) (h : DataW.Trod enc P w 0 spare held t v d p) : ∃ A n c, v = .slice A n c ∧ RdB w 0 w.heap.size A n ∧ n ≤ 9223372036854775807 := by
  obtain ⟨a0, len0, cap0, rfl⟩ := okWide_slice ht hv
  obtain ⟨n, hf⟩ := h
  rcases open_slice ht hf with ⟨hcs, _⟩ | ⟨a, len, cap, m, k, D, Pl, hcs, _, hl, hm, hmm, _, hi⟩
  · simp [Value.cells] at hcs
    obtain ⟨rfl, rfl, rfl⟩ := hcs
    exact ⟨_, _, _, rfl, fun h0 => absurd h0 (by omega), by omega⟩
  · simp [Value.cells] at hcs
    obtain ⟨rfl, rfl, rfl⟩ := hcs
    have hlm : len0 ≤ m := by rw [hmm]; split <;> omega
    have E : ∀ i, i < len0 → ∃ x : Int, 0 ≤ x ∧ x ≤ 255 ∧ w.cell? (a.add i) = some (.int .u8 x) := by
      intro i hil
      obtain ⟨cs', hcs', hts'⟩ := hi i (by omega)
      rw [hC, Nat.mul_one] at hcs'
      obtain ⟨u, rfl, hu⟩ := one_cellsB hcs'
      obtain ⟨x, e1, _, hw⟩ := DataW.trod_int he hts'
      simp at e1
      subst e1
      have hb : 0 ≤ x ∧ x ≤ 255 := by
        have e0 : IntKind.u8.min = 0 := by decide
        have e1 : IntKind.u8.max = 255 := by decide
        simp only [Lit.wf, Bool.and_eq_true, decide_eq_true_eq, e0, e1] at hw
        omega
      exact ⟨x, hb.1, hb.2, hu⟩
    refine ⟨_, _, _, rfl, fun h0 => ?_, by unfold maxLen at hm; omega⟩
    obtain ⟨x0, _, _, hx0⟩ := E 0 h0
    have hb' : a.block < w.heap.size := by
      have := World.block_lt_of_cell? _ _ hx0
      unfold Addr.add at this
      split at this <;> exact this
    obtain ⟨xb, xo, xs⟩ := a
    have hs : xs = none := by
      have := World.cell?_spot hx0
      simpa [Addr.add] using this
    subst hs
    refine ⟨xb, xo, rfl, Nat.zero_le _, hb', fun j hj => ?_⟩
    obtain ⟨x, h1, h2, h3⟩ := E j hj
    rw [add_none] at h3
    exact ⟨x, h1, h2, h3⟩

theorem reads (os : Os) {H : Type} (enc : TypeId × Value → H) : ∃ x, DataW.whole enc Tryz.prog ((laidWorldE os).forCall (fun _ _ => 0) ⟨#[], #[.slice none 0 0], []⟩).memory Tryz.f5.params.toList Rows.fnActsSpec.vars false #[(.slice none 0 0 : Value)].toList 8 = some x := by
  have h : (DataW.whole enc Tryz.prog ((laidWorldE os).forCall (fun _ _ => 0) ⟨#[], #[.slice none 0 0], []⟩).memory Tryz.f5.params.toList Rows.fnActsSpec.vars false #[(.slice none 0 0 : Value)].toList 8).isSome = true := by kernel_rfl
  exact Option.isSome_iff_exists.1 h
set_option maxRecDepth 100000 in
theorem lifted (os : Os) (started : os.Started) (H : Type) (enc : TypeId × Value → H) (F : Stop.Interp) :
    ReturnsInHanded {} Tryz.checked os 5 .any ((OpenSpec.ofChange Rows.fnActsSpec).preRow enc Tryz.prog Tryz.f5 Rows.fnActsRow.domain false Rows.fnActsRow.laid) (((OpenSpec.ofChange Rows.fnActsSpec).at F).post enc Tryz.prog Tryz.f5 false true false false) := by
  obtain ⟨x, hx⟩ := reads os enc
  refine returnsInHanded_of_row (C := Tryz.checked) (s := OpenSpec.ofChange Rows.fnActsSpec) ownP started (by kernel_rfl) Tryz.func5
    (witness_row_at (enc := enc) (C := Tryz.checked) false (laidWorldE os) #[.slice none 0 0] rfl (by kernel_rfl) (by kernel_rfl) (by kernel_rfl)
      (OpenSpec.preRow_of_cond 8 hx rfl (fun k hk => by cases hk) (by kernel_rfl) (laid_metE os _))) ?_
  intro W base args ds gs before hval0 hW _ _ _ hL hSh _
  have hval : ∀ (j : Nat) t v, Tryz.f5.params[j]? = some t → args[j]? = some v → Value.okWide Tryz.prog W .any base t v := hval0
  have hW' := hW
  obtain ⟨p, q, hA0, hV, rfl, hfz, hnd⟩ := hW
  have hA : DataW.TrodAll enc Tryz.prog W 0 (fun _ => true) true Tryz.f5.params.toList args.toList ds p := hA0
  rw [Tryz.params5] at hA hval
  obtain ⟨v0, vs0, d0, ds0, p0, q0, hargs, rfl, rfl, h0, r0⟩ := trodAll_cons hA
  obtain ⟨rfl, rfl, rfl⟩ := trodAll_nil r0
  obtain rfl : args = #[v0] := by cases args; simp_all
  obtain ⟨rfl, rfl⟩ := trodVars_none hV
  have k0 := h0
  have lt0 : ∀ x ∈ p0, x.block < W.heap.size := by obtain ⟨m, hm⟩ := k0; exact DataW.trod_lt m _ _ _ hm
  obtain ⟨A0, x0, c0, rfl, m0, i0⟩ := open_bytesB Tryz.underlying42 Tryz.underlying5 (by kernel_rfl) (hval 0 42 v0 rfl rfl) h0
  clear hA0 hval0
  refine (walk A0 x0 c0 W i0 m0 (ldE_of hL)).mono fun e W' ⟨he, bel⟩ => ?_
  subst he
  exact ⟨_, rfl, _, _, _, [], _, [], hW', trodAll_mk1 (shut_bool Tryz.underlying4 _), (trodAll_cons_mk (Below.trod laidOut (by kernel_rfl) (of_decide_eq_true (by kernel_rfl)) k0 bel lt0) trodAll_mk0), rfl, bel.frame _, fun h => by cases h⟩
theorem over : Rows.FnActsSaid :=
  OpenClaim.holds_of_cond 5 Tryz.f5 rfl rfl rfl rfl rfl rfl rfl ⟨rfl, rfl, rfl, rfl, rfl⟩ rfl rfl rfl rfl rfl (by kernel_rfl) Tryz.func5 (by kernel_rfl)
    (of_decide_eq_true (by kernel_rfl)) (by unfold Func.isWrapper; first | (rw [if_pos (by decide +kernel)]; kernel_rfl) | (rw [if_neg (by decide +kernel)]; exact ⟨rfl, rfl⟩))
    (fun os started H enc _ F => by rw [OpenClaim.pre_eq_preRow]; exact lifted os started H enc F)
theorem plain (f : FuncId) (fn : Func) (hf : Tryz.pinned.checked.prog.funcNamed Rows.fnActsRow.func = some f) (hfn : Tryz.pinned.checked.prog.funcs[f]? = some fn) :
    true = Tryz.pinned.checked.prog.looks [] ∧ ∀ (j : Nat) t, fn.params[j]? = some t → Tryz.pinned.checked.prog.wantsStandIn t = false := by
  obtain rfl : f = 5 := Option.some.inj ((show Tryz.prog.funcNamed Rows.fnActsRow.func = some 5 by kernel_rfl).symm.trans hf) |>.symm
  obtain rfl : fn = Tryz.f5 := (Option.some.inj (Tryz.func5.symm.trans hfn)).symm
  refine ⟨by kernel_rfl, fun j t ht => ?_⟩
  rw [Tryz.params5] at ht
  have ht2 := Array.mem_of_getElem? ht
  simp only [List.mem_toArray, List.mem_cons, List.not_mem_nil, or_false] at ht2
  rcases ht2 with rfl
  · exact (show Tryz.prog.wantsStandIn 42 = false by kernel_rfl)
theorem proved : Rows.FnActsCardSaid :=
  Claim7.holds_tied_plain_at .later [] _ _ _ _ over (fun _ h => by cases h) (by kernel_rfl) (fun _ h => by cases h) fnActs_row_tie rfl ⟨rfl, rfl⟩ (by kernel_rfl) rfl plain (by kernel_rfl)
end Go.Proofs.YtcecgbjolngdbaaGreatDoor.fnActs
