/- An activity and a link are parsed out of the words of a line: the program. -/
import Derived.Test.YtcecgbjolngdbaaGreatDoorKitPv
import Derived.Test.YtcecgbjolngdbaaGreatDoorFmt5
import Derived.Test.YtcecgbjolngdbaaGreatDoorLawPj
import Derived.Test.YtcecgbjolngdbaaGreatDoorPlainPz
import Derived.Test.YtcecgbjolngdbaaGreatDoorPrj1
import Derived.Deep.RegionHeld3
import Derived.Deep.RegionLaw
import Derived.Deep.DrawnRows
namespace Go.Proofs.YtcecgbjolngdbaaGreatDoor
open Go.ChangeShapes Go.WideShapes Go.ChangeAt Go.RowKit
set_option linter.unusedVariables false
set_option linter.unusedSimpArgs false
attribute [local go_sem ↓] Go.wp_at_zero Go.wp_at_succ

def okA (l : List ByteArray) : Bool := okAc (wAct :: l)
def parA (l : List ByteArray) : Ac := parAc (wAct :: l)
theorem okA_def (l : List ByteArray) : okA l = (decide (2 ≤ l.length) && (okI (gw l 1) && (l.drop 2).all parMdB)) := by
  unfold okA okAc
  rw [List.length_cons]
  have e1 : decide (3 ≤ l.length + 1) = decide (2 ≤ l.length) := decide_eq_decide.2 (by omega)
  rw [e1]; rfl
theorem OwA.zero (w : World) : OwA w #[.string ByteArray.empty, .int .i64 0, .slice none 0 0] ac0 [] := ⟨none, 0, rfl, OwG.nil_ _ _ _ _ _⟩
theorem below_two (w : World) (o o' : Obj) : Below w.heap.size w ((w.alloc o).alloc o') := ((Below.refl _ _).alloc (Nat.le_refl _) _).alloc (by simp) _
theorem drop_getD {l : List ByteArray} {k m : Nat} : (l.drop m).getD k ByteArray.empty = l.getD (m + k) ByteArray.empty := by
  rw [List.getD_eq_getElem?_getD, List.getD_eq_getElem?_getD, List.getElem?_drop]
theorem all_succ_eq {p : ByteArray → Bool} {l : List ByteArray} {k : Nat} (h : k < l.length) : (l.take (k + 1)).all p = ((l.take k).all p && p (l.getD k ByteArray.empty)) := by
  rw [take_snoc ByteArray.empty h, List.all_append]; simp
theorem three_new2 (w : World) (o : Obj) (x y z : Value) (t : TypeId) : ∀ j u, [x, y, z][j]? = some u → ((w.alloc o).alloc (.cells #[x, y, z] t)).cell? ⟨w.heap.size + 1, 0 + j, none⟩ = some u := by
  have := three_new (w.alloc o) x y z t
  rwa [World.size_alloc] at this
set_option maxRecDepth 20000 in
set_option maxHeartbeats 6400000 in
theorem activityOf_any (A : Option Addr) (l : List ByteArray) (c lo hi : Nat) (w : World) (hl : l.length ≤ 16777216) (hcap : l.length ≤ c) (hx : ∀ x ∈ l, x.size ≤ 1048576) (ha : RdS w lo hi A l) (hhi : hi ≤ w.heap.size) (hg : Nat) (ld : LdE w hg) (hhg : hg ≤ w.heap.size) :
    Calls Tryz.prog 120 #[.slice A l.length c] w fun e w' => ∃ (a : Ac) (b : Bool) (M : Option Addr) (cm : Nat) (bs : List Nat), e = .returned (.tuple #[.agg #[.string a.name, .int .i64 a.fam, .slice M a.modes.length cm], .bool b]) ∧ OwA w' #[.string a.name, .int .i64 a.fam, .slice M a.modes.length cm] a bs ∧ Nd bs w.heap.size w'.heap.size ∧ Below w.heap.size w w' ∧ b = okA l ∧ (b = true → a = parA l) := by
  have HOK := hide (okA_def l)
  go_enter Tryz.func120, Tryz.ntmps120
  obtain ⟨V0, hW⟩ : ∃ V, V = w.alloc (.cells #[.string ⟨#[]⟩, .int .i64 0, .slice none 0 0] 46) := ⟨_, rfl⟩
  have z0 : V0.heap.size = w.heap.size + 1 := by rw [hW]; simp
  have k0 : Bk V0 w.heap.size 46 #[.string ⟨#[]⟩, .int .i64 0, .slice none 0 0] := by rw [hW]; exact Bk.made w _ _
  have B : Below w.heap.size w V0 := by rw [hW]; exact (Below.refl _ _).alloc (Nat.le_refl _) _
  have HW := hide hW
  clear hW
  by_cases hin : 2 ≤ l.length
  case neg =>
    have HF := hide (show okA l = false from by rw [HOK.out, decide_eq_false hin]; rfl)
    have hlt : (l.length : Int) < 2 := by omega
    have hW := HW.out
    subst hW
    clear hin HW z0
    have c0 := k0.cell 0
    have c1 := k0.cell 1
    have c2 := k0.cell 2
    have f0 := k0.frozen 0
    have f1 := k0.frozen 1
    have f2 := k0.frozen 2
    simp only [List.getElem?_toArray, List.getElem?_cons_succ, List.getElem?_cons_zero] at c0 c1 c2
    go_wp2
    refine bodyPost_ret (v := .tuple #[.agg #[.string ⟨#[]⟩, .int .i64 0, .slice none 0 0], .bool false]) ?_ rfl ?_
    · simp [results, Tryz.results120, go_sem, *]
    exact ⟨ac0, false, none, 0, [], rfl, OwA.zero _, Nd.nil _ _, B, HF.out.symm, fun h => by cases h⟩
  have hlt : ¬ (l.length : Int) < 2 := by omega
  obtain ⟨b, off, rfl, h1, h2, hc⟩ := (ha.below B hhi) (by omega)
  have q0 := hc 0 (by omega)
  have q1 := hc 1 (by omega)
  rw [Nat.add_zero] at q0
  have s1 := hx _ (getD_mem (k := 1) ByteArray.empty (by omega : 1 < l.length))
  have HX0 := hide (show gw l 0 = l.getD 0 ByteArray.empty from rfl)
  have HX1 := hide (show gw l 1 = l.getD 1 ByteArray.empty from rfl)
  have HC := hide hc
  have HXS := hide hx
  clear hc ha hx
  generalize l.getD 0 ByteArray.empty = x0 at q0 HX0
  generalize l.getD 1 ByteArray.empty = x1 at q1 s1 HX1
  have hp0 : (0 : Int) < (l.length : Int) := by omega
  have hp : (1 : Int) < (l.length : Int) := by omega
  have q1' : (w.alloc (.cells #[.string ⟨#[]⟩, .int .i64 0, .slice none 0 0] 46)).cell? ⟨b, off + 1, none⟩ = some (.string x1) := by rw [← HW.out]; exact q1
  go_wp2_with fail
  rw [← HW.out]
  refine (implParseInt_any x1 hg V0 (by omega) (ld.below B hhg) (by omega)).mono ?_
  rintro e V1 ⟨rfl, r⟩
  have z1 := r.size
  have k0 := k0.below r (by omega)
  have B := B.trans (r.mono (by omega))
  have HC := hide (fun j (hj : j < l.length) => (r.cell (p := ⟨b, off + j, none⟩) (by show b < _; omega)).trans (HC.out j hj))
  have q0 := (r.cell (p := ⟨b, off, none⟩) (by show b < _; omega)).trans q0
  clear r q1 q1' hp
  have HM := hide (show okA l = (okI x1 && (l.drop 2).all parMdB) from by rw [HOK.out, HX1.out, decide_eq_true hin]; rfl)
  have HP := hide (show parA l = ⟨x0, valI x1, (l.drop 2).map parMd⟩ from by unfold parA parAc; rw [← HX0.out, ← HX1.out]; rfl)
  have hbd := okI_bd x1
  generalize okI x1 = ok0 at HM ⊢
  generalize valI x1 = f at HP hbd ⊢
  by_cases hc2 : c = 2
  · have hl2 : l.length = 2 := by omega
    obtain rfl := hc2
    have HDE := hide (show l.drop 2 = [] from List.drop_eq_nil_iff.2 (by omega))
    obtain ⟨V2, hV2⟩ : ∃ V, V = V1.alloc (.cells #[.string x0, .int .i64 f, .slice none 0 0] 46) := ⟨_, rfl⟩
    have bV : Below V1.heap.size V1 V2 := by rw [hV2]; exact (Below.refl _ _).alloc (Nat.le_refl _) _
    have z2 : V2.heap.size = V1.heap.size + 1 := by rw [hV2]; simp
    have k1 : Bk V2 V1.heap.size 46 #[.string x0, .int .i64 f, .slice none 0 0] := by rw [hV2]; exact Bk.made V1 _ _
    have k0 := k0.below bV (by omega)
    have B := B.trans (bV.mono (by omega))
    have HV2 := hide hV2
    have HK1 := hide k1
    have HK0 := hide k0
    clear hV2 k1 bV k0
    go_wp2_with fail
    rw [← HV2.out]
    clear q0 hp0
    go_loopw [5, 30] (fun v i wr => v = .bool ok0 ∧ i = .int .i64 0 ∧ wr = V2) (fun _ _ _ => 0)
    case atStart => exact ⟨rfl, rfl, rfl⟩
    case round =>
      obtain ⟨rfl, rfl, rfl⟩ := hrel
      have kr := HK1.out
      have k0 := HK0.out
      have hk0 := k0.lt
      have d0 := kr.cell 0
      have d1 := kr.cell 1
      have d2 := kr.cell 2
      simp only [List.getElem?_toArray, List.getElem?_cons_succ, List.getElem?_cons_zero] at d0 d1 d2
      have HB := hide B
      clear B HK1 HK0 kr
      have c0 := k0.cell 0
      have c1 := k0.cell 1
      have c2 := k0.cell 2
      have f0 := k0.frozen 0
      have f1 := k0.frozen 1
      have f2 := k0.frozen 2
      simp only [List.getElem?_toArray, List.getElem?_cons_succ, List.getElem?_cons_zero] at c0 c1 c2
      go_wp2
      refine bodyPost_ret (v := .tuple #[.agg #[.string x0, .int .i64 f, .slice none 0 0], .bool ok0]) ?_ rfl ?_
      · simp [results, Tryz.results120, go_sem, *]
      refine ⟨⟨x0, f, []⟩, ok0, none, 0, [], rfl, ⟨none, 0, rfl, OwG.nil_ _ _ _ _ _⟩, Nd.nil _ _, below_only HB.out (only3 _ w.heap.size _ _ _) (Nat.le_refl _) (by omega), ?_, fun _ => ?_⟩
      · rw [HM.out, HDE.out]; simp
      · rw [HP.out, HDE.out]; rfl
  · have hc3 : (2 : Int) ≤ (c : Int) := by omega
    have hc4 : (l.length : Int) ≤ (c : Int) := by omega
    have hc5 : (2 : Int) ≤ (l.length : Int) := by omega
    have hc6 : ¬ 2 = c := by omega
    have HL2 := hide (show (l.drop 2).length = l.length - 2 from List.length_drop)
    have HDX := hide (fun k => @drop_getD l k 2)
    have HXD := hide (show ∀ x ∈ l.drop 2, x.size ≤ 1048576 from fun x hx => HXS.out x (List.mem_of_mem_drop hx))
    obtain ⟨V2, hV2⟩ : ∃ V, V = V1.alloc (.cells #[.string x0, .int .i64 f, .slice none 0 0] 46) := ⟨_, rfl⟩
    have bV : Below V1.heap.size V1 V2 := by rw [hV2]; exact (Below.refl _ _).alloc (Nat.le_refl _) _
    have z2 : V2.heap.size = V1.heap.size + 1 := by rw [hV2]; simp
    have k1 : Bk V2 V1.heap.size 46 #[.string x0, .int .i64 f, .slice none 0 0] := by rw [hV2]; exact Bk.made V1 _ _
    have k0 := k0.below bV (by omega)
    have B := B.trans (bV.mono (by omega))
    have HC := hide (fun j (hj : j < l.length) => (bV.cell (p := ⟨b, off + j, none⟩) (by show b < _; omega)).trans (HC.out j hj))
    have HV2 := hide hV2
    have HK1 := hide k1
    have HK0 := hide k0
    have HD := hide (rfl : l.drop 2 = l.drop 2)
    clear hV2 k1 bV k0
    go_wp2_with fail
    rw [← HV2.out]
    clear q0 hp0 hc3 hc4 hc5 hc6
    go_loopw [5, 30] (fun v i wr => ∃ (k : Nat) (ok : Bool) (M : Option Addr) (cm : Nat) (bM : List Nat), k ≤ l.length - 2 ∧ v = .bool ok ∧ i = .int .i64 k ∧ Hid (ok = (ok0 && ((l.drop 2).take k).all parMdB)) ∧ Bk wr V1.heap.size 46 #[.string x0, .int .i64 f, .slice M k cm] ∧ Hid (OwG 3 53 OwM md0 wr M cm (((l.drop 2).take k).map parMd) bM ∧ Nd bM V2.heap.size wr.heap.size) ∧ Fr V1.heap.size V2.heap.size V2 wr) (fun _ i _ => l.length - (intOf i).toNat)
    case atStart => exact ⟨0, ok0, none, 0, [], Nat.zero_le _, rfl, rfl, hide (by simp), HK1.out, hide ⟨OwG.nil_ _ _ _ _ _, Nd.nil _ _⟩, Fr.refl _ _ _⟩
    case round =>
      clear HK1
      obtain ⟨k, ok, M, cm, bM, hk, rfl, rfl, HA, kr, HG, hFr⟩ := hrel
      have hsz := hFr.size
      by_cases hlt : k < l.length - 2
      · have q1 : wr.cell? ⟨b, off + 2 + k, none⟩ = some (.string ((l.drop 2).getD k ByteArray.empty)) := by
          rw [HDX.out, Nat.add_assoc]
          exact (World.cell?_of_block (a := ⟨b, off + (2 + k), none⟩) (hFr.block b (by omega) (by omega) (by omega))).trans (HC.out (2 + k) (by omega))
        have hxs := HXD.out _ (getD_mem (k := k) ByteArray.empty (by rw [HL2.out]; exact hlt))
        have HT := hide (take_snoc (xs := l.drop 2) (k := k) ByteArray.empty (by rw [HL2.out]; exact hlt))
        have HAS := hide (all_succ_eq (p := parMdB) (l := l.drop 2) (k := k) (by rw [HL2.out]; exact hlt))
        have HLT := hide (show (((l.drop 2).take k).map parMd).length = k from by rw [List.length_map, List.length_take, HL2.out]; omega)
        generalize (l.drop 2).getD k ByteArray.empty = x at q1 hxs HT HAS
        have hk0 : (0 : Int) ≤ (k : Int) := by omega
        have hk1 : (k : Int) < ((l.length - 2 : Nat) : Int) := by omega
        have hBW := B.trans (hFr.below (B := w.heap.size) (by omega) (by omega) (by omega))
        go_wp2_with fail
        refine (implParseMode_any x wr (by omega) hg (ld.below hBW hhg) (by omega)).mono ?_
        rintro e w1 ⟨U, cu, C, cc, rfl, ⟨bQ, hOM, hNQ⟩, r⟩
        have kr1 := kr.below r kr.lt
        have zr := r.size
        have a2 := fun o => (kr1.alloc o).cell 2
        have mb := Bk.made w1 53 #[.int .i64 (parMd x).dur, .slice U (parMd x).use.length cu, .slice C (parMd x).con.length cc]
        have m0 := mb.cell 0
        have m1 := mb.cell 1
        have m2 := mb.cell 2
        simp only [List.getElem?_toArray, List.getElem?_cons_succ, List.getElem?_cons_zero] at a2 m0 m1 m2
        generalize hMK : ((l.drop 2).take k).map parMd = MK at HG HLT
        have HMK := hide hMK
        clear hMK
        have HRY := hide (fun W hW => el_ready (W := W) OwMs.keeps HG.out.1 HG.out.2 r hOM hNQ hsz hW)
        have HR := hide r
        have HKR := hide kr1
        clear q1 hxs hOM hNQ mb r kr kr1
        cases ok
        all_goals
          go_wp2_with (at_builtin; go_must (refine wpList_pushN OwMs.keeps _ (.tmp 44) (.tmp 46) 44 53 _ 3 56 Tryz.underlying44 Tryz.infoMd rfl (by omega) M k cm MK bM V2.heap.size HLT.out (parMd x) #[.int .i64 (parMd x).dur, .slice U (parMd x).use.length cu, .slice C (parMd x).con.length cc] bQ (HRY.out _ (below_two _ _ _)) rfl (w1.heap.size + 1) 0 1 (three_new2 _ _ _ _ _ _) (three_cell rfl rfl rfl) (by omega) (by omega) ?_ rfl rfl rfl rfl (by simp; omega)))
        all_goals
          intro A2 c2 bs2 w2 hG2 hN2 hb2 hO2
          have hwl : w1.heap.size + 2 ≤ w2.heap.size := by have := hO2.size; simp at this; omega
          have kr2 := (hO2.block V1.heap.size (by simp; omega) (fun hm => by have := (HG.out.2.2 _ hm).1; omega)).trans ((HKR.out.alloc _).alloc _)
          have c2' := Bk.cell kr2 2
          have f2' := Bk.frozen kr2 2
          simp only [List.getElem?_toArray, List.getElem?_cons_succ, List.getElem?_cons_zero] at c2'
          clear a2 m0 m1 m2
        all_goals go_wp2
        all_goals go_roundw
        all_goals first
          | (simp [intOf]; omega; done)
          | (refine ⟨k + 1, _, A2, c2, bs2, by omega, rfl, by go_num, hide ?_, Bk.set kr2 2 _, hide ⟨?_, by rw [set_size]; first | exact hN2 | (rw [z2]; exact hN2)⟩, (((((hFr.trans (Fr.of_below HR.out hsz)).alloc _).alloc _).trans (Fr.of_only hO2 (fun x hx => .inr (HG.out.2.2 x hx).1)))).set 2 _⟩
             · rw [HAS.out, ← Bool.and_assoc, ← HA.out]; rfl
             · rw [HT.out, List.map_append, HMK.out]
               exact OwG.keep_ OwMs.keeps hG2 (fun q hq => Below.heap_setCell w2 _ _ q (by have := (hN2.2 q hq).1; show q ≠ V1.heap.size; omega)))
      · obtain rfl : k = l.length - 2 := by omega
        have d0 := kr.cell 0
        have d1 := kr.cell 1
        have d2 := kr.cell 2
        simp only [List.getElem?_toArray, List.getElem?_cons_succ, List.getElem?_cons_zero] at d0 d1 d2
        have hk0 := HK0.out.lt
        have k0 : Bk wr w.heap.size 46 #[.string ⟨#[]⟩, .int .i64 0, .slice none 0 0] := (hFr.block w.heap.size (by omega) (by omega) (by omega)).trans HK0.out
        have HTL := hide (show (l.drop 2).take (l.length - 2) = l.drop 2 from List.take_of_length_le (by rw [HL2.out]; exact Nat.le_refl _))
        have HML := hide (show ((l.drop 2).map parMd).length = l.length - 2 from by rw [List.length_map, HL2.out])
        have HB := hide (B.trans (hFr.below (B := w.heap.size) (by omega) (by omega) (by omega)))
        clear B
        generalize hn : l.length - 2 = n at kr HML HTL d0 d1 d2 ⊢
        have HN := hide hn
        clear hn hlt hk
        have c0 := k0.cell 0
        have c1 := k0.cell 1
        have c2 := k0.cell 2
        have f0 := k0.frozen 0
        have f1 := k0.frozen 1
        have f2 := k0.frozen 2
        simp only [List.getElem?_toArray, List.getElem?_cons_succ, List.getElem?_cons_zero] at c0 c1 c2
        go_wp2
        refine bodyPost_ret (v := .tuple #[.agg #[.string x0, .int .i64 f, .slice M n cm], .bool ok]) ?_ rfl ?_
        · simp [results, Tryz.results120, go_sem, *]
        refine ⟨⟨x0, f, (l.drop 2).map parMd⟩, ok, M, cm, bM, by show _ = Ending.returned (.tuple #[.agg #[_, _, .slice M ((l.drop 2).map parMd).length cm], _]); rw [HML.out], ⟨M, cm, rfl, ?_⟩, ?_, below_only HB.out (only3 _ w.heap.size _ _ _) (Nat.le_refl _) (by omega), ?_, fun _ => HP.out.symm⟩
        · have h5 := HG.out.1
          rw [HN.out, HTL.out] at h5
          refine OwG.keep_ OwMs.keeps h5 fun q hq => (only3 wr w.heap.size _ _ _).block q ?_ ?_
          · have := HG.out.2.2 q hq; omega
          · have := HG.out.2.2 q hq; omega
        · refine HG.out.2.mono (by omega) ?_
          rw [set_size, set_size, set_size]
          exact Nat.le_refl _
        · have h7 := HA.out
          rw [HN.out, HTL.out] at h7
          rw [HM.out]; exact h7
def okL (l : List ByteArray) : Bool := decide (l.length = 3) && okI (gw l 2)
theorem only_grow2 {lo hi : Nat} {w w1 w2 : World} (h : Only lo hi w w1) (r : Below w1.heap.size w1 w2) : Only lo hi w w2 := h.trans ⟨r.os, r.tape, r.output, r.size, fun k hk _ => r.block k hk⟩
theorem only_cell2 {lo hi : Nat} {w w1 : World} (h : Only lo hi w w1) {b o : Nat} {v : Value} (hb : b < lo) (hc : w.cell? ⟨b, o, none⟩ = some v) : w1.cell? ⟨b, o, none⟩ = some v :=
  (World.cell?_of_block (a := ⟨b, o, none⟩) (h.block b (World.block_lt_of_cell? _ _ hc) (by omega))).trans hc
theorem bk_below {w w' : World} {g : Nat} {t : TypeId} {cs : Array Value} (hb : Below w.heap.size w w') (h : Bk w g t cs) : Bk w' g t cs := h.below hb h.lt
set_option maxRecDepth 20000 in
set_option maxHeartbeats 6400000 in
theorem linkOf_any (p : Pj) (fe : Bool) (A L R S Aw : Option Addr) (l : List ByteArray) (ca cl cr cs c lo hi lo' hi' : Nat) (w : World) (hs : p.acts.length ≤ 16777216) (fA : RdAs w lo hi A p.acts) (hhi : hi ≤ w.heap.size) (hx : ∀ x ∈ l, x.size ≤ 1048576) (ha : RdS w lo' hi' Aw l) (hhi' : hi' ≤ w.heap.size) (hg : Nat) (ld : LdE w hg) (hhg : hg ≤ w.heap.size) :
    Calls Tryz.prog 121 #[.agg #[.int .i64 p.dead, .slice A p.acts.length ca, .slice L p.links.length cl, .slice R p.res.length cr, .slice S p.stocks.length cs], .slice Aw l.length c, .bool fe] w fun e w' => ∃ (k : Lk) (b : Bool), e = .returned (.tuple #[.agg #[.int .i64 k.src, .int .i64 k.dst, .bool k.fe, .int .i64 k.lag], .bool b]) ∧ Below w.heap.size w w' ∧ b = okL l ∧ (b = true → k = ⟨actIdx p.acts (gw l 0), actIdx p.acts (gw l 1), fe, valI (gw l 2)⟩) := by
  obtain ⟨V0, hW⟩ : ∃ V, V = (w.alloc (.cells #[.int .i64 p.dead, .slice A p.acts.length ca, .slice L p.links.length cl, .slice R p.res.length cr, .slice S p.stocks.length cs] 34)).alloc (.cells #[.int .i64 0, .int .i64 0, .bool false, .int .i64 0] 75) := ⟨_, rfl⟩
  have z0 : V0.heap.size = w.heap.size + 2 := by rw [hW]; simp
  have kp : Bk V0 w.heap.size 34 #[.int .i64 p.dead, .slice A p.acts.length ca, .slice L p.links.length cl, .slice R p.res.length cr, .slice S p.stocks.length cs] := by rw [hW]; exact (Bk.made w _ _).alloc _
  have k0 : Bk V0 (w.heap.size + 1) 75 #[.int .i64 0, .int .i64 0, .bool false, .int .i64 0] := by
    rw [hW]
    have := Bk.made (w.alloc (.cells #[.int .i64 p.dead, .slice A p.acts.length ca, .slice L p.links.length cl, .slice R p.res.length cr, .slice S p.stocks.length cs] 34)) 75 #[.int .i64 0, .int .i64 0, .bool false, .int .i64 0]
    rwa [World.size_alloc] at this
  have B : Below w.heap.size w V0 := by rw [hW]; exact below_two _ _ _
  have HW := hide hW
  clear hW
  by_cases hin : l.length = 3
  case neg =>
    have HF := hide (show okL l = false from by unfold okL; rw [decide_eq_false hin]; rfl)
    have hne : ((l.length : Int) != 3) = true := by simp; omega
    have c0 := k0.cell 0
    have c1 := k0.cell 1
    have c2 := k0.cell 2
    have c3 := k0.cell 3
    have f0 := k0.frozen 0
    have f1 := k0.frozen 1
    have f2 := k0.frozen 2
    have f3 := k0.frozen 3
    simp only [List.getElem?_toArray, List.getElem?_cons_succ, List.getElem?_cons_zero] at c0 c1 c2 c3
    have hW := HW.out
    subst hW
    clear hin HW
    go_enter Tryz.func121, Tryz.ntmps121
    go_wp2
    refine bodyPost_ret (v := .tuple #[.agg #[.int .i64 0, .int .i64 0, .bool false, .int .i64 0], .bool false]) ?_ rfl ?_
    · simp [results, Tryz.results121, go_sem, *]
    exact ⟨lk0, false, rfl, by first | exact B | exact below_only B (only4 _ (w.heap.size + 1) _ _ _ _) (by omega) (by omega), HF.out.symm, fun h => by cases h⟩
  have hne : ((l.length : Int) != 3) = false := by simp [hin]
  obtain ⟨b, off, rfl, h1, h2, hc⟩ := (ha.below B hhi') (by omega)
  have q0 := hc 0 (by omega)
  have q1 := hc 1 (by omega)
  have q2 := hc 2 (by omega)
  rw [Nat.add_zero] at q0
  have s2 := hx _ (getD_mem (k := 2) ByteArray.empty (by omega : 2 < l.length))
  have HX0 := hide (show gw l 0 = l.getD 0 ByteArray.empty from rfl)
  have HX1 := hide (show gw l 1 = l.getD 1 ByteArray.empty from rfl)
  have HX2 := hide (show gw l 2 = l.getD 2 ByteArray.empty from rfl)
  clear hc ha hx
  generalize l.getD 0 ByteArray.empty = x0 at q0 HX0
  generalize l.getD 1 ByteArray.empty = x1 at q1 HX1
  generalize l.getD 2 ByteArray.empty = x2 at q2 s2 HX2
  have HM := hide (show okL l = okI x2 from by unfold okL; rw [decide_eq_true hin, Bool.true_and, HX2.out])
  have hp0 : (0 : Int) < (l.length : Int) := by omega
  have hp0n : 0 < l.length := by omega
  have hp1 : (1 : Int) < (l.length : Int) := by omega
  have hp2 : (2 : Int) < (l.length : Int) := by omega
  have HIN := hide hin
  have q2' := HW.out ▸ q2
  clear hin
  go_enter Tryz.func121, Tryz.ntmps121
  go_wp2_with fail
  rw [← HW.out]
  refine (implParseInt_any x2 hg V0 (by omega) (ld.below B hhg) (by omega)).mono ?_
  rintro e V1 ⟨rfl, r⟩
  have z1 := r.size
  have k0 := k0.below r (by omega)
  have kp := kp.below r (by omega)
  have fA := (fA.below B hhi).below r (by omega)
  have B := B.trans (r.mono (by omega))
  have q0 := (r.cell (p := ⟨b, off, none⟩) (by show b < _; omega)).trans q0
  have q1 := (r.cell (p := ⟨b, off + 1, none⟩) (by show b < _; omega)).trans q1
  have p0 := kp.cell 0
  have p1 := kp.cell 1
  have p2 := kp.cell 2
  have p3 := kp.cell 3
  have p4 := kp.cell 4
  simp only [List.getElem?_toArray, List.getElem?_cons_succ, List.getElem?_cons_zero] at p0 p1 p2 p3 p4
  clear r q2 q2' kp
  have HAI : Hid (∀ (nm : ByteArray) (W : World), Only (w.heap.size + 1) (w.heap.size + 2) V1 W → Calls Tryz.prog 102 #[.agg #[.int .i64 p.dead, .slice A p.acts.length ca, .slice L p.links.length cl, .slice R p.res.length cr, .slice S p.stocks.length cs], .string nm] W fun e w' => e = .returned (.int .i64 (actIdx p.acts nm)) ∧ Below W.heap.size W w') := hide (fun nm W hO => implActivityIndex_any p nm A L R S ca cl cr cs lo hi W hs (fA.only hO (by omega) (by omega)) (by have := hO.size; omega))
  have hkd : Bk V1.drew (w.heap.size + 1) 75 #[.int .i64 0, .int .i64 0, .bool false, .int .i64 0] := k0
  have hL : V1.heap.size ≤ V1.heap.size := Nat.le_refl _
  clear fA k0
  generalize okI x2 = ok at HM ⊢
  have HVL := hide (show valI (gw l 2) = valI x2 from by rw [HX2.out])
  generalize valI x2 = lag at HVL ⊢
  go_wp2_with fail
  have HKP : Hid (∀ W, Only (w.heap.size + 1) (w.heap.size + 2) V1 W → (W.cell? ⟨w.heap.size, 0, none⟩ = some (.int .i64 p.dead) ∧ W.cell? ⟨w.heap.size, 1, none⟩ = some (.slice A p.acts.length ca) ∧ W.cell? ⟨w.heap.size, 2, none⟩ = some (.slice L p.links.length cl) ∧ W.cell? ⟨w.heap.size, 3, none⟩ = some (.slice R p.res.length cr) ∧ W.cell? ⟨w.heap.size, 4, none⟩ = some (.slice S p.stocks.length cs) ∧ W.cell? ⟨b, off, none⟩ = some (.string x0) ∧ W.cell? ⟨b, off + 1, none⟩ = some (.string x1)) ∧ Only (w.heap.size + 1) (w.heap.size + 2) V1 W) :=
    hide (fun W hO => ⟨⟨only_cell2 hO (by omega) p0, only_cell2 hO (by omega) p1, only_cell2 hO (by omega) p2, only_cell2 hO (by omega) p3, only_cell2 hO (by omega) p4, only_cell2 hO (by omega) q0, only_cell2 hO (by omega) q1⟩, hO⟩)
  go_region_held3 (fun w' => (w'.cell? ⟨w.heap.size, 0, none⟩ = some (.int .i64 p.dead) ∧ w'.cell? ⟨w.heap.size, 1, none⟩ = some (.slice A p.acts.length ca) ∧ w'.cell? ⟨w.heap.size, 2, none⟩ = some (.slice L p.links.length cl) ∧ w'.cell? ⟨w.heap.size, 3, none⟩ = some (.slice R p.res.length cr) ∧ w'.cell? ⟨w.heap.size, 4, none⟩ = some (.slice S p.stocks.length cs) ∧ w'.cell? ⟨b, off, none⟩ = some (.string x0) ∧ w'.cell? ⟨b, off + 1, none⟩ = some (.string x1)) ∧ Only (w.heap.size + 1) (w.heap.size + 2) V1 w')
    (exact HKP.out _ (by repeat' (first | assumption | exact (Only.refl _ _ _).drew | refine Only.setCell ?_ ⟨by dsimp only; omega, by dsimp only; omega⟩ _)))
    (first | (go_at_call 102; (try go_split_ands); refine (HAI.out _ _ (by assumption)).mono ?_; rintro e w' ⟨rfl, r_e⟩; have hO' := only_grow2 (lo := w.heap.size + 1) (hi := w.heap.size + 2) (w := V1) (by assumption) r_e; have hkd := bk_below r_e (by assumption); have g0 := Bk.cell hkd 0; have g1 := Bk.cell hkd 1; have g2 := Bk.cell hkd 2; have g3 := Bk.cell hkd 3; have f0 := Bk.frozen hkd 0; have f1 := Bk.frozen hkd 1; have f2 := Bk.frozen hkd 2; have f3 := Bk.frozen hkd 3; simp only [List.getElem?_toArray, List.getElem?_cons_succ, List.getElem?_cons_zero] at g0 g1 g2 g3))
  all_goals (try go_split_ands)
  all_goals
    have hON : Only (w.heap.size + 1) (w.heap.size + 2) V1 ((((w'.setCell ⟨w.heap.size + 1, 0, none⟩ (.int .i64 (actIdx p.acts x0))).setCell ⟨w.heap.size + 1, 1, none⟩ (.int .i64 (actIdx p.acts x1))).setCell ⟨w.heap.size + 1, 2, none⟩ (.bool fe)).setCell ⟨w.heap.size + 1, 3, none⟩ (.int .i64 lag)) := by assumption
    have HB := hide (below_only B hON (by omega) (by omega))
    clear hON
  all_goals go_wp2
  all_goals
    skip
    refine bodyPost_ret (v := .tuple #[.agg #[.int .i64 (actIdx p.acts x0), .int .i64 (actIdx p.acts x1), .bool fe, .int .i64 lag], .bool ok]) ?_ rfl ?_
    · simp [results, Tryz.results121, go_sem, *]
    exact ⟨⟨actIdx p.acts x0, actIdx p.acts x1, fe, lag⟩, ok, rfl, HB.out, HM.out.symm, fun _ => by rw [HX0.out, HX1.out, HVL.out]⟩
end Go.Proofs.YtcecgbjolngdbaaGreatDoor
