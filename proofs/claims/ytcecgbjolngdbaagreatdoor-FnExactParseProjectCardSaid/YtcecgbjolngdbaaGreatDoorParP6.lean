/- A project is parsed: the program and the reference. -/
import Derived.Test.YtcecgbjolngdbaaGreatDoorKitPv
import Derived.Deep.RegionHeld3
import Derived.StillTail
import Derived.Test.YtcecgbjolngdbaaGreatDoorParP3
import Derived.Test.YtcecgbjolngdbaaGreatDoorFmtP4
import Derived.Test.YtcecgbjolngdbaaGreatDoorNames
import Derived.Test.YtcecgbjolngdbaaGreatDoorParP1
import Derived.Test.YtcecgbjolngdbaaGreatDoorParP2
import Derived.Test.YtcecgbjolngdbaaGreatDoorFmtP2
import Derived.Test.YtcecgbjolngdbaaGreatDoorFmtP3
namespace Go.Proofs.YtcecgbjolngdbaaGreatDoor
open Go.ChangeShapes Go.WideShapes Go.ChangeAt Go.RowKit
set_option linter.unusedVariables false
set_option linter.unusedSimpArgs false

section
variable {P : Program} {ops : Array Oper} {Q : Exit → Act → World → Prop} {md : Region.Mode} {S : World → Prop} {n : Nat}
/-- In whatever order: and S holds behind every operation but number n. -/
def AnyTo (P : Program) (md : Region.Mode) (ops : Array Oper) (Q : Exit → Act → World → Prop) (S : World → Prop) (n : Nat) : Nat → Array Bool → Act → World → Prop
  | 0, ls, a, w => Region.ready md ops ls = [] ∧ Q .normal a w
  | f + 1, ls, a, w => (Region.ready md ops ls = [] → Q .normal a w) ∧ ∀ i ∈ Region.ready md ops ls, wpOp P ops Q i (fun a' w' => (i ≠ n → S w') ∧ AnyTo P md ops Q S n f (ls.setIfInBounds i true) a' w') a w
theorem AnyTo.any : ∀ (f : Nat) (ls : Array Bool) (a : Act) (w : World), AnyTo P md ops Q S n f ls a w → wpAny P md ops Q f ls a w
  | 0, _, _, _, h => h
  | f + 1, ls, a, w, h => ⟨h.1, fun i hi => wpOp_mono (fun a' w' r => AnyTo.any f _ a' w' r.2) (h.2 i hi)⟩
theorem waits_not {i : Nat} {ls : Array Bool} (hw : Region.waitsFor md ops n i = true) (hu : ls.getD i true = false) : n ∉ Region.ready md ops ls := fun hr => by
  obtain ⟨on, ho, e, he, hb, hi⟩ := Region.waitsFor_spec hw
  obtain ⟨_, on', ho', hall⟩ := mem_ready.1 hr
  obtain rfl : on = on' := Option.some.inj (ho.symm.trans ho')
  have := hall e he hb
  rw [hi, getD_both hu] at this
  cases this
theorem AnyTo.first {i : Nat} {oi : Oper} {v : Value} (hi : ops[i]? = some oi) (hsel : ∀ (j : Nat) (o : Oper) cs b, ops[j]? = some o → o.op ≠ .select cs b) (hw : Region.waitsFor md ops n i = true)
    (hQ : ∀ c a w, Q (.panic c) (a.put oi.dst v) w → Q (.panic c) a w) : ∀ (f : Nat) (ls : Array Bool) (a : Act) (w : World),
      (∀ j oj, ops[j]? = some oj → j ≠ i → ls.getD j true = false → (∀ e ∈ oj.after, Region.binds md e = true → e.on ≠ i) → oi.apart ops oj = true) →
      i ∈ Region.ready md ops ls → YieldsIf P ops S oi v a → S w → AnyTo P md ops Q S n f (ls.setIfInBounds i true) (a.put oi.dst v) w → AnyTo P md ops Q S n (f + 1) ls a w
  | 0, ls, a, w, _, hr, hy, hS, H => ⟨fun h => (by rw [h] at hr; cases hr), fun j hj => by
      by_cases e : j = i
      · subst e; exact hy.wpOp hi hS ⟨fun _ => hS, H⟩
      · have := ready_mono hj e
        rw [H.1] at this
        cases this⟩
  | f + 1, ls, a, w, hfree, hr, hy, hS, H => ⟨fun h => (by rw [h] at hr; cases hr), fun j hj => by
      by_cases e : j = i
      · subst e; exact hy.wpOp hi hS ⟨fun _ => hS, H⟩
      · have hu := (mem_ready.1 hr).1
        have hjn : j ≠ n := by rintro rfl; exact waits_not hw hu hj
        have H1 := H.2 j (ready_mono hj e)
        obtain ⟨hju, oj, hoj, hall⟩ := mem_ready.1 hj
        have hno : ∀ x ∈ oj.after, Region.binds md x = true → x.on ≠ i := fun x hx hb hxi => by
          have := hall x hx hb
          rw [hxi, getD_both hu] at this
          cases this
        have H2 := wpOp_putIf hoj (hfree j oj hoj e hju hno) (fun cs b => hsel i oi cs b hi) (fun cs b => hsel j oj cs b hoj) hQ hy H1
        refine wpOp_mono (fun a' w' r => ⟨r.2.1, AnyTo.first hi hsel hw hQ f (ls.setIfInBounds j true) a' w' (fun k ok hk hki hku hkn => hfree k ok hk hki ?_ hkn) (ready_mono hr (Ne.symm e)) r.1 (r.2.1 hjn) ?_⟩) H2
        · by_cases hjk : j = k
          · subst hjk; exact hju
          · rwa [getD_set_ne true hjk] at hku
        · rw [Array.setIfInBounds_comm _ _ e]
          exact r.2.2⟩
theorem AnyTo.take {i : Nat} {oi : Oper} {v : Value} {f : Nat} {ls : Array Bool} {a : Act} {w : World} (hi : ops[i]? = some oi) (hs : Region.noSelect ops = true) (hf : Region.free md ops ls i = true)
    (hr : (Region.ready md ops ls).contains i = true) (hw : Region.waitsFor md ops n i = true) (hQ : ∀ c a w, Q (.panic c) (a.put oi.dst v) w → Q (.panic c) a w) (hy : YieldsIf P ops S oi v a) (hS : S w)
    (h : AnyTo P md ops Q S n f (ls.setIfInBounds i true) (a.put oi.dst v) w) : AnyTo P md ops Q S n (f + 1) ls a w :=
  AnyTo.first hi (Region.noSelect_spec hs) hw hQ f ls a w (Region.free_spec hi hf) (by simpa using hr) hy hS h
theorem AnyTo.step {i : Nat} {o : Oper} {f : Nat} {ls : Array Bool} {a : Act} {w : World} (hr : Region.ready md ops ls = [i]) (ho : ops[i]? = some o)
    (h : ∀ K : Act → World → Prop, Shut (∀ a w, (i ≠ n → S w) → ((i ≠ n → S w) → AnyTo P md ops Q S n f (ls.setIfInBounds i true) a w) → K a w) → if Region.wanted o (yielded ops a.tmps) = true then Oper.wp P o a w K Q else K (a.put o.dst undef) w) : AnyTo P md ops Q S n (f + 1) ls a w := by
  refine ⟨fun h0 => (by rw [hr] at h0; cases h0), fun j hj => ?_⟩
  rw [hr] at hj
  obtain rfl : j = i := by simpa using hj
  exact wpOp_step ho (fun K hK => h K (fun a w hS hW => hK a w ⟨hS, hW hS⟩))
theorem AnyTo.done {ls : Array Bool} {a : Act} {w : World} (hr : Region.ready md ops ls = []) (h : Q .normal a w) : ∀ f, AnyTo P md ops Q S n f ls a w
  | 0 => ⟨hr, h⟩
  | _ + 1 => ⟨fun _ => h, by rw [hr]; simp⟩
theorem region_to {id : Nat} {a : Act} {w : World} (S : World → Prop) (n : Nat) (hm : P.follows .mixedOrders = true) (h : AnyTo P .any ops Q S n ops.size (Array.replicate ops.size false) a w.drew) : (Code.region id ops true).wp P Q a w :=
  wp_region_any hm (AnyTo.any _ _ _ _ h)
end
attribute [local go_sem ↓] Go.wp_at_zero Go.wp_at_succ

theorem splitLines_size (s : ByteArray) : ∀ x ∈ splitLines s, x.size ≤ s.size := by
  intro x hx
  unfold splitLines at hx
  split at hx
  · exact splitAny_size s newline x (List.mem_of_mem_take hx)
  · exact splitAny_size s newline x hx
theorem only5 (w : World) (g : Nat) (v1 v2 v3 v4 v5 : Value) : Only g (g + 1) w (((((w.setCell ⟨g, 0, none⟩ v1).setCell ⟨g, 1, none⟩ v2).setCell ⟨g, 2, none⟩ v3).setCell ⟨g, 3, none⟩ v4).setCell ⟨g, 4, none⟩ v5) :=
  ((only3 w g v1 v2 v3).setCell ⟨by dsimp only; omega, by dsimp only; omega⟩ _).setCell ⟨by dsimp only; omega, by dsimp only; omega⟩ _
theorem OwP.zero (w : World) (lo hi : Nat) : OwV OwP w lo hi #[.int .i64 0, .slice none 0 0, .slice none 0 0, .slice none 0 0, .slice none 0 0] pj0 :=
  ⟨[], ⟨none, 0, none, 0, none, 0, none, 0, [], [], [], [], rfl, OwG.nil_ _ _ _ _ _, OwG.nil_ _ _ _ _ _, OwG.nil_ _ _ _ _ _, RowB.nil_ _ _ _, rfl⟩, Nd.nil _ _⟩
theorem parPj_no {s : ByteArray} (h : parPjB s = false) : parPj s = pj0 := by unfold parPj; rw [h]; rfl
theorem parPj_yes {s : ByteArray} (h : parPjB s = true) : parPj s = resP s := by unfold parPj; rw [if_pos h]
theorem OwV.below_ {α : Type} {O : Owns α} (K : OKeeps O) {w w' : World} {lo hi : Nat} {v : Array Value} {a : α} (h : OwV O w lo hi v a) (hk : ∀ k, lo ≤ k → k < hi → w'.heap[k]? = w.heap[k]?) : OwV O w' lo hi v a := by
  obtain ⟨bs, h1, h2⟩ := h
  exact ⟨bs, K _ _ _ _ _ (fun b hb => hk b (h2.2 b hb).1 (h2.2 b hb).2) h1, h2⟩
theorem OwV.mono_ {α : Type} {O : Owns α} {w : World} {lo hi lo' hi' : Nat} {v : Array Value} {a : α} (h : OwV O w lo hi v a) (h1 : lo' ≤ lo) (h2 : hi ≤ hi') : OwV O w lo' hi' v a := by
  obtain ⟨bs, h3, h4⟩ := h
  exact ⟨bs, h3, h4.mono h1 h2⟩
abbrev zP : Array Value := #[.int .i64 0, .slice none 0 0, .slice none 0 0, .slice none 0 0, .slice none 0 0]
set_option maxRecDepth 20000 in
set_option maxHeartbeats 6400000 in
theorem implParseProject_any (s : ByteArray) (w : World) (hs : s.size ≤ 1048576) (hg : Nat) (ld : LdC w hg) (hhg : hg ≤ w.heap.size) :
    Calls Tryz.prog 12 #[.string s] w fun e w' => ∃ A0 c0 A1 c1 A2 c2 A3 c3, e = .returned (.tuple #[.agg #[.int .i64 (parPj s).dead, .slice A0 (parPj s).acts.length c0, .slice A1 (parPj s).links.length c1, .slice A2 (parPj s).res.length c2, .slice A3 (parPj s).stocks.length c3], .bool (parPjB s)]) ∧ OwV OwP w' w.heap.size w'.heap.size #[.int .i64 (parPj s).dead, .slice A0 (parPj s).acts.length c0, .slice A1 (parPj s).links.length c1, .slice A2 (parPj s).res.length c2, .slice A3 (parPj s).stocks.length c3] (parPj s) ∧ Below w.heap.size w w' := by
  have HPB := hide (show parPjB s = ((splitLines s).all (fun x => lineB (words x)) && (decide (s ≠ ByteArray.empty) && decide (fmtPj (resTo (splitLines s) (splitLines s).length) = s))) from rfl)
  have HPR := hide (show resP s = resTo (splitLines s) (splitLines s).length from rfl)
  have HSZ := hide (fun k hk => resTo_lines s k hk)
  have HXS := hide (splitLines_size s)
  go_enter Tryz.func12, Tryz.ntmps12
  go_wp2_with fail
  refine at_world fun V0 hW => ?_
  have z0 : V0.heap.size = w.heap.size + 2 := by rw [hW]; simp
  have k0 : Bk V0 w.heap.size 34 zP := by rw [hW]; exact (Bk.made w _ _).alloc _
  have k1 : Bk V0 (w.heap.size + 1) 34 zP := by
    rw [hW]
    have := Bk.made (w.alloc (.cells zP 34)) 34 zP
    rwa [World.size_alloc] at this
  have B : Below w.heap.size w V0 := by rw [hW]; exact below_two _ _ _
  clear hW
  refine (implSplitLines_any s V0 (by omega)).mono ?_
  rintro e V1 ⟨A, c, rfl, oL, r⟩
  have z1 := r.size
  have k0 := k0.below r (by omega)
  have k1 := k1.below r (by omega)
  have B := B.trans (r.mono (by omega))
  have HRD := hide oL.rdS
  have HP0 := hide (show PjG V1 (w.heap.size + 1) V1.heap.size pj0 from ⟨_, _, _, _, _, _, _, _, _, _, _, _, PjB.zero k1 (by omega)⟩)
  have HK0 := hide k0
  clear r oL k0 k1
  have hLL := splitLines_len s
  generalize splitLines s = L at HPB HPR HSZ HXS HRD hLL ⊢
  go_wp2
  go_loopw [11] (fun i wr => ∃ k : Nat, k ≤ L.length ∧ i = .int .i64 k ∧ Hid (PjG wr (w.heap.size + 1) V1.heap.size (resTo L k)) ∧ Hid ((L.take k).all (fun x => lineB (words x)) = true) ∧ Fr (w.heap.size + 1) V1.heap.size V1 wr) (fun i _ => L.length - (intOf i).toNat)
  case atStart => exact ⟨0, Nat.zero_le _, rfl, HP0, hide (by simp), Fr.refl _ _ _⟩
  case round =>
    clear HP0
    obtain ⟨k, hk, rfl, HP, HA, hFr⟩ := hrel
    have hsz := hFr.size
    have hBW := B.trans (hFr.below (B := w.heap.size) (by omega) (by omega) (by omega))
    have kk : Bk wr w.heap.size 34 zP := (hFr.block w.heap.size (by omega) (by omega) (by omega)).trans HK0.out
    have hsp := HSZ.out k hk
    by_cases hlt : k < L.length
    · obtain ⟨b, off, rfl, h1, h2, hc⟩ := HRD.out (by omega)
      have q1 := (World.cell?_of_block (a := ⟨b, off + k, none⟩) (hFr.block b (by omega) (by omega) (by omega))).trans (hc k hlt)
      have hxs := HXS.out _ (getD_mem (k := k) ByteArray.empty hlt)
      have HRS := hide (resTo_succ hlt)
      have HY := hide (fun h => all_take_succ (p := fun x => lineB (words x)) ByteArray.empty hlt HA.out h)
      have HNo := hide (all_no (p := fun x => lineB (words x)) ByteArray.empty hlt)
      clear hc
      generalize L.getD k ByteArray.empty = x at q1 hxs HRS HY HNo
      go_wp2_with fail
      refine (line_any (w.heap.size + 1) V1.heap.size (resTo L k) x wr HP.out (by omega) (by omega) (by omega) hg (ld.below hBW hhg) (by omega)).mono ?_
      rintro e w1 ⟨rfl, hp', hF⟩
      have hFr2 := hFr.trans hF
      have hsz2 := hF.size
      have HP' := hide hp'
      clear q1 hp'
      cases hok : lineB (words x)
      · have HF := hide (show parPjB s = false from by rw [HPB.out, show L.all _ = false from by simpa using HNo.out hok]; rfl)
        have BB := hBW.trans (hF.below (B := w.heap.size) (by omega) (by omega) (by omega))
        have kk : Bk w1 w.heap.size 34 zP := (hF.block w.heap.size (by omega) (by omega) (by omega)).trans kk
        clear hok
        have HF2 := hide (parPj_no HF.out)
        have x0 := kk.cell 0
        have x1 := kk.cell 1
        have x2 := kk.cell 2
        have x3 := kk.cell 3
        have x4 := kk.cell 4
        have f0 := kk.frozen 0
        have f1 := kk.frozen 1
        have f2 := kk.frozen 2
        have f3 := kk.frozen 3
        have f4 := kk.frozen 4
        simp only [List.getElem?_toArray, List.getElem?_cons_succ, List.getElem?_cons_zero] at x0 x1 x2 x3 x4
        have HB := hide BB
        have hkl := kk.lt
        clear kk BB
        go_wp2
        refine bodyPost_ret (v := .tuple #[.agg #[.int .i64 0, .slice none 0 0, .slice none 0 0, .slice none 0 0, .slice none 0 0], .bool false]) ?_ rfl ⟨none, 0, none, 0, none, 0, none, 0, ?_, ?_, ?_⟩
        · simp [results, Tryz.results12, go_sem, *]
        · rw [HF.out, HF2.out]; rfl
        · rw [HF2.out]; exact OwP.zero _ _ _
        · exact below_only HB.out (only5 w1 w.heap.size _ _ _ _ _) (Nat.le_refl _) (by omega)
      · have HQ := hide (HP'.out hok)
        have HY2 := hide (HY.out hok)
        clear hok kk
        go_wp2
        go_roundw
        case rel => exact ⟨k + 1, by omega, by go_num, hide (by rw [HRS.out]; exact HQ.out), HY2, hFr2⟩
        case measure => simp [intOf]; omega
    · obtain rfl : k = L.length := by omega
      have hall : L.all (fun x => lineB (words x)) = true := by have := HA.out; rwa [List.take_length] at this
      have HPB2 := hide (show parPjB s = (decide (s ≠ ByteArray.empty) && decide (fmtPj (resTo L L.length) = s)) from by rw [HPB.out, hall, Bool.true_and])
      clear hall hlt hk
      by_cases hse : s = ByteArray.empty
      · have HF := hide (show parPjB s = false from by rw [HPB2.out, decide_eq_false (fun h => h hse)]; rfl)
        have hem : ByteArray.empty.toList.isEmpty = true := str_empty_yes rfl
        have BB := hBW
        obtain rfl : s = ⟨#[]⟩ := hse
        clear hBW
        have HF2 := hide (parPj_no HF.out)
        have x0 := kk.cell 0
        have x1 := kk.cell 1
        have x2 := kk.cell 2
        have x3 := kk.cell 3
        have x4 := kk.cell 4
        have f0 := kk.frozen 0
        have f1 := kk.frozen 1
        have f2 := kk.frozen 2
        have f3 := kk.frozen 3
        have f4 := kk.frozen 4
        simp only [List.getElem?_toArray, List.getElem?_cons_succ, List.getElem?_cons_zero] at x0 x1 x2 x3 x4
        have HB := hide BB
        have hkl := kk.lt
        clear kk BB
        go_wp2
        refine bodyPost_ret (v := .tuple #[.agg #[.int .i64 0, .slice none 0 0, .slice none 0 0, .slice none 0 0, .slice none 0 0], .bool false]) ?_ rfl ⟨none, 0, none, 0, none, 0, none, 0, ?_, ?_, ?_⟩
        · simp [results, Tryz.results12, go_sem, *]
        · rw [HF.out, HF2.out]; rfl
        · rw [HF2.out]; exact OwP.zero _ _ _
        · exact below_only HB.out (only5 wr w.heap.size _ _ _ _ _) (Nat.le_refl _) (by omega)
      have hne := str_empty_no hse
      obtain ⟨A0, A1, A2, A3, c0, c1, c2, c3, b1, b2, b3, b4, hP⟩ := HP.out
      have p0 := hP.box.cell 0
      have p1 := hP.box.cell 1
      have p2 := hP.box.cell 2
      have p3 := hP.box.cell 3
      have p4 := hP.box.cell 4
      simp only [List.getElem?_toArray, List.getElem?_cons_succ, List.getElem?_cons_zero] at p0 p1 p2 p3 p4
      have HSE := hide hse
      clear hse
      generalize resTo L L.length = P at HPB2 HPR hsp hP HP p0 p1 p2 p3 p4
      go_wp2_with fail
      refine (implFormatProject_any P A0 A1 A2 A3 c0 c1 c2 c3 V1.heap.size wr.heap.size wr (by omega) hP.rdA hP.rdL hP.rdR hP.rdS (Nat.le_refl _) hg (ld.e.t.below hBW hhg) (by omega)).mono ?_
      rintro e w1 ⟨rfl, r⟩
      have BB := hBW.trans (r.mono (by omega))
      have kk := kk.below r (by omega)
      have hP := hP.below r (Nat.le_refl _)
      have zr := r.size
      clear p0 p1 p2 p3 p4 r hBW
      by_cases hst : fmtPj P = s
      · have HF := hide (show parPjB s = true from by rw [HPB2.out, decide_eq_true hst, decide_eq_true HSE.out]; rfl)
        have HF2 := hide (show parPj s = P from (parPj_yes HF.out).trans HPR.out)
        rw [hst]
        clear hst
        have p0 := hP.box.cell 0
        have p1 := hP.box.cell 1
        have p2 := hP.box.cell 2
        have p3 := hP.box.cell 3
        have p4 := hP.box.cell 4
        have x0 := kk.cell 0
        have x1 := kk.cell 1
        have x2 := kk.cell 2
        have x3 := kk.cell 3
        have x4 := kk.cell 4
        have f0 := kk.frozen 0
        have f1 := kk.frozen 1
        have f2 := kk.frozen 2
        have f3 := kk.frozen 3
        have f4 := kk.frozen 4
        simp only [List.getElem?_toArray, List.getElem?_cons_succ, List.getElem?_cons_zero] at p0 p1 p2 p3 p4 x0 x1 x2 x3 x4
        have HPJ := hide hP
        have HB := hide BB
        clear hP BB kk HP
        go_wp2
        refine bodyPost_ret (v := .tuple #[.agg #[.int .i64 P.dead, .slice A0 P.acts.length c0, .slice A1 P.links.length c1, .slice A2 P.res.length c2, .slice A3 P.stocks.length c3], .bool true]) ?_ rfl ⟨A0, c0, A1, c1, A2, c2, A3, c3, ?_, ?_, ?_⟩
        · simp [results, Tryz.results12, go_sem, *]
        · rw [HF.out, HF2.out]
        · rw [HF2.out]
          refine (OwV.below_ OwPj.keeps HPJ.out.own fun q h1 h2 => (only5 w1 w.heap.size _ _ _ _ _).block q (by omega) (by omega)).mono_ (by omega) ?_
          simp [World.setCell]
        · exact below_only HB.out (only5 w1 w.heap.size _ _ _ _ _) (Nat.le_refl _) (by omega)
      · have HF := hide (show parPjB s = false from by rw [HPB2.out, decide_eq_false hst, Bool.and_false])
        have hst1 := str_ne_list hst
        have hst2 := beq_list hst
        clear hst hP HP
        have HF2 := hide (parPj_no HF.out)
        have x0 := kk.cell 0
        have x1 := kk.cell 1
        have x2 := kk.cell 2
        have x3 := kk.cell 3
        have x4 := kk.cell 4
        have f0 := kk.frozen 0
        have f1 := kk.frozen 1
        have f2 := kk.frozen 2
        have f3 := kk.frozen 3
        have f4 := kk.frozen 4
        simp only [List.getElem?_toArray, List.getElem?_cons_succ, List.getElem?_cons_zero] at x0 x1 x2 x3 x4
        have HB := hide BB
        have hkl := kk.lt
        clear kk BB
        go_wp2
        refine bodyPost_ret (v := .tuple #[.agg #[.int .i64 0, .slice none 0 0, .slice none 0 0, .slice none 0 0, .slice none 0 0], .bool false]) ?_ rfl ⟨none, 0, none, 0, none, 0, none, 0, ?_, ?_, ?_⟩
        · simp [results, Tryz.results12, go_sem, *]
        · rw [HF.out, HF2.out]; rfl
        · rw [HF2.out]; exact OwP.zero _ _ _
        · exact below_only HB.out (only5 w1 w.heap.size _ _ _ _ _) (Nat.le_refl _) (by omega)

theorem parRs_none {l : List ByteArray} (h : ¬ 1 < l.length) : parRs l = ⟨[], []⟩ := by unfold parRs; rw [if_neg h, if_neg (by omega)]
theorem parRs_one {l : List ByteArray} (h1 : 1 < l.length) (h : ¬ 2 < l.length) : parRs l = ⟨(parSt (gw l 1)).1, []⟩ := by unfold parRs; rw [if_pos h1, if_neg h]
theorem parRs_two {l : List ByteArray} (h : 2 < l.length) : parRs l = ⟨(parSt (gw l 1)).1, rows4 (parIs (gw l 2)).1⟩ := by unfold parRs; rw [if_pos (by omega), if_pos h]
set_option maxRecDepth 20000 in
set_option maxHeartbeats 6400000 in
theorem l06Res_any (A : Option Addr) (l : List ByteArray) (c lo hi : Nat) (w : World) (hl : l.length ≤ 16777216) (hx : ∀ x ∈ l, x.size ≤ 1048576) (ha : RdS w lo hi A l) (hhi : hi ≤ w.heap.size) :
    Calls Tryz.prog 58 #[.slice A l.length c] w fun e w' => ∃ (S : Option Addr) (cs : Nat) (T : Option Addr) (ct : Nat) (bs : List Nat), e = .returned (.agg #[.slice S (parRs l).steps.length cs, .slice T (parRs l).setup.length ct]) ∧ OwRc w' #[.slice S (parRs l).steps.length cs, .slice T (parRs l).setup.length ct] (parRs l) bs ∧ Nd bs w.heap.size w'.heap.size ∧ Below w.heap.size w w' := by
  obtain ⟨V0, hW⟩ : ∃ V, V = (w.alloc (.cells #[.slice none 0 0, .slice none 0 0] 71)).alloc (.cells #[.slice none 0 0, .slice none 0 0] 71) := ⟨_, rfl⟩
  have z0 : V0.heap.size = w.heap.size + 2 := by rw [hW]; simp
  have k0 : Bk V0 w.heap.size 71 #[.slice none 0 0, .slice none 0 0] := by rw [hW]; exact (Bk.made w _ _).alloc _
  have k1 : Bk V0 (w.heap.size + 1) 71 #[.slice none 0 0, .slice none 0 0] := by
    rw [hW]
    have := Bk.made (w.alloc (.cells #[.slice none 0 0, .slice none 0 0] 71)) 71 #[.slice none 0 0, .slice none 0 0]
    rwa [World.size_alloc] at this
  have B : Below w.heap.size w V0 := by rw [hW]; exact below_two _ _ _
  have HW := hide hW
  clear hW
  by_cases h1l : 1 < l.length
  case neg =>
    have HF := hide (parRs_none h1l)
    have hn : ¬ (1 : Int) < (l.length : Int) := by omega
    have hn2 : ¬ (2 : Int) < (l.length : Int) := by omega
    have hW := HW.out
    subst hW
    clear h1l HW
    go_enter Tryz.func58, Tryz.ntmps58
    have x0 := k0.cell 0
    have x1 := k0.cell 1
    have f0 := k0.frozen 0
    have f1 := k0.frozen 1
    have d0 := k1.cell 0
    have d1 := k1.cell 1
    simp only [List.getElem?_toArray, List.getElem?_cons_succ, List.getElem?_cons_zero] at x0 x1 d0 d1
    go_wp2
    refine bodyPost_ret (v := .agg #[.slice none 0 0, .slice none 0 0]) ?_ rfl ?_
    · simp [results, Tryz.results58, go_sem, *]
    have HB2 := hide B
    have hE : ∀ W, Below w.heap.size w W → ∃ (S : Option Addr) (cs : Nat) (T : Option Addr) (ct : Nat) (bs : List Nat), Ending.returned (.agg #[.slice none 0 0, .slice none 0 0]) = .returned (.agg #[.slice S (parRs l).steps.length cs, .slice T (parRs l).setup.length ct]) ∧ OwRc W #[.slice S (parRs l).steps.length cs, .slice T (parRs l).setup.length ct] (parRs l) bs ∧ Nd bs w.heap.size W.heap.size ∧ Below w.heap.size w W := fun W hW =>
      ⟨none, 0, none, 0, [], by rw [HF.out]; rfl, by rw [HF.out]; exact OwRc.zero _, Nd.nil _ _, hW⟩
    first | exact hE _ HB2.out | (have := hE _ HB2.out; simpa using this) | exact hE _ (below_only HB2.out (only2 _ w.heap.size _ _) (Nat.le_refl _) (by simp))
  have hp1 : (1 : Int) < (l.length : Int) := by omega
  obtain ⟨b, off, rfl, h1, h2, hc⟩ := (ha.below B hhi) (by omega)
  have q1 := hc 1 (by omega)
  have s1 := hx _ (getD_mem (k := 1) ByteArray.empty h1l)
  have HX1 := hide (show gw l 1 = l.getD 1 ByteArray.empty from rfl)
  have HC := hide hc
  have HXS := hide hx
  clear hc ha hx
  generalize l.getD 1 ByteArray.empty = x1 at q1 s1 HX1
  have q1' := HW.out ▸ q1
  go_enter Tryz.func58, Tryz.ntmps58
  go_wp2_with fail
  rw [← HW.out]
  refine (specParseSteps_any x1 V0 (by omega)).mono ?_
  rintro e V1 ⟨S, cs, rfl, oS, r⟩
  have z1 := r.size
  have k0 := k0.below r (by omega)
  have k1 := k1.below r (by omega)
  have B := B.trans (r.mono (by omega))
  have HC := hide (fun j (hj : j < l.length) => (r.cell (p := ⟨b, off + j, none⟩) (by show b < _; omega)).trans (HC.out j hj))
  have hst := parSt_len x1
  obtain ⟨bS, rS, nS⟩ := RowB.of oS
  have RS := hide rS; have NS := hide nS
  clear r q1 q1' oS rS nS
  by_cases h2l : 2 < l.length
  case neg =>
    have HF := hide (show parRs l = ⟨(parSt x1).1, []⟩ from by rw [parRs_one h1l h2l, HX1.out])
    have hn2 : ¬ (2 : Int) < (l.length : Int) := by omega
    clear h2l h1l HC
    generalize (parSt x1).1 = P at HF RS hst ⊢
    have k2 : Bk (V1.setCell ⟨w.heap.size + 1, 0, none⟩ (.slice S P.length cs)) (w.heap.size + 1) 71 #[.slice S P.length cs, .slice none 0 0] := k1.set 0 _
    have e0 := k1.cell 0
    have e1 := k1.cell 1
    have g0 := k1.frozen 0
    simp only [List.getElem?_toArray, List.getElem?_cons_succ, List.getElem?_cons_zero] at e0 e1
    have k0' : Bk (V1.setCell ⟨w.heap.size + 1, 0, none⟩ (.slice S P.length cs)) w.heap.size 71 #[.slice none 0 0, .slice none 0 0] := k0.far (by show w.heap.size ≠ w.heap.size + 1; omega) _
    have HB := hide B
    have k0 := k0'
    have k1 := k2
    clear B k0' k2
    have x0 := k0.cell 0
    have x1 := k0.cell 1
    have f0 := k0.frozen 0
    have f1 := k0.frozen 1
    have d0 := k1.cell 0
    have d1 := k1.cell 1
    simp only [List.getElem?_toArray, List.getElem?_cons_succ, List.getElem?_cons_zero] at x0 x1 d0 d1
    go_wp2
    refine bodyPost_ret (v := .agg #[.slice S P.length cs, .slice none 0 0]) ?_ rfl ?_
    · simp [results, Tryz.results58, go_sem, *]
    have hRB : RowB ((((V1.setCell ⟨w.heap.size + 1, 0, none⟩ (.slice S P.length cs)).setCell ⟨w.heap.size, 0, none⟩ (.slice S P.length cs)).setCell ⟨w.heap.size, 1, none⟩ (.slice none 0 0))) 128 2 S P.length cs (flatSt P) bS := by
      refine (RS.out.keep fun q hq => Below.heap_setCell V1 _ _ q ?_).keep fun q hq => (only2 _ w.heap.size _ _).block q ?_ ?_
      · have := NS.out.2 q hq; show q ≠ w.heap.size + 1; omega
      · rw [set_size]; exact RS.out.lt q hq
      · have := NS.out.2 q hq; omega
    have hND := NS.out.mono (lo' := w.heap.size) (by omega) (Nat.le_refl _)
    have hBF := below_only (HB.out.setCell (p := ⟨w.heap.size + 1, 0, none⟩) (by show w.heap.size ≤ w.heap.size + 1; omega) (.slice S P.length cs)) (only2 _ w.heap.size (.slice S P.length cs) (.slice none 0 0)) (Nat.le_refl _) (by rw [set_size]; omega)
    exact ⟨S, cs, none, 0, bS, (by rw [HF.out]; rfl), (by rw [HF.out]; exact ⟨S, cs, none, 0, bS, [], rfl, hRB, OwG.nil_ _ _ _ _ _, by simp⟩), (by rw [set_size, set_size, set_size]; exact hND), hBF⟩
  have hp2 : (2 : Int) < (l.length : Int) := by omega
  have q2 := HC.out 2 (by omega)
  have s2 := HXS.out _ (getD_mem (k := 2) ByteArray.empty h2l)
  have HX2 := hide (show gw l 2 = l.getD 2 ByteArray.empty from rfl)
  generalize l.getD 2 ByteArray.empty = x2 at q2 s2 HX2
  have HP := hide (show parRs l = ⟨(parSt x1).1, rows4 (parIs x2).1⟩ from by rw [parRs_two h2l, HX1.out, HX2.out])
  generalize (parSt x1).1 = P at HP RS hst ⊢
  obtain ⟨V2, hV2⟩ : ∃ V, V = V1.setCell ⟨w.heap.size + 1, 0, none⟩ (.slice S P.length cs) := ⟨_, rfl⟩
  have e0 := k1.cell 0
  have g0 := k1.frozen 0
  simp only [List.getElem?_toArray, List.getElem?_cons_succ, List.getElem?_cons_zero] at e0
  have k2 : Bk V2 (w.heap.size + 1) 71 #[.slice S P.length cs, .slice none 0 0] := by rw [hV2]; exact k1.set 0 _
  have k0' : Bk V2 w.heap.size 71 #[.slice none 0 0, .slice none 0 0] := by rw [hV2]; exact k0.far (by show w.heap.size ≠ w.heap.size + 1; omega) _
  have B2 : Below w.heap.size w V2 := by rw [hV2]; exact B.setCell (by show w.heap.size ≤ w.heap.size + 1; omega) _
  have z2 : V2.heap.size = V1.heap.size := by rw [hV2, set_size]
  have q2' : (V1.setCell ⟨w.heap.size + 1, 0, none⟩ (.slice S P.length cs)).cell? ⟨b, off + 2, none⟩ = some (.string x2) := by
    rw [World.cell?_setCell_other _ _ _ _ (fun e => by have := congrArg Addr.block e; simp at this; omega)]; exact q2
  have RS2 : RowB V2 128 2 S P.length cs (flatSt P) bS := by
    rw [hV2]
    exact RS.out.keep fun q hq => Below.heap_setCell V1 _ _ q (by have := NS.out.2 q hq; show q ≠ w.heap.size + 1; omega)
  have HV2 := hide hV2
  have RS := hide RS2
  clear hV2 k0 k1 B h1l h2l RS2 q2
  go_wp2_with fail
  rw [← HV2.out]
  refine (specParseInts_any x2 V2 (by omega)).mono ?_
  rintro e V3 ⟨AL, cL, rfl, oL, r⟩
  have z3 := r.size
  have k0 := k0'.below r (by omega)
  have k1 := k2.below r (by omega)
  have B := B2.trans (r.mono (by omega))
  have RS := hide (RS.out.below r (fun q hq => by rw [z2]; have := NS.out.2 q hq; omega))
  have hN := parIs_len x2
  have RL := hide oL.rdI
  have hcL := own_cap oL
  clear r oL k0' k2 B2 q2' e0 g0
  generalize (parIs x2).1 = N at HP hN RL hcL ⊢
  have HK1 := hide k1
  have HK0 := hide k0
  clear k1 k0
  go_wp2
  go_loopw [6] (fun v wr => ∃ (k : Nat) (T : Option Addr) (ct : Nat) (bT : List Nat), k ≤ N.length / 4 ∧ v = .int .i64 ((4 * k : Nat) : Int) ∧ Bk wr (w.heap.size + 1) 71 #[.slice S P.length cs, .slice T k ct] ∧ Hid (OwG 1 25 OwII [] wr T ct ((rows4 N).take k) bT ∧ Nd bT V3.heap.size wr.heap.size) ∧ Fr (w.heap.size + 1) V3.heap.size V3 wr) (fun v _ => N.length + 4 - (intOf v).toNat)
  case atStart => exact ⟨0, none, 0, [], Nat.zero_le _, rfl, HK1.out, hide ⟨OwG.nil_ _ _ _ _ _, Nd.nil _ _⟩, Fr.refl _ _ _⟩
  case round =>
    clear HK1
    obtain ⟨k, T, ct, bT, hk, rfl, kr, HG, hFr⟩ := hrel
    have hsz := hFr.size
    by_cases hlt : k < N.length / 4
    · have h4k : 4 * k + 4 ≤ N.length := by omega
      have HQ := hide (quad_len (l := N) (k := k) h4k)
      have HRT := hide (rows4_take N k h4k)
      have HLT := hide (rows4_tl N k hk)
      obtain ⟨gL, oL, rfl, gl1, gl2, gl3⟩ := RL.out (by omega)
      have hQC : ∀ W, Fr (w.heap.size + 1) V3.heap.size V3 W → ∀ j, j < (quad N k).length → W.cell? ⟨gL, oL + 4 * k + j, none⟩ = some (.int .i64 ((quad N k).getD j 0)) := fun W hW j hj => RdI.quad (RL.out.keep fun q h1 h2 => hW.block q (by omega) (by omega) (by omega)) h4k j hj
      obtain ⟨n, hn⟩ : ∃ n, n = 4 * k := ⟨_, rfl⟩
      have hn1 : n + 4 ≤ N.length := by omega
      have HNK := hide hn
      rw [← hn] at hQC ⊢
      have HNW := hide (fun W hW => row_news (w := W) (b := gL) (off := oL + n) HQ.out (hQC W hW))
      clear hQC gl3
      have hi0 : (0 : Int) ≤ (n : Int) := by omega
      have hi1 : (n : Int) < (N.length : Int) := by omega
      have hi2 : IntKind.i64.wrap ((n : Int) + 4) = (n : Int) + 4 := IntWalk.i64_in _ (by omega)
      have hi3 : ((n : Int) + 4).toNat = n + 4 := by omega
      have hi4 : (n : Int) + 4 ≤ (cL : Int) := by omega
      have hi5 : (n : Int) ≤ (n : Int) + 4 := by omega
      have hi6 : ¬ n = cL := by omega
      have hi7 : ¬ cL = n := by omega
      have hi8 : (n : Int) + 4 ≤ (N.length : Int) := by omega
      have c1 := kr.cell 1
      have ac1 := fun o => (kr.alloc o).cell 1
      have f1 := kr.frozen 1
      simp only [List.getElem?_toArray, List.getElem?_cons_succ, List.getElem?_cons_zero] at c1 ac1
      have HN2 := hide (show k + 1 ≤ 2147483648 from by omega)
      have HQM := hide (show ((quad N k).map (Value.int .i64)).length = 4 * 1 from by rw [List.length_map, HQ.out])
      have HQO := hide (show ∀ u ∈ (quad N k).map (Value.int .i64), u.oneCell' = true from fun u hu => by obtain ⟨y, _, rfl⟩ := List.mem_map.1 hu; rfl)
      clear hn
      go_wp2_with fail
      go_region_law (first | (refine step_pushB (by rfl) (.tmp 38) (.tmp 43) 25 (by rfl) 3 _ 1 8 Tryz.underlying25 Tryz.infoInt rfl (by omega) _ 0 0 [] _ (by rfl) (RowB.made _ 3 1 #[] 0 (by unfold maxLen; omega) rfl) gL (oL + n) 4 (cL - n) _ (by rfl) (by omega) HQM.out (HNW.out _ ((hFr.qt 1).alloc _)) HQO.out (by omega) (by omega) ?_; intro A1 cA bQ w1 hRQ hbQ hOQ; have hBQ := OnlyIn.belowB ((below_quiet (Below.refl wr.heap.size wr) 1).alloc (Nat.le_refl _) _) hOQ (fun x hx => by simp at hx; omega) (by simp); have hNQ : Nd bQ wr.heap.size w1.heap.size := ⟨by rcases hbQ with rfl | rfl <;> simp, fun x hx => ⟨by rcases hbQ with rfl | rfl <;> simp at hx <;> omega, hRQ.lt x hx⟩⟩; have hRQ := hRQ.eqn (m := 4) (ys := (quad N k).map (.int .i64)) rfl rfl; have kr1 := kr.below hBQ kr.lt; have c1 := kr1.cell 1; have ac1 := fun o => (kr1.alloc o).cell 1; simp only [List.getElem?_toArray, List.getElem?_cons_succ, List.getElem?_cons_zero] at c1 ac1; have HRY := hide (row_ready HG.out.1 HG.out.2 hBQ hRQ hNQ HQ.out hsz); have HBQ := hide hBQ; have hzq := hBQ.size; clear hOQ hbQ hNQ hRQ hBQ) | (refine step_pushN OwSS.keeps (by rfl) (.tmp 37) (.tmp 45) 69 (by rfl) 25 _ 1 24 Tryz.underlying69 Tryz.infoSS rfl (by omega) T k ct ((rows4 N).take k) bT V3.heap.size HLT.out (by rfl) (quad N k) #[.slice A1 4 cA] bQ (HRY.out _) rfl _ 0 1 (by rfl) (one_new _ _ _) (one_cell rfl) HN2.out (by omega) (by simp; omega) ?_; intro A2 c2 bs2 w2 hG2 hN2 hb2 hO2; have kr2 := (hO2.block (w.heap.size + 1) (by simp; omega) (fun hm => by have := (HG.out.2.2 _ hm).1; omega)).trans (kr1.alloc _); have c1 := Bk.cell kr2 1; have f1 := Bk.frozen kr2 1; simp only [List.getElem?_toArray, List.getElem?_cons_succ, List.getElem?_cons_zero] at c1))
      all_goals go_wp2
      all_goals go_roundw
      all_goals first
        | (simp [intOf]; omega; done)
        | (refine ⟨k + 1, A2, c2, bs2, by omega, val_int (by have := HNK.out; omega), Bk.set kr2 1 _, hide ⟨?_, by rw [set_size]; exact hN2⟩, ((((hFr.trans (Fr.of_below HBQ.out hsz)).alloc _).trans (Fr.of_only hO2 (fun x hx => .inr (HG.out.2.2 x hx).1)))).set 1 _⟩
           rw [HRT.out]
           exact OwG.keep_ OwSS.keeps hG2 (fun q hq => Below.heap_setCell w2 _ _ q (by have := (hN2.2 q hq).1; show q ≠ w.heap.size + 1; omega)))
    · have hkk : k = N.length / 4 := by omega
      have hR4 : (rows4 N).length = k := by rw [rows4_len, hkk]
      have hT4 : (rows4 N).take k = rows4 N := List.take_of_length_le (by omega)
      have HR4 := hide hR4; have HT4 := hide hT4
      obtain ⟨n, hn⟩ : ∃ n, n = 4 * k := ⟨_, rfl⟩
      have hn1 : ¬ n + 4 ≤ N.length := by omega
      rw [← hn]
      have hi2 : IntKind.i64.wrap ((n : Int) + 4) = (n : Int) + 4 := IntWalk.i64_in _ (by omega)
      have hi8 : ¬ (n : Int) + 4 ≤ (N.length : Int) := by omega
      have HB := hide (B.trans (hFr.below (B := w.heap.size) (by omega) (by omega) (by omega)))
      have hk0 := HK0.out.lt
      have k0 : Bk wr w.heap.size 71 #[.slice none 0 0, .slice none 0 0] := (hFr.block w.heap.size (by omega) (by omega) (by omega)).trans HK0.out
      have k1 := kr
      clear hR4 hT4 B RL kr hn1 hn hkk hk hlt
      have x0 := k0.cell 0
      have x1 := k0.cell 1
      have f0 := k0.frozen 0
      have f1 := k0.frozen 1
      have d0 := k1.cell 0
      have d1 := k1.cell 1
      simp only [List.getElem?_toArray, List.getElem?_cons_succ, List.getElem?_cons_zero] at x0 x1 d0 d1
      go_wp2
      refine bodyPost_ret (v := .agg #[.slice S P.length cs, .slice T k ct]) ?_ rfl ?_
      · simp [results, Tryz.results58, go_sem, *]
      rw [HP.out]
      refine ⟨S, cs, T, ct, by show _ = Ending.returned (.agg #[_, .slice T (rows4 N).length ct]); rw [HR4.out], bS ++ bT, ⟨S, cs, T, ct, bS, bT, rfl, ?_, ?_, rfl⟩, ?_, below_only HB.out (only2 _ w.heap.size _ _) (Nat.le_refl _) (by omega)⟩
      · refine (RS.out.keep fun q hq => hFr.block q (RS.out.lt q hq) (RS.out.lt q hq) ?_).keep fun q hq => (only2 wr w.heap.size _ _).block q ?_ ?_
        · have := NS.out.2 q hq; omega
        · have := RS.out.lt q hq; omega
        · have := NS.out.2 q hq; omega
      · have h5 := HG.out.1
        rw [HT4.out] at h5
        refine OwG.keep_ OwSS.keeps h5 fun q hq => (only2 wr w.heap.size _ _).block q ?_ ?_
        · have := HG.out.2.2 q hq; omega
        · have := HG.out.2.2 q hq; omega
      · have h6 := Nd.app NS.out HG.out.2 (by omega) (by omega) (by omega)
        refine h6.mono (by omega) ?_
        rw [set_size, set_size]
        exact Nat.le_refl _
theorem act_nil : parAc [] = ac0 := by
  unfold parAc
  rw [show gw [] 1 = ByteArray.empty from rfl, show gw [] 2 = ByteArray.empty from rfl, (okI_none parI_empty).2]; rfl
theorem act_0 {l : List ByteArray} (h : 0 < l.length) : parAc (l.take 1) = ac0 := by
  match l, h with
  | a :: t, _ =>
    show parAc [a] = ac0
    unfold parAc
    rw [show gw [a] 1 = ByteArray.empty from rfl, show gw [a] 2 = ByteArray.empty from rfl, (okI_none parI_empty).2]; rfl
theorem act_1 {l : List ByteArray} (h : 1 < l.length) : parAc (l.take 2) = ⟨l.getD 1 ByteArray.empty, 0, []⟩ := by
  match l, h with
  | a :: b :: t, _ =>
    show parAc [a, b] = _
    unfold parAc
    rw [show gw [a, b] 2 = ByteArray.empty from rfl, (okI_none parI_empty).2]; rfl
theorem act_2 {l : List ByteArray} (h : 2 < l.length) : parAc (l.take 3) = { parAc (l.take 2) with fam := valI (l.getD 2 ByteArray.empty) } := by
  match l, h with
  | a :: b :: c :: t, _ => rfl
theorem act_n {l : List ByteArray} {k : Nat} (h3 : 3 ≤ k) (h : k < l.length) : parAc (l.take (k + 1)) = { parAc (l.take k) with modes := (parAc (l.take k)).modes ++ [parMd (l.getD k ByteArray.empty)] } := by
  have hm : (l.take k).length = k := by rw [List.length_take]; omega
  rw [take_snoc ByteArray.empty h]
  generalize l.getD k ByteArray.empty = x
  generalize l.take k = m at hm
  have g1 : ∀ j, j < 3 → gw (m ++ [x]) j = gw m j := fun j hj => by unfold gw; rw [List.getD_eq_getElem?_getD, List.getD_eq_getElem?_getD, List.getElem?_append_left (by omega)]
  unfold parAc
  rw [g1 1 (by omega), g1 2 (by omega), List.drop_append_of_le_length (by omega), List.map_append]; rfl
theorem act_len (l : List ByteArray) (k : Nat) : (parAc (l.take k)).modes.length ≤ k := by
  show ((l.take k).drop 3 |>.map parMd).length ≤ k
  rw [List.length_map, List.length_drop, List.length_take]; omega
set_option maxRecDepth 20000 in
set_option maxHeartbeats 6400000 in
theorem l06Act_any (A : Option Addr) (l : List ByteArray) (c lo hi : Nat) (w : World) (hl : l.length ≤ 16777216) (hx : ∀ x ∈ l, x.size ≤ 1048576) (ha : RdS w lo hi A l) (hhi : hi ≤ w.heap.size) :
    Calls Tryz.prog 59 #[.slice A l.length c] w fun e w' => ∃ (M : Option Addr) (cm : Nat) (bs : List Nat), e = .returned (.agg #[.string (parAc l).name, .int .i64 (parAc l).fam, .slice M (parAc l).modes.length cm]) ∧ OwA w' #[.string (parAc l).name, .int .i64 (parAc l).fam, .slice M (parAc l).modes.length cm] (parAc l) bs ∧ Nd bs w.heap.size w'.heap.size ∧ Below w.heap.size w w' := by
  obtain ⟨V0, hW⟩ : ∃ V, V = (w.alloc (.cells #[.string ⟨#[]⟩, .int .i64 0, .slice none 0 0] 46)).alloc (.cells #[.string ⟨#[]⟩, .int .i64 0, .slice none 0 0] 46) := ⟨_, rfl⟩
  have z0 : V0.heap.size = w.heap.size + 2 := by rw [hW]; simp
  have k0 : Bk V0 w.heap.size 46 #[.string ⟨#[]⟩, .int .i64 0, .slice none 0 0] := by rw [hW]; exact (Bk.made w _ _).alloc _
  have k1 : Bk V0 (w.heap.size + 1) 46 #[.string ⟨#[]⟩, .int .i64 0, .slice none 0 0] := by
    rw [hW]
    have := Bk.made (w.alloc (.cells #[.string ⟨#[]⟩, .int .i64 0, .slice none 0 0] 46)) 46 #[.string ⟨#[]⟩, .int .i64 0, .slice none 0 0]
    rwa [World.size_alloc] at this
  have B : Below w.heap.size w V0 := by rw [hW]; exact below_two _ _ _
  have HRD := hide (ha.below B hhi)
  have HXS := hide hx
  have HN0 := hide act_nil
  have HLN := hide (fun k => act_len l k)
  have HW := hide hW
  have HK0 := hide k0
  have HK1 := hide k1
  clear hW k0 k1 ha hx
  go_enter Tryz.func59, Tryz.ntmps59
  go_wp2_with fail
  rw [← HW.out]
  go_loopw [11] (fun v wr => ∃ (k : Nat) (p : Ac) (M : Option Addr) (cm : Nat) (bM : List Nat), k ≤ l.length ∧ v = .int .i64 k ∧ Hid (p = parAc (l.take k)) ∧ p.modes.length ≤ k ∧ Bk wr (w.heap.size + 1) 46 #[.string p.name, .int .i64 p.fam, .slice M p.modes.length cm] ∧ Hid (OwG 3 53 OwM md0 wr M cm p.modes bM ∧ Nd bM V0.heap.size wr.heap.size) ∧ Fr (w.heap.size + 1) V0.heap.size V0 wr) (fun v _ => l.length - (intOf v).toNat)
  case atStart => exact ⟨0, ac0, none, 0, [], Nat.zero_le _, rfl, hide HN0.out.symm, by simp [ac0], HK1.out, hide ⟨OwG.nil_ _ _ _ _ _, Nd.nil _ _⟩, Fr.refl _ _ _⟩
  case round =>
    clear HK1 HN0
    obtain ⟨k, p, M, cm, bM, hk, rfl, HP, hml, kr, HG, hFr⟩ := hrel
    have hsz := hFr.size
    by_cases hlt : k < l.length
    · obtain ⟨b, off, rfl, h1, h2, hc⟩ := HRD.out (by omega)
      have q1 := (World.cell?_of_block (a := ⟨b, off + k, none⟩) (hFr.block b (by omega) (by omega) (by omega))).trans (hc k hlt)
      have hxs := HXS.out _ (getD_mem (k := k) ByteArray.empty hlt)
      clear hc
      have HST := hide (fun (W : World) (hW : Below wr.heap.size wr W) (i : Nat) (u : Value) => (⟨OwG.keep_ OwMs.keeps HG.out.1 fun q hq => (Below.heap_setCell W ⟨w.heap.size + 1, i, none⟩ u q (by have := (HG.out.2.2 q hq).1; show q ≠ w.heap.size + 1; omega)).trans (hW.block q (HG.out.2.2 q hq).2), HG.out.2.mono (Nat.le_refl _) (by rw [set_size]; exact hW.size)⟩ : OwG 3 53 OwM md0 (W.setCell ⟨w.heap.size + 1, i, none⟩ u) M cm p.modes bM ∧ Nd bM V0.heap.size (W.setCell ⟨w.heap.size + 1, i, none⟩ u).heap.size))
      by_cases e0 : k = 0
      · subst e0
        have hp : p = ac0 := by rw [HP.out]; exact act_nil
        have H1 := hide (act_0 hlt)
        rw [Nat.add_zero] at q1
        generalize l.getD 0 ByteArray.empty = x at q1 hxs
        go_wp2
        go_roundw
        case rel => exact ⟨1, p, M, cm, bM, by omega, by go_num, hide (by rw [H1.out, hp]), by omega, kr, HG, hFr⟩
        case measure => simp [intOf]; omega
      by_cases e1 : k = 1
      · subst e1
        obtain rfl : p = ac0 := by rw [HP.out]; exact act_0 (by omega)
        have H1 := hide (act_1 hlt)
        generalize l.getD 1 ByteArray.empty = x at q1 hxs H1
        have d0 := kr.cell 0
        have f0 := kr.frozen 0
        simp only [List.getElem?_toArray, List.getElem?_cons_succ, List.getElem?_cons_zero] at d0
        go_wp2
        go_roundw
        case rel => exact ⟨2, ⟨x, 0, []⟩, M, cm, bM, by omega, by go_num, hide H1.out.symm, by simp, kr.set 0 _, hide (HST.out wr (Below.refl _ _) 0 _), hFr.set 0 _⟩
        case measure => simp [intOf]; omega
      by_cases e2 : k = 2
      · subst e2
        have H1 := hide (act_2 hlt)
        generalize l.getD 2 ByteArray.empty = x at q1 hxs H1
        go_wp2_with fail
        refine (specParseInt_any x wr (by omega)).mono ?_
        rintro e w1 ⟨rfl, r⟩
        have kr1 := kr.below r kr.lt
        have d1 := kr1.cell 1
        have f1 := kr1.frozen 1
        simp only [List.getElem?_toArray, List.getElem?_cons_succ, List.getElem?_cons_zero] at d1
        have HR := hide r
        clear r q1 kr
        go_wp2
        go_roundw
        case rel => exact ⟨3, { p with fam := valI x }, M, cm, bM, by omega, by go_num, hide (by rw [H1.out, ← HP.out]), by simpa using (by omega : p.modes.length ≤ 3), kr1.set 1 _, hide (HST.out w1 HR.out 1 _), (hFr.trans (Fr.of_below HR.out hsz)).set 1 _⟩
        case measure => simp [intOf]; omega
      have H1 := hide (act_n (l := l) (k := k) (by omega) hlt)
      generalize l.getD k ByteArray.empty = x at q1 hxs H1
      have n0 : ¬ (k : Int) = 0 := by omega
      have n1 : ¬ (k : Int) = 1 := by omega
      have n2 : ¬ (k : Int) = 2 := by omega
      have t0 : ((k : Int) == 0) = false := by simp [e0]
      have t1 : ((k : Int) == 1) = false := by simp; omega
      have t2 : ((k : Int) == 2) = false := by simp; omega
      go_wp2_with fail
      refine (specParseMode_any x wr (by omega)).mono ?_
      rintro e w1 ⟨U, cu, C, cc, rfl, ⟨bQ, hOM, hNQ⟩, r⟩
      have kr1 := kr.below r kr.lt
      have zr := r.size
      have a2 := fun o => (kr1.alloc o).cell 2
      have mb := Bk.made w1 53 #[.int .i64 (parMd x).dur, .slice U (parMd x).use.length cu, .slice C (parMd x).con.length cc]
      have m0 := mb.cell 0
      have m1 := mb.cell 1
      have m2 := mb.cell 2
      simp only [List.getElem?_toArray, List.getElem?_cons_succ, List.getElem?_cons_zero] at a2 m0 m1 m2
      have HRY := hide (fun W hW => el_ready (W := W) OwMs.keeps HG.out.1 HG.out.2 r hOM hNQ hsz hW)
      have HR := hide r
      have HKR := hide kr1
      clear q1 hxs hOM hNQ mb r kr kr1 HST
      go_wp2_with (at_builtin; go_must (refine wpList_pushN OwMs.keeps _ (.tmp 23) (.tmp 25) 44 53 _ 3 56 Tryz.underlying44 Tryz.infoMd rfl (by omega) M p.modes.length cm p.modes bM V0.heap.size rfl (parMd x) #[.int .i64 (parMd x).dur, .slice U (parMd x).use.length cu, .slice C (parMd x).con.length cc] bQ (HRY.out _ (below_two _ _ _)) rfl (w1.heap.size + 1) 0 1 (three_new2 _ _ _ _ _ _) (three_cell rfl rfl rfl) (by omega) (by omega) ?_ rfl rfl rfl rfl (by simp; omega)))
      intro A2 c2 bs2 w2 hG2 hN2 hb2 hO2
      have hwl : w1.heap.size + 2 ≤ w2.heap.size := by have := hO2.size; simp at this; omega
      have kr2 := (hO2.block (w.heap.size + 1) (by simp; omega) (fun hm => by have := (HG.out.2.2 _ hm).1; omega)).trans ((HKR.out.alloc _).alloc _)
      have c2' := Bk.cell kr2 2
      have f2' := Bk.frozen kr2 2
      simp only [List.getElem?_toArray, List.getElem?_cons_succ, List.getElem?_cons_zero] at c2'
      clear a2 m0 m1 m2
      go_wp2
      go_roundw
      case rel =>
        refine ⟨k + 1, { p with modes := p.modes ++ [parMd x] }, A2, c2, bs2, by omega, by go_num, hide (by rw [H1.out, ← HP.out]), by simp; omega, ?_, hide ⟨?_, by rw [set_size]; exact hN2.mono (by omega) (Nat.le_refl _)⟩, (((((hFr.trans (Fr.of_below HR.out hsz)).alloc _).alloc _).trans (Fr.of_only hO2 (fun x hx => .inr (HG.out.2.2 x hx).1)))).set 2 _⟩
        · have := Bk.set kr2 2 (.slice A2 (p.modes.length + 1) c2)
          rw [show (p.modes ++ [parMd x]).length = p.modes.length + 1 from by simp]
          exact this
        · exact OwG.keep_ OwMs.keeps hG2 (fun q hq => Below.heap_setCell w2 _ _ q (by have := (hN2.2 q hq).1; show q ≠ w.heap.size + 1; omega))
      case measure => simp [intOf]; omega
    · obtain rfl : k = l.length := by omega
      have HPL := hide (show p = parAc l from by have := HP.out; rwa [List.take_length] at this)
      have d0 := kr.cell 0
      have d1 := kr.cell 1
      have d2 := kr.cell 2
      have k0 : Bk wr w.heap.size 46 #[.string ⟨#[]⟩, .int .i64 0, .slice none 0 0] := (hFr.block w.heap.size (by omega) (by omega) (by omega)).trans HK0.out
      have x0 := k0.cell 0
      have x1 := k0.cell 1
      have x2 := k0.cell 2
      have f0 := k0.frozen 0
      have f1 := k0.frozen 1
      have f2 := k0.frozen 2
      simp only [List.getElem?_toArray, List.getElem?_cons_succ, List.getElem?_cons_zero] at d0 d1 d2 x0 x1 x2
      have HB := hide (B.trans (hFr.below (B := w.heap.size) (by omega) (by omega) (by omega)))
      clear B HP hlt hk hml
      go_wp2
      refine bodyPost_ret (v := .agg #[.string p.name, .int .i64 p.fam, .slice M p.modes.length cm]) ?_ rfl ?_
      · simp [results, Tryz.results59, go_sem, *]
      rw [← HPL.out]
      refine ⟨M, cm, bM, rfl, ⟨M, cm, rfl, ?_⟩, ?_, below_only HB.out (only3 _ w.heap.size _ _ _) (Nat.le_refl _) (by omega)⟩
      · refine OwG.keep_ OwMs.keeps HG.out.1 fun q hq => (only3 wr w.heap.size _ _ _).block q ?_ ?_
        · have := HG.out.2.2 q hq; omega
        · have := HG.out.2.2 q hq; omega
      · refine HG.out.2.mono (by omega) ?_
        rw [set_size, set_size, set_size]
        exact Nat.le_refl _

theorem sp_dead {W : List ByteArray} (p : Pj) (h : gw W 0 = wDead) : stepP p W = { p with dead := valI (gw W 1) } := by unfold stepP; rw [if_pos h]
theorem sp_res {W : List ByteArray} (p : Pj) (h : gw W 0 = wRes) : stepP p W = { p with res := p.res ++ [parRs W] } := by
  obtain ⟨n1, _⟩ := wd_ne2
  unfold stepP; rw [h, if_neg n1, if_pos rfl]
theorem sp_stk {W : List ByteArray} (p : Pj) (h : gw W 0 = wStk) : stepP p W = { p with stocks := p.stocks ++ [valI (gw W 1)] } := by
  obtain ⟨n1, n2, n3, _⟩ := wd_ne2
  unfold stepP; rw [h, if_neg n2, if_neg n3, if_pos rfl]
theorem sp_act {W : List ByteArray} (p : Pj) (h : gw W 0 = wAct) : stepP p W = { p with acts := p.acts ++ [parAc W] } := by
  obtain ⟨n1, n2, n3, n4, n5, n6, _⟩ := wd_ne2
  unfold stepP; rw [h, if_neg n4, if_neg n5, if_neg n6, if_pos rfl]
theorem sp_sta {W : List ByteArray} (p : Pj) (h : gw W 0 = wSta) : stepP p W = { p with links := p.links ++ [⟨actIdx p.acts (gw W 1), actIdx p.acts (gw W 2), false, valI (gw W 3)⟩] } := by
  obtain ⟨n1, n2, n3, n4, n5, n6, n7, n8, n9, n10, n11, n12, n13, n14⟩ := wd_ne2
  unfold stepP parLk; rw [h, if_neg n7, if_neg n8, if_neg n9, if_neg n10, if_pos (.inl rfl)]; rfl
theorem sp_end {W : List ByteArray} (p : Pj) (h : gw W 0 = wEnd) : stepP p W = { p with links := p.links ++ [⟨actIdx p.acts (gw W 1), actIdx p.acts (gw W 2), true, valI (gw W 3)⟩] } := by
  obtain ⟨n1, n2, n3, n4, n5, n6, n7, n8, n9, n10, n11, n12, n13, n14⟩ := wd_ne2
  unfold stepP parLk; rw [h, if_neg n11, if_neg n12, if_neg n13, if_neg n14, if_pos (.inr rfl)]; rfl
theorem sp_no {W : List ByteArray} (p : Pj) (h1 : gw W 0 ≠ wDead) (h2 : gw W 0 ≠ wRes) (h3 : gw W 0 ≠ wStk) (h4 : gw W 0 ≠ wAct) (h5 : gw W 0 ≠ wSta) (h6 : gw W 0 ≠ wEnd) : stepP p W = p := by
  unfold stepP; rw [if_neg h1, if_neg h2, if_neg h3, if_neg h4, if_neg (by rintro (h | h); exact h5 h; exact h6 h)]
theorem st_no {W : List ByteArray} (h5 : gw W 0 ≠ wSta) (h6 : gw W 0 ≠ wEnd) : (!stopB W) = true := by
  unfold stopB; rw [decide_eq_false (by rintro (h | h); exact h5 h; exact h6 h)]; rfl
theorem st_lk {W : List ByteArray} (h : gw W 0 = wSta ∨ gw W 0 = wEnd) : stopB W = decide (W.length < 4) := by
  unfold stopB; rw [decide_eq_true h, Bool.true_and]
theorem gw_app {W : List ByteArray} (k : Nat) : (W ++ [ByteArray.empty]).getD k ByteArray.empty = gw W k := by
  unfold gw
  rw [List.getD_eq_getElem?_getD, List.getD_eq_getElem?_getD]
  by_cases h : k < W.length
  · rw [List.getElem?_append_left h]
  · rw [List.getElem?_append_right (by omega), List.getElem?_eq_none (l := W) (by omega)]
    by_cases h2 : k = W.length
    · subst h2; simp
    · rw [List.getElem?_eq_none (by simp; omega)]
theorem RdS.init {w : World} {lo hi : Nat} {A : Option Addr} {l : List ByteArray} (h : RdS w lo hi A (l ++ [ByteArray.empty])) : RdS w lo hi A l := fun h0 => by
  obtain ⟨b, off, e, h1, h2, hc⟩ := h (by simp)
  refine ⟨b, off, e, h1, h2, fun j hj => ?_⟩
  have := hc j (by simp; omega)
  rwa [show (l ++ [ByteArray.empty]).getD j ByteArray.empty = l.getD j ByteArray.empty from by rw [List.getD_eq_getElem?_getD, List.getD_eq_getElem?_getD, List.getElem?_append_left hj]] at this
theorem PjB.cells {w : World} {g lo : Nat} {p : Pj} {A L R S : Option Addr} {ca cl cr cs : Nat} {b1 b2 b3 b4 : List Nat} (h : PjB w g lo p A L R S ca cl cr cs b1 b2 b3 b4) :
    w.cell? ⟨g, 0, none⟩ = some (.int .i64 p.dead) ∧ w.cell? ⟨g, 1, none⟩ = some (.slice A p.acts.length ca) ∧ w.cell? ⟨g, 2, none⟩ = some (.slice L p.links.length cl) ∧ w.cell? ⟨g, 3, none⟩ = some (.slice R p.res.length cr) ∧ w.cell? ⟨g, 4, none⟩ = some (.slice S p.stocks.length cs) :=
  ⟨h.box.cell 0, h.box.cell 1, h.box.cell 2, h.box.cell 3, h.box.cell 4⟩
theorem parPj_le (s : ByteArray) : szPj (parPj s) ≤ 1000 := by
  by_cases h : parPjB s = true
  · rw [parPj_yes h]
    have := parPjB_spec s
    rw [h] at this
    have h2 := this.symm
    rw [Bool.and_eq_true, Bool.and_eq_true] at h2
    exact parPj_sz h2.2.1
  · rw [parPj_no (by simpa using h)]
    decide
theorem new_low2 {lo m : Nat} {bs bs3 : List Nat} (h : ∀ q ∈ bs, lo ≤ q) (h3 : bs3 = bs ∨ bs3 = [m]) (hm : lo ≤ m) : ∀ q ∈ bs3, lo ≤ q := by
  rcases h3 with rfl | rfl
  · exact h
  · intro q hq; simp at hq; omega
/-- What the last line's region reads. -/
def LkS (g gq : Nat) (p : Pj) (A0 A1 A2 A3 : Option Addr) (ca cl cr cs : Nat) (x0 x1 x2 : ByteArray) (W : World) : Prop :=
  (W.cell? ⟨g, 0, none⟩ = some (.int .i64 p.dead) ∧ W.cell? ⟨g, 1, none⟩ = some (.slice A0 p.acts.length ca) ∧ W.cell? ⟨g, 2, none⟩ = some (.slice A1 p.links.length cl) ∧ W.cell? ⟨g, 3, none⟩ = some (.slice A2 p.res.length cr) ∧ W.cell? ⟨g, 4, none⟩ = some (.slice A3 p.stocks.length cs)) ∧
  W.cell? ⟨gq, 0, none⟩ = some (.string x0) ∧ W.cell? ⟨gq, 1, none⟩ = some (.string x1) ∧ W.cell? ⟨gq, 2, none⟩ = some (.string x2)
theorem LkS.keep {g gq : Nat} {p : Pj} {A0 A1 A2 A3 : Option Addr} {ca cl cr cs : Nat} {x0 x1 x2 : ByteArray} {w W : World} (h : LkS g gq p A0 A1 A2 A3 ca cl cr cs x0 x1 x2 w) (hg : W.heap[g]? = w.heap[g]?) (hq : W.heap[gq]? = w.heap[gq]?) : LkS g gq p A0 A1 A2 A3 ca cl cr cs x0 x1 x2 W := by
  have k1 : ∀ i, W.cell? ⟨g, i, none⟩ = w.cell? ⟨g, i, none⟩ := fun i => World.cell?_of_block (a := ⟨g, i, none⟩) hg
  have k2 : ∀ i, W.cell? ⟨gq, i, none⟩ = w.cell? ⟨gq, i, none⟩ := fun i => World.cell?_of_block (a := ⟨gq, i, none⟩) hq
  unfold LkS
  rw [k1, k1, k1, k1, k1, k2, k2, k2]
  exact h
set_option maxRecDepth 20000 in
set_option maxHeartbeats 12800000 in
theorem specParseProject_any (s : ByteArray) (w : World) (hs : s.size ≤ 1048576) :
    Calls Tryz.prog 11 #[.string s] w fun e w' => ∃ A0 c0 A1 c1 A2 c2 A3 c3, e = .returned (.tuple #[.agg #[.int .i64 (parPj s).dead, .slice A0 (parPj s).acts.length c0, .slice A1 (parPj s).links.length c1, .slice A2 (parPj s).res.length c2, .slice A3 (parPj s).stocks.length c3], .bool (parPjB s)]) ∧ OwV OwP w' w.heap.size w'.heap.size #[.int .i64 (parPj s).dead, .slice A0 (parPj s).acts.length c0, .slice A1 (parPj s).links.length c1, .slice A2 (parPj s).res.length c2, .slice A3 (parPj s).stocks.length c3] (parPj s) ∧ Below w.heap.size w w' := by
  have HPB := hide (parPjB_spec s)
  have HPR := hide (show resP s = resTo (splitLines s) (splitLines s).length from rfl)
  have HSZ := hide (fun k hk => resTo_lines s k hk)
  have HXS := hide (splitLines_size s)
  go_enter Tryz.func11, Tryz.ntmps11
  go_wp2_with fail
  refine at_world fun V0 hW => ?_
  have z0 : V0.heap.size = w.heap.size + 2 := by rw [hW]; simp
  have k0 : Bk V0 w.heap.size 34 zP := by rw [hW]; exact (Bk.made w _ _).alloc _
  have k1 : Bk V0 (w.heap.size + 1) 34 zP := by
    rw [hW]
    have := Bk.made (w.alloc (.cells zP 34)) 34 zP
    rwa [World.size_alloc] at this
  have B : Below w.heap.size w V0 := by rw [hW]; exact below_two _ _ _
  clear hW
  refine (specSplitLines_any s V0 (by omega)).mono ?_
  rintro e V1 ⟨A, c, rfl, oL, r⟩
  have z1 := r.size
  have k0 := k0.below r (by omega)
  have k1 := k1.below r (by omega)
  have B := B.trans (r.mono (by omega))
  have HRD := hide oL.rdS
  have HP0 := hide (show PjG V1 (w.heap.size + 1) V1.heap.size pj0 from ⟨_, _, _, _, _, _, _, _, _, _, _, _, PjB.zero k1 (by omega)⟩)
  have HK0 := hide k0
  clear r oL k0 k1
  rw [HPR.out] at HPB
  have hLL := splitLines_len s
  generalize splitLines s = L at HPB HPR HSZ HXS HRD hLL ⊢
  generalize hg : w.heap.size + 1 = g at HP0 ⊢
  obtain ⟨lo, hlo⟩ : ∃ lo, lo = V1.heap.size := ⟨_, rfl⟩
  rw [← hlo] at HP0
  have hgl : g < lo := by omega
  have hg1 : w.heap.size + 1 ≤ g := by omega
  have hg2 : g ≤ w.heap.size + 1 := by omega
  have hlo1 : V1.heap.size ≤ lo := by omega
  have hlo2 : lo ≤ V1.heap.size := by omega
  clear hg hlo
  go_wp2
  go_loopw [16] (fun i wr => ∃ k : Nat, k ≤ L.length ∧ i = .int .i64 k ∧ Hid (PjG wr g lo (resTo L k)) ∧ Hid ((L.take k).all (fun x => !stopB (words x)) = true) ∧ Fr g lo V1 wr) (fun i _ => L.length - (intOf i).toNat)
  case atStart => exact ⟨0, Nat.zero_le _, rfl, HP0, hide (by simp), Fr.refl _ _ _⟩
  case round =>
    clear HP0
    obtain ⟨k, hk, rfl, HP, HA, hFr⟩ := hrel
    have hsz := hFr.size
    have hBW := B.trans (hFr.below (B := w.heap.size) (by omega) (by omega) (by omega))
    have kk : Bk wr w.heap.size 34 zP := (hFr.block w.heap.size (by omega) (by omega) (by omega)).trans HK0.out
    have hsp := HSZ.out k hk
    by_cases hlt : k < L.length
    · obtain ⟨b, off, rfl, h1, h2, hc⟩ := HRD.out (by omega)
      have q1 := (World.cell?_of_block (a := ⟨b, off + k, none⟩) (hFr.block b (by omega) (by omega) (by omega))).trans (hc k hlt)
      have hxs := HXS.out _ (getD_mem (k := k) ByteArray.empty hlt)
      have HRS := hide (resTo_succ hlt)
      have HY := hide (fun h => all_take_succ (p := fun x => !stopB (words x)) ByteArray.empty hlt HA.out h)
      have HNo := hide (all_no (p := fun x => !stopB (words x)) ByteArray.empty hlt)
      clear hc
      generalize L.getD k ByteArray.empty = x at q1 hxs HRS HY HNo
      have hWS := splitAny_size x space
      have hWN := splitAny_ne x space
      have hWL := wz_len (splitAny x space)
      have hWZ := wz_split x 32
      have hsz1 := show szPj (resTo L k) = szL szAc (resTo L k).acts + ((resTo L k).links.length + (szL szRs (resTo L k).res + (resTo L k).stocks.length)) from rfl
      have hla := szL_len szAc (resTo L k).acts
      have hlr := szL_len szRs (resTo L k).res
      go_wp2_with fail
      refine (specSplitAny_any x ⟨#[32]⟩ wr (by omega) (by decide)).mono ?_
      rintro e w0 ⟨P, cp, rfl, oP, hB1⟩
      have HWD := hide (show words x = splitAny x ⟨#[32]⟩ from rfl)
      change ∀ y ∈ splitAny x ⟨#[32]⟩, _ at hWS
      change splitAny x ⟨#[32]⟩ ≠ [] at hWN
      change (splitAny x ⟨#[32]⟩).length ≤ wz (splitAny x ⟨#[32]⟩) at hWL
      change wz (splitAny x ⟨#[32]⟩) = _ at hWZ
      have hZ0 : 0 < (splitAny x ⟨#[32]⟩).length := List.length_pos_iff.2 hWN
      have hZ1 : (splitAny x ⟨#[32]⟩).length ≤ 1048577 := by omega
      obtain ⟨bp, hP0, hPn⟩ := RowB.of oP
      clear oP hWN hWL hWZ
      have hZS : ∀ y ∈ splitAny x ⟨#[32]⟩, y.size ≤ 1048576 := fun y hy => by have := hWS y hy; omega
      clear hWS
      generalize splitAny x ⟨#[32]⟩ = Z at HWD hP0 hZ0 hZ1 hZS ⊢
      rw [HWD.out] at HRS HY HNo
      clear HWD q1
      have HLP := hide (fun q (hq : q ∈ bp) => hP0.lt q hq)
      go_wp2_with (at_builtin; go_must (refine wpList_pushB _ (.tmp 21) (.tmp 22) 67 9 _ 1 16 Tryz.underlying67 Tryz.infoStr rfl (by omega) P Z.length cp _ bp (hP0.allocd HLP.out _) w0.heap.size 0 1 1 [.string ⟨#[]⟩] (by omega) rfl (one_new _ _ _) (one_cell rfl) (by omega) (by omega) ?_ rfl rfl rfl rfl))
      intro P' cq bq w2 hP' hbq hNq
      have hB2 : Below wr.heap.size wr w2 := OnlyIn.belowB (hB1.alloc hB1.size _) hNq (fun q hq => (hPn.2 q hq).1) (by have := hB1.size; simp; omega)
      have hbqlo : ∀ q ∈ bq, wr.heap.size ≤ q := new_low2 (fun q hq => (hPn.2 q hq).1) hbq (by have := hB1.size; simp; omega)
      have hPq : RowB w2 9 1 P' (Z ++ [ByteArray.empty]).length cq ((Z ++ [ByteArray.empty]).map .string) bq := hP'.eqn (by simp) (by rw [List.map_append]; rfl)
      have hcq := (hPq.own (lo := 0) (hi := w2.heap.size) (fun q hq => ⟨Nat.zero_le _, hPq.lt q hq⟩))
      have hcq2 := own_cap hcq
      have hRQ := hcq.rdS
      clear hP' hbq hNq hP0 hPn HLP hB1 hcq
      obtain ⟨gq, rfl, rfl⟩ := hPq.at_ (by simp)
      have hgq := hPq.lt gq (by simp)
      have hgq0 := hbqlo gq (by simp)
      clear hbqlo
      have hQC : ∀ j, j < Z.length + 1 → w2.cell? ⟨gq, j, none⟩ = some (.string (gw Z j)) := fun j hj => by
        rw [hPq.cellAt j (by simp; omega), ← gw_app, getD_get _ (by simp; omega), List.getElem?_map, List.getElem?_eq_getElem (by simp; omega)]; rfl
      have hlq : (Z ++ [ByteArray.empty]).length = Z.length + 1 := by simp
      rw [hlq] at hcq2
      clear hPq hlq
      obtain ⟨A0, A1, A2, A3, ca, cl, cr, cs, b1, b2, b3, b4, hP⟩ := HP.out
      have HB2L := hide (show ∀ x ∈ b2, x < wr.heap.size from fun x hm => (hP.nd.2 x (by simp [hm])).2)
      have hP2 := hP.below hB2 (Nat.le_refl _)
      have hF2 := hFr.trans (Fr.of_below hB2 (by omega))
      clear HP hP hFr
      generalize resTo L k = p at hP2 HRS hsp hsz1 hla hlr
      have y1s : (gw Z 1).size ≤ 1048576 := by
        by_cases h : 1 < Z.length
        · exact hZS _ (getD_mem ByteArray.empty h)
        · unfold gw; rw [List.getD_eq_getElem?_getD, List.getElem?_eq_none (by omega)]; simp
      have e1 := hQC 1 (by omega)
      have HQC := hide hQC
      have HZS := hide hZS
      clear hQC hZS
      have HG1 := hide (rfl : gw Z 1 = gw Z 1)
      go_wp2_with fail
      refine (specParseInt_any (gw Z 1) w2 (by omega)).mono ?_
      rintro e w3 ⟨rfl, r⟩
      have z3 := r.size
      have z2 := hB2.size
      have hP3 := hP2.below r (Nat.le_refl _)
      have HF := hide (hF2.trans (Fr.of_below r (by omega)))
      have HRQ := hide (hRQ.below r (Nat.le_refl _))
      have HQC := hide (fun j (hj : j < Z.length + 1) => (r.cell (p := ⟨gq, j, none⟩) hgq).trans (HQC.out j hj))
      have e0 := HQC.out 0 (by omega)
      have hB3 := hB2.trans (r.mono (by omega))
      have HB3 := hide hB3
      clear e1 r hP2 hRQ hF2 HG1 hB2 hB3
      have HG0 := hide (rfl : gw Z 0 = gw Z 0)
      have HV := hide (okI_bd (gw Z 1))
      have HVN := hide (rfl : valI (gw Z 1) = valI (gw Z 1))
      generalize hy0 : gw Z 0 = y0 at e0
      have HY0 := hide hy0
      clear hy0 HG0 HVN
      have hp0 : 0 < Z.length + 1 := by omega
      have hpl := hP3.lt
      by_cases e1 : y0 = wDead
      · obtain rfl : y0 = (⟨#[100, 101, 97, 100, 108, 105, 110, 101]⟩ : ByteArray) := e1
        have d0 := hP3.box.cell 0
        have f0 := hP3.box.frozen 0
        simp only [List.getElem?_toArray, List.getElem?_cons_succ, List.getElem?_cons_zero] at d0
        go_wp2
        go_roundw
        case rel => exact ⟨k + 1, by omega, by go_num, hide (by rw [HRS.out, sp_dead p HY0.out]; exact ⟨_, _, _, _, _, _, _, _, _, _, _, _, hP3.setDead _⟩), hide (HY.out (st_no (by rw [HY0.out]; decide) (by rw [HY0.out]; decide))), HF.out.set 0 _⟩
        case measure => simp [intOf]; omega
      by_cases e2 : y0 = wRes
      · obtain rfl : y0 = (⟨#[114, 101, 115, 111, 117, 114, 99, 101]⟩ : ByteArray) := e2
        have d0 := hP3.box.cell 3
        have hgn : g ∉ b3 := fun hm => by have := (hP3.nd.2 g (by simp [hm])).1; omega
        have HGN := hide hgn
        have HN3 := hide (show ∀ x ∈ b3, lo ≤ x from fun x hm => (hP3.nd.2 x (by simp [hm])).1)
        simp only [List.getElem?_toArray, List.getElem?_cons_succ, List.getElem?_cons_zero] at d0
        have hw0 : IntKind.i64.wrap (Z.length : Int) = (Z.length : Int) := IntWalk.i64_in _ (by omega)
        have hw1 : (Z.length : Int) ≤ (cq : Int) := by omega
        have hw2 : (0 : Int) ≤ (Z.length : Int) := by omega
        have HRI := hide (RdS.init HRQ.out)
        have hln : p.res.length ≤ 16777216 := by omega
        clear hgn
        go_wp2_with fail
        go_region_law (first | (go_simp; go_at_call 58; refine (l06Res_any _ Z _ 0 w2.heap.size _ (by omega) HZS.out (HRI.out.below (below_quiet (Below.refl w3.heap.size w3) 1) (by omega)) (by show _ ≤ w3.heap.size; omega)).mono ?_; rintro e w4 ⟨S', cs', T', ct', bz, rfl, hOR, hNR, rb⟩; have bW := (below_quiet (Below.refl w3.heap.size w3) 1).trans rb; have hP4 := hP3.below bW (Nat.le_refl _); have d0 := hP4.box.cell 3; have ad := fun o => (hP4.alloc o).box.cell 3; simp only [List.getElem?_toArray, List.getElem?_cons_succ, List.getElem?_cons_zero] at d0 ad; have hgl4 := hP4.lt; have z4 := bW.size; have HRY := hide (fun W hW => el_ready (W := W) OwRs.keeps hP3.res (nd_app (nd_app (nd_app hP3.nd).2.1).2.1).1 bW hOR hNR (by omega) hW); have HNR := hide hNR; have HBW := hide (fun o => bW.alloc bW.size o); have HBX := hide (fun o => (hP4.alloc o).box); have hAS := fun o => (Below.refl w4.heap.size w4).alloc (Nat.le_refl _) o; have HAS := hide hAS; clear hOR hNR hP4 hAS) | (refine step_pushN OwRs.keeps (by rfl) (.tmp 41) (.tmp 48) 32 (by rfl) 71 _ 2 48 Tryz.underlying32 Tryz.infoRs rfl (by omega) A2 p.res.length cr p.res b3 lo rfl (by rfl) (parRs Z) #[.slice S' (parRs Z).steps.length cs', .slice T' (parRs Z).setup.length ct'] bz (HRY.out _ (HAS.out _)) rfl _ 0 1 (by rfl) (two_new _ _ _ _) (two_cell rfl rfl) (by omega) (by omega) (by have := (HBW.out (.cells #[] 71)).size; simp at this ⊢; omega) ?_; intro A4 c4 bs4 w5 hG5 hN5 hb5 hO5; have kb5 := (hO5.block g (by simp; omega) HGN.out).trans (HBX.out _); have d0 := Bk.cell kb5 3; have f0 := Bk.frozen kb5 3; simp only [List.getElem?_toArray, List.getElem?_cons_succ, List.getElem?_cons_zero] at d0; have HG5 := hide hG5; have HN5 := hide hN5; have HB5 := hide hb5; have HO5 := hide hO5; clear hG5 hN5 hb5 hO5))
        all_goals go_wp2
        all_goals go_roundw
        all_goals first
          | (simp [intOf]; omega; done)
          | exact ⟨k + 1, by omega, by go_num, hide (by rw [HRS.out, sp_res p HY0.out]; exact ⟨_, _, _, _, _, _, _, _, _, _, _, _, PjB.setRes hP3 (only_below2 (HBW.out _) HO5.out) HG5.out HN5.out (new_blocks HNR.out (HBW.out _).size HB5.out)⟩), hide (HY.out (st_no (by rw [HY0.out]; decide) (by rw [HY0.out]; decide))), (((HF.out.trans (Fr.of_below bW (by omega))).alloc _).trans (Fr.of_only HO5.out (fun x hm => .inr (HN3.out x hm)))).set 3 _⟩
      by_cases e3 : y0 = wStk
      · obtain rfl : y0 = (⟨#[115, 116, 111, 99, 107]⟩ : ByteArray) := e3
        have d0 := hP3.box.cell 4
        simp only [List.getElem?_toArray, List.getElem?_cons_succ, List.getElem?_cons_zero] at d0
        have HP3 := hide (fun o => hP3.alloc o)
        have had := fun o => (hP3.alloc o).box.cell 4
        simp only [List.getElem?_toArray, List.getElem?_cons_succ, List.getElem?_cons_zero] at had
        clear hP3
        go_wp2_with (at_builtin; go_must (refine wpList_pushB _ (.tmp 54) (.tmp 56) 25 3 _ 1 8 Tryz.underlying25 Tryz.infoInt rfl (by omega) A3 p.stocks.length cs _ b4 (HP3.out _).stocks w3.heap.size 0 1 1 [.int .i64 (valI (gw Z 1))] (by omega) rfl (one_new _ _ _) (one_cell rfl) (by omega) (by omega) ?_ rfl rfl rfl rfl))
        intro A4 c4 bs4 w5 hR5 hb5 hO5
        have hg4 : g ∉ b4 := fun hm => by have := ((HP3.out (.cells #[] 3)).nd.2 g (by simp [hm])).1; omega
        have kb5 := (hO5.block g (by simp; omega) hg4).trans (HP3.out _).box
        have d4 := Bk.cell kb5 4
        have f4 := Bk.frozen kb5 4
        simp only [List.getElem?_toArray, List.getElem?_cons_succ, List.getElem?_cons_zero] at d4
        have HO5 := hide hO5
        have HR5 := hide hR5
        have HB5 := hide hb5
        have hb4 : ∀ x ∈ b4, lo ≤ x := fun x hm => ((HP3.out (.cells #[] 3)).nd.2 x (by simp [hm])).1
        have HB4 := hide hb4
        clear d0 hR5 hO5 hb5 hb4
        go_wp2
        go_roundw
        case rel => exact ⟨k + 1, by omega, by go_num, hide (by rw [HRS.out, sp_stk p HY0.out]; exact ⟨_, _, _, _, _, _, _, _, _, _, _, _, PjB.setStocks (HP3.out _) HO5.out HR5.out (by first | exact HB5.out | (have := HB5.out; simpa using this)) (by simp; omega)⟩), hide (HY.out (st_no (by rw [HY0.out]; decide) (by rw [HY0.out]; decide))), ((HF.out.alloc _).trans (Fr.of_only HO5.out (fun x hm => .inr (HB4.out x hm)))).set 4 _⟩
        case measure => simp [intOf]; omega
      by_cases e4 : y0 = wAct
      · obtain rfl : y0 = (⟨#[97, 99, 116, 105, 118, 105, 116, 121]⟩ : ByteArray) := e4
        have d0 := hP3.box.cell 1
        have hgn : g ∉ b1 := fun hm => by have := (hP3.nd.2 g (by simp [hm])).1; omega
        have HGN := hide hgn
        have HN3 := hide (show ∀ x ∈ b1, lo ≤ x from fun x hm => (hP3.nd.2 x (by simp [hm])).1)
        simp only [List.getElem?_toArray, List.getElem?_cons_succ, List.getElem?_cons_zero] at d0
        have hw0 : IntKind.i64.wrap (Z.length : Int) = (Z.length : Int) := IntWalk.i64_in _ (by omega)
        have hw1 : (Z.length : Int) ≤ (cq : Int) := by omega
        have hw2 : (0 : Int) ≤ (Z.length : Int) := by omega
        have HRI := hide (RdS.init HRQ.out)
        have hln : p.acts.length ≤ 16777216 := by omega
        clear hgn
        go_wp2_with fail
        go_region_law (first | (go_simp; go_at_call 59; refine (l06Act_any _ Z _ 0 w2.heap.size _ (by omega) HZS.out (HRI.out.below (below_quiet (Below.refl w3.heap.size w3) 1) (by omega)) (by show _ ≤ w3.heap.size; omega)).mono ?_; rintro e w4 ⟨S', cs', bz, rfl, hOR, hNR, rb⟩; have bW := (below_quiet (Below.refl w3.heap.size w3) 1).trans rb; have hP4 := hP3.below bW (Nat.le_refl _); have d0 := hP4.box.cell 1; have ad := fun o => (hP4.alloc o).box.cell 1; simp only [List.getElem?_toArray, List.getElem?_cons_succ, List.getElem?_cons_zero] at d0 ad; have hgl4 := hP4.lt; have z4 := bW.size; have HRY := hide (fun W hW => el_ready (W := W) OwAs.keeps hP3.acts (nd_app hP3.nd).1 bW hOR hNR (by omega) hW); have HNR := hide hNR; have HBW := hide (fun o => bW.alloc bW.size o); have HBX := hide (fun o => (hP4.alloc o).box); have hAS := fun o => (Below.refl w4.heap.size w4).alloc (Nat.le_refl _) o; have HAS := hide hAS; clear hOR hNR hP4 hAS) | (refine step_pushN OwAs.keeps (by rfl) (.tmp 62) (.tmp 69) 30 (by rfl) 46 _ 3 48 Tryz.underlying30 Tryz.infoAc rfl (by omega) A0 p.acts.length ca p.acts b1 lo rfl (by rfl) (parAc Z) #[.string (parAc Z).name, .int .i64 (parAc Z).fam, .slice S' (parAc Z).modes.length cs'] bz (HRY.out _ (HAS.out _)) rfl _ 0 1 (by rfl) (three_new _ _ _ _ _) (three_cell rfl rfl rfl) (by omega) (by omega) (by have := (HBW.out (.cells #[] 46)).size; simp at this ⊢; omega) ?_; intro A4 c4 bs4 w5 hG5 hN5 hb5 hO5; have kb5 := (hO5.block g (by simp; omega) HGN.out).trans (HBX.out _); have d0 := Bk.cell kb5 1; have f0 := Bk.frozen kb5 1; simp only [List.getElem?_toArray, List.getElem?_cons_succ, List.getElem?_cons_zero] at d0; have HG5 := hide hG5; have HN5 := hide hN5; have HB5 := hide hb5; have HO5 := hide hO5; clear hG5 hN5 hb5 hO5))
        all_goals go_wp2
        all_goals go_roundw
        all_goals first
          | (simp [intOf]; omega; done)
          | exact ⟨k + 1, by omega, by go_num, hide (by rw [HRS.out, sp_act p HY0.out]; exact ⟨_, _, _, _, _, _, _, _, _, _, _, _, PjB.setActs hP3 (only_below2 (HBW.out _) HO5.out) HG5.out HN5.out (new_blocks HNR.out (HBW.out _).size HB5.out)⟩), hide (HY.out (st_no (by rw [HY0.out]; decide) (by rw [HY0.out]; decide))), (((HF.out.trans (Fr.of_below bW (by omega))).alloc _).trans (Fr.of_only HO5.out (fun x hm => .inr (HN3.out x hm)))).set 1 _⟩
      by_cases e5 : y0 = wSta
      · obtain rfl : y0 = (⟨#[115, 116, 97, 114, 116]⟩ : ByteArray) := e5
        by_cases h4 : Z.length < 4
        · have HF2 := hide (show parPjB s = false from by rw [HPB.out, show L.all _ = false from by simpa using HNo.out (by rw [st_lk (.inl HY0.out), decide_eq_true h4]; rfl)]; rfl)
          have HPF := hide (parPj_no HF2.out)
          have hl5 : (Z.length : Int) + 1 < 5 := by omega
          have BB := hBW.trans (HB3.out.mono (by omega))
          have kk := kk.below HB3.out (by omega)
          have x0 := kk.cell 0
          have x1 := kk.cell 1
          have x2 := kk.cell 2
          have x3 := kk.cell 3
          have x4 := kk.cell 4
          have f0 := kk.frozen 0
          have f1 := kk.frozen 1
          have f2 := kk.frozen 2
          have f3 := kk.frozen 3
          have f4 := kk.frozen 4
          simp only [List.getElem?_toArray, List.getElem?_cons_succ, List.getElem?_cons_zero] at x0 x1 x2 x3 x4
          have HB := hide BB
          have hkl := kk.lt
          clear kk BB hP3
          go_wp2
          refine bodyPost_ret (v := .tuple #[.agg #[.int .i64 0, .slice none 0 0, .slice none 0 0, .slice none 0 0, .slice none 0 0], .bool false]) ?_ rfl ⟨none, 0, none, 0, none, 0, none, 0, ?_, ?_, ?_⟩
          · simp [results, Tryz.results11, go_sem, *]
          · rw [HF2.out, HPF.out]; rfl
          · rw [HPF.out]; exact OwP.zero _ _ _
          · exact below_only HB.out (only5 w3 w.heap.size _ _ _ _ _) (Nat.le_refl _) (by omega)
        · have hl5 : ¬ (Z.length : Int) + 1 < 5 := by omega
          have i3 := HQC.out 3 (by omega)
          have y3s : (gw Z 3).size ≤ 1048576 := HZS.out _ (getD_mem (k := 3) ByteArray.empty (by omega))
          have hp3 : 3 < Z.length + 1 := by omega
          have hp1 : 1 < Z.length + 1 := by omega
          have hp2 : 2 < Z.length + 1 := by omega
          have hp1i : (1 : Int) < (Z.length : Int) + 1 := by omega
          have hp2i : (2 : Int) < (Z.length : Int) + 1 := by omega
          have hp0i : (0 : Int) < (Z.length : Int) + 1 := by omega
          have HNS := hide (show (!stopB Z) = true from by rw [st_lk (.inl HY0.out), decide_eq_false h4]; rfl)
          clear h4
          go_wp2_with fail
          refine (specParseInt_any (gw Z 3) w3 (by omega)).mono ?_
          rintro e w4 ⟨rfl, r⟩
          have z4 := r.size
          have hP4 := hP3.below r (Nat.le_refl _)
          have HF4 := hide (HF.out.trans (Fr.of_below r (by omega)))
          have e0 := (r.cell (p := ⟨gq, 0, none⟩) (by show gq < _; omega)).trans e0
          have i1 := (r.cell (p := ⟨gq, 1, none⟩) (by show gq < _; omega)).trans (HQC.out 1 (by omega))
          have i2 := (r.cell (p := ⟨gq, 2, none⟩) (by show gq < _; omega)).trans (HQC.out 2 (by omega))
          clear r i3 hP3
          have hgn : g ∉ b2 := fun hm => by have := (hP4.nd.2 g (by simp [hm])).1; omega
          have hgqn : gq ∉ b2 := fun hm => by have := HB2L.out gq hm; omega
          have HGN := hide hgn
          have HGQ := hide hgqn
          have HN3 := hide (show ∀ x ∈ b2, lo ≤ x from fun x hm => (hP4.nd.2 x (by simp [hm])).1)
          have HRY := hide (fun W (hW : Below w4.heap.size w4 W) => lk_ready hP4 hW ⟨actIdx p.acts (gw Z 1), actIdx p.acts (gw Z 2), false, valI (gw Z 3)⟩)
          have HAI := hide (fun (nm : ByteArray) (W : World) (hW : Below w4.heap.size w4 W) => specActivityIndex_any p nm A0 A1 A2 A3 ca cl cr cs lo w4.heap.size W (by omega) (hP4.rdA.below hW (Nat.le_refl _)) hW.size)
          have HPW := hide (fun W (hW : Below w4.heap.size w4 W) => hP4.below hW (Nat.le_refl _))
          have hS4 : LkS g gq p A0 A1 A2 A3 ca cl cr cs (⟨#[115, 116, 97, 114, 116]⟩ : ByteArray) (gw Z 1) (gw Z 2) w4 := ⟨hP4.cells, e0, i1, i2⟩
          have HSB := hide (fun W (hW : Below w4.heap.size w4 W) => hS4.keep (hW.block g (by have := hP4.lt; omega)) (hW.block gq (by omega)))
          have hSd : LkS g gq p A0 A1 A2 A3 ca cl cr cs (⟨#[115, 116, 97, 114, 116]⟩ : ByteArray) (gw Z 1) (gw Z 2) w4.drew := hS4
          have HP4 := hide hP4
          have hll : p.links.length ≤ 16777216 := by omega
          clear hgn hgqn hP4 y3s e0 i1 i2 hS4
          go_wp2_with fail
          refine region_to (LkS g gq p A0 A1 A2 A3 ca cl cr cs (⟨#[115, 116, 97, 114, 116]⟩ : ByteArray) (gw Z 1) (gw Z 2)) 21 (by kernel_rfl) ?_
          refine AnyTo.take (i := 0) (v := ?_) rfl (by kernel_rfl) (by kernel_rfl) (by kernel_rfl) (by kernel_rfl) (fun _ _ _ h => h) (Or.inl ⟨by rfl, ?_⟩) hSd ?_
          rotate_left
          · intro W hS
            obtain ⟨⟨l0, l1, l2, l3, l4⟩, l5, l6, l7⟩ := hS
            go_simp
            try with_reducible rfl
          try simp only [Act.put, List.setIfInBounds_toArray, List.set_cons_zero, List.set_cons_succ]
          refine AnyTo.take (i := 1) (v := ?_) rfl (by kernel_rfl) (by kernel_rfl) (by kernel_rfl) (by kernel_rfl) (fun _ _ _ h => h) (Or.inl ⟨by rfl, ?_⟩) hSd ?_
          rotate_left
          · intro W hS
            obtain ⟨⟨l0, l1, l2, l3, l4⟩, l5, l6, l7⟩ := hS
            go_simp
            try with_reducible rfl
          try simp only [Act.put, List.setIfInBounds_toArray, List.set_cons_zero, List.set_cons_succ]
          refine AnyTo.take (i := 2) (v := ?_) rfl (by kernel_rfl) (by kernel_rfl) (by kernel_rfl) (by kernel_rfl) (fun _ _ _ h => h) (Or.inl ⟨by rfl, ?_⟩) hSd ?_
          rotate_left
          · intro W hS
            obtain ⟨⟨l0, l1, l2, l3, l4⟩, l5, l6, l7⟩ := hS
            go_simp
            try with_reducible rfl
          try simp only [Act.put, List.setIfInBounds_toArray, List.set_cons_zero, List.set_cons_succ]
          refine AnyTo.take (i := 3) (v := ?_) rfl (by kernel_rfl) (by kernel_rfl) (by kernel_rfl) (by kernel_rfl) (fun _ _ _ h => h) (Or.inl ⟨by rfl, ?_⟩) hSd ?_
          rotate_left
          · intro W hS
            obtain ⟨⟨l0, l1, l2, l3, l4⟩, l5, l6, l7⟩ := hS
            go_simp
            try with_reducible rfl
          try simp only [Act.put, List.setIfInBounds_toArray, List.set_cons_zero, List.set_cons_succ]
          refine AnyTo.take (i := 4) (v := ?_) rfl (by kernel_rfl) (by kernel_rfl) (by kernel_rfl) (by kernel_rfl) (fun _ _ _ h => h) (Or.inl ⟨by rfl, ?_⟩) hSd ?_
          rotate_left
          · intro W hS
            obtain ⟨⟨l0, l1, l2, l3, l4⟩, l5, l6, l7⟩ := hS
            go_simp
            try with_reducible rfl
          try simp only [Act.put, List.setIfInBounds_toArray, List.set_cons_zero, List.set_cons_succ]
          refine AnyTo.take (i := 5) (v := ?_) rfl (by kernel_rfl) (by kernel_rfl) (by kernel_rfl) (by kernel_rfl) (fun _ _ _ h => h) (Or.inl ⟨by rfl, ?_⟩) hSd ?_
          rotate_left
          · intro W hS
            obtain ⟨⟨l0, l1, l2, l3, l4⟩, l5, l6, l7⟩ := hS
            go_simp
            try with_reducible rfl
          try simp only [Act.put, List.setIfInBounds_toArray, List.set_cons_zero, List.set_cons_succ]
          refine AnyTo.take (i := 7) (v := ?_) rfl (by kernel_rfl) (by kernel_rfl) (by kernel_rfl) (by kernel_rfl) (fun _ _ _ h => h) (Or.inl ⟨by rfl, ?_⟩) hSd ?_
          rotate_left
          · intro W hS
            obtain ⟨⟨l0, l1, l2, l3, l4⟩, l5, l6, l7⟩ := hS
            go_simp
            try with_reducible rfl
          try simp only [Act.put, List.setIfInBounds_toArray, List.set_cons_zero, List.set_cons_succ]
          refine AnyTo.take (i := 8) (v := ?_) rfl (by kernel_rfl) (by kernel_rfl) (by kernel_rfl) (by kernel_rfl) (fun _ _ _ h => h) (Or.inl ⟨by rfl, ?_⟩) hSd ?_
          rotate_left
          · intro W hS
            obtain ⟨⟨l0, l1, l2, l3, l4⟩, l5, l6, l7⟩ := hS
            go_simp
            try with_reducible rfl
          try simp only [Act.put, List.setIfInBounds_toArray, List.set_cons_zero, List.set_cons_succ]
          refine AnyTo.take (i := 9) (v := ?_) rfl (by kernel_rfl) (by kernel_rfl) (by kernel_rfl) (by kernel_rfl) (fun _ _ _ h => h) (Or.inl ⟨by rfl, ?_⟩) hSd ?_
          rotate_left
          · intro W hS
            obtain ⟨⟨l0, l1, l2, l3, l4⟩, l5, l6, l7⟩ := hS
            go_simp
            try with_reducible rfl
          try simp only [Act.put, List.setIfInBounds_toArray, List.set_cons_zero, List.set_cons_succ]
          refine AnyTo.take (i := 10) (v := ?_) rfl (by kernel_rfl) (by kernel_rfl) (by kernel_rfl) (by kernel_rfl) (fun _ _ _ h => h) (Or.inl ⟨by rfl, ?_⟩) hSd ?_
          rotate_left
          · intro W hS
            obtain ⟨⟨l0, l1, l2, l3, l4⟩, l5, l6, l7⟩ := hS
            go_simp
            try with_reducible rfl
          try simp only [Act.put, List.setIfInBounds_toArray, List.set_cons_zero, List.set_cons_succ]
          refine AnyTo.take (i := 12) (v := ?_) rfl (by kernel_rfl) (by kernel_rfl) (by kernel_rfl) (by kernel_rfl) (fun _ _ _ h => h) (Or.inl ⟨by rfl, ?_⟩) hSd ?_
          rotate_left
          · intro W hS
            obtain ⟨⟨l0, l1, l2, l3, l4⟩, l5, l6, l7⟩ := hS
            go_simp
            try with_reducible rfl
          try simp only [Act.put, List.setIfInBounds_toArray, List.set_cons_zero, List.set_cons_succ]
          refine AnyTo.take (i := 13) (v := ?_) rfl (by kernel_rfl) (by kernel_rfl) (by kernel_rfl) (by kernel_rfl) (fun _ _ _ h => h) (Or.inl ⟨by rfl, ?_⟩) hSd ?_
          rotate_left
          · intro W hS
            obtain ⟨⟨l0, l1, l2, l3, l4⟩, l5, l6, l7⟩ := hS
            go_simp
            try with_reducible rfl
          try simp only [Act.put, List.setIfInBounds_toArray, List.set_cons_zero, List.set_cons_succ]
          refine AnyTo.take (i := 14) (v := ?_) rfl (by kernel_rfl) (by kernel_rfl) (by kernel_rfl) (by kernel_rfl) (fun _ _ _ h => h) (Or.inl ⟨by rfl, ?_⟩) hSd ?_
          rotate_left
          · intro W hS
            obtain ⟨⟨l0, l1, l2, l3, l4⟩, l5, l6, l7⟩ := hS
            go_simp
            try with_reducible rfl
          try simp only [Act.put, List.setIfInBounds_toArray, List.set_cons_zero, List.set_cons_succ]
          refine AnyTo.take (i := 15) (v := ?_) rfl (by kernel_rfl) (by kernel_rfl) (by kernel_rfl) (by kernel_rfl) (fun _ _ _ h => h) (Or.inl ⟨by rfl, ?_⟩) hSd ?_
          rotate_left
          · intro W hS
            obtain ⟨⟨l0, l1, l2, l3, l4⟩, l5, l6, l7⟩ := hS
            go_simp
            try with_reducible rfl
          try simp only [Act.put, List.setIfInBounds_toArray, List.set_cons_zero, List.set_cons_succ]
          refine AnyTo.take (i := 16) (v := ?_) rfl (by kernel_rfl) (by kernel_rfl) (by kernel_rfl) (by kernel_rfl) (fun _ _ _ h => h) (Or.inl ⟨by rfl, ?_⟩) hSd ?_
          rotate_left
          · intro W hS
            obtain ⟨⟨l0, l1, l2, l3, l4⟩, l5, l6, l7⟩ := hS
            go_simp
            try with_reducible rfl
          try simp only [Act.put, List.setIfInBounds_toArray, List.set_cons_zero, List.set_cons_succ]
          refine AnyTo.step (i := 6) (by kernel_rfl) rfl (fun K hK => ?_)
          go_simp
          go_at_call 60
          refine (HAI.out _ _ (below_quiet (Below.refl _ _) 1)).mono ?_
          rintro e w5 ⟨rfl, r5⟩
          have hb5 : Below w4.heap.size w4 w5 := (below_quiet (Below.refl w4.heap.size w4) 1).trans r5
          have hS5 := HSB.out _ hb5
          refine hK.out _ _ (fun _ => hS5) (fun _ => ?_)
          clear hK K
          try simp only [Act.put, List.setIfInBounds_toArray, List.set_cons_zero, List.set_cons_succ]
          refine AnyTo.step (i := 11) (by kernel_rfl) rfl (fun K hK => ?_)
          go_simp
          go_at_call 60
          refine (HAI.out _ _ hb5).mono ?_
          rintro e w6 ⟨rfl, r6⟩
          have hb6 : Below w4.heap.size w4 w6 := hb5.trans (r6.mono hb5.size)
          have hS6 := HSB.out _ hb6
          refine hK.out _ _ (fun _ => hS6) (fun _ => ?_)
          clear hK K
          try simp only [Act.put, List.setIfInBounds_toArray, List.set_cons_zero, List.set_cons_succ]
          refine AnyTo.take (i := 17) (v := ?_) rfl (by kernel_rfl) (by kernel_rfl) (by kernel_rfl) (by kernel_rfl) (fun _ _ _ h => h) (Or.inl ⟨by rfl, ?_⟩) hS6 ?_
          rotate_left
          · intro W hS
            obtain ⟨⟨l0, l1, l2, l3, l4⟩, l5, l6, l7⟩ := hS
            go_simp
            try with_reducible rfl
          try simp only [Act.put, List.setIfInBounds_toArray, List.set_cons_zero, List.set_cons_succ]
          refine AnyTo.step (i := 18) (by kernel_rfl) rfl (fun K hK => ?_)
          go_simp
          refine hK.out _ _ (fun _ => HSB.out _ (hb6.alloc hb6.size _)) (fun _ => ?_)
          clear hK K
          try simp only [Act.put, List.setIfInBounds_toArray, List.set_cons_zero, List.set_cons_succ]
          refine AnyTo.step (i := 19) (by kernel_rfl) rfl (fun K hK => ?_)
          refine step_pushN OwLs.keeps (by rfl) (.tmp 87) (.tmp 104) 31 (by rfl) 75 _ 4 32 Tryz.underlying31 Tryz.infoLk rfl (by omega) A1 p.links.length cl p.links b2 lo rfl (by rfl) ⟨actIdx p.acts (gw Z 1), actIdx p.acts (gw Z 2), false, valI (gw Z 3)⟩ #[.int .i64 (actIdx p.acts (gw Z 1)), .int .i64 (actIdx p.acts (gw Z 2)), .bool false, .int .i64 (valI (gw Z 3))] [] (HRY.out _ (hb6.alloc hb6.size _)) rfl w6.heap.size 0 1 (by rfl) (four_new _ _ _ _ _ _) (four_cell rfl rfl rfl rfl) (by omega) (by omega) (by have := hb6.size; simp; omega) ?_
          intro A7 c7 bs7 w7 hG7 hN7 hb7 hO7
          have hgw7 : g < w6.heap.size ∧ gq < w6.heap.size := by have := hb6.size; omega
          have hS7 : LkS g gq p A0 A1 A2 A3 ca cl cr cs (⟨#[115, 116, 97, 114, 116]⟩ : ByteArray) (gw Z 1) (gw Z 2) w7 := hS6.keep ((hO7.block g (by simp; omega) HGN.out).trans (Below.heap_alloc w6 _ g hgw7.1)) ((hO7.block gq (by simp; omega) HGQ.out).trans (Below.heap_alloc w6 _ gq hgw7.2))
          refine hK.out _ _ (fun _ => hS7) (fun _ => ?_)
          clear hK K
          try simp only [Act.put, List.setIfInBounds_toArray, List.set_cons_zero, List.set_cons_succ]
          refine AnyTo.take (i := 20) (v := ?_) rfl (by kernel_rfl) (by kernel_rfl) (by kernel_rfl) (by kernel_rfl) (fun _ _ _ h => h) (Or.inl ⟨by rfl, ?_⟩) hS7 ?_
          rotate_left
          · intro W hS
            obtain ⟨⟨l0, l1, l2, l3, l4⟩, l5, l6, l7⟩ := hS
            go_simp
            try with_reducible rfl
          try simp only [Act.put, List.setIfInBounds_toArray, List.set_cons_zero, List.set_cons_succ]
          have kb7 := (hO7.block g (by simp; omega) HGN.out).trans ((HPW.out _ hb6).alloc _).box
          have d0 := Bk.cell kb7 2
          have f0 := Bk.frozen kb7 2
          simp only [List.getElem?_toArray, List.getElem?_cons_succ, List.getElem?_cons_zero] at d0
          have HG7 := hide hG7; have HN7 := hide hN7; have HB7 := hide hb7; have HO7 := hide hO7; have HB6 := hide (fun o => hb6.alloc hb6.size o)
          clear hG7 hN7 hb7 hO7 kb7
          refine AnyTo.step (i := 21) (by kernel_rfl) rfl (fun K hK => ?_)
          go_simp
          refine hK.out _ _ (fun h => absurd rfl h) (fun _ => ?_)
          clear hK K
          try simp only [Act.put, List.setIfInBounds_toArray, List.set_cons_zero, List.set_cons_succ]
          refine AnyTo.done (by kernel_rfl) ?_ _
          go_wp2
          go_roundw
          case rel => exact ⟨k + 1, by omega, by go_num, hide (by rw [HRS.out, sp_sta p HY0.out]; exact ⟨_, _, _, _, _, _, _, _, _, _, _, _, PjB.setLinks HP4.out (only_below2 (HB6.out _) HO7.out) HG7.out HN7.out (new_blocks (Nd.nil w4.heap.size 0) (HB6.out _).size HB7.out)⟩), hide (HY.out HNS.out), (((HF4.out.trans (Fr.of_below hb6 (by omega))).alloc _).trans (Fr.of_only HO7.out (fun x hm => .inr (HN3.out x hm)))).set 2 _⟩
          case measure => simp [intOf]; omega
      by_cases e6 : y0 = wEnd
      · obtain rfl : y0 = (⟨#[101, 110, 100]⟩ : ByteArray) := e6
        by_cases h4 : Z.length < 4
        · have HF2 := hide (show parPjB s = false from by rw [HPB.out, show L.all _ = false from by simpa using HNo.out (by rw [st_lk (.inr HY0.out), decide_eq_true h4]; rfl)]; rfl)
          have HPF := hide (parPj_no HF2.out)
          have hl5 : (Z.length : Int) + 1 < 5 := by omega
          have BB := hBW.trans (HB3.out.mono (by omega))
          have kk := kk.below HB3.out (by omega)
          have x0 := kk.cell 0
          have x1 := kk.cell 1
          have x2 := kk.cell 2
          have x3 := kk.cell 3
          have x4 := kk.cell 4
          have f0 := kk.frozen 0
          have f1 := kk.frozen 1
          have f2 := kk.frozen 2
          have f3 := kk.frozen 3
          have f4 := kk.frozen 4
          simp only [List.getElem?_toArray, List.getElem?_cons_succ, List.getElem?_cons_zero] at x0 x1 x2 x3 x4
          have HB := hide BB
          have hkl := kk.lt
          clear kk BB hP3
          go_wp2
          refine bodyPost_ret (v := .tuple #[.agg #[.int .i64 0, .slice none 0 0, .slice none 0 0, .slice none 0 0, .slice none 0 0], .bool false]) ?_ rfl ⟨none, 0, none, 0, none, 0, none, 0, ?_, ?_, ?_⟩
          · simp [results, Tryz.results11, go_sem, *]
          · rw [HF2.out, HPF.out]; rfl
          · rw [HPF.out]; exact OwP.zero _ _ _
          · exact below_only HB.out (only5 w3 w.heap.size _ _ _ _ _) (Nat.le_refl _) (by omega)
        · have hl5 : ¬ (Z.length : Int) + 1 < 5 := by omega
          have i3 := HQC.out 3 (by omega)
          have y3s : (gw Z 3).size ≤ 1048576 := HZS.out _ (getD_mem (k := 3) ByteArray.empty (by omega))
          have hp3 : 3 < Z.length + 1 := by omega
          have hp1 : 1 < Z.length + 1 := by omega
          have hp2 : 2 < Z.length + 1 := by omega
          have hp1i : (1 : Int) < (Z.length : Int) + 1 := by omega
          have hp2i : (2 : Int) < (Z.length : Int) + 1 := by omega
          have hp0i : (0 : Int) < (Z.length : Int) + 1 := by omega
          have HNS := hide (show (!stopB Z) = true from by rw [st_lk (.inr HY0.out), decide_eq_false h4]; rfl)
          clear h4
          go_wp2_with fail
          refine (specParseInt_any (gw Z 3) w3 (by omega)).mono ?_
          rintro e w4 ⟨rfl, r⟩
          have z4 := r.size
          have hP4 := hP3.below r (Nat.le_refl _)
          have HF4 := hide (HF.out.trans (Fr.of_below r (by omega)))
          have e0 := (r.cell (p := ⟨gq, 0, none⟩) (by show gq < _; omega)).trans e0
          have i1 := (r.cell (p := ⟨gq, 1, none⟩) (by show gq < _; omega)).trans (HQC.out 1 (by omega))
          have i2 := (r.cell (p := ⟨gq, 2, none⟩) (by show gq < _; omega)).trans (HQC.out 2 (by omega))
          clear r i3 hP3
          have hgn : g ∉ b2 := fun hm => by have := (hP4.nd.2 g (by simp [hm])).1; omega
          have hgqn : gq ∉ b2 := fun hm => by have := HB2L.out gq hm; omega
          have HGN := hide hgn
          have HGQ := hide hgqn
          have HN3 := hide (show ∀ x ∈ b2, lo ≤ x from fun x hm => (hP4.nd.2 x (by simp [hm])).1)
          have HRY := hide (fun W (hW : Below w4.heap.size w4 W) => lk_ready hP4 hW ⟨actIdx p.acts (gw Z 1), actIdx p.acts (gw Z 2), true, valI (gw Z 3)⟩)
          have HAI := hide (fun (nm : ByteArray) (W : World) (hW : Below w4.heap.size w4 W) => specActivityIndex_any p nm A0 A1 A2 A3 ca cl cr cs lo w4.heap.size W (by omega) (hP4.rdA.below hW (Nat.le_refl _)) hW.size)
          have HPW := hide (fun W (hW : Below w4.heap.size w4 W) => hP4.below hW (Nat.le_refl _))
          have hS4 : LkS g gq p A0 A1 A2 A3 ca cl cr cs (⟨#[101, 110, 100]⟩ : ByteArray) (gw Z 1) (gw Z 2) w4 := ⟨hP4.cells, e0, i1, i2⟩
          have HSB := hide (fun W (hW : Below w4.heap.size w4 W) => hS4.keep (hW.block g (by have := hP4.lt; omega)) (hW.block gq (by omega)))
          have hSd : LkS g gq p A0 A1 A2 A3 ca cl cr cs (⟨#[101, 110, 100]⟩ : ByteArray) (gw Z 1) (gw Z 2) w4.drew := hS4
          have HP4 := hide hP4
          have hll : p.links.length ≤ 16777216 := by omega
          clear hgn hgqn hP4 y3s e0 i1 i2 hS4
          go_wp2_with fail
          refine region_to (LkS g gq p A0 A1 A2 A3 ca cl cr cs (⟨#[101, 110, 100]⟩ : ByteArray) (gw Z 1) (gw Z 2)) 21 (by kernel_rfl) ?_
          refine AnyTo.take (i := 0) (v := ?_) rfl (by kernel_rfl) (by kernel_rfl) (by kernel_rfl) (by kernel_rfl) (fun _ _ _ h => h) (Or.inl ⟨by rfl, ?_⟩) hSd ?_
          rotate_left
          · intro W hS
            obtain ⟨⟨l0, l1, l2, l3, l4⟩, l5, l6, l7⟩ := hS
            go_simp
            try with_reducible rfl
          try simp only [Act.put, List.setIfInBounds_toArray, List.set_cons_zero, List.set_cons_succ]
          refine AnyTo.take (i := 1) (v := ?_) rfl (by kernel_rfl) (by kernel_rfl) (by kernel_rfl) (by kernel_rfl) (fun _ _ _ h => h) (Or.inl ⟨by rfl, ?_⟩) hSd ?_
          rotate_left
          · intro W hS
            obtain ⟨⟨l0, l1, l2, l3, l4⟩, l5, l6, l7⟩ := hS
            go_simp
            try with_reducible rfl
          try simp only [Act.put, List.setIfInBounds_toArray, List.set_cons_zero, List.set_cons_succ]
          refine AnyTo.take (i := 2) (v := ?_) rfl (by kernel_rfl) (by kernel_rfl) (by kernel_rfl) (by kernel_rfl) (fun _ _ _ h => h) (Or.inl ⟨by rfl, ?_⟩) hSd ?_
          rotate_left
          · intro W hS
            obtain ⟨⟨l0, l1, l2, l3, l4⟩, l5, l6, l7⟩ := hS
            go_simp
            try with_reducible rfl
          try simp only [Act.put, List.setIfInBounds_toArray, List.set_cons_zero, List.set_cons_succ]
          refine AnyTo.take (i := 3) (v := ?_) rfl (by kernel_rfl) (by kernel_rfl) (by kernel_rfl) (by kernel_rfl) (fun _ _ _ h => h) (Or.inl ⟨by rfl, ?_⟩) hSd ?_
          rotate_left
          · intro W hS
            obtain ⟨⟨l0, l1, l2, l3, l4⟩, l5, l6, l7⟩ := hS
            go_simp
            try with_reducible rfl
          try simp only [Act.put, List.setIfInBounds_toArray, List.set_cons_zero, List.set_cons_succ]
          refine AnyTo.take (i := 4) (v := ?_) rfl (by kernel_rfl) (by kernel_rfl) (by kernel_rfl) (by kernel_rfl) (fun _ _ _ h => h) (Or.inl ⟨by rfl, ?_⟩) hSd ?_
          rotate_left
          · intro W hS
            obtain ⟨⟨l0, l1, l2, l3, l4⟩, l5, l6, l7⟩ := hS
            go_simp
            try with_reducible rfl
          try simp only [Act.put, List.setIfInBounds_toArray, List.set_cons_zero, List.set_cons_succ]
          refine AnyTo.take (i := 5) (v := ?_) rfl (by kernel_rfl) (by kernel_rfl) (by kernel_rfl) (by kernel_rfl) (fun _ _ _ h => h) (Or.inl ⟨by rfl, ?_⟩) hSd ?_
          rotate_left
          · intro W hS
            obtain ⟨⟨l0, l1, l2, l3, l4⟩, l5, l6, l7⟩ := hS
            go_simp
            try with_reducible rfl
          try simp only [Act.put, List.setIfInBounds_toArray, List.set_cons_zero, List.set_cons_succ]
          refine AnyTo.take (i := 7) (v := ?_) rfl (by kernel_rfl) (by kernel_rfl) (by kernel_rfl) (by kernel_rfl) (fun _ _ _ h => h) (Or.inl ⟨by rfl, ?_⟩) hSd ?_
          rotate_left
          · intro W hS
            obtain ⟨⟨l0, l1, l2, l3, l4⟩, l5, l6, l7⟩ := hS
            go_simp
            try with_reducible rfl
          try simp only [Act.put, List.setIfInBounds_toArray, List.set_cons_zero, List.set_cons_succ]
          refine AnyTo.take (i := 8) (v := ?_) rfl (by kernel_rfl) (by kernel_rfl) (by kernel_rfl) (by kernel_rfl) (fun _ _ _ h => h) (Or.inl ⟨by rfl, ?_⟩) hSd ?_
          rotate_left
          · intro W hS
            obtain ⟨⟨l0, l1, l2, l3, l4⟩, l5, l6, l7⟩ := hS
            go_simp
            try with_reducible rfl
          try simp only [Act.put, List.setIfInBounds_toArray, List.set_cons_zero, List.set_cons_succ]
          refine AnyTo.take (i := 9) (v := ?_) rfl (by kernel_rfl) (by kernel_rfl) (by kernel_rfl) (by kernel_rfl) (fun _ _ _ h => h) (Or.inl ⟨by rfl, ?_⟩) hSd ?_
          rotate_left
          · intro W hS
            obtain ⟨⟨l0, l1, l2, l3, l4⟩, l5, l6, l7⟩ := hS
            go_simp
            try with_reducible rfl
          try simp only [Act.put, List.setIfInBounds_toArray, List.set_cons_zero, List.set_cons_succ]
          refine AnyTo.take (i := 10) (v := ?_) rfl (by kernel_rfl) (by kernel_rfl) (by kernel_rfl) (by kernel_rfl) (fun _ _ _ h => h) (Or.inl ⟨by rfl, ?_⟩) hSd ?_
          rotate_left
          · intro W hS
            obtain ⟨⟨l0, l1, l2, l3, l4⟩, l5, l6, l7⟩ := hS
            go_simp
            try with_reducible rfl
          try simp only [Act.put, List.setIfInBounds_toArray, List.set_cons_zero, List.set_cons_succ]
          refine AnyTo.take (i := 12) (v := ?_) rfl (by kernel_rfl) (by kernel_rfl) (by kernel_rfl) (by kernel_rfl) (fun _ _ _ h => h) (Or.inl ⟨by rfl, ?_⟩) hSd ?_
          rotate_left
          · intro W hS
            obtain ⟨⟨l0, l1, l2, l3, l4⟩, l5, l6, l7⟩ := hS
            go_simp
            try with_reducible rfl
          try simp only [Act.put, List.setIfInBounds_toArray, List.set_cons_zero, List.set_cons_succ]
          refine AnyTo.take (i := 13) (v := ?_) rfl (by kernel_rfl) (by kernel_rfl) (by kernel_rfl) (by kernel_rfl) (fun _ _ _ h => h) (Or.inl ⟨by rfl, ?_⟩) hSd ?_
          rotate_left
          · intro W hS
            obtain ⟨⟨l0, l1, l2, l3, l4⟩, l5, l6, l7⟩ := hS
            go_simp
            try with_reducible rfl
          try simp only [Act.put, List.setIfInBounds_toArray, List.set_cons_zero, List.set_cons_succ]
          refine AnyTo.take (i := 14) (v := ?_) rfl (by kernel_rfl) (by kernel_rfl) (by kernel_rfl) (by kernel_rfl) (fun _ _ _ h => h) (Or.inl ⟨by rfl, ?_⟩) hSd ?_
          rotate_left
          · intro W hS
            obtain ⟨⟨l0, l1, l2, l3, l4⟩, l5, l6, l7⟩ := hS
            go_simp
            try with_reducible rfl
          try simp only [Act.put, List.setIfInBounds_toArray, List.set_cons_zero, List.set_cons_succ]
          refine AnyTo.take (i := 15) (v := ?_) rfl (by kernel_rfl) (by kernel_rfl) (by kernel_rfl) (by kernel_rfl) (fun _ _ _ h => h) (Or.inl ⟨by rfl, ?_⟩) hSd ?_
          rotate_left
          · intro W hS
            obtain ⟨⟨l0, l1, l2, l3, l4⟩, l5, l6, l7⟩ := hS
            go_simp
            try with_reducible rfl
          try simp only [Act.put, List.setIfInBounds_toArray, List.set_cons_zero, List.set_cons_succ]
          refine AnyTo.take (i := 16) (v := ?_) rfl (by kernel_rfl) (by kernel_rfl) (by kernel_rfl) (by kernel_rfl) (fun _ _ _ h => h) (Or.inl ⟨by rfl, ?_⟩) hSd ?_
          rotate_left
          · intro W hS
            obtain ⟨⟨l0, l1, l2, l3, l4⟩, l5, l6, l7⟩ := hS
            go_simp
            try with_reducible rfl
          try simp only [Act.put, List.setIfInBounds_toArray, List.set_cons_zero, List.set_cons_succ]
          refine AnyTo.step (i := 6) (by kernel_rfl) rfl (fun K hK => ?_)
          go_simp
          go_at_call 60
          refine (HAI.out _ _ (below_quiet (Below.refl _ _) 1)).mono ?_
          rintro e w5 ⟨rfl, r5⟩
          have hb5 : Below w4.heap.size w4 w5 := (below_quiet (Below.refl w4.heap.size w4) 1).trans r5
          have hS5 := HSB.out _ hb5
          refine hK.out _ _ (fun _ => hS5) (fun _ => ?_)
          clear hK K
          try simp only [Act.put, List.setIfInBounds_toArray, List.set_cons_zero, List.set_cons_succ]
          refine AnyTo.step (i := 11) (by kernel_rfl) rfl (fun K hK => ?_)
          go_simp
          go_at_call 60
          refine (HAI.out _ _ hb5).mono ?_
          rintro e w6 ⟨rfl, r6⟩
          have hb6 : Below w4.heap.size w4 w6 := hb5.trans (r6.mono hb5.size)
          have hS6 := HSB.out _ hb6
          refine hK.out _ _ (fun _ => hS6) (fun _ => ?_)
          clear hK K
          try simp only [Act.put, List.setIfInBounds_toArray, List.set_cons_zero, List.set_cons_succ]
          refine AnyTo.take (i := 17) (v := ?_) rfl (by kernel_rfl) (by kernel_rfl) (by kernel_rfl) (by kernel_rfl) (fun _ _ _ h => h) (Or.inl ⟨by rfl, ?_⟩) hS6 ?_
          rotate_left
          · intro W hS
            obtain ⟨⟨l0, l1, l2, l3, l4⟩, l5, l6, l7⟩ := hS
            go_simp
            try with_reducible rfl
          try simp only [Act.put, List.setIfInBounds_toArray, List.set_cons_zero, List.set_cons_succ]
          refine AnyTo.step (i := 18) (by kernel_rfl) rfl (fun K hK => ?_)
          go_simp
          refine hK.out _ _ (fun _ => HSB.out _ (hb6.alloc hb6.size _)) (fun _ => ?_)
          clear hK K
          try simp only [Act.put, List.setIfInBounds_toArray, List.set_cons_zero, List.set_cons_succ]
          refine AnyTo.step (i := 19) (by kernel_rfl) rfl (fun K hK => ?_)
          refine step_pushN OwLs.keeps (by rfl) (.tmp 87) (.tmp 104) 31 (by rfl) 75 _ 4 32 Tryz.underlying31 Tryz.infoLk rfl (by omega) A1 p.links.length cl p.links b2 lo rfl (by rfl) ⟨actIdx p.acts (gw Z 1), actIdx p.acts (gw Z 2), true, valI (gw Z 3)⟩ #[.int .i64 (actIdx p.acts (gw Z 1)), .int .i64 (actIdx p.acts (gw Z 2)), .bool true, .int .i64 (valI (gw Z 3))] [] (HRY.out _ (hb6.alloc hb6.size _)) rfl w6.heap.size 0 1 (by rfl) (four_new _ _ _ _ _ _) (four_cell rfl rfl rfl rfl) (by omega) (by omega) (by have := hb6.size; simp; omega) ?_
          intro A7 c7 bs7 w7 hG7 hN7 hb7 hO7
          have hgw7 : g < w6.heap.size ∧ gq < w6.heap.size := by have := hb6.size; omega
          have hS7 : LkS g gq p A0 A1 A2 A3 ca cl cr cs (⟨#[101, 110, 100]⟩ : ByteArray) (gw Z 1) (gw Z 2) w7 := hS6.keep ((hO7.block g (by simp; omega) HGN.out).trans (Below.heap_alloc w6 _ g hgw7.1)) ((hO7.block gq (by simp; omega) HGQ.out).trans (Below.heap_alloc w6 _ gq hgw7.2))
          refine hK.out _ _ (fun _ => hS7) (fun _ => ?_)
          clear hK K
          try simp only [Act.put, List.setIfInBounds_toArray, List.set_cons_zero, List.set_cons_succ]
          refine AnyTo.take (i := 20) (v := ?_) rfl (by kernel_rfl) (by kernel_rfl) (by kernel_rfl) (by kernel_rfl) (fun _ _ _ h => h) (Or.inl ⟨by rfl, ?_⟩) hS7 ?_
          rotate_left
          · intro W hS
            obtain ⟨⟨l0, l1, l2, l3, l4⟩, l5, l6, l7⟩ := hS
            go_simp
            try with_reducible rfl
          try simp only [Act.put, List.setIfInBounds_toArray, List.set_cons_zero, List.set_cons_succ]
          have kb7 := (hO7.block g (by simp; omega) HGN.out).trans ((HPW.out _ hb6).alloc _).box
          have d0 := Bk.cell kb7 2
          have f0 := Bk.frozen kb7 2
          simp only [List.getElem?_toArray, List.getElem?_cons_succ, List.getElem?_cons_zero] at d0
          have HG7 := hide hG7; have HN7 := hide hN7; have HB7 := hide hb7; have HO7 := hide hO7; have HB6 := hide (fun o => hb6.alloc hb6.size o)
          clear hG7 hN7 hb7 hO7 kb7
          refine AnyTo.step (i := 21) (by kernel_rfl) rfl (fun K hK => ?_)
          go_simp
          refine hK.out _ _ (fun h => absurd rfl h) (fun _ => ?_)
          clear hK K
          try simp only [Act.put, List.setIfInBounds_toArray, List.set_cons_zero, List.set_cons_succ]
          refine AnyTo.done (by kernel_rfl) ?_ _
          go_wp2
          go_roundw
          case rel => exact ⟨k + 1, by omega, by go_num, hide (by rw [HRS.out, sp_end p HY0.out]; exact ⟨_, _, _, _, _, _, _, _, _, _, _, _, PjB.setLinks HP4.out (only_below2 (HB6.out _) HO7.out) HG7.out HN7.out (new_blocks (Nd.nil w4.heap.size 0) (HB6.out _).size HB7.out)⟩), hide (HY.out HNS.out), (((HF4.out.trans (Fr.of_below hb6 (by omega))).alloc _).trans (Fr.of_only HO7.out (fun x hm => .inr (HN3.out x hm)))).set 2 _⟩
          case measure => simp [intOf]; omega
      have HS := hide (sp_no (W := Z) p (by rw [HY0.out]; exact e1) (by rw [HY0.out]; exact e2) (by rw [HY0.out]; exact e3) (by rw [HY0.out]; exact e4) (by rw [HY0.out]; exact e5) (by rw [HY0.out]; exact e6))
      have HST := hide (st_no (W := Z) (by rw [HY0.out]; exact e5) (by rw [HY0.out]; exact e6))
      obtain ⟨t1, u1⟩ := ne_lit (l := [100, 101, 97, 100, 108, 105, 110, 101]) e1
      obtain ⟨t2, u2⟩ := ne_lit (l := [114, 101, 115, 111, 117, 114, 99, 101]) e2
      obtain ⟨t3, u3⟩ := ne_lit (l := [115, 116, 111, 99, 107]) e3
      obtain ⟨t4, u4⟩ := ne_lit (l := [97, 99, 116, 105, 118, 105, 116, 121]) e4
      obtain ⟨t5, u5⟩ := ne_lit (l := [115, 116, 97, 114, 116]) e5
      obtain ⟨t6, u6⟩ := ne_lit (l := [101, 110, 100]) e6
      clear e1 e2 e3 e4 e5 e6
      go_wp2
      go_roundw
      case rel => exact ⟨k + 1, by omega, by go_num, hide (by rw [HRS.out, HS.out]; exact ⟨_, _, _, _, _, _, _, _, _, _, _, _, hP3⟩), hide (HY.out HST.out), HF.out⟩
      case measure => simp [intOf]; omega
    · obtain rfl : k = L.length := by omega
      have hall : L.all (fun x => !stopB (words x)) = true := by have := HA.out; rwa [List.take_length] at this
      have HPB2 := hide (show parPjB s = (pjOkB (resTo L L.length) && decide (fmtPj (resTo L L.length) = s)) from by rw [HPB.out, hall, Bool.true_and])
      clear hall hlt hk
      obtain ⟨A0, A1, A2, A3, c0, c1, c2, c3, b1, b2, b3, b4, hP⟩ := HP.out
      have p0 := hP.box.cell 0
      have p1 := hP.box.cell 1
      have p2 := hP.box.cell 2
      have p3 := hP.box.cell 3
      have p4 := hP.box.cell 4
      simp only [List.getElem?_toArray, List.getElem?_cons_succ, List.getElem?_cons_zero] at p0 p1 p2 p3 p4
      generalize resTo L L.length = P at HPB2 HPR hsp hP HP p0 p1 p2 p3 p4
      go_wp2_with fail
      refine (specProjectOk_any P A0 A1 A2 A3 c0 c1 c2 c3 lo wr.heap.size wr (by omega) hP.rdA hP.rdL hP.rdR hP.rdS (Nat.le_refl _)).mono ?_
      rintro e w1 ⟨rfl, r⟩
      have BB := hBW.trans (r.mono (by omega))
      have kk := kk.below r (by omega)
      have hP := hP.below r (Nat.le_refl _)
      have zr := r.size
      clear p0 p1 p2 p3 p4 r hBW HP
      cases hok : pjOkB P
      · have HF := hide (show parPjB s = false from by rw [HPB2.out, hok]; rfl)
        clear hok hP
        have HF2 := hide (parPj_no HF.out)
        have x0 := kk.cell 0
        have x1 := kk.cell 1
        have x2 := kk.cell 2
        have x3 := kk.cell 3
        have x4 := kk.cell 4
        have f0 := kk.frozen 0
        have f1 := kk.frozen 1
        have f2 := kk.frozen 2
        have f3 := kk.frozen 3
        have f4 := kk.frozen 4
        simp only [List.getElem?_toArray, List.getElem?_cons_succ, List.getElem?_cons_zero] at x0 x1 x2 x3 x4
        have HB := hide BB
        have hkl := kk.lt
        clear kk BB
        go_wp2
        refine bodyPost_ret (v := .tuple #[.agg #[.int .i64 0, .slice none 0 0, .slice none 0 0, .slice none 0 0, .slice none 0 0], .bool false]) ?_ rfl ⟨none, 0, none, 0, none, 0, none, 0, ?_, ?_, ?_⟩
        · simp [results, Tryz.results11, go_sem, *]
        · rw [HF.out, HF2.out]; rfl
        · rw [HF2.out]; exact OwP.zero _ _ _
        · exact below_only HB.out (only5 w1 w.heap.size _ _ _ _ _) (Nat.le_refl _) (by omega)
      have HPB3 := hide (show parPjB s = decide (fmtPj P = s) from by rw [HPB2.out, hok, Bool.true_and])
      clear hok
      have p0 := hP.box.cell 0
      have p1 := hP.box.cell 1
      have p2 := hP.box.cell 2
      have p3 := hP.box.cell 3
      have p4 := hP.box.cell 4
      simp only [List.getElem?_toArray, List.getElem?_cons_succ, List.getElem?_cons_zero] at p0 p1 p2 p3 p4
      go_wp2_with fail
      refine (specFormatProject_any P A0 A1 A2 A3 c0 c1 c2 c3 lo w1.heap.size w1 (by omega) hP.rdA hP.rdL hP.rdR hP.rdS (Nat.le_refl _)).mono ?_
      rintro e w2 ⟨rfl, r⟩
      have BB := BB.trans (r.mono (by omega))
      have kk := kk.below r (by omega)
      have hP := hP.below r (Nat.le_refl _)
      have zr2 := r.size
      clear p0 p1 p2 p3 p4 r
      by_cases hst : fmtPj P = s
      · have HF := hide (show parPjB s = true from by rw [HPB3.out, decide_eq_true hst])
        have HF2 := hide (show parPj s = P from (parPj_yes HF.out).trans HPR.out)
        rw [hst]
        clear hst
        have p0 := hP.box.cell 0
        have p1 := hP.box.cell 1
        have p2 := hP.box.cell 2
        have p3 := hP.box.cell 3
        have p4 := hP.box.cell 4
        have x0 := kk.cell 0
        have x1 := kk.cell 1
        have x2 := kk.cell 2
        have x3 := kk.cell 3
        have x4 := kk.cell 4
        have f0 := kk.frozen 0
        have f1 := kk.frozen 1
        have f2 := kk.frozen 2
        have f3 := kk.frozen 3
        have f4 := kk.frozen 4
        simp only [List.getElem?_toArray, List.getElem?_cons_succ, List.getElem?_cons_zero] at p0 p1 p2 p3 p4 x0 x1 x2 x3 x4
        have HPJ := hide hP
        have HB := hide BB
        clear hP BB kk
        go_wp2
        refine bodyPost_ret (v := .tuple #[.agg #[.int .i64 P.dead, .slice A0 P.acts.length c0, .slice A1 P.links.length c1, .slice A2 P.res.length c2, .slice A3 P.stocks.length c3], .bool true]) ?_ rfl ⟨A0, c0, A1, c1, A2, c2, A3, c3, ?_, ?_, ?_⟩
        · simp [results, Tryz.results11, go_sem, *]
        · rw [HF.out, HF2.out]
        · rw [HF2.out]
          refine (OwV.below_ OwPj.keeps HPJ.out.own fun q h1 h2 => (only5 w2 w.heap.size _ _ _ _ _).block q (by omega) (by omega)).mono_ (by omega) ?_
          simp [World.setCell]
        · exact below_only HB.out (only5 w2 w.heap.size _ _ _ _ _) (Nat.le_refl _) (by omega)
      · have HF := hide (show parPjB s = false from by rw [HPB3.out, decide_eq_false hst])
        have hst1 := str_ne_list hst
        have hst2 := beq_list hst
        clear hst hP
        have HF2 := hide (parPj_no HF.out)
        have x0 := kk.cell 0
        have x1 := kk.cell 1
        have x2 := kk.cell 2
        have x3 := kk.cell 3
        have x4 := kk.cell 4
        have f0 := kk.frozen 0
        have f1 := kk.frozen 1
        have f2 := kk.frozen 2
        have f3 := kk.frozen 3
        have f4 := kk.frozen 4
        simp only [List.getElem?_toArray, List.getElem?_cons_succ, List.getElem?_cons_zero] at x0 x1 x2 x3 x4
        have HB := hide BB
        have hkl := kk.lt
        clear kk BB
        go_wp2
        refine bodyPost_ret (v := .tuple #[.agg #[.int .i64 0, .slice none 0 0, .slice none 0 0, .slice none 0 0, .slice none 0 0], .bool false]) ?_ rfl ⟨none, 0, none, 0, none, 0, none, 0, ?_, ?_, ?_⟩
        · simp [results, Tryz.results11, go_sem, *]
        · rw [HF.out, HF2.out]; rfl
        · rw [HF2.out]; exact OwP.zero _ _ _
        · exact below_only HB.out (only5 w2 w.heap.size _ _ _ _ _) (Nat.le_refl _) (by omega)
end Go.Proofs.YtcecgbjolngdbaaGreatDoor
