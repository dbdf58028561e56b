/- Marks of modes and activities: how far they count, and that they write only into what the call owns. -/
import Derived.Test.YtfjohklcapekkaaKitMk
import Derived.Test.YtfjohklcapekkaaLawAc
namespace Go.Proofs.Ytfjohklcapekkaa
open Go.ChangeShapes Go.WideShapes Go.ChangeAt Go.RowKit
set_option linter.unusedVariables false

def szUp {α : Type} (f : α → Nat) (l : List α) (k : Nat) : Nat := k + ((l.take k).map f).sum
theorem szUp_zero {α : Type} (f : α → Nat) (l : List α) : szUp f l 0 = 0 := by simp [szUp]
theorem szUp_succ {α : Type} (f : α → Nat) (d : α) {l : List α} {k : Nat} (h : k < l.length) : szUp f l (k + 1) = szUp f l k + 1 + f (l.getD k d) := by
  unfold szUp
  rw [take_snoc d h, List.map_append, List.sum_append]
  simp
  omega
theorem szUp_all {α : Type} (f : α → Nat) (l : List α) : szUp f l l.length = szL f l := by unfold szUp szL; rw [List.take_length]
theorem szUp_le {α : Type} (f : α → Nat) (l : List α) {k : Nat} (h : k ≤ l.length) : szUp f l k ≤ szL f l := by
  unfold szUp szL
  have : ((l.take k).map f).sum ≤ (l.map f).sum := by
    conv => rhs; rw [← List.take_append_drop k l, List.map_append, List.sum_append]
    omega
  omega
/-- Only the blocks listed may have turned. -/
structure OnlyIn (bs : List Nat) (w w' : World) : Prop where
  os : w'.os = w.os
  tape : w'.tape = w.tape
  output : w'.output = w.output
  size : w.heap.size ≤ w'.heap.size
  block : ∀ k, k < w.heap.size → k ∉ bs → w'.heap[k]? = w.heap[k]?
theorem OnlyIn.refl (bs : List Nat) (w : World) : OnlyIn bs w w := ⟨rfl, rfl, rfl, Nat.le_refl _, fun _ _ _ => rfl⟩
theorem OnlyIn.trans {bs : List Nat} {a b c : World} (h : OnlyIn bs a b) (k : OnlyIn bs b c) : OnlyIn bs a c :=
  ⟨k.os.trans h.os, k.tape.trans h.tape, k.output.trans h.output, Nat.le_trans h.size k.size, fun i hi hn => (k.block i (Nat.lt_of_lt_of_le hi h.size) hn).trans (h.block i hi hn)⟩
theorem OnlyIn.only {bs : List Nat} {a w w' : World} (h : OnlyIn bs a w) {lo hi : Nat} (k : Only lo hi w w') (hb : ∀ x, lo ≤ x → x < hi → x ∈ bs) : OnlyIn bs a w' :=
  h.trans ⟨k.os, k.tape, k.output, k.size, fun i hi hn => k.block i hi (fun hh => hn (hb i hh.1 hh.2))⟩
theorem OnlyIn.set {bs : List Nat} {a w : World} (h : OnlyIn bs a w) {p : Addr} (hp : p.block ∈ bs) (u : Value) : OnlyIn bs a (w.setCell p u) :=
  h.trans ⟨rfl, rfl, rfl, by simp [World.setCell], fun i hi hn => Below.heap_setCell w p u i (by rintro rfl; exact hn hp)⟩
theorem OnlyIn.toOnly {bs : List Nat} {w w' : World} (h : OnlyIn bs w w') {lo hi : Nat} (hb : ∀ x ∈ bs, lo ≤ x ∧ x < hi) : Only lo hi w w' :=
  ⟨h.os, h.tape, h.output, h.size, fun k hk hn => h.block k hk (fun hm => hn (hb k hm))⟩
theorem getD_set_at {α : Type} {l : List α} {i : Nat} {m d : α} (j : Nat) (hi : i < l.length) : (l.set i m).getD j d = if j = i then m else l.getD j d := by
  simp only [List.getD_eq_getElem?_getD, List.getElem?_set]
  by_cases h : i = j
  · subst h; simp [hi]
  · rw [if_neg h, if_neg (fun e => h e.symm)]
set_option maxHeartbeats 3200000 in
theorem markModeS_any (A : Option Addr) (l : List Md) (c : Nat) (bs : List Nat) (k : Int) (w : World) (hs : szL szMd l ≤ 4194304) (hk : 0 ≤ k) (hk' : k ≤ 4194304) (h : OwG 3 73 OwM md0 w A c l bs) (hn : bs.Nodup) (hlt : ∀ b ∈ bs, b < w.heap.size) :
    Calls Try.prog 56 #[.slice A l.length c, .int .i64 k] w fun e w' => e = .returned (.int .i64 (k + szL szMd l)) ∧ OnlyIn bs w w' := by
  have hl : l.length ≤ 4194304 := Nat.le_trans (szL_len szMd l) hs
  have HS := hide hs; clear hs
  go_enter Try.func56, Try.ntmps56
  go_wp2
  go_loopw [1, 5] (fun q i wr => ∃ (j : Nat) (l' : List Md), j ≤ l.length ∧ i = .int .i64 j ∧ q = .int .i64 (k + szUp szMd l j) ∧ Hid (l'.length = l.length ∧ ∀ t, (l'.getD t md0).use.length = (l.getD t md0).use.length ∧ (l'.getD t md0).con.length = (l.getD t md0).con.length) ∧ Hid (OwG 3 73 OwM md0 wr A c l' bs) ∧ OnlyIn bs w wr) (fun _ i _ => l.length - (intOf i).toNat)
  case atStart => exact ⟨0, l, Nat.zero_le _, rfl, by rw [szUp_zero]; simp, hide ⟨rfl, fun _ => ⟨rfl, rfl⟩⟩, hide h, OnlyIn.refl _ _⟩
  case round =>
    obtain ⟨j, l', hj, rfl, rfl, HL, HO, hB⟩ := hrel
    clear h
    by_cases hjl : j < l.length
    · have hjl' : j < l'.length := by rw [HL.out.1]; exact hjl
      obtain ⟨b0, xs, v, b, hrow, ho, hv, hbm, hb0m, hbd, hbn, hshut⟩ := OwG.open_ OwMs.keeps HO.out hn hjl'
      obtain ⟨U, cu, C, cc, b1, b2, rfl, hU, hC, rfl⟩ := ho
      have hlen' := (HL.out.2 j)
      have HSU := hide (szUp_succ szMd md0 hjl)
      have HLE := hide (szUp_le szMd l (k := j + 1) (by omega))
      have HSM : Hid (szMd (l.getD j md0) = (l.getD j md0).use.length + (l.getD j md0).con.length) := rfl
      have HSHUT := hide hshut
      generalize hM : l'.getD j md0 = m at hU hC hlen' hv
      have hub : m.use.length ≤ 4194304 := by have := HSU.out; have := HLE.out; have := HS.out; have := HSM.out; omega
      have hcb : m.con.length ≤ 4194304 := by have := HSU.out; have := HLE.out; have := HS.out; have := HSM.out; omega
      have hkb : szUp szMd l j ≤ 4194304 := by have := HSU.out; have := HLE.out; have := HS.out; omega
      obtain ⟨_, hdd, _⟩ := List.nodup_append.1 hbn
      have hdis : ∀ x ∈ b1, x ∉ b2 := fun x h1 h2 => (List.nodup_append.1 hbn).2.2 x h1 x h2 rfl
      rw [HL.out.1] at hrow
      obtain ⟨rl, rh, hO, hr1, hr2⟩ := hrow.tight
      obtain ⟨g, rfl, hg1, hg2, hg3⟩ := hO.some_ (by omega)
      have hgb0 : g ∈ b0 := hr1 g hg1 hg2
      have q0 : wr.cell? ⟨g, j * 3, none⟩ = some (.int .i64 m.dur) := by rw [hO.cellAt _ (by omega)]; exact hv 0 (by omega)
      have q1 : wr.cell? ⟨g, j * 3 + 1, none⟩ = some (.slice U m.use.length cu) := by rw [hO.cellAt _ (by omega)]; exact hv 1 (by omega)
      have q2 : wr.cell? ⟨g, j * 3 + 2, none⟩ = some (.slice C m.con.length cc) := by rw [hO.cellAt _ (by omega)]; exact hv 2 (by omega)
      have qf := hO.frozenAt (j * 3)
      have hUf := hU.2
      have hCf := hC.2
      obtain ⟨ul, uh, hUo, hu1, hu2⟩ := hU.tight
      obtain ⟨cl, ch, hCo, hc1, hc2⟩ := hC.tight
      have hO' := hO.stored (j * 3) (.int .i64 (k + szUp szMd l j))
      have hsz1 := hB.size
      have hltb : ∀ x ∈ b1 ++ b2, x < w.heap.size := fun x hx => hlt x (hbm x hx)
      have hltr : ∀ x ∈ b0, x < w.heap.size := fun x hx => hlt x (hb0m x hx)
      have hwU : OwnR (wr.setCell ⟨g, j * 3, none⟩ (.int .i64 (k + szUp szMd l j))) ul uh 3 1 U m.use.length cu (m.use.map (.int .i64)) := hUo.keep fun x h1 h2 => Below.heap_setCell _ _ _ _ (by rintro rfl; exact hbd _ (List.mem_append_left _ (hu1 _ h1 h2)) hgb0)
      have hwC : OwnR (wr.setCell ⟨g, j * 3, none⟩ (.int .i64 (k + szUp szMd l j))) cl ch 3 1 C m.con.length cc (m.con.map (.int .i64)) := hCo.keep fun x h1 h2 => Below.heap_setCell _ _ _ _ (by rintro rfl; exact hbd _ (List.mem_append_right _ (hc1 _ h1 h2)) hgb0)
      have HB1 := hide (hB.set (p := ⟨g, j * 3, none⟩) (hb0m g hgb0) (.int .i64 (k + szUp szMd l j)))
      have p1 : (wr.setCell ⟨g, j * 3, none⟩ (.int .i64 (k + szUp szMd l j))).cell? ⟨g, j * 3 + 1, none⟩ = some (.slice U m.use.length cu) := by
        rw [World.cell?_setCell_other _ _ _ _ (fun e => by have := congrArg Addr.off e; simp at this; try omega)]; exact q1
      have p2 : (wr.setCell ⟨g, j * 3, none⟩ (.int .i64 (k + szUp szMd l j))).cell? ⟨g, j * 3 + 2, none⟩ = some (.slice C m.con.length cc) := by
        rw [World.cell?_setCell_other _ _ _ _ (fun e => by have := congrArg Addr.off e; simp at this; try omega)]; exact q2
      have HFAR : Hid (∀ x, x ≠ g → (wr.setCell ⟨g, j * 3, none⟩ (.int .i64 (k + szUp szMd l j))).heap[x]? = wr.heap[x]?) := fun x hx => Below.heap_setCell _ _ _ _ hx
      have hws : (wr.setCell ⟨g, j * 3, none⟩ (.int .i64 (k + szUp szMd l j))).heap.size = wr.heap.size := by simp [World.setCell]
      have huN : uh ≤ wr.heap.size := hu2 _ fun x hx => by have := hltb x (List.mem_append_left _ hx); omega
      have hcN : ch ≤ wr.heap.size := hc2 _ fun x hx => by have := hltb x (List.mem_append_right _ hx); omega
      have HO' := hide hO'
      have HwC := hide hwC
      have Hp2 := hide p2
      have HDL := hide hlen'
      clear hO' hwC p2 hUo hCo q1 q2 hlen' hU hC
      have hM1 := markIntS_any U m.use.length cu ul uh (k + szUp szMd l j + 1) m.use (wr.setCell ⟨g, j * 3, none⟩ (.int .i64 (k + szUp szMd l j))) (by omega) (by omega) (by omega) hwU (by omega)
      have HM1 := hide hM1; clear hM1 hwU
      go_wp2_with fail
      refine HM1.out.mono ?_
      rintro e w2 ⟨rfl, hU2, hN2⟩
      have hs2 := hN2.size
      have far2 : ∀ x, x ∉ b1 → x < wr.heap.size → w2.heap[x]? = (wr.setCell ⟨g, j * 3, none⟩ (.int .i64 (k + szUp szMd l j))).heap[x]? := fun x hx hxs => hN2.block x (by omega) (fun hh => hx (hu1 x hh.1 hh.2))
      have HR2 : Hid (OwnR w2 rl rh 73 3 (some ⟨g, 0, none⟩) l.length c (xs.set (j * 3) (.int .i64 (k + szUp szMd l j)))) := HO'.out.keep fun x h1 h2 => far2 x (fun hx => hbd x (List.mem_append_left _ hx) (hr1 x h1 h2)) (by have := hltr x (hr1 x h1 h2); omega)
      have hC2 : OwnR w2 cl ch 3 1 C m.con.length cc (m.con.map (.int .i64)) := HwC.out.keep fun x h1 h2 => far2 x (fun hx => hdis x hx (hc1 x h1 h2)) (by have := hltb x (List.mem_append_right _ (hc1 x h1 h2)); omega)
      have p2 : w2.cell? ⟨g, j * 3 + 2, none⟩ = some (.slice C m.con.length cc) := (World.cell?_of_block (a := ⟨g, j * 3 + 2, none⟩) (far2 g (fun hx => hbd g (List.mem_append_left _ hx) hgb0) (by have := hltr g hgb0; omega))).trans Hp2.out
      have HB2 := hide (HB1.out.only hN2 (fun x h1 h2 => hbm x (List.mem_append_left _ (hu1 x h1 h2))))
      have HFAR2 := hide far2
      clear HO' HwC Hp2 HB1 hN2 far2 p1 HM1 q0 qf
      have HM2 := hide (markIntS_any C m.con.length cc cl ch (k + szUp szMd l j + 1 + m.use.length) m.con w2 (by omega) (by omega) (by omega) hC2 (by omega))
      clear hC2
      go_wp2_with fail
      refine HM2.out.mono ?_
      rintro e w3 ⟨rfl, hC3, hN3⟩
      have hs3 := hN3.size
      have far3 : ∀ x, x ∉ b2 → x < wr.heap.size → w3.heap[x]? = w2.heap[x]? := fun x hx hxs => hN3.block x (by omega) (fun hh => hx (hc1 x hh.1 hh.2))
      have row3 : OwnR w3 rl rh 73 3 (some ⟨g, 0, none⟩) l.length c (xs.set (j * 3) (.int .i64 (k + szUp szMd l j))) := HR2.out.keep fun x h1 h2 => far3 x (fun hx => hbd x (List.mem_append_right _ hx) (hr1 x h1 h2)) (by have := hltr x (hr1 x h1 h2); omega)
      have hU3 : OwnR w3 ul uh 3 1 U m.use.length cu ((marks (k + szUp szMd l j + 1) m.use.length).map (.int .i64)) := hU2.keep fun x h1 h2 => far3 x (hdis x (hu1 x h1 h2)) (by have := hltb x (List.mem_append_left _ (hu1 x h1 h2)); omega)
      have HB3 := hide (HB2.out.only hN3 (fun x h1 h2 => hbm x (List.mem_append_right _ (hc1 x h1 h2))))
      clear HM2 HB2 HR2 hU2 hN3 p2
      go_wp2
      go_roundw
      case rel =>
        have hxl : xs.length = l.length * 3 := hO.len
        refine ⟨j + 1, l'.set j ⟨k + szUp szMd l j, marks (k + szUp szMd l j + 1) m.use.length, marks (k + szUp szMd l j + 1 + m.use.length) m.con.length⟩, by omega, by go_num, val_int ?_, hide ⟨by rw [List.length_set]; exact HL.out.1, fun t => ?_⟩, hide ?_, HB3.out⟩
        · rw [HSU.out, HSM.out, ← HDL.out.1, ← HDL.out.2]; push_cast; omega
        · rw [getD_set_at t hjl']
          by_cases ht : t = j
          · rw [if_pos ht, ht, marks_len, marks_len]; exact HDL.out
          · rw [if_neg ht]; exact HL.out.2 t
        · refine HSHUT.out w3 (xs.set (j * 3) (.int .i64 (k + szUp szMd l j))) #[.int .i64 (k + szUp szMd l j), .slice U m.use.length cu, .slice C m.con.length cc] _ ?_ (fun p hp => List.getElem?_set_ne (by omega)) (fun q hq => ?_) ?_ (fun x hxm hx hx0 => ?_)
          · rw [HL.out.1]; exact ⟨⟨rl, rh, row3⟩, hrow.2⟩
          · by_cases q0 : q = 0
            · subst q0; rw [Nat.add_zero, List.getElem?_set_self (by omega)]; rfl
            · rw [List.getElem?_set_ne (by omega), hv q hq]
              match q, hq, q0 with
              | 1, _, _ => rfl
              | 2, _, _ => rfl
          · exact ⟨U, cu, C, cc, b1, b2, by simp only [marks_len], ⟨⟨ul, uh, by simp only [marks_len]; exact hU3⟩, hUf⟩, ⟨⟨cl, ch, by simp only [marks_len]; exact hC3⟩, hCf⟩, rfl⟩
          · have hxs : x < wr.heap.size := by have := hlt x hxm; omega
            rw [far3 x (fun h => hx (List.mem_append_right _ h)) hxs, HFAR2.out x (fun h => hx (List.mem_append_left _ h)) hxs]
            exact HFAR.out x (fun e => hx0 (e ▸ hgb0))
      case measure => simp [intOf]; omega
    · obtain rfl : j = l.length := by omega
      go_wp2
      go_ret
      exact ⟨ret_int (by rw [szUp_all]), hB⟩
theorem OwV.only_ {α : Type} {O : Owns α} (K : OKeeps O) {w w' : World} {lo hi lo' hi' : Nat} {v : Array Value} {a : α} (h : OwV O w lo hi v a) (hb : Only lo' hi' w w') (hs : hi ≤ w.heap.size) (hd : hi ≤ lo' ∨ hi' ≤ lo) : OwV O w' lo hi v a := by
  obtain ⟨bs, h1, h2⟩ := h
  exact ⟨bs, K _ _ _ _ _ (fun k hk => by have := h2.2 k hk; exact hb.block k (by omega) (by omega)) h1, h2⟩
def OwAV (w : World) (lo hi : Nat) (v : Array Value) (a : Ac) : Prop := OwV OwA w lo hi v a
theorem OwAV.only {w w' : World} {lo hi lo' hi' : Nat} {v : Array Value} {a : Ac} (h : OwAV w lo hi v a) (hb : Only lo' hi' w w') (hs : hi ≤ w.heap.size) (hd : hi ≤ lo' ∨ hi' ≤ lo) : OwAV w' lo hi v a := OwV.only_ OwAs.keeps h hb hs hd
set_option maxHeartbeats 800000 in
theorem markActivity_any (a : Ac) (M : Option Addr) (cm lo hi : Nat) (k : Int) (w : World) (hs : szAc a ≤ 4194304) (hk : 0 ≤ k) (hk' : k ≤ 4194304) (h : OwAV w lo hi #[.string a.name, .int .i64 a.fam, .slice M a.modes.length cm] a) (hhi : hi ≤ w.heap.size) :
    Calls Try.prog 21 #[.agg #[.string a.name, .int .i64 a.fam, .slice M a.modes.length cm], .int .i64 k] w fun e w' => e = .returned (.int .i64 (k + szL szMd a.modes)) ∧ Only lo hi w w' := by
  obtain ⟨bs, ⟨M', cm', e, hG⟩, hN⟩ := h
  simp only [Array.mk.injEq, List.cons.injEq, Value.slice.injEq, and_true, true_and] at e
  obtain ⟨rfl, rfl⟩ := e
  have hsz : szL szMd a.modes ≤ 4194304 := by unfold szAc at hs; omega
  have hB0 : ∀ o, Only w.heap.size w.heap.size w (w.alloc o) := fun o => (Only.refl _ _ _).alloc _
  have HB0 := hide hB0; clear hB0
  have HG := hide hG; clear hG
  go_enter Try.func21, Try.ntmps21
  go_wp2_with fail
  refine (markModeS_any M a.modes cm bs k _ hsz hk hk' (OwG.keep_ OwMs.keeps HG.out fun b hb => (HB0.out _).block b (by have := hN.2 b hb; omega) (by omega)) hN.1 (fun b hb => by have := hN.2 b hb; simp; omega)).mono ?_
  rintro e w1 ⟨rfl, hI⟩
  have hO := ((Only.refl lo hi w).alloc _).trans (hI.toOnly hN.2)
  clear hI
  go_wp2
  go_ret
  exact ⟨rfl, hO⟩
end Go.Proofs.Ytfjohklcapekkaa
