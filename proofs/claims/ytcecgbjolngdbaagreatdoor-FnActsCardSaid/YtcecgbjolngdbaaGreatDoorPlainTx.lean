/- Lists of numbers, steps and modes in words: what formats and parses them, and that each is the other's inverse; nothing here speaks of a program. -/
import Derived.Test.YtcecgbjolngdbaaGreatDoorPlainNum
import Derived.Test.YtcecgbjolngdbaaGreatDoorPlainSt
import Derived.Test.YtcecgbjolngdbaaGreatDoorPlainMd
import Derived.Lib.IndexMore
namespace Go.Proofs.YtcecgbjolngdbaaGreatDoor

def comma : ByteArray := ⟨#[44]⟩
def colon : ByteArray := ⟨#[58]⟩
def slash : ByteArray := ⟨#[47]⟩
def dash : ByteArray := ⟨#[45]⟩
theorem joinB_ne {l : List ByteArray} {y : ByteArray} (h0 : l ≠ []) (h : l.getD 0 ByteArray.empty ≠ ByteArray.empty) : joinB l y ≠ ByteArray.empty := by
  cases l with
  | nil => exact absurd rfl h0
  | cons a l =>
    intro e
    have e2 := congrArg (fun b => b.data.toList) e
    simp [joinB, Lib.join_cons] at e2
    exact h (str_ext (by simpa using e2.1))

/-! ## Lists of numbers -/
def inI (n : Int) : Bool := decide (-100000 ≤ n ∧ n ≤ 100000)
def fmtIs (l : List Int) : ByteArray := if l.all inI = true then (if l = [] then dash else joinB (l.map fmtI) comma) else ByteArray.empty
def parIs (s : ByteArray) : List Int × Bool := if s = dash then ([], true) else if (splitAny s comma).all okI = true then ((splitAny s comma).map valI, true) else ([], false)
theorem inI_iff (n : Int) : inI n = true ↔ (-100000 ≤ n ∧ n ≤ 100000) := by unfold inI; rw [decide_eq_true_eq]
theorem inI_ne (n : Int) : inI n = true ↔ fmtI n ≠ ByteArray.empty := by rw [inI_iff, fmtI_ne_iff]
theorem fmtIs_nil : fmtIs [] = dash := rfl
theorem fmtIs_yes {l : List Int} (h : l.all inI = true) (h0 : l ≠ []) : fmtIs l = joinB (l.map fmtI) comma := by unfold fmtIs; rw [if_pos h, if_neg h0]
theorem fmtIs_no {l : List Int} (h : ¬ l.all inI = true) : fmtIs l = ByteArray.empty := by unfold fmtIs; rw [if_neg h]
theorem dash_ne : dash ≠ ByteArray.empty := by decide
theorem fmtIs_ne {l : List Int} (h : l.all inI = true) : fmtIs l ≠ ByteArray.empty := by
  cases l with
  | nil => exact dash_ne
  | cons a l =>
    rw [fmtIs_yes h (by simp)]
    refine joinB_ne (by simp) ?_
    rw [List.map_cons, List.getD_cons_zero]
    rw [List.all_cons, Bool.and_eq_true] at h
    exact (inI_ne a).1 h.1
theorem fmtIs_ne_iff (l : List Int) : fmtIs l ≠ ByteArray.empty ↔ l.all inI = true := by
  constructor
  · intro h
    by_cases e : l.all inI = true
    · exact e
    · exact absurd (fmtIs_no e) h
  · exact fmtIs_ne
theorem okI_dash : okI dash = false := by
  cases e : okI dash with
  | false => rfl
  | true =>
    exfalso
    obtain ⟨h1, h2, h3⟩ := okI_true e
    obtain ⟨_, hl⟩ := fmtI_list h1 h2
    have hd : dash.data.toList = [45] := rfl
    rw [hd] at hl
    rcases itoa_shape (valI dash) with ⟨_, e2⟩ | ⟨_, e2⟩
    · rw [e2] at hl
      have := decDigits_pos (valI dash).natAbs
      injection hl with _ hl
      rw [← hl] at this
      simp at this
    · rw [e2] at hl
      have := decDigits_all (valI dash).natAbs 45 (by rw [← hl]; simp)
      revert this; decide
theorem fmtI_no {c : UInt8} (n : Int) (h : ¬ (c.toNat = 45 ∨ (48 ≤ c.toNat ∧ c.toNat ≤ 57))) : c ∉ (fmtI n).data.toList := fun hm => h (fmtI_bytes n c hm)
theorem fmtI_comma (n : Int) : (44 : UInt8) ∉ (fmtI n).data.toList := fmtI_no n (by decide)
theorem fmtI_colon (n : Int) : (58 : UInt8) ∉ (fmtI n).data.toList := fmtI_no n (by decide)
theorem split_fmtIs {l : List Int} (h0 : l ≠ []) : splitAny (joinB (l.map fmtI) comma) comma = l.map fmtI :=
  splitAny_join (by simpa using h0) (fun x hx => by obtain ⟨n, _, rfl⟩ := List.mem_map.1 hx; exact fmtI_comma n)
theorem all_okI {l : List Int} (h : l.all inI = true) : (l.map fmtI).all okI = true := by
  rw [List.all_eq_true] at h ⊢
  intro x hx
  obtain ⟨n, hn, rfl⟩ := List.mem_map.1 hx
  exact (okI_fmt ((inI_iff n).1 (h n hn))).1
theorem map_valI {l : List Int} (h : l.all inI = true) : (l.map fmtI).map valI = l := by
  rw [List.all_eq_true] at h
  rw [List.map_map]
  conv => rhs; rw [← List.map_id l]
  exact List.map_congr_left fun n hn => (okI_fmt ((inI_iff n).1 (h n hn))).2
/-- What is formatted is parsed as it was. -/
theorem parIs_fmt {l : List Int} (h : l.all inI = true) : parIs (fmtIs l) = (l, true) := by
  by_cases h0 : l = []
  · subst h0; rfl
  · rw [fmtIs_yes h h0]
    have hs := split_fmtIs h0
    have hd : joinB (l.map fmtI) comma ≠ dash := by
      intro e
      rw [e] at hs
      have hd2 : splitAny dash comma = [dash] := map_list_inj (by
        have : (splitAny dash ⟨#[44]⟩).map (·.data.toList) = splitL 44 [45] := splitAny_list dash 44
        exact this.trans (by simp [splitL, dash]))
      rw [hd2] at hs
      have ha := all_okI h
      rw [← hs] at ha
      simp [okI_dash] at ha
    unfold parIs
    rw [if_neg hd, hs, if_pos (all_okI h), map_valI h]
theorem fmt_valI {l : List ByteArray} (h : l.all okI = true) : (l.map valI).map fmtI = l := by
  rw [List.all_eq_true] at h
  rw [List.map_map]
  conv => rhs; rw [← List.map_id l]
  exact List.map_congr_left fun x hx => (okI_true (h x hx)).2.1
theorem all_inI (l : List ByteArray) : (l.map valI).all inI = true := by
  rw [List.all_eq_true]
  intro n hn
  obtain ⟨x, _, rfl⟩ := List.mem_map.1 hn
  exact (inI_iff _).2 (okI_bd x)
theorem splitAny_ne (s y : ByteArray) : splitAny s y ≠ [] := by
  have := splitAny_pos s y
  intro e; rw [e] at this; simp at this
/-- What is parsed is formatted as it was. -/
theorem fmtIs_par {s : ByteArray} (h : (parIs s).2 = true) : fmtIs (parIs s).1 = s ∧ (parIs s).1.all inI = true := by
  unfold parIs at h ⊢
  by_cases hd : s = dash
  · rw [if_pos hd, hd]; exact ⟨rfl, rfl⟩
  · rw [if_neg hd] at h ⊢
    by_cases ha : (splitAny s comma).all okI = true
    · rw [if_pos ha]
      refine ⟨?_, all_inI _⟩
      show fmtIs ((splitAny s comma).map valI) = s
      rw [fmtIs_yes (all_inI _) (by simpa using splitAny_ne s comma), fmt_valI ha]
      exact join_splitAny s 44
    · rw [if_neg ha] at h; cases h
theorem parIs_len (s : ByteArray) : (parIs s).1.length ≤ s.size + 1 := by
  have := splitAny_len s comma
  unfold parIs
  split
  · simp
  · split
    · simpa using this
    · simp
theorem fmtIs_comma_free {l : List Int} (c : UInt8) (h : ¬ (c.toNat = 45 ∨ (48 ≤ c.toNat ∧ c.toNat ≤ 57))) (h2 : c ≠ 44) : c ∉ (fmtIs l).data.toList := by
  unfold fmtIs
  split
  · split
    · intro hm
      have : c = 45 := by simpa [dash] using hm
      subst this
      exact h (.inl rfl)
    · intro hm
      have hm' : c ∈ Lib.join ((l.map fmtI).map (·.data.toList)) [44] := by simpa [joinB, comma] using hm
      revert hm'
      have hx : ∀ x ∈ (l.map fmtI).map (·.data.toList), c ∉ x := by
        intro x hx
        rw [List.map_map] at hx
        obtain ⟨n, _, rfl⟩ := List.mem_map.1 hx
        exact fmtI_no n h
      generalize (l.map fmtI).map (·.data.toList) = ls at hx
      cases ls with
      | nil => simp [Lib.join_nil]
      | cons a ls =>
        rw [Lib.join_cons]
        have hx' : ∀ x ∈ ls, c ∉ x := fun x hh => hx x (by simp [hh])
        have ht : c ∉ Lib.joinTail [44] ls := by
          clear hx hm
          induction ls with
          | nil => simp [Lib.joinTail]
          | cons b ls ih =>
            have e : Lib.joinTail [44] (b :: ls) = ([44] ++ b) ++ Lib.joinTail [44] ls := by simp [Lib.joinTail]
            rw [e]
            intro hmm
            rcases List.mem_append.1 hmm with h' | h'
            · rcases List.mem_append.1 h' with h'' | h''
              · exact h2 (by simpa using h'')
              · exact hx' b (by simp) h''
            · exact ih (fun x hh => hx' x (by simp [hh])) h'
        intro hmm
        rcases List.mem_append.1 hmm with h' | h'
        · exact hx a (by simp) h'
        · exact ht h'
  · simp

/-! ## Steps -/
def stepW (s : Int × Int) : ByteArray := fmtI s.1 ++ colon ++ fmtI s.2
def fmtSt (l : List (Int × Int)) : ByteArray := if stOkB l = true then joinB (l.map stepW) comma else ByteArray.empty
def cutA (w : ByteArray) : ByteArray := ⟨(Lib.cut w.data.toList colon.data.toList).1.toArray⟩
def cutB (w : ByteArray) : ByteArray := ⟨(Lib.cut w.data.toList colon.data.toList).2.1.toArray⟩
def cutOk (w : ByteArray) : Bool := (Lib.cut w.data.toList colon.data.toList).2.2
def okSt (w : ByteArray) : Bool := cutOk w && (okI (cutA w) && okI (cutB w))
def valSt (w : ByteArray) : Int × Int := (valI (cutA w), valI (cutB w))
def parSt (s : ByteArray) : List (Int × Int) × Bool := if ((splitAny s comma).all okSt && stOkB ((splitAny s comma).map valSt)) = true then ((splitAny s comma).map valSt, true) else ([], false)
theorem occ_one (s : List UInt8) (c : UInt8) (i : Nat) : Lib.occAt s [c] i = true ↔ s[i]? = some c := by
  unfold Lib.occAt
  cases h : s.drop i with
  | nil =>
    have : s.length ≤ i := List.drop_eq_nil_iff.1 h
    rw [List.getElem?_eq_none this]
    simp
  | cons b r =>
    have e : s[i]? = some b := by
      have := congrArg (·[0]?) h
      simpa using this
    rw [e]
    simp
    exact ⟨fun e => e.symm, fun e => e.symm⟩
theorem cut_at {c : UInt8} {a : List UInt8} (h : c ∉ a) (b : List UInt8) : Lib.cut (a ++ c :: b) [c] = (a, b, true) := by
  have hi : Lib.index (a ++ c :: b) [c] = (a.length : Int) := by
    rcases Lib.index_spec (a ++ c :: b) [c] with ⟨_, h2⟩ | ⟨i, h1, _, h3, h4⟩
    · have := h2 a.length (by simp)
      have h5 := (occ_one (a ++ c :: b) c a.length).2 (by simp)
      rw [h5] at this; cases this
    · rw [h1]
      rw [occ_one] at h3
      rcases Nat.lt_trichotomy i a.length with hl | hl | hl
      · rw [List.getElem?_append_left hl] at h3
        exact absurd (List.mem_of_getElem? h3) h
      · rw [hl]
      · have h6 := h4 a.length hl
        have h5 := (occ_one (a ++ c :: b) c a.length).2 (by simp)
        rw [h5] at h6; cases h6
  unfold Lib.cut
  rw [hi, if_pos (by omega)]
  simp
theorem cut_no {c : UInt8} {l : List UInt8} (h : c ∉ l) : Lib.cut l [c] = (l, [], false) := by
  have hi : Lib.index l [c] = -1 := by
    rcases Lib.index_spec l [c] with ⟨h1, _⟩ | ⟨i, h1, _, h3, h4⟩
    · exact h1
    · rw [occ_one] at h3
      exact absurd (List.mem_of_getElem? h3) h
  unfold Lib.cut
  rw [hi, if_neg (by omega)]
theorem mem_cut {c : UInt8} {l : List UInt8} (h : c ∈ l) : ∃ a b, l = a ++ c :: b ∧ c ∉ a := by
  induction l with
  | nil => cases h
  | cons x l ih =>
    by_cases hx : x = c
    · subst hx; exact ⟨[], l, rfl, by simp⟩
    · rcases List.mem_cons.1 h with e | e
      · exact absurd e.symm hx
      · obtain ⟨a, b, e1, e2⟩ := ih e
        exact ⟨x :: a, b, by rw [e1]; rfl, by simp only [List.mem_cons, not_or]; exact ⟨fun e => hx e.symm, e2⟩⟩
/-- A word with a colon in it: what stands on both sides. -/
theorem cut_word {w : ByteArray} (h : cutOk w = true) : w = cutA w ++ colon ++ cutB w ∧ (58 : UInt8) ∉ (cutA w).data.toList := by
  unfold cutOk at h
  have hc : colon.data.toList = [58] := rfl
  by_cases hm : (58 : UInt8) ∈ w.data.toList
  · obtain ⟨a, b, e1, e2⟩ := mem_cut hm
    have e3 : Lib.cut w.data.toList colon.data.toList = (a, b, true) := by rw [hc, e1]; exact cut_at e2 b
    unfold cutA cutB
    rw [e3]
    refine ⟨str_ext ?_, by simpa using e2⟩
    simp [e1, colon]
  · rw [hc, cut_no hm] at h; cases h
theorem cut_made {a b : ByteArray} (h : (58 : UInt8) ∉ a.data.toList) : cutOk (a ++ colon ++ b) = true ∧ cutA (a ++ colon ++ b) = a ∧ cutB (a ++ colon ++ b) = b := by
  have e : Lib.cut (a ++ colon ++ b).data.toList colon.data.toList = (a.data.toList, b.data.toList, true) := by
    have e1 : (a ++ colon ++ b).data.toList = a.data.toList ++ 58 :: b.data.toList := by simp [colon]
    rw [e1]
    exact cut_at h _
  unfold cutOk cutA cutB
  rw [e]
  exact ⟨rfl, str_ext (by simp), str_ext (by simp)⟩
theorem stepW_val {w : ByteArray} (h : okSt w = true) : stepW (valSt w) = w := by
  unfold okSt at h
  rw [Bool.and_eq_true, Bool.and_eq_true] at h
  obtain ⟨h1, h2, h3⟩ := h
  unfold stepW valSt
  rw [(okI_true h2).2.1, (okI_true h3).2.1]
  exact (cut_word h1).1.symm
theorem okSt_stepW {s : Int × Int} (h1 : -100000 ≤ s.1 ∧ s.1 ≤ 100000) (h2 : -100000 ≤ s.2 ∧ s.2 ≤ 100000) : okSt (stepW s) = true ∧ valSt (stepW s) = s := by
  obtain ⟨e1, e2, e3⟩ := cut_made (a := fmtI s.1) (b := fmtI s.2) (fmtI_colon s.1)
  unfold okSt valSt stepW
  rw [e1, e2, e3, (okI_fmt h1).1, (okI_fmt h2).1, (okI_fmt h1).2, (okI_fmt h2).2]
  exact ⟨rfl, rfl⟩
theorem stepW_comma (s : Int × Int) : (44 : UInt8) ∉ (stepW s).data.toList := by
  have e : (stepW s).data.toList = (fmtI s.1).data.toList ++ ([58] ++ (fmtI s.2).data.toList) := by simp [stepW, colon]
  rw [e]
  simp only [List.mem_append, not_or]
  exact ⟨fmtI_comma _, by decide, fmtI_comma _⟩
theorem split_steps {l : List (Int × Int)} (h0 : l ≠ []) : splitAny (joinB (l.map stepW) comma) comma = l.map stepW :=
  splitAny_join (by simpa using h0) (fun x hx => by obtain ⟨n, _, rfl⟩ := List.mem_map.1 hx; exact stepW_comma n)
theorem map_stepW {l : List ByteArray} (h : l.all okSt = true) : (l.map valSt).map stepW = l := by
  rw [List.all_eq_true] at h
  rw [List.map_map]
  conv => rhs; rw [← List.map_id l]
  exact List.map_congr_left fun x hx => stepW_val (h x hx)
def inSt (s : Int × Int) : Bool := inI s.1 && inI s.2
theorem all_okSt {l : List (Int × Int)} (h : l.all inSt = true) : (l.map stepW).all okSt = true ∧ (l.map stepW).map valSt = l := by
  rw [List.all_eq_true] at h
  have hh : ∀ s ∈ l, okSt (stepW s) = true ∧ valSt (stepW s) = s := fun s hs => by
    have := h s hs
    unfold inSt at this
    rw [Bool.and_eq_true] at this
    exact okSt_stepW ((inI_iff _).1 this.1) ((inI_iff _).1 this.2)
  constructor
  · rw [List.all_eq_true]
    intro x hx
    obtain ⟨s, hs, rfl⟩ := List.mem_map.1 hx
    exact (hh s hs).1
  · rw [List.map_map]
    conv => rhs; rw [← List.map_id l]
    exact List.map_congr_left fun n hn => (hh n hn).2
/-- The reference's way: cut at every colon; the first two pieces. -/
def okSt2 (w : ByteArray) : Bool := okI ((splitAny w colon ++ [ByteArray.empty]).getD 0 ByteArray.empty) && okI ((splitAny w colon ++ [ByteArray.empty]).getD 1 ByteArray.empty)
def valSt2 (w : ByteArray) : Int × Int := (valI ((splitAny w colon ++ [ByteArray.empty]).getD 0 ByteArray.empty), valI ((splitAny w colon ++ [ByteArray.empty]).getD 1 ByteArray.empty))
theorem okSt_two {w : ByteArray} (h : okSt w = true) : okSt2 w = true ∧ valSt2 w = valSt w := by
  unfold okSt at h
  rw [Bool.and_eq_true, Bool.and_eq_true] at h
  obtain ⟨h1, h2, h3⟩ := h
  obtain ⟨e, hn⟩ := cut_word h1
  have hb : (58 : UInt8) ∉ (cutB w).data.toList := by
    rw [← (okI_true h3).2.1]; exact fmtI_colon _
  have hs : splitAny w colon = [cutA w, cutB w] := by
    have : w = joinB [cutA w, cutB w] colon := by
      apply str_ext
      conv => lhs; rw [e]
      simp [joinB, Lib.join_cons, Lib.joinTail]
    conv => lhs; rw [this]
    exact splitAny_join (by simp) (fun x hx => by
      simp at hx
      rcases hx with rfl | rfl
      · exact hn
      · exact hb)
  unfold okSt2 valSt2 valSt
  rw [hs]
  exact ⟨by simp [h2, h3], by simp⟩
theorem okSt2_in (w : ByteArray) : inSt (valSt2 w) = true := by
  unfold inSt valSt2
  rw [(inI_iff _).2 (okI_bd _), (inI_iff _).2 (okI_bd _)]; rfl
theorem okSt2_empty : okSt2 ByteArray.empty = false := by
  have hs : splitAny ByteArray.empty colon = [ByteArray.empty] := map_list_inj (splitAny_list ByteArray.empty 58)
  have h0 : okI ByteArray.empty = false := by
    cases e : okI ByteArray.empty with
    | false => rfl
    | true => exact absurd rfl (okI_true e).1
  unfold okSt2
  rw [hs]
  simp [h0]
theorem parSt_spec (s : ByteArray) : parSt s = if ((splitAny s comma).all okSt2 && decide (fmtSt ((splitAny s comma).map valSt2) = s)) = true then ((splitAny s comma).map valSt2, true) else ([], false) := by
  unfold parSt
  have hne := splitAny_ne s comma
  by_cases h : ((splitAny s comma).all okSt && stOkB ((splitAny s comma).map valSt)) = true
  · rw [if_pos h]
    rw [Bool.and_eq_true] at h
    obtain ⟨h1, h2⟩ := h
    have h1' := h1
    rw [List.all_eq_true] at h1'
    have hv : (splitAny s comma).map valSt2 = (splitAny s comma).map valSt := List.map_congr_left fun x hx => (okSt_two (h1' x hx)).2
    have ha : (splitAny s comma).all okSt2 = true := by
      rw [List.all_eq_true]; exact fun x hx => (okSt_two (h1' x hx)).1
    have hf : fmtSt ((splitAny s comma).map valSt2) = s := by
      unfold fmtSt
      rw [hv, if_pos h2, map_stepW h1]
      exact join_splitAny s 44
    rw [if_pos (by rw [ha, decide_eq_true hf]; rfl), hv]
  · rw [if_neg h]
    by_cases h2 : ((splitAny s comma).all okSt2 && decide (fmtSt ((splitAny s comma).map valSt2) = s)) = true
    · exfalso
      rw [Bool.and_eq_true, decide_eq_true_eq] at h2
      obtain ⟨ha, hf⟩ := h2
      apply h
      by_cases hok : stOkB ((splitAny s comma).map valSt2) = true
      · unfold fmtSt at hf
        rw [if_pos hok] at hf
        have hsp := split_steps (l := (splitAny s comma).map valSt2) (by simpa using hne)
        rw [hf] at hsp
        have hin : ((splitAny s comma).map valSt2).all inSt = true := by
          rw [List.all_eq_true]
          intro x hx
          obtain ⟨y, _, rfl⟩ := List.mem_map.1 hx
          exact okSt2_in y
        obtain ⟨g1, g2⟩ := all_okSt hin
        rw [← hsp] at g1 g2
        rw [g1, g2, hok]; rfl
      · unfold fmtSt at hf
        rw [if_neg hok] at hf
        rw [← hf] at ha
        have hs : splitAny ByteArray.empty comma = [ByteArray.empty] := map_list_inj (splitAny_list ByteArray.empty 44)
        rw [hs] at ha
        simp [okSt2_empty] at ha
    · rw [if_neg h2]
theorem parSt_len (s : ByteArray) : (parSt s).1.length ≤ s.size + 1 := by
  have := splitAny_len s comma
  unfold parSt
  split
  · simpa using this
  · simp

/-! ## Modes -/
def durInB (n : Int) : Bool := decide (1 ≤ n ∧ n ≤ 12)
def fmtMd (m : Md) : ByteArray := if (durInB m.dur && (m.use.all inI && m.con.all inI)) = true then fmtI m.dur ++ slash ++ fmtIs m.use ++ slash ++ fmtIs m.con else ByteArray.empty
def pcs (s : ByteArray) (k : Nat) : ByteArray := (splitAny s slash).getD k ByteArray.empty
def parMdB (s : ByteArray) : Bool := decide ((splitAny s slash).length = 3) && (okI (pcs s 0) && ((parIs (pcs s 1)).2 && ((parIs (pcs s 2)).2 && durInB (valI (pcs s 0)))))
def parMd (s : ByteArray) : Md := if parMdB s = true then ⟨valI (pcs s 0), (parIs (pcs s 1)).1, (parIs (pcs s 2)).1⟩ else md0
theorem join3 (a b c : ByteArray) : joinB [a, b, c] slash = a ++ slash ++ b ++ slash ++ c := by
  apply str_ext
  simp [joinB, Lib.join_cons, Lib.joinTail]
theorem list3 {l : List ByteArray} (h : l.length = 3) : l = [l.getD 0 ByteArray.empty, l.getD 1 ByteArray.empty, l.getD 2 ByteArray.empty] := by
  match l, h with
  | [a, b, c], _ => rfl
/-- The reference asks that the mode is formatted as it was; the program that the duration is in its bounds. -/
theorem parMd_same {s : ByteArray} (h : (splitAny s slash).length = 3) (h0 : okI (pcs s 0) = true) (h1 : (parIs (pcs s 1)).2 = true) (h2 : (parIs (pcs s 2)).2 = true) :
    decide (fmtMd ⟨valI (pcs s 0), (parIs (pcs s 1)).1, (parIs (pcs s 2)).1⟩ = s) = durInB (valI (pcs s 0)) := by
  obtain ⟨f1, i1⟩ := fmtIs_par h1
  obtain ⟨f2, i2⟩ := fmtIs_par h2
  unfold fmtMd
  simp only [i1, i2, Bool.and_true]
  cases hd : durInB (valI (pcs s 0))
  · rw [if_neg (by decide)]
    rw [decide_eq_false_iff_not]
    intro e
    have hs : splitAny ByteArray.empty slash = [ByteArray.empty] := map_list_inj (splitAny_list ByteArray.empty 47)
    rw [← e, hs] at h
    simp at h
  · rw [if_pos rfl, decide_eq_true_eq, (okI_true h0).2.1, f1, f2, ← join3]
    have := list3 h
    show joinB [(splitAny s slash).getD 0 ByteArray.empty, (splitAny s slash).getD 1 ByteArray.empty, (splitAny s slash).getD 2 ByteArray.empty] slash = s
    rw [← this]
    exact join_splitAny s 47
theorem fmtMd_split (m : Md) : splitAny (fmtI m.dur ++ slash ++ fmtIs m.use ++ slash ++ fmtIs m.con) slash = [fmtI m.dur, fmtIs m.use, fmtIs m.con] := by
  rw [← join3]
  exact splitAny_join (by simp) (fun x hx => by
    simp at hx
    rcases hx with rfl | rfl | rfl
    · exact fmtI_no _ (by decide)
    · exact fmtIs_comma_free 47 (by decide) (by decide)
    · exact fmtIs_comma_free 47 (by decide) (by decide))
theorem parMd_fmt {m : Md} (h : (durInB m.dur && (m.use.all inI && m.con.all inI)) = true) : parMdB (fmtMd m) = true ∧ parMd (fmtMd m) = m := by
  have e : fmtMd m = fmtI m.dur ++ slash ++ fmtIs m.use ++ slash ++ fmtIs m.con := by unfold fmtMd; rw [if_pos h]
  rw [Bool.and_eq_true, Bool.and_eq_true] at h
  obtain ⟨h1, h2, h3⟩ := h
  have hd : -100000 ≤ m.dur ∧ m.dur ≤ 100000 := by unfold durInB at h1; rw [decide_eq_true_eq] at h1; omega
  have hs := fmtMd_split m
  rw [← e] at hs
  have hb : parMdB (fmtMd m) = true := by
    unfold parMdB pcs
    rw [hs]
    simp [(okI_fmt hd).1, (okI_fmt hd).2, parIs_fmt h2, parIs_fmt h3, h1]
  refine ⟨hb, ?_⟩
  unfold parMd
  rw [if_pos hb]
  unfold pcs
  rw [hs]
  simp [(okI_fmt hd).2, parIs_fmt h2, parIs_fmt h3]
end Go.Proofs.YtcecgbjolngdbaaGreatDoor
