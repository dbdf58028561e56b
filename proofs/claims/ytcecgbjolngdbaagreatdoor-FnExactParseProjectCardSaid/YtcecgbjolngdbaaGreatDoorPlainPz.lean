/- How large a project is that is parsed from a text. Nothing here speaks of a program. -/
import Derived.Test.YtcecgbjolngdbaaGreatDoorPlainPj
namespace Go.Proofs.YtcecgbjolngdbaaGreatDoor
open Go.RowKit
set_option linter.unusedVariables false

/-- What some words weigh: their bytes, and one for each. -/
def wz (l : List ByteArray) : Nat := (l.map fun x => x.size + 1).sum
theorem wz_app (a b : List ByteArray) : wz (a ++ b) = wz a + wz b := by simp [wz]
theorem wz_cons (a : ByteArray) (l : List ByteArray) : wz (a :: l) = a.size + 1 + wz l := by simp [wz]
theorem wz_take (l : List ByteArray) (k : Nat) : wz (l.take k) ≤ wz l := by
  conv => rhs; rw [← List.take_append_drop k l, wz_app]
  omega
theorem wz_drop (l : List ByteArray) (k : Nat) : wz (l.drop k) ≤ wz l := by
  conv => rhs; rw [← List.take_append_drop k l, wz_app]
  omega
theorem wz_len (l : List ByteArray) : l.length ≤ wz l := by
  induction l with
  | nil => simp
  | cons a l ih => rw [wz_cons, List.length_cons]; omega
theorem joinTail_wz (c : UInt8) (l : List ByteArray) : (Lib.joinTail [c] (l.map (·.data.toList))).length = wz l := by
  unfold Lib.joinTail
  induction l with
  | nil => rfl
  | cons a l ih =>
    rw [List.map_cons, List.map_cons, List.flatten_cons, List.length_append, ih, wz_cons]
    have : a.data.toList.length = a.size := by simp
    simp only [List.singleton_append, List.length_cons, this]
theorem wz_split (s : ByteArray) (c : UInt8) : wz (splitAny s ⟨#[c]⟩) = s.size + 1 := by
  have hj := join_splitAny s c
  have hne := splitAny_pos s ⟨#[c]⟩
  generalize splitAny s ⟨#[c]⟩ = L at hj hne ⊢
  cases L with
  | nil => simp at hne
  | cons a l =>
    have e : (joinB (a :: l) ⟨#[c]⟩).size = a.size + wz l := by
      have h1 : (joinB (a :: l) ⟨#[c]⟩).size = (Lib.join ((a :: l).map (·.data.toList)) [c]).length := by simp [joinB, ByteArray.size]
      rw [h1, List.map_cons, Lib.join_cons, List.length_append, joinTail_wz]
      simp
    rw [hj] at e
    rw [wz_cons]; omega
theorem lines_wz (s : ByteArray) : wz (splitLines s) ≤ s.size + 1 := by
  have h := wz_split s 10
  have e : splitAny s newline = splitAny s ⟨#[10]⟩ := rfl
  unfold splitLines
  rw [e]
  split
  · have := wz_take (splitAny s ⟨#[10]⟩) ((splitAny s ⟨#[10]⟩).length - 1)
    omega
  · omega
theorem words_wz (x : ByteArray) : wz (words x) = x.size + 1 := wz_split x 32
theorem words_ne (x : ByteArray) : words x ≠ [] := splitAny_ne x space
theorem gw_cons (a : ByteArray) (l : List ByteArray) (k : Nat) : gw (a :: l) (k + 1) = gw l k := rfl
theorem gw_zero (a : ByteArray) (l : List ByteArray) : gw (a :: l) 0 = a := rfl
theorem gw_size (l : List ByteArray) (k : Nat) (h : k < l.length) : (gw l k).size + 1 ≤ wz l := by
  induction l generalizing k with
  | nil => simp at h
  | cons a l ih =>
    rw [wz_cons]
    cases k with
    | zero => rw [gw_zero]; omega
    | succ k =>
      rw [List.length_cons] at h
      have := ih k (by omega)
      rw [gw_cons]; omega
theorem parMd_two (x : ByteArray) : szMd (parMd x) ≤ 2 * (x.size + 1) := by
  unfold parMd
  split
  · rename_i h
    unfold parMdB at h
    rw [Bool.and_eq_true, decide_eq_true_eq] at h
    have hs := wz_split x 47
    have e : splitAny x slash = splitAny x ⟨#[47]⟩ := rfl
    rw [← e] at hs
    have h1 := gw_size (splitAny x slash) 1 (by omega)
    have h2 := gw_size (splitAny x slash) 2 (by omega)
    have h3 := parIs_len (pcs x 1)
    have h4 := parIs_len (pcs x 2)
    have e1 : pcs x 1 = gw (splitAny x slash) 1 := rfl
    have e2 : pcs x 2 = gw (splitAny x slash) 2 := rfl
    rw [← e1] at h1
    rw [← e2] at h2
    show (parIs (pcs x 1)).1.length + (parIs (pcs x 2)).1.length ≤ _
    omega
  · exact Nat.zero_le _
theorem szL_snoc {α : Type} (f : α → Nat) (l : List α) (a : α) : szL f (l ++ [a]) = szL f l + 1 + f a := by
  unfold szL
  rw [List.length_append, List.map_append, List.sum_append]
  simp
  omega
theorem szL_modes (l : List ByteArray) : szL szMd (l.map parMd) ≤ 3 * wz l := by
  unfold szL
  rw [List.length_map]
  induction l with
  | nil => simp
  | cons a l ih =>
    have := parMd_two a
    rw [wz_cons, List.length_cons, List.map_cons, List.map_cons, List.sum_cons]
    omega
theorem rows4_len (l : List Int) : (rows4 l).length = l.length / 4 := by simp [rows4]
theorem rows4_get (l : List Int) (i : Nat) (h : i < l.length / 4) : (rows4 l).getD i [] = (l.drop (4 * i)).take 4 := by
  rw [getD_get [] (by rw [rows4_len]; exact h)]
  simp [rows4]
theorem rows4_sz (l : List Int) : szL List.length (rows4 l) ≤ 2 * l.length := by
  have hs : ∀ n, ((List.range n).map fun i => ((l.drop (4 * i)).take 4).length).sum ≤ 4 * n := by
    intro n
    induction n with
    | zero => simp
    | succ n ih =>
      rw [List.range_succ, List.map_append, List.sum_append]
      simp only [List.map_cons, List.map_nil, List.sum_cons, List.sum_nil]
      have := List.length_take_le 4 (l.drop (4 * n))
      omega
  have := hs (l.length / 4)
  unfold szL
  rw [rows4_len]
  have e : (rows4 l).map List.length = (List.range (l.length / 4)).map fun i => ((l.drop (4 * i)).take 4).length := by unfold rows4; rw [List.map_map]; rfl
  rw [e]
  omega
theorem szRs_par (ws : List ByteArray) : szRs (parRs ws) ≤ 3 * wz ws := by
  unfold parRs szRs
  simp only
  have hw := wz_len ws
  have a1 : (if 1 < ws.length then (parSt (gw ws 1)).1 else []).length ≤ wz ws := by
    split
    · have := parSt_len (gw ws 1); have := gw_size ws 1 (by assumption); omega
    · simp
  have a2 : szL List.length (if 2 < ws.length then rows4 (parIs (gw ws 2)).1 else []) ≤ 2 * wz ws := by
    split
    · have := parIs_len (gw ws 2); have := gw_size ws 2 (by assumption); have := rows4_sz (parIs (gw ws 2)).1; omega
    · simp [szL]
  omega
theorem szAc_par (ws : List ByteArray) : szAc (parAc ws) ≤ 3 * wz ws := by
  show (gw ws 1).size + szL szMd ((ws.drop 3).map parMd) ≤ _
  have h1 := szL_modes (ws.drop 3)
  by_cases h : 1 < ws.length
  · obtain ⟨a, b, r, rfl⟩ : ∃ a b r, ws = a :: b :: r := by
      match ws, h with
      | a :: b :: r, _ => exact ⟨a, b, r, rfl⟩
    have e : gw (a :: b :: r) 1 = b := rfl
    have e2 : (a :: b :: r).drop 3 = r.drop 1 := rfl
    rw [e2] at h1
    have := wz_drop r 1
    rw [e, e2, wz_cons, wz_cons]
    omega
  · have e : gw ws 1 = ByteArray.empty := by
      unfold gw
      rw [List.getD_eq_getElem?_getD, List.getElem?_eq_none (by omega)]; rfl
    have := wz_drop ws 3
    rw [e]
    show 0 + _ ≤ _
    omega
theorem szPj_step (p : Pj) (ws : List ByteArray) (h : ws ≠ []) : szPj (stepP p ws) ≤ szPj p + 4 * wz ws := by
  have hl : 1 ≤ wz ws := by
    have := wz_len ws
    have : 0 < ws.length := List.length_pos_iff.2 h
    omega
  have hr := szRs_par ws
  have ha := szAc_par ws
  unfold stepP
  split
  · show szPj p ≤ _; omega
  · split
    · show szL szAc p.acts + (p.links.length + (szL szRs (p.res ++ [parRs ws]) + p.stocks.length)) ≤ _
      rw [szL_snoc]
      show _ ≤ szL szAc p.acts + (p.links.length + (szL szRs p.res + p.stocks.length)) + _
      omega
    · split
      · show szL szAc p.acts + (p.links.length + (szL szRs p.res + (p.stocks ++ [valI (gw ws 1)]).length)) ≤ _
        rw [List.length_append, List.length_singleton]
        show _ ≤ szL szAc p.acts + (p.links.length + (szL szRs p.res + p.stocks.length)) + _
        omega
      · split
        · show szL szAc (p.acts ++ [parAc ws]) + (p.links.length + (szL szRs p.res + p.stocks.length)) ≤ _
          rw [szL_snoc]
          show _ ≤ szL szAc p.acts + (p.links.length + (szL szRs p.res + p.stocks.length)) + _
          omega
        · split
          · show szL szAc p.acts + ((p.links ++ [parLk p ws]).length + (szL szRs p.res + p.stocks.length)) ≤ _
            rw [List.length_append, List.length_singleton]
            show _ ≤ szL szAc p.acts + (p.links.length + (szL szRs p.res + p.stocks.length)) + _
            omega
          · omega
theorem resTo_sz (l : List ByteArray) (k : Nat) (hk : k ≤ l.length) : szPj (resTo l k) ≤ 4 * wz (l.take k) := by
  induction k with
  | zero => show szPj pj0 ≤ _; exact Nat.zero_le _
  | succ k ih =>
    have h1 := ih (by omega)
    rw [resTo_succ (by omega), take_snoc ByteArray.empty (by omega), wz_app]
    have h2 := szPj_step (resTo l k) (words (l.getD k ByteArray.empty)) (words_ne _)
    rw [words_wz] at h2
    have e : wz [l.getD k ByteArray.empty] = (l.getD k ByteArray.empty).size + 1 := by simp [wz]
    omega
theorem resTo_lines (s : ByteArray) (k : Nat) (hk : k ≤ (splitLines s).length) : szPj (resTo (splitLines s) k) ≤ 4 * (s.size + 1) := by
  have h1 := resTo_sz (splitLines s) k hk
  have h2 := wz_take (splitLines s) k
  have h3 := lines_wz s
  omega
theorem parPj_sz {p : Pj} (h : pjOkB p = true) : szPj p ≤ 1000 := by
  obtain ⟨_, h1, h2, h3, h4, hA, hR, hS, hL⟩ := pjOk_parts h
  have a1 : ∀ l : List Ac, (∀ a ∈ l, szAc a ≤ 30) → szL szAc l ≤ 31 * l.length := by
    intro l
    induction l with
    | nil => intro _; simp [szL]
    | cons a l ih =>
      intro hh
      have := hh a (by simp)
      have := ih fun x hx => hh x (by simp [hx])
      unfold szL at *
      rw [List.length_cons, List.map_cons, List.sum_cons]; omega
  have a2 : ∀ l : List Rs, (∀ a ∈ l, szRs a ≤ 30) → szL szRs l ≤ 31 * l.length := by
    intro l
    induction l with
    | nil => intro _; simp [szL]
    | cons a l ih =>
      intro hh
      have := hh a (by simp)
      have := ih fun x hx => hh x (by simp [hx])
      unfold szL at *
      rw [List.length_cons, List.map_cons, List.sum_cons]; omega
  have a3 : ∀ l : List Md, (∀ a ∈ l, szMd a ≤ 5) → szL szMd l ≤ 6 * l.length := by
    intro l
    induction l with
    | nil => intro _; simp [szL]
    | cons a l ih =>
      intro hh
      have := hh a (by simp)
      have := ih fun x hx => hh x (by simp [hx])
      unfold szL at *
      rw [List.length_cons, List.map_cons, List.sum_cons]; omega
  have a4 : ∀ l : List (List Int), (∀ a ∈ l, a.length = 4) → szL List.length l = 5 * l.length := by
    intro l
    induction l with
    | nil => intro _; simp [szL]
    | cons a l ih =>
      intro hh
      have := hh a (by simp)
      have := ih fun x hx => hh x (by simp [hx])
      unfold szL at *
      rw [List.length_cons, List.map_cons, List.sum_cons]; omega
  have b1 := a1 p.acts fun a ha => by
    obtain ⟨hm, hn, _, hm1, hm3⟩ := acOk_parts (hA a ha)
    have hn8 : a.name.size ≤ 8 := by
      unfold isNm at hn
      rw [Bool.and_eq_true, decide_eq_true_eq] at hn
      omega
    have := a3 a.modes fun m hmm => by
      have h := hm m hmm
      unfold mdOkB amtsB at h
      simp only [Bool.and_eq_true, decide_eq_true_eq] at h
      have e1 : (m.use.length : Int) = p.res.length := h.1.2.2
      have e2 : (m.con.length : Int) = p.stocks.length := h.2.2
      show m.use.length + m.con.length ≤ 5
      omega
    show a.name.size + szL szMd a.modes ≤ 30
    omega
  have b2 := a2 p.res fun r hr => by
    obtain ⟨hs, ht⟩ := rsOk_parts (hR r hr)
    have h8 := (stOk_all hs).2.2
    have h44 : ∀ x ∈ r.setup, x.length = 4 := fun x hx => by
      have hrok := hR r hr
      unfold rsOkB at hrok
      rw [Bool.and_eq_true, List.all_eq_true] at hrok
      have := hrok.1 x hx
      unfold rowB at this
      rw [Bool.and_eq_true, decide_eq_true_eq] at this
      exact this.1
    have := a4 r.setup h44
    have h4 : r.setup.length ≤ 4 := by
      unfold rsOkB at *
      have hrok := hR r hr
      rw [Bool.and_eq_true] at hrok
      rcases ht with ht | ⟨ht, h16, _⟩
      · omega
      · omega
    show r.steps.length + szL List.length r.setup ≤ 30
    omega
  show szL szAc p.acts + (p.links.length + (szL szRs p.res + p.stocks.length)) ≤ 1000
  omega
end Go.Proofs.YtcecgbjolngdbaaGreatDoor
