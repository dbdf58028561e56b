/- Numbers in words: what formats and parses them, and that each is the other's inverse; nothing here speaks of a program. -/
import Derived.Test.YtcecgbjolngdbaaGreatDoorPlain
import Derived.Lib.ItoaNum
import Derived.Lib.AtoiAll
import Derived.Lib.AtoiTie
namespace Go.Proofs.YtcecgbjolngdbaaGreatDoor
set_option linter.unusedSimpArgs false

/-! ## Digits -/
theorem decFrom_app (a b : List UInt8) : ∀ acc, Lib.decFrom acc (a ++ b) = (Lib.decFrom acc a).bind fun n => Lib.decFrom n b := by
  induction a with
  | nil => intro acc; rfl
  | cons x a ih =>
    intro acc
    rw [List.cons_append, Lib.decFrom, Lib.decFrom]
    cases Lib.digitVal x with
    | none => rfl
    | some d => exact ih _
theorem digit_ofNat {d : Nat} (h : d < 10) : (UInt8.ofNat (48 + d)).toNat = 48 + d := UInt8.toNat_ofNat_of_lt' (by show 48 + d < 256; omega)
theorem digitVal_ofNat {d : Nat} (h : d < 10) : Lib.digitVal (UInt8.ofNat (48 + d)) = some d := by
  unfold Lib.digitVal
  rw [digit_ofNat h, if_pos ⟨by omega, by omega⟩]
  congr 1; omega
theorem dec_digits (u : Nat) : Lib.decFrom 0 (Lib.decDigits u) = some u := by
  induction u using Nat.strongRecOn with
  | _ u ih =>
    rw [Lib.decDigits]
    by_cases h : u < 10
    · rw [dif_pos h]
      simp only [Lib.decFrom, digitVal_ofNat h]
      congr 1; omega
    · rw [dif_neg h, decFrom_app, ih (u / 10) (by omega)]
      show Lib.decFrom (u / 10) _ = _
      simp only [Lib.decFrom, digitVal_ofNat (show u % 10 < 10 by omega)]
      congr 1; omega
theorem decDigits_all (u : Nat) : ∀ b ∈ Lib.decDigits u, 48 ≤ b.toNat ∧ b.toNat ≤ 57 := by
  induction u using Nat.strongRecOn with
  | _ u ih =>
    rw [Lib.decDigits]
    by_cases h : u < 10
    · rw [dif_pos h]
      intro b hb
      rw [List.mem_singleton] at hb
      subst hb
      rw [digit_ofNat h]; omega
    · rw [dif_neg h]
      intro b hb
      rcases List.mem_append.1 hb with hb | hb
      · exact ih (u / 10) (by omega) b hb
      · rw [List.mem_singleton] at hb
        subst hb
        rw [digit_ofNat (show u % 10 < 10 by omega)]; omega
theorem nDigits_le {k u : Nat} (hk : 1 ≤ k) (h : u < 10 ^ k) : Lib.nDigits u ≤ k := by
  induction k generalizing u with
  | zero => omega
  | succ k ih =>
    by_cases hu : u < 10
    · rw [Lib.nDigits_small hu]; omega
    · rw [Lib.nDigits_big hu]
      have hk1 : 1 ≤ k := by
        rcases Nat.eq_zero_or_pos k with e | e
        · subst e; simp at h; omega
        · exact e
      have := ih hk1 (u := u / 10) (by rw [Nat.pow_succ] at h; omega)
      omega
theorem decDigits_len {u : Nat} (h : u ≤ 100000) : (Lib.decDigits u).length ≤ 6 := by
  rw [Lib.decDigits_length]
  exact nDigits_le (by omega) (by omega)
theorem decDigits_pos (u : Nat) : 0 < (Lib.decDigits u).length := by rw [Lib.decDigits_length]; exact Lib.nDigits_pos u
theorem decDigits_cons (u : Nat) : ∃ b r, Lib.decDigits u = b :: r ∧ 48 ≤ b.toNat ∧ b.toNat ≤ 57 := by
  have h0 := decDigits_pos u
  have ha := decDigits_all u
  cases e : Lib.decDigits u with
  | nil => rw [e] at h0; simp at h0
  | cons b r => rw [e] at ha; exact ⟨b, r, rfl, ha b (by simp)⟩

/-! ## One number -/
def fmtI (n : Int) : ByteArray := if -100000 ≤ n ∧ n ≤ 100000 then ⟨(Lib.itoa n).toArray⟩ else ByteArray.empty
theorem fmtI_in {n : Int} (h : -100000 ≤ n ∧ n ≤ 100000) : fmtI n = ⟨(Lib.itoa n).toArray⟩ := if_pos h
theorem fmtI_out {n : Int} (h : ¬ (-100000 ≤ n ∧ n ≤ 100000)) : fmtI n = ByteArray.empty := if_neg h
theorem itoa_len {n : Int} (h : -100000 ≤ n ∧ n ≤ 100000) : (Lib.itoa n).length ≤ 7 := by
  unfold Lib.itoa
  split
  · have := decDigits_len (u := n.natAbs) (by omega); simp; omega
  · have := decDigits_len (u := n.toNat) (by omega); omega
theorem itoa_pos (n : Int) : 0 < (Lib.itoa n).length := by
  unfold Lib.itoa
  split
  · simp
  · exact decDigits_pos _
theorem fmtI_size (n : Int) : (fmtI n).size ≤ 7 := by
  unfold fmtI
  split
  · rename_i h
    have := itoa_len h
    simpa [ByteArray.size] using this
  · exact Nat.zero_le _
theorem fmtI_ne {n : Int} (h : -100000 ≤ n ∧ n ≤ 100000) : fmtI n ≠ ByteArray.empty := by
  rw [fmtI_in h]
  intro e
  have e2 := congrArg ByteArray.size e
  have := itoa_pos n
  simp [ByteArray.size] at e2
  rw [e2] at this
  simp at this
theorem fmtI_ne_iff (n : Int) : fmtI n ≠ ByteArray.empty ↔ (-100000 ≤ n ∧ n ≤ 100000) := by
  constructor
  · intro h
    by_cases hn : -100000 ≤ n ∧ n ≤ 100000
    · exact hn
    · exact absurd (fmtI_out hn) h
  · exact fmtI_ne
theorem fmtI_list {n : Int} {s : ByteArray} (h : s ≠ ByteArray.empty) (e : fmtI n = s) : (-100000 ≤ n ∧ n ≤ 100000) ∧ s.data.toList = Lib.itoa n := by
  subst e
  have hn := (fmtI_ne_iff n).1 h
  refine ⟨hn, ?_⟩
  rw [fmtI_in hn]
theorem u8_eq {b : UInt8} {k : Nat} (hk : k < 256) (h : b.toNat = k) : b = UInt8.ofNat k := by
  apply UInt8.toNat_inj.1
  rw [h, UInt8.toNat_ofNat_of_lt' hk]
theorem atoi_itoa (n : Int) : Lib.atoi (Lib.itoa n) = some n := by
  unfold Lib.itoa
  split
  · rename_i h
    have hd := dec_digits n.natAbs
    obtain ⟨b, r, e, _, _⟩ := decDigits_cons n.natAbs
    rw [Lib.atoi, if_pos (by decide)]
    unfold Lib.decNat
    rw [e] at hd ⊢
    rw [List.isEmpty_cons, if_neg (by decide), hd]
    simp; omega
  · rename_i h
    have hd := dec_digits n.toNat
    obtain ⟨b, r, e, h1, h2⟩ := decDigits_cons n.toNat
    rw [e] at hd ⊢
    have hb1 : (b == 45) = false := by
      rw [beq_eq_false_iff_ne]; intro e; subst e; simp at h1
    have hb2 : (b == 43) = false := by
      rw [beq_eq_false_iff_ne]; intro e; subst e; simp at h1
    rw [Lib.atoi, hb1, hb2]
    unfold Lib.decNat
    rw [List.isEmpty_cons, hd]
    simp; omega
theorem atoiAll_itoa {n : Int} (h : -100000 ≤ n ∧ n ≤ 100000) : Lib.atoiAll (Lib.itoa n) = .ok n := by
  rw [Lib.atoiAll_short _ (by have := itoa_len h; omega), atoi_itoa]
  rfl
/-- The number that a word is the numeral of. -/
def parI (s : ByteArray) : Option Int :=
  match Lib.atoiAll s.data.toList with
  | .ok v => if s ≠ ByteArray.empty ∧ fmtI v = s then some v else none
  | _ => none
theorem parI_iff {s : ByteArray} {n : Int} : parI s = some n ↔ s ≠ ByteArray.empty ∧ fmtI n = s := by
  constructor
  · unfold parI
    intro h
    split at h
    · split at h
      · rename_i hc
        injection h with h
        subst h
        exact hc
      · cases h
    · cases h
  · rintro ⟨h1, h2⟩
    obtain ⟨hn, hl⟩ := fmtI_list h1 h2
    unfold parI
    rw [hl, atoiAll_itoa hn]
    exact if_pos ⟨h1, h2⟩
theorem parI_fmt {n : Int} (h : -100000 ≤ n ∧ n ≤ 100000) : parI (fmtI n) = some n := parI_iff.2 ⟨fmtI_ne h, rfl⟩
theorem parI_bd {s : ByteArray} {n : Int} (h : parI s = some n) : (-100000 ≤ n ∧ n ≤ 100000) ∧ s.data.toList = Lib.itoa n := by
  obtain ⟨h1, h2⟩ := parI_iff.1 h
  exact fmtI_list h1 h2
theorem parI_test {s : ByteArray} {v : Int} (huniq : ∀ n, parI s = some n → n = v) : parI s = if s ≠ ByteArray.empty ∧ fmtI v = s then some v else none := by
  split
  · rename_i h
    exact parI_iff.2 h
  · rename_i h
    cases e : parI s with
    | none => rfl
    | some n =>
      have := huniq n e
      subst this
      exact absurd (parI_iff.1 e) h
/-- impl's way. -/
theorem parI_ok {s : ByteArray} {v : Int} (h : Lib.atoiAll s.data.toList = .ok v) : parI s = if s ≠ ByteArray.empty ∧ fmtI v = s then some v else none :=
  parI_test fun n hn => by
    obtain ⟨hb, hl⟩ := parI_bd hn
    rw [hl, atoiAll_itoa hb] at h
    injection h
theorem parI_fail {s : ByteArray} (h : ∀ v, Lib.atoiAll s.data.toList ≠ .ok v) : parI s = none := by
  unfold parI
  split
  · rename_i e; exact absurd e (h _)
  · rfl
theorem parI_range {s : ByteArray} (h : Lib.atoiAll s.data.toList = .range) : parI s = none := by unfold parI; rw [h]
/-- The reference's way: the digits are read from the left. -/
theorem itoa_shape (n : Int) : (n < 0 ∧ Lib.itoa n = 45 :: Lib.decDigits n.natAbs) ∨ (0 ≤ n ∧ Lib.itoa n = Lib.decDigits n.natAbs) := by
  unfold Lib.itoa
  by_cases h : n < 0
  · left; exact ⟨h, if_pos h⟩
  · right; refine ⟨by omega, ?_⟩
    rw [if_neg h]
    congr 1; omega
theorem parI_neg {s : ByteArray} {r : List UInt8} {v : Nat} (hs : s.data.toList = 45 :: r) (hv : Lib.decFrom 0 r = some v) : parI s = if s ≠ ByteArray.empty ∧ fmtI (-(v : Int)) = s then some (-(v : Int)) else none :=
  parI_test fun n hn => by
    obtain ⟨hb, hl⟩ := parI_bd hn
    rw [hs] at hl
    rcases itoa_shape n with ⟨h0, e⟩ | ⟨h0, e⟩
    · rw [e] at hl
      injection hl with _ hl
      rw [hl, dec_digits] at hv
      injection hv with hv
      omega
    · obtain ⟨b, r', e', h1, h2⟩ := decDigits_cons n.natAbs
      rw [e, e'] at hl
      injection hl with hl _
      subst hl
      simp at h1
theorem parI_pos {s : ByteArray} {v : Nat} (hs : ∀ r, s.data.toList ≠ 45 :: r) (hv : Lib.decFrom 0 s.data.toList = some v) : parI s = if s ≠ ByteArray.empty ∧ fmtI (v : Int) = s then some (v : Int) else none :=
  parI_test fun n hn => by
    obtain ⟨hb, hl⟩ := parI_bd hn
    rcases itoa_shape n with ⟨h0, e⟩ | ⟨h0, e⟩
    · rw [e] at hl
      exact absurd hl (hs _)
    · rw [hl, e, dec_digits] at hv
      injection hv with hv
      omega
theorem parI_long {s : ByteArray} (h : 8 < s.size) : parI s = none := by
  cases e : parI s with
  | none => rfl
  | some n =>
    obtain ⟨hb, hl⟩ := parI_bd e
    have h1 := itoa_len hb
    rw [← hl] at h1
    have : s.data.toList.length = s.size := by simp
    omega
/-- A byte behind the sign that is no digit. -/
theorem parI_bad {s : ByteArray} {k : Nat} (hk : k < s.size) (h : ¬ (48 ≤ s[k].toNat ∧ s[k].toNat ≤ 57)) (h0 : ¬ (k = 0 ∧ s[k].toNat = 45)) : parI s = none := by
  cases e : parI s with
  | none => rfl
  | some n =>
    exfalso
    obtain ⟨hb, hl⟩ := parI_bd e
    have hk' : k < s.data.toList.length := by simpa using hk
    have e1 : s.data.toList[k]? = some s[k] := by
      rw [List.getElem?_eq_getElem hk']; rfl
    rcases itoa_shape n with ⟨_, e2⟩ | ⟨_, e2⟩
    · rw [hl, e2] at e1
      cases k with
      | zero => simp at e1; exact h0 ⟨rfl, by rw [← e1]; rfl⟩
      | succ k =>
        rw [List.getElem?_cons_succ] at e1
        exact h (decDigits_all _ _ (List.mem_of_getElem? e1))
    · rw [hl, e2] at e1
      exact h (decDigits_all _ _ (List.mem_of_getElem? e1))
/-- The digits of the first k bytes, the sign left out. -/
def bodyTo (s : ByteArray) (k : Nat) : List UInt8 := if s.data.toList.head? = some 45 then (s.data.toList.take k).drop 1 else s.data.toList.take k
theorem decFrom_bound (l : List UInt8) : ∀ (acc v : Nat), Lib.decFrom acc l = some v → v < (acc + 1) * 10 ^ l.length := by
  induction l with
  | nil => intro acc v h; simp [Lib.decFrom] at h; simp; omega
  | cons b r ih =>
    intro acc v h
    rw [Lib.decFrom] at h
    cases hd : Lib.digitVal b with
    | none => rw [hd] at h; cases h
    | some d =>
      rw [hd] at h
      have hd9 : d ≤ 9 := by
        unfold Lib.digitVal at hd
        split at hd
        · injection hd with hd; omega
        · cases hd
      have := ih _ _ h
      rw [List.length_cons, Nat.pow_succ]
      have h2 : (acc * 10 + d + 1) * 10 ^ r.length ≤ (acc + 1) * 10 * 10 ^ r.length := Nat.mul_le_mul_right _ (by omega)
      have h3 : (acc + 1) * 10 * 10 ^ r.length = (acc + 1) * (10 ^ r.length * 10) := by rw [Nat.mul_assoc, Nat.mul_comm 10]
      omega
theorem bodyTo_succ {s : ByteArray} {k : Nat} (hk : k < s.size) (h0 : ¬ (k = 0 ∧ s.data.toList.head? = some 45)) : bodyTo s (k + 1) = bodyTo s k ++ [s[k]] := by
  have hk' : k < s.data.toList.length := by simpa using hk
  have e : s.data.toList.take (k + 1) = s.data.toList.take k ++ [s[k]] := by
    rw [List.take_succ_eq_append_getElem hk']; rfl
  unfold bodyTo
  rw [e]
  split
  · rename_i h
    have hk0 : 0 < k := by
      rcases Nat.eq_zero_or_pos k with e | e
      · exact absurd ⟨e, h⟩ h0
      · exact e
    rw [List.drop_append_of_le_length (by rw [List.length_take]; omega)]
  · rfl
theorem bodyTo_step {s : ByteArray} {k v : Nat} (hk : k < s.size) (h0 : ¬ (k = 0 ∧ s.data.toList.head? = some 45)) (hv : Lib.decFrom 0 (bodyTo s k) = some v) (h1 : 48 ≤ s[k].toNat) (h2 : s[k].toNat ≤ 57) : Lib.decFrom 0 (bodyTo s (k + 1)) = some (v * 10 + (s[k].toNat - 48)) := by
  rw [bodyTo_succ hk h0, decFrom_app, hv]
  show Lib.decFrom v [s[k]] = _
  have : Lib.digitVal s[k] = some (s[k].toNat - 48) := by unfold Lib.digitVal; rw [if_pos ⟨h1, h2⟩]
  simp [Lib.decFrom, this]
theorem bodyTo_len (s : ByteArray) (k : Nat) : (bodyTo s k).length ≤ k := by
  unfold bodyTo
  split
  · rw [List.length_drop, List.length_take]; omega
  · rw [List.length_take]; omega
theorem bodyTo_bd {s : ByteArray} {k v : Nat} (hk : k ≤ 8) (hv : Lib.decFrom 0 (bodyTo s k) = some v) : v < 100000000 := by
  have h1 := decFrom_bound _ _ _ hv
  have h2 := bodyTo_len s k
  have h3 : 10 ^ (bodyTo s k).length ≤ 10 ^ 8 := Nat.pow_le_pow_right (by omega) (by omega)
  omega
theorem head_iff {s : ByteArray} (h : 0 < s.size) : s.data.toList.head? = some 45 ↔ s[0].toNat = 45 := by
  have h' : 0 < s.data.toList.length := by simpa using h
  have e : s.data.toList.head? = some s[0] := by
    rw [List.head?_eq_getElem?, List.getElem?_eq_getElem h']; rfl
  rw [e, Option.some.injEq]
  constructor
  · intro h; rw [h]; rfl
  · intro h; exact u8_eq (k := 45) (by decide) h
theorem parI_end_neg {s : ByteArray} {v : Nat} (hh : s.data.toList.head? = some 45) (hv : Lib.decFrom 0 (bodyTo s s.size) = some v) : parI s = if s ≠ ByteArray.empty ∧ fmtI (-(v : Int)) = s then some (-(v : Int)) else none := by
  have e : s.data.toList.take s.size = s.data.toList := List.take_of_length_le (by simp)
  unfold bodyTo at hv
  rw [if_pos hh, e] at hv
  cases hl : s.data.toList with
  | nil => rw [hl] at hh; cases hh
  | cons b r =>
    rw [hl] at hh hv
    simp at hh
    subst hh
    exact parI_neg hl (by simpa using hv)
theorem parI_end_pos {s : ByteArray} {v : Nat} (hh : ¬ s.data.toList.head? = some 45) (hv : Lib.decFrom 0 (bodyTo s s.size) = some v) : parI s = if s ≠ ByteArray.empty ∧ fmtI (v : Int) = s then some (v : Int) else none := by
  have e : s.data.toList.take s.size = s.data.toList := List.take_of_length_le (by simp)
  unfold bodyTo at hv
  rw [if_neg hh, e] at hv
  exact parI_pos (fun r hr => hh (by rw [hr]; rfl)) hv
def okI (s : ByteArray) : Bool := (parI s).isSome
def valI (s : ByteArray) : Int := (parI s).getD 0
theorem okI_some {s : ByteArray} {n : Int} (h : parI s = some n) : okI s = true ∧ valI s = n := by unfold okI valI; rw [h]; exact ⟨rfl, rfl⟩
theorem okI_none {s : ByteArray} (h : parI s = none) : okI s = false ∧ valI s = 0 := by unfold okI valI; rw [h]; exact ⟨rfl, rfl⟩
theorem okI_true {s : ByteArray} (h : okI s = true) : s ≠ ByteArray.empty ∧ fmtI (valI s) = s ∧ (-100000 ≤ valI s ∧ valI s ≤ 100000) := by
  cases e : parI s with
  | none => rw [(okI_none e).1] at h; cases h
  | some n => rw [(okI_some e).2]; exact ⟨(parI_iff.1 e).1, (parI_iff.1 e).2, (parI_bd e).1⟩
theorem okI_bd (s : ByteArray) : -100000 ≤ valI s ∧ valI s ≤ 100000 := by
  cases e : parI s with
  | none => rw [(okI_none e).2]; omega
  | some n => rw [(okI_some e).2]; exact (parI_bd e).1
theorem okI_fmt {n : Int} (h : -100000 ≤ n ∧ n ≤ 100000) : okI (fmtI n) = true ∧ valI (fmtI n) = n := okI_some (parI_fmt h)
/-- A numeral's bytes: digits and a sign. -/
theorem fmtI_bytes (n : Int) : ∀ b ∈ (fmtI n).data.toList, b.toNat = 45 ∨ (48 ≤ b.toNat ∧ b.toNat ≤ 57) := by
  unfold fmtI
  split
  · intro b hb
    have hb : b ∈ Lib.itoa n := by simpa using hb
    rcases itoa_shape n with ⟨_, e⟩ | ⟨_, e⟩
    · rw [e] at hb
      rcases List.mem_cons.1 hb with rfl | hb
      · left; rfl
      · right; exact decDigits_all _ _ hb
    · rw [e] at hb
      right; exact decDigits_all _ _ hb
  · intro b hb; simp at hb

/-! ## Cutting at a byte -/
/-- The pieces between a byte. -/
def splitL (c : UInt8) : List UInt8 → List (List UInt8)
  | [] => [[]]
  | x :: r => if x = c then [] :: splitL c r else match splitL c r with
    | [] => [[x]]
    | h :: t => (x :: h) :: t
theorem splitL_ne (c : UInt8) (l : List UInt8) : splitL c l ≠ [] := by
  cases l with
  | nil => simp [splitL]
  | cons x r =>
    rw [splitL]
    split
    · simp
    · split <;> simp
theorem splitL_no {c : UInt8} {l : List UInt8} (h : c ∉ l) : splitL c l = [l] := by
  induction l with
  | nil => rfl
  | cons x r ih =>
    rw [List.mem_cons, not_or] at h
    rw [splitL, if_neg (fun e => h.1 e.symm), ih h.2]
theorem splitL_at {c : UInt8} {l : List UInt8} (h : c ∉ l) (r : List UInt8) : splitL c (l ++ c :: r) = l :: splitL c r := by
  induction l with
  | nil => rw [List.nil_append, splitL, if_pos rfl]
  | cons x l ih =>
    rw [List.mem_cons, not_or] at h
    rw [List.cons_append, splitL, if_neg (fun e => h.1 e.symm), ih h.2]
/-- Cut what is joined. -/
theorem splitL_join {c : UInt8} {l : List (List UInt8)} (h0 : l ≠ []) (h : ∀ x ∈ l, c ∉ x) : splitL c (Lib.join l [c]) = l := by
  induction l with
  | nil => exact absurd rfl h0
  | cons a l ih =>
    cases l with
    | nil =>
      rw [Lib.join_one]
      exact splitL_no (h a (by simp))
    | cons b l =>
      have e : Lib.join (a :: b :: l) [c] = a ++ c :: Lib.join (b :: l) [c] := by simp [Lib.join_cons, Lib.joinTail]
      rw [e, splitL_at (h a (by simp)), ih (by simp) (fun x hx => h x (by simp only [List.mem_cons] at hx ⊢; exact .inr hx))]
theorem splitL_notin (c : UInt8) (l : List UInt8) : ∀ x ∈ splitL c l, c ∉ x := by
  induction l with
  | nil => intro x hx; simp [splitL] at hx; subst hx; simp
  | cons a l ih =>
    rw [splitL]
    split
    · intro x hx
      rcases List.mem_cons.1 hx with rfl | hx
      · simp
      · exact ih x hx
    · rename_i hne
      split
      · rename_i e; exact absurd e (splitL_ne c l)
      · rename_i h t e
        rw [e] at ih
        intro x hx
        rcases List.mem_cons.1 hx with rfl | hx
        · rw [List.mem_cons, not_or]
          exact ⟨fun e => hne e.symm, ih h (by simp)⟩
        · exact ih x (by simp [hx])
/-- Join what is cut. -/
theorem join_splitL (c : UInt8) (l : List UInt8) : Lib.join (splitL c l) [c] = l := by
  induction l with
  | nil => simp [splitL, Lib.join_one]
  | cons a l ih =>
    rw [splitL]
    cases e : splitL c l with
    | nil => exact absurd e (splitL_ne c l)
    | cons h t =>
      rw [e] at ih
      split
      · rename_i hac
        subst hac
        have : Lib.join ([] :: h :: t) [a] = a :: Lib.join (h :: t) [a] := by simp [Lib.join_cons, Lib.joinTail]
        rw [this, ih]
      · have : Lib.join ((a :: h) :: t) [c] = a :: Lib.join (h :: t) [c] := by simp [Lib.join_cons]
        rw [this, ih]
theorem splitL_snoc (c x : UInt8) (l : List UInt8) : ∀ (p : List (List UInt8)) (z : List UInt8), splitL c l = p ++ [z] → splitL c (l ++ [x]) = if x = c then p ++ [z, []] else p ++ [z ++ [x]] := by
  induction l with
  | nil =>
    intro p z h
    have : p = [] ∧ z = [] := by
      cases p with
      | nil => simp [splitL] at h; exact ⟨rfl, h⟩
      | cons a p => simp [splitL] at h
    obtain ⟨rfl, rfl⟩ := this
    rw [List.nil_append, splitL]
    split
    · simp [splitL]
    · simp [splitL]
  | cons a l ih =>
    intro p z h
    rw [List.cons_append, splitL]
    rw [splitL] at h
    by_cases hac : a = c
    · rw [if_pos hac] at h ⊢
      cases p with
      | nil =>
        simp at h
        exact absurd h.2 (splitL_ne c l)
      | cons b p =>
        rw [List.cons_append] at h
        injection h with h1 h2
        subst h1
        rw [ih p z h2]
        split <;> simp
    · rw [if_neg hac] at h ⊢
      cases e : splitL c l with
      | nil => exact absurd e (splitL_ne c l)
      | cons hh t =>
        rw [e] at h
        simp only at h
        cases p with
        | nil =>
          rw [List.nil_append] at h
          injection h with h1 h2
          subst h2
          rw [ih [] hh (by rw [e]; rfl)]
          by_cases hx : x = c
          · simp [hx, ← h1]
          · simp [hx, ← h1]
        | cons b p =>
          rw [List.cons_append] at h
          injection h with h1 h2
          rw [ih (hh :: p) z (by rw [e, h2]; rfl)]
          subst h1
          by_cases hx : x = c
          · simp [hx]
          · simp [hx]
theorem extract_list (s : ByteArray) (a b : Nat) : (s.extract a b).data.toList = (s.data.toList.take b).drop a := by
  rw [ByteArray.data_extract, Array.toList_extract, List.extract_eq_take_drop, List.drop_take]
theorem splitTo_list (s : ByteArray) (c : UInt8) : ∀ k, k ≤ s.size → splitL c (s.data.toList.take k) = ((splitTo s ⟨#[c]⟩ k).1.map (·.data.toList)) ++ [(s.data.toList.take k).drop (splitTo s ⟨#[c]⟩ k).2] := by
  intro k
  induction k with
  | zero => intro _; simp [splitTo, splitL]
  | succ k ih =>
    intro hk
    have hk' : k < s.data.toList.length := by have : s.data.toList.length = s.size := by simp
                                              omega
    have e : s.data.toList.take (k + 1) = s.data.toList.take k ++ [s[k]'(by omega)] := by
      rw [List.take_succ_eq_append_getElem hk']; rfl
    have hb := (splitTo_bd s ⟨#[c]⟩ k).2
    rw [splitTo_succ (by omega), e, splitL_snoc c _ _ _ _ (ih (by omega))]
    have hm : memB ⟨#[c]⟩ (s[k]'(by omega)) = decide (s[k]'(by omega) = c) := by
      unfold memB; simp
    rw [hm]
    by_cases hc : s[k]'(by omega) = c
    · rw [if_pos hc, decide_eq_true hc, if_pos rfl, List.map_append, List.append_assoc]
      congr 1
      simp only [List.map_cons, List.map_nil, extract_list, List.singleton_append]
      rw [List.drop_of_length_le (l := List.take k s.data.toList ++ [s[k]'(by omega)]) (by rw [List.length_append, List.length_take, List.length_singleton]; omega)]
    · rw [if_neg hc, decide_eq_false hc, if_neg (by decide)]
      rw [List.drop_append_of_le_length (by rw [List.length_take]; omega)]
theorem splitAny_list (s : ByteArray) (c : UInt8) : (splitAny s ⟨#[c]⟩).map (·.data.toList) = splitL c s.data.toList := by
  have h := splitTo_list s c s.size (Nat.le_refl _)
  have e : s.data.toList.take s.size = s.data.toList := List.take_of_length_le (by simp)
  rw [e] at h
  unfold splitAny
  rw [h, List.map_append]
  congr 1
  simp only [List.map_cons, List.map_nil, extract_list, e]
theorem join_splitAny (s : ByteArray) (c : UInt8) : joinB (splitAny s ⟨#[c]⟩) ⟨#[c]⟩ = s := by
  apply str_ext
  unfold joinB
  rw [splitAny_list]
  exact join_splitL c _
theorem map_list_inj {a b : List ByteArray} (h : a.map (·.data.toList) = b.map (·.data.toList)) : a = b := by
  induction a generalizing b with
  | nil => cases b with
    | nil => rfl
    | cons _ _ => simp at h
  | cons x a ih => cases b with
    | nil => simp at h
    | cons y b =>
      simp only [List.map_cons, List.cons.injEq] at h
      rw [ih h.2, str_ext h.1]
theorem splitAny_join {c : UInt8} {l : List ByteArray} (h0 : l ≠ []) (h : ∀ x ∈ l, c ∉ x.data.toList) : splitAny (joinB l ⟨#[c]⟩) ⟨#[c]⟩ = l := by
  apply map_list_inj
  rw [splitAny_list]
  show splitL c (Lib.join (l.map (·.data.toList)) [c]) = _
  refine splitL_join (by simpa using h0) (fun x hx => ?_)
  obtain ⟨y, hy, rfl⟩ := List.mem_map.1 hx
  exact h y hy
theorem splitAny_notin {s : ByteArray} {c : UInt8} {x : ByteArray} (h : x ∈ splitAny s ⟨#[c]⟩) : c ∉ x.data.toList := by
  have : x.data.toList ∈ splitL c s.data.toList := by rw [← splitAny_list]; exact List.mem_map_of_mem h
  exact splitL_notin c _ _ this
end Go.Proofs.YtcecgbjolngdbaaGreatDoor
