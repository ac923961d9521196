/- The plain law that words are told by halves and by even places. No program in sight. Conditions: each theorem's own premises. -/
import Derived.Test.YtonlmljmhabffaaPlainW
namespace Go.Proofs.Ytonlmljmhabffaa
open Go.RowKit
theorem evens_mid_odd : ∀ (n : Nat) (a : List UInt8) (m : UInt8) (b : List UInt8), a.length ≤ n → a.length % 2 = 1 → evens (a ++ m :: b) = evens a ++ evens b
  | _, [], _, _, _, h => by simp at h
  | _, [x], m, b, _, _ => by simp [evens]
  | n + 1, x :: y :: r, m, b, hn, h => by
    simp only [List.cons_append, evens]
    rw [evens_mid_odd n r m b (by simp at hn; omega) (by simp at h; omega)]
theorem odds_nil : odds [] = [] := rfl
theorem odds_one (x : UInt8) : odds [x] = [] := rfl
theorem odds_two (x y : UInt8) (r : List UInt8) : odds (x :: y :: r) = y :: odds r := by
  unfold odds
  cases r with
  | nil => rfl
  | cons z t => rfl
theorem odds_mid_odd : ∀ (n : Nat) (a : List UInt8) (m : UInt8) (b : List UInt8), a.length ≤ n → a.length % 2 = 1 → odds (a ++ m :: b) = odds a ++ m :: odds b
  | _, [], _, _, _, h => by simp at h
  | _, [x], m, b, _, _ => by
    show odds (x :: m :: b) = _
    rw [odds_two, odds_one]
    rfl
  | n + 1, x :: y :: r, m, b, hn, h => by
    simp only [List.cons_append]
    rw [odds_two, odds_two, odds_mid_odd n r m b (by simp at hn; omega) (by simp at h; omega)]
    rfl
theorem evens_two (x y : UInt8) (r : List UInt8) : evens (x :: y :: r) = x :: evens r := rfl
/-- A list of odd length is told by its even and by its odd places. -/
theorem eq_of_parts : ∀ (n : Nat) (a b : List UInt8), a.length ≤ n → a.length = b.length → evens a = evens b → odds a = odds b → a = b
  | _, [], b, _, h, _, _ => (List.eq_nil_of_length_eq_zero (by simpa using h.symm)).symm
  | _, [x], b, _, h, he, _ => by
    match b, h with
    | [y], _ => simpa [evens] using he
  | n + 1, x :: y :: r, b, hn, h, he, ho => by
    match b, h with
    | u :: v :: t, h =>
      rw [evens_two, evens_two] at he
      rw [odds_two, odds_two] at ho
      injection he with h1 h2
      injection ho with h3 h4
      rw [h1, h3, eq_of_parts n r t (by simp at hn; omega) (by simpa using h) h2 h4]
/-- At odd length the even places of the other side are the other side of the even places. -/
theorem evens_otherL (a : List UInt8) (h : a.length % 2 = 1) : evens (otherL a) = otherL (evens a) := by
  apply List.ext_getElem?
  intro k
  have hl : (otherL a).length = a.length := otherL_length a
  have he : (evens a).length = (a.length + 1) / 2 := evens_len _ _ (Nat.le_refl _)
  rw [evens_get _ _ (Nat.le_refl _)]
  unfold otherL
  rw [List.getElem?_map, List.getElem?_map]
  congr 1
  by_cases hk : 2 * k < a.length
  · rw [List.getElem?_reverse hk, List.getElem?_reverse (by omega), evens_get _ _ (Nat.le_refl _)]
    congr 1
    omega
  · rw [List.getElem?_eq_none (by rw [List.length_reverse]; omega), List.getElem?_eq_none (by rw [List.length_reverse]; omega)]
theorem odds_otherL (a : List UInt8) (h : a.length % 2 = 1) : odds (otherL a) = otherL (odds a) := by
  apply List.ext_getElem?
  intro k
  have hl : (otherL a).length = a.length := otherL_length a
  have he : (odds a).length = a.length / 2 := odds_len _
  rw [odds_get]
  unfold otherL
  rw [List.getElem?_map, List.getElem?_map]
  congr 1
  by_cases hk : 2 * k + 1 < a.length
  · rw [List.getElem?_reverse hk, List.getElem?_reverse (by omega), odds_get]
    congr 1
    omega
  · rw [List.getElem?_eq_none (by rw [List.length_reverse]; omega), List.getElem?_eq_none (by rw [List.length_reverse]; omega)]
theorem alt_cons (x y : UInt8) (r : List UInt8) : alt (x :: y :: r) = (x != y && alt (y :: r)) := by
  unfold alt
  simp only [List.length_cons, Nat.add_sub_cancel]
  rw [List.range_succ_eq_map, List.all_cons, List.all_map]
  congr 1
  try simp
theorem alt_iff (m : List UInt8) : alt m = true ↔ ∀ k, k + 1 < m.length → m[k]? ≠ m[k + 1]? := by
  constructor
  · intro h k hk e
    rw [alt_false k hk e] at h
    cases h
  · exact alt_true
/-- In an alternating list of M and V what stands at odd distance is the other one. -/
theorem alt_far {m : List UInt8} (hm : m.all isMV = true) (h : alt m = true) : ∀ (d k : Nat) (x y : UInt8), m[k]? = some x → m[k + (2 * d + 1)]? = some y → y = swp x
  | 0, k, x, y, hx, hy => by
    have hk : k + 1 < m.length := (List.getElem?_eq_some_iff.1 hy).1
    have hne := (alt_iff m).1 h k hk
    rw [hx, show k + 1 = k + (2 * 0 + 1) from by omega, hy] at hne
    rw [List.all_eq_true] at hm
    exact swp_other (hm x (List.mem_of_getElem? hx)) (hm y (List.mem_of_getElem? hy)) (fun e => hne (by rw [e]))
  | d + 1, k, x, y, hx, hy => by
    have hl : k + (2 * (d + 1) + 1) < m.length := (List.getElem?_eq_some_iff.1 hy).1
    have h1 : m[k + 1]? = some (m[k + 1]'(by omega)) := List.getElem?_eq_getElem _
    have h2 : m[k + 2]? = some (m[k + 2]'(by omega)) := List.getElem?_eq_getElem _
    have e1 := alt_far hm h 0 k _ _ hx h1
    have e2 := alt_far hm h 0 (k + 1) _ _ h1 h2
    have e3 := alt_far hm h d (k + 2) _ y h2 (by rw [show k + 2 + (2 * d + 1) = k + (2 * (d + 1) + 1) from by omega]; exact hy)
    rw [e3, e2, e1, swp_swp]
/-- An alternating list, cut in the middle: the second half is the other side of the first one. -/
theorem alt_halves {e f : List UInt8} (he : e.all isMV = true) (hf : f.all isMV = true) (hl : e.length = f.length) : (alt e && (f == otherL e)) = alt (e ++ f) := by
  rw [Bool.eq_iff_iff, Bool.and_eq_true, beq_iff_eq]
  constructor
  · rintro ⟨h1, h2⟩
    rw [alt_iff]
    intro k hk
    rw [List.length_append] at hk
    by_cases c1 : k + 1 < e.length
    · rw [List.getElem?_append_left (by omega), List.getElem?_append_left c1]
      exact (alt_iff e).1 h1 k c1
    · have hget : ∀ j, j < e.length → f[j]? = (e[e.length - 1 - j]?).map swp := fun j hj => by
        rw [h2]
        unfold otherL
        rw [List.getElem?_map, List.getElem?_reverse hj]
      by_cases c2 : k < e.length
      · have hk2 : k = e.length - 1 := by omega
        rw [List.getElem?_append_left c2, List.getElem?_append_right (by omega), show k + 1 - e.length = 0 from by omega, hget 0 (by omega), show e.length - 1 - 0 = k from by omega]
        intro hc
        have hx : e[k]? = some e[k] := List.getElem?_eq_getElem c2
        rw [hx] at hc
        simp only [Option.map_some, Option.some.injEq] at hc
        rw [List.all_eq_true] at he
        exact swp_ne (he _ (List.getElem_mem c2)) hc.symm
      · rw [List.getElem?_append_right (by omega), List.getElem?_append_right (by omega), hget _ (by omega), hget _ (by omega)]
        have hne := (alt_iff e).1 h1 (e.length - 1 - (k + 1 - e.length)) (by omega)
        rw [show e.length - 1 - (k + 1 - e.length) + 1 = e.length - 1 - (k - e.length) from by omega] at hne
        intro hc
        apply hne
        have i1 : e.length - 1 - (k - e.length) < e.length := by omega
        have i2 : e.length - 1 - (k + 1 - e.length) < e.length := by omega
        rw [List.getElem?_eq_getElem i1, List.getElem?_eq_getElem i2] at hc ⊢
        simp only [Option.map_some, Option.some.injEq] at hc
        rw [← swp_swp e[e.length - 1 - (k - e.length)], hc, swp_swp]
  · intro h
    have hall : (e ++ f).all isMV = true := by rw [List.all_append, he, hf]; rfl
    constructor
    · rw [alt_iff]
      intro k hk
      have := (alt_iff _).1 h k (by rw [List.length_append]; omega)
      rwa [List.getElem?_append_left (by omega), List.getElem?_append_left hk] at this
    · apply List.ext_getElem?
      intro j
      by_cases hj : j < f.length
      · unfold otherL
        rw [List.getElem?_map, List.getElem?_reverse (by omega)]
        have i1 : e.length - 1 - j < e.length := by omega
        have hx : (e ++ f)[e.length - 1 - j]? = some e[e.length - 1 - j] := by rw [List.getElem?_append_left i1, List.getElem?_eq_getElem i1]
        have hy : (e ++ f)[e.length - 1 - j + (2 * j + 1)]? = some f[j] := by
          rw [List.getElem?_append_right (by omega), show e.length - 1 - j + (2 * j + 1) - e.length = j from by omega, List.getElem?_eq_getElem hj]
        rw [List.getElem?_eq_getElem hj, List.getElem?_eq_getElem i1, alt_far hall h j _ _ _ hx hy]
        rfl
      · rw [List.getElem?_eq_none (by omega), List.getElem?_eq_none (by rw [otherL_length]; omega)]
theorem all_evens {l : List UInt8} (h : l.all isMV = true) : (evens l).all isMV = true := by
  rw [List.all_eq_true] at *
  exact fun c hc => h c (mem_evens l c hc)
theorem all_odds {l : List UInt8} (h : l.all isMV = true) : (odds l).all isMV = true := by
  rw [List.all_eq_true] at *
  exact fun c hc => h c (mem_odds l c hc)
/-- WORDS ARE TOLD BY HALVES AND BY EVEN PLACES. -/
theorem word_evn (n : Nat) : ∀ l : List UInt8, l.length + 1 = pow2 n → l.all isMV = true → word l = evn l := by
  induction n using Nat.strongRecOn with
  | ind n ih =>
    intro l hl hmv
    match n, ih, hl with
    | 0, _, hl =>
      have h1 : pow2 0 = 1 := rfl
      rw [List.eq_nil_of_length_eq_zero (l := l) (by omega)]
      rfl
    | 1, _, hl =>
      have h1 : pow2 1 = 2 := rfl
      match l, hl with
      | [x], _ =>
        rw [word_step [x] (by simp), evn_cons [x] (by simp)]
        simp [alt, evens, odds, evn, evenN, word, wordN, otherL]
      | [], hl => simp at hl; omega
      | _ :: _ :: _, hl => simp at hl; omega
    | n + 2, ih, hl =>
      have hp := pow2_pos n
      have e1 : pow2 (n + 1) = pow2 n * 2 := pow2_succ n
      have e2 : pow2 (n + 2) = pow2 (n + 1) * 2 := pow2_succ (n + 1)
      obtain ⟨a, m, b, hform, ha, hb⟩ := mid_form l (by omega)
      have hal : a.length + 1 = pow2 (n + 1) := by omega
      have hbl : b.length + 1 = pow2 (n + 1) := by omega
      have hodd : a.length % 2 = 1 := by omega
      have hmva : a.all isMV = true := by
        rw [hform, List.all_append] at hmv
        simp only [Bool.and_eq_true] at hmv
        exact hmv.1
      have hmvb : b.all isMV = true := by
        rw [hform, List.all_append, List.all_cons] at hmv
        simp only [Bool.and_eq_true] at hmv
        exact hmv.2.2
      have hol : (odds l).length + 1 = pow2 (n + 1) := by rw [odds_len]; omega
      have hoa : (odds a).length = (odds b).length := by rw [odds_len, odds_len]; omega
      have heb : (evens a).length = (evens b).length := by rw [evens_len _ _ (Nat.le_refl _), evens_len _ _ (Nat.le_refl _)]; omega
      have hev : evens l = evens a ++ evens b := by rw [hform]; exact evens_mid_odd _ _ _ _ (Nat.le_refl _) hodd
      have hod : odds l = odds a ++ m :: odds b := by rw [hform]; exact odds_mid_odd _ _ _ _ (Nat.le_refl _) hodd
      have w1 : word l = (word a && (b == otherL a)) := by rw [hform]; exact word_mid _ _ _ (by omega)
      have w2 : word a = evn a := ih (n + 1) (by omega) a hal hmva
      have w3 : evn a = (alt (evens a) && evn (odds a)) := evn_cons a (by omega)
      have w4 : evn l = (alt (evens l) && evn (odds l)) := evn_cons l (by omega)
      have w5 : word (odds l) = evn (odds l) := ih (n + 1) (by omega) _ hol (all_odds hmv)
      have w6 : word (odds l) = (word (odds a) && (odds b == otherL (odds a))) := by rw [hod]; exact word_mid _ _ _ hoa
      have w7 : word (odds a) = evn (odds a) := ih n (by omega) _ (by rw [odds_len]; omega) (all_odds hmva)
      have w8 := alt_halves (all_evens hmva) (all_evens hmvb) heb
      have w9 : (b == otherL a) = ((evens b == otherL (evens a)) && (odds b == otherL (odds a))) := by
        rw [Bool.eq_iff_iff, Bool.and_eq_true, beq_iff_eq, beq_iff_eq, beq_iff_eq]
        constructor
        · rintro rfl
          exact ⟨evens_otherL a hodd, odds_otherL a hodd⟩
        · rintro ⟨h1, h2⟩
          exact eq_of_parts _ _ _ (Nat.le_refl _) (by rw [otherL_length]; omega) (by rw [h1, evens_otherL a hodd]) (by rw [h2, odds_otherL a hodd])
      rw [w1, w2, w3, w4, ← w5, w6, w7, hev, ← w8, w9]
      cases alt (evens a) <;> cases evn (odds a) <;> cases (evens b == otherL (evens a)) <;> cases (odds b == otherL (odds a)) <;> rfl
theorem wordOk_even (l : List UInt8) : wordOk l = wordEvenL l := by
  unfold wordOk wordEvenL
  cases h1 : creas l with
  | false => rfl
  | true =>
    cases h2 : plen l.length with
    | false => rfl
    | true =>
      obtain ⟨k, _, hk⟩ := plen_pow _ h2
      have hmv : l.all isMV = true := by
        unfold creas at h1
        simp only [Bool.and_eq_true] at h1
        exact h1.1
      rw [word_evn k l hk hmv]
/-- A word with one wrong crease at an even place is no word. -/
theorem wordOk_wrong (l : List UInt8) (k : Nat) (h : wordOk l = true) (h1 : 1 < l.length) (hk : k < l.length) (hp : k % 2 = 0) : wordOk (l.set k (swp (l[k]'hk))) = false := by
  obtain ⟨j, rfl⟩ : ∃ j, k = 2 * j := ⟨k / 2, by omega⟩
  have hh := h
  rw [wordOk_even] at h
  unfold wordEvenL at h
  simp only [Bool.and_eq_true] at h
  obtain ⟨⟨hc, hpl⟩, he⟩ := h
  have hmv : l.all isMV = true := by
    unfold creas at hc
    simp only [Bool.and_eq_true] at hc
    exact hc.1
  rw [evn_cons l (by omega), Bool.and_eq_true] at he
  have halt := he.1
  have hel := evens_len _ l (Nat.le_refl _)
  have hsl : (l.set (2 * j) (swp l[2 * j])).length = l.length := List.length_set ..
  have hg : ∀ i, (evens (l.set (2 * j) (swp l[2 * j])))[i]? = if i = j then some (swp l[2 * j]) else (evens l)[i]? := fun i => by
    rw [evens_get _ _ (Nat.le_refl _), evens_get _ _ (Nat.le_refl _), List.getElem?_set]
    by_cases e : i = j
    · subst e; simp [hk]
    · rw [if_neg (by omega), if_neg e]
  have hj : (evens l)[j]? = some l[2 * j] := by rw [evens_get _ _ (Nat.le_refl _), List.getElem?_eq_getElem hk]
  have hall := all_evens hmv
  rw [wordOk_even]
  unfold wordEvenL
  have hsl2 := evens_len _ (l.set (2 * j) (swp l[2 * j])) (Nat.le_refl _)
  have hno : alt (evens (l.set (2 * j) (swp l[2 * j]))) = false := by
    have hodd : l.length % 2 = 1 := by
      obtain ⟨q, _, hq⟩ := plen_pow _ hpl
      by_cases e : q = 0
      · subst e
        have : pow2 0 = 1 := rfl
        omega
      · have := pow2_succ (q - 1)
        rw [show q - 1 + 1 = q from by omega] at this
        omega
    by_cases c : j + 1 < (evens l).length
    · apply alt_false j (by omega)
      rw [hg, hg, if_pos rfl, if_neg (by omega)]
      have hy : (evens l)[j + 1]? = some ((evens l)[j + 1]'c) := List.getElem?_eq_getElem c
      rw [hy, alt_far hall halt 0 j _ _ hj hy]
    · have hj1 : 1 ≤ j := by omega
      have c2 : j - 1 < (evens l).length := by omega
      apply alt_false (j - 1) (by omega)
      rw [hg, hg, if_neg (by omega), if_pos (by omega)]
      have hx : (evens l)[j - 1]? = some ((evens l)[j - 1]'c2) := List.getElem?_eq_getElem c2
      have := alt_far hall halt 0 (j - 1) _ _ hx (by rw [show j - 1 + (2 * 0 + 1) = j from by omega]; exact hj)
      rw [hx, this, swp_swp]
  rw [evn_cons _ (by omega), hno]
  simp
end Go.Proofs.Ytonlmljmhabffaa
