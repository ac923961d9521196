/- The plain law of paths that take no step twice: no place is visited four times; four turns to the same side take a step again. Conditions: each theorem's own premises. -/
import Derived.Test.YtalbokejljjflaaPlainR
namespace Go.Proofs.Ytalbokejljjflaa
open Go.RowKit
/-- Which of the four steps of one. -/
def code4 (d : Int × Int) : Fin 4 := if d = (1, 0) then 0 else if d = (0, 1) then 1 else if d = (-1, 0) then 2 else 3
theorem code4_inj {d e : Int × Int} (hd : One d) (he : One e) (h : code4 d = code4 e) : d = e := by
  rcases hd with rfl | rfl | rfl | rfl <;> rcases he with rfl | rfl | rfl | rfl <;> first | rfl | (exfalso; revert h; decide)
theorem five_in_four : ∀ a b c d e : Fin 4, a = b ∨ a = c ∨ a = d ∨ a = e ∨ b = c ∨ b = d ∨ b = e ∨ c = d ∨ c = e ∨ d = e := by decide +kernel
theorem first_hit {p : Int × Int} : ∀ (ps : List (Int × Int)) (n i : Nat), n + 1 ≤ (ps.drop i).count p → ∃ j, i ≤ j ∧ ps[j]? = some p ∧ n ≤ (ps.drop (j + 1)).count p := fun ps n i h => by
  have key : ∀ (qs : List (Int × Int)), n + 1 ≤ qs.count p → ∃ j, qs[j]? = some p ∧ n ≤ (qs.drop (j + 1)).count p := fun qs => by
    induction qs with
    | nil => intro h; simp at h
    | cons q qs ih =>
      intro h
      by_cases e : q = p
      · subst e
        rw [List.count_cons_self] at h
        exact ⟨0, rfl, by simp; omega⟩
      · rw [List.count_cons_of_ne e] at h
        obtain ⟨j, h1, h2⟩ := ih h
        exact ⟨j + 1, by simpa using h1, by simpa using h2⟩
  obtain ⟨j, h1, h2⟩ := key _ h
  refine ⟨i + j, by omega, ?_, ?_⟩
  · rw [List.getElem?_drop] at h1; exact h1
  · rw [List.drop_drop] at h2
    rw [show i + j + 1 = i + (j + 1) by omega]
    exact h2
theorem one_ne {p : Int × Int} (h : One (p.1 - p.1, p.2 - p.2)) : False := by
  unfold One at h
  simp only [Prod.mk.injEq] at h
  omega
theorem one_neg {p q : Int × Int} (h : One (p.1 - q.1, p.2 - q.2)) : One (q.1 - p.1, q.2 - p.2) := by
  unfold One at h ⊢
  simp only [Prod.mk.injEq] at h ⊢
  omega
theorem diff_inj {p a b : Int × Int} (h : (a.1 - p.1, a.2 - p.2) = (b.1 - p.1, b.2 - p.2)) : a = b := by
  simp only [Prod.mk.injEq] at h
  apply Prod.ext <;> omega
/-- A path that takes no step twice visits no place four times. -/
theorem most_three {l : List UInt8} (ho : OnceP (places l)) : mostP (places l) ≤ 3 := by
  rcases (mostP_is (places l)).2 with h0 | ⟨p, hp⟩
  · omega
  rw [← hp]
  apply Nat.le_of_lt_succ
  apply Nat.lt_of_not_le
  intro h4
  have hn := places_length l
  obtain ⟨i1, _, g1, c1⟩ := first_hit (places l) 3 0 (by simpa using h4)
  obtain ⟨i2, k2, g2, c2⟩ := first_hit (places l) 2 (i1 + 1) c1
  obtain ⟨i3, k3, g3, c3⟩ := first_hit (places l) 1 (i2 + 1) c2
  obtain ⟨i4, k4, g4, _⟩ := first_hit (places l) 0 (i3 + 1) c3
  have hl4 : i4 < (places l).length := (List.getElem?_eq_some_iff.1 g4).1
  have at' : ∀ i, i ≤ i4 → ∃ x, (places l)[i]? = some x := fun i hi => ⟨_, List.getElem?_eq_getElem (by omega)⟩
  have apart : ∀ i, (places l)[i]? = some p → (places l)[i + 1]? = some p → False := fun i h h' => one_ne (places_one l i p p h h')
  have n1 : i1 + 1 < i2 := by
    apply Nat.lt_of_le_of_ne k2
    rintro rfl
    exact apart i1 g1 g2
  have n2 : i2 + 1 < i3 := by
    apply Nat.lt_of_le_of_ne k3
    rintro rfl
    exact apart i2 g2 g3
  have n3 : i3 + 1 < i4 := by
    apply Nat.lt_of_le_of_ne k4
    rintro rfl
    exact apart i3 g3 g4
  obtain ⟨a, ha⟩ := at' (i1 + 1) (by omega)
  obtain ⟨b, hb⟩ := at' (i2 - 1) (by omega)
  obtain ⟨c, hc⟩ := at' (i2 + 1) (by omega)
  obtain ⟨d, hd⟩ := at' (i3 - 1) (by omega)
  obtain ⟨e, he⟩ := at' (i3 + 1) (by omega)
  have b2 : (places l)[i2 - 1 + 1]? = some p := by rw [show i2 - 1 + 1 = i2 by omega]; exact g2
  have d2 : (places l)[i3 - 1 + 1]? = some p := by rw [show i3 - 1 + 1 = i3 by omega]; exact g3
  have oa := places_one l i1 p a g1 ha
  have ob := one_neg (places_one l (i2 - 1) b p hb b2)
  have oc := places_one l i2 p c g2 hc
  have od := one_neg (places_one l (i3 - 1) d p hd d2)
  have oe := places_one l i3 p e g3 he
  have same := fun {x y : Int × Int} (hx : One (x.1 - p.1, x.2 - p.2)) (hy : One (y.1 - p.1, y.2 - p.2)) (h : code4 (x.1 - p.1, x.2 - p.2) = code4 (y.1 - p.1, y.2 - p.2)) => diff_inj (code4_inj hx hy h)
  rcases five_in_four (code4 (a.1 - p.1, a.2 - p.2)) (code4 (b.1 - p.1, b.2 - p.2)) (code4 (c.1 - p.1, c.2 - p.2)) (code4 (d.1 - p.1, d.2 - p.2)) (code4 (e.1 - p.1, e.2 - p.2)) with h | h | h | h | h | h | h | h | h | h
  · have := same oa ob h; subst this
    exact ho (i2 - 1) i1 p a a p (by omega) g1 ha hb b2 (.inr ⟨rfl, rfl⟩)
  · have := same oa oc h; subst this
    exact ho i2 i1 p a p a (by omega) g1 ha g2 hc (.inl ⟨rfl, rfl⟩)
  · have := same oa od h; subst this
    exact ho (i3 - 1) i1 p a a p (by omega) g1 ha hd d2 (.inr ⟨rfl, rfl⟩)
  · have := same oa oe h; subst this
    exact ho i3 i1 p a p a (by omega) g1 ha g3 he (.inl ⟨rfl, rfl⟩)
  · have := same ob oc h; subst this
    exact ho i2 (i2 - 1) b p p b (by omega) hb b2 g2 hc (.inr ⟨rfl, rfl⟩)
  · have := same ob od h; subst this
    exact ho (i3 - 1) (i2 - 1) b p b p (by omega) hb b2 hd d2 (.inl ⟨rfl, rfl⟩)
  · have := same ob oe h; subst this
    exact ho i3 (i2 - 1) b p p b (by omega) hb b2 g3 he (.inr ⟨rfl, rfl⟩)
  · have := same oc od h; subst this
    exact ho (i3 - 1) i2 p c c p (by omega) g2 hc hd d2 (.inr ⟨rfl, rfl⟩)
  · have := same oc oe h; subst this
    exact ho i3 i2 p c p c (by omega) g2 hc g3 he (.inl ⟨rfl, rfl⟩)
  · have := same od oe h; subst this
    exact ho i3 (i3 - 1) d p p d (by omega) hd d2 g3 he (.inr ⟨rfl, rfl⟩)
/-- Four more turns to the same side take a step again. -/
theorem four_turns (l : List UInt8) : ¬ OnceP (places (l ++ [86, 86, 86, 86])) := by
  intro ho
  obtain ⟨L, hL⟩ : ∃ L, L = l ++ [86, 86, 86, 86] := ⟨_, rfl⟩
  rw [← hL] at ho
  have hlen : L.length = l.length + 4 := by rw [hL]; simp
  have hg : ∀ j (h : l.length + j < L.length), j < 4 → L[l.length + j] = 86 := fun j h hj => by
    have : L[l.length + j]? = some 86 := by
      rw [hL, List.getElem?_append_right (by omega), show l.length + j - l.length = j by omega]
      match j, hj with
      | 0, _ => rfl
      | 1, _ => rfl
      | 2, _ => rfl
      | 3, _ => rfl
    rw [List.getElem?_eq_getElem h] at this
    exact Option.some.inj this
  have s0 : (places L)[l.length]? = some ((places L)[l.length]'(by rw [places_length]; omega)) := List.getElem?_eq_getElem _
  obtain ⟨x, hx⟩ : ∃ x, x = (places L)[l.length]'(by rw [places_length]; omega) := ⟨_, rfl⟩
  rw [← hx] at s0
  have hd := places_dir L l.length x (by omega) s0
  have e1 := stAt_succ L l.length (by omega)
  have e2 := stAt_succ L (l.length + 1) (by omega)
  have e3 := stAt_succ L (l.length + 2) (by omega)
  have e4 := stAt_succ L (l.length + 3) (by omega)
  rw [hg 1 (by omega) (by omega)] at e2
  rw [hg 2 (by omega) (by omega)] at e3
  rw [hg 3 (by omega) (by omega)] at e4
  have g0 : L[l.length]'(by omega) = 86 := hg 0 (by omega) (by omega)
  rw [g0] at e1
  have p0 := places_at L l.length (by omega)
  have p3 := places_at L (l.length + 3) (by omega)
  have p4 := places_at L (l.length + 4) (by omega)
  obtain ⟨S, hS⟩ : ∃ S, S = stAt L l.length := ⟨_, rfl⟩
  rw [← hS] at hd e1 p0
  clear hS hx
  obtain ⟨⟨P1, P2⟩, ⟨d1, d2⟩⟩ := S
  obtain ⟨x1, x2⟩ := x
  simp only [Prod.mk.injEq] at hd
  obtain ⟨hd1, hd2⟩ := hd
  unfold pstep turn at e1 e2 e3 e4
  simp only [if_true] at e1
  rw [e1] at e2
  simp only [if_true] at e2
  rw [e2] at e3
  simp only [if_true] at e3
  rw [e3] at e4
  simp only [if_true] at e4
  rw [e3] at p3
  rw [e4] at p4
  refine ho (l.length + 4) l.length _ _ _ _ (by omega) s0 p0 p3 p4 (.inl ⟨?_, ?_⟩)
  · apply Prod.ext <;> simp only <;> omega
  · apply Prod.ext <;> simp only <;> omega
end Go.Proofs.Ytalbokejljjflaa
