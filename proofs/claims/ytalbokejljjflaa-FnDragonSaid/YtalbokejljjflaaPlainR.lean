/- The plain law of paths: steps that are taken twice, places that are visited often, paths that are turned. No program in sight. Conditions: each theorem's own premises. -/
import Derived.Test.YtalbokejljjflaaPathA
namespace Go.Proofs.Ytalbokejljjflaa
open Go.RowKit
/-- Two steps between the same two places. -/
def SameStep (a b c d : Int × Int) : Prop := (a = c ∧ b = d) ∨ (a = d ∧ b = c)
/-- No step of a list of places is taken twice. -/
def OnceP (ps : List (Int × Int)) : Prop := ∀ (i k : Nat) (a b c d : Int × Int), k < i → ps[k]? = some a → ps[k + 1]? = some b → ps[i]? = some c → ps[i + 1]? = some d → ¬ SameStep a b c d
noncomputable def onceB (ps : List (Int × Int)) : Bool := @decide (OnceP ps) (Classical.propDecidable _)
theorem onceB_iff (ps : List (Int × Int)) : onceB ps = true ↔ OnceP ps := by unfold onceB; simp
theorem OnceP.part {ps : List (Int × Int)} (h : OnceP ps) (k m : Nat) : OnceP ((ps.drop k).take m) := by
  have hg : ∀ i x, ((ps.drop k).take m)[i]? = some x → ps[k + i]? = some x := fun i x hx => by
    rw [List.getElem?_take] at hx
    split at hx
    · rwa [List.getElem?_drop] at hx
    · cases hx
  intro i j a b c d hij h1 h2 h3 h4
  exact h (k + i) (k + j) a b c d (by omega) (hg _ _ h1) (hg _ _ h2) (hg _ _ h3) (hg _ _ h4)
theorem once_map {f : Int × Int → Int × Int} (hf : ∀ a b, f a = f b → a = b) (ps : List (Int × Int)) : OnceP (ps.map f) ↔ OnceP ps := by
  constructor
  · intro h i k a b c d hik h1 h2 h3 h4 hs
    refine h i k (f a) (f b) (f c) (f d) hik ?_ ?_ ?_ ?_ ?_
    · rw [List.getElem?_map, h1]; rfl
    · rw [List.getElem?_map, h2]; rfl
    · rw [List.getElem?_map, h3]; rfl
    · rw [List.getElem?_map, h4]; rfl
    · rcases hs with ⟨rfl, rfl⟩ | ⟨rfl, rfl⟩
      · exact .inl ⟨rfl, rfl⟩
      · exact .inr ⟨rfl, rfl⟩
  · intro h i k a b c d hik h1 h2 h3 h4 hs
    rw [List.getElem?_map, Option.map_eq_some_iff] at h1 h2 h3 h4
    obtain ⟨a', ha, rfl⟩ := h1
    obtain ⟨b', hb, rfl⟩ := h2
    obtain ⟨c', hc, rfl⟩ := h3
    obtain ⟨d', hd, rfl⟩ := h4
    refine h i k a' b' c' d' hik ha hb hc hd ?_
    rcases hs with ⟨e1, e2⟩ | ⟨e1, e2⟩
    · exact .inl ⟨hf _ _ e1, hf _ _ e2⟩
    · exact .inr ⟨hf _ _ e1, hf _ _ e2⟩
theorem OnceP.reverse {ps : List (Int × Int)} (h : OnceP ps) : OnceP ps.reverse := by
  intro i k a b c d hik h1 h2 h3 h4 hs
  have hl : i + 1 < ps.length := by have := (List.getElem?_eq_some_iff.1 h4).1; simpa using this
  rw [List.getElem?_reverse (by omega)] at h1 h2 h3 h4
  refine h (ps.length - 1 - (k + 1)) (ps.length - 1 - (i + 1)) d c b a (by omega) h4 ?_ h2 ?_ ?_
  · rw [show ps.length - 1 - (i + 1) + 1 = ps.length - 1 - i by omega]; exact h3
  · rw [show ps.length - 1 - (k + 1) + 1 = ps.length - 1 - k by omega]; exact h1
  · rcases hs with ⟨rfl, rfl⟩ | ⟨rfl, rfl⟩
    · exact .inl ⟨rfl, rfl⟩
    · exact .inr ⟨rfl, rfl⟩
theorem once_reverse (ps : List (Int × Int)) : OnceP ps.reverse ↔ OnceP ps :=
  ⟨fun h => by have := h.reverse; rwa [List.reverse_reverse] at this, fun h => h.reverse⟩
/-- m is the greatest number of times that a place is in a list. -/
def IsMost (m : Nat) (ps : List (Int × Int)) : Prop := (∀ p, ps.count p ≤ m) ∧ (m = 0 ∨ ∃ p, ps.count p = m)
theorem IsMost.uniq {m n : Nat} {ps : List (Int × Int)} (h : IsMost m ps) (k : IsMost n ps) : m = n := by
  obtain ⟨h1, h2⟩ := h
  obtain ⟨k1, k2⟩ := k
  have a : m ≤ n := by
    rcases h2 with rfl | ⟨p, hp⟩
    · omega
    · rw [← hp]; exact k1 p
  have b : n ≤ m := by
    rcases k2 with rfl | ⟨p, hp⟩
    · omega
    · rw [← hp]; exact h1 p
  omega
theorem fold_max : ∀ (l : List Nat) (m : Nat), m ≤ l.foldl max m ∧ (∀ x ∈ l, x ≤ l.foldl max m) ∧ (l.foldl max m = m ∨ l.foldl max m ∈ l)
  | [], m => ⟨Nat.le_refl _, fun x hx => (by cases hx), .inl rfl⟩
  | y :: l, m => by
    obtain ⟨h1, h2, h3⟩ := fold_max l (max m y)
    show m ≤ l.foldl max (max m y) ∧ (∀ x ∈ y :: l, x ≤ l.foldl max (max m y)) ∧ (l.foldl max (max m y) = m ∨ l.foldl max (max m y) ∈ y :: l)
    refine ⟨by omega, fun x hx => ?_, ?_⟩
    · rcases List.mem_cons.1 hx with rfl | hx
      · omega
      · exact h2 x hx
    · rcases h3 with h3 | h3
      · by_cases e : y ≤ m
        · left; omega
        · right; rw [h3, show max m y = y by omega]; exact List.mem_cons_self
      · right; exact List.mem_cons_of_mem _ h3
def mostP (ps : List (Int × Int)) : Nat := (ps.map fun p => ps.count p).foldl max 0
theorem mostP_is (ps : List (Int × Int)) : IsMost (mostP ps) ps := by
  obtain ⟨_, h2, h3⟩ := fold_max (ps.map fun p => ps.count p) 0
  refine ⟨fun p => ?_, ?_⟩
  · by_cases hp : p ∈ ps
    · exact h2 _ (List.mem_map.2 ⟨p, hp, rfl⟩)
    · rw [List.count_eq_zero.2 hp]; exact Nat.zero_le _
  · rcases h3 with h3 | h3
    · exact .inl h3
    · obtain ⟨p, _, hp⟩ := List.mem_map.1 h3
      exact .inr ⟨p, hp⟩
theorem count_map {f : Int × Int → Int × Int} (hf : ∀ a b, f a = f b → a = b) (ps : List (Int × Int)) (p : Int × Int) : (ps.map f).count (f p) = ps.count p := by
  induction ps with
  | nil => rfl
  | cons q ps ih =>
    rw [List.map_cons, List.count_cons, List.count_cons, ih]
    have : (f q == f p) = (q == p) := by
      rw [Bool.eq_iff_iff]
      simp only [beq_iff_eq]
      exact ⟨hf q p, fun e => by rw [e]⟩
    rw [this]
theorem most_map {f : Int × Int → Int × Int} (hf : ∀ a b, f a = f b → a = b) (ps : List (Int × Int)) : mostP (ps.map f) = mostP ps := by
  refine (mostP_is (ps.map f)).uniq ?_
  obtain ⟨h1, h2⟩ := mostP_is ps
  refine ⟨fun p => ?_, ?_⟩
  · by_cases hp : p ∈ ps.map f
    · obtain ⟨q, _, rfl⟩ := List.mem_map.1 hp
      rw [count_map hf]
      exact h1 q
    · rw [List.count_eq_zero.2 hp]; exact Nat.zero_le _
  · rcases h2 with h2 | ⟨q, hq⟩
    · exact .inl h2
    · exact .inr ⟨f q, by rw [count_map hf]; exact hq⟩
theorem most_reverse (ps : List (Int × Int)) : mostP ps.reverse = mostP ps := by
  refine (mostP_is ps.reverse).uniq ?_
  obtain ⟨h1, h2⟩ := mostP_is ps
  refine ⟨fun p => ?_, ?_⟩
  · rw [List.count_reverse]; exact h1 p
  · rcases h2 with h2 | ⟨q, hq⟩
    · exact .inl h2
    · exact .inr ⟨q, by rw [List.count_reverse]; exact hq⟩
/-- A step of one. -/
def One (d : Int × Int) : Prop := d = (1, 0) ∨ d = (0, 1) ∨ d = (-1, 0) ∨ d = (0, -1)
theorem one_turn {c : UInt8} {d : Int × Int} (h : One d) : One (turn c d) := by
  unfold turn One
  rcases h with rfl | rfl | rfl | rfl <;> split <;> simp
/-- A place, turned and moved. -/
def mv (T d v : Int × Int) : Int × Int := (T.1 + (d.1 * v.1 - d.2 * v.2), T.2 + (d.2 * v.1 + d.1 * v.2))
theorem mv_inj {T d : Int × Int} (hd : One d) (a b : Int × Int) (h : mv T d a = mv T d b) : a = b := by
  obtain ⟨a1, a2⟩ := a
  obtain ⟨b1, b2⟩ := b
  unfold mv at h
  simp only [Prod.mk.injEq] at h ⊢
  rcases hd with rfl | rfl | rfl | rfl <;> simp only at h <;> omega
/-- A list of places that goes on by the turns of a text. -/
structure IsPath (ps : List (Int × Int)) (l : List UInt8) : Prop where
  len : ps.length = l.length + 2
  go : ∀ (i : Nat) (c : UInt8) (p q r : Int × Int), l[i]? = some c → ps[i]? = some p → ps[i + 1]? = some q → ps[i + 2]? = some r → (r.1 - q.1, r.2 - q.2) = turn c (q.1 - p.1, q.2 - p.2)
theorem places_at (l : List UInt8) (i : Nat) (h : i ≤ l.length) : (places l)[i + 1]? = some (stAt l i).1 := by
  unfold places placesTo
  rw [List.getElem?_cons_succ, List.getElem?_map, List.getElem?_range (by omega)]
  rfl
theorem places_zero (l : List UInt8) : (places l)[0]? = some (0, 0) := rfl
theorem places_length (l : List UInt8) : (places l).length = l.length + 2 := placesTo_length l l.length
theorem places_dir (l : List UInt8) : ∀ (i : Nat) (p : Int × Int), i ≤ l.length → (places l)[i]? = some p → (stAt l i).2 = ((stAt l i).1.1 - p.1, (stAt l i).1.2 - p.2)
  | 0, p, _, hp => by
    rw [places_zero] at hp
    obtain rfl := Option.some.inj hp
    rw [stAt_zero]
    rfl
  | i + 1, p, hi, hp => by
    rw [places_at l i (by omega)] at hp
    obtain rfl := Option.some.inj hp
    rw [stAt_succ l i (by omega)]
    unfold pstep
    apply Prod.ext <;> simp only <;> omega
theorem places_path (l : List UInt8) : IsPath (places l) l where
  len := places_length l
  go := fun i c p q r hc hp hq hr => by
    obtain ⟨hi, e⟩ := List.getElem?_eq_some_iff.1 hc
    have hd := places_dir l i p (by omega) hp
    rw [places_at l i (by omega)] at hq
    rw [places_at l (i + 1) (by omega)] at hr
    obtain rfl := Option.some.inj hq
    obtain rfl := Option.some.inj hr
    rw [stAt_succ l i hi, e]
    rw [← hd]
    unfold pstep
    apply Prod.ext <;> simp only <;> omega
theorem turn_mv {c : UInt8} {T d x y : Int × Int} (hd : One d) : turn c ((mv T d y).1 - (mv T d x).1, (mv T d y).2 - (mv T d x).2) = (d.1 * (turn c (y.1 - x.1, y.2 - x.2)).1 - d.2 * (turn c (y.1 - x.1, y.2 - x.2)).2, d.2 * (turn c (y.1 - x.1, y.2 - x.2)).1 + d.1 * (turn c (y.1 - x.1, y.2 - x.2)).2) := by
  obtain ⟨x1, x2⟩ := x
  obtain ⟨y1, y2⟩ := y
  unfold turn mv
  rcases hd with rfl | rfl | rfl | rfl <;> by_cases hc : c = 86 <;> simp [hc] <;> omega
theorem mv_step {T d q r v : Int × Int} (hd : One d) (h : (r.1 - q.1, r.2 - q.2) = v) : mv T d r = ((mv T d q).1 + (d.1 * v.1 - d.2 * v.2), (mv T d q).2 + (d.2 * v.1 + d.1 * v.2)) := by
  subst h
  obtain ⟨q1, q2⟩ := q
  obtain ⟨r1, r2⟩ := r
  unfold mv
  rcases hd with rfl | rfl | rfl | rfl <;> simp <;> omega
theorem path_image {ps qs : List (Int × Int)} {l : List UInt8} (hp : IsPath ps l) (hq : IsPath qs l) {T d : Int × Int} (hd : One d) (h0 : ps[0]? = qs[0]?.map (mv T d)) (h1 : ps[1]? = qs[1]?.map (mv T d)) : ps = qs.map (mv T d) := by
  have key : ∀ i, ps[i]? = qs[i]?.map (mv T d) ∧ ps[i + 1]? = qs[i + 1]?.map (mv T d) := fun i => by
    induction i with
    | zero => exact ⟨h0, h1⟩
    | succ i ih =>
      refine ⟨ih.2, ?_⟩
      by_cases hi : i < l.length
      · have s0 : qs[i]? = some (qs[i]'(by rw [hq.len]; omega)) := List.getElem?_eq_getElem _
        have s1 : qs[i + 1]? = some (qs[i + 1]'(by rw [hq.len]; omega)) := List.getElem?_eq_getElem _
        have s2 : qs[i + 2]? = some (qs[i + 2]'(by rw [hq.len]; omega)) := List.getElem?_eq_getElem _
        have t2 : ps[i + 2]? = some (ps[i + 2]'(by rw [hp.len]; omega)) := List.getElem?_eq_getElem _
        obtain ⟨x, hx⟩ : ∃ x, x = qs[i]'(by rw [hq.len]; omega) := ⟨_, rfl⟩
        obtain ⟨y, hy⟩ : ∃ y, y = qs[i + 1]'(by rw [hq.len]; omega) := ⟨_, rfl⟩
        obtain ⟨z, hz⟩ : ∃ z, z = qs[i + 2]'(by rw [hq.len]; omega) := ⟨_, rfl⟩
        obtain ⟨r, hr⟩ : ∃ r, r = ps[i + 2]'(by rw [hp.len]; omega) := ⟨_, rfl⟩
        rw [← hx] at s0
        rw [← hy] at s1
        rw [← hz] at s2
        rw [← hr] at t2
        have t0 := ih.1
        have t1 := ih.2
        rw [s0] at t0
        rw [s1] at t1
        have g1 := hq.go i l[i] x y z (List.getElem?_eq_getElem hi) s0 s1 s2
        have g2 := hp.go i l[i] _ _ r (List.getElem?_eq_getElem hi) t0 t1 t2
        rw [turn_mv hd, ← g1] at g2
        show ps[i + 2]? = qs[i + 2]?.map (mv T d)
        rw [t2, s2]
        show some r = some (mv T d z)
        rw [mv_step hd g1, ← g1]
        injection g2 with e1 e2
        simp only at e1 e2
        congr 1
        apply Prod.ext <;> simp only <;> omega
      · rw [List.getElem?_eq_none (by rw [hp.len]; omega), List.getElem?_eq_none (by rw [hq.len]; omega)]
        rfl
  apply List.ext_getElem?
  intro i
  rw [List.getElem?_map]
  exact (key i).1
/-- Any path is that of its text, turned and moved. -/
theorem path_of {ps : List (Int × Int)} {l : List UInt8} (hp : IsPath ps l) {a b : Int × Int} (h0 : ps[0]? = some a) (h1 : ps[1]? = some b) (hu : One (b.1 - a.1, b.2 - a.2)) : ps = (places l).map (mv a (b.1 - a.1, b.2 - a.2)) := by
  refine path_image hp (places_path l) hu ?_ ?_
  · rw [h0, places_zero]
    show some a = some (mv a _ (0, 0))
    unfold mv
    simp
  · rw [h1, places_at l 0 (Nat.zero_le _), stAt_zero]
    show some b = some (mv a _ (1, 0))
    unfold mv
    simp
    congr 1
    apply Prod.ext <;> simp only <;> omega
theorem path_one {ps : List (Int × Int)} {l : List UInt8} (hp : IsPath ps l) {a b : Int × Int} (h0 : ps[0]? = some a) (h1 : ps[1]? = some b) (hu : One (b.1 - a.1, b.2 - a.2)) : ∀ (i : Nat) (x y : Int × Int), ps[i]? = some x → ps[i + 1]? = some y → One (y.1 - x.1, y.2 - x.2)
  | 0, x, y, hx, hy => by
    rw [h0] at hx
    rw [h1] at hy
    obtain rfl := Option.some.inj hx
    obtain rfl := Option.some.inj hy
    exact hu
  | i + 1, x, y, hx, hy => by
    have hl : i + 2 < l.length + 2 := by have := (List.getElem?_eq_some_iff.1 hy).1; rw [hp.len] at this; omega
    have hw : ps[i]? = some (ps[i]'(by rw [hp.len]; omega)) := List.getElem?_eq_getElem _
    have := path_one hp h0 h1 hu i _ x hw hx
    rw [hp.go i l[i] _ x y (List.getElem?_eq_getElem (by omega)) hw hx hy]
    exact one_turn this
theorem places_one (l : List UInt8) (i : Nat) (x y : Int × Int) (hx : (places l)[i]? = some x) (hy : (places l)[i + 1]? = some y) : One (y.1 - x.1, y.2 - x.2) :=
  path_one (places_path l) (places_zero l) ((places_at l 0 (Nat.zero_le _)).trans (by rw [stAt_zero])) (.inl rfl) i x y hx hy
/-- A part of a path. -/
theorem part_path {ps : List (Int × Int)} {l : List UInt8} (hp : IsPath ps l) (k m : Nat) (h : k + m ≤ l.length) : IsPath ((ps.drop k).take (m + 2)) ((l.drop k).take m) where
  len := by simp [hp.len]; omega
  go := fun i c p q r hc h1 h2 h3 => by
    have hg : ∀ i x, ((ps.drop k).take (m + 2))[i]? = some x → ps[k + i]? = some x := fun i x hx => by
      rw [List.getElem?_take] at hx
      split at hx
      · rwa [List.getElem?_drop] at hx
      · cases hx
    have hc' : l[k + i]? = some c := by
      rw [List.getElem?_take] at hc
      split at hc
      · rwa [List.getElem?_drop] at hc
      · cases hc
    exact hp.go (k + i) c p q r hc' (hg _ _ h1) (hg _ _ h2) (hg _ _ h3)
theorem once_part {l : List UInt8} (ho : OnceP (places l)) (k m : Nat) (h : k + m ≤ l.length) : OnceP (places ((l.drop k).take m)) := by
  have hp := part_path (places_path l) k m h
  have hpart := ho.part k (m + 2)
  have g : ∀ i, i < 2 → ((places l).drop k |>.take (m + 2))[i]? = (places l)[k + i]? := fun i hi => by
    rw [List.getElem?_take, if_pos (by omega), List.getElem?_drop]
  have s0 : (places l)[k]? = some ((places l)[k]'(by rw [places_length]; omega)) := List.getElem?_eq_getElem _
  have s1 : (places l)[k + 1]? = some ((places l)[k + 1]'(by rw [places_length]; omega)) := List.getElem?_eq_getElem _
  have hu := places_one l k _ _ s0 s1
  have e := path_of hp ((g 0 (by omega)).trans s0) ((g 1 (by omega)).trans s1) hu
  rw [e, once_map (mv_inj hu)] at hpart
  exact hpart
theorem most_part {l : List UInt8} (k m : Nat) (h : k + m ≤ l.length) : mostP (places ((l.drop k).take m)) ≤ mostP (places l) := by
  have hp := part_path (places_path l) k m h
  have g : ∀ i, i < 2 → ((places l).drop k |>.take (m + 2))[i]? = (places l)[k + i]? := fun i hi => by
    rw [List.getElem?_take, if_pos (by omega), List.getElem?_drop]
  have s0 : (places l)[k]? = some ((places l)[k]'(by rw [places_length]; omega)) := List.getElem?_eq_getElem _
  have s1 : (places l)[k + 1]? = some ((places l)[k + 1]'(by rw [places_length]; omega)) := List.getElem?_eq_getElem _
  have hu := places_one l k _ _ s0 s1
  have e := path_of hp ((g 0 (by omega)).trans s0) ((g 1 (by omega)).trans s1) hu
  rw [← most_map (mv_inj hu), ← e]
  rcases (mostP_is (((places l).drop k).take (m + 2))).2 with h0 | ⟨p, hp⟩
  · rw [h0]; exact Nat.zero_le _
  · rw [← hp]
    refine Nat.le_trans ?_ ((mostP_is (places l)).1 p)
    exact Nat.le_trans (List.Sublist.count_le _ (List.take_sublist _ _)) (List.Sublist.count_le _ (List.drop_sublist _ _))
theorem turn_inv {c : UInt8} (hc : isMV c = true) {p q r : Int × Int} (h : (r.1 - q.1, r.2 - q.2) = turn c (q.1 - p.1, q.2 - p.2)) : (p.1 - q.1, p.2 - q.2) = turn (swp c) (q.1 - r.1, q.2 - r.2) := by
  obtain ⟨p1, p2⟩ := p
  obtain ⟨q1, q2⟩ := q
  obtain ⟨r1, r2⟩ := r
  have ha : c = 77 ∨ c = 86 := by simpa [isMV] using hc
  rcases ha with rfl | rfl <;> simp [turn, swp] at h ⊢ <;> omega
/-- A path gone back. -/
theorem back_path {ps : List (Int × Int)} {l : List UInt8} (hp : IsPath ps l) (hl : l.all isMV = true) : IsPath ps.reverse (otherL l) where
  len := by rw [List.length_reverse, hp.len]; unfold otherL; simp
  go := fun i c p q r hc h1 h2 h3 => by
    unfold otherL at hc
    rw [List.getElem?_map, Option.map_eq_some_iff] at hc
    obtain ⟨c', hc', rfl⟩ := hc
    have hi : i < l.length := by have := (List.getElem?_eq_some_iff.1 hc').1; simpa using this
    rw [List.getElem?_reverse hi] at hc'
    have hn := hp.len
    rw [List.getElem?_reverse (by omega)] at h1 h2 h3
    have hm : isMV c' = true := List.all_eq_true.1 hl c' (List.mem_of_getElem? hc')
    refine turn_inv hm (hp.go (l.length - 1 - i) c' r q p hc' ?_ ?_ ?_)
    · rw [← h3]; congr 1; omega
    · rw [← h2]; congr 1; omega
    · rw [← h1]; congr 1; omega
/-- The path of the other side: the path gone back, turned and moved. -/
theorem other_image {l : List UInt8} (hl : l.all isMV = true) : ∃ d : Int × Int, One d ∧ (places l).reverse = (places (otherL l)).map (mv (stAt l l.length).1 d) := by
  have hn := places_length l
  have s0 : (places l)[l.length]? = some ((places l)[l.length]'(by omega)) := List.getElem?_eq_getElem _
  have s1 := places_at l l.length (Nat.le_refl _)
  obtain ⟨x, hx⟩ : ∃ x, x = (places l)[l.length]'(by omega) := ⟨_, rfl⟩
  rw [← hx] at s0
  have hu := places_one l l.length _ _ s0 s1
  have hv : One (x.1 - (stAt l l.length).1.1, x.2 - (stAt l l.length).1.2) := by
    unfold One at hu ⊢
    simp only [Prod.mk.injEq] at hu ⊢
    omega
  refine ⟨_, hv, path_of (back_path (places_path l) hl) ?_ ?_ hv⟩
  · rw [List.getElem?_reverse (by omega), show (places l).length - 1 - 0 = l.length + 1 by omega]; exact s1
  · rw [List.getElem?_reverse (by omega), show (places l).length - 1 - 1 = l.length by omega]; exact s0
theorem once_other {l : List UInt8} (hl : l.all isMV = true) : OnceP (places (otherL l)) ↔ OnceP (places l) := by
  obtain ⟨d, hd, e⟩ := other_image hl
  rw [← once_map (mv_inj (T := (stAt l l.length).1) hd), ← e, once_reverse]
theorem most_other {l : List UInt8} (hl : l.all isMV = true) : mostP (places (otherL l)) = mostP (places l) := by
  obtain ⟨d, hd, e⟩ := other_image hl
  rw [← most_map (mv_inj (T := (stAt l l.length).1) hd), ← e, most_reverse]
/-- The other side's path ends as far away. -/
theorem far_other {l : List UInt8} (hl : l.all isMV = true) :
    (stAt (otherL l) l.length).1.1 * (stAt (otherL l) l.length).1.1 + (stAt (otherL l) l.length).1.2 * (stAt (otherL l) l.length).1.2 = (stAt l l.length).1.1 * (stAt l l.length).1.1 + (stAt l l.length).1.2 * (stAt l l.length).1.2 := by
  obtain ⟨d, hd, e⟩ := other_image hl
  have hol : (otherL l).length = l.length := by unfold otherL; simp
  have hn := places_length l
  have s1 := places_at (otherL l) l.length (by omega)
  have h : (places l).reverse[l.length + 1]? = some (0, 0) := by
    rw [List.getElem?_reverse (by omega), show (places l).length - 1 - (l.length + 1) = 0 by omega]
    exact places_zero l
  rw [e, List.getElem?_map, s1] at h
  have h' : mv (stAt l l.length).1 d (stAt (otherL l) l.length).1 = (0, 0) := Option.some.inj h
  obtain ⟨Y, hY⟩ : ∃ Y, Y = (stAt (otherL l) l.length).1 := ⟨_, rfl⟩
  obtain ⟨X, hX⟩ : ∃ X, X = (stAt l l.length).1 := ⟨_, rfl⟩
  rw [← hY, ← hX] at h'
  rw [← hY, ← hX]
  clear hX hY e h s1 hn
  obtain ⟨y1, y2⟩ := Y
  obtain ⟨x1, x2⟩ := X
  unfold mv at h'
  simp only [Prod.mk.injEq] at h' ⊢
  rcases hd with rfl | rfl | rfl | rfl <;> simp only at h'
  · obtain rfl : y1 = -x1 := by omega
    obtain rfl : y2 = -x2 := by omega
    rw [Int.neg_mul_neg, Int.neg_mul_neg]
  · obtain rfl : y1 = -x2 := by omega
    obtain rfl : y2 = x1 := by omega
    rw [Int.neg_mul_neg, Int.add_comm]
  · obtain rfl : y1 = x1 := by omega
    obtain rfl : y2 = x2 := by omega
    rfl
  · obtain rfl : y1 = x2 := by omega
    obtain rfl : y2 = -x1 := by omega
    rw [Int.neg_mul_neg, Int.add_comm]
/-- A place on the other side of the first step's line. -/
def mir (v : Int × Int) : Int × Int := (v.1, -v.2)
theorem mir_inj (a b : Int × Int) (h : mir a = mir b) : a = b := by
  obtain ⟨a1, a2⟩ := a
  obtain ⟨b1, b2⟩ := b
  unfold mir at h
  simp only [Prod.mk.injEq] at h ⊢
  omega
theorem turn_mir {c : UInt8} (hc : isMV c = true) {p q r : Int × Int} (h : (r.1 - q.1, r.2 - q.2) = turn c (q.1 - p.1, q.2 - p.2)) : ((mir r).1 - (mir q).1, (mir r).2 - (mir q).2) = turn (swp c) ((mir q).1 - (mir p).1, (mir q).2 - (mir p).2) := by
  obtain ⟨p1, p2⟩ := p
  obtain ⟨q1, q2⟩ := q
  obtain ⟨r1, r2⟩ := r
  have ha : c = 77 ∨ c = 86 := by simpa [isMV] using hc
  rcases ha with rfl | rfl <;> simp [turn, swp, mir] at h ⊢ <;> omega
theorem swap_image {l : List UInt8} (hl : l.all isMV = true) : places (l.map swp) = (places l).map mir := by
  have hp : IsPath ((places l).map mir) (l.map swp) := ⟨by rw [List.length_map, List.length_map, places_length], fun i c p q r hc h1 h2 h3 => by
    rw [List.getElem?_map, Option.map_eq_some_iff] at hc h1 h2 h3
    obtain ⟨c', hc', rfl⟩ := hc
    obtain ⟨p', hp', rfl⟩ := h1
    obtain ⟨q', hq', rfl⟩ := h2
    obtain ⟨r', hr', rfl⟩ := h3
    exact turn_mir (List.all_eq_true.1 hl c' (List.mem_of_getElem? hc')) ((places_path l).go i c' p' q' r' hc' hp' hq' hr')⟩
  have e := path_of hp (a := (0, 0)) (b := (1, 0)) (by rw [List.getElem?_map, places_zero]; rfl) (by rw [List.getElem?_map, places_at l 0 (Nat.zero_le _), stAt_zero]; rfl) (.inl rfl)
  rw [e]
  have : mv (0, 0) (((1, 0) : Int × Int).1 - ((0, 0) : Int × Int).1, ((1, 0) : Int × Int).2 - ((0, 0) : Int × Int).2) = id := by
    funext v
    unfold mv
    simp
  rw [this, List.map_id]
theorem once_swap {l : List UInt8} (hl : l.all isMV = true) : OnceP (places (l.map swp)) ↔ OnceP (places l) := by
  rw [swap_image hl, once_map mir_inj]
theorem end_swap {l : List UInt8} (hl : l.all isMV = true) : (stAt (l.map swp) l.length).1 = mir (stAt l l.length).1 := by
  have h1 := places_at (l.map swp) l.length (by simp)
  rw [swap_image hl, List.getElem?_map, places_at l l.length (Nat.le_refl _)] at h1
  exact (Option.some.inj h1).symm
end Go.Proofs.Ytalbokejljjflaa
