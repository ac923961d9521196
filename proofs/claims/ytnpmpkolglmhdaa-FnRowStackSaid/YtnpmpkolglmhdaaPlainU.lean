/- The plain law of folded sheets: the cells are all different; which way up they lie. Conditions: each theorem's own premises. -/
import Derived.Test.YtnpmpkolglmhdaaPlainT
namespace Go.Proofs.Ytnpmpkolglmhdaa
open Go.RowKit
/-- The cells of a stack lie at places that differ, in R rows and C columns. -/
def Apart (R C : Nat) (t t' : Tm) : Prop := ∀ r c r' c' : Nat, r < R → c < C → r' < R → c' < C → ¬ ((t.at r c).row = (t'.at r' c').row ∧ (t.at r c).col = (t'.at r' c').col)
theorem Apart.symm {R C : Nat} {t t' : Tm} (h : Apart R C t t') : Apart R C t' t := fun r c r' c' h1 h2 h3 h4 e => h r' c' r c h3 h4 h1 h2 ⟨e.1.symm, e.2.symm⟩
theorem self_apart {t : Tm} {r c r' c' : Int} (h : r ≠ r' ∨ c ≠ c') : ¬ ((t.at r c).row = (t.at r' c').row ∧ (t.at r c).col = (t.at r' c').col) := by
  unfold Tm.at
  cases t.h <;> cases t.u <;> simp <;> omega
theorem pair_of {α : Type} {Q : α → α → Prop} (hs : ∀ {x y}, Q x y → Q y x) : ∀ {l : List α}, l.Pairwise Q → ∀ x ∈ l, ∀ y ∈ l, x = y ∨ Q x y
  | [], _, x, hx, _, _ => by cases hx
  | a :: l, h, x, hx, y, hy => by
    obtain ⟨h1, h2⟩ := List.pairwise_cons.1 h
    rcases List.mem_cons.1 hx with ex | kx
    · rcases List.mem_cons.1 hy with ey | ky
      · exact .inl (ex.trans ey.symm)
      · exact .inr (by rw [ex]; exact h1 y ky)
    · rcases List.mem_cons.1 hy with ey | ky
      · exact .inr (by rw [ey]; exact hs (h1 x kx))
      · exact pair_of hs h2 x kx y ky
theorem putT_pairwise {Q : Tm → Tm → Prop} (hs : ∀ {x y}, Q x y → Q y x) (un : Bool) {A B : List Tm} (ha : A.Pairwise Q) (hb : B.Pairwise Q) (hc : ∀ x ∈ A, ∀ y ∈ B, Q x y) : (putT un A B).Pairwise Q := by
  have hbr : B.reverse.Pairwise Q := by
    rw [List.pairwise_reverse]
    exact hb.imp fun h => hs h
  unfold putT
  cases un
  · simp only [Bool.false_eq_true, if_false]
    exact List.pairwise_append.2 ⟨ha, hbr, fun x hx y hy => hc x hx y (by simpa using hy)⟩
  · simp only [if_true]
    exact List.pairwise_append.2 ⟨hbr, ha, fun x hx y hy => hs (hc y hy x (by simpa using hx))⟩
theorem over_row (hi : Bool) (t : Tm) (d e r c : Int) (h : hi = true → e = 0) (h' : hi = false → d = 0) :
    (((t.go d e).over hi).at r c).row = (t.at (if hi then d - r else r) (if hi then c else e - c)).row ∧ (((t.go d e).over hi).at r c).col = (t.at (if hi then d - r else r) (if hi then c else e - c)).col := by
  cases hi
  · have := h' rfl
    subst this
    unfold Tm.over Tm.go Tm.at
    cases t.h <;> cases t.u <;> simp <;> omega
  · have := h rfl
    subst this
    unfold Tm.over Tm.go Tm.at
    cases t.h <;> cases t.u <;> simp <;> omega
theorem apart_step {s : Sheet} {c : UInt8} {T : List Tm} (hF : Foldable s c) (h : T.Pairwise (Apart s.R s.C)) : (stepT c (if high (c.toNat : Int) then s.R / 2 else s.C / 2) T).Pairwise (Apart (stepS s c).R (stepS s c).C) := by
  have hall := fun x hx y hy => pair_of (Q := Apart s.R s.C) (fun h => h.symm) h x hx y hy
  unfold stepT stepS
  cases hi : high (c.toNat : Int) with
  | true =>
    obtain ⟨e, b⟩ := hF.h hi
    simp only [if_true]
    obtain ⟨half, hh⟩ : ∃ half, half = s.R / 2 := ⟨_, rfl⟩
    rw [← hh] at e b ⊢
    have k1 : ∀ r, r < half → stays (fstC c) half r < s.R := fun r hr => by unfold stays; cases fstC c <;> simp <;> omega
    have k2 : ∀ r, r < half → moves (fstC c) half r < s.R := fun r hr => by unfold moves; cases fstC c <;> simp <;> omega
    have k3 : ∀ r r', r < half → r' < half → stays (fstC c) half r ≠ moves (fstC c) half r' := fun r r' hr hr' => by unfold stays moves; cases fstC c <;> simp <;> omega
    refine putT_pairwise (fun h => h.symm) _ ?_ ?_ ?_
    · rw [List.pairwise_map]
      refine h.imp fun {t t'} ht r k r' k' h1 h2 h3 h4 => ?_
      rw [at_go, at_go, ← offS_is, ← offS_is, Int.zero_add, Int.zero_add]
      exact ht _ _ _ _ (k1 r h1) h2 (k1 r' h3) h4
    · rw [List.pairwise_map]
      refine h.imp fun {t t'} ht r k r' k' h1 h2 h3 h4 => ?_
      rw [at_over_h, at_over_h, ← offM_is _ h1, ← offM_is _ h3]
      exact ht _ _ _ _ (k2 r h1) h2 (k2 r' h3) h4
    · intro x hx y hy r k r' k' h1 h2 h3 h4
      obtain ⟨t, ht, rfl⟩ := List.mem_map.1 hx
      obtain ⟨t', ht', rfl⟩ := List.mem_map.1 hy
      rw [at_go, at_over_h, ← offS_is, ← offM_is _ h3, Int.zero_add]
      rcases hall t ht t' ht' with rfl | hq
      · refine self_apart (t := t) (.inl ?_)
        have := k3 r r' h1 h3
        omega
      · exact hq _ _ _ _ (k1 r h1) h2 (k2 r' h3) h4
  | false =>
    obtain ⟨e, b⟩ := hF.w hi
    simp only [Bool.false_eq_true, if_false]
    obtain ⟨half, hh⟩ : ∃ half, half = s.C / 2 := ⟨_, rfl⟩
    rw [← hh] at e b ⊢
    have k1 : ∀ r, r < half → stays (fstC c) half r < s.C := fun r hr => by unfold stays; cases fstC c <;> simp <;> omega
    have k2 : ∀ r, r < half → moves (fstC c) half r < s.C := fun r hr => by unfold moves; cases fstC c <;> simp <;> omega
    have k3 : ∀ r r', r < half → r' < half → stays (fstC c) half r ≠ moves (fstC c) half r' := fun r r' hr hr' => by unfold stays moves; cases fstC c <;> simp <;> omega
    refine putT_pairwise (fun h => h.symm) _ ?_ ?_ ?_
    · rw [List.pairwise_map]
      refine h.imp fun {t t'} ht r k r' k' h1 h2 h3 h4 => ?_
      rw [at_go, at_go, ← offS_is, ← offS_is, Int.zero_add, Int.zero_add]
      exact ht _ _ _ _ h1 (k1 k h2) h3 (k1 k' h4)
    · rw [List.pairwise_map]
      refine h.imp fun {t t'} ht r k r' k' h1 h2 h3 h4 => ?_
      rw [at_over_w, at_over_w, ← offM_is _ h2, ← offM_is _ h4]
      exact ht _ _ _ _ h1 (k2 k h2) h3 (k2 k' h4)
    · intro x hx y hy r k r' k' h1 h2 h3 h4
      obtain ⟨t, ht, rfl⟩ := List.mem_map.1 hx
      obtain ⟨t', ht', rfl⟩ := List.mem_map.1 hy
      rw [at_go, at_over_w, ← offS_is, ← offM_is _ h4, Int.zero_add]
      rcases hall t ht t' ht' with rfl | hq
      · refine self_apart (t := t) (.inr ?_)
        have := k3 k k' h2 h4
        omega
      · exact hq _ _ _ _ h1 (k1 k h2) h3 (k2 k' h4)
theorem apart_to {l : List UInt8} (hok : sheetOk l = true) : ∀ k, k ≤ l.length → (tmTo l k).Pairwise (Apart (sheetTo l k).R (sheetTo l k).C)
  | 0, _ => List.pairwise_singleton _ _
  | k + 1, hk => by
    rw [sheetTo_succ l k (by omega), tmTo_succ l k (by omega)]
    exact apart_step (foldable hok k (by omega)) (apart_to hok k (by omega))
/-- The cells of a folded sheet are all different. -/
theorem stack_apart {l : List UInt8} (hok : sheetOk l = true) : (stackC l).Pairwise fun x y => ¬ (x.row = y.row ∧ x.col = y.col) := by
  obtain ⟨d1, d2⟩ := end_dims hok
  rw [stack_told hok, List.pairwise_map]
  refine (apart_to hok l.length (Nat.le_refl _)).imp fun h => ?_
  rw [d1, d2] at h
  exact h 0 0 0 0 (by omega) (by omega) (by omega) (by omega)
/-- Whether a cell's head is up, and whether its front is, by its place. -/
def Par (p q : Int) (t : Tm) : Prop := (t.h = true ↔ (t.a + p) % 2 = 0) ∧ (t.u = t.h ↔ (t.b + q) % 2 = 0)
theorem par_go {p q : Int} {t : Tm} (h : Par p q t) (d e : Int) : Par (p + d) (q + e) (t.go d e) := by
  obtain ⟨h1, h2⟩ := h
  unfold Par Tm.go
  constructor
  · refine h1.trans ?_
    cases t.h <;> simp <;> omega
  · refine h2.trans ?_
    cases t.u <;> cases t.h <;> simp <;> omega
theorem par_over_w {p q : Int} {t : Tm} (h : Par p q t) : Par p (q + 1) (t.over false) := by
  obtain ⟨h1, h2⟩ := h
  unfold Par Tm.over
  refine ⟨h1, ?_⟩
  show (!t.u) = t.h ↔ _
  have : ((!t.u) = t.h) ↔ ¬ (t.u = t.h) := by cases t.u <;> cases t.h <;> simp
  rw [this, h2]
  show _ ↔ (t.b + (q + 1)) % 2 = 0
  omega
theorem par_over_h {p q : Int} {t : Tm} (h : Par p q t) : Par (p + 1) q (t.over true) := by
  obtain ⟨h1, h2⟩ := h
  unfold Par Tm.over
  constructor
  · show (!t.h) = true ↔ (t.a + (p + 1)) % 2 = 0
    have : ((!t.h) = true) ↔ ¬ (t.h = true) := by cases t.h <;> simp
    rw [this, h1]
    omega
  · show ((!t.u) = !t.h) ↔ _
    have : ((!t.u) = !t.h) ↔ (t.u = t.h) := by cases t.u <;> cases t.h <;> simp
    rw [this, h2]
theorem par_mod {p q p' q' : Int} {t : Tm} (h : Par p q t) (e1 : (p' - p) % 2 = 0) (e2 : (q' - q) % 2 = 0) : Par p' q' t := by
  obtain ⟨h1, h2⟩ := h
  exact ⟨h1.trans (by omega), h2.trans (by omega)⟩
theorem mem_putT {un : Bool} {A B : List Tm} {x : Tm} (h : x ∈ putT un A B) : x ∈ A ∨ x ∈ B := by
  unfold putT at h
  cases un <;> simp at h <;> rcases h with h | h <;> simp [h]
theorem par_step (c : UInt8) (half : Nat) {T : List Tm} {p q : Int} (h : ∀ t ∈ T, Par p q t) : ∃ p' q', ∀ t ∈ stepT c half T, Par p' q' t := by
  unfold stepT
  cases hi : high (c.toNat : Int) with
  | true =>
    simp only [if_true]
    refine ⟨p + offS (fstC c) half, q, fun t ht => ?_⟩
    rcases mem_putT ht with ht | ht
    · obtain ⟨x, hx, rfl⟩ := List.mem_map.1 ht
      have := par_go (h x hx) (offS (fstC c) half) 0
      exact par_mod this (by simp) (by omega)
    · obtain ⟨x, hx, rfl⟩ := List.mem_map.1 ht
      have := par_over_h (par_go (h x hx) (offM (fstC c) half) 0)
      exact par_mod this (by unfold offS offM; cases fstC c <;> simp <;> omega) (by omega)
  | false =>
    simp only [Bool.false_eq_true, if_false]
    refine ⟨p, q + offS (fstC c) half, fun t ht => ?_⟩
    rcases mem_putT ht with ht | ht
    · obtain ⟨x, hx, rfl⟩ := List.mem_map.1 ht
      have := par_go (h x hx) 0 (offS (fstC c) half)
      exact par_mod this (by omega) (by simp)
    · obtain ⟨x, hx, rfl⟩ := List.mem_map.1 ht
      have := par_over_w (par_go (h x hx) 0 (offM (fstC c) half))
      exact par_mod this (by omega) (by unfold offS offM; cases fstC c <;> simp <;> omega)
theorem par_to (l : List UInt8) : ∀ k, k ≤ l.length → ∃ p q, ∀ t ∈ tmTo l k, Par p q t
  | 0, _ => ⟨0, 0, fun t ht => by
    have : t = ⟨0, 0, true, true⟩ := List.mem_singleton.1 ht
    subst this
    exact ⟨by simp, by simp⟩⟩
  | k + 1, hk => by
    obtain ⟨p, q, h⟩ := par_to l k (by omega)
    rw [tmTo_succ l k (by omega)]
    exact par_step _ _ h
/-- Which way up a cell of a folded sheet lies, by its row and its column. -/
theorem stack_par {l : List UInt8} (hok : sheetOk l = true) : ∃ p q : Int, ∀ x ∈ stackC l, (x.head = true ↔ (x.row + p) % 2 = 0) ∧ (x.up = x.head ↔ (x.col + q) % 2 = 0) := by
  obtain ⟨p, q, h⟩ := par_to l l.length (Nat.le_refl _)
  refine ⟨p, q, fun x hx => ?_⟩
  rw [stack_told hok] at hx
  obtain ⟨t, ht, rfl⟩ := List.mem_map.1 hx
  obtain ⟨h1, h2⟩ := h t ht
  have er : (t.at 0 0).row = t.a := by unfold Tm.at; cases t.h <;> simp
  have ec : (t.at 0 0).col = t.b := by unfold Tm.at; cases t.u == t.h <;> simp
  rw [er, ec]
  exact ⟨h1, h2⟩
/-- The last fold: the stack of what has been on one side, and that of what has been on the other one. -/
theorem last_fold {l : List UInt8} (hok : sheetOk l = true) (h0 : 0 < l.length) : ∃ A B : List Cel, A.length = B.length ∧ (stackC l = A ++ B.reverse ∨ stackC l = B.reverse ++ A) ∧
    ∀ (k : Nat) x y, A[k]? = some x → B[k]? = some y → x.up = !y.up ∧ ((x.row = y.row ∧ (x.col - y.col = 1 ∨ x.col - y.col = -1)) ∨ (x.col = y.col ∧ (x.row - y.row = 1 ∨ x.row - y.row = -1))) := by
  obtain ⟨n, hn⟩ : ∃ n, l.length = n + 1 := ⟨l.length - 1, by omega⟩
  have hk : n < l.length := by omega
  have hF := foldable hok n hk
  obtain ⟨d1, d2⟩ := end_dims hok
  rw [hn, sheetTo_succ l n hk] at d1 d2
  rw [stack_told hok, hn, tmTo_succ l n hk]
  have hlast : halfAt l n l[n] = 1 := by
    unfold halfAt
    unfold stepS at d1 d2
    cases hi : high (l[n].toNat : Int)
    · rw [hi] at d2
      simpa using d2
    · rw [hi] at d1
      simpa using d1
  rw [hlast]
  unfold stepT
  cases hi : high (l[n].toNat : Int) with
  | false =>
    simp only [Bool.false_eq_true, if_false]
    refine ⟨((tmTo l n).map fun t => t.go 0 (offS (fstC l[n]) 1)).map fun t => t.at 0 0, ((tmTo l n).map fun t => (t.go 0 (offM (fstC l[n]) 1)).over false).map fun t => t.at 0 0, by simp, ?_, ?_⟩
    · unfold putT
      cases under l[n]
      · left; simp
      · right; simp
    · intro k x y hx hy
      simp only [List.getElem?_map, Option.map_eq_some_iff] at hx hy
      obtain ⟨t1, ⟨t2, ht, rfl⟩, rfl⟩ := hx
      obtain ⟨t3, ⟨t4, ht', rfl⟩, rfl⟩ := hy
      rw [ht] at ht'
      obtain rfl := Option.some.inj ht'
      unfold Tm.over Tm.go Tm.at offS offM
      cases fstC l[n] <;> cases t2.u <;> cases t2.h <;> simp <;> omega
  | true =>
    simp only [if_true]
    refine ⟨((tmTo l n).map fun t => t.go (offS (fstC l[n]) 1) 0).map fun t => t.at 0 0, ((tmTo l n).map fun t => (t.go (offM (fstC l[n]) 1) 0).over true).map fun t => t.at 0 0, by simp, ?_, ?_⟩
    · unfold putT
      cases under l[n]
      · left; simp
      · right; simp
    · intro k x y hx hy
      simp only [List.getElem?_map, Option.map_eq_some_iff] at hx hy
      obtain ⟨t1, ⟨t2, ht, rfl⟩, rfl⟩ := hx
      obtain ⟨t3, ⟨t4, ht', rfl⟩, rfl⟩ := hy
      rw [ht] at ht'
      obtain rfl := Option.some.inj ht'
      unfold Tm.over Tm.go Tm.at offS offM
      cases fstC l[n] <;> cases t2.u <;> cases t2.h <;> simp <;> omega
end Go.Proofs.Ytnpmpkolglmhdaa
