/- Lists compared number by number: the walks of the library's cmp.Compare and slices.Compare at integers, and the order in plain Lean. Conditions: each theorem's own premises. -/
import Derived.Test.YtadpbbjahckoaaaStampG
namespace Go.Proofs.Ytadpbbjahckoaaa
open Go.RowKit
def cmpI (x y : Int) : Int := if x < y then -1 else if y < x then 1 else 0
/-- Lists compared number by number. -/
def cmpL : List Int → List Int → Int
  | [], [] => 0
  | [], _ :: _ => -1
  | _ :: _, [] => 1
  | x :: s, y :: t => if x < y then -1 else if y < x then 1 else cmpL s t
theorem cmpL_self : ∀ a : List Int, cmpL a a = 0
  | [] => rfl
  | x :: s => by
    unfold cmpL
    rw [if_neg (by omega), if_neg (by omega)]
    exact cmpL_self s
theorem cmpL_eq : ∀ {a b : List Int}, cmpL a b = 0 → a = b
  | [], [], _ => rfl
  | [], _ :: _, h => by cases h
  | _ :: _, [], h => by cases h
  | x :: s, y :: t, h => by
    unfold cmpL at h
    split at h
    · cases h
    · split at h
      · cases h
      · rw [cmpL_eq h, show x = y by omega]
theorem cmpL_neg : ∀ a b : List Int, cmpL b a = - cmpL a b
  | [], [] => rfl
  | [], _ :: _ => rfl
  | _ :: _, [] => rfl
  | x :: s, y :: t => by
    unfold cmpL
    by_cases h1 : x < y
    · rw [if_pos h1, if_neg (by omega), if_pos h1]; rfl
    · by_cases h2 : y < x
      · rw [if_pos h2, if_neg h1, if_pos h2]
      · rw [if_neg h1, if_neg h2, if_neg h2, if_neg h1]
        exact cmpL_neg s t
theorem cmpL_trans : ∀ {a b c : List Int}, cmpL a b < 0 → cmpL b c < 0 → cmpL a c < 0
  | [], [], _, h, _ => by cases h
  | _ :: _, [], _, h, _ => by cases h
  | [], _ :: _, [], _, h => by cases h
  | [], _ :: _, _ :: _, _, _ => by show (-1 : Int) < 0; omega
  | _ :: _, _ :: _, [], _, h => by cases h
  | x :: s, y :: t, z :: u, h, k => by
    unfold cmpL at h k ⊢
    by_cases h1 : x < y
    · by_cases k1 : y < z
      · rw [if_pos (by omega)]; omega
      · rw [if_neg k1] at k
        by_cases k2 : z < y
        · rw [if_pos k2] at k; omega
        · rw [if_pos (by omega)]; omega
    · rw [if_neg h1] at h
      by_cases h2 : y < x
      · rw [if_pos h2] at h; omega
      · rw [if_neg h2] at h
        by_cases k1 : y < z
        · rw [if_pos (by omega)]; omega
        · rw [if_neg k1] at k
          by_cases k2 : z < y
          · rw [if_pos k2] at k; omega
          · rw [if_neg k2] at k
            rw [if_neg (by omega), if_neg (by omega)]
            exact cmpL_trans h k
theorem cmpL_bd : ∀ a b : List Int, cmpL a b = -1 ∨ cmpL a b = 0 ∨ cmpL a b = 1
  | [], [] => .inr (.inl rfl)
  | [], _ :: _ => .inl rfl
  | _ :: _, [] => .inr (.inr rfl)
  | x :: s, y :: t => by
    unfold cmpL
    split
    · exact .inl rfl
    · split
      · exact .inr (.inr rfl)
      · exact cmpL_bd s t
theorem cmpL_ntrans {a b c : List Int} (h : ¬ cmpL a b < 0) (k : ¬ cmpL b c < 0) : ¬ cmpL a c < 0 := by
  intro hac
  have h1 := cmpL_neg a b
  have h2 := cmpL_neg b c
  by_cases e1 : cmpL a b = 0
  · rw [cmpL_eq e1] at hac; exact k hac
  · by_cases e2 : cmpL b c = 0
    · rw [← cmpL_eq e2] at hac; exact h hac
    · have h3 : cmpL c a < 0 := cmpL_trans (b := b) (by omega) (by omega)
      have h4 := cmpL_neg a c
      omega
theorem isNaN (x : Int) (w : World) : Calls Try.prog 69 #[.int .i64 x] w fun e w' => e = .returned (.bool false) ∧ w = w' := by
  have t : (x != x) = false := by simp
  go_enter Try.func69, Try.ntmps69
  go_wp2
  go_ret
  exact ⟨rfl, rfl⟩
set_option maxHeartbeats 1000000 in
theorem cmpCompare (x y : Int) (w : World) : Calls Try.prog 56 #[.int .i64 x, .int .i64 y] w fun e w' => e = .returned (.int .i64 (cmpI x y)) ∧ w = w' := by
  have HN := Lib.hid (fun x w => isNaN x w)
  by_cases h1 : x < y
  · have HR : Hid (cmpI x y = -1) := Lib.hid (if_pos h1)
    go_enter Try.func56, Try.ntmps56
    go_wp2_with (go_at_call 69; refine (HN.out _ _).mono ?_; rintro e w1 ⟨rfl, rfl⟩)
    go_ret
    exact ⟨ret_int HR.out.symm, by first | rfl | trivial⟩
  · by_cases h2 : y < x
    · have HR : Hid (cmpI x y = 1) := by show _ = _; unfold cmpI; rw [if_neg h1, if_pos h2]
      go_enter Try.func56, Try.ntmps56
      go_wp2_with (go_at_call 69; refine (HN.out _ _).mono ?_; rintro e w1 ⟨rfl, rfl⟩)
      go_ret
      exact ⟨ret_int HR.out.symm, by first | rfl | trivial⟩
    · have HR : Hid (cmpI x y = 0) := by show _ = _; unfold cmpI; rw [if_neg h1, if_neg h2]
      go_enter Try.func56, Try.ntmps56
      go_wp2_with (go_at_call 69; refine (HN.out _ _).mono ?_; rintro e w1 ⟨rfl, rfl⟩)
      go_ret
      exact ⟨ret_int HR.out.symm, by first | rfl | trivial⟩
set_option maxHeartbeats 4000000 in
theorem slicesCompare (g1 g2 n1 n2 c1 c2 : Nat) (a b : List Int) (w : World) (h1 : a.length = n1) (h2 : b.length = n2) (hb1 : n1 ≤ 1000) (hr1 : RowI w g1 a) (hr2 : RowI w g2 b) :
    Calls Try.prog 40 #[.slice (some ⟨g1, 0, none⟩) n1 c1, .slice (some ⟨g2, 0, none⟩) n2 c2] w fun e w' => e = .returned (.int .i64 (cmpL a b)) ∧ w = w' := by
  have HC := Lib.hid (fun x y w => cmpCompare x y w)
  have H1 := Lib.hid h1; have H2 := Lib.hid h2
  have R1 := Lib.hid hr1; have R2 := Lib.hid hr2
  clear h1 h2 hr1 hr2
  go_enter Try.func40, Try.ntmps40
  go_wp2_with fail
  go_loopw [11] (fun i wr => ∃ k : Nat, k ≤ n1 ∧ k ≤ n2 ∧ i = .int .i64 k ∧ Hid (cmpL a b = cmpL (a.drop k) (b.drop k)) ∧ w = wr) (fun i _ => n1 - (intOf i).toNat)
  case atStart => exact ⟨0, Nat.zero_le _, Nat.zero_le _, rfl, Lib.hid rfl, rfl⟩
  case round =>
    obtain ⟨k, hk1, hk2, rfl, HE, hw⟩ := hrel
    subst hw
    by_cases hlt : k < n1
    · obtain ⟨x, hx⟩ : ∃ x, a[k]? = some x := ⟨_, List.getElem?_eq_getElem (by rw [H1.out]; exact hlt)⟩
      have cx := R1.out.2 k x hx
      have hd1 : a.drop k = x :: a.drop (k + 1) := by
        obtain ⟨e1, e2⟩ := List.getElem?_eq_some_iff.1 hx
        rw [List.drop_eq_getElem_cons e1, e2]
      have kl : (k : Int) < (n1 : Int) := by omega
      have k0 : (0 : Int) ≤ (k : Int) := by omega
      by_cases hl2 : k < n2
      · obtain ⟨y, hy⟩ : ∃ y, b[k]? = some y := ⟨_, List.getElem?_eq_getElem (by rw [H2.out]; exact hl2)⟩
        have cy := R2.out.2 k y hy
        have hd2 : b.drop k = y :: b.drop (k + 1) := by
          obtain ⟨e1, e2⟩ := List.getElem?_eq_some_iff.1 hy
          rw [List.drop_eq_getElem_cons e1, e2]
        have kl2 : (k : Int) < (n2 : Int) := by omega
        have kl3 : ¬ (n2 : Int) ≤ (k : Int) := by omega
        have HE2 : Hid (cmpL a b = if x < y then -1 else if y < x then 1 else cmpL (a.drop (k + 1)) (b.drop (k + 1))) := by
          show _ = _
          rw [HE.out, hd1, hd2]
          rfl
        have HCI : Hid (cmpI x y = if x < y then -1 else if y < x then 1 else 0) := Lib.hid rfl
        clear hx hy hd1 hd2
        go_wp2_with fail
        refine (HC.out x y _).mono ?_
        rintro e w1 ⟨rfl, rfl⟩
        by_cases hxy : x < y
        · have HF : Hid (cmpL a b = -1) := by show _ = _; rw [HE2.out, if_pos hxy]
          have tc : cmpI x y = -1 := by rw [HCI.out, if_pos hxy]
          rw [tc]
          clear tc hxy
          go_wp2_with fail
          go_ret
          exact ⟨ret_int HF.out.symm, by first | rfl | trivial⟩
        · by_cases hyx : y < x
          · have HF : Hid (cmpL a b = 1) := by show _ = _; rw [HE2.out, if_neg hxy, if_pos hyx]
            have tc : cmpI x y = 1 := by rw [HCI.out, if_neg hxy, if_pos hyx]
            rw [tc]
            clear tc hxy hyx
            go_wp2_with fail
            go_ret
            exact ⟨ret_int HF.out.symm, by first | rfl | trivial⟩
          · have HF : Hid (cmpL a b = cmpL (a.drop (k + 1)) (b.drop (k + 1))) := by show _ = _; rw [HE2.out, if_neg hxy, if_neg hyx]
            have tc : cmpI x y = 0 := by rw [HCI.out, if_neg hxy, if_neg hyx]
            rw [tc]
            clear tc hxy hyx
            go_wp2_with fail
            go_roundw
            case rel => exact ⟨k + 1, by omega, by omega, by go_num, HF, by first | rfl | trivial⟩
            case measure => simp [intOf]; omega
      · have kl3 : (n2 : Int) ≤ (k : Int) := by omega
        have HF : Hid (cmpL a b = 1) := by
          show _ = _
          rw [HE.out, hd1, show b.drop k = [] from List.drop_of_length_le (by rw [H2.out]; omega)]
          rfl
        clear hx hd1
        go_wp2_with fail
        go_ret
        exact ⟨ret_int HF.out.symm, by first | rfl | trivial⟩
    · obtain rfl : k = n1 := by omega
      have hda : a.drop k = [] := List.drop_of_length_le (by rw [H1.out]; exact Nat.le_refl _)
      by_cases hl2 : (k : Int) < (n2 : Int)
      · have HF : Hid (cmpL a b = -1) := by
          show _ = _
          rw [HE.out, hda]
          cases e : b.drop k with
          | nil =>
            have := congrArg List.length e
            rw [List.length_drop, H2.out] at this
            simp at this
            omega
          | cons y t => rfl
        clear hda
        go_wp2_with fail
        go_ret
        exact ⟨ret_int HF.out.symm, by first | rfl | trivial⟩
      · have HF : Hid (cmpL a b = 0) := by
          show _ = _
          rw [HE.out, hda, show b.drop k = [] from List.drop_of_length_le (by rw [H2.out]; omega)]
          rfl
        clear hda
        go_wp2_with fail
        go_ret
        exact ⟨ret_int HF.out.symm, by first | rfl | trivial⟩
end Go.Proofs.Ytadpbbjahckoaaa
