/- The walks of WordOf, of the program and of the reference. Conditions: each theorem's own premises. -/
import Derived.Test.YtalbokejljjflaaWordB
import Derived.Deep.RegionHeld3
namespace Go.Proofs.Ytalbokejljjflaa
open Go.RowKit
/-- The creases of a strip folded by a letter, and then as others tell. -/
def join1 (c : UInt8) (w : List UInt8) : List UInt8 := if c = 82 ∨ c = 114 then w ++ ([if 97 ≤ c.toNat then 77 else 86] ++ otherL w) else otherL w ++ ([if 97 ≤ c.toNat then 77 else 86] ++ w)
/-- The creases of a strip folded by letters. -/
def ofL : List UInt8 → List UInt8
  | [] => []
  | c :: r => join1 c (ofL r)
theorem otherL_length (l : List UInt8) : (otherL l).length = l.length := by unfold otherL; rw [List.length_map, List.length_reverse]
theorem join1_length (c : UInt8) (w : List UInt8) : (join1 c w).length = w.length + 1 + w.length := by
  unfold join1
  by_cases hc : c = 82 ∨ c = 114
  · rw [if_pos hc, List.length_append, List.length_append, otherL_length, List.length_singleton]; omega
  · rw [if_neg hc, List.length_append, List.length_append, otherL_length, List.length_singleton]; omega
theorem ofL_length : ∀ l : List UInt8, (ofL l).length + 1 = pow2 l.length
  | [] => rfl
  | c :: r => by
    have h := ofL_length r
    have e : (ofL (c :: r)).length = (ofL r).length + 1 + (ofL r).length := join1_length c (ofL r)
    rw [e, List.length_cons, pow2_succ]
    omega
theorem join1_ahead {c : UInt8} {m : UInt8} (w : List UInt8) (h1 : c = 82 ∨ c = 114) (h2 : (if 97 ≤ c.toNat then 77 else 86) = m) : join1 c w = w ++ [m] ++ otherL w := by
  unfold join1
  rw [if_pos h1, h2, List.append_assoc]
theorem join1_behind {c : UInt8} {m : UInt8} (w : List UInt8) (h1 : ¬ (c = 82 ∨ c = 114)) (h2 : (if 97 ≤ c.toNat then 77 else 86) = m) : join1 c w = otherL w ++ [m] ++ w := by
  unfold join1
  rw [if_neg h1, h2, List.append_assoc]
theorem ofL_bd (l : List UInt8) (h : l.length ≤ 6) : (ofL l).length ≤ 63 := by
  have h1 := ofL_length l
  have h2 := pow2_le h
  have h3 : pow2 6 = 64 := rfl
  omega
def wide (c : Int) : Bool := c == 82 || c == 76 || c == 114 || c == 108
def wide8 (c : UInt8) : Bool := wide c.toNat
/-- A text of at most 6 letters that fold the width. -/
def wordOfOk (l : List UInt8) : Bool := l.all wide8 && decide (l.length ≤ 6)
def wordOfL (l : List UInt8) : List UInt8 := if wordOfOk l then ofL l else []
theorem bl_cons {s : ByteArray} (h : 0 < s.size) : bl s = s[0] :: bl (s.extract 1 s.size) := by
  have := bl_drop s 0 h
  rw [List.drop_zero] at this
  rw [this, bl_right]
set_option maxHeartbeats 1000000 in
theorem l5Of_N (N : Nat) : ∀ (s : ByteArray) (w : World), s.size ≤ N → N ≤ 6 →
    Calls Try.prog 34 #[.string s] w fun e w' => e = .returned (.string (mkS (ofL (bl s)))) ∧ w = w' := by
  induction N with
  | zero =>
    intro s w hN _
    have hne := str_none (s := s) (by omega)
    have HF : Hid (mkS (ofL (bl s)) = { data := #[] }) := by
      show _ = _
      rw [List.eq_nil_of_length_eq_zero (l := bl s) (by rw [bl_length]; omega)]
      rfl
    clear hN
    go_enter Try.func34, Try.ntmps34
    go_wp2_with fail
    go_ret
    exact ⟨ret_string HF.out.symm, rfl⟩
  | succ N ih =>
    intro s w hN hN6
    have IH := Lib.hid ih
    clear ih
    by_cases hz : s.size = 0
    · have hne := str_none hz
      have HF : Hid (mkS (ofL (bl s)) = { data := #[] }) := by
        show _ = _
        rw [List.eq_nil_of_length_eq_zero (l := bl s) (by rw [bl_length]; omega)]
        rfl
      clear hz
      go_enter Try.func34, Try.ntmps34
      go_wp2_with fail
      go_ret
      exact ⟨ret_string HF.out.symm, rfl⟩
    · have hpos : 0 < s.size := by omega
      have hne := str_some hpos
      clear hz
      have HC := Lib.hid (bl_cons hpos)
      have hsz : (s.extract 1 s.size).size ≤ N := by rw [size_right]; omega
      have hbd : (mkS (ofL (bl (s.extract 1 s.size)))).size ≤ 63 := by
        rw [mkS_size]
        exact ofL_bd _ (by rw [bl_length]; omega)
      have hlen : (1 : Int) ≤ (s.size : Int) := by omega
      obtain ⟨X, hX⟩ : ∃ X, X = mkS (ofL (bl (s.extract 1 s.size))) := ⟨_, rfl⟩
      have hbX : X.size ≤ 63 := by rw [hX]; exact hbd
      have hbY : (mkS (otherL (bl X))).size ≤ 63 := by rw [mkS_size, otherL_length, bl_length]; exact hbX
      have HX : Hid (ofL (bl s) = join1 s[0] (bl X)) := by
        show _ = _
        rw [HC.out, hX, bl_mkS]
        rfl
      have HXX := Lib.hid hX
      clear hX hbd
      by_cases hR : s[0] = 82 ∨ s[0] = 114
      · by_cases h97 : 97 ≤ s[0].toNat
        · have h1 : s[0] = 114 := by
            rcases hR with h | h
            · rw [h] at h97; exact absurd h97 (by decide)
            · exact h
          have hF : Hid (mkS (ofL (bl s)) = X ++ { data := #[77] } ++ mkS (otherL (bl X))) := by
            refine (eq_mkS ?_).symm
            rw [HX.out, join1_ahead (m := 77) _ hR (by rw [if_pos h97]), bl_append, bl_append, bl_mkS]
            rfl
          have t1 : ((s[0].toNat : Int) == 82) = false := by rw [h1]; decide
          have t2 : ((s[0].toNat : Int) == 114) = true := by rw [h1]; decide
          have t3 : 97 ≤ (s[0].toNat : Int) := by omega
          clear h1 hR
          go_enter Try.func34, Try.ntmps34
          go_wp2_with fail
          refine (IH.out _ _ hsz (by omega)).mono ?_
          rintro e w' ⟨rfl, rfl⟩
          rw [← HXX.out]
          go_wp2_with fail
          refine (l5Other _ _ (by omega)).mono ?_
          rintro e w' ⟨rfl, rfl⟩
          go_wp2_with fail
          go_ret
          exact ⟨ret_string hF.out.symm, rfl⟩
        · have h1 : s[0] = 82 := by
            rcases hR with h | h
            · exact h
            · rw [h] at h97; exact absurd (by decide) h97
          have hF : Hid (mkS (ofL (bl s)) = X ++ { data := #[86] } ++ mkS (otherL (bl X))) := by
            refine (eq_mkS ?_).symm
            rw [HX.out, join1_ahead (m := 86) _ hR (by rw [if_neg h97]), bl_append, bl_append, bl_mkS]
            rfl
          have t1 : ((s[0].toNat : Int) == 82) = true := by rw [h1]; decide
          have t3 : ¬ 97 ≤ (s[0].toNat : Int) := by omega
          clear h1 hR
          go_enter Try.func34, Try.ntmps34
          go_wp2_with fail
          refine (IH.out _ _ hsz (by omega)).mono ?_
          rintro e w' ⟨rfl, rfl⟩
          rw [← HXX.out]
          go_wp2_with fail
          refine (l5Other _ _ (by omega)).mono ?_
          rintro e w' ⟨rfl, rfl⟩
          go_wp2_with fail
          go_ret
          exact ⟨ret_string hF.out.symm, rfl⟩
      · have t1 : ((s[0].toNat : Int) == 82) = false := by
          cases h : ((s[0].toNat : Int) == 82) with
          | false => rfl
          | true => exact absurd (Or.inl (byte_eq (n := 82) h)) hR
        have t2 : ((s[0].toNat : Int) == 114) = false := by
          cases h : ((s[0].toNat : Int) == 114) with
          | false => rfl
          | true => exact absurd (Or.inr (byte_eq (n := 114) h)) hR
        by_cases h97 : 97 ≤ s[0].toNat
        · have hF : Hid (mkS (ofL (bl s)) = mkS (otherL (bl X)) ++ { data := #[77] } ++ X) := by
            refine (eq_mkS ?_).symm
            rw [HX.out, join1_behind (m := 77) _ hR (by rw [if_pos h97]), bl_append, bl_append, bl_mkS]
            rfl
          have t3 : 97 ≤ (s[0].toNat : Int) := by omega
          clear hR
          go_enter Try.func34, Try.ntmps34
          go_wp2_with fail
          refine (IH.out _ _ hsz (by omega)).mono ?_
          rintro e w' ⟨rfl, rfl⟩
          rw [← HXX.out]
          go_wp2_with fail
          refine (l5Other _ _ (by omega)).mono ?_
          rintro e w' ⟨rfl, rfl⟩
          go_wp2_with fail
          go_ret
          exact ⟨ret_string hF.out.symm, rfl⟩
        · have hF : Hid (mkS (ofL (bl s)) = mkS (otherL (bl X)) ++ { data := #[86] } ++ X) := by
            refine (eq_mkS ?_).symm
            rw [HX.out, join1_behind (m := 86) _ hR (by rw [if_neg h97]), bl_append, bl_append, bl_mkS]
            rfl
          have t3 : ¬ 97 ≤ (s[0].toNat : Int) := by omega
          clear hR
          go_enter Try.func34, Try.ntmps34
          go_wp2_with fail
          refine (IH.out _ _ hsz (by omega)).mono ?_
          rintro e w' ⟨rfl, rfl⟩
          rw [← HXX.out]
          go_wp2_with fail
          refine (l5Other _ _ (by omega)).mono ?_
          rintro e w' ⟨rfl, rfl⟩
          go_wp2_with fail
          go_ret
          exact ⟨ret_string hF.out.symm, rfl⟩
theorem l5Of (s : ByteArray) (w : World) (hs : s.size ≤ 6) : Calls Try.prog 34 #[.string s] w fun e w' => e = .returned (.string (mkS (ofL (bl s)))) ∧ w = w' :=
  l5Of_N 6 s w hs (Nat.le_refl _)
theorem wordOf_no {l : List UInt8} (h : wordOfOk l = false) : wordOfL l = [] := by unfold wordOfL; rw [h]; rfl
theorem all_take_w (s : ByteArray) (k : Nat) (h : k < s.size) : ((bl s).take (k + 1)).all wide8 = (((bl s).take k).all wide8 && wide8 s[k]) := by
  rw [bl_take s k h, List.all_append]
  simp
theorem wide_cases {c : UInt8} (h : wide8 c = true) : c = 82 ∨ c = 76 ∨ c = 114 ∨ c = 108 := by
  simp only [wide8, wide, Bool.or_eq_true, beq_iff_eq] at h
  have hc : ∀ n : Nat, n < 256 → (c.toNat : Int) = (n : Int) → c = UInt8.ofNat n := fun n _ h => by
    have : c.toNat = n := by omega
    rw [← this, UInt8.ofNat_toNat]
  rcases h with ((h | h) | h) | h
  · exact .inl (hc 82 (by omega) h)
  · exact .inr (.inl (hc 76 (by omega) h))
  · exact .inr (.inr (.inl (hc 114 (by omega) h)))
  · exact .inr (.inr (.inr (hc 108 (by omega) h)))
end Go.Proofs.Ytalbokejljjflaa
