/- The law FnPathOnce, walked: it returns true. Conditions: each theorem's own premises. -/
import Derived.Test.YtmlmihneanobdaaPathH
import Derived.Test.YtmlmihneanobdaaDrawP
namespace Go.Proofs.Ytmlmihneanobdaa
open Go.RowKit
theorem onceL_true {l : List UInt8} (h : onceL l = true) : creas l = true ∧ OnceP (places l) := by
  unfold onceL at h
  rw [Bool.and_eq_true] at h
  exact ⟨h.1, (onceB_iff _).1 h.2⟩
theorem onceL_part {l : List UInt8} (h : onceL l = true) (k m : Nat) (hk : k + m ≤ l.length) : onceL ((l.drop k).take m) = true := by
  obtain ⟨h1, h2⟩ := onceL_true h
  unfold onceL
  rw [Bool.and_eq_true]
  refine ⟨?_, (onceB_iff _).2 (once_part h2 k m hk)⟩
  unfold creas at h1 ⊢
  simp only [Bool.and_eq_true, List.all_eq_true, decide_eq_true_eq] at h1 ⊢
  refine ⟨fun x hx => h1.1 x (List.mem_of_mem_drop (List.mem_of_mem_take hx)), ?_⟩
  have h3 := List.length_take_le m (l.drop k)
  omega
theorem onceL_turns (l : List UInt8) : onceL (l ++ [86, 86, 86, 86]) = false := by
  unfold onceL
  cases h : onceB (places (l ++ [86, 86, 86, 86])) with
  | false => rw [Bool.and_false]
  | true => exact absurd ((onceB_iff _).1 h) (four_turns l)
theorem visits_three {l : List UInt8} (h : onceL l = true) : 0 ≤ visitsI l ∧ visitsI l ≤ 3 := by
  obtain ⟨h1, h2⟩ := onceL_true h
  have := most_three h2
  unfold visitsI
  rw [if_pos h1]
  omega
set_option maxRecDepth 100000 in
set_option maxHeartbeats 4000000 in
theorem fnPathOnce_walk (W : World) (a0 : Option Addr) (len0 cap0 : Nat) (z0 : List Int) (w0 : IsRow .u8 W a0 len0 cap0 z0) (a1 : Option Addr) (len1 cap1 : Nat) (z1 : List Int) (_w1 : IsRow .u8 W a1 len1 cap1 z1) :
    Calls Try.prog 8 #[.slice a0 len0 cap0, .slice a1 len1 cap1] W fun e w' => e = .returned (.bool true) ∧ Below W.heap.size W w' := by
  have hc0 : len0 ≤ cap0 := w0.le
  have HR := Lib.hid w0
  clear w0 _w1
  by_cases hl : 1048576 < len0
  · go_enter Try.func8, Try.ntmps8
    go_wp2
    go_ret
    exact ⟨rfl, Below.refl _ _⟩
  · by_cases hl1 : 1048576 < len1
    · go_enter Try.func8, Try.ntmps8
      go_wp2
      go_ret
      exact ⟨rfl, Below.refl _ _⟩
    · go_enter Try.func8, Try.ntmps8
      go_wp2_with fail
      refine (drawPathOnce _ _ _ _ _ HR.out hc0).mono ?_
      rintro e w2 ⟨s, rfl, hs, hb0⟩
      have hz0 := hb0.size
      clear HR
      have C1 := fun w => implPathOnce s w (by unfold maxLen; omega)
      have C2 := fun w => specPathOnce s w (by omega)
      cases hX : onceL (bl s) with
      | false =>
        rw [hX] at C1 C2
        have HC1 := Lib.hid C1
        have HC2 := Lib.hid C2
        clear C1 C2 hX
        go_wp2_with fail
        refine (HC1.out _).mono ?_
        rintro e w3 ⟨rfl, hb3⟩
        have hz3 := hb3.size
        go_wp2_with fail
        refine (HC2.out _).mono ?_
        rintro e w4 ⟨rfl, hb4⟩
        go_wp2_with fail
        go_ret
        exact ⟨rfl, hb0.trans ((hb3.trans (hb4.mono hz3)).mono hz0)⟩
      | true =>
        rw [hX] at C1 C2
        have hs63 := creas_len (onceL_true hX).1
        obtain ⟨v1, v2⟩ := visits_three hX
        have C3 := fun w => implPathVisits s w (by unfold maxLen; omega)
        obtain ⟨V, hV⟩ : ∃ V, V = visitsI (bl s) := ⟨_, rfl⟩
        rw [← hV] at C3 v1 v2
        obtain ⟨K, hK⟩ : ∃ K, K = len1 % (s.size + 1) := ⟨_, rfl⟩
        obtain ⟨D, hD⟩ : ∃ D, D = len1 / 7 := ⟨_, rfl⟩
        have hKs : K ≤ s.size := by have := Nat.mod_lt len1 (show 0 < s.size + 1 by omega); omega
        obtain ⟨M, hM⟩ : ∃ M, M = D % (s.size - K + 1) := ⟨_, rfl⟩
        have hMs : K + M ≤ s.size := by have := Nat.mod_lt D (show 0 < s.size - K + 1 by omega); omega
        have hDb : D ≤ 1048576 := by omega
        have g1 : (len1 : Int).tmod ((s.size : Int) + 1) = (K : Int) := by rw [Int.tmod_eq_emod_of_nonneg (by omega), hK]; rfl
        have g2 : (len1 : Int).tdiv 7 = (D : Int) := by rw [Int.tdiv_eq_ediv_of_nonneg (by omega), hD]; rfl
        have g3 : (D : Int).tmod ((s.size : Int) - (K : Int) + 1) = (M : Int) := by
          rw [Int.tmod_eq_emod_of_nonneg (by omega), hM, show (s.size : Int) - (K : Int) + 1 = ((s.size - K + 1 : Nat) : Int) by omega]
          rfl
        have C4 := fun w => implPathOnce (s.extract K (K + M)) w (by rw [ByteArray.size_extract]; unfold maxLen; omega)
        have hsub : onceL (bl (s.extract K (K + M))) = true := by
          rw [bl_extract]
          exact onceL_part hX K _ (by rw [bl_length]; omega)
        rw [hsub] at C4
        have C5 := fun (h : s.size ≤ 59) w => implPathOnce (s ++ ⟨#[86, 86, 86, 86]⟩) w (by rw [ByteArray.size_append]; unfold maxLen; show s.size + 4 ≤ _; omega)
        have hturn : onceL (bl (s ++ ⟨#[86, 86, 86, 86]⟩)) = false := by
          rw [bl_append]
          exact onceL_turns (bl s)
        rw [hturn] at C5
        have HC1 := Lib.hid C1
        have HC2 := Lib.hid C2
        have HC3 := Lib.hid C3
        have HC4 := Lib.hid C4
        have HC5 := Lib.hid C5
        clear C1 C2 C3 C4 C5 hX hsub hturn hV hK hD hM
        by_cases h59 : s.size ≤ 59
        · go_wp2_with fail
          refine (HC1.out _).mono ?_
          rintro e w3 ⟨rfl, hb3⟩
          have hz3 := hb3.size
          go_wp2_with fail
          refine (HC2.out _).mono ?_
          rintro e w4 ⟨rfl, hb4⟩
          have hz4 := hb4.size
          go_wp2_with fail
          refine (HC4.out _).mono ?_
          rintro e w5 ⟨rfl, hb5⟩
          have hz5 := hb5.size
          go_wp2_with fail
          refine (HC3.out _).mono ?_
          rintro e w6 ⟨rfl, hb6⟩
          have hz6 := hb6.size
          go_wp2_with fail
          refine (HC5.out h59 _).mono ?_
          rintro e w7 ⟨rfl, hb7⟩
          go_wp2_with fail
          go_ret
          exact ⟨rfl, hb0.trans ((hb3.trans ((hb4.trans ((hb5.trans ((hb6.trans (hb7.mono hz6)).mono hz5)).mono hz4)).mono hz3)).mono hz0)⟩
        · go_wp2_with fail
          refine (HC1.out _).mono ?_
          rintro e w3 ⟨rfl, hb3⟩
          have hz3 := hb3.size
          go_wp2_with fail
          refine (HC2.out _).mono ?_
          rintro e w4 ⟨rfl, hb4⟩
          have hz4 := hb4.size
          go_wp2_with fail
          refine (HC4.out _).mono ?_
          rintro e w5 ⟨rfl, hb5⟩
          have hz5 := hb5.size
          go_wp2_with fail
          refine (HC3.out _).mono ?_
          rintro e w6 ⟨rfl, hb6⟩
          go_wp2_with fail
          go_ret
          exact ⟨rfl, hb0.trans ((hb3.trans ((hb4.trans ((hb5.trans (hb6.mono hz5)).mono hz4)).mono hz3)).mono hz0)⟩
end Go.Proofs.Ytmlmihneanobdaa
