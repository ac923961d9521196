/- The law FnWordText, walked: it returns true. Conditions: the code is a slice of bytes of the model. -/
import Derived.Test.YtonlmljmhabffaaLawWordF
namespace Go.Proofs.Ytonlmljmhabffaa
open Go.RowKit
theorem power (n : Nat) (w : World) (hn : n ≤ 40) : Calls Try.prog 36 #[.int .i64 n] w fun e w' => e = .returned (.int .i64 (pow2 n : Nat)) ∧ w = w' := by
  go_enter Try.func36, Try.ntmps36
  go_wp2
  go_loop [3, 4] (fun o i => ∃ k : Nat, ∃ x : Nat, k ≤ n ∧ i = .int .i64 k ∧ o = .int .i64 x ∧ x ≤ 1099511627776 ∧ Hid (x = pow2 k)) (fun _ i => n - (intOf i).toNat)
  case atStart => exact ⟨0, 1, Nat.zero_le _, rfl, rfl, by omega, Lib.hid rfl⟩
  case round =>
    obtain ⟨k, x, hk, rfl, rfl, hx, HX⟩ := hrel
    by_cases hlt : k < n
    · go_wp2
      have hp : pow2 (k + 1) = x * 2 := by rw [pow2_succ, HX.out]
      have hq : x * 2 ≤ 1099511627776 := by
        rw [← hp]
        exact Nat.le_trans (pow2_le (show k + 1 ≤ 40 by omega)) (by decide)
      go_round
      case rel => exact ⟨k + 1, x * 2, by omega, by go_num, by go_num, hq, Lib.hid hp.symm⟩
      case measure => simp [intOf]; omega
    · have HE : Hid (x = pow2 n) := by
        obtain rfl : k = n := by omega
        exact HX
      clear HX
      go_wp2
      go_ret
      exact ⟨ret_int (congrArg (fun n : Nat => (n : Int)) HE.out), rfl⟩
theorem foldsIn (n : Nat) (w : World) : Calls Try.prog 20 #[.int .i64 n] w fun e w' => e = .returned (.int .i64 (foldsNum n)) ∧ w = w' := by
  go_enter Try.func20, Try.ntmps20
  go_wp2
  go_loop [3] (fun i => ∃ k : Nat, k ≤ 7 ∧ i = .int .i64 k ∧ Hid (∀ j, j < k → 2 ^ j ≠ n + 1)) (fun i => 7 - (intOf i).toNat)
  case atStart => exact ⟨0, Nat.zero_le _, rfl, Lib.hid (fun j hj => absurd hj (by omega))⟩
  case round =>
    obtain ⟨k, hk, rfl, HA⟩ := hrel
    by_cases hlt : k < 7
    · obtain ⟨x, hx⟩ : ∃ x, x = pow2 k := ⟨_, rfl⟩
      have hx1 : x ≤ 64 := by rw [hx]; exact Nat.le_trans (pow2_le (show k ≤ 6 by omega)) (by decide)
      have hx0 : 1 ≤ x := by rw [hx]; exact pow2_pos k
      have HX := Lib.hid hx
      clear hx
      by_cases he : x = n + 1
      · have ht : ((x : Int) - 1 == (n : Int)) = true := by simp; omega
        have HF := Lib.hid (foldsNum_hit k n (by omega) (by rw [← he, HX.out]; rfl))
        clear he
        go_wp2_with fail
        refine (power k _ (by omega)).mono ?_
        rintro e w' ⟨rfl, rfl⟩
        rw [← HX.out]
        go_wp2
        go_ret
        exact ⟨ret_int HF.out.symm, rfl⟩
      · have ht : ((x : Int) - 1 == (n : Int)) = false := by simp; omega
        have HN : Hid (∀ j, j < k + 1 → 2 ^ j ≠ n + 1) := fun j hj => by
          by_cases e : j = k
          · subst e; intro h; exact he (by rw [HX.out]; exact h)
          · exact HA.out j (by omega)
        clear he
        go_wp2_with fail
        refine (power k _ (by omega)).mono ?_
        rintro e w' ⟨rfl, rfl⟩
        rw [← HX.out]
        go_wp2
        go_round
        case rel => exact ⟨k + 1, by omega, by go_num, HN⟩
        case measure => simp [intOf]; omega
    · obtain rfl : k = 7 := by omega
      have HF := Lib.hid (foldsNum_miss n HA.out)
      go_wp2
      go_ret
      exact ⟨ret_int HF.out.symm, rfl⟩
set_option maxHeartbeats 4000000 in
theorem fnWordText_walk (w : World) (a0 : Option Addr) (len0 cap0 : Nat) (z0 : List Int) (w0 : IsRow .u8 w a0 len0 cap0 z0) :
    Calls Try.prog 7 #[.slice a0 len0 cap0] w fun e w' => e = .returned (.bool true) ∧ Below w.heap.size w w' := by
  have HW := Lib.hid w0
  clear w0
  by_cases hl : 1048576 < len0
  · go_enter Try.func7, Try.ntmps7
    go_wp2
    go_ret
    exact ⟨rfl, Below.refl _ _⟩
  · go_enter Try.func7, Try.ntmps7
    go_wp2_with fail
    refine (drawWordText _ _ _ _ _ HW.out HW.out.le).mono ?_
    rintro e w1 ⟨s, rfl, hs, hb1⟩
    have hz1 := hb1.size
    obtain ⟨O, hO⟩ : ∃ O, O = mkS (wordTextL (bl s)) := ⟨_, rfl⟩
    have HO := Lib.hid hO
    cases hok : wordOk (bl s) with
    | false =>
      have HOK := Lib.hid hok
      clear hok hO
      go_wp2_with fail
      refine (implWordText s _ (by omega)).mono ?_
      rintro e w2 ⟨rfl, hb2⟩
      have hz2 := hb2.size
      rw [HOK.out, ← HO.out]
      go_wp2_with fail
      refine (specWordText s _ (by omega)).mono ?_
      rintro e w3 ⟨rfl, hb3⟩
      have hz3 := hb3.size
      rw [HOK.out, ← HO.out]
      go_wp2_with fail
      go_ret
      exact ⟨rfl, hb1.trans ((hb2.trans (hb3.mono hz2)).mono hz1)⟩
    | true =>
      have hO2 : bl O = wt (bl s) := by rw [hO, bl_mkS]; unfold wordTextL; rw [hok]; rfl
      have hp : plen (bl s).length = true := by
        unfold wordOk at hok
        simp only [Bool.and_eq_true] at hok
        exact hok.1.2
      obtain ⟨k, hk6, hk⟩ := plen_pow _ hp
      have hOs : O.size = k := by rw [← bl_length, hO2]; exact wt_length k _ hk
      rw [bl_length] at hk
      have HF := Lib.hid (foldsNum_hit k s.size hk6 hk.symm)
      by_cases h0 : s.size = 0
      · have hk0 : k = 0 := by
          by_cases e : k = 0
          · exact e
          · exfalso
            have := pow2_le (show 1 ≤ k by omega)
            have h2 : pow2 1 = 2 := rfl
            omega
        subst hk0
        have hem := str_none hOs
        have HOK := Lib.hid hok
        clear hok hO hO2 hp hk h0 hOs
        go_wp2_with fail
        refine (implWordText s _ (by omega)).mono ?_
        rintro e w2 ⟨rfl, hb2⟩
        have hz2 := hb2.size
        rw [HOK.out, ← HO.out]
        go_wp2_with fail
        refine (specWordText s _ (by omega)).mono ?_
        rintro e w3 ⟨rfl, hb3⟩
        have hz3 := hb3.size
        rw [HOK.out, ← HO.out]
        go_wp2_with fail
        refine (foldsIn s.size _).mono ?_
        rintro e w4 ⟨rfl, rfl⟩
        rw [HF.out]
        go_wp2_with fail
        go_ret
        exact ⟨rfl, hb1.trans ((hb2.trans (hb3.mono hz2)).mono hz1)⟩
      · have hk1 : 1 ≤ k := by
          by_cases e : k = 0
          · exfalso
            rw [e] at hk
            have h2 : pow2 0 = 1 := rfl
            omega
          · omega
        have hlt : s.size / 2 < s.size := by omega
        have hst := wt_step (bl s) (by rw [bl_length]; omega)
        have hH : wordOk (bl (s.extract 0 (s.size / 2))) = true := by
          rw [bl_left, ← bl_length]
          exact wordOk_half hok
        have hO0 : 0 < O.size := by omega
        have hc := bl_cons hO0
        rw [hO2, hst] at hc
        injection hc with hc1 hc2
        have t2 : ((O.extract 1 O.size).toList == (mkS (wordTextL (bl (s.extract 0 (s.size / 2))))).toList) = true := by
          rw [str_beq, bl_mkS, ← hc2]
          unfold wordTextL
          rw [hH, bl_left, bl_length]
          simp
        have t1 : ((O.size : Int) == (k : Int)) = true := by rw [beq_iff_eq]; omega
        have hOk : (1 : Int) ≤ (O.size : Int) := by omega
        have ht3 : ((s.extract (s.size / 2) (s.size / 2 + 1)).toList == [86]) = (((s[s.size / 2]).toNat : Int) == 86) := by
          rw [str_list, bl_slice1 s _ hlt, Bool.eq_iff_iff, beq_iff_eq, beq_iff_eq]
          constructor
          · intro h; injection h with h _; rw [h]; rfl
          · intro h; rw [byte_eq (c := s[s.size / 2]) (n := 86) (by rw [beq_iff_eq]; exact h)]; rfl
        have e1 : IntKind.i64.wrap ((s.size : Int) / 2 + 1) = (s.size : Int) / 2 + 1 := by rw [IntKind.wrap_i64]; omega
        have e2 : 0 ≤ (s.size : Int) / 2 + 1 := by omega
        have e3 : ((s.size : Int) / 2 + 1).toNat = s.size / 2 + 1 := by omega
        have e4 : (s.size : Int) / 2 + 1 ≤ (s.size : Int) := by omega
        have hsz : (s.extract 0 (s.size / 2)).size ≤ 1048576 := by rw [size_left _ _ (by omega)]; omega
        have HSZ := Lib.hid hsz
        have HHH := Lib.hid hH
        cases hv : (((s[s.size / 2]).toNat : Int) == 86) with
        | true =>
          have t4 : ((O[0].toNat : Int) == 82) = true := by rw [← hc1, mid_hit rfl hlt hv]; rfl
          rw [hv] at ht3
          have HOK := Lib.hid hok
          have HLT := Lib.hid hlt
          clear hok hO hO2 hp hk h0 hOs hst hH hc1 hc2 hv hsz
          go_wp2_with fail
          refine (implWordText s _ (by omega)).mono ?_
          rintro e w2 ⟨rfl, hb2⟩
          have hz2 := hb2.size
          rw [HOK.out, ← HO.out]
          go_wp2_with fail
          refine (specWordText s _ (by omega)).mono ?_
          rintro e w3 ⟨rfl, hb3⟩
          have hz3 := hb3.size
          rw [HOK.out, ← HO.out]
          go_wp2_with fail
          refine (foldsIn s.size _).mono ?_
          rintro e w4 ⟨rfl, rfl⟩
          rw [HF.out]
          go_wp2_with fail
          refine (implWordText _ _ HSZ.out).mono ?_
          rintro e w4 ⟨rfl, hb4⟩
          rw [HHH.out]
          go_wp2_with fail
          go_ret
          exact ⟨rfl, hb1.trans ((hb2.trans ((hb3.trans (hb4.mono hz3)).mono hz2)).mono hz1)⟩
        | false =>
          have t4 : ((O[0].toNat : Int) == 82) = false := by rw [← hc1, mid_miss rfl hlt hv]; rfl
          rw [hv] at ht3
          have HOK := Lib.hid hok
          have HLT := Lib.hid hlt
          clear hok hO hO2 hp hk h0 hOs hst hH hc1 hc2 hv hsz
          go_wp2_with fail
          refine (implWordText s _ (by omega)).mono ?_
          rintro e w2 ⟨rfl, hb2⟩
          have hz2 := hb2.size
          rw [HOK.out, ← HO.out]
          go_wp2_with fail
          refine (specWordText s _ (by omega)).mono ?_
          rintro e w3 ⟨rfl, hb3⟩
          have hz3 := hb3.size
          rw [HOK.out, ← HO.out]
          go_wp2_with fail
          refine (foldsIn s.size _).mono ?_
          rintro e w4 ⟨rfl, rfl⟩
          rw [HF.out]
          go_wp2_with fail
          refine (implWordText _ _ HSZ.out).mono ?_
          rintro e w4 ⟨rfl, hb4⟩
          rw [HHH.out]
          go_wp2_with fail
          go_ret
          exact ⟨rfl, hb1.trans ((hb2.trans ((hb3.trans (hb4.mono hz3)).mono hz2)).mono hz1)⟩
end Go.Proofs.Ytonlmljmhabffaa
