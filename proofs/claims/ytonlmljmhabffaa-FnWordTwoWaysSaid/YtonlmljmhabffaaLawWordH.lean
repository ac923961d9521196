/- The law FnWordTwoWays, walked: it returns true. Conditions: both codes are slices of bytes of the model. -/
import Derived.Test.YtonlmljmhabffaaLawWordF
import Derived.Test.YtonlmljmhabffaaPlainE
namespace Go.Proofs.Ytonlmljmhabffaa
open Go.RowKit
theorem bl_wrong (t : ByteArray) (K : Nat) (hK : K < t.size) : bl (t.extract 0 K ++ mkS ((bl (t.extract K (K + 1))).map swp) ++ t.extract (K + 1) t.size) = (bl t).set K (swp ((bl t)[K]'(by rw [bl_length]; exact hK))) := by
  rw [bl_append, bl_append, bl_mkS, bl_left, bl_right, bl_slice1 t K hK]
  rw [List.set_eq_take_append_cons_drop, if_pos (by rw [bl_length]; exact hK), List.append_assoc]
  rfl
set_option maxRecDepth 100000 in
set_option maxHeartbeats 8000000 in
theorem fnWordTwoWays_walk (w : World) (a0 : Option Addr) (len0 cap0 : Nat) (z0 : List Int) (w0 : IsRow .u8 w a0 len0 cap0 z0) (a1 : Option Addr) (len1 cap1 : Nat) (z1 : List Int) (_w1 : IsRow .u8 w a1 len1 cap1 z1) :
    Calls Try.prog 8 #[.slice a0 len0 cap0, .slice a1 len1 cap1] w fun e w' => e = .returned (.bool true) ∧ Below w.heap.size w w' := by
  have HW := Lib.hid w0
  clear w0 _w1
  by_cases hl : 1048576 < len0
  · go_enter Try.func8, Try.ntmps8
    go_wp2
    go_ret
    exact ⟨rfl, Below.refl _ _⟩
  · by_cases hl1 : 1048576 < len1
    · go_enter Try.func8, Try.ntmps8
      go_wp2
      go_ret
      exact ⟨rfl, Below.refl _ _⟩
    · go_enter Try.func8, Try.ntmps8
      go_wp2_with fail
      refine (drawWordValid _ _ _ _ _ HW.out HW.out.le).mono ?_
      rintro e w1 ⟨s, rfl, hs, hb1⟩
      have hz1 := hb1.size
      have HEV := Lib.hid (wordOk_even (bl s))
      go_wp2_with fail
      refine (implWordValid s _ (by omega)).mono ?_
      rintro e w2 ⟨rfl, hb2⟩
      have hz2 := hb2.size
      have hb12 := hb1.trans (hb2.mono hz1)
      cases hok : wordOk (bl s) with
      | false =>
        have HOK := Lib.hid hok
        have HOE : Hid (wordEvenL (bl s) = false) := by show _ = _; rw [← HEV.out, hok]
        clear hok
        go_wp2_with fail
        refine (specWordValid s _ (by omega)).mono ?_
        rintro e w3 ⟨rfl, hb3⟩
        have hz3 := hb3.size
        rw [HOK.out]
        go_wp2_with fail
        refine (implWordEven s _ (by omega)).mono ?_
        rintro e w4 ⟨rfl, hb4⟩
        have hz4 := hb4.size
        rw [HOE.out]
        go_wp2_with fail
        refine (specWordEven s _ (by omega)).mono ?_
        rintro e w5 ⟨rfl, hb5⟩
        rw [HOE.out]
        go_wp2_with fail
        go_ret
        exact ⟨rfl, hb12.trans ((hb3.trans ((hb4.trans (hb5.mono hz4)).mono hz3)).mono (by omega))⟩
      | true =>
        have HOE : Hid (wordEvenL (bl s) = true) := by show _ = _; rw [← HEV.out, hok]
        have HOK := Lib.hid hok
        go_wp2_with fail
        refine (specWordValid s _ (by omega)).mono ?_
        rintro e w3 ⟨rfl, hb3⟩
        have hz3 := hb3.size
        rw [HOK.out]
        go_wp2_with fail
        refine (implWordEven s _ (by omega)).mono ?_
        rintro e w4 ⟨rfl, hb4⟩
        have hz4 := hb4.size
        rw [HOE.out]
        go_wp2_with fail
        refine (specWordEven s _ (by omega)).mono ?_
        rintro e w5 ⟨rfl, hb5⟩
        have hz5 := hb5.size
        have hb15 := hb12.trans ((hb3.trans ((hb4.trans (hb5.mono hz4)).mono hz3)).mono (show w.heap.size ≤ w2.heap.size by omega))
        rw [HOE.out]
        clear hb1 hb2 hb3 hb4 hb5 hb12
        by_cases h0 : s.size = 0
        · have t0 : ((s.size : Int) == 0) = true := by rw [beq_iff_eq]; omega
          clear hok h0
          go_wp2_with fail
          go_ret
          exact ⟨rfl, hb15⟩
        · have t0 : ((s.size : Int) == 0) = false := by rw [beq_eq_false_iff_ne]; omega
          have hsl := wordOk_len hok
          have hcr : creas (bl s) = true := by
            unfold wordOk at hok
            simp only [Bool.and_eq_true] at hok
            exact hok.1.1
          have hpl : plen (bl s).length = true := by
            unfold wordOk at hok
            simp only [Bool.and_eq_true] at hok
            exact hok.1.2
          have hodd : s.size % 2 = 1 := by
            have h := plen_odd (bl s).length (by rw [bl_length]; exact hsl) (by rw [bl_length]; omega)
            rw [hpl] at h
            have h2 := h.symm
            simp only [Bool.and_eq_true, decide_eq_true_eq] at h2
            rw [bl_length] at h2
            exact h2.1
          obtain ⟨K, hK⟩ : ∃ K : Nat, K = 2 * (len1 % (s.size / 2 + 1)) := ⟨_, rfl⟩
          have hKm : len1 % (s.size / 2 + 1) < s.size / 2 + 1 := Nat.mod_lt _ (by omega)
          have hKs : K < s.size := by omega
          have hE : 2 * ((len1 : Int) % ((s.size : Int) / 2 + 1)) = (K : Int) := by
            rw [hK]
            simp
          obtain ⟨W, hW⟩ : ∃ W, W = s.extract 0 K ++ mkS ((bl (s.extract K (K + 1))).map swp) ++ s.extract (K + 1) s.size := ⟨_, rfl⟩
          have hbW := bl_wrong s K hKs
          have HOTH : Hid (wordOk (bl (mkS (wordOtherL (bl s)))) = true) := by
            show _ = _
            rw [bl_mkS]
            unfold wordOtherL
            rw [hcr]
            show wordOk (otherL (bl s)) = true
            rw [wordOk_otherL, hok]
          have HHALF : Hid (wordOk (bl (s.extract 0 (s.size / 2))) = true) := by
            show _ = _
            rw [bl_left, ← bl_length]
            exact wordOk_half hok
          have hosz : (mkS (wordOtherL (bl s))).size ≤ 1048576 := by
            rw [mkS_size]
            unfold wordOtherL
            rw [hcr]
            show (otherL (bl s)).length ≤ _
            rw [otherL_length, bl_length]
            omega
          have hhsz : (s.extract 0 (s.size / 2)).size ≤ 1048576 := by rw [size_left _ _ (by omega)]; omega
          have s1 : (s.extract 0 K).size = K := size_left _ _ (by omega)
          have s2 : (mkS ((bl (s.extract K (K + 1))).map swp)).size = 1 := by rw [mkS_size, List.length_map, bl_length, bl_size1 (bl_slice1 s K hKs)]
          have s3 : (s.extract (K + 1) s.size).size = s.size - (K + 1) := size_right _ _
          have s4 : (s.extract K (K + 1)).size ≤ 1048576 := by rw [bl_size1 (bl_slice1 s K hKs)]; omega
          have hz1' : ¬ 9223372036854775807 < (s.extract 0 K).size + (mkS ((bl (s.extract K (K + 1))).map swp)).size := by omega
          have hz2' : ¬ 9223372036854775807 < (s.extract 0 K).size + (mkS ((bl (s.extract K (K + 1))).map swp)).size + (s.extract (K + 1) s.size).size := by omega
          have hz3' : ¬ 9223372036854775807 < min K s.size + (mkS ((bl (s.extract K (K + 1))).map swp)).size := by omega
          have hz4' : ¬ 9223372036854775807 < min K s.size + (mkS ((bl (s.extract K (K + 1))).map swp)).size + (s.size - (K + 1)) := by omega
          have hWs : W.size ≤ 1048576 := by
            rw [hW, ByteArray.size_append, ByteArray.size_append, s1, s2, s3]; omega
          have HCR := Lib.hid hcr
          have HWW := Lib.hid hW
          have HOS := Lib.hid hosz
          have HHS := Lib.hid hhsz
          have e1 : IntKind.i64.wrap ((K : Int) + 1) = (K : Int) + 1 := by rw [IntKind.wrap_i64]; omega
          have e2 : 0 ≤ (K : Int) + 1 := by omega
          have e3 : ((K : Int) + 1).toNat = K + 1 := by omega
          have e4 : (K : Int) + 1 ≤ (s.size : Int) := by omega
          have e5 : (K : Int) ≤ (s.size : Int) := by omega
          have e6 : (0 : Int) ≤ (K : Int) := by omega
          have e7 : (K : Int) ≤ (K : Int) + 1 := by omega
          have hsi : 1 ≤ (s.size : Int) / 2 + 1 := by omega
          by_cases hone : s.size = 1
          · have t1 : ((s.size : Int) == 1) = true := by rw [beq_iff_eq]; omega
            clear hok h0 hcr hpl hodd hK hKm hbW hosz hhsz s1 s2 s3 hW hone
            go_wp2_with fail
            refine (implWordOther s _ (by omega)).mono ?_
            rintro e w6 ⟨rfl, hb6⟩
            have hz6 := hb6.size
            rw [HCR.out]
            go_wp2_with fail
            go_region_held3 (fun _ => True) (exact trivial) ((go_at_call 24; refine (implFoldsSwap _ _ s4).mono ?_; rintro e w7 ⟨rfl, hb7⟩))
            clear e1
            have hz7 : w6.heap.size ≤ w7.heap.size := hb7.size
            go_wp2_with fail
            refine (implWordValid _ _ HOS.out).mono ?_
            rintro e w8 ⟨rfl, hb8⟩
            have hz8 := hb8.size
            rw [HOTH.out]
            go_wp2_with fail
            refine (implWordValid _ _ HHS.out).mono ?_
            rintro e w9 ⟨rfl, hb9⟩
            rw [HHALF.out]
            go_wp2_with fail
            go_ret
            exact ⟨rfl, hb15.trans ((hb6.trans (((Below.refl _ w6).drew.trans (hb7.trans ((hb8.trans (hb9.mono hz8)).mono hz7))).mono hz6)).mono (by omega))⟩
          · have t1 : ((s.size : Int) == 1) = false := by rw [beq_eq_false_iff_ne]; omega
            have HWR : Hid (wordOk (bl W) = false) := by
              show _ = _
              rw [hW, hbW]
              exact wordOk_wrong (bl s) K hok (by rw [bl_length]; omega) _ (by omega)
            clear hok h0 hcr hpl hodd hK hKm hbW hosz hhsz s1 s2 s3 hW hone
            go_wp2_with fail
            refine (implWordOther s _ (by omega)).mono ?_
            rintro e w6 ⟨rfl, hb6⟩
            have hz6 := hb6.size
            rw [HCR.out]
            go_wp2_with fail
            go_region_held3 (fun _ => True) (exact trivial) ((go_at_call 24; refine (implFoldsSwap _ _ s4).mono ?_; rintro e w7 ⟨rfl, hb7⟩))
            clear e1
            have hz7 : w6.heap.size ≤ w7.heap.size := hb7.size
            rw [← HWW.out]
            go_wp2_with fail
            refine (implWordValid _ _ HOS.out).mono ?_
            rintro e w8 ⟨rfl, hb8⟩
            have hz8 := hb8.size
            rw [HOTH.out]
            go_wp2_with fail
            refine (implWordValid _ _ HHS.out).mono ?_
            rintro e w9 ⟨rfl, hb9⟩
            have hz9 := hb9.size
            rw [HHALF.out]
            go_wp2_with fail
            refine (implWordValid W _ hWs).mono ?_
            rintro e w10 ⟨rfl, hb10⟩
            rw [HWR.out]
            go_wp2_with fail
            go_ret
            exact ⟨rfl, hb15.trans ((hb6.trans (((Below.refl _ w6).drew.trans (hb7.trans ((hb8.trans ((hb9.trans (hb10.mono hz9)).mono hz8)).mono hz7))).mono hz6)).mono (by omega))⟩
end Go.Proofs.Ytonlmljmhabffaa
