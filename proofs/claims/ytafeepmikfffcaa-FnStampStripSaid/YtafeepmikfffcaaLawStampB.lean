/- The law FnStampStrip, walked: it returns true. Conditions: each theorem's own premises. -/
import Derived.Test.YtafeepmikfffcaaStampL
import Derived.Test.YtafeepmikfffcaaStampM
import Derived.Test.YtafeepmikfffcaaPlainX
import Derived.Deep.RegionWith
import Derived.Deep.RegionHeld3
namespace Go.Proofs.Ytafeepmikfffcaa
open Go.RowKit
theorem RowI.next {w w' : World} {g : Nat} {xs : List Int} (h : RowI w g xs) (hb : Below w.heap.size w w') : RowI w' g xs := h.below hb h.1
theorem below_step {a b c : World} (h : Below a.heap.size a b) (k : Below b.heap.size b c) : Below a.heap.size a c := h.trans (k.mono h.size)
theorem bl_swapAt (s : ByteArray) (k : Nat) : bl (s.extract 0 k ++ mkS ((bl (s.extract k (k + 1))).map swp) ++ s.extract (k + 1) s.size) = swapAt k (bl s) := by
  rw [bl_append, bl_append, bl_mkS, bl_left, bl_extract, bl_right]
  unfold swapAt
  rw [show k + 1 - k = 1 by omega]
set_option maxRecDepth 100000 in
set_option maxHeartbeats 4000000 in
theorem fnStampStrip_walk (w : World) (a0 : Option Addr) (len0 cap0 : Nat) (z0 : List Int) (w0 : IsRow .u8 w a0 len0 cap0 z0) (a1 : Option Addr) (len1 cap1 : Nat) (z1 : List Int) (_w1 : IsRow .u8 w a1 len1 cap1 z1) :
    Calls Try.prog 4 #[.slice a0 len0 cap0, .slice a1 len1 cap1] w fun e w' => e = .returned (.bool true) ∧ Below w.heap.size w w' := by
  have HW := Lib.hid w0
  clear w0
  by_cases hl : 1048576 < len0
  · go_enter Try.func4, Try.ntmps4
    go_wp2
    go_ret
    exact ⟨rfl, Below.refl _ _⟩
  by_cases hl1 : 1048576 < len1
  · go_enter Try.func4, Try.ntmps4
    go_wp2
    go_ret
    exact ⟨rfl, Below.refl _ _⟩
  go_enter Try.func4, Try.ntmps4
  go_wp2_with fail
  refine (drawStampFolds _ _ _ _ _ HW.out HW.out.le).mono ?_
  rintro e w1 ⟨G, n, cap, l, hn, hn7, rfl, hG, hr1, hb1⟩
  have C1 := fun w (h : RowI w G l) => implStampFolds G n cap l w hn (by omega) h
  have C2 := fun w (h : RowI w G l) => specStampFolds G n cap l w hn (by omega) h
  rw [← poss_same] at C2
  have HR1 := Lib.hid hr1
  have HB1 := Lib.hid hb1
  have HN := Lib.hid hn
  clear hr1 hb1
  cases hok : possL l with
  | false =>
    rw [hok] at C1 C2
    have HC1 := Lib.hid C1
    have HC2 := Lib.hid C2
    clear C1 C2 hok hn
    go_wp2_with fail
    refine (HC1.out _ HR1.out).mono ?_
    rintro e w2 ⟨hb2, a, ha, rfl⟩
    have HB2 := Lib.hid (below_step HB1.out hb2)
    have HRL := Lib.hid (HR1.out.next hb2)
    clear hb2
    go_wp2_with fail
    refine (HC2.out _ HRL.out).mono ?_
    rintro e w3 ⟨hb3, b, hb, rfl⟩
    have HB3 := Lib.hid (below_step HB2.out hb3)
    have teq : (a.toList == b.toList) = true := by rw [eq_mkS ha, eq_mkS hb]; exact beq_self_eq_true _
    have tne : (a.toList != b.toList) = false := by rw [eq_mkS ha, eq_mkS hb]; simp
    clear ha hb hb3
    go_wp2_with fail
    go_ret
    exact ⟨rfl, HB3.out⟩
  | true =>
    have hrg := ((poss_iff l).1 hok).1
    unfold rangeN at hrg
    rw [decide_eq_true_eq, hn] at hrg
    have h1n := hrg.1
    have HSY := Lib.hid (fun h6 => strip_yes hn h6 hok)
    rw [hok] at C1 C2
    simp only [if_true] at C1 C2
    have HC1 := Lib.hid C1
    have HC2 := Lib.hid C2
    have HFL : Hid ((foldsL (sLevels n l) (n - 1)).length = n - 1) := Lib.hid (foldsL_length _ _)
    have HFO : Hid (foldsOk (foldsL (sLevels n l) (n - 1)) ((n - 1 : Nat) : Int) = true) := Lib.hid (foldsL_mv _ _)
    obtain ⟨F, hF⟩ : ∃ F, F = foldsL (sLevels n l) (n - 1) := ⟨_, rfl⟩
    rw [← hF] at HSY HC1 HC2 HFL HFO
    clear C1 C2 hok hn hrg hF
    go_wp2_with fail
    refine (HC1.out _ HR1.out).mono ?_
    rintro e w2 ⟨hb2, a, ha, rfl⟩
    have HB2 := Lib.hid (below_step HB1.out hb2)
    have HRL := Lib.hid (HR1.out.next hb2)
    clear hb2
    go_wp2_with fail
    refine (HC2.out _ HRL.out).mono ?_
    rintro e w3 ⟨hb3, b, hb, rfl⟩
    have HB3 := Lib.hid (below_step HB2.out hb3)
    have HL3 := Lib.hid (HRL.out.next hb3)
    have teq : (a.toList == b.toList) = true := by rw [eq_mkS ha, eq_mkS hb]; exact beq_self_eq_true _
    have tne : (a.toList != b.toList) = false := by rw [eq_mkS ha, eq_mkS hb]; simp
    have HA := Lib.hid ha
    have has : a.size + 1 = n := by rw [← bl_length, ha, HFL.out]; omega
    clear ha hb hb3
    obtain ⟨m, hm⟩ : ∃ m : Nat, m + 1 = n := ⟨n - 1, by omega⟩
    have em : (n : Int) - 1 = (m : Int) := by omega
    by_cases h6 : 6 < n
    · have h6' : (6 : Int) < (n : Int) := by omega
      have HT : Hid (foldsOk (bl a) (m : Int) = true) := by
        show _ = _
        rw [HA.out, show m = n - 1 by omega]
        exact HFO.out
      have hasz : a.size ≤ 1048576 := by omega
      clear hm
      go_wp2_with fail
      refine (implFoldsValid a m _ hasz (by omega) (by omega)).mono ?_
      rintro e w4 ⟨rfl, rfl⟩
      go_wp2_with fail
      go_ret
      exact ⟨ret_bool (by rw [HT.out]), HB3.out⟩
    · have h6' : ¬ (6 : Int) < (n : Int) := by omega
      obtain ⟨hy1, hy2⟩ := HSY.out (by omega)
      have HY1 := Lib.hid hy1
      have HY2 := Lib.hid hy2
      clear hy1 hy2
      go_wp2_with fail
      refine (ones n _ (by omega)).mono ?_
      rintro e w4 ⟨go, no, co, hno, rfl, hgo, hro, hb4⟩
      obtain rfl : no = n := by rw [← hno]; exact List.length_replicate
      have HB4 := Lib.hid (below_step HB3.out hb4)
      have HL4 := Lib.hid (HL3.out.next hb4)
      have HO4 := Lib.hid hro
      clear hno hro hb4
      go_wp2_with fail
      refine (stripLayers go no co G no cap (List.replicate no 1) l a _ List.length_replicate (by omega) HO4.out (by omega) HN.out rfl HL4.out).mono ?_
      rintro e w5 ⟨rfl, hb5⟩
      have HB5 := Lib.hid (below_step HB4.out hb5)
      have HL5 := Lib.hid (HL4.out.next hb5)
      have tl : layersOk (List.replicate no 1) (bl a) l = true := by rw [HA.out]; exact HY1.out
      rw [tl]
      clear tl hb5
      by_cases hn1 : no = 1
      · have t1 : ((no : Int) == 1) = true := by rw [hn1]; rfl
        clear em
        go_wp2_with fail
        go_ret
        exact ⟨rfl, HB5.out⟩
      · have t1 : ((no : Int) == 1) = false := by rw [beq_eq_false_iff_ne]; omega
        obtain ⟨k, hk⟩ : ∃ k : Nat, k = len1 % m := ⟨_, rfl⟩
        have hkm : k < m := by rw [hk]; exact Nat.mod_lt _ (by omega)
        have ek : (len1 : Int).tmod (m : Int) = (k : Int) := by rw [hk]; exact Int.tmod_eq_emod_of_nonneg (by omega)
        have ek2 : (len1 : Int) % (m : Int) = (k : Int) := by rw [hk]; exact (Int.natCast_emod len1 m).symm
        have tm0 : ((m : Int) == 0) = false := by rw [beq_eq_false_iff_ne]; omega
        clear hk
        go_wp2_with fail
        obtain ⟨k1, hk1⟩ : ∃ k1 : Nat, k1 = k + 1 := ⟨_, rfl⟩
        have e1 : IntKind.i64.wrap ((k : Int) + 1) = (k1 : Int) := by rw [IntKind.wrap_i64]; omega
        have hs0 : (0 : Int) ≤ (k : Int) := by omega
        have hs1 : (k : Int) ≤ (a.size : Int) := by omega
        have hs2 : (k1 : Int) ≤ (a.size : Int) := by omega
        have hs3 : (0 : Int) ≤ (k1 : Int) := by omega
        have hs4 : (k : Int) ≤ (k1 : Int) := by omega
        have z1 : (a.extract 0 k).size ≤ 6 := by rw [ByteArray.size_extract]; omega
        have z2 : (a.extract k k1).size ≤ 6 := by rw [ByteArray.size_extract]; omega
        have z3 : (mkS ((bl (a.extract k k1)).map swp)).size ≤ 6 := by rw [mkS_size, List.length_map, bl_length]; exact z2
        have z4 : (a.extract k1 a.size).size ≤ 6 := by rw [ByteArray.size_extract]; omega
        have z5 : (a.extract 0 k ++ mkS ((bl (a.extract k k1)).map swp)).size ≤ 12 := by rw [ByteArray.size_append]; omega
        have z6 : (a.extract 0 k ++ mkS ((bl (a.extract k k1)).map swp) ++ a.extract k1 a.size).size ≤ 18 := by rw [ByteArray.size_append]; omega
        have hz3' : ¬ 9223372036854775807 < min k a.size + (mkS ((bl (a.extract k k1)).map swp)).size := by omega
        have hz4' : ¬ 9223372036854775807 < min k a.size + (mkS ((bl (a.extract k k1)).map swp)).size + (a.size - k1) := by omega
        have hz5' : ¬ 9223372036854775807 < (a.extract 0 k).size + (mkS ((bl (a.extract k k1)).map swp)).size := by omega
        have hz6' : ¬ 9223372036854775807 < (a.extract 0 k).size + (mkS ((bl (a.extract k k1)).map swp)).size + (a.extract k1 a.size).size := by omega
        have HTX : Hid (layersOk (List.replicate no 1) (bl (a.extract 0 k ++ mkS ((bl (a.extract k k1)).map swp) ++ a.extract k1 a.size)) l = false) := by
          show _ = _
          rw [hk1, bl_swapAt, HA.out]
          exact HY2.out k (by omega)
        clear hk1
        go_region_held3 (fun _ => True) (exact trivial) (first
          | (go_at_call 17; refine (ones no _ (by omega)).mono ?_; rintro e w6 ⟨g6, n6, c6, hn6, rfl, hg6, hr6, hb6⟩; obtain rfl : n6 = no := (by rw [← hn6]; exact List.length_replicate); have HB6 : Hid (Below w5.heap.size w5 w6) := Lib.hid ((Below.refl _ w5).drew.trans hb6); have HO6 := Lib.hid hr6; clear hn6 hr6 hb6)
          | (go_at_call 12; refine (implFoldsSwap _ _ (by omega)).mono ?_; rintro e w7 ⟨rfl, hb7⟩; have HB7 := Lib.hid (below_step HB6.out hb7); have HO7 := Lib.hid (HO6.out.next hb7); clear hb7)
          | (go_at_call 16; refine (stripLayers g6 n6 c6 G n6 cap (List.replicate n6 1) l _ _ List.length_replicate (by omega) HO7.out (by omega) HN.out rfl (HL5.out.next HB7.out)).mono ?_; rintro e w8 ⟨rfl, hb8⟩; have HB8 := Lib.hid (below_step HB7.out hb8); rw [HTX.out]; clear hb8))
        all_goals
          go_wp2_with fail
          go_ret
          exact ⟨rfl, below_step HB5.out HB8.out⟩
end Go.Proofs.Ytafeepmikfffcaa
