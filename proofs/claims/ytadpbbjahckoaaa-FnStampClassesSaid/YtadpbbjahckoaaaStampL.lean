/- The walks of the functions that draw stamps (l91Stamps, DrawStampOver, DrawStampFolds, DrawStampRank, l91Number, DrawStampMany, DrawStampClasses, DrawStampNth). Conditions: each theorem's own premises. -/
import Derived.Test.YtadpbbjahckoaaaStampK
namespace Go.Proofs.Ytadpbbjahckoaaa
set_option maxRecDepth 100000
open Go.RowKit
theorem many_bd (n : Int) : -1 ≤ manyI n ∧ manyI n ≤ 823543 := by
  unfold manyI
  split
  · rename_i h
    obtain ⟨m, rfl, h1, h7⟩ := inI_nat h
    have := stacks_len m h7
    rw [Int.toNat_natCast]
    omega
  · omega
theorem nth_len (n r : Int) : ((nthI n r).getD []).length ≤ 7 := by
  unfold nthI
  split
  · rename_i h
    obtain ⟨m, rfl, h1, h7⟩ := inI_nat h.1
    rw [Int.toNat_natCast]
    cases e : (stacksS m)[r.toNat]? with
    | none => exact Nat.zero_le _
    | some l =>
      have := (stacks_mem (List.mem_of_getElem? e)).1
      show l.length ≤ 7
      omega
  · exact Nat.zero_le _
set_option maxRecDepth 100000 in
set_option maxHeartbeats 4000000 in
theorem l91Stamps (g : Nat) (A : Option Addr) (len cap p : Nat) (w : World) (h : Rd w g A len cap p) (hp : p ≤ 900) :
    Calls Try.prog 43 #[.pointer (some ⟨g, 0, none⟩)] w (DrawnInts g w) := by
  have HR := Lib.hid h
  have hlt := h.lt
  clear h
  go_enter Try.func43, Try.ntmps43
  go_wp2_with fail
  refine (pick g A len cap _ 6 _ HR.out (by omega) (by omega)).mono ?_
  rintro e w1 ⟨x, rfl, hx, _, hr1, hg1⟩
  obtain ⟨n, hn⟩ : ∃ n : Nat, n = x + 1 := ⟨_, rfl⟩
  have hn1 : 1 ≤ n := by omega
  have hn6 : n ≤ 6 := by omega
  have en : (1 : Int) + (x : Int) = (n : Int) := by omega
  have hb1 : Below g w w1 := below_grown_at (Below.refl _ _) hg1 (Nat.le_of_lt hlt) (Nat.le_refl _)
  have hz1 := hb1.size
  clear hn hx hg1
  go_wp2_with fail
  refine (pick g A len cap _ 4 _ hr1 (by omega) (by omega)).mono ?_
  rintro e w2 ⟨y, rfl, hy, _, hr2, hg2⟩
  have hb2 : Below g w w2 := below_grown_at hb1 hg2 (Nat.le_of_lt hr1.lt) (Nat.le_refl _)
  have hz2 := hb2.size
  have HR2 := Lib.hid hr2
  have hlt2 := hr2.lt
  clear hg2 hr1 hb1 hr2
  by_cases hy0 : y = 0
  · subst hy0
    have t0 : (((0 : Nat) : Int) == 0) = true := rfl
    go_wp2_with fail
    refine (l91Layers g A len cap _ w2.heap.size n _ (HR2.out.below ((Below.refl _ _).alloc (Nat.le_refl _) _)) (by omega) hn1 (by omega)).mono ?_
    rintro e w3 ⟨G, k, cp, xs, hk, hk7, rfl, hG, hrw, hb3⟩
    have HRW := Lib.hid hrw
    have HK := Lib.hid hk
    have hb : Below g w w3 := (hb2.alloc (Nat.le_of_lt hlt2) _).trans hb3
    clear hrw hk hb3
    go_wp2_with fail
    go_ret
    exact ⟨G, k, cp, xs, HK.out, hk7, rfl, hG, HRW.out, hb⟩
  · have t0 : ((y : Int) == 0) = false := by rw [beq_eq_false_iff_ne]; omega
    by_cases h5 : (n : Int) ≤ 5
    · have h5' : ¬ (5 : Int) < (n : Int) := by omega
      have hmb := many_bd (n : Int)
      go_wp2_with fail
      refine (specStampMany (n : Int) _).mono ?_
      rintro e w3 ⟨rfl, hb3⟩
      obtain ⟨M, hM⟩ : ∃ M, M = manyI (n : Int) := ⟨_, rfl⟩
      rw [← hM] at hmb ⊢
      have hb3' : Below g w w3 := hb2.trans (hb3.mono (Nat.le_of_lt hlt2))
      have HR3 := Lib.hid (HR2.out.below hb3)
      clear hM hb3
      go_wp2_with fail
      refine (pick g A len cap _ M _ HR3.out (by omega) (by omega)).mono ?_
      rintro e w4 ⟨z, rfl, _, _, hr4, hg4⟩
      have hb4 : Below g w w4 := below_grown_at hb3' hg4 (Nat.le_of_lt HR3.out.lt) (Nat.le_refl _)
      have hlt4 := hr4.lt
      clear hr4 hg4 hb3'
      go_wp2_with fail
      refine (specStampNth (n : Int) z _).mono ?_
      rintro e w5 ⟨hb5, G, k, cp, hk, rfl, hG, hrw⟩
      have hk7 : k ≤ 7 := by rw [← hk]; exact nth_len _ _
      have HRW := Lib.hid hrw
      have HK := Lib.hid hk
      have hb : Below g w w5 := hb4.trans (hb5.mono (Nat.le_of_lt hlt4))
      clear hrw hk hb5
      go_wp2_with fail
      go_ret
      exact ⟨G, k, cp, _, HK.out, hk7, rfl, by omega, HRW.out, hb⟩
    · have h5' : (5 : Int) < (n : Int) := by omega
      have h5'' : ¬ (n : Int) < 5 := by omega
      have hmb := many_bd 5
      go_wp2_with fail
      refine (specStampMany 5 _).mono ?_
      rintro e w3 ⟨rfl, hb3⟩
      obtain ⟨M, hM⟩ : ∃ M, M = manyI 5 := ⟨_, rfl⟩
      rw [← hM] at hmb ⊢
      have hb3' : Below g w w3 := hb2.trans (hb3.mono (Nat.le_of_lt hlt2))
      have HR3 := Lib.hid (HR2.out.below hb3)
      clear hM hb3
      go_wp2_with fail
      refine (pick g A len cap _ M _ HR3.out (by omega) (by omega)).mono ?_
      rintro e w4 ⟨z, rfl, _, _, hr4, hg4⟩
      have hb4 : Below g w w4 := below_grown_at hb3' hg4 (Nat.le_of_lt HR3.out.lt) (Nat.le_refl _)
      have hlt4 := hr4.lt
      clear hr4 hg4 hb3'
      go_wp2_with fail
      refine (specStampNth 5 z _).mono ?_
      rintro e w5 ⟨hb5, G, k, cp, hk, rfl, hG, hrw⟩
      have hk7 : k ≤ 7 := by rw [← hk]; exact nth_len _ _
      have HRW := Lib.hid hrw
      have HK := Lib.hid hk
      have hb : Below g w w5 := hb4.trans (hb5.mono (Nat.le_of_lt hlt4))
      clear hrw hk hb5
      go_wp2_with fail
      go_ret
      exact ⟨G, k, cp, _, HK.out, hk7, rfl, by omega, HRW.out, hb⟩
theorem drawStampFolds (a : Option Addr) (len cap : Nat) (z : List Int) (w : World) (hr : IsRow .u8 w a len cap z) (hc : len ≤ cap) : Calls Try.prog 26 #[.slice a len cap] w (DrawnInts w.heap.size w) := by
  have HR := Lib.hid hr
  clear hr
  go_enter Try.func26, Try.ntmps26
  go_wp2_with fail
  refine (l6Open _ _ _ _ _ HR.out hc).mono ?_
  rintro e w1 ⟨g, A, len', cap', rfl, hg, hrd, hb⟩
  go_wp2_with fail
  refine (l91Stamps g A len' cap' 0 _ hrd (by omega)).mono ?_
  rintro e w2 ⟨G, k, cp, xs, hk, hk7, rfl, hG, hrw, hb2⟩
  have HRW := Lib.hid hrw
  have HK := Lib.hid hk
  clear hrw hk
  go_wp2_with fail
  go_ret
  exact ⟨G, k, cp, xs, HK.out, hk7, rfl, by omega, HRW.out, hb.trans (hb2.mono hg)⟩
theorem drawStampRank (a : Option Addr) (len cap : Nat) (z : List Int) (w : World) (hr : IsRow .u8 w a len cap z) (hc : len ≤ cap) : Calls Try.prog 18 #[.slice a len cap] w (DrawnInts w.heap.size w) := by
  have HR := Lib.hid hr
  clear hr
  go_enter Try.func18, Try.ntmps18
  go_wp2_with fail
  refine (l6Open _ _ _ _ _ HR.out hc).mono ?_
  rintro e w1 ⟨g, A, len', cap', rfl, hg, hrd, hb⟩
  go_wp2_with fail
  refine (l91Stamps g A len' cap' 0 _ hrd (by omega)).mono ?_
  rintro e w2 ⟨G, k, cp, xs, hk, hk7, rfl, hG, hrw, hb2⟩
  have HRW := Lib.hid hrw
  have HK := Lib.hid hk
  clear hrw hk
  go_wp2_with fail
  go_ret
  exact ⟨G, k, cp, xs, HK.out, hk7, rfl, by omega, HRW.out, hb.trans (hb2.mono hg)⟩
end Go.Proofs.Ytadpbbjahckoaaa
