/- The walks of the reference's StampMany and StampNth. Conditions: each theorem's own premises. -/
import Derived.Test.YtadpbbjahckoaaaStampI
namespace Go.Proofs.Ytadpbbjahckoaaa
set_option maxRecDepth 100000
open Go.RowKit
def inI (n : Int) : Bool := decide (1 ≤ n) && decide (n ≤ 7)
theorem inI_nat {n : Int} (h : inI n = true) : ∃ m : Nat, n = m ∧ 1 ≤ m ∧ m ≤ 7 := by
  unfold inI at h
  rw [Bool.and_eq_true, decide_eq_true_eq, decide_eq_true_eq] at h
  exact ⟨n.toNat, by omega, by omega, by omega⟩
theorem inI_of {m : Nat} (h1 : 1 ≤ m) (h7 : m ≤ 7) : inI (m : Int) = true := by
  unfold inI
  rw [Bool.and_eq_true, decide_eq_true_eq, decide_eq_true_eq]
  omega
def manyI (n : Int) : Int := if inI n = true then ((stacksS n.toNat).length : Int) else -1
def nthI (n r : Int) : Option (List Int) := if inI n = true ∧ 0 ≤ r then (stacksS n.toNat)[r.toNat]? else none
theorem stacks_len (n : Nat) (h : n ≤ 7) : (stacksS n).length ≤ 823543 := Nat.le_trans (List.length_filter_le _ _) (Nat.le_trans (allL_length n h n []) (pow7 h))
set_option maxHeartbeats 1000000 in
theorem specStampMany (n : Int) (w : World) : Calls Try.prog 37 #[.int .i64 n] w fun e w' => e = .returned (.int .i64 (manyI n)) ∧ Below w.heap.size w w' := by
  have C1 := fun w => l6In3 n 1 7 w
  cases hi : inI n with
  | false =>
    have HR : Hid (manyI n = -1) := by show _ = _; unfold manyI; rw [if_neg (by rw [hi]; decide)]
    have hi2 : (decide (1 ≤ n) && decide (n ≤ 7)) = false := hi
    rw [hi2] at C1
    have HC1 := Lib.hid C1
    clear hi hi2 C1
    go_enter Try.func37, Try.ntmps37
    go_wp2_with fail
    refine (HC1.out _).mono ?_
    rintro e w1 ⟨rfl, rfl⟩
    go_wp2_with fail
    go_ret
    exact ⟨ret_int HR.out.symm, Below.refl _ _⟩
  | true =>
    obtain ⟨m, rfl, h1, h7⟩ := inI_nat hi
    have HR : Hid (manyI m = ((stacksS m).length : Int)) := by show _ = _; unfold manyI; rw [if_pos hi]; rfl
    have hi2 : (decide (1 ≤ (m : Int)) && decide ((m : Int) ≤ 7)) = true := hi
    rw [hi2] at C1
    have HC1 := Lib.hid C1
    have HC2 := Lib.hid (fun w => l3All m h1 h7 w)
    clear hi hi2 C1
    go_enter Try.func37, Try.ntmps37
    go_wp2_with fail
    refine (HC1.out _).mono ?_
    rintro e w1 ⟨rfl, rfl⟩
    go_wp2_with fail
    refine (HC2.out _).mono ?_
    rintro e w2 ⟨rs, G, K, cap, hx, hK, rfl, ho, hG, hl, hb⟩
    have HRR : Hid ((K : Int) = manyI m) := by show _ = _; rw [HR.out, ← hx, List.length_map, hK]
    clear hx hK ho hl
    go_wp2_with fail
    go_ret
    exact ⟨ret_int HRR.out, hb⟩
set_option maxHeartbeats 1000000 in
theorem specStampNth (n r : Int) (w : World) : Calls Try.prog 8 #[.int .i64 n, .int .i64 r] w (OverBack w (nthI n r).isSome ((nthI n r).getD [])) := by
  have C1 := fun a lo hi w => l6In3 a lo hi w
  cases hi : inI n with
  | false =>
    have HR : nthI n r = none := by unfold nthI; rw [if_neg (by rw [hi]; simp)]
    rw [HR]
    have hi2 : (decide (1 ≤ n) && decide (n ≤ 7)) = false := hi
    have C := C1 n 1 7
    rw [hi2] at C
    have HC1 := Lib.hid C
    clear hi hi2 C C1 HR
    go_enter Try.func8, Try.ntmps8
    go_wp2_with fail
    refine (HC1.out _).mono ?_
    rintro e w1 ⟨rfl, rfl⟩
    go_wp2_with fail
    go_ret2
    exact ⟨(Below.refl _ _).alloc (Nat.le_refl _) _, _, 0, 0, rfl, rfl, Nat.le_refl _, ⟨by simp, fun i x h => by simp at h⟩⟩
  | true =>
    obtain ⟨m, rfl, h1, h7⟩ := inI_nat hi
    have hi2 : (decide (1 ≤ (m : Int)) && decide ((m : Int) ≤ 7)) = true := hi
    have C := C1 m 1 7
    rw [hi2] at C
    have HC1 := Lib.hid C
    have HC2 := Lib.hid (fun w => l3All m h1 h7 w)
    have HC3 := Lib.hid (fun hi w => C1 r 0 hi w)
    have HRN : Hid (nthI m r = if 0 ≤ r then (stacksS m)[r.toNat]? else none) := by
      show _ = _
      unfold nthI
      by_cases h0 : 0 ≤ r
      · rw [if_pos ⟨hi, h0⟩, if_pos h0]; rfl
      · rw [if_neg (fun h => h0 h.2), if_neg h0]
    clear hi hi2 C C1
    go_enter Try.func8, Try.ntmps8
    go_wp2_with fail
    refine (HC1.out _).mono ?_
    rintro e w1 ⟨rfl, rfl⟩
    go_wp2_with fail
    refine (HC2.out _).mono ?_
    rintro e w2 ⟨rs, G, K, cap, hx, hK, rfl, ho, hG, hl, hb⟩
    have HX := Lib.hid hx
    have HK := Lib.hid hK
    have HO := Lib.hid ho
    have HL := Lib.hid hl
    have hz2 := hb.size
    have hKl : K ≤ 823543 := by rw [← hK, ← List.length_map (f := RD.xs), hx]; exact stacks_len m h7
    clear hx hK ho hl
    go_wp2_with fail
    refine (HC3.out _ _).mono ?_
    rintro e w3 ⟨rfl, rfl⟩
    have HKS : Hid ((stacksS m).length = K) := by show _ = _; rw [← HX.out, List.length_map, HK.out]
    by_cases hr : 0 ≤ r ∧ r ≤ (K : Int) - 1
    · obtain ⟨k, rfl⟩ : ∃ k : Nat, r = k := ⟨r.toNat, by omega⟩
      have tq : (decide ((0 : Int) ≤ (k : Int)) && decide ((k : Int) ≤ (K : Int) - 1)) = true := by rw [Bool.and_eq_true, decide_eq_true_eq, decide_eq_true_eq]; exact hr
      obtain ⟨x, hx⟩ : ∃ x, rs[k]? = some x := ⟨_, List.getElem?_eq_getElem (by rw [HK.out]; omega)⟩
      obtain ⟨hrr, hrg, hrlo⟩ := HL.out x (List.mem_of_getElem? hx)
      have c1 : w2.cell? ⟨G, k, none⟩ = some (.slice (some ⟨x.g, 0, none⟩) x.xs.length x.cap) := ownI_at HO.out (by rw [List.getElem?_map, hx]; rfl)
      have hn : nthI m k = some x.xs := by
        rw [HRN.out, if_pos (by omega), Int.toNat_natCast, ← HX.out, List.getElem?_map, hx]
        rfl
      have HNN := Lib.hid hn
      have k0 : (0 : Int) ≤ (k : Int) := by omega
      have k1 : (k : Int) < (K : Int) := by omega
      rw [tq]
      have HRR := Lib.hid hrr
      obtain ⟨xn, hxn⟩ : ∃ a, a = x.xs.length := ⟨_, rfl⟩
      rw [← hxn] at c1
      have HXN := Lib.hid hxn
      clear hx hn tq hr hrr hxn
      go_wp2_with fail
      go_ret2
      rw [HNN.out]
      exact ⟨hb, _, _, _, HXN.out.symm, rfl, hrlo, HRR.out⟩
    · have tq : (decide ((0 : Int) ≤ r) && decide (r ≤ (K : Int) - 1)) = false := by
        cases e : decide ((0 : Int) ≤ r) && decide (r ≤ (K : Int) - 1) with
        | false => rfl
        | true =>
          rw [Bool.and_eq_true, decide_eq_true_eq, decide_eq_true_eq] at e
          exact absurd e hr
      have hn : nthI m r = none := by
        rw [HRN.out]
        by_cases h0 : 0 ≤ r
        · rw [if_pos h0, List.getElem?_eq_none (by rw [HKS.out]; omega)]
        · rw [if_neg h0]
      rw [tq]
      have HNN := Lib.hid hn
      clear tq hr hn
      go_wp2_with fail
      go_ret2
      rw [HNN.out]
      exact ⟨hb.alloc hz2 _, _, 0, 0, rfl, rfl, hz2, ⟨by simp, fun i x h => by simp at h⟩⟩
end Go.Proofs.Ytadpbbjahckoaaa
