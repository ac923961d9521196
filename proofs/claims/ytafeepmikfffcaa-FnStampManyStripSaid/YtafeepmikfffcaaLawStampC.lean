/- The law FnStampManyStrip, walked: it returns true. Conditions: each theorem's own premises. -/
import Derived.Test.YtafeepmikfffcaaPlainN
import Derived.Test.YtafeepmikfffcaaDrawN
namespace Go.Proofs.Ytafeepmikfffcaa
open Go.RowKit
theorem below_step {a b c : World} (h : Below a.heap.size a b) (k : Below b.heap.size b c) : Below a.heap.size a c := h.trans (k.mono h.size)
set_option maxHeartbeats 1000000 in
theorem power (n : Nat) (w : World) (hn : n ≤ 10) : Calls Try.prog 21 #[.int .i64 n] w fun e w' => e = .returned (.int .i64 ((2 ^ n : Nat) : Int)) ∧ w = w' := by
  go_enter Try.func21, Try.ntmps21
  go_wp2_with fail
  go_loopw [3, 4] (fun o i wr => ∃ k p : Nat, k ≤ n ∧ i = .int .i64 k ∧ o = .int .i64 p ∧ Hid (p = 2 ^ k) ∧ w = wr) (fun _ i _ => n - (intOf i).toNat)
  case atStart => exact ⟨0, 1, Nat.zero_le _, rfl, rfl, Lib.hid rfl, rfl⟩
  case round =>
    obtain ⟨k, p, hk, rfl, rfl, HP, hw⟩ := hrel
    subst hw
    by_cases hlt : k < n
    · have hpb : p ≤ 1024 := by rw [HP.out]; exact Nat.le_trans (Nat.pow_le_pow_right (by omega) (show k ≤ 10 by omega)) (by decide)
      have HP2 : Hid (2 * p = 2 ^ (k + 1)) := by show _ = _; rw [HP.out, Nat.pow_succ, Nat.mul_comm]
      have f1 : (2 : Int) * (p : Int) = ((2 * p : Nat) : Int) := by omega
      obtain ⟨p2, hp2⟩ : ∃ x, x = 2 * p := ⟨_, rfl⟩
      rw [← hp2] at HP2 f1
      have hp3 : p2 ≤ 2048 := by omega
      clear hp2
      go_wp2_with fail
      go_roundw
      case rel => exact ⟨k + 1, p2, by omega, by go_num, by go_num, HP2, by first | rfl | trivial⟩
      case measure => simp [intOf]; omega
    · obtain rfl : k = n := by omega
      have HP2 : Hid ((p : Int) = ((2 ^ k : Nat) : Int)) := by show _ = _; rw [HP.out]
      clear HP
      go_wp2_with fail
      go_ret
      exact ⟨ret_int HP2.out, by first | rfl | trivial⟩
set_option maxHeartbeats 2000000 in
theorem foldsOf (n r0 : Nat) (w : World) (hn : n ≤ 10) (hr0 : r0 ≤ 100000) : Calls Try.prog 23 #[.int .i64 n, .int .i64 r0] w fun e w' => (∃ s : ByteArray, e = .returned (.string s) ∧ bl s = foL n r0 []) ∧ w = w' := by
  go_enter Try.func23, Try.ntmps23
  go_wp2_with fail
  go_loopw [1, 5, 6] (fun rv o i wr => ∃ (k r : Nat) (s : ByteArray), k ≤ n ∧ i = .int .i64 k ∧ rv = .int .i64 r ∧ o = .string s ∧ r ≤ 100000 ∧ s.size = k ∧ Hid (foL n r0 [] = foL (n - k) r (bl s)) ∧ w = wr) (fun _ _ i _ => n - (intOf i).toNat)
  case atStart => exact ⟨0, r0, ⟨#[]⟩, Nat.zero_le _, rfl, rfl, rfl, hr0, rfl, Lib.hid rfl, rfl⟩
  case round =>
    obtain ⟨k, r, s, hk, rfl, rfl, rfl, hr, hs, HF, hw⟩ := hrel
    subst hw
    by_cases hlt : k < n
    · have HF2 : Hid (foL (n - k) r (bl s) = foL (n - (k + 1)) (r / 2) ((if r % 2 = 0 then 77 else 86) :: bl s)) := by
        show _ = _
        rw [show n - k = (n - (k + 1)) + 1 by omega]
        rfl
      obtain ⟨r2, hr2⟩ : ∃ x, x = r / 2 := ⟨_, rfl⟩
      have f1 : (r : Int) / 2 = (r2 : Int) := by omega
      have f2 : r2 ≤ 100000 := by omega
      rw [← hr2] at HF2
      have hsz : s.size ≤ 10 := by omega
      clear hr2
      by_cases hev : r % 2 = 0
      · have t1 : ((r : Int) % 2 == 0) = true := by rw [beq_iff_eq]; omega
        rw [if_pos hev] at HF2
        have HF3 : Hid (foL n r0 [] = foL (n - (k + 1)) r2 (bl ((⟨#[77]⟩ : ByteArray) ++ s))) := by show _ = _; rw [bl_append, HF.out, HF2.out]; rfl
        have hs2 : ((⟨#[77]⟩ : ByteArray) ++ s).size = k + 1 := by rw [ByteArray.size_append, hs, Nat.add_comm]; rfl
        have hs3 : (⟨#[77]⟩ : ByteArray).size ≤ 1 := Nat.le_refl _
        clear hs hev
        go_wp2_with fail
        go_roundw
        case rel => exact ⟨k + 1, r2, _, by omega, by go_num, by go_num, rfl, f2, hs2, HF3, by first | rfl | trivial⟩
        case measure => simp [intOf]; omega
      · have t1 : ((r : Int) % 2 == 0) = false := by rw [beq_eq_false_iff_ne]; omega
        rw [if_neg hev] at HF2
        have HF3 : Hid (foL n r0 [] = foL (n - (k + 1)) r2 (bl ((⟨#[86]⟩ : ByteArray) ++ s))) := by show _ = _; rw [bl_append, HF.out, HF2.out]; rfl
        have hs2 : ((⟨#[86]⟩ : ByteArray) ++ s).size = k + 1 := by rw [ByteArray.size_append, hs, Nat.add_comm]; rfl
        have hs3 : (⟨#[86]⟩ : ByteArray).size ≤ 1 := Nat.le_refl _
        clear hs hev
        go_wp2_with fail
        go_roundw
        case rel => exact ⟨k + 1, r2, _, by omega, by go_num, by go_num, rfl, f2, hs2, HF3, by first | rfl | trivial⟩
        case measure => simp [intOf]; omega
    · obtain rfl : k = n := by omega
      have HF2 : Hid (bl s = foL k r0 []) := by show _ = _; rw [HF.out, Nat.sub_self]; rfl
      clear HF hs
      go_wp2_with fail
      go_ret
      exact ⟨⟨s, rfl, HF2.out⟩, by first | rfl | trivial⟩
set_option maxRecDepth 100000 in
set_option maxHeartbeats 4000000 in
theorem fnStampManyStrip_walk (w : World) (a0 : Option Addr) (len0 cap0 : Nat) (z0 : List Int) (w0 : IsRow .u8 w a0 len0 cap0 z0) :
    Calls Try.prog 5 #[.slice a0 len0 cap0] w fun e w' => e = .returned (.bool true) ∧ Below w.heap.size w w' := by
  have HW := Lib.hid w0
  clear w0
  by_cases hl : 1048576 < len0
  · go_enter Try.func5, Try.ntmps5
    go_wp2
    go_ret
    exact ⟨rfl, Below.refl _ _⟩
  go_enter Try.func5, Try.ntmps5
  go_wp2_with fail
  refine (drawStampMany _ _ _ _ _ HW.out HW.out.le).mono ?_
  rintro e w1 ⟨n, rfl, hn, hb1⟩
  have HB1 := Lib.hid hb1
  clear hb1
  cases hi : inI n with
  | false =>
    have hm1 : implMany n = -1 := by unfold implMany; rw [if_neg (by rw [hi]; decide)]
    have hm2 : manyI n = -1 := by unfold manyI; rw [if_neg (by rw [hi]; decide)]
    have C1 := fun w => implStampMany n w
    have C2 := fun w => specStampMany n w
    rw [hm1] at C1
    rw [hm2] at C2
    have HC1 := Lib.hid C1
    have HC2 := Lib.hid C2
    clear C1 C2 hm1 hm2 hi hn
    go_wp2_with fail
    refine (HC1.out _).mono ?_
    rintro e w2 ⟨rfl, hb2⟩
    have HB2 := Lib.hid (below_step HB1.out hb2)
    clear hb2
    go_wp2_with fail
    refine (HC2.out _).mono ?_
    rintro e w3 ⟨rfl, hb3⟩
    have HB3 := Lib.hid (below_step HB2.out hb3)
    clear hb3
    go_wp2_with fail
    go_ret
    exact ⟨rfl, HB3.out⟩
  | true =>
    obtain ⟨m, rfl, h1, h7⟩ := inI_nat hi
    have h6 : m ≤ 6 := by
      unfold NumOk at hn
      omega
    have hm1 : implMany m = ((stacksL m).length : Int) := by unfold implMany; rw [if_pos hi]; rfl
    have hm2 : manyI m = ((stacksL m).length : Int) := by unfold manyI; rw [if_pos hi, manys h1 h6]; rfl
    have C1 := fun w => implStampMany m w
    have C2 := fun w => specStampMany m w
    rw [hm1] at C1
    rw [hm2] at C2
    have hK := stacksL_many h7
    have HSUM := Lib.hid (fun h5 => sums h1 h5)
    have hpos : 0 < (stacksL m).length := by
      by_cases h5 : m ≤ 5
      · have e : m = 1 ∨ m = 2 ∨ m = 3 ∨ m = 4 ∨ m = 5 := by omega
        rcases e with rfl | rfl | rfl | rfl | rfl <;> decide +kernel
      · obtain rfl : m = 6 := by omega
        exact many6.2
    obtain ⟨K, hKe⟩ : ∃ K, K = (stacksL m).length := ⟨_, rfl⟩
    rw [← hKe] at C1 C2 hK HSUM hpos
    have HC1 := Lib.hid C1
    have HC2 := Lib.hid C2
    have hk0 : (0 : Int) < (K : Int) := by omega
    have hk1 : ¬ (K : Int) < 0 := by omega
    clear C1 C2 hm1 hm2 hi hn hKe
    go_wp2_with fail
    refine (HC1.out _).mono ?_
    rintro e w2 ⟨rfl, hb2⟩
    have HB2 := Lib.hid (below_step HB1.out hb2)
    clear hb2
    go_wp2_with fail
    refine (HC2.out _).mono ?_
    rintro e w3 ⟨rfl, hb3⟩
    have HB3 := Lib.hid (below_step HB2.out hb3)
    have teq : ((K : Int) == (K : Int)) = true := beq_self_eq_true _
    have tne : ((K : Int) != (K : Int)) = false := by simp
    clear hb3
    by_cases h5 : 5 < m
    · have h5' : (5 : Int) < (m : Int) := by omega
      go_wp2_with fail
      go_ret
      exact ⟨rfl, HB3.out⟩
    · have h5' : ¬ (5 : Int) < (m : Int) := by omega
      obtain ⟨d, hd⟩ : ∃ d : Nat, d + 1 = m := ⟨m - 1, by omega⟩
      have ed : (m : Int) - 1 = (d : Int) := by omega
      have hd2 : d = m - 1 := by omega
      have HS2 : Hid (sumTo m (2 ^ d) = K) := by show _ = _; rw [hd2]; exact HSUM.out (by omega)
      have HSO := Lib.hid (fun r => strip_ones h1 h6 r)
      have HST := Lib.hid (fun k => sumTo_step m k)
      have HSB := Lib.hid (fun k => sumTo_bd m h7 k)
      rw [← hd2] at HSO HST
      have hP : 2 ^ d ≤ 16 := Nat.le_trans (Nat.pow_le_pow_right (by omega) (show d ≤ 4 by omega)) (by decide)
      obtain ⟨P, hPe⟩ : ∃ P, P = 2 ^ d := ⟨_, rfl⟩
      have HPE := Lib.hid hPe
      rw [← hPe] at HS2 hP
      clear HSUM hd hPe hd2
      go_wp2_with fail
      go_loopw [6, 7] (fun o i wr => ∃ k s : Nat, k ≤ P ∧ i = .int .i64 k ∧ o = .int .i64 s ∧ Hid (s = sumTo m k) ∧ Hid (Below w3.heap.size w3 wr)) (fun _ i _ => P - (intOf i).toNat)
      case atStart => exact ⟨0, 0, Nat.zero_le _, rfl, rfl, Lib.hid rfl, Lib.hid (Below.refl _ _)⟩
      case round =>
        obtain ⟨k, s, hk, rfl, rfl, HS, HBR⟩ := hrel
        go_wp2_with fail
        refine (power d _ (by omega)).mono ?_
        rintro e w4 ⟨rfl, rfl⟩
        rw [← HPE.out]
        have hsb : s ≤ 16 * 823543 := by
          rw [HS.out]
          exact Nat.le_trans (HSB.out k) (Nat.mul_le_mul_right _ (by omega))
        by_cases hlt : k < P
        · have hlt' : (k : Int) < (P : Int) := by omega
          go_wp2_with fail
          refine (ones m _ (by omega)).mono ?_
          rintro e w4 ⟨go, no, co, hno, rfl, hgo, hro, hb4⟩
          obtain rfl : no = m := by rw [← hno]; exact List.length_replicate
          have HB4 := Lib.hid hb4
          have HO4 := Lib.hid hro
          clear hno hro hb4
          go_wp2_with fail
          refine (foldsOf d k _ (by omega) (by omega)).mono ?_
          rintro e w5 ⟨⟨t, rfl, ht⟩, rfl⟩
          have HT := Lib.hid ht
          have hts : t.size ≤ 1048576 := by rw [← bl_length, ht, foL_length]; simp; omega
          clear ht
          go_wp2_with fail
          refine (implStripMany go no co (List.replicate no 1) t _ List.length_replicate (by rw [HT.out]; exact HSO.out k) HO4.out hts).mono ?_
          rintro e w6 ⟨rfl, hb6⟩
          have HB6 := Lib.hid (HBR.out.trans ((below_step HB4.out hb6).mono HBR.out.size))
          obtain ⟨x, hx⟩ : ∃ x, x = stripMany (List.replicate no 1) (bl t) := ⟨_, rfl⟩
          have hxb : x ≤ 823543 := by rw [hx]; exact stripMany_bd no h7 _
          have HS3 : Hid (s + x = sumTo no (k + 1)) := by show _ = _; rw [HST.out, HS.out, hx, HT.out]
          rw [← hx]
          have f1 : (s : Int) + (x : Int) = ((s + x : Nat) : Int) := by omega
          obtain ⟨y, hy⟩ : ∃ y, y = s + x := ⟨_, rfl⟩
          rw [← hy] at HS3 f1
          have hyb : y ≤ 17 * 823543 := by omega
          clear hx hy hb6 hsb
          go_wp2_with fail
          go_roundw
          case rel => exact ⟨k + 1, y, by omega, by go_num, by go_num, HS3, HB6⟩
          case measure => simp [intOf]; omega
        · obtain rfl : k = P := by omega
          obtain rfl : s = K := by rw [HS.out, HS2.out]
          go_wp2_with fail
          go_ret
          exact ⟨rfl, below_step HB3.out HBR.out⟩
end Go.Proofs.Ytafeepmikfffcaa
