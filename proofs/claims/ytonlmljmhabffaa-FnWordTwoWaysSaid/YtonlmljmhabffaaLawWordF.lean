/- The laws FnWordOther and FnWordText, walked: each returns true. Conditions: the code is a slice of bytes of the model. -/
import Derived.Test.YtonlmljmhabffaaPlainW
import Derived.Test.YtonlmljmhabffaaDrawW
namespace Go.Proofs.Ytonlmljmhabffaa
open Go.RowKit
/-- A text of at most bd bytes has been drawn out of a code. -/
def DrawnTop (bd : Nat) (w : World) (e : Ending) (w' : World) : Prop := ∃ s : ByteArray, e = .returned (.string s) ∧ s.size ≤ bd ∧ Below w.heap.size w w'
theorem drawWordOther (a : Option Addr) (len cap : Nat) (z : List Int) (w : World) (hr : IsRow .u8 w a len cap z) (hc : len ≤ cap) : Calls Try.prog 15 #[.slice a len cap] w (DrawnTop 70 w) := by
  have HR := Lib.hid hr
  clear hr
  go_enter Try.func15, Try.ntmps15
  go_wp2_with fail
  refine (l6Open _ _ _ _ _ HR.out hc).mono ?_
  rintro e w1 ⟨g, A, len', cap', rfl, hg, hrd, hb⟩
  go_wp2_with fail
  refine (l92Word g A len' cap' 0 _ hrd (by omega)).mono ?_
  rintro e w2 ⟨s, p', rfl, hs, _, _, hg2⟩
  go_wp2_with fail
  go_ret
  exact ⟨s, rfl, hs, below_grown_at hb hg2 hb.size hg⟩
theorem drawWordText (a : Option Addr) (len cap : Nat) (z : List Int) (w : World) (hr : IsRow .u8 w a len cap z) (hc : len ≤ cap) : Calls Try.prog 19 #[.slice a len cap] w (DrawnTop 70 w) := by
  have HR := Lib.hid hr
  clear hr
  go_enter Try.func19, Try.ntmps19
  go_wp2_with fail
  refine (l6Open _ _ _ _ _ HR.out hc).mono ?_
  rintro e w1 ⟨g, A, len', cap', rfl, hg, hrd, hb⟩
  go_wp2_with fail
  refine (l92Word g A len' cap' 0 _ hrd (by omega)).mono ?_
  rintro e w2 ⟨s, p', rfl, hs, _, _, hg2⟩
  go_wp2_with fail
  go_ret
  exact ⟨s, rfl, hs, below_grown_at hb hg2 hb.size hg⟩
theorem drawWordValid (a : Option Addr) (len cap : Nat) (z : List Int) (w : World) (hr : IsRow .u8 w a len cap z) (hc : len ≤ cap) : Calls Try.prog 21 #[.slice a len cap] w (DrawnTop 70 w) := by
  have HR := Lib.hid hr
  clear hr
  go_enter Try.func21, Try.ntmps21
  go_wp2_with fail
  refine (l6Open _ _ _ _ _ HR.out hc).mono ?_
  rintro e w1 ⟨g, A, len', cap', rfl, hg, hrd, hb⟩
  go_wp2_with fail
  refine (l92Word g A len' cap' 0 _ hrd (by omega)).mono ?_
  rintro e w2 ⟨s, p', rfl, hs, _, _, hg2⟩
  go_wp2_with fail
  go_ret
  exact ⟨s, rfl, hs, below_grown_at hb hg2 hb.size hg⟩
theorem bal_step (s : ByteArray) (k : Nat) (h : k < s.size) : bal ((bl s).take (k + 1)) = bal ((bl s).take k) + (if s[k] = 77 then 1 else if s[k] = 86 then -1 else 0) := by
  rw [bl_take s k h]
  unfold bal
  rw [List.countP_append, List.countP_append, List.countP_singleton, List.countP_singleton]
  by_cases h1 : s[k] = 77
  · rw [h1]; simp; omega
  · by_cases h2 : s[k] = 86
    · rw [h2]; simp; omega
    · simp [h1, h2]
theorem bal_bd (l : List UInt8) : -(l.length : Int) ≤ bal l ∧ bal l ≤ l.length := by
  unfold bal
  have h1 := List.countP_le_length (p := fun c : UInt8 => c == 77) (l := l)
  have h2 := List.countP_le_length (p := fun c : UInt8 => c == 86) (l := l)
  omega
set_option maxHeartbeats 400000 in
theorem foldsBalance (s : ByteArray) (w : World) (hs : s.size ≤ 1048576) :
    Calls Try.prog 18 #[.string s] w fun e w' => e = .returned (.int .i64 (bal (bl s))) ∧ w = w' := by
  go_enter Try.func18, Try.ntmps18
  go_wp2
  go_loop [3, 4] (fun o i => ∃ k : Nat, ∃ x : Int, k ≤ s.size ∧ i = .int .i64 k ∧ o = .int .i64 x ∧ -(k : Int) ≤ x ∧ x ≤ k ∧ Hid (x = bal ((bl s).take k))) (fun _ i => s.size - (intOf i).toNat)
  case atStart => exact ⟨0, 0, Nat.zero_le _, rfl, rfl, by omega, by omega, Lib.hid rfl⟩
  case round =>
    obtain ⟨k, x, hk, rfl, rfl, hx1, hx2, HX⟩ := hrel
    by_cases hlt : k < s.size
    · have HS := Lib.hid (bal_step s k hlt)
      cases h1 : ((s[k].toNat : Int) == 77) with
      | true =>
        have e1 : s[k] = 77 := byte_eq (n := 77) h1
        have HN : Hid (x + 1 = bal ((bl s).take (k + 1))) := by show _ = _; rw [HS.out, if_pos e1, HX.out]
        clear e1
        go_wp2
        go_round
        case rel => exact ⟨k + 1, x + 1, by omega, by go_num, rfl, by omega, by omega, HN⟩
        case measure => simp [intOf]; omega
      | false =>
        have e1 : s[k] ≠ 77 := by intro h; rw [h] at h1; exact absurd h1 (by decide)
        cases h2 : ((s[k].toNat : Int) == 86) with
        | true =>
          have e2 : s[k] = 86 := byte_eq (n := 86) h2
          have HN : Hid (x - 1 = bal ((bl s).take (k + 1))) := by show _ = _; rw [HS.out, if_neg e1, if_pos e2, HX.out]; omega
          clear e1 e2
          go_wp2
          go_round
          case rel => exact ⟨k + 1, x - 1, by omega, by go_num, rfl, by omega, by omega, HN⟩
          case measure => simp [intOf]; omega
        | false =>
          have e2 : s[k] ≠ 86 := by intro h; rw [h] at h2; exact absurd h2 (by decide)
          have HN : Hid (x = bal ((bl s).take (k + 1))) := by show _ = _; rw [HS.out, if_neg e1, if_neg e2, HX.out]; omega
          clear e1 e2
          go_wp2
          go_round
          case rel => exact ⟨k + 1, x, by omega, by go_num, rfl, by omega, by omega, HN⟩
          case measure => simp [intOf]; omega
    · have HE : Hid (x = bal (bl s)) := by
        obtain rfl : k = s.size := by omega
        have := HX.out
        rw [bl_full] at this
        exact this
      clear HX
      go_wp2
      go_ret
      exact ⟨ret_int HE.out, rfl⟩
set_option maxHeartbeats 4000000 in
theorem fnWordOther_walk (w : World) (a0 : Option Addr) (len0 cap0 : Nat) (z0 : List Int) (w0 : IsRow .u8 w a0 len0 cap0 z0) :
    Calls Try.prog 6 #[.slice a0 len0 cap0] w fun e w' => e = .returned (.bool true) ∧ Below w.heap.size w w' := by
  have HW := Lib.hid w0
  clear w0
  by_cases hl : 1048576 < len0
  · go_enter Try.func6, Try.ntmps6
    go_wp2
    go_ret
    exact ⟨rfl, Below.refl _ _⟩
  · go_enter Try.func6, Try.ntmps6
    go_wp2_with fail
    refine (drawWordOther _ _ _ _ _ HW.out HW.out.le).mono ?_
    rintro e w1 ⟨s, rfl, hs, hb1⟩
    have hz1 := hb1.size
    cases hok : creas (bl s) with
    | false =>
      have HOK := Lib.hid hok
      clear hok
      go_wp2_with fail
      refine (implWordOther s _ (by omega)).mono ?_
      rintro e w2 ⟨rfl, hb2⟩
      have hz2 := hb2.size
      rw [HOK.out]
      go_wp2_with fail
      refine (specWordOther s _ (by omega)).mono ?_
      rintro e w3 ⟨rfl, hb3⟩
      have hz3 := hb3.size
      rw [HOK.out]
      go_wp2_with fail
      go_ret
      exact ⟨rfl, hb1.trans ((hb2.trans (hb3.mono hz2)).mono hz1)⟩
    | true =>
      obtain ⟨O, hO⟩ : ∃ O, O = mkS (wordOtherL (bl s)) := ⟨_, rfl⟩
      have hO2 : bl O = otherL (bl s) := by rw [hO, bl_mkS]; unfold wordOtherL; rw [hok]; rfl
      have HO := Lib.hid hO
      have HC : Hid (creas (bl O) = true) := by show _ = _; rw [hO2, creas_otherL, hok]
      have HX : Hid (mkS (wordOtherL (bl O)) = s) := by
        show _ = _
        unfold wordOtherL
        rw [HC.out, hO2, otherL_otherL]
        exact mkS_bl s
      have HB : Hid (bal (bl O) = 0 - bal (bl s)) := by show _ = _; rw [hO2, bal_otherL]
      have HV : Hid (wordOk (bl O) = wordOk (bl s)) := by show _ = _; rw [hO2, wordOk_otherL]
      have hOs : O.size ≤ 70 := by rw [← bl_length, hO2, otherL_length, bl_length]; exact hs
      obtain ⟨B, hB⟩ : ∃ B, B = bal (bl s) := ⟨_, rfl⟩
      have hB1 : -70 ≤ B ∧ B ≤ 70 := by
        have := bal_bd (bl s)
        rw [bl_length] at this
        omega
      obtain ⟨hB2, hB3⟩ := hB1
      have HBB := Lib.hid hB
      have HOK := Lib.hid hok
      clear hok hO hO2 hB
      go_wp2_with fail
      refine (implWordOther s _ (by omega)).mono ?_
      rintro e w2 ⟨rfl, hb2⟩
      have hz2 := hb2.size
      rw [HOK.out, ← HO.out]
      go_wp2_with fail
      refine (specWordOther s _ (by omega)).mono ?_
      rintro e w3 ⟨rfl, hb3⟩
      have hz3 := hb3.size
      rw [HOK.out, ← HO.out]
      go_wp2_with fail
      refine (implWordOther O _ (by omega)).mono ?_
      rintro e w4 ⟨rfl, hb4⟩
      have hz4 := hb4.size
      rw [HC.out, HX.out]
      go_wp2_with fail
      refine (foldsBalance O _ (by omega)).mono ?_
      rintro e w5 ⟨rfl, rfl⟩
      rw [HB.out, ← HBB.out]
      go_wp2_with fail
      refine (foldsBalance s _ (by omega)).mono ?_
      rintro e w5 ⟨rfl, rfl⟩
      rw [← HBB.out]
      go_wp2_with fail
      refine (implWordValid O _ (by omega)).mono ?_
      rintro e w5 ⟨rfl, hb5⟩
      have hz5 := hb5.size
      rw [HV.out]
      go_wp2_with fail
      refine (implWordValid s _ (by omega)).mono ?_
      rintro e w6 ⟨rfl, hb6⟩
      go_wp2_with fail
      go_ret
      exact ⟨rfl, hb1.trans ((hb2.trans ((hb3.trans ((hb4.trans ((hb5.trans (hb6.mono hz5)).mono hz4)).mono hz3)).mono hz2)).mono hz1)⟩
end Go.Proofs.Ytonlmljmhabffaa
