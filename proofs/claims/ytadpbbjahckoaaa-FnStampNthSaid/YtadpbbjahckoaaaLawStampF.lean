/- The law FnStampNth, walked: it returns true. Conditions: each theorem's own premises. -/
import Derived.Test.YtadpbbjahckoaaaPlainY
import Derived.Test.YtadpbbjahckoaaaDrawM
import Derived.BigQuiet
namespace Go.Proofs.Ytadpbbjahckoaaa
set_option maxRecDepth 100000
open Go.RowKit
theorem RowI.next {w w' : World} {g : Nat} {xs : List Int} (h : RowI w g xs) (hb : Below w.heap.size w w') : RowI w' g xs := h.below hb h.1
theorem below_step {a b c : World} (h : Below a.heap.size a b) (k : Below b.heap.size b c) : Below a.heap.size a c := h.trans (k.mono h.size)
set_option maxRecDepth 100000 in
set_option maxHeartbeats 4000000 in
theorem fnStampNth_walk (w : World) (a0 : Option Addr) (len0 cap0 : Nat) (z0 : List Int) (w0 : IsRow .u8 w a0 len0 cap0 z0) :
    Calls Try.prog 4 #[.slice a0 len0 cap0] w fun e w' => e = .returned (.bool true) ∧ Below w.heap.size w w' := by
  have HW := Lib.hid w0
  clear w0
  by_cases hl : 1048576 < len0
  · go_enter Try.func4, Try.ntmps4
    go_wp2
    go_ret
    exact ⟨rfl, Below.refl _ _⟩
  go_enter Try.func4, Try.ntmps4
  go_wp2_with fail
  refine (drawStampNth _ _ _ _ _ HW.out HW.out.le).mono ?_
  rintro e w1 ⟨n, r, rfl, _, hr1, hr2, hb1⟩
  have HB1 := Lib.hid hb1
  have C1 := fun w => implStampNth n r w
  have C2 := fun w => specStampNth n r w
  clear hb1
  cases hq : nthI n r with
  | none =>
    rw [hq] at C1 C2
    have HC1 : Hid (∀ w, Calls Try.prog 9 #[.int .i64 n, .int .i64 r] w (OverBack w false [])) := Lib.hid C1
    have HC2 : Hid (∀ w, Calls Try.prog 8 #[.int .i64 n, .int .i64 r] w (OverBack w false [])) := Lib.hid C2
    clear C1 C2 hq
    go_wp2_with fail
    refine (HC1.out _).mono ?_
    rintro e w2 ⟨hb2, g2, n2, c2, hn2, rfl, hg2, hr2⟩
    obtain rfl : n2 = 0 := by rw [← hn2]; rfl
    have HB2 := Lib.hid (below_step HB1.out hb2)
    clear hb2 hn2 hr2
    go_wp2_with fail
    refine (HC2.out _).mono ?_
    rintro e w3 ⟨hb3, g3, n3, c3, hn3, rfl, hg3, hr3⟩
    obtain rfl : n3 = 0 := by rw [← hn3]; rfl
    have HB3 := Lib.hid (below_step HB2.out hb3)
    clear hb3 hn3 hr3
    have HQ := Lib.hid (fun w => sameInts_nil (some ⟨g2, 0, none⟩) (some ⟨g3, 0, none⟩) c2 c3 w)
    go_wp2_with fail
    refine (HQ.out _).mono ?_
    rintro e w4 ⟨rfl, rfl⟩
    go_wp2_with fail
    refine (HQ.out _).mono ?_
    rintro e w5 ⟨rfl, rfl⟩
    go_wp2_with fail
    go_ret
    exact ⟨rfl, HB3.out⟩
  | some s =>
    obtain ⟨m, k, rfl, rfl, h1, h7, hs⟩ := nth_some hq
    rw [hq] at C1 C2
    obtain ⟨hsl, hsp⟩ := stacks_mem (List.mem_of_getElem? hs)
    have HC1 : Hid (∀ w, Calls Try.prog 9 #[.int .i64 m, .int .i64 k] w (OverBack w true s)) := Lib.hid C1
    have HC2 : Hid (∀ w, Calls Try.prog 8 #[.int .i64 m, .int .i64 k] w (OverBack w true s)) := Lib.hid C2
    have HN : Hid (s.length = m) := Lib.hid hsl
    have HCR : Hid (∀ w g c, RowI w g s → Calls Try.prog 15 #[.slice (some ⟨g, 0, none⟩) m c] w fun e w' => e = .returned (.int .i64 (k : Int)) ∧ Below w.heap.size w w') := by
      show ∀ _ _ _ _, _
      intro w g c hr
      have := implStampRank g m c s w hsl (by omega) hr
      rw [rank_at hs] at this
      exact this
    have HCP : Hid (∀ w g c, RowI w g s → Calls Try.prog 16 #[.slice (some ⟨g, 0, none⟩) m c] w fun e w' => e = .returned (.bool true) ∧ Below w.heap.size w w') := by
      show ∀ _ _ _ _, _
      intro w g c hr
      have := implStampPossible g m c s w hsl (by omega) hr
      rw [hsp] at this
      exact this
    have HCM : Hid (∀ w, Calls Try.prog 17 #[.int .i64 m] w fun e w' => e = .returned (.int .i64 ((stacksS m).length : Int)) ∧ Below w.heap.size w w') := by
      show ∀ _, _
      intro w
      have := implStampMany m w
      rw [many_at h1 h7] at this
      exact this
    have C3 := fun w => implStampNth m ((k : Int) + 1) w
    rw [show ((k : Int) + 1) = ((k + 1 : Nat) : Int) by omega, nth_at h1 h7] at C3
    have HS := Lib.hid hs
    clear C1 C2 hq hsl hsp hs
    go_wp2_with fail
    refine (HC1.out _).mono ?_
    rintro e w2 ⟨hb2, g2, n2, c2, hn2, rfl, hg2, hrw2⟩
    obtain rfl : n2 = m := by rw [← hn2]; exact HN.out
    have HB2 := Lib.hid (below_step HB1.out hb2)
    have HX2 := Lib.hid hrw2
    clear hb2 hn2 hrw2
    go_wp2_with fail
    refine (HC2.out _).mono ?_
    rintro e w3 ⟨hb3, g3, n3, c3, hn3, rfl, hg3, hrw3⟩
    obtain rfl : n3 = n2 := by rw [← hn3]; exact HN.out
    have HB3 := Lib.hid (below_step HB2.out hb3)
    have HX3 := Lib.hid (HX2.out.next hb3)
    have HY3 := Lib.hid hrw3
    clear hb3 hn3 hrw3
    go_wp2_with fail
    refine (sameInts g2 g3 _ c2 c3 s _ HN.out (by omega) HX3.out HY3.out).mono ?_
    rintro e w4 ⟨rfl, hb4⟩
    have HB4 := Lib.hid (below_step HB3.out hb4)
    have HX4 := Lib.hid (HX3.out.next hb4)
    clear hb4
    have ek : ((k : Int) + 1) = ((k + 1 : Nat) : Int) := by omega
    cases hq : (stacksS n3)[k + 1]? with
    | none =>
      have hK := next_none HS.out hq
      rw [hq, ← ek] at C3
      have HC3 : Hid (∀ w, Calls Try.prog 9 #[.int .i64 n3, .int .i64 ((k : Int) + 1)] w (OverBack w false [])) := Lib.hid C3
      rw [hK, ← ek] at HCM
      have kk : ((k : Int) == (k : Int) + 1 - 1) = true := by rw [beq_iff_eq]; omega
      have kk2 : ((k : Int) == (k : Int)) = true := by simp
      clear C3 hq hK ek
      go_wp2_with fail
      refine (HC3.out _).mono ?_
      rintro e w5 ⟨hb5, g5, n5, c5, hn5, rfl, hg5, hr5⟩
      have HB5 := Lib.hid (below_step HB4.out hb5)
      have HX5 := Lib.hid (HX4.out.next hb5)
      clear hb5 hn5 hr5
      go_wp2_with fail
      go_loopw [11] (fun i wr => i = .int .i64 0 ∧ w5 = wr) (fun _ _ => 0)
      case atStart => exact ⟨rfl, rfl⟩
      case round =>
        obtain ⟨rfl, hw⟩ := hrel
        subst hw
        have z1 : (0 : Int) < (n3 : Int) := by omega
        go_wp2_with fail
        refine (HCR.out _ g2 c2 HX5.out).mono ?_
        rintro e w6 ⟨rfl, hb6⟩
        have HB6 := Lib.hid (below_step HB5.out hb6)
        have HX6 := Lib.hid (HX5.out.next hb6)
        clear hb6
        go_wp2_with fail
        refine (HCP.out _ g2 c2 HX6.out).mono ?_
        rintro e w7 ⟨rfl, hb7⟩
        have HB7 := Lib.hid (below_step HB6.out hb7)
        clear hb7
        go_wp2_with fail
        refine (HCM.out _).mono ?_
        rintro e w8 ⟨rfl, hb8⟩
        have HB8 := Lib.hid (below_step HB7.out hb8)
        clear hb8
        go_wp2_with fail
        go_ret
        exact ⟨rfl, HB8.out⟩
    | some t =>
      have HLT := Lib.hid (next_at HS.out hq)
      have HNT : Hid (t.length = n3) := Lib.hid (stacks_mem (List.mem_of_getElem? hq)).1
      rw [hq, ← ek] at C3
      have HC3 : Hid (∀ w, Calls Try.prog 9 #[.int .i64 n3, .int .i64 ((k : Int) + 1)] w (OverBack w true t)) := Lib.hid C3
      have kk2 : ((k : Int) == (k : Int)) = true := by simp
      clear C3 hq ek
      go_wp2_with fail
      refine (HC3.out _).mono ?_
      rintro e w5 ⟨hb5, g5, n5, c5, hn5, rfl, hg5, hr5⟩
      obtain rfl : n5 = n3 := by rw [← hn5]; exact HNT.out
      have HB5 := Lib.hid (below_step HB4.out hb5)
      have HX5 := Lib.hid (HX4.out.next hb5)
      have HY5 := Lib.hid hr5
      clear hb5 hn5 hr5
      go_wp2_with fail
      go_loopw [11] (fun i wr => ∃ j : Nat, j ≤ n5 ∧ i = .int .i64 j ∧ Hid (cmpL s t = cmpL (s.drop j) (t.drop j)) ∧ Hid (Below w5.heap.size w5 wr)) (fun i _ => n5 - (intOf i).toNat)
      case atStart => exact ⟨0, Nat.zero_le _, rfl, Lib.hid rfl, Lib.hid (Below.refl _ _)⟩
      case round =>
        obtain ⟨j, hj, rfl, HE, HBR⟩ := hrel
        have hlt : j < n5 := by
          by_cases h : j < n5
          · exact h
          · exfalso
            have h1 := HLT.out
            rw [HE.out, List.drop_of_length_le (by rw [HN.out]; omega), List.drop_of_length_le (by rw [HNT.out]; omega)] at h1
            exact absurd h1 (by decide)
        obtain ⟨x, hx⟩ : ∃ x, t[j]? = some x := ⟨_, List.getElem?_eq_getElem (by rw [HNT.out]; exact hlt)⟩
        obtain ⟨o, ho⟩ : ∃ o, s[j]? = some o := ⟨_, List.getElem?_eq_getElem (by rw [HN.out]; exact hlt)⟩
        have hd1 : t.drop j = x :: t.drop (j + 1) := by
          obtain ⟨e1, e2⟩ := List.getElem?_eq_some_iff.1 hx
          rw [List.drop_eq_getElem_cons e1, e2]
        have hd2 : s.drop j = o :: s.drop (j + 1) := by
          obtain ⟨e1, e2⟩ := List.getElem?_eq_some_iff.1 ho
          rw [List.drop_eq_getElem_cons e1, e2]
        have HXr := Lib.hid (HX5.out.below HBR.out HX5.out.1)
        have HYr := Lib.hid (HY5.out.below HBR.out HY5.out.1)
        have cx := HYr.out.2 j x hx
        have co := HXr.out.2 j o ho
        have j0 : (0 : Int) ≤ (j : Int) := by omega
        have j1 : (j : Int) < (n5 : Int) := by omega
        have HE2 : Hid (cmpL s t = if o < x then -1 else if x < o then 1 else cmpL (s.drop (j + 1)) (t.drop (j + 1))) := by
          show _ = _
          rw [HE.out, hd1, hd2]
          rfl
        clear hx ho hd1 hd2
        by_cases hxo : x = o
        · subst hxo
          have tp : (x != x) = false := by simp
          have HE3 : Hid (cmpL s t = cmpL (s.drop (j + 1)) (t.drop (j + 1))) := by show _ = _; rw [HE2.out, if_neg (by omega), if_neg (by omega)]
          go_wp2
          go_quiet (fail)
          go_wp2
          go_roundw
          case rel => exact ⟨j + 1, by omega, by go_num, HE3, Lib.hid (below_drewN HBR.out _)⟩
          case measure => simp [intOf]; omega
        · have tp : (x != o) = true := by simp [hxo]
          have hgt : o < x := by
            have := HLT.out
            rw [HE2.out] at this
            by_cases h : o < x
            · exact h
            · rw [if_neg h, if_pos (by omega)] at this
              exact absurd this (by decide)
          clear hxo
          go_wp2
          go_quiet (fail)
          go_wp2
          have HZ := Lib.hid (below_step HB5.out HBR.out)
          go_region_with (first | (go_at_call 15; (refine (HCR.out _ g2 c2 ?_).mono ?_; exact HXr.out.keep rfl; rintro e w6 ⟨rfl, hb6⟩; have hx6 : RowI w6 g2 s := (HXr.out.keep (w' := wr.drewN (nq + 1)) rfl).next hb6; have hz6 : Below wr.heap.size wr w6 := ⟨hb6.os, hb6.tape, hb6.output, hb6.size, hb6.block⟩)) | (go_at_call 16; refine (HCP.out _ g2 c2 ?_).mono ?_; exact hx6.keep rfl; rintro e w7 ⟨rfl, hb7⟩; have hz7 : Below w6.heap.size w6 w7 := ⟨hb7.os, hb7.tape, hb7.output, hb7.size, hb7.block⟩))
          all_goals (first | go_wp2_with fail | skip)
          all_goals go_ret
          all_goals exact ⟨rfl, below_step (below_step HZ.out hz6) hz7⟩
end Go.Proofs.Ytadpbbjahckoaaa
