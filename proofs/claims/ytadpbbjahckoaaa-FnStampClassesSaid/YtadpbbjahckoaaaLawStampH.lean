/- The law FnStampClasses, walked: it returns true. Conditions: each theorem's own premises. -/
import Derived.Test.YtadpbbjahckoaaaClassC
import Derived.Test.YtadpbbjahckoaaaDrawN
namespace Go.Proofs.Ytadpbbjahckoaaa
set_option maxRecDepth 100000
open Go.RowKit
theorem RowI.next {w w' : World} {g : Nat} {xs : List Int} (h : RowI w g xs) (hb : Below w.heap.size w w') : RowI w' g xs := h.below hb h.1
theorem below_step {a b c : World} (h : Below a.heap.size a b) (k : Below b.heap.size b c) : Below a.heap.size a c := h.trans (k.mono h.size)
/-- What the law's sum is told of a stack at its place. -/
theorem okC_rank {n k : Nat} {s : List Int} (hs : (stacksS n)[k]? = some s) : okC s = (decide ((k : Int) ≤ rankI s.reverse) && decide ((k : Int) ≤ rankI (backL s)) && decide ((k : Int) ≤ rankI (backL s).reverse)) := by
  have hf := class_facts (List.mem_of_getElem? hs)
  unfold okC
  rw [rank_ge hs hf.rposs hf.rlen, rank_ge hs hf.bposs hf.blen, rank_ge hs hf.brposs hf.brlen]
set_option maxRecDepth 100000 in
set_option maxHeartbeats 8000000 in
theorem fnStampClasses_walk (w : World) (a0 : Option Addr) (len0 cap0 : Nat) (z0 : List Int) (w0 : IsRow .u8 w a0 len0 cap0 z0) :
    Calls Try.prog 6 #[.slice a0 len0 cap0] w fun e w' => e = .returned (.bool true) ∧ Below w.heap.size w w' := by
  have HW := Lib.hid w0
  clear w0
  by_cases hl : 1048576 < len0
  · go_enter Try.func6, Try.ntmps6
    go_wp2
    go_ret
    exact ⟨rfl, Below.refl _ _⟩
  go_enter Try.func6, Try.ntmps6
  go_wp2_with fail
  refine (drawStampClasses _ _ _ _ _ HW.out HW.out.le).mono ?_
  rintro e w1 ⟨n, rfl, hok, hb1⟩
  have HB1 := Lib.hid hb1
  clear hb1
  have C1 := fun w => implStampClasses n w
  have C2 := fun w => specStampClasses n w
  cases hi : inI n with
  | false =>
    have hc : classI n = -1 := by unfold classI; rw [if_neg (by rw [hi]; decide)]
    rw [hc] at C1 C2
    have HC1 := Lib.hid C1
    have HC2 := Lib.hid C2
    clear C1 C2 hc hi hok
    go_wp2_with fail
    refine (HC1.out _).mono ?_
    rintro e w2 ⟨rfl, hb2⟩
    have HB2 := Lib.hid (below_step HB1.out hb2)
    clear hb2
    go_wp2_with fail
    refine (HC2.out _).mono ?_
    rintro e w3 ⟨rfl, hb3⟩
    have HB3 := Lib.hid (below_step HB2.out hb3)
    clear hb3
    go_wp2_with fail
    go_ret
    exact ⟨rfl, HB3.out⟩
  | true =>
    obtain ⟨n, rfl, h1, h7⟩ := inI_nat hi
    have h6 : n ≤ 6 := by
      unfold NumOk at hok
      omega
    have hc : classI n = (manyC (stacksS n) : Int) := by unfold classI; rw [if_pos hi]; rfl
    rw [hc] at C1 C2
    have C3 := fun w => implStampMany n w
    rw [many_at h1 h7] at C3
    have hq := quarters h1 h6
    have hle := manyC_le (stacksS n)
    have hKb := stacks_len n h7
    obtain ⟨K, hK⟩ : ∃ K, K = (stacksS n).length := ⟨_, rfl⟩
    obtain ⟨C, hC⟩ : ∃ C, C = manyC (stacksS n) := ⟨_, rfl⟩
    rw [← hC] at C1 C2 hq hle
    rw [← hK] at C3 hq hle hKb
    have HCE : Hid (manyC ((stacksS n).take K) = C) := by show _ = _; rw [hK, List.take_length, hC]
    have HKE : Hid ((stacksS n).length = K) := Lib.hid hK.symm
    have HC1 := Lib.hid C1
    have HC2 := Lib.hid C2
    have HC3 := Lib.hid C3
    have tcc : ((C : Int) == (C : Int)) = true := by simp
    have tcn : ((C : Int) != (C : Int)) = false := by simp
    have tc0 : ¬ (C : Int) < 0 := by omega
    have tq : (K : Int) ≤ 4 * (C : Int) := by omega
    have tl : (C : Int) ≤ (K : Int) := by omega
    have tw : IntKind.i64.wrap (4 * (C : Int)) = 4 * (C : Int) := by rw [IntKind.wrap_i64]; omega
    clear C1 C2 C3 hc hi hok hK hC
    go_wp2_with fail
    refine (HC1.out _).mono ?_
    rintro e w2 ⟨rfl, hb2⟩
    have HB2 := Lib.hid (below_step HB1.out hb2)
    clear hb2
    go_wp2_with fail
    refine (HC2.out _).mono ?_
    rintro e w3 ⟨rfl, hb3⟩
    have HB3 := Lib.hid (below_step HB2.out hb3)
    clear hb3
    go_wp2_with fail
    refine (HC3.out _).mono ?_
    rintro e w4 ⟨rfl, hb4⟩
    have HB4 := Lib.hid (below_step HB3.out hb4)
    clear hb4
    by_cases h5 : (5 : Int) < (n : Int)
    · go_wp2_with fail
      go_ret
      exact ⟨rfl, HB4.out⟩
    · have HNTH : Hid (∀ (k : Nat) (s : List Int), (stacksS n)[k]? = some s → ∀ w, Calls Try.prog 9 #[.int .i64 n, .int .i64 k] w (OverBack w true s)) := by
        show ∀ _ _ _ _, _
        intro k s h w
        have := implStampNth n k w
        rw [nth_at h1 h7, h] at this
        exact this
      have HCF : Hid (∀ s, s ∈ stacksS n → ClassFacts n s) := Lib.hid fun s h => class_facts h
      go_wp2_with fail
      go_loopw [7, 8] (fun o i wr => ∃ k m : Nat, k ≤ K ∧ i = .int .i64 k ∧ o = .int .i64 m ∧ Hid (m = manyC ((stacksS n).take k)) ∧ Hid (Below w4.heap.size w4 wr)) (fun _ i _ => K - (intOf i).toNat)
      case atStart => exact ⟨0, 0, Nat.zero_le _, rfl, rfl, Lib.hid (by rw [List.take_zero]; rfl), Lib.hid (Below.refl _ _)⟩
      case round =>
        obtain ⟨k, m, hk, rfl, rfl, HM, HB⟩ := hrel
        have hmb : m ≤ 823543 := by
          have := manyC_le ((stacksS n).take k)
          rw [← HM.out, List.length_take] at this
          omega
        by_cases hlt : k < K
        · have hlt' : (k : Int) < (K : Int) := by omega
          obtain ⟨s, hs⟩ : ∃ s, (stacksS n)[k]? = some s := ⟨_, List.getElem?_eq_getElem (by rw [HKE.out]; exact hlt)⟩
          have hcf := HCF.out s (List.mem_of_getElem? hs)
          have HF := Lib.hid hcf
          have HQ0 := Lib.hid (HNTH.out k s hs)
          have hP1 := fun (g c : Nat) (W : World) (h : RowI W g s) => implStampOver g n c s W hcf.len (by omega) h
          have hP2 := fun (g c : Nat) (W : World) (h : RowI W g s) => implStampBack g n c s W hcf.len (by omega) h
          have hP3 := fun (g c : Nat) (W : World) (h : RowI W g (backL s)) => implStampOver g n c (backL s) W hcf.blen (by omega) h
          simp only [hcf.poss, hcf.bposs, if_true] at hP1 hP2 hP3
          have HQ1 := Lib.hid hP1
          have HQ2 := Lib.hid hP2
          have HQ3 := Lib.hid hP3
          have HK1 := Lib.hid (fun (g c : Nat) (W : World) (h : RowI W g s.reverse) => implStampRank g n c s.reverse W hcf.rlen (by omega) h)
          have HK2 := Lib.hid (fun (g c : Nat) (W : World) (h : RowI W g (backL s)) => implStampRank g n c (backL s) W hcf.blen (by omega) h)
          have HK3 := Lib.hid (fun (g c : Nat) (W : World) (h : RowI W g (backL s).reverse) => implStampRank g n c (backL s).reverse W hcf.brlen (by omega) h)
          have HST : Hid (manyC ((stacksS n).take (k + 1)) = m + if okC s = true then 1 else 0) := by
            show _ = _
            obtain ⟨h2, h3⟩ := List.getElem?_eq_some_iff.1 hs
            rw [List.take_succ_eq_append_getElem h2, h3, manyC_snoc, ← HM.out]
          have HOK := Lib.hid (okC_rank hs)
          clear hs hcf hP1 hP2 hP3
          go_wp2_with fail
          refine (HQ0.out _).mono ?_
          rintro e w5 ⟨hb5, g5, n5, c5, hn5, rfl, hg5, hr5⟩
          obtain rfl : n5 = n := by rw [← hn5]; exact HF.out.len
          have HB5 := Lib.hid (below_step HB.out hb5)
          have HX5 := Lib.hid hr5
          clear hb5 hn5 hr5
          go_wp2_with fail
          refine (HQ1.out g5 c5 _ HX5.out).mono ?_
          rintro e w6 ⟨hb6, g6, n6, c6, hn6, rfl, hg6, hr6⟩
          obtain rfl : n6 = n5 := by rw [← hn6]; exact HF.out.rlen
          have HB6 := Lib.hid (below_step HB5.out hb6)
          have HX6 := Lib.hid (HX5.out.next hb6)
          have HA6 := Lib.hid hr6
          clear hb6 hn6 hr6
          go_wp2_with fail
          refine (HQ2.out g5 c5 _ HX6.out).mono ?_
          rintro e w7 ⟨hb7, g7, n7, c7, hn7, rfl, hg7, hr7⟩
          obtain rfl : n7 = n6 := by rw [← hn7]; exact HF.out.blen
          have HB7 := Lib.hid (below_step HB6.out hb7)
          have HA7 := Lib.hid (HA6.out.next hb7)
          have HD7 := Lib.hid hr7
          clear hb7 hn7 hr7
          go_wp2_with fail
          refine (HQ3.out g7 c7 _ HD7.out).mono ?_
          rintro e w8 ⟨hb8, g8, n8, c8, hn8, rfl, hg8, hr8⟩
          obtain rfl : n8 = n7 := by rw [← hn8]; exact HF.out.brlen
          have HB8 := Lib.hid (below_step HB7.out hb8)
          have HA8 := Lib.hid (HA7.out.next hb8)
          have HD8 := Lib.hid (HD7.out.next hb8)
          have HE8 := Lib.hid hr8
          clear hb8 hn8 hr8
          go_wp2_with fail
          refine (HK1.out g6 c6 _ HA8.out).mono ?_
          rintro e w9 ⟨rfl, hb9⟩
          have HB9 := Lib.hid (below_step HB8.out hb9)
          have HD9 := Lib.hid (HD8.out.next hb9)
          have HE9 := Lib.hid (HE8.out.next hb9)
          clear hb9
          obtain ⟨ra, hra⟩ : ∃ x, x = rankI s.reverse := ⟨_, rfl⟩
          obtain ⟨rb, hrb⟩ : ∃ x, x = rankI (backL s) := ⟨_, rfl⟩
          obtain ⟨rc, hrc⟩ : ∃ x, x = rankI (backL s).reverse := ⟨_, rfl⟩
          rw [← hra, ← hrb, ← hrc] at HOK
          rw [← hrb] at HK2
          rw [← hrc] at HK3
          rw [← hra]
          clear hra hrb hrc
          by_cases q1 : (k : Int) ≤ ra
          · have HT1 := Lib.hid (decide_eq_true q1)
            go_wp2_with fail
            refine (HK2.out g7 c7 _ HD9.out).mono ?_
            rintro e w10 ⟨rfl, hb10⟩
            have HB10 := Lib.hid (below_step HB9.out hb10)
            have HE10 := Lib.hid (HE9.out.next hb10)
            clear hb10
            by_cases q2 : (k : Int) ≤ rb
            · have HT2 := Lib.hid (decide_eq_true q2)
              go_wp2_with fail
              refine (HK3.out g8 c8 _ HE10.out).mono ?_
              rintro e w11 ⟨rfl, hb11⟩
              have HB11 := Lib.hid (below_step HB10.out hb11)
              clear hb11
              by_cases q3 : (k : Int) ≤ rc
              · have HM2 : Hid (m + 1 = manyC ((stacksS n8).take (k + 1))) := by show _ = _; rw [HST.out, HOK.out, HT1.out, HT2.out, decide_eq_true q3]; rfl
                go_wp2_with fail
                go_roundw
                case rel => exact ⟨k + 1, m + 1, by omega, by go_num, by go_num, HM2, HB11⟩
                case measure => simp [intOf]; omega
              · have HM2 : Hid (m = manyC ((stacksS n8).take (k + 1))) := by show _ = _; rw [HST.out, HOK.out, HT1.out, HT2.out, decide_eq_false q3]; rfl
                go_wp2_with fail
                go_roundw
                case rel => exact ⟨k + 1, m, by omega, by go_num, rfl, HM2, HB11⟩
                case measure => simp [intOf]; omega
            · have HM2 : Hid (m = manyC ((stacksS n8).take (k + 1))) := by show _ = _; rw [HST.out, HOK.out, HT1.out, decide_eq_false q2]; rfl
              go_wp2_with fail
              go_roundw
              case rel => exact ⟨k + 1, m, by omega, by go_num, rfl, HM2, HB10⟩
              case measure => simp [intOf]; omega
          · have HM2 : Hid (m = manyC ((stacksS n8).take (k + 1))) := by show _ = _; rw [HST.out, HOK.out, decide_eq_false q1]; rfl
            go_wp2_with fail
            go_roundw
            case rel => exact ⟨k + 1, m, by omega, by go_num, rfl, HM2, HB9⟩
            case measure => simp [intOf]; omega
        · obtain rfl : k = K := by omega
          obtain rfl : m = C := by rw [HM.out, HCE.out]
          go_wp2_with fail
          go_ret
          exact ⟨rfl, below_step HB4.out HB.out⟩
end Go.Proofs.Ytadpbbjahckoaaa
