/- The law FnStampFoldsTwo, walked: it returns true. Conditions: each theorem's own premises. -/
import Derived.Test.YtadpbbjahckoaaaSortC
import Derived.Test.YtadpbbjahckoaaaStampL
import Derived.Test.YtadpbbjahckoaaaStampM
import Derived.Test.YtadpbbjahckoaaaPlainL
namespace Go.Proofs.Ytadpbbjahckoaaa
set_option maxRecDepth 100000
open Go.RowKit
theorem RowI.next {w w' : World} {g : Nat} {xs : List Int} (h : RowI w g xs) (hb : Below w.heap.size w w') : RowI w' g xs := h.below hb h.1
theorem below_step {a b c : World} (h : Below a.heap.size a b) (k : Below b.heap.size b c) : Below a.heap.size a c := h.trans (k.mono h.size)
set_option maxRecDepth 100000 in
set_option maxHeartbeats 4000000 in
theorem fnStampFoldsTwo_walk (w : World) (a0 : Option Addr) (len0 cap0 : Nat) (z0 : List Int) (w0 : IsRow .u8 w a0 len0 cap0 z0) :
    Calls Try.prog 7 #[.slice a0 len0 cap0] w fun e w' => e = .returned (.bool true) ∧ Below w.heap.size w w' := by
  have HW := Lib.hid w0
  clear w0
  by_cases hl : 1048576 < len0
  · go_enter Try.func7, Try.ntmps7
    go_wp2
    go_ret
    exact ⟨rfl, Below.refl _ _⟩
  go_enter Try.func7, Try.ntmps7
  go_wp2_with fail
  refine (drawStampFolds _ _ _ _ _ HW.out HW.out.le).mono ?_
  rintro e w1 ⟨G, n, cap, l, hn, hn7, rfl, hG, hr1, hb1⟩
  have C1 := fun w (h : RowI w G l) => implStampFolds G n cap l w hn (by omega) h
  have C2 := fun w (h : RowI w G l) => specStampFolds G n cap l w hn (by omega) h
  rw [← poss_same] at C2
  have HR1 := Lib.hid hr1
  have HB1 := Lib.hid hb1
  have HN := Lib.hid hn
  clear hr1 hb1
  cases hok : possL l with
  | false =>
    rw [hok] at C1 C2
    have HC1 := Lib.hid C1
    have HC2 := Lib.hid C2
    clear C1 C2 hok hn
    go_wp2_with fail
    refine (HC1.out _ HR1.out).mono ?_
    rintro e w2 ⟨hb2, a, ha, rfl⟩
    have HB2 := Lib.hid (below_step HB1.out hb2)
    have HRL := Lib.hid (HR1.out.next hb2)
    clear hb2
    go_wp2_with fail
    refine (HC2.out _ HRL.out).mono ?_
    rintro e w3 ⟨hb3, b, hb, rfl⟩
    have HB3 := Lib.hid (below_step HB2.out hb3)
    have teq : (a.toList == b.toList) = true := by rw [eq_mkS ha, eq_mkS hb]; exact beq_self_eq_true _
    have tne : (a.toList != b.toList) = false := by rw [eq_mkS ha, eq_mkS hb]; simp
    clear ha hb hb3
    go_wp2_with fail
    go_ret
    exact ⟨rfl, HB3.out⟩
  | true =>
    have hrg := ((poss_iff l).1 hok).1
    unfold rangeN at hrg
    rw [decide_eq_true_eq, hn] at hrg
    have h1n := hrg.1
    rw [hok] at C1 C2
    simp only [if_true] at C1 C2
    have HC1 := Lib.hid C1
    have HC2 := Lib.hid C2
    have HFL := Lib.hid (foldsF_length n l)
    have HTW := Lib.hid (fun h5 => twos h1n h5 l)
    have HSO := Lib.hid (fun h6 => foldsF_ok h1n h6 l)
    obtain ⟨F, hF⟩ : ∃ F, F = foldsF n l := ⟨_, rfl⟩
    have hF2 : F = foldsL (sLevels n l) (n - 1) := hF
    rw [← hF] at HFL HTW HSO
    rw [← hF2] at HC1 HC2
    clear C1 C2 hok hn hrg hF hF2
    go_wp2_with fail
    refine (HC1.out _ HR1.out).mono ?_
    rintro e w2 ⟨hb2, a, ha, rfl⟩
    have HB2 := Lib.hid (below_step HB1.out hb2)
    have HRL := Lib.hid (HR1.out.next hb2)
    clear hb2
    go_wp2_with fail
    refine (HC2.out _ HRL.out).mono ?_
    rintro e w3 ⟨hb3, b, hb, rfl⟩
    have HB3 := Lib.hid (below_step HB2.out hb3)
    have teq : (a.toList == b.toList) = true := by rw [eq_mkS ha, eq_mkS hb]; exact beq_self_eq_true _
    have tne : (a.toList != b.toList) = false := by rw [eq_mkS ha, eq_mkS hb]; simp
    have HA := Lib.hid ha
    have has : a.size + 1 = n := by rw [← bl_length, ha, HFL.out]; omega
    clear ha hb hb3
    by_cases h5 : 5 < n
    · have h5' : (5 : Int) < (n : Int) := by omega
      have t1 : ((a.size : Int) == (n : Int) - 1) = true := by rw [beq_iff_eq]; omega
      clear has
      go_wp2_with fail
      go_ret
      exact ⟨rfl, HB3.out⟩
    · have h5' : ¬ (5 : Int) < (n : Int) := by omega
      have hi := inI_of h1n hn7
      have C3 := fun w => implStampMany n w
      have hm1 : implMany n = ((stacksS n).length : Int) := by unfold implMany; rw [if_pos hi]; show ((stacksL n).length : Int) = _; rw [manyS h1n]
      rw [hm1] at C3
      have HC3 := Lib.hid C3
      have C4 := fun (k : Nat) (s : List Int) (h : (stacksS n)[k]? = some s) w => implStampNth n k w
      have hnth : ∀ (k : Nat) (s : List Int), (stacksS n)[k]? = some s → nthI n k = some s := fun k s h => by
        unfold nthI
        rw [if_pos ⟨hi, by omega⟩]
        exact h
      have HC4 : Hid (∀ (k : Nat) (s : List Int), (stacksS n)[k]? = some s → ∀ w, Calls Try.prog 9 #[.int .i64 n, .int .i64 k] w (OverBack w true s)) := by
        show ∀ _ _ _ _, _
        intro k s h w
        have := C4 k s h w
        rw [hnth k s h] at this
        exact this
      have HC5 : Hid (∀ (s : List Int), s ∈ stacksS n → ∀ g c w, RowI w g s → Calls Try.prog 27 #[.slice (some ⟨g, 0, none⟩) n c] w (FoldsBack w true (foldsF n s))) := by
        show ∀ _ _ _ _ _ _, _
        intro s hs g c w hr
        obtain ⟨h1, h2⟩ := stacks_mem hs
        have := implStampFolds g n c s w h1 (by omega) hr
        rw [h2] at this
        exact this
      have HLEN : Hid (∀ s, s ∈ stacksS n → s.length = n) := Lib.hid fun s hs => (stacks_mem hs).1
      have HST := Lib.hid (fun (k : Nat) (s : List Int) (h : (stacksS n)[k]? = some s) => twoTo_step (bs := F) h)
      have hKb := stacks_len n hn7
      have HTT := Lib.hid (HTW.out (by omega))
      obtain ⟨S, hS⟩ : ∃ S, S = stacksS n := ⟨_, rfl⟩
      obtain ⟨K, hK⟩ : ∃ K, K = (stacksS n).length := ⟨_, rfl⟩
      rw [← hK] at HTT hKb HC3
      rw [← hS] at HC4 HC5 HLEN HST
      have HSK : Hid (S.length = K) := by show _ = _; rw [hS, hK]
      have HTB : Hid (∀ k, twoTo n F k ≤ k) := by
        show ∀ _, _
        intro k
        unfold twoTo
        refine Nat.le_trans (List.length_filter_le _ _) ?_
        rw [List.length_take]
        omega
      clear C3 C4 hm1 hi hnth hS hK
      go_wp2_with fail
      go_loopw [9, 10] (fun o i wr => ∃ k m : Nat, k ≤ K ∧ i = .int .i64 k ∧ o = .int .i64 m ∧ Hid (m = twoTo n F k) ∧ Hid (Below w3.heap.size w3 wr)) (fun _ i _ => K - (intOf i).toNat)
      case atStart => exact ⟨0, 0, Nat.zero_le _, rfl, rfl, Lib.hid (by unfold twoTo; rw [List.take_zero]; rfl), Lib.hid (Below.refl _ _)⟩
      case round =>
        obtain ⟨k, m, hk, rfl, rfl, HM, HBR⟩ := hrel
        have hmb : m ≤ 823543 := by have := HTB.out k; rw [← HM.out] at this; omega
        go_wp2_with fail
        refine (HC3.out _).mono ?_
        rintro e w4 ⟨rfl, hb4⟩
        have HB4 := Lib.hid (below_step HBR.out hb4)
        clear hb4
        by_cases hlt : k < K
        · have hlt' : (k : Int) < (K : Int) := by omega
          obtain ⟨s, hs⟩ : ∃ s, S[k]? = some s := ⟨_, List.getElem?_eq_getElem (by rw [HSK.out]; exact hlt)⟩
          have hsm := List.mem_of_getElem? hs
          have D4 := Lib.hid (HC4.out k s hs)
          have D5 := Lib.hid (HC5.out s hsm)
          have HSL := Lib.hid (HLEN.out s hsm)
          have HT := Lib.hid (HST.out k s hs)
          clear hs hsm
          go_wp2_with fail
          refine (D4.out _).mono ?_
          rintro e w5 ⟨hb5, g5, n5, c5, hn5, rfl, hg5, hr5⟩
          obtain rfl : n5 = n := by rw [← hn5]; exact HSL.out
          have HB5 := Lib.hid (below_step HB4.out hb5)
          have HR5 := Lib.hid hr5
          clear hn5 hb5 hr5
          go_wp2_with fail
          refine (D5.out g5 c5 _ HR5.out).mono ?_
          rintro e w6 ⟨hb6, t, ht, rfl⟩
          have HB6 := Lib.hid (below_step HB5.out hb6)
          have HTX := Lib.hid ht
          clear ht hb6
          by_cases heq : foldsF n5 s = F
          · have tq : (t.toList == a.toList) = true := by rw [eq_mkS HTX.out, eq_mkS HA.out, heq]; exact beq_self_eq_true _
            have HM2 : Hid (m + 1 = twoTo n5 F (k + 1)) := by show _ = _; rw [HT.out, if_pos heq, HM.out]
            clear heq
            go_wp2_with fail
            go_roundw
            case rel => exact ⟨k + 1, m + 1, by omega, by go_num, by go_num, HM2, HB6⟩
            case measure => simp [intOf]; omega
          · have tq : (t.toList == a.toList) = false := by
              rw [str_beq, HTX.out, HA.out]
              exact decide_eq_false heq
            have HM2 : Hid (m = twoTo n5 F (k + 1)) := by show _ = _; rw [HT.out, if_neg heq, HM.out]; rfl
            clear heq
            go_wp2_with fail
            go_roundw
            case rel => exact ⟨k + 1, m, by omega, by go_num, rfl, HM2, HB6⟩
            case measure => simp [intOf]; omega
        · obtain rfl : k = K := by omega
          go_wp2_with fail
          refine (ones n _ (by omega)).mono ?_
          rintro e w5 ⟨go, no, co, hno, rfl, hgo, hro, hb5⟩
          obtain rfl : no = n := by rw [← hno]; exact List.length_replicate
          have HB5 := Lib.hid (below_step HB4.out hb5)
          have HO5 := Lib.hid hro
          clear hno hro hb5
          go_wp2_with fail
          refine (implStripMany go no co (List.replicate no 1) a _ List.length_replicate (by rw [HA.out]; exact HSO.out (by omega)) HO5.out (by omega)).mono ?_
          rintro e w6 ⟨rfl, hb6⟩
          have HB6 := Lib.hid (below_step HB5.out hb6)
          have tq : ((m : Int) == (stripMany (List.replicate no 1) (bl a) : Int)) = true := by rw [beq_iff_eq, HM.out, HTT.out, HA.out]
          clear hb6
          go_wp2_with fail
          go_ret
          exact ⟨rfl, below_step HB3.out HB6.out⟩
end Go.Proofs.Ytadpbbjahckoaaa
