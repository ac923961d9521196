/- The walks of the reference's l3Before and StampRank. Conditions: each theorem's own premises. -/
import Derived.Test.YtadpbbjahckoaaaRankA
import Derived.BigQuiet
namespace Go.Proofs.Ytadpbbjahckoaaa
open Go.RowKit
set_option maxHeartbeats 4000000 in
theorem l3Before (g1 g2 n c1 c2 : Nat) (a b : List Int) (w : World) (h1 : a.length = n) (h2 : b.length = n) (hb1 : n ≤ 1000) (hr1 : RowI w g1 a) (hr2 : RowI w g2 b) :
    Calls Try.prog 45 #[.slice (some ⟨g1, 0, none⟩) n c1, .slice (some ⟨g2, 0, none⟩) n c2] w fun e w' => e = .returned (.bool (decide (cmpL a b < 0))) ∧ Below w.heap.size w w' := by
  have H1 := Lib.hid h1; have H2 := Lib.hid h2
  have R1 := Lib.hid hr1; have R2 := Lib.hid hr2
  clear h1 h2 hr1 hr2
  go_enter Try.func45, Try.ntmps45
  go_wp2_with fail
  go_loopw [5] (fun i wr => ∃ k : Nat, k ≤ n ∧ i = .int .i64 k ∧ Hid (cmpL a b = cmpL (a.drop k) (b.drop k)) ∧ Hid (Below w.heap.size w wr)) (fun i _ => n - (intOf i).toNat)
  case atStart => exact ⟨0, Nat.zero_le _, rfl, Lib.hid rfl, Lib.hid (Below.refl _ _)⟩
  case round =>
    obtain ⟨k, hk1, rfl, HE, HB⟩ := hrel
    by_cases hlt : k < n
    · obtain ⟨x, hx⟩ : ∃ x, a[k]? = some x := ⟨_, List.getElem?_eq_getElem (by rw [H1.out]; exact hlt)⟩
      obtain ⟨y, hy⟩ : ∃ y, b[k]? = some y := ⟨_, List.getElem?_eq_getElem (by rw [H2.out]; exact hlt)⟩
      have cx := (R1.out.below HB.out R1.out.1).2 k x hx
      have cy := (R2.out.below HB.out R2.out.1).2 k y hy
      have hd1 : a.drop k = x :: a.drop (k + 1) := by
        obtain ⟨e1, e2⟩ := List.getElem?_eq_some_iff.1 hx
        rw [List.drop_eq_getElem_cons e1, e2]
      have hd2 : b.drop k = y :: b.drop (k + 1) := by
        obtain ⟨e1, e2⟩ := List.getElem?_eq_some_iff.1 hy
        rw [List.drop_eq_getElem_cons e1, e2]
      have kl : (k : Int) < (n : Int) := by omega
      have k0 : (0 : Int) ≤ (k : Int) := by omega
      have HE2 : Hid (cmpL a b = if x < y then -1 else if y < x then 1 else cmpL (a.drop (k + 1)) (b.drop (k + 1))) := by
        show _ = _
        rw [HE.out, hd1, hd2]
        rfl
      clear hx hy hd1 hd2
      by_cases hxy : x = y
      · subst hxy
        have tp : (x != x) = false := by simp
        have HF : Hid (cmpL a b = cmpL (a.drop (k + 1)) (b.drop (k + 1))) := by show _ = _; rw [HE2.out, if_neg (by omega), if_neg (by omega)]
        go_wp2
        go_quiet (fail)
        go_wp2
        go_roundw
        case rel => exact ⟨k + 1, by omega, by go_num, HF, Lib.hid (below_drewN HB.out _)⟩
        case measure => simp [intOf]; omega
      · have tp : (x != y) = true := by simp [hxy]
        by_cases hl : x < y
        · have HF : Hid (cmpL a b < 0) := by show _ < _; rw [HE2.out, if_pos hl]; decide
          go_wp2
          go_quiet (fail)
          go_wp2
          go_quiet (fail)
          go_wp2
          go_ret
          exact ⟨ret_bool (by rw [decide_eq_true HF.out]), below_drewN (below_drewN HB.out _) _⟩
        · have HF : Hid (decide (cmpL a b < 0) = false) := by show _ = _; rw [HE2.out, if_neg hl, if_pos (by omega)]; rfl
          have hl2 : y ≤ x := by omega
          go_wp2
          go_quiet (fail)
          go_wp2
          go_quiet (fail)
          go_wp2
          go_ret
          exact ⟨ret_bool (by rw [HF.out]; exact decide_eq_false (by omega)), below_drewN (below_drewN HB.out _) _⟩
    · obtain rfl : k = n := by omega
      have HF : Hid (decide (cmpL a b < 0) = false) := by
        show _ = _
        rw [HE.out, List.drop_of_length_le (by rw [H1.out]; exact Nat.le_refl _), List.drop_of_length_le (by rw [H2.out]; exact Nat.le_refl _)]
        rfl
      go_wp2_with fail
      go_ret
      exact ⟨ret_bool HF.out.symm, HB.out⟩
set_option maxHeartbeats 4000000 in
theorem specStampRank (gl n c : Nat) (l : List Int) (w : World) (hn : l.length = n) (hn2 : n ≤ 1000) (hr : RowI w gl l) :
    Calls Try.prog 19 #[.slice (some ⟨gl, 0, none⟩) n c] w fun e w' => e = .returned (.int .i64 (rankI l)) ∧ Below w.heap.size w w' := by
  have hgl := hr.1
  have C1 := fun w (h : RowI w gl l) => specStampPossible gl n c l w hn hn2 h
  rw [← poss_same] at C1
  have HR := Lib.hid hr
  cases hok : possL l with
  | false =>
    have HRI : Hid (rankI l = -1) := by show _ = _; unfold rankI; rw [if_neg (by rw [hok]; decide)]
    rw [hok] at C1
    have HC1 := Lib.hid C1
    clear C1 hok hn hr
    go_enter Try.func19, Try.ntmps19
    go_wp2_with fail
    refine (HC1.out _ HR.out).mono ?_
    rintro e w1 ⟨rfl, hb1⟩
    have HB1 := Lib.hid hb1
    clear hb1
    go_wp2_with fail
    go_ret
    exact ⟨ret_int HRI.out.symm, HB1.out⟩
  | true =>
    obtain ⟨hrg, _⟩ := (poss_iff l).1 hok
    unfold rangeN at hrg
    rw [decide_eq_true_eq, hn] at hrg
    obtain ⟨h1, h7⟩ := hrg
    have HRI : Hid (rankI l = (aheadN l (stacksS n) : Int)) := by
      show _ = _
      unfold rankI rankN
      rw [if_pos hok, hn]
    rw [hok] at C1
    have HC1 := Lib.hid C1
    have HC2 := Lib.hid (fun w => l3All n h1 h7 w)
    have HSM : Hid (∀ s ∈ stacksS n, s.length = n) := Lib.hid fun s hs => (stacks_mem hs).1
    have HN := Lib.hid hn
    have HSL := Lib.hid (stacks_len n h7)
    clear C1 hok hn hr
    go_enter Try.func19, Try.ntmps19
    go_wp2_with fail
    refine (HC1.out _ HR.out).mono ?_
    rintro e w1 ⟨rfl, hb1⟩
    have HB1 := Lib.hid hb1
    have HR1 := Lib.hid (HR.out.below hb1 hgl)
    clear hb1
    go_wp2_with fail
    refine (HC2.out _).mono ?_
    rintro e w2 ⟨rs, G, K, cap, hx, hK, rfl, ho, hG, hl, hb2⟩
    have HB2 := Lib.hid (HB1.out.trans (hb2.mono HB1.out.size))
    have HR2 := Lib.hid (HR1.out.below hb2 HR1.out.1)
    have hKl : K ≤ 823543 := by rw [← hK, ← List.length_map (f := RD.xs), hx]; exact HSL.out
    have HX := Lib.hid hx
    have HK := Lib.hid hK
    have HO := Lib.hid ho
    have HL := Lib.hid hl
    clear hb2 hx hK ho hG hl
    go_wp2_with fail
    go_loopw [3, 5] (fun o i wr => ∃ k m : Nat, k ≤ K ∧ i = .int .i64 k ∧ o = .int .i64 m ∧ Hid (m = aheadN l ((stacksS n).take k)) ∧ Hid (Below w2.heap.size w2 wr)) (fun _ i _ => K - (intOf i).toNat)
    case atStart => exact ⟨0, 0, Nat.zero_le _, rfl, rfl, Lib.hid (by rw [List.take_zero]; rfl), Lib.hid (Below.refl _ _)⟩
    case round =>
      obtain ⟨k, m, hk, rfl, rfl, HM, HB⟩ := hrel
      by_cases hlt : k < K
      · obtain ⟨r, hr⟩ : ∃ r, rs[k]? = some r := ⟨_, List.getElem?_eq_getElem (by rw [HK.out]; exact hlt)⟩
        have hGl := (HO.out.lt G rfl).2
        obtain ⟨hrr, hrg, hrlo⟩ := HL.out r (List.mem_of_getElem? hr)
        have hrl := hrr.1
        have hs : (stacksS n)[k]? = some r.xs := by rw [← HX.out, List.getElem?_map, hr]; rfl
        have hxl := HSM.out _ (List.mem_of_getElem? hs)
        have hcell2 : w2.cell? ⟨G, k, none⟩ = some r.v := ownI_at HO.out (by rw [List.getElem?_map, hr]; rfl)
        have c1 : wr.cell? ⟨G, k, none⟩ = some (.slice (some ⟨r.g, 0, none⟩) n r.cap) := by
          rw [World.cell?_of_block (a := ⟨G, k, none⟩) (HB.out.block G hGl), hcell2]
          unfold RD.v
          rw [hxl]
        have HRR : Hid (RowI wr r.g r.xs) := Lib.hid (hrr.keep (HB.out.block r.g hrl))
        have HRL : Hid (RowI wr gl l) := Lib.hid (HR2.out.keep (HB.out.block gl HR2.out.1))
        have k0 : (0 : Int) ≤ (k : Int) := by omega
        have k1 : (k : Int) < (K : Int) := by omega
        have hmb : m ≤ 823543 := by
          have := aheadN_le l ((stacksS n).take k)
          rw [← HM.out, List.length_take] at this
          omega
        have HST : Hid (aheadN l ((stacksS n).take (k + 1)) = m + if cmpL r.xs l < 0 then 1 else 0) := by
          show _ = _
          obtain ⟨h2, h3⟩ := List.getElem?_eq_some_iff.1 hs
          rw [List.take_succ_eq_append_getElem h2, h3, aheadN_snoc, ← HM.out]
        have HXL := Lib.hid hxl
        obtain ⟨rg, hrge⟩ : ∃ x, x = r.g := ⟨_, rfl⟩
        obtain ⟨rc, hrce⟩ : ∃ x, x = r.cap := ⟨_, rfl⟩
        obtain ⟨rx, hrxe⟩ : ∃ x, x = r.xs := ⟨_, rfl⟩
        rw [← hrge, ← hrce] at c1
        rw [← hrge, ← hrxe] at HRR
        rw [← hrxe] at HST HXL
        clear hcell2 hs hxl hrr hrg hr hrge hrce hrxe hrlo hrl
        go_wp2_with fail
        refine (l3Before rg gl n rc c rx l _ HXL.out HN.out (by omega) HRR.out HRL.out).mono ?_
        rintro e w3 ⟨rfl, hb3⟩
        have HB3 := Lib.hid (HB.out.trans (hb3.mono HB.out.size))
        clear hb3
        by_cases hcm : cmpL rx l < 0
        · have HM2 : Hid (m + 1 = aheadN l ((stacksS n).take (k + 1))) := by show _ = _; rw [HST.out, if_pos hcm]
          rw [decide_eq_true hcm]
          clear hcm
          go_wp2_with fail
          go_roundw
          case rel => exact ⟨k + 1, m + 1, by omega, by go_num, by go_num, HM2, HB3⟩
          case measure => simp [intOf]; omega
        · have HM2 : Hid (m = aheadN l ((stacksS n).take (k + 1))) := by show _ = _; rw [HST.out, if_neg hcm]; rfl
          rw [decide_eq_false hcm]
          clear hcm
          go_wp2_with fail
          go_roundw
          case rel => exact ⟨k + 1, m, by omega, by go_num, rfl, HM2, HB3⟩
          case measure => simp [intOf]; omega
      · obtain rfl : k = K := by omega
        have HF : Hid ((m : Int) = rankI l) := by
          show _ = _
          rw [HRI.out, HM.out, List.take_of_length_le (by rw [← HX.out, List.length_map, HK.out]; exact Nat.le_refl _)]
        go_wp2_with fail
        go_ret
        exact ⟨ret_int HF.out, HB2.out.trans (HB.out.mono HB2.out.size)⟩
end Go.Proofs.Ytadpbbjahckoaaa
