/- The walk of the reference's StampClasses. Conditions: each theorem's own premises. -/
import Derived.Test.YtadpbbjahckoaaaClassA
namespace Go.Proofs.Ytadpbbjahckoaaa
set_option maxRecDepth 100000
open Go.RowKit
/-- What a round of the count is told of a stack. -/
structure ClassFacts (n : Nat) (l : List Int) : Prop where
  len : l.length = n
  poss : possL l = true
  inn : ∀ x ∈ l, 0 ≤ x ∧ x < (n : Int)
  rlen : l.reverse.length = n
  blen : (backL l).length = n
  brlen : (backL l).reverse.length = n
  rposs : possL l.reverse = true
  bposs : possL (backL l) = true
  brposs : possL (backL l).reverse = true
theorem class_facts {n : Nat} {l : List Int} (h : l ∈ stacksS n) : ClassFacts n l := by
  obtain ⟨h1, h2⟩ := stacks_mem h
  exact ⟨h1, h2, by rw [← h1]; exact poss_in h2, by rw [List.length_reverse, h1], by rw [backL_length, h1], by rw [List.length_reverse, backL_length, h1], poss_reverse h2, poss_back h2, poss_reverse (poss_back h2)⟩
set_option maxRecDepth 100000 in
set_option maxHeartbeats 8000000 in
theorem specStampClasses (n : Int) (w : World) : Calls Try.prog 23 #[.int .i64 n] w fun e w' => e = .returned (.int .i64 (classI n)) ∧ Below w.heap.size w w' := by
  have C1 := fun w => l6In3 n 1 7 w
  cases hi : inI n with
  | false =>
    have HR : Hid (classI n = -1) := by show _ = _; unfold classI; rw [if_neg (by rw [hi]; decide)]
    have hi2 : (decide (1 ≤ n) && decide (n ≤ 7)) = false := hi
    rw [hi2] at C1
    have HC1 := Lib.hid C1
    clear hi hi2 C1
    go_enter Try.func23, Try.ntmps23
    go_wp2_with fail
    refine (HC1.out _).mono ?_
    rintro e w1 ⟨rfl, rfl⟩
    go_wp2_with fail
    go_ret
    exact ⟨ret_int HR.out.symm, Below.refl _ _⟩
  | true =>
    obtain ⟨n, rfl, h1, h7⟩ := inI_nat hi
    have HRI : Hid (classI n = (manyC (stacksS n) : Int)) := by show _ = _; unfold classI; rw [if_pos hi]; rfl
    have hi2 : (decide (1 ≤ (n : Int)) && decide ((n : Int) ≤ 7)) = true := hi
    rw [hi2] at C1
    have HC1 := Lib.hid C1
    have HC2 := Lib.hid (fun w => l3All n h1 h7 w)
    have HSM : Hid (∀ s ∈ stacksS n, ClassFacts n s) := Lib.hid fun s hs => class_facts hs
    have HSL := Lib.hid (stacks_len n h7)
    clear hi hi2 C1
    go_enter Try.func23, Try.ntmps23
    go_wp2_with fail
    refine (HC1.out _).mono ?_
    rintro e w1 ⟨rfl, rfl⟩
    go_wp2_with fail
    refine (HC2.out _).mono ?_
    rintro e w2 ⟨rs, G, K, cap, hx, hK, rfl, ho, hG, hl, hb2⟩
    have HB2 := Lib.hid hb2
    have hKl : K ≤ 823543 := by rw [← hK, ← List.length_map (f := RD.xs), hx]; exact HSL.out
    have HX := Lib.hid hx
    have HK := Lib.hid hK
    have HO := Lib.hid ho
    have HL := Lib.hid hl
    clear hb2 hx hK ho hG hl
    go_wp2_with fail
    go_loopw [3, 5] (fun o i wr => ∃ k m : Nat, k ≤ K ∧ i = .int .i64 k ∧ o = .int .i64 m ∧ Hid (m = manyC ((stacksS n).take k)) ∧ Hid (Below w2.heap.size w2 wr)) (fun _ i _ => K - (intOf i).toNat)
    case atStart => exact ⟨0, 0, Nat.zero_le _, rfl, rfl, Lib.hid (by rw [List.take_zero]; rfl), Lib.hid (Below.refl _ _)⟩
    case round =>
      obtain ⟨k, m, hk, rfl, rfl, HM, HB⟩ := hrel
      by_cases hlt : k < K
      · obtain ⟨r, hr⟩ : ∃ r, rs[k]? = some r := ⟨_, List.getElem?_eq_getElem (by rw [HK.out]; exact hlt)⟩
        have hGl := (HO.out.lt G rfl).2
        obtain ⟨hrr, hrg, hrlo⟩ := HL.out r (List.mem_of_getElem? hr)
        have hrl := hrr.1
        have hs : (stacksS n)[k]? = some r.xs := by rw [← HX.out, List.getElem?_map, hr]; rfl
        have hcf := HSM.out _ (List.mem_of_getElem? hs)
        have hcell2 : w2.cell? ⟨G, k, none⟩ = some r.v := ownI_at HO.out (by rw [List.getElem?_map, hr]; rfl)
        have c1 : wr.cell? ⟨G, k, none⟩ = some (.slice (some ⟨r.g, 0, none⟩) n r.cap) := by
          rw [World.cell?_of_block (a := ⟨G, k, none⟩) (HB.out.block G hGl), hcell2]
          unfold RD.v
          rw [hcf.len]
        have HRR : Hid (RowI wr r.g r.xs) := Lib.hid (hrr.keep (HB.out.block r.g hrl))
        have k0 : (0 : Int) ≤ (k : Int) := by omega
        have k1 : (k : Int) < (K : Int) := by omega
        have hmb : m ≤ 823543 := by
          have := manyC_le ((stacksS n).take k)
          rw [← HM.out, List.length_take] at this
          omega
        have HST : Hid (manyC ((stacksS n).take (k + 1)) = m + if okC r.xs = true then 1 else 0) := by
          show _ = _
          obtain ⟨h2, h3⟩ := List.getElem?_eq_some_iff.1 hs
          rw [List.take_succ_eq_append_getElem h2, h3, manyC_snoc, ← HM.out]
        have HCF := Lib.hid hcf
        obtain ⟨rg, hrge⟩ : ∃ x, x = r.g := ⟨_, rfl⟩
        obtain ⟨rc, hrce⟩ : ∃ x, x = r.cap := ⟨_, rfl⟩
        obtain ⟨rx, hrxe⟩ : ∃ x, x = r.xs := ⟨_, rfl⟩
        rw [← hrge, ← hrce] at c1
        rw [← hrge, ← hrxe] at HRR
        rw [← hrxe] at HST HCF
        have HOK : Hid (okC rx = (!decide (cmpL rx.reverse rx < 0) && !decide (cmpL (backL rx) rx < 0) && !decide (cmpL (backL rx).reverse rx < 0))) := Lib.hid rfl
        clear hcell2 hs hcf hrr hrg hr hrge hrce hrxe hrlo hrl
        go_wp2_with fail
        refine (l1Back rg n rc rx _ HCF.out.len (by omega) HRR.out).mono ?_
        rintro e w3 ⟨g3, n3, c3, hn3, rfl, hg3, hr3, hb3⟩
        obtain rfl : n3 = n := by rw [← hn3]; exact HCF.out.rlen
        have HB3 := Lib.hid (HB.out.trans (hb3.mono HB.out.size))
        have HR3 := Lib.hid (HRR.out.below hb3 HRR.out.1)
        have HX3 := Lib.hid hr3
        clear hb3 hn3 hr3
        go_wp2_with fail
        refine (l3Before g3 rg n3 c3 rc rx.reverse rx _ HCF.out.rlen HCF.out.len (by omega) HX3.out HR3.out).mono ?_
        rintro e w4 ⟨rfl, hb4⟩
        have HB4 := Lib.hid (HB3.out.trans (hb4.mono HB3.out.size))
        have HR4 := Lib.hid (HR3.out.below hb4 HR3.out.1)
        clear hb4
        by_cases q1 : cmpL rx.reverse rx < 0
        · have HM2 : Hid (m = manyC ((stacksS n3).take (k + 1))) := by show _ = _; rw [HST.out, HOK.out, decide_eq_true q1]; rfl
          rw [decide_eq_true q1]
          clear q1
          go_wp2_with fail
          go_roundw
          case rel => exact ⟨k + 1, m, by omega, by go_num, rfl, HM2, HB4⟩
          case measure => simp [intOf]; omega
        · rw [decide_eq_false q1]
          have HQ1 := Lib.hid (decide_eq_false q1)
          clear q1
          go_wp2_with fail
          refine (l3Back rg n3 rc rx _ HCF.out.len (by omega) HCF.out.inn HR4.out).mono ?_
          rintro e w5 ⟨g5, n5, c5, hn5, rfl, hg5, hr5, hb5⟩
          obtain rfl : n5 = n3 := by rw [← hn5]; exact HCF.out.blen
          have HB5 := Lib.hid (HB4.out.trans (hb5.mono HB4.out.size))
          have HR5 := Lib.hid (HR4.out.below hb5 HR4.out.1)
          have HX5 := Lib.hid hr5
          clear hb5 hn5 hr5
          go_wp2_with fail
          refine (l3Before g5 rg n5 c5 rc (backL rx) rx _ HCF.out.blen HCF.out.len (by omega) HX5.out HR5.out).mono ?_
          rintro e w6 ⟨rfl, hb6⟩
          have HB6 := Lib.hid (HB5.out.trans (hb6.mono HB5.out.size))
          have HR6 := Lib.hid (HR5.out.below hb6 HR5.out.1)
          clear hb6
          by_cases q2 : cmpL (backL rx) rx < 0
          · have HM2 : Hid (m = manyC ((stacksS n5).take (k + 1))) := by show _ = _; rw [HST.out, HOK.out, HQ1.out, decide_eq_true q2]; rfl
            rw [decide_eq_true q2]
            clear q2
            go_wp2_with fail
            go_roundw
            case rel => exact ⟨k + 1, m, by omega, by go_num, rfl, HM2, HB6⟩
            case measure => simp [intOf]; omega
          · rw [decide_eq_false q2]
            have HQ2 := Lib.hid (decide_eq_false q2)
            clear q2
            go_wp2_with fail
            refine (l3Back rg n5 rc rx _ HCF.out.len (by omega) HCF.out.inn HR6.out).mono ?_
            rintro e w7 ⟨g7, n7, c7, hn7, rfl, hg7, hr7, hb7⟩
            obtain rfl : n7 = n5 := by rw [← hn7]; exact HCF.out.blen
            have HB7 := Lib.hid (HB6.out.trans (hb7.mono HB6.out.size))
            have HR7 := Lib.hid (HR6.out.below hb7 HR6.out.1)
            have HX7 := Lib.hid hr7
            clear hb7 hn7 hr7
            go_wp2_with fail
            refine (l1Back g7 n7 c7 (backL rx) _ HCF.out.blen (by omega) HX7.out).mono ?_
            rintro e w8 ⟨g8, n8, c8, hn8, rfl, hg8, hr8, hb8⟩
            obtain rfl : n8 = n7 := by rw [← hn8]; exact HCF.out.brlen
            have HB8 := Lib.hid (HB7.out.trans (hb8.mono HB7.out.size))
            have HR8 := Lib.hid (HR7.out.below hb8 HR7.out.1)
            have HX8 := Lib.hid hr8
            clear hb8 hn8 hr8
            go_wp2_with fail
            refine (l3Before g8 rg n8 c8 rc (backL rx).reverse rx _ HCF.out.brlen HCF.out.len (by omega) HX8.out HR8.out).mono ?_
            rintro e w9 ⟨rfl, hb9⟩
            have HB9 := Lib.hid (HB8.out.trans (hb9.mono HB8.out.size))
            clear hb9
            by_cases q3 : cmpL (backL rx).reverse rx < 0
            · have HM2 : Hid (m = manyC ((stacksS n8).take (k + 1))) := by show _ = _; rw [HST.out, HOK.out, HQ1.out, HQ2.out, decide_eq_true q3]; rfl
              rw [decide_eq_true q3]
              clear q3
              go_wp2_with fail
              go_roundw
              case rel => exact ⟨k + 1, m, by omega, by go_num, rfl, HM2, HB9⟩
              case measure => simp [intOf]; omega
            · have HM2 : Hid (m + 1 = manyC ((stacksS n8).take (k + 1))) := by show _ = _; rw [HST.out, HOK.out, HQ1.out, HQ2.out, decide_eq_false q3]; rfl
              rw [decide_eq_false q3]
              clear q3
              go_wp2_with fail
              go_roundw
              case rel => exact ⟨k + 1, m + 1, by omega, by go_num, by go_num, HM2, HB9⟩
              case measure => simp [intOf]; omega
      · obtain rfl : k = K := by omega
        have HF : Hid ((m : Int) = classI n) := by
          show _ = _
          rw [HRI.out, HM.out, List.take_of_length_le (by rw [← HX.out, List.length_map, HK.out]; exact Nat.le_refl _)]
        go_wp2_with fail
        go_ret
        exact ⟨ret_int HF.out, HB2.out.trans (HB.out.mono HB2.out.size)⟩
end Go.Proofs.Ytadpbbjahckoaaa
