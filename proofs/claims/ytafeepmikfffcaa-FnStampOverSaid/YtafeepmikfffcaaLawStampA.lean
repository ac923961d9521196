/- The law FnStampOver, walked: it returns true. Conditions: each theorem's own premises. -/
import Derived.Test.YtafeepmikfffcaaStampL
import Derived.Test.YtafeepmikfffcaaStampM
namespace Go.Proofs.Ytafeepmikfffcaa
open Go.RowKit
theorem RowI.next {w w' : World} {g : Nat} {xs : List Int} (h : RowI w g xs) (hb : Below w.heap.size w w') : RowI w' g xs := h.below hb h.1
theorem below_step {a b c : World} (h : Below a.heap.size a b) (k : Below b.heap.size b c) : Below a.heap.size a c := h.trans (k.mono h.size)
/-- What the walk of the law is told of a possible stack. -/
structure OverFacts (l : List Int) (n : Nat) where
  r : possL l.reverse = true
  b : possL (backL l) = true
  rb : backL l.reverse = (backL l).reverse
  f : foldsL (sLevels n l.reverse) (n - 1) = (foldsL (sLevels n l) (n - 1)).map swp
theorem over_facts {l : List Int} (h : possL l = true) {n : Nat} (hn : l.length = n) : OverFacts l n where
  r := poss_reverse h
  b := poss_back h
  rb := back_reverse l
  f := by
    obtain ⟨_, lv, hlv, _⟩ := (poss_iff l).1 h
    have h1 := sLevels_lv hlv.mem
    have h2 := sLevels_lv hlv.reverse.mem
    rw [List.length_reverse, hn] at h2
    rw [hn] at h1
    have e1 := hlv.uniq h1
    have e2 := hlv.reverse.uniq h2
    rw [← e1, ← e2]
    have := folds_over hlv
    rw [hn] at this ⊢
    exact this
set_option maxRecDepth 100000 in
set_option maxHeartbeats 4000000 in
theorem fnStampOver_walk (w : World) (a0 : Option Addr) (len0 cap0 : Nat) (z0 : List Int) (w0 : IsRow .u8 w a0 len0 cap0 z0) :
    Calls Try.prog 3 #[.slice a0 len0 cap0] w fun e w' => e = .returned (.bool true) ∧ Below w.heap.size w w' := by
  have HW := Lib.hid w0
  clear w0
  by_cases hl : 1048576 < len0
  · go_enter Try.func3, Try.ntmps3
    go_wp2
    go_ret
    exact ⟨rfl, Below.refl _ _⟩
  · go_enter Try.func3, Try.ntmps3
    go_wp2_with fail
    refine (drawStampOver _ _ _ _ _ HW.out HW.out.le).mono ?_
    rintro e w1 ⟨G, n, cap, l, hn, hn7, rfl, hG, hr1, hb1⟩
    have C1 := fun w (h : RowI w G l) => implStampOver G n cap l w hn (by omega) h
    have C2 := fun w (h : RowI w G l) => specStampOver G n cap l w hn (by omega) h
    have C3 := fun w (h : RowI w G l) => implStampFolds G n cap l w hn (by omega) h
    have C4 := fun w (h : RowI w G l) => implStampBack G n cap l w hn (by omega) h
    rw [← poss_same] at C2
    have HR1 := Lib.hid hr1
    have HB1 := Lib.hid hb1
    have HN := Lib.hid hn
    clear hr1 hb1
    cases hok : possL l with
    | false =>
      rw [hok] at C1 C2
      have HC1 := Lib.hid C1
      have HC2 := Lib.hid C2
      clear C1 C2 C3 C4 hok hn
      go_wp2_with fail
      refine (HC1.out _ HR1.out).mono ?_
      rintro e w2 ⟨hb2, g2, n2, c2, hn2, rfl, hg2, hr2⟩
      obtain rfl : n2 = 0 := hn2.symm
      have HB2 := Lib.hid (below_step HB1.out hb2)
      have HR2 := Lib.hid hr2
      have HRL := Lib.hid (HR1.out.next hb2)
      clear hn2 hb2 hr2
      go_wp2_with fail
      refine (HC2.out _ HRL.out).mono ?_
      rintro e w3 ⟨hb3, g3, n3, c3, hn3, rfl, hg3, hr3⟩
      obtain rfl : n3 = 0 := hn3.symm
      have HB3 := Lib.hid (below_step HB2.out hb3)
      have HQ := Lib.hid (fun w => sameInts_nil (some ⟨g2, 0, none⟩) (some ⟨g3, 0, none⟩) c2 c3 w)
      clear hn3 hb3 hr3
      go_wp2_with fail
      refine (HQ.out _).mono ?_
      rintro e w4 ⟨rfl, rfl⟩
      go_wp2_with fail
      refine (HQ.out _).mono ?_
      rintro e w4 ⟨rfl, rfl⟩
      go_wp2_with fail
      go_ret
      exact ⟨rfl, HB3.out⟩
    | true =>
      obtain ⟨fr, fb, frb, ff⟩ := over_facts hok hn
      have hnr : l.reverse.length = n := by rw [List.length_reverse, hn]
      have hnb : (backL l).length = n := by rw [backL_length, hn]
      have C5 := fun g cap w (h : RowI w g l.reverse) => implStampOver g n cap l.reverse w hnr (by omega) h
      have C6 := fun g cap w (h : RowI w g l.reverse) => implStampFolds g n cap l.reverse w hnr (by omega) h
      have C7 := fun g cap w (h : RowI w g l.reverse) => implStampBack g n cap l.reverse w hnr (by omega) h
      have C8 := fun g cap w (h : RowI w g (backL l)) => implStampOver g n cap (backL l) w hnb (by omega) h
      rw [hok] at C1 C2 C3 C4
      rw [fr] at C5 C6 C7
      rw [fb] at C8
      simp only [if_true] at C1 C2 C3 C4 C5 C6 C7 C8
      rw [List.reverse_reverse] at C5
      rw [frb] at C7
      rw [ff] at C6
      have HC1 := Lib.hid C1
      have HC2 := Lib.hid C2
      have HC3 := Lib.hid C3
      have HC4 := Lib.hid C4
      have HC5 := Lib.hid C5
      have HC6 := Lib.hid C6
      have HC7 := Lib.hid C7
      have HC8 := Lib.hid C8
      have HNR := Lib.hid hnr
      have HNB := Lib.hid hnb
      have HNBR : Hid ((backL l).reverse.length = n) := Lib.hid (by rw [List.length_reverse, hnb])
      have HFL : Hid ((foldsL (sLevels n l) (n - 1)).length = n - 1) := Lib.hid (foldsL_length _ _)
      clear C1 C2 C3 C4 C5 C6 C7 C8 hok hn hnr hnb fr fb frb ff
      go_wp2_with fail
      refine (HC1.out _ HR1.out).mono ?_
      rintro e w2 ⟨hb2, g2, n2, c2, hn2, rfl, hg2, hr2⟩
      obtain rfl : n2 = n := by rw [← hn2]; exact HNR.out
      have HB2 := Lib.hid (below_step HB1.out hb2)
      have HL2 := Lib.hid (HR1.out.next hb2)
      have HO2 := Lib.hid hr2
      clear hn2 hb2 hr2
      go_wp2_with fail
      refine (HC2.out _ HL2.out).mono ?_
      rintro e w3 ⟨hb3, g3, n3, c3, hn3, rfl, hg3, hr3⟩
      obtain rfl : n3 = n2 := by rw [← hn3]; exact HNR.out
      have HB3 := Lib.hid (below_step HB2.out hb3)
      have HL3 := Lib.hid (HL2.out.next hb3)
      have HO3 := Lib.hid (HO2.out.next hb3)
      have HW3 := Lib.hid hr3
      clear hn3 hb3 hr3
      go_wp2_with fail
      refine (sameInts g2 g3 _ c2 c3 l.reverse _ HNR.out (by omega) HO3.out HW3.out).mono ?_
      rintro e w4 ⟨rfl, hb4⟩
      have HB4 := Lib.hid (below_step HB3.out hb4)
      have HL4 := Lib.hid (HL3.out.next hb4)
      have HO4 := Lib.hid (HO3.out.next hb4)
      clear hb4
      go_wp2_with fail
      refine (HC5.out g2 c2 _ HO4.out).mono ?_
      rintro e w5 ⟨hb5, g5, n5, c5, hn5, rfl, hg5, hr5⟩
      obtain rfl : n5 = n3 := by rw [← hn5]; exact HN.out
      have HB5 := Lib.hid (below_step HB4.out hb5)
      have HL5 := Lib.hid (HL4.out.next hb5)
      have HO5 := Lib.hid (HO4.out.next hb5)
      have HX5 := Lib.hid hr5
      clear hn5 hb5 hr5
      go_wp2_with fail
      refine (HC3.out _ HL5.out).mono ?_
      rintro e w6 ⟨hb6, a, ha, rfl⟩
      have HB6 := Lib.hid (below_step HB5.out hb6)
      have HL6 := Lib.hid (HL5.out.next hb6)
      have HO6 := Lib.hid (HO5.out.next hb6)
      have HX6 := Lib.hid (HX5.out.next hb6)
      have HA := Lib.hid ha
      clear ha hb6
      go_wp2_with fail
      refine (HC6.out g2 c2 _ HO6.out).mono ?_
      rintro e w7 ⟨hb7, b, hb, rfl⟩
      have HB7 := Lib.hid (below_step HB6.out hb7)
      have HL7 := Lib.hid (HL6.out.next hb7)
      have HO7 := Lib.hid (HO6.out.next hb7)
      have HX7 := Lib.hid (HX6.out.next hb7)
      have HBB : Hid (b = mkS ((bl a).map swp)) := Lib.hid (by rw [HA.out]; exact eq_mkS hb)
      have HAS : Hid (a.size ≤ 1048576) := Lib.hid (by rw [← bl_length, HA.out, HFL.out]; omega)
      clear hb hb7
      go_wp2_with fail
      refine (HC7.out g2 c2 _ HO7.out).mono ?_
      rintro e w8 ⟨hb8, g8, n8, c8, hn8, rfl, hg8, hr8⟩
      obtain rfl : n8 = n5 := by rw [← hn8]; exact HNBR.out
      have HB8 := Lib.hid (below_step HB7.out hb8)
      have HL8 := Lib.hid (HL7.out.next hb8)
      have HX8 := Lib.hid (HX7.out.next hb8)
      have HY8 := Lib.hid hr8
      clear hn8 hb8 hr8
      go_wp2_with fail
      refine (HC4.out _ HL8.out).mono ?_
      rintro e w9 ⟨hb9, g9, n9, c9, hn9, rfl, hg9, hr9⟩
      obtain rfl : n9 = n8 := by rw [← hn9]; exact HNB.out
      have HB9 := Lib.hid (below_step HB8.out hb9)
      have HL9 := Lib.hid (HL8.out.next hb9)
      have HX9 := Lib.hid (HX8.out.next hb9)
      have HY9 := Lib.hid (HY8.out.next hb9)
      have HZ9 := Lib.hid hr9
      clear hn9 hb9 hr9
      go_wp2_with fail
      refine (HC8.out g9 c9 _ HZ9.out).mono ?_
      rintro e wa ⟨hba, ga, na, ca, hna, rfl, hga, hra⟩
      obtain rfl : na = n9 := by rw [← hna]; exact HNBR.out
      have HBa := Lib.hid (below_step HB9.out hba)
      have HLa := Lib.hid (HL9.out.next hba)
      have HXa := Lib.hid (HX9.out.next hba)
      have HYa := Lib.hid (HY9.out.next hba)
      have HVa := Lib.hid hra
      clear hna hba hra
      go_wp2_with fail
      refine (sameInts g5 G _ c5 cap l _ HN.out (by omega) HXa.out HLa.out).mono ?_
      rintro e wb ⟨rfl, hbb⟩
      have HBb := Lib.hid (below_step HBa.out hbb)
      have HYb := Lib.hid (HYa.out.next hbb)
      have HVb := Lib.hid (HVa.out.next hbb)
      clear hbb
      go_wp2_with fail
      refine (implFoldsSwap a _ HAS.out).mono ?_
      rintro e wc ⟨rfl, hbc⟩
      have HBc := Lib.hid (below_step HBb.out hbc)
      have HYc := Lib.hid (HYb.out.next hbc)
      have HVc := Lib.hid (HVb.out.next hbc)
      have teq : (b.toList == (mkS ((bl a).map swp)).toList) = true := by rw [HBB.out]; exact beq_self_eq_true _
      clear hbc
      go_wp2_with fail
      refine (sameInts g8 ga _ c8 ca (backL l).reverse _ HNBR.out (by omega) HYc.out HVc.out).mono ?_
      rintro e wd ⟨rfl, hbd⟩
      have HBd := Lib.hid (below_step HBc.out hbd)
      clear hbd
      go_wp2_with fail
      go_ret
      exact ⟨rfl, HBd.out⟩
end Go.Proofs.Ytafeepmikfffcaa
