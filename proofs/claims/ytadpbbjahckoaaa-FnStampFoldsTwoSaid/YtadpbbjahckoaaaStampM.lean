/- The walk of the program's StampFolds. Conditions: the theorem's own premises. -/
import Derived.Test.YtadpbbjahckoaaaPlainQ
import Derived.Test.YtadpbbjahckoaaaWordA
namespace Go.Proofs.Ytadpbbjahckoaaa
set_option maxRecDepth 100000
open Go.RowKit
def foldTo (lv : List Int) (m k : Nat) : List UInt8 := foldsL lv k ++ List.replicate (m - k) 0
theorem foldsL_length (lv : List Int) (k : Nat) : (foldsL lv k).length = k := by unfold foldsL; rw [List.length_map, List.length_range]
theorem foldTo_length {lv : List Int} {m k : Nat} (h : k ≤ m) : (foldTo lv m k).length = m := by
  unfold foldTo
  rw [List.length_append, foldsL_length, List.length_replicate]
  omega
theorem foldTo_set {lv : List Int} {m k : Nat} {c : UInt8} (h : k < m) (hc : foldB lv k = c) : (foldTo lv m k).set k c = foldTo lv m (k + 1) := by
  unfold foldTo
  rw [List.set_append_right _ _ (by rw [foldsL_length]; exact Nat.le_refl _), foldsL_length, Nat.sub_self, show m - k = (m - (k + 1)) + 1 by omega, List.replicate_succ, List.set_cons_zero, foldsL_step, hc, List.append_assoc]
  rfl
theorem foldTo_set2 {lv : List Int} {m k : Nat} {c d : UInt8} (h : k < m) (hc : foldB lv k = c) : ((foldTo lv m k).set k d).set k c = foldTo lv m (k + 1) := by
  rw [List.set_set]
  exact foldTo_set h hc
theorem foldTo_full (lv : List Int) (m : Nat) : foldTo lv m m = foldsL lv m := by
  unfold foldTo
  rw [Nat.sub_self]
  simp
set_option maxRecDepth 100000 in
set_option maxHeartbeats 4000000 in
theorem implStampFolds (g n c : Nat) (l : List Int) (w : World) (hn : l.length = n) (hn2 : n ≤ 1000) (hr : RowI w g l) :
    Calls Try.prog 27 #[.slice (some ⟨g, 0, none⟩) n c] w (FoldsBack w (possL l) (if possL l then foldsL (sLevels n l) (n - 1) else [])) := by
  have C1 := implStampPossible g n c l w hn hn2 hr
  have C2 := fun w (h : RowI w g l) => levelsOf g n c l w hn hn2 h
  have hgl := hr.1
  cases hok : possL l with
  | false =>
    rw [hok] at C1
    have HC1 := Lib.hid C1
    clear C1 C2 hok hn hr
    go_enter Try.func27, Try.ntmps27
    go_wp2_with fail
    refine HC1.out.mono ?_
    rintro e w1 ⟨rfl, hb1⟩
    go_wp2_with fail
    go_ret2
    exact ⟨hb1, _, rfl, rfl⟩
  | true =>
    obtain ⟨hrg, _⟩ := (poss_iff l).1 hok
    have hn1 : 1 ≤ n := by
      unfold rangeN at hrg
      rw [decide_eq_true_eq, hn] at hrg
      exact hrg.1
    have hlvs : levelsL l = some (sLevels n l) ∧ (sLevels n l).length = n := by
      rcases levels_same l with ⟨h1, h2⟩ | ⟨h1, h2⟩
      · unfold possL at hok
        rw [h1] at hok
        simp at hok
      · rw [hn] at h1 h2
        exact ⟨h1, by rw [h2.1, hn]⟩
    rw [hok] at C1
    obtain ⟨lv, hlvd⟩ : ∃ lv, lv = sLevels n l := ⟨_, rfl⟩
    rw [← hlvd] at hlvs ⊢
    obtain ⟨i0, hi0, hz0, hz1', hz2⟩ := info_parts infoByte
    have HI := Lib.hid hi0; have HZ0 := Lib.hid hz0; have HZ1 := Lib.hid hz1'; have HZ2 := Lib.hid hz2
    have HC1 := Lib.hid C1
    have HC2 := Lib.hid C2
    have HLV := Lib.hid hlvs.1
    have HLN := Lib.hid hlvs.2
    have HR := Lib.hid hr
    have HN := Lib.hid hn
    obtain ⟨m, hm⟩ : ∃ m, m = n - 1 := ⟨_, rfl⟩
    have em : (n : Int) - 1 = (m : Int) := by omega
    have hm2 : m + 1 = n := by omega
    rw [← hm]
    clear C1 C2 hok hn hr hlvs hrg hlvd hi0 hz0 hz1' hz2 hm
    go_enter Try.func27, Try.ntmps27
    go_wp2_with fail
    refine HC1.out.mono ?_
    rintro e w1 ⟨rfl, hb1⟩
    have hz1 := hb1.size
    go_wp2_with fail
    refine (HC2.out _ (HR.out.below hb1 hgl)).mono ?_
    intro e w2 hl
    obtain ⟨g2, c2, rfl, hg2, hr2, hb2⟩ := (levels_some HLV.out).1 hl
    have hb2' : Below w.heap.size w w2 := hb1.trans (hb2.mono hz1)
    have hz2 := hb2'.size
    have HR2 := Lib.hid hr2
    have hgl2 := hr2.1
    rw [HN.out]
    clear hl hr2 hb1 hb2
    go_wp2_with (refine wpList_make_buf rfl _ _ 28 rfl 5 i0 Try.underlying28 HI.out HZ0.out HZ1.out HZ2.out _ _ _ _ m rfl rfl rfl rfl (by omega) ?_; intro w3 hbuf hb3)
    have hz3 := hb3.size
    have HB0 : Hid (Buf w3 w2.heap.size (foldTo lv m 0)) := by
      show Buf _ _ _
      unfold foldTo
      exact hbuf
    clear hbuf
    go_wp2_with fail
    go_loopw [24] (fun i wr => ∃ k : Nat, k ≤ m ∧ i = .int .i64 k ∧ Hid (Buf wr w2.heap.size (foldTo lv m k)) ∧ Below w2.heap.size w2 wr) (fun i _ => m - (intOf i).toNat)
    case atStart => exact ⟨0, Nat.zero_le _, rfl, HB0, hb3⟩
    case round =>
      obtain ⟨k, hk, rfl, HBu, hbel⟩ := hrel
      by_cases hlt : k < m
      · obtain ⟨k1, hk1⟩ : ∃ k1, k1 = k + 1 := ⟨_, rfl⟩
        have hlv := HLN.out
        have hR2 := HR2.out.below hbel hgl2
        have c1 := hR2.2 k _ (getD_some (by omega))
        have c2 := hR2.2 k1 _ (getD_some (by omega))
        clear hlv
        obtain ⟨A, hA⟩ : ∃ A, A = lv.getD k 0 := ⟨_, rfl⟩
        obtain ⟨B, hB⟩ : ∃ B, B = lv.getD k1 0 := ⟨_, rfl⟩
        rw [← hA] at c1
        rw [← hB] at c2
        obtain ⟨Y, hY⟩ : ∃ Y, Y = ((k : Int) % 2 == 0) := ⟨_, rfl⟩
        have ty : ((k : Int) % 2 == 0) = Y := hY.symm
        have HST : Hid (foldB lv k = if (decide (A < B) == Y) = true then 86 else 77) := by
          show _ = _
          unfold foldB
          rw [← hk1, hA, hB, hY]
        obtain ⟨d1, d2⟩ := HBu.out.2 k (by rw [foldTo_length hk]; exact hlt)
        have hB1 := HBu.out.set k 77
        obtain ⟨d3, d4⟩ := hB1.2 k (by rw [List.length_set, foldTo_length hk]; exact hlt)
        have HB1 := Lib.hid hB1
        have c3 : (wr.setCell ⟨w2.heap.size, k, none⟩ (.int .u8 77)).cell? ⟨g2, k, none⟩ = some (.int .i64 A) := (World.cell?_setCell_other wr ⟨w2.heap.size, k, none⟩ ⟨g2, k, none⟩ _ (by intro e; injection e; omega)).trans c1
        have c4 : (wr.setCell ⟨w2.heap.size, k, none⟩ (.int .u8 77)).cell? ⟨g2, k1, none⟩ = some (.int .i64 B) := (World.cell?_setCell_other wr ⟨w2.heap.size, k, none⟩ ⟨g2, k1, none⟩ _ (by intro e; injection e; omega)).trans c2
        have hbel1 : Below w2.heap.size w2 (wr.setCell ⟨w2.heap.size, k, none⟩ (.int .u8 77)) := hbel.setCell (p := ⟨w2.heap.size, k, none⟩) (Nat.le_refl _) _
        have n2 : (0 : Int) ≤ (k : Int) := by omega
        have n3 : (k : Int) < (n : Int) := by omega
        have n4 : (0 : Int) ≤ (k1 : Int) := by omega
        have n5 : (k1 : Int) < (n : Int) := by omega
        have n6 : (k : Int) < (m : Int) := by omega
        have f1 : IntKind.i64.wrap ((k : Int) + 1) = (k1 : Int) := by rw [IntKind.wrap_i64]; omega
        by_cases hAB : A < B
        · cases Y with
          | true =>
            have HF2 : Hid (foldB lv k = 86) := by show _ = _; rw [HST.out, if_pos (by simp [hAB])]
            have HB2 : Hid (∀ d, Buf (((wr.setCell ⟨w2.heap.size, k, none⟩ (.int .u8 77)).drewN d).setCell ⟨w2.heap.size, k, none⟩ (.int .u8 86)) w2.heap.size (foldTo lv m (k + 1))) := by
              show ∀ _, _
              intro d
              rw [← foldTo_set2 hlt HF2.out (d := 77)]
              exact (show Buf ((wr.setCell ⟨w2.heap.size, k, none⟩ (.int .u8 77)).drewN d) _ _ from HB1.out).set k 86
            clear HST HB1 hk1 hA hB hY
            go_wp2_with fail
            go_quiet (fail)
            clear f1
            go_wp2_with fail
            go_roundw
            case rel => exact ⟨k + 1, by omega, by go_num, HB2.out _, (below_drewN hbel1 _).setCell (p := ⟨w2.heap.size, k, none⟩) (Nat.le_refl _) _⟩
            case measure => simp [intOf]; omega
          | false =>
            have HF2 : Hid (foldB lv k = 77) := by show _ = _; rw [HST.out, if_neg (by simp [hAB])]
            have HB2 : Hid (∀ d, Buf ((wr.setCell ⟨w2.heap.size, k, none⟩ (.int .u8 77)).drewN d) w2.heap.size (foldTo lv m (k + 1))) := by
              show ∀ _, _
              intro d
              rw [← foldTo_set hlt HF2.out]
              exact HB1.out
            clear HST HB1 hk1 hA hB hY
            go_wp2_with fail
            go_quiet (fail)
            clear f1
            go_wp2_with fail
            go_roundw
            case rel => exact ⟨k + 1, by omega, by go_num, HB2.out _, below_drewN hbel1 _⟩
            case measure => simp [intOf]; omega
        · have td : (A < B) = False := eq_false hAB
          cases Y with
          | true =>
            have HF2 : Hid (foldB lv k = 77) := by show _ = _; rw [HST.out, if_neg (by simp [hAB])]
            have HB2 : Hid (∀ d, Buf ((wr.setCell ⟨w2.heap.size, k, none⟩ (.int .u8 77)).drewN d) w2.heap.size (foldTo lv m (k + 1))) := by
              show ∀ _, _
              intro d
              rw [← foldTo_set hlt HF2.out]
              exact HB1.out
            clear HST HB1 hk1 hA hB hY
            go_wp2_with fail
            go_quiet (fail)
            clear f1
            go_wp2_with fail
            go_roundw
            case rel => exact ⟨k + 1, by omega, by go_num, HB2.out _, below_drewN hbel1 _⟩
            case measure => simp [intOf]; omega
          | false =>
            have HF2 : Hid (foldB lv k = 86) := by show _ = _; rw [HST.out, if_pos (by simp [hAB])]
            have HB2 : Hid (∀ d, Buf (((wr.setCell ⟨w2.heap.size, k, none⟩ (.int .u8 77)).drewN d).setCell ⟨w2.heap.size, k, none⟩ (.int .u8 86)) w2.heap.size (foldTo lv m (k + 1))) := by
              show ∀ _, _
              intro d
              rw [← foldTo_set2 hlt HF2.out (d := 77)]
              exact (show Buf ((wr.setCell ⟨w2.heap.size, k, none⟩ (.int .u8 77)).drewN d) _ _ from HB1.out).set k 86
            clear HST HB1 hk1 hA hB hY
            go_wp2_with fail
            go_quiet (fail)
            clear f1
            go_wp2_with fail
            go_roundw
            case rel => exact ⟨k + 1, by omega, by go_num, HB2.out _, (below_drewN hbel1 _).setCell (p := ⟨w2.heap.size, k, none⟩) (Nat.le_refl _) _⟩
            case measure => simp [intOf]; omega
      · obtain rfl : k = m := by omega
        have HBF : Hid (Buf wr w2.heap.size (foldsL lv k)) := by
          show Buf _ _ _
          rw [← foldTo_full]
          exact HBu.out
        have hbf : Hid ((foldsL lv k).length = k) := Lib.hid (foldsL_length _ _)
        clear HBu
        go_wp2_with (refine wpList_string rfl 28 9 5 _ rfl Try.underlying28 Try.underlying5 Try.underlying9 _ _ _ rfl _ HBF.out hbf.out ?_)
        go_ret2
        exact ⟨hb2'.trans (hbel.mono hz2), _, bl_mkS _, rfl⟩
end Go.Proofs.Ytadpbbjahckoaaa
