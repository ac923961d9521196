/- The walks of the reference's l2Levels, l3Stack and l1Back. Conditions: each theorem's own premises. -/
import Derived.Test.YtadpbbjahckoaaaStampA
namespace Go.Proofs.Ytadpbbjahckoaaa
set_option maxRecDepth 100000
open Go.RowKit
theorem infoI3 : (Try.prog.info? 3).map (fun i => (i.zero, i.size, i.bytes)) = some (some (.int .i64 0), 1, 8) := by kernel_rfl
/-- The last place of a number in a list, from a place on; else what was found ahead. -/
def lastGo (x : Int) : List Int → Nat → Int → Int
  | [], _, acc => acc
  | y :: t, k, acc => lastGo x t (k + 1) (if y = x then (k : Int) else acc)
def lastOf (l : List Int) (x : Int) : Int := lastGo x l 0 (-1)
theorem lastGo_bd (x : Int) : ∀ (l : List Int) (k : Nat) (acc : Int), acc ≤ (k : Int) → lastGo x l k acc ≤ (k : Int) + l.length
  | [], k, acc, h => by
    show acc ≤ _
    simp only [List.length_nil]
    omega
  | y :: t, k, acc, h => by
    have := lastGo_bd x t (k + 1) (if y = x then (k : Int) else acc) (by split <;> omega)
    show lastGo x t _ _ ≤ _
    rw [List.length_cons]
    omega
/-- The levels of the first n numbers; none at all if one is not there. -/
def sLevels (n : Nat) (l : List Int) : List Int := if (List.range n).all (fun i => decide (0 ≤ lastOf l (i : Int))) then (List.range n).map fun (i : Nat) => lastOf l (i : Int) else []
theorem sLevels_none {n i : Nat} {l : List Int} (hi : i < n) (h : lastOf l (i : Int) < 0) : sLevels n l = [] := by
  unfold sLevels
  rw [if_neg]
  intro e
  have := List.all_eq_true.1 e i (List.mem_range.2 hi)
  rw [decide_eq_true_eq] at this
  omega
theorem sLevels_all {n : Nat} {l : List Int} (h : ∀ i, i < n → 0 ≤ lastOf l (i : Nat)) : sLevels n l = (List.range n).map fun (i : Nat) => lastOf l (i : Int) := by
  unfold sLevels
  rw [if_pos]
  rw [List.all_eq_true]
  intro i hi
  rw [decide_eq_true_eq]
  exact h i (List.mem_range.1 hi)
set_option maxRecDepth 100000 in
set_option maxHeartbeats 4000000 in
theorem l2Levels (g m n c : Nat) (l : List Int) (w : World) (hm : l.length = m) (hm2 : m ≤ 1000) (hn : n ≤ 1000) (hr : RowI w g l) : Calls Try.prog 48 #[.int .i64 n, .slice (some ⟨g, 0, none⟩) m c] w (IntsBack w (sLevels n l)) := by
  obtain ⟨i0, hi0, hz0, hz1, hz2⟩ := info_parts infoI3
  have HI := Lib.hid hi0; have HZ0 := Lib.hid hz0; have HZ1 := Lib.hid hz1; have HZ2 := Lib.hid hz2
  have HM := Lib.hid hm
  have HR := Lib.hid hr
  have hgl := hr.1
  clear hi0 hz0 hz1 hz2 hm hr
  go_enter Try.func48, Try.ntmps48
  go_wp2_with fail
  go_loopw [5, 6] (fun v i wr => ∃ k g' cap : Nat, k ≤ n ∧ i = .int .i64 k ∧ v = .slice (some ⟨g', 0, none⟩) k cap ∧ Hid (∀ i, i < k → 0 ≤ lastOf l (i : Nat)) ∧ wr.ownsRow w.heap.size 3 1 (.slice (some ⟨g', 0, none⟩) k cap) k (((List.range k).map fun (i : Nat) => lastOf l (i : Int)).map (Value.int .i64)) ∧ w.heap.size ≤ g' ∧ Below w.heap.size w wr)
    (fun _ i _ => n - (intOf i).toNat)
  case atStart => exact ⟨0, w.heap.size, 0, Nat.zero_le _, rfl, rfl, Lib.hid (fun i h => by omega), by
    have := World.ownsRow_lit (base := w.heap.size) (e := 3) (size := 1) w #[] 0 (Nat.le_refl _) (by unfold maxLen; omega) rfl
    simpa using this, Nat.le_refl _, (by repeat (first | exact Below.refl _ _ | assumption | (refine Below.setCell ?_ (by first | omega | (simp; done) | (simp; omega)) _) | (refine Below.alloc ?_ (by first | omega | (simp; done) | (simp; omega)) _) | (refine below_drewN ?_ _) | (refine Below.drew ?_)))⟩
  case round =>
    obtain ⟨k, g', cap, hk, rfl, rfl, HA, hown, hg', hbel⟩ := hrel
    have hzr := hbel.size
    by_cases hlt : k < n
    · obtain ⟨wo, hwo⟩ : ∃ wo : World, wo = wr := ⟨_, rfl⟩
      subst hwo
      go_wp2_with fail
      go_loopw [7, 8] (fun v i wr => ∃ (j : Nat) (x : Int), j ≤ m ∧ i = .int .i64 j ∧ v = .int .i64 x ∧ -1 ≤ x ∧ x ≤ j ∧ Hid (lastOf l (k : Int) = lastGo (k : Int) (l.drop j) j x) ∧ wo = wr) (fun _ i _ => m - (intOf i).toNat)
      case atStart => exact ⟨0, -1, Nat.zero_le _, rfl, rfl, by omega, by omega, Lib.hid rfl, rfl⟩
      case round =>
        obtain ⟨j, x, hj, rfl, rfl, hx1, hx2, HX, rfl⟩ := hrel
        by_cases hlj : j < m
        · obtain ⟨y, hy⟩ : ∃ y, l[j]? = some y := ⟨_, List.getElem?_eq_getElem (by rw [HM.out]; exact hlj)⟩
          have c1 := (HR.out.below hbel hgl).2 j y hy
          have hd : l.drop j = y :: l.drop (j + 1) := by
            obtain ⟨h1, h2⟩ := List.getElem?_eq_some_iff.1 hy
            rw [List.drop_eq_getElem_cons h1, h2]
          have hs := HX.out
          rw [hd] at hs
          cases hyk : (y == (k : Int)) with
          | true =>
            have HX2 : Hid (lastOf l (k : Int) = lastGo (k : Int) (l.drop (j + 1)) (j + 1) (j : Int)) := by
              show _ = _
              rw [hs]
              show lastGo _ _ _ (if y = (k : Int) then _ else _) = _
              rw [if_pos (by rw [beq_iff_eq] at hyk; exact hyk)]
            clear hy hd hs
            go_wp2_with fail
            go_roundw
            case rel => exact ⟨j + 1, j, by omega, by go_num, rfl, by omega, by omega, HX2, (by first | rfl | trivial)⟩
            case measure => simp [intOf]; omega
          | false =>
            have HX2 : Hid (lastOf l (k : Int) = lastGo (k : Int) (l.drop (j + 1)) (j + 1) x) := by
              show _ = _
              rw [hs]
              show lastGo _ _ _ (if y = (k : Int) then _ else _) = _
              rw [if_neg (by rw [beq_eq_false_iff_ne] at hyk; exact hyk)]
            clear hy hd hs
            go_wp2_with fail
            go_roundw
            case rel => exact ⟨j + 1, x, by omega, by go_num, rfl, by omega, by omega, HX2, (by first | rfl | trivial)⟩
            case measure => simp [intOf]; omega
        · obtain rfl : j = m := by omega
          have hx : lastOf l (k : Int) = x := by
            rw [HX.out, List.drop_of_length_le (by rw [HM.out]; exact Nat.le_refl _)]
            rfl
          by_cases hx0 : x < 0
          · have HS : Hid (([] : List Int) = sLevels n l) := (sLevels_none hlt (by rw [hx]; exact hx0)).symm
            clear hx hown
            go_wp2_with fail
            go_ret
            exact ⟨_, 0, 0, by rw [← HS.out]; rfl, rfl, by omega, ⟨by simp, fun i x h => by rw [← HS.out] at h; simp at h⟩, hbel.alloc hzr _⟩
          · have HA2 : Hid (∀ i, i < k + 1 → 0 ≤ lastOf l (i : Nat)) := fun i h => by
              by_cases e : i < k
              · exact HA.out i e
              · have : i = k := by omega
                subst this
                rw [hx]
                omega
            have HMp : Hid ((((List.range (k + 1)).map fun (i : Nat) => lastOf l (i : Int)).map (Value.int .i64)) = (((List.range k).map fun (i : Nat) => lastOf l (i : Int)).map (Value.int .i64)) ++ [.int .i64 x]) := by
              show _ = _
              rw [List.range_succ, List.map_append, List.map_append, ← hx]
              rfl
            clear hx
            go_wp2_with (at_builtin; refine wpList_append_own _ rfl _ _ 22 rfl w.heap.size 3 i0 (.int .i64 0) 1 8 Try.underlying22 HI.out HZ0.out HZ1.out HZ2.out rfl (by decide) _ k _ rfl (hown.alloc _) ⟨wo.heap.size, 0, none⟩ 1 1 [.int .i64 x] rfl rfl (cell_one_new _ _ _) (ints_oneCell .i64 [x]) (by unfold maxLen; omega) (by omega) (by simp; omega) ?_; intro v' w6 hown6 hgr6 _; obtain ⟨g6, cap6, hv6, hg6, hl6⟩ := ownI_form hown6 (by omega); subst hv6)
            have hbel6 : Below w.heap.size w w6 := (hbel.alloc hzr _).grown hgr6 (by simp; omega) (by intro k hk; cases hk; exact hg')
            go_roundw
            case rel => exact ⟨k + 1, g6, cap6, by omega, by go_num, rfl, HA2, by rw [HMp.out]; exact hown6, hg6, hbel6⟩
            case measure => simp [intOf]; omega
    · obtain rfl : k = n := by omega
      obtain ⟨h1, h2⟩ := RowI.of_own hown
      have HS := Lib.hid (sLevels_all HA.out)
      go_wp2_with fail
      go_ret
      exact ⟨g', k, cap, by rw [HS.out]; exact h2, rfl, hg', by rw [HS.out]; exact h1, hbel⟩
set_option maxHeartbeats 1000000 in
theorem l1Back (g n c : Nat) (xs : List Int) (w : World) (hn : xs.length = n) (hn2 : n ≤ 1000) (hr : RowI w g xs) : Calls Try.prog 46 #[.slice (some ⟨g, 0, none⟩) n c] w (IntsBack w xs.reverse) := by
  obtain ⟨i0, hi0, hz0, hz1, hz2⟩ := info_parts infoI3
  have HI := Lib.hid hi0; have HZ0 := Lib.hid hz0; have HZ1 := Lib.hid hz1; have HZ2 := Lib.hid hz2
  have HN := Lib.hid hn
  have HR := Lib.hid hr
  have hgl := hr.1
  clear hi0 hz0 hz1 hz2 hn hr
  go_enter Try.func46, Try.ntmps46
  go_wp2_with fail
  go_loopw [3, 4] (fun v i wr => ∃ k g' cap : Nat, ∃ x : Int, k ≤ n ∧ x + k + 1 = n ∧ i = .int .i64 x ∧ v = .slice (some ⟨g', 0, none⟩) k cap ∧ wr.ownsRow w.heap.size 3 1 (.slice (some ⟨g', 0, none⟩) k cap) k ((xs.reverse.take k).map (Value.int .i64)) ∧ w.heap.size ≤ g' ∧ Below w.heap.size w wr)
    (fun _ i _ => (intOf i + 1).toNat)
  case atStart => exact ⟨0, w.heap.size, 0, n - 1, Nat.zero_le _, by omega, rfl, rfl, by
    have := World.ownsRow_lit (base := w.heap.size) (e := 3) (size := 1) w #[] 0 (Nat.le_refl _) (by unfold maxLen; omega) rfl
    simpa using this, Nat.le_refl _, (by repeat (first | exact Below.refl _ _ | assumption | (refine Below.setCell ?_ (by first | omega | (simp; done) | (simp; omega)) _) | (refine Below.alloc ?_ (by first | omega | (simp; done) | (simp; omega)) _) | (refine below_drewN ?_ _) | (refine Below.drew ?_)))⟩
  case round =>
    obtain ⟨k, g', cap, x, hk, hx, rfl, rfl, hown, hg', hbel⟩ := hrel
    have hzr := hbel.size
    by_cases hlt : 0 ≤ x
    · obtain ⟨j, rfl⟩ : ∃ j : Nat, x = j := ⟨x.toNat, by omega⟩
      have hjn : j < n := by omega
      obtain ⟨p, hp⟩ : ∃ p, xs[j]? = some p := ⟨_, List.getElem?_eq_getElem (by rw [HN.out]; exact hjn)⟩
      have c1 := (HR.out.below hbel hgl).2 j p hp
      have HM : Hid ((xs.reverse.take (k + 1)).map (Value.int .i64) = (xs.reverse.take k).map (Value.int .i64) ++ [.int .i64 p]) := by
        show _ = _
        have hk2 : k < xs.reverse.length := by rw [List.length_reverse, HN.out]; omega
        have hq : xs.reverse[k]? = some p := by
          rw [List.getElem?_reverse (by rw [HN.out]; omega), HN.out, ← hp]
          congr 1
          omega
        rw [List.take_succ_eq_append_getElem hk2, List.map_append]
        rw [List.getElem?_eq_getElem hk2] at hq
        rw [Option.some.inj hq]
        rfl
      have k1 : (j : Int) < (n : Int) := by omega
      clear hp
      go_wp2_with (at_builtin; refine wpList_append_own _ rfl _ _ 22 rfl w.heap.size 3 i0 (.int .i64 0) 1 8 Try.underlying22 HI.out HZ0.out HZ1.out HZ2.out rfl (by decide) _ k _ rfl (hown.alloc _) ⟨wr.heap.size, 0, none⟩ 1 1 [.int .i64 p] rfl rfl (cell_one_new _ _ _) (ints_oneCell .i64 [p]) (by unfold maxLen; omega) (by omega) (by simp; omega) ?_; intro v' w6 hown6 hgr6 _; obtain ⟨g6, cap6, hv6, hg6, hl6⟩ := ownI_form hown6 (by omega); subst hv6)
      have hbel6 : Below w.heap.size w w6 := (hbel.alloc hzr _).grown hgr6 (by simp; omega) (by intro k hk; cases hk; exact hg')
      go_roundw
      case rel => exact ⟨k + 1, g6, cap6, j - 1, by omega, by omega, by go_num, by go_num, by rw [HM.out]; exact hown6, hg6, hbel6⟩
      case measure => first | (simp [intOf]; done) | (simp [intOf]; omega)
    · obtain rfl : k = n := by omega
      have he : xs.reverse.take k = xs.reverse := List.take_of_length_le (by rw [List.length_reverse, HN.out]; exact Nat.le_refl _)
      rw [he] at hown
      obtain ⟨h1, h2⟩ := RowI.of_own hown
      go_wp2_with fail
      go_ret
      exact ⟨g', k, cap, h2, rfl, hg', h1, hbel⟩
theorem l6In3 (n lo hi : Int) (w : World) : Calls Try.prog 31 #[.int .i64 n, .int .i64 lo, .int .i64 hi] w fun e w' => e = .returned (.bool (decide (lo ≤ n) && decide (n ≤ hi))) ∧ w = w' := by
  by_cases h1 : lo ≤ n
  · by_cases h2 : n ≤ hi
    · go_enter Try.func31, Try.ntmps31
      go_wp2
      go_ret
      exact ⟨ret_bool (by rw [decide_eq_true h1, decide_eq_true h2]; rfl), rfl⟩
    · go_enter Try.func31, Try.ntmps31
      go_wp2
      go_ret
      exact ⟨ret_bool (by simp; omega), rfl⟩
  · go_enter Try.func31, Try.ntmps31
    go_wp2
    go_ret
    exact ⟨ret_bool (by simp; omega), rfl⟩
def sStackL (l : List Int) : Bool := rangeN l.length && decide ((sLevels l.length l).length = l.length)
theorem l3Stack (g n c : Nat) (l : List Int) (w : World) (hn : l.length = n) (hn2 : n ≤ 1000) (hr : RowI w g l) : Calls Try.prog 59 #[.slice (some ⟨g, 0, none⟩) n c] w fun e w' => e = .returned (.bool (sStackL l)) ∧ Below w.heap.size w w' := by
  have C1 := fun w => l6In3 n 1 7 w
  have hrg : (decide ((1 : Int) ≤ (n : Int)) && decide ((n : Int) ≤ 7)) = rangeN n := by
    unfold rangeN
    by_cases h1 : 1 ≤ n <;> by_cases h2 : n ≤ 7 <;> simp [h1, h2] <;> omega
  rw [hrg] at C1
  cases hok : rangeN n with
  | false =>
    have HP : Hid (sStackL l = false) := by show _ = _; unfold sStackL; rw [hn, hok]; rfl
    rw [hok] at C1
    have HC1 := Lib.hid C1
    clear C1 hok hrg hn hr
    go_enter Try.func59, Try.ntmps59
    go_wp2_with fail
    refine (HC1.out _).mono ?_
    rintro e w1 ⟨rfl, rfl⟩
    go_wp2_with fail
    go_ret
    exact ⟨ret_bool (by rw [HP.out]), Below.refl _ _⟩
  | true =>
    have HP : Hid (sStackL l = ((((sLevels n l).length : Nat) : Int) == (n : Int))) := by
      show _ = _
      unfold sStackL
      rw [hn, hok, Bool.true_and]
      by_cases e : (sLevels n l).length = n
      · rw [decide_eq_true e, e, beq_self_eq_true]
      · rw [decide_eq_false e]
        symm
        rw [beq_eq_false_iff_ne]
        omega
    rw [hok] at C1
    have C2 := l2Levels g n n c l w hn hn2 hn2 hr
    have HC1 := Lib.hid C1
    have HC2 := Lib.hid C2
    clear C1 C2 hok hrg hn hr
    go_enter Try.func59, Try.ntmps59
    go_wp2_with fail
    refine (HC1.out _).mono ?_
    rintro e w1 ⟨rfl, rfl⟩
    go_wp2_with fail
    refine HC2.out.mono ?_
    rintro e w2 ⟨g2, n2, c2, hn2x, rfl, hg2, hr2, hb2⟩
    have HN2 := Lib.hid hn2x
    clear hn2x hr2
    go_wp2_with fail
    go_ret
    exact ⟨ret_bool (by rw [HP.out, HN2.out]), hb2⟩
end Go.Proofs.Ytadpbbjahckoaaa
