/- The walks of lengthsValid, StripValid, placesOf, inside and crossed of the program. Conditions: each theorem's own premises. -/
import Derived.Test.YtadpbbjahckoaaaStampA
import Derived.Test.YtadpbbjahckoaaaWordA
namespace Go.Proofs.Ytadpbbjahckoaaa
set_option maxRecDepth 100000
open Go.RowKit
def lenOk (x : Int) : Bool := decide (1 ≤ x) && decide (x ≤ 1000)
/-- Whether a list are lengths of parts. -/
def lensOk (l : List Int) : Bool := decide (1 ≤ l.length ∧ l.length ≤ 6) && l.all lenOk
set_option maxHeartbeats 1000000 in
theorem lengthsValid (g n c : Nat) (xs : List Int) (w : World) (hn : xs.length = n) (hr : RowI w g xs) :
    Calls Try.prog 60 #[.slice (some ⟨g, 0, none⟩) n c] w fun e w' => e = .returned (.bool (lensOk xs)) ∧ w = w' := by
  have HN := Lib.hid hn
  have HR := Lib.hid hr
  clear hn hr
  by_cases h1 : n < 1
  · have HB : Hid (lensOk xs = false) := by show _ = _; unfold lensOk; rw [HN.out, decide_eq_false (by omega)]; rfl
    have k1 : (n : Int) < 1 := by omega
    go_enter Try.func60, Try.ntmps60
    go_wp2
    go_ret
    exact ⟨ret_bool (by rw [HB.out]), rfl⟩
  · by_cases h2 : 6 < n
    · have HB : Hid (lensOk xs = false) := by show _ = _; unfold lensOk; rw [HN.out, decide_eq_false (by omega)]; rfl
      have k1 : ¬ (n : Int) < 1 := by omega
      have k2 : (6 : Int) < (n : Int) := by omega
      go_enter Try.func60, Try.ntmps60
      go_wp2
      go_ret
      exact ⟨ret_bool (by rw [HB.out]), rfl⟩
    · have HB : Hid (lensOk xs = xs.all lenOk) := by show _ = _; unfold lensOk; rw [HN.out, decide_eq_true (by omega)]; rfl
      have k1 : ¬ (n : Int) < 1 := by omega
      have k2 : ¬ (6 : Int) < (n : Int) := by omega
      go_enter Try.func60, Try.ntmps60
      go_wp2
      go_loopw [15] (fun i wr => ∃ k : Nat, k ≤ n ∧ i = .int .i64 k ∧ Hid (∀ x ∈ xs.take k, lenOk x = true) ∧ w = wr) (fun i _ => n - (intOf i).toNat)
      case atStart => exact ⟨0, Nat.zero_le _, rfl, Lib.hid (fun x hx => by rw [List.take_zero] at hx; cases hx), rfl⟩
      case round =>
        obtain ⟨k, hk, rfl, HA, rfl⟩ := hrel
        by_cases hlt : k < n
        · obtain ⟨x, hx⟩ : ∃ x, xs[k]? = some x := ⟨_, List.getElem?_eq_getElem (by rw [HN.out]; exact hlt)⟩
          have c1 := HR.out.2 k x hx
          have HX := Lib.hid hx
          clear hx
          by_cases hx1 : x < 1
          · have HF : Hid (xs.all lenOk = false) := by
              show _ = _
              rw [List.all_eq_false]
              exact ⟨x, List.mem_of_getElem? HX.out, by unfold lenOk; simp; omega⟩
            go_wp2
            go_ret
            exact ⟨ret_bool (by rw [HB.out, HF.out]), rfl⟩
          · by_cases hx2 : 1000 < x
            · have HF : Hid (xs.all lenOk = false) := by
                show _ = _
                rw [List.all_eq_false]
                exact ⟨x, List.mem_of_getElem? HX.out, by unfold lenOk; simp; omega⟩
              go_wp2
              go_ret
              exact ⟨ret_bool (by rw [HB.out, HF.out]), rfl⟩
            · have HA2 : Hid (∀ y ∈ xs.take (k + 1), lenOk y = true) := fun y hy => by
                obtain ⟨h1, h2⟩ := List.getElem?_eq_some_iff.1 HX.out
                rw [List.take_succ_eq_append_getElem h1, List.mem_append, List.mem_singleton, h2] at hy
                rcases hy with hy | rfl
                · exact HA.out y hy
                · unfold lenOk; simp; omega
              go_wp2
              go_roundw
              case rel => exact ⟨k + 1, by omega, by go_num, HA2, (by first | rfl | trivial)⟩
              case measure => simp [intOf]; omega
        · obtain rfl : k = n := by omega
          have HT : Hid (xs.all lenOk = true) := by
            show _ = _
            rw [List.all_eq_true]
            intro x hx
            refine HA.out x ?_
            rw [← HN.out, List.take_length]
            exact hx
          go_wp2
          go_ret
          exact ⟨ret_bool (by rw [HB.out, HT.out]), rfl⟩
def stripOk (l : List Int) (f : List UInt8) : Bool := lensOk l && foldsOk f ((l.length : Int) - 1)
theorem lensOk_len {l : List Int} (h : lensOk l = true) : 1 ≤ l.length ∧ l.length ≤ 6 ∧ ∀ (i : Nat) (x : Int), l[i]? = some x → 1 ≤ x ∧ x ≤ 1000 := by
  unfold lensOk at h
  rw [Bool.and_eq_true, decide_eq_true_eq, List.all_eq_true] at h
  refine ⟨h.1.1, h.1.2, fun i x hx => ?_⟩
  have := h.2 x (List.mem_of_getElem? hx)
  unfold lenOk at this
  simpa using this
set_option maxHeartbeats 1000000 in
theorem stripValid (g n c : Nat) (xs : List Int) (s : ByteArray) (w : World) (hn : xs.length = n) (hn2 : n ≤ 1000) (hs : s.size ≤ 1048576) (hr : RowI w g xs) :
    Calls Try.prog 49 #[.slice (some ⟨g, 0, none⟩) n c, .string s] w fun e w' => e = .returned (.bool (stripOk xs (bl s))) ∧ w = w' := by
  have C1 := lengthsValid g n c xs w hn hr
  have C2 := fun w => implFoldsValid s ((n : Int) - 1) w hs (by omega) (by omega)
  cases hok : lensOk xs with
  | false =>
    have HP : Hid (stripOk xs (bl s) = false) := by show _ = _; unfold stripOk; rw [hok]; rfl
    rw [hok] at C1
    have HC1 := Lib.hid C1
    clear C1 C2 hok hn hr
    go_enter Try.func49, Try.ntmps49
    go_wp2_with fail
    refine HC1.out.mono ?_
    rintro e w1 ⟨rfl, rfl⟩
    go_wp2_with fail
    go_ret
    exact ⟨ret_bool (by rw [HP.out]), rfl⟩
  | true =>
    have HP : Hid (stripOk xs (bl s) = foldsOk (bl s) ((n : Int) - 1)) := by show _ = _; unfold stripOk; rw [hok, hn]; rfl
    rw [hok] at C1
    have HC1 := Lib.hid C1
    have HC2 := Lib.hid C2
    clear C1 C2 hok hn hr
    go_enter Try.func49, Try.ntmps49
    go_wp2_with fail
    refine HC1.out.mono ?_
    rintro e w1 ⟨rfl, rfl⟩
    go_wp2_with fail
    refine (HC2.out _).mono ?_
    rintro e w1 ⟨rfl, rfl⟩
    go_wp2_with fail
    go_ret
    exact ⟨ret_bool (by rw [HP.out]), rfl⟩
/-- The places at which parts end, from a place on. -/
def plGo : Int → Nat → List Int → List Int
  | _, _, [] => []
  | p, i, x :: t => (if i % 2 = 0 then p + x else p - x) :: plGo (if i % 2 = 0 then p + x else p - x) (i + 1) t
def placesL (l : List Int) : List Int := 0 :: plGo 0 0 l
theorem plGo_length : ∀ (p : Int) (i : Nat) (l : List Int), (plGo p i l).length = l.length
  | _, _, [] => rfl
  | p, i, x :: t => by
    show (plGo _ _ t).length + 1 = t.length + 1
    rw [plGo_length]
theorem placesL_length (l : List Int) : (placesL l).length = l.length + 1 := by
  unfold placesL
  rw [List.length_cons, plGo_length]
set_option maxRecDepth 100000 in
set_option maxHeartbeats 4000000 in
theorem placesOf (g n c : Nat) (l : List Int) (w : World) (hn : l.length = n) (hok : lensOk l = true) (hr : RowI w g l) : Calls Try.prog 62 #[.slice (some ⟨g, 0, none⟩) n c] w (IntsBack w (placesL l)) := by
  obtain ⟨i0, hi0, hz0, hz1, hz2⟩ := info_parts infoI
  have HI := Lib.hid hi0; have HZ0 := Lib.hid hz0; have HZ1 := Lib.hid hz1; have HZ2 := Lib.hid hz2
  obtain ⟨hn1, hn6, hx⟩ := lensOk_len hok
  rw [hn] at hn1 hn6
  have HN := Lib.hid hn
  have HR := Lib.hid hr
  have HX := Lib.hid hx
  have hgl := hr.1
  clear hi0 hz0 hz1 hz2 hn hr hok hx
  go_enter Try.func62, Try.ntmps62
  go_wp2_with (first
    | (at_make; refine wpList_make_own _ rfl _ _ 22 rfl w.heap.size 3 i0 _ 1 Try.underlying22 HI.out HZ0.out HZ1.out _ _ _ (n + 1) rfl rfl (by omega) (by rw [HZ2.out]; omega) (by unfold maxLen; omega) (Nat.le_refl _) ?_; intro w1 hown hgr; have hb1 : Below w.heap.size w w1 := (Below.refl _ _).grown hgr (Nat.le_refl _) (by intro k hk; cases hk); have hz1 := hb1.size; have hgw : w.heap.size ≤ w.heap.size := Nat.le_refl _)
    | (at_builtin; refine wpList_append_own _ rfl _ _ 22 rfl w.heap.size 3 i0 (.int .i64 0) 1 8 Try.underlying22 HI.out HZ0.out HZ1.out HZ2.out rfl (by decide) _ 0 _ rfl (hown.alloc _) ⟨w1.heap.size, 0, none⟩ 1 1 [.int .i64 0] rfl rfl (cell_one_new _ _ _) (ints_oneCell .i64 [0]) (by unfold maxLen; omega) (by omega) (by simp; omega) ?_; intro v' w6 hown6 hgr6 _; obtain ⟨g6, cap6, hv6, hg6, hl6⟩ := ownI_form hown6 (by omega); subst hv6)
    | go_in)
  have hb6 : Below w.heap.size w w6 := (hb1.alloc hz1 _).grown hgr6 (by simp; omega) (by intro k hk; cases hk; exact Nat.le_refl _)
  clear hgr6 hgr hown hb1
  go_loopw [3, 4, 17] (fun v p i wr => ∃ k g' cap : Nat, ∃ x : Int, k ≤ n ∧ -(1000 * (k : Int)) ≤ x ∧ x ≤ 1000 * (k : Int) ∧ i = .int .i64 k ∧ p = .int .i64 x ∧ v = .slice (some ⟨g', 0, none⟩) (k + 1) cap ∧
      (∃ done : List Int, Hid (placesL l = done ++ plGo x k (l.drop k)) ∧ wr.ownsRow w.heap.size 3 1 (.slice (some ⟨g', 0, none⟩) (k + 1) cap) (k + 1) (done.map (Value.int .i64))) ∧ w.heap.size ≤ g' ∧ Below w.heap.size w wr)
    (fun _ _ i _ => n - (intOf i).toNat)
  case atStart => exact ⟨0, g6, cap6, 0, Nat.zero_le _, by omega, by omega, rfl, rfl, rfl, ⟨[0], Lib.hid rfl, by simpa using hown6⟩, hg6, hb6⟩
  case round =>
    obtain ⟨k, g', cap, x, hk, hx1, hx2, rfl, rfl, rfl, ⟨done, HD, hown⟩, hg', hbel⟩ := hrel
    have hzr := hbel.size
    by_cases hlt : k < n
    · obtain ⟨y, hy⟩ : ∃ y, l[k]? = some y := ⟨_, List.getElem?_eq_getElem (by rw [HN.out]; exact hlt)⟩
      have hd : l.drop k = y :: l.drop (k + 1) := by
        obtain ⟨h1, h2⟩ := List.getElem?_eq_some_iff.1 hy
        rw [List.drop_eq_getElem_cons h1, h2]
      have c1 := (HR.out.below hbel hgl).2 k y hy
      obtain ⟨y1, y2⟩ := HX.out k y hy
      have hst := HD.out
      rw [hd] at hst
      unfold plGo at hst
      by_cases hpar : k % 2 = 0
      · have t0 : ((k : Int) % 2 == 0) = true := by rw [beq_iff_eq]; omega
        rw [if_pos hpar] at hst
        have HD2 : Hid (placesL l = (done ++ [x + y]) ++ plGo (x + y) (k + 1) (l.drop (k + 1))) := by
          show _ = _
          rw [hst, List.append_assoc]
          rfl
        have HM : Hid ((done ++ [x + y]).map (Value.int .i64) = done.map (Value.int .i64) ++ [.int .i64 (x + y)]) := by show _ = _; simp
        clear hst hd hy hpar
        go_wp2_with (at_builtin; refine wpList_append_own _ rfl _ _ 22 rfl w.heap.size 3 i0 (.int .i64 0) 1 8 Try.underlying22 HI.out HZ0.out HZ1.out HZ2.out rfl (by decide) _ (k + 1) _ rfl (hown.alloc _) ⟨wr.heap.size, 0, none⟩ 1 1 [.int .i64 (x + y)] rfl rfl (cell_one_new _ _ _) (ints_oneCell .i64 [x + y]) (by unfold maxLen; omega) (by omega) (by simp; omega) ?_; intro v' w7 hown7 hgr7 _; obtain ⟨g7, cap7, hv7, hg7, hl7⟩ := ownI_form hown7 (by omega); subst hv7)
        have hbel7 : Below w.heap.size w w7 := (hbel.alloc hzr _).grown hgr7 (by simp; omega) (by intro k hk; cases hk; exact hg')
        go_roundw
        case rel => exact ⟨k + 1, g7, cap7, x + y, by omega, by omega, by omega, by go_num, by go_num, rfl, ⟨done ++ [x + y], HD2, by rw [HM.out]; exact hown7⟩, hg7, hbel7⟩
        case measure => simp [intOf]; omega
      · have t0 : ((k : Int) % 2 == 0) = false := by rw [beq_eq_false_iff_ne]; omega
        rw [if_neg hpar] at hst
        have HD2 : Hid (placesL l = (done ++ [x - y]) ++ plGo (x - y) (k + 1) (l.drop (k + 1))) := by
          show _ = _
          rw [hst, List.append_assoc]
          rfl
        have HM : Hid ((done ++ [x - y]).map (Value.int .i64) = done.map (Value.int .i64) ++ [.int .i64 (x - y)]) := by show _ = _; simp
        clear hst hd hy hpar
        go_wp2_with (at_builtin; refine wpList_append_own _ rfl _ _ 22 rfl w.heap.size 3 i0 (.int .i64 0) 1 8 Try.underlying22 HI.out HZ0.out HZ1.out HZ2.out rfl (by decide) _ (k + 1) _ rfl (hown.alloc _) ⟨wr.heap.size, 0, none⟩ 1 1 [.int .i64 (x - y)] rfl rfl (cell_one_new _ _ _) (ints_oneCell .i64 [x - y]) (by unfold maxLen; omega) (by omega) (by simp; omega) ?_; intro v' w7 hown7 hgr7 _; obtain ⟨g7, cap7, hv7, hg7, hl7⟩ := ownI_form hown7 (by omega); subst hv7)
        have hbel7 : Below w.heap.size w w7 := (hbel.alloc hzr _).grown hgr7 (by simp; omega) (by intro k hk; cases hk; exact hg')
        go_roundw
        case rel => exact ⟨k + 1, g7, cap7, x - y, by omega, by omega, by omega, by go_num, by go_num, rfl, ⟨done ++ [x - y], HD2, by rw [HM.out]; exact hown7⟩, hg7, hbel7⟩
        case measure => simp [intOf]; omega
    · obtain rfl : k = n := by omega
      have he : placesL l = done := by
        rw [HD.out, List.drop_of_length_le (by rw [HN.out]; exact Nat.le_refl _)]
        show done ++ [] = done
        rw [List.append_nil]
      obtain ⟨h1, h2⟩ := RowI.of_own hown
      rw [← he] at h1 h2
      go_wp2_with fail
      go_ret
      exact ⟨g', k + 1, cap, h2, rfl, hg', h1, hbel⟩
end Go.Proofs.Ytadpbbjahckoaaa
