/- The walks of WordOf, of the program and of the reference. Conditions: each theorem's own premises. -/
import Derived.Test.YtdgkjlehofkooaaWordB
import Derived.Deep.RegionHeld3
namespace Go.Proofs.Ytdgkjlehofkooaa.W
set_option maxRecDepth 100000
open Go.RowKit
/-- The creases of a strip folded by a letter, and then as others tell. -/
def join1 (c : UInt8) (w : List UInt8) : List UInt8 := if c = 82 ∨ c = 114 then w ++ ([if 97 ≤ c.toNat then 77 else 86] ++ otherL w) else otherL w ++ ([if 97 ≤ c.toNat then 77 else 86] ++ w)
/-- The creases of a strip folded by letters. -/
def ofL : List UInt8 → List UInt8
  | [] => []
  | c :: r => join1 c (ofL r)
theorem otherL_length (l : List UInt8) : (otherL l).length = l.length := by unfold otherL; rw [List.length_map, List.length_reverse]
theorem join1_length (c : UInt8) (w : List UInt8) : (join1 c w).length = w.length + 1 + w.length := by
  unfold join1
  by_cases hc : c = 82 ∨ c = 114
  · rw [if_pos hc, List.length_append, List.length_append, otherL_length, List.length_singleton]; omega
  · rw [if_neg hc, List.length_append, List.length_append, otherL_length, List.length_singleton]; omega
theorem ofL_length : ∀ l : List UInt8, (ofL l).length + 1 = pow2 l.length
  | [] => rfl
  | c :: r => by
    have h := ofL_length r
    have e : (ofL (c :: r)).length = (ofL r).length + 1 + (ofL r).length := join1_length c (ofL r)
    rw [e, List.length_cons, pow2_succ]
    omega
theorem join1_ahead {c : UInt8} {m : UInt8} (w : List UInt8) (h1 : c = 82 ∨ c = 114) (h2 : (if 97 ≤ c.toNat then 77 else 86) = m) : join1 c w = w ++ [m] ++ otherL w := by
  unfold join1
  rw [if_pos h1, h2, List.append_assoc]
theorem join1_behind {c : UInt8} {m : UInt8} (w : List UInt8) (h1 : ¬ (c = 82 ∨ c = 114)) (h2 : (if 97 ≤ c.toNat then 77 else 86) = m) : join1 c w = otherL w ++ [m] ++ w := by
  unfold join1
  rw [if_neg h1, h2, List.append_assoc]
theorem ofL_bd (l : List UInt8) (h : l.length ≤ 6) : (ofL l).length ≤ 63 := by
  have h1 := ofL_length l
  have h2 := pow2_le h
  have h3 : pow2 6 = 64 := rfl
  omega
def wide (c : Int) : Bool := c == 82 || c == 76 || c == 114 || c == 108
def wide8 (c : UInt8) : Bool := wide c.toNat
/-- A text of at most 6 letters that fold the width. -/
def wordOfOk (l : List UInt8) : Bool := l.all wide8 && decide (l.length ≤ 6)
def wordOfL (l : List UInt8) : List UInt8 := if wordOfOk l then ofL l else []
theorem l4Wide (c : Int) (w : World) : Calls Try.prog 41 #[.int .u8 c] w fun e w' => e = .returned (.bool (wide c)) ∧ w = w' := by
  go_enter Try.func41, Try.ntmps41
  go_wp2
  all_goals
    go_ret
    exact ⟨ret_bool (by simp [wide, *]), rfl⟩
theorem bl_cons {s : ByteArray} (h : 0 < s.size) : bl s = s[0] :: bl (s.extract 1 s.size) := by
  have := bl_drop s 0 h
  rw [List.drop_zero] at this
  rw [this, bl_right]
set_option maxHeartbeats 1000000 in
theorem l5Of_N (N : Nat) : ∀ (s : ByteArray) (w : World), s.size ≤ N → N ≤ 6 →
    Calls Try.prog 42 #[.string s] w fun e w' => e = .returned (.string (mkS (ofL (bl s)))) ∧ w = w' := by
  induction N with
  | zero =>
    intro s w hN _
    have hne := str_none (s := s) (by omega)
    have HF : Hid (mkS (ofL (bl s)) = { data := #[] }) := by
      show _ = _
      rw [List.eq_nil_of_length_eq_zero (l := bl s) (by rw [bl_length]; omega)]
      rfl
    clear hN
    go_enter Try.func42, Try.ntmps42
    go_wp2_with fail
    go_ret
    exact ⟨ret_string HF.out.symm, rfl⟩
  | succ N ih =>
    intro s w hN hN6
    have IH := Lib.hid ih
    clear ih
    by_cases hz : s.size = 0
    · have hne := str_none hz
      have HF : Hid (mkS (ofL (bl s)) = { data := #[] }) := by
        show _ = _
        rw [List.eq_nil_of_length_eq_zero (l := bl s) (by rw [bl_length]; omega)]
        rfl
      clear hz
      go_enter Try.func42, Try.ntmps42
      go_wp2_with fail
      go_ret
      exact ⟨ret_string HF.out.symm, rfl⟩
    · have hpos : 0 < s.size := by omega
      have hne := str_some hpos
      clear hz
      have HC := Lib.hid (bl_cons hpos)
      have hsz : (s.extract 1 s.size).size ≤ N := by rw [size_right]; omega
      have hbd : (mkS (ofL (bl (s.extract 1 s.size)))).size ≤ 63 := by
        rw [mkS_size]
        exact ofL_bd _ (by rw [bl_length]; omega)
      have hlen : (1 : Int) ≤ (s.size : Int) := by omega
      obtain ⟨X, hX⟩ : ∃ X, X = mkS (ofL (bl (s.extract 1 s.size))) := ⟨_, rfl⟩
      have hbX : X.size ≤ 63 := by rw [hX]; exact hbd
      have hbY : (mkS (otherL (bl X))).size ≤ 63 := by rw [mkS_size, otherL_length, bl_length]; exact hbX
      have HX : Hid (ofL (bl s) = join1 s[0] (bl X)) := by
        show _ = _
        rw [HC.out, hX, bl_mkS]
        rfl
      have HXX := Lib.hid hX
      clear hX hbd
      by_cases hR : s[0] = 82 ∨ s[0] = 114
      · by_cases h97 : 97 ≤ s[0].toNat
        · have h1 : s[0] = 114 := by
            rcases hR with h | h
            · rw [h] at h97; exact absurd h97 (by decide)
            · exact h
          have hF : Hid (mkS (ofL (bl s)) = X ++ { data := #[77] } ++ mkS (otherL (bl X))) := by
            refine (eq_mkS ?_).symm
            rw [HX.out, join1_ahead (m := 77) _ hR (by rw [if_pos h97]), bl_append, bl_append, bl_mkS]
            rfl
          have t1 : ((s[0].toNat : Int) == 82) = false := by rw [h1]; decide
          have t2 : ((s[0].toNat : Int) == 114) = true := by rw [h1]; decide
          have t3 : 97 ≤ (s[0].toNat : Int) := by omega
          clear h1 hR
          go_enter Try.func42, Try.ntmps42
          go_wp2_with fail
          refine (IH.out _ _ hsz (by omega)).mono ?_
          rintro e w' ⟨rfl, rfl⟩
          rw [← HXX.out]
          go_wp2_with fail
          refine (l5Other _ _ (by omega)).mono ?_
          rintro e w' ⟨rfl, rfl⟩
          go_wp2_with fail
          go_ret
          exact ⟨ret_string hF.out.symm, rfl⟩
        · have h1 : s[0] = 82 := by
            rcases hR with h | h
            · exact h
            · rw [h] at h97; exact absurd (by decide) h97
          have hF : Hid (mkS (ofL (bl s)) = X ++ { data := #[86] } ++ mkS (otherL (bl X))) := by
            refine (eq_mkS ?_).symm
            rw [HX.out, join1_ahead (m := 86) _ hR (by rw [if_neg h97]), bl_append, bl_append, bl_mkS]
            rfl
          have t1 : ((s[0].toNat : Int) == 82) = true := by rw [h1]; decide
          have t3 : ¬ 97 ≤ (s[0].toNat : Int) := by omega
          clear h1 hR
          go_enter Try.func42, Try.ntmps42
          go_wp2_with fail
          refine (IH.out _ _ hsz (by omega)).mono ?_
          rintro e w' ⟨rfl, rfl⟩
          rw [← HXX.out]
          go_wp2_with fail
          refine (l5Other _ _ (by omega)).mono ?_
          rintro e w' ⟨rfl, rfl⟩
          go_wp2_with fail
          go_ret
          exact ⟨ret_string hF.out.symm, rfl⟩
      · have t1 : ((s[0].toNat : Int) == 82) = false := by
          cases h : ((s[0].toNat : Int) == 82) with
          | false => rfl
          | true => exact absurd (Or.inl (byte_eq (n := 82) h)) hR
        have t2 : ((s[0].toNat : Int) == 114) = false := by
          cases h : ((s[0].toNat : Int) == 114) with
          | false => rfl
          | true => exact absurd (Or.inr (byte_eq (n := 114) h)) hR
        by_cases h97 : 97 ≤ s[0].toNat
        · have hF : Hid (mkS (ofL (bl s)) = mkS (otherL (bl X)) ++ { data := #[77] } ++ X) := by
            refine (eq_mkS ?_).symm
            rw [HX.out, join1_behind (m := 77) _ hR (by rw [if_pos h97]), bl_append, bl_append, bl_mkS]
            rfl
          have t3 : 97 ≤ (s[0].toNat : Int) := by omega
          clear hR
          go_enter Try.func42, Try.ntmps42
          go_wp2_with fail
          refine (IH.out _ _ hsz (by omega)).mono ?_
          rintro e w' ⟨rfl, rfl⟩
          rw [← HXX.out]
          go_wp2_with fail
          refine (l5Other _ _ (by omega)).mono ?_
          rintro e w' ⟨rfl, rfl⟩
          go_wp2_with fail
          go_ret
          exact ⟨ret_string hF.out.symm, rfl⟩
        · have hF : Hid (mkS (ofL (bl s)) = mkS (otherL (bl X)) ++ { data := #[86] } ++ X) := by
            refine (eq_mkS ?_).symm
            rw [HX.out, join1_behind (m := 86) _ hR (by rw [if_neg h97]), bl_append, bl_append, bl_mkS]
            rfl
          have t3 : ¬ 97 ≤ (s[0].toNat : Int) := by omega
          clear hR
          go_enter Try.func42, Try.ntmps42
          go_wp2_with fail
          refine (IH.out _ _ hsz (by omega)).mono ?_
          rintro e w' ⟨rfl, rfl⟩
          rw [← HXX.out]
          go_wp2_with fail
          refine (l5Other _ _ (by omega)).mono ?_
          rintro e w' ⟨rfl, rfl⟩
          go_wp2_with fail
          go_ret
          exact ⟨ret_string hF.out.symm, rfl⟩
theorem l5Of (s : ByteArray) (w : World) (hs : s.size ≤ 6) : Calls Try.prog 42 #[.string s] w fun e w' => e = .returned (.string (mkS (ofL (bl s)))) ∧ w = w' :=
  l5Of_N 6 s w hs (Nat.le_refl _)
theorem wordOf_no {l : List UInt8} (h : wordOfOk l = false) : wordOfL l = [] := by unfold wordOfL; rw [h]; rfl
theorem all_take_w (s : ByteArray) (k : Nat) (h : k < s.size) : ((bl s).take (k + 1)).all wide8 = (((bl s).take k).all wide8 && wide8 s[k]) := by
  rw [bl_take s k h, List.all_append]
  simp
set_option maxHeartbeats 1000000 in
theorem specWordOf (s : ByteArray) (w : World) (hs : s.size ≤ 1048576) :
    Calls Try.prog 16 #[.string s] w fun e w' => e = .returned (.tuple #[.string (mkS (wordOfL (bl s))), .bool (wordOfOk (bl s))]) ∧ w = w' := by
  go_enter Try.func16, Try.ntmps16
  go_wp2
  go_loop [4] (fun i => ∃ k : Nat, k ≤ s.size ∧ i = .int .i64 k ∧ Hid (((bl s).take k).all wide8 = true)) (fun i => s.size - (intOf i).toNat)
  case atStart => exact ⟨0, Nat.zero_le _, rfl, Lib.hid rfl⟩
  case round =>
    obtain ⟨k, hk, rfl, HA⟩ := hrel
    by_cases hlt : k < s.size
    · cases hw : wide (s[k].toNat : Int) with
      | true =>
        have HN : Hid (((bl s).take (k + 1)).all wide8 = true) := by
          show _ = _
          rw [all_take_w s k hlt, HA.out]
          simp [wide8, hw]
        go_wp2_with (first | (go_at_call 41; refine (l4Wide _ _).mono ?_; rintro e w' ⟨rfl, rfl⟩))
        go_round
        case rel => exact ⟨k + 1, by omega, by go_num, HN⟩
        case measure => simp [intOf]; omega
      | false =>
        have HF : Hid (wordOfOk (bl s) = false) := by
          show _ = _
          unfold wordOfOk
          rw [all_false s k hlt (by simp [wide8, hw])]
          rfl
        have HN := Lib.hid (wordOf_no HF.out)
        go_wp2_with (first | (go_at_call 41; refine (l4Wide _ _).mono ?_; rintro e w' ⟨rfl, rfl⟩))
        go_ret2
        rw [HF.out, HN.out]
        exact ⟨rfl, rfl⟩
    · obtain rfl : k = s.size := by omega
      have hA := HA.out
      rw [bl_full] at hA
      by_cases h6 : s.size ≤ 6
      · have HF : Hid (wordOfOk (bl s) = true) := by
          show _ = _
          unfold wordOfOk
          rw [hA, bl_length]
          simp [h6]
        have HN : Hid (wordOfL (bl s) = ofL (bl s)) := by show _ = _; unfold wordOfL; rw [HF.out]; rfl
        clear hA
        go_wp2_with (first | (go_at_call 42; refine (l5Of _ _ h6).mono ?_; rintro e w' ⟨rfl, rfl⟩))
        go_ret2
        rw [HF.out, HN.out]
        exact ⟨rfl, rfl⟩
      · have HF : Hid (wordOfOk (bl s) = false) := by
          show _ = _
          unfold wordOfOk
          rw [hA, bl_length]
          simp [h6]
        have HN := Lib.hid (wordOf_no HF.out)
        clear hA
        go_wp2
        go_ret2
        rw [HF.out, HN.out]
        exact ⟨rfl, rfl⟩
theorem foldAhead (s m : ByteArray) (b : Nat) (w : World) (hs : s.size ≤ 100000) (hm : m.size ≤ 1) (hc : w.cell? ⟨b, 0, none⟩ = some (.string m)) :
    Calls Try.prog 59 #[.string s, .pointer (some ⟨b, 0, none⟩)] w fun e w' => e = .returned (.string (s ++ m ++ mkS (otherL (bl s)))) ∧ Below w.heap.size w w' := by
  have hbY : (mkS (otherL (bl s))).size ≤ 100000 := by rw [mkS_size, otherL_length, bl_length]; exact hs
  have hz1 : ¬ 9223372036854775807 < s.size + m.size := by omega
  have hz2 : ¬ 9223372036854775807 < s.size + m.size + (mkS (otherL (bl s))).size := by omega
  go_enter Try.func59, Try.ntmps59
  have hlt : b < w.heap.size := World.block_lt_of_cell? w _ hc
  go_wp2_with fail
  go_region_held3 (fun w' => w'.cell? ⟨b, 0, none⟩ = some (.string m)) (first | exact hc | exact (hb2.cell (p := ⟨b, 0, none⟩) hlt).trans hc) ((go_at_call 44; refine (otherSide _ _ (by omega)).mono ?_; rintro e w2 ⟨rfl, hb2⟩))
  go_wp2_with fail
  go_ret
  exact ⟨rfl, (Below.refl _ w).drew.trans hb2⟩
theorem foldBehind (s m : ByteArray) (b : Nat) (w : World) (hs : s.size ≤ 100000) (hm : m.size ≤ 1) (hc : w.cell? ⟨b, 0, none⟩ = some (.string m)) :
    Calls Try.prog 61 #[.string s, .pointer (some ⟨b, 0, none⟩)] w fun e w' => e = .returned (.string (mkS (otherL (bl s)) ++ m ++ s)) ∧ Below w.heap.size w w' := by
  have hbY : (mkS (otherL (bl s))).size ≤ 100000 := by rw [mkS_size, otherL_length, bl_length]; exact hs
  have hz1 : ¬ 9223372036854775807 < (mkS (otherL (bl s))).size + m.size := by omega
  have hz2 : ¬ 9223372036854775807 < (mkS (otherL (bl s))).size + m.size + s.size := by omega
  go_enter Try.func61, Try.ntmps61
  have hlt : b < w.heap.size := World.block_lt_of_cell? w _ hc
  go_wp2_with fail
  go_region_held3 (fun w' => w'.cell? ⟨b, 0, none⟩ = some (.string m)) (first | exact hc | exact (hb2.cell (p := ⟨b, 0, none⟩) hlt).trans hc) ((go_at_call 44; refine (otherSide _ _ (by omega)).mono ?_; rintro e w2 ⟨rfl, hb2⟩))
  go_wp2_with fail
  go_ret
  exact ⟨rfl, (Below.refl _ w).drew.trans hb2⟩
/-- What foldingOf returns for a letter: the closure K with the crease m in a block of its own. -/
def IsFold (K : Nat) (m : ByteArray) (w : World) (e : Ending) (w' : World) : Prop :=
  ∃ b : Nat, e = .returned (.func (.func K) #[] #[.pointer (some ⟨b, 0, none⟩)]) ∧ w'.cell? ⟨b, 0, none⟩ = some (.string m) ∧ Below w.heap.size w w'
theorem foldingOf_R (w : World) : Calls Try.prog 40 #[.int .u8 82] w (IsFold 59 ⟨#[86]⟩ w) := by
  go_enter Try.func40, Try.ntmps40
  go_wp2
  go_ret
  exact ⟨w.heap.size, rfl, cell_one_new _ _ _ 0 _ rfl, (by repeat (first | exact Below.refl _ _ | assumption | (refine Below.setCell ?_ (by first | omega | (simp; done) | (simp; omega)) _) | (refine Below.alloc ?_ (by first | omega | (simp; done) | (simp; omega)) _) | (refine below_drewN ?_ _) | (refine Below.drew ?_)))⟩
theorem foldingOf_L (w : World) : Calls Try.prog 40 #[.int .u8 76] w (IsFold 61 ⟨#[86]⟩ w) := by
  go_enter Try.func40, Try.ntmps40
  go_wp2
  go_ret
  exact ⟨w.heap.size, rfl, cell_one_new _ _ _ 0 _ rfl, (by repeat (first | exact Below.refl _ _ | assumption | (refine Below.setCell ?_ (by first | omega | (simp; done) | (simp; omega)) _) | (refine Below.alloc ?_ (by first | omega | (simp; done) | (simp; omega)) _) | (refine below_drewN ?_ _) | (refine Below.drew ?_)))⟩
theorem foldingOf_r (w : World) : Calls Try.prog 40 #[.int .u8 114] w (IsFold 59 ⟨#[77]⟩ w) := by
  go_enter Try.func40, Try.ntmps40
  go_wp2
  go_ret
  exact ⟨w.heap.size, rfl, cell_one_new _ _ _ 0 _ rfl, (by repeat (first | exact Below.refl _ _ | assumption | (refine Below.setCell ?_ (by first | omega | (simp; done) | (simp; omega)) _) | (refine Below.alloc ?_ (by first | omega | (simp; done) | (simp; omega)) _) | (refine below_drewN ?_ _) | (refine Below.drew ?_)))⟩
theorem foldingOf_l (w : World) : Calls Try.prog 40 #[.int .u8 108] w (IsFold 61 ⟨#[77]⟩ w) := by
  go_enter Try.func40, Try.ntmps40
  go_wp2
  go_ret
  exact ⟨w.heap.size, rfl, cell_one_new _ _ _ 0 _ rfl, (by repeat (first | exact Below.refl _ _ | assumption | (refine Below.setCell ?_ (by first | omega | (simp; done) | (simp; omega)) _) | (refine Below.alloc ?_ (by first | omega | (simp; done) | (simp; omega)) _) | (refine below_drewN ?_ _) | (refine Below.drew ?_)))⟩
theorem foldingOf_none (c : Int) (w : World) (h1 : (c == 82) = false) (h2 : (c == 76) = false) (h3 : (c == 114) = false) (h4 : (c == 108) = false) :
    Calls Try.prog 40 #[.int .u8 c] w fun e w' => e = .returned .nilFunc ∧ w = w' := by
  go_enter Try.func40, Try.ntmps40
  go_wp2
  go_ret
  exact ⟨rfl, rfl⟩
theorem wide_cases {c : UInt8} (h : wide8 c = true) : c = 82 ∨ c = 76 ∨ c = 114 ∨ c = 108 := by
  simp only [wide8, wide, Bool.or_eq_true, beq_iff_eq] at h
  have hc : ∀ n : Nat, n < 256 → (c.toNat : Int) = (n : Int) → c = UInt8.ofNat n := fun n _ h => by
    have : c.toNat = n := by omega
    rw [← this, UInt8.ofNat_toNat]
  rcases h with ((h | h) | h) | h
  · exact .inl (hc 82 (by omega) h)
  · exact .inr (.inl (hc 76 (by omega) h))
  · exact .inr (.inr (.inl (hc 114 (by omega) h)))
  · exact .inr (.inr (.inr (hc 108 (by omega) h)))
/-- foldingOf has returned a closure that folds by the letter c. -/
def FoldsAs (c : UInt8) (w0 : World) (e : Ending) (w' : World) : Prop :=
  ∃ (b K : Nat) (m : ByteArray), e = .returned (.func (.func K) #[] #[.pointer (some ⟨b, 0, none⟩)]) ∧ w'.cell? ⟨b, 0, none⟩ = some (.string m) ∧ Below w0.heap.size w0 w' ∧
    (∀ (args : Array Value) (W : World), (callFunc K args).run Try.prog W = .ok (.enter K args) W) ∧
    ∀ (X : ByteArray) (W : World), X.size ≤ 63 → W.cell? ⟨b, 0, none⟩ = some (.string m) →
      Calls Try.prog K #[.string X, .pointer (some ⟨b, 0, none⟩)] W fun e W' => e = .returned (.string (mkS (join1 c (bl X)))) ∧ Below W.heap.size W W'
theorem folds_ahead {c m : UInt8} (h1 : c = 82 ∨ c = 114) (h2 : (if 97 ≤ c.toNat then 77 else 86) = m) {w w' : World} {e : Ending} (h : IsFold 59 ⟨#[m]⟩ w e w') : FoldsAs c w e w' := by
  obtain ⟨b, he, hc, hb⟩ := h
  refine ⟨b, _, _, he, hc, hb, (fun args W => by kernel_rfl), fun X W hX hW => (foldAhead X _ b W (by omega) (Nat.le_refl _) hW).mono fun e W' ⟨h3, h4⟩ => ⟨?_, h4⟩⟩
  rw [h3]
  refine ret_string (eq_mkS ?_)
  rw [join1_ahead _ h1 h2, bl_append, bl_append, bl_mkS]
  rfl
theorem folds_behind {c m : UInt8} (h1 : ¬ (c = 82 ∨ c = 114)) (h2 : (if 97 ≤ c.toNat then 77 else 86) = m) {w w' : World} {e : Ending} (h : IsFold 61 ⟨#[m]⟩ w e w') : FoldsAs c w e w' := by
  obtain ⟨b, he, hc, hb⟩ := h
  refine ⟨b, _, _, he, hc, hb, (fun args W => by kernel_rfl), fun X W hX hW => (foldBehind X _ b W (by omega) (Nat.le_refl _) hW).mono fun e W' ⟨h3, h4⟩ => ⟨?_, h4⟩⟩
  rw [h3]
  refine ret_string (eq_mkS ?_)
  rw [join1_behind _ h1 h2, bl_append, bl_append, bl_mkS]
  rfl
theorem foldingOf_wide (c : UInt8) (w : World) (h : wide8 c = true) : Calls Try.prog 40 #[.int .u8 (c.toNat : Int)] w (FoldsAs c w) := by
  rcases wide_cases h with rfl | rfl | rfl | rfl
  · exact (foldingOf_R w).mono fun _ _ h => folds_ahead (by decide) (by decide) h
  · exact (foldingOf_L w).mono fun _ _ h => folds_behind (by decide) (by decide) h
  · exact (foldingOf_r w).mono fun _ _ h => folds_ahead (by decide) (by decide) h
  · exact (foldingOf_l w).mono fun _ _ h => folds_behind (by decide) (by decide) h
theorem foldingOf_no (c : UInt8) (w : World) (h : wide8 c = false) : Calls Try.prog 40 #[.int .u8 (c.toNat : Int)] w fun e w' => e = .returned .nilFunc ∧ w = w' := by
  simp only [wide8, wide, Bool.or_eq_false_iff] at h
  exact foldingOf_none _ w h.1.1.1 h.1.1.2 h.1.2 h.2
theorem func_not_nil (K : Nat) (a : Addr) (w : World) : (binOp .eql 28 (.func (.func K) #[] #[.pointer (some a)]) .nilFunc).run Try.prog w = .ok (.bool false) w := by kernel_rfl
theorem nil_is_nil (w : World) : (binOp .eql 28 .nilFunc .nilFunc).run Try.prog w = .ok (.bool true) w := by kernel_rfl
set_option maxHeartbeats 2000000 in
theorem implWordOf (s : ByteArray) (w : World) (hs : s.size ≤ maxLen) :
    Calls Try.prog 15 #[.string s] w fun e w' => e = .returned (.tuple #[.string (mkS (wordOfL (bl s))), .bool (wordOfOk (bl s))]) ∧ Below w.heap.size w w' := by
  unfold maxLen at hs
  by_cases h6 : s.size ≤ 6
  · go_enter Try.func15, Try.ntmps15
    go_wp2
    go_loopw [4, 5] (fun o i wr => ∃ k : Nat, ∃ b : ByteArray, k ≤ s.size ∧ i = .int .i64 ((k : Int) - 1) ∧ o = .string b ∧ b.size ≤ 63 ∧ Hid (bl b = ofL ((bl s).drop k) ∧ ((bl s).drop k).all wide8 = true) ∧ Below w.heap.size w wr) (fun _ i _ => (intOf i + 1).toNat)
    case atStart => exact ⟨s.size, ByteArray.empty, Nat.le_refl _, rfl, rfl, Nat.zero_le _, Lib.hid (by rw [← bl_length, List.drop_length]; exact ⟨rfl, rfl⟩), Below.refl _ _⟩
    case round =>
      obtain ⟨k, b, hk, rfl, rfl, hb, HB, hbel⟩ := hrel
      have hzr := hbel.size
      by_cases hlt : 0 < k
      · obtain ⟨m, rfl⟩ : ∃ m, k = m + 1 := ⟨k - 1, by omega⟩
        have hm : m < s.size := by omega
        have e1 : ((m + 1 : Nat) : Int) - 1 = (m : Int) := by omega
        rw [e1]
        clear e1
        have HD := Lib.hid (bl_drop s m hm)
        have hlen : (ofL ((bl s).drop m)).length ≤ 63 := ofL_bd _ (by rw [List.length_drop, bl_length]; omega)
        have HJ : Hid (ofL ((bl s).drop m) = join1 s[m] (bl b)) := by show _ = _; rw [HD.out, HB.out.1]; rfl
        cases hw : wide8 s[m] with
        | true =>
          have HW : Hid (((bl s).drop m).all wide8 = true) := by show _ = _; rw [HD.out, List.all_cons, hw, HB.out.2]; rfl
          have HWW := Lib.hid hw
          clear hw
          go_wp2_with fail
          refine (foldingOf_wide s[m] _ HWW.out).mono ?_
          rintro e w1 ⟨cb, K, cm, rfl, hcell, hb1, henter, hcall⟩
          have HCALL := Lib.hid hcall
          clear hcall
          have hz1 := hb1.size
          have hnn := func_not_nil K ⟨cb, 0, none⟩
          go_wp2_with fail
          refine (HCALL.out b _ hb hcell).mono ?_
          rintro e w2 ⟨rfl, hb2⟩
          have hz2 := hb2.size
          go_wp2_with fail
          have hn : (mkS (join1 s[m] (bl b))).size ≤ 63 := by rw [mkS_size, ← HJ.out]; exact hlen
          go_roundw
          case rel => exact ⟨m, _, by omega, by go_num, rfl, hn, Lib.hid ⟨by rw [bl_mkS, HJ.out], HW.out⟩, hbel.trans (hb1.trans (hb2.mono hz1) |>.mono hzr)⟩
          case measure => simp [intOf]
        | false =>
          have HF : Hid (wordOfOk (bl s) = false) := by
            show _ = _
            unfold wordOfOk
            rw [all_false s m hm hw]
            rfl
          have HN := Lib.hid (wordOf_no HF.out)
          have HWW := Lib.hid hw
          clear hw
          go_wp2_with fail
          refine (foldingOf_no s[m] _ HWW.out).mono ?_
          rintro e w1 ⟨rfl, rfl⟩
          have hnn := nil_is_nil
          go_wp2_with fail
          go_ret2
          rw [HF.out, HN.out]
          exact ⟨rfl, hbel⟩
      · obtain rfl : k = 0 := by omega
        have HF : Hid (wordOfOk (bl s) = true) := by
          show _ = _
          have := HB.out.2
          rw [List.drop_zero] at this
          unfold wordOfOk
          rw [this, bl_length]
          simp [h6]
        have HN : Hid (mkS (wordOfL (bl s)) = b) := by
          show _ = _
          have := HB.out.1
          rw [List.drop_zero] at this
          unfold wordOfL
          rw [HF.out, ← mkS_bl b, this]
          rfl
        go_wp2_with fail
        go_ret2
        rw [HF.out, HN.out]
        exact ⟨rfl, hbel⟩
  · have HF : Hid (wordOfOk (bl s) = false) := by
      show _ = _
      unfold wordOfOk
      rw [bl_length]
      simp [h6]
    have HN := Lib.hid (wordOf_no HF.out)
    go_enter Try.func15, Try.ntmps15
    go_wp2
    go_ret2
    rw [HF.out, HN.out]
    exact ⟨rfl, Below.refl _ _⟩
end Go.Proofs.Ytdgkjlehofkooaa.W
