/- The walks of WordValid, of the program and of the reference. Conditions: each theorem's own premises. -/
import Derived.Test.YtalbokejljjflaaWordB
import Derived.Deep.RegionHeld3
namespace Go.Proofs.Ytalbokejljjflaa
open Go.RowKit
/-- What l5Word tells, the number of halvings bounded. -/
def wordN : Nat → List UInt8 → Bool
  | 0, _ => true
  | n + 1, l => l.isEmpty || (wordN n (l.take (l.length / 2)) && (l.drop (l.length / 2 + 1) == otherL (l.take (l.length / 2))))
theorem wordN_more : ∀ (n m : Nat) (l : List UInt8), l.length ≤ n → l.length ≤ m → wordN n l = wordN m l
  | 0, 0, _, _, _ => rfl
  | 0, m + 1, l, h, _ => by
    obtain rfl := List.eq_nil_of_length_eq_zero (Nat.le_zero.1 h)
    rfl
  | n + 1, 0, l, _, h => by
    obtain rfl := List.eq_nil_of_length_eq_zero (Nat.le_zero.1 h)
    rfl
  | n + 1, m + 1, l, h1, h2 => by
    unfold wordN
    by_cases hl : l = []
    · subst hl; rfl
    · have : 0 < l.length := List.length_pos_iff.2 hl
      rw [wordN_more n m (l.take (l.length / 2)) (by rw [List.length_take]; omega) (by rw [List.length_take]; omega)]
def word (l : List UInt8) : Bool := wordN l.length l
theorem word_step (l : List UInt8) (h : 0 < l.length) : word l = (word (l.take (l.length / 2)) && (l.drop (l.length / 2 + 1) == otherL (l.take (l.length / 2)))) := by
  unfold word
  obtain ⟨n, hn⟩ : ∃ n, l.length = n + 1 := ⟨l.length - 1, by omega⟩
  have hl : l.isEmpty = false := by
    cases l with
    | nil => simp at h
    | cons a r => rfl
  have e : wordN (n + 1) l = (l.isEmpty || (wordN n (l.take (l.length / 2)) && (l.drop (l.length / 2 + 1) == otherL (l.take (l.length / 2))))) := rfl
  conv => lhs; rw [hn, e, hl, Bool.false_or]
  rw [wordN_more n (l.take (l.length / 2)).length _ (by rw [List.length_take]; omega) (Nat.le_refl _)]
/-- What WordValid tells. -/
def wordOk (l : List UInt8) : Bool := creas l && plen l.length && word l
theorem plen_odd (n : Nat) (h : n ≤ 63) (h0 : 0 < n) : plen n = (decide (n % 2 = 1) && plen (n / 2)) := by
  have key : ∀ n : Fin 64, 0 < n.val → plen n.val = (decide (n.val % 2 = 1) && plen (n.val / 2)) := by decide
  exact key ⟨n, by omega⟩ h0
set_option maxHeartbeats 1000000 in
theorem implWordValid (s : ByteArray) (w : World) (hs : s.size ≤ 1048576) :
    Calls Try.prog 14 #[.string s] w fun e w' => e = .returned (.bool (wordOk (bl s))) ∧ Below w.heap.size w w' := by
  cases hok : creas (bl s) with
  | false =>
    have HF : Hid (wordOk (bl s) = false) := by show _ = _; unfold wordOk; rw [hok]; rfl
    have HOK := Lib.hid hok
    clear hok
    go_enter Try.func14, Try.ntmps14
    go_wp2_with (go_at_call 22; refine (isCreases _ _ (by unfold maxLen; omega)).mono ?_; rintro e w' ⟨rfl, rfl⟩; rw [HOK.out])
    go_ret
    exact ⟨ret_bool HF.out.symm, Below.refl _ _⟩
  | true =>
    have hl : s.size ≤ 63 := by
      have h := hok
      unfold creas at h
      rw [bl_length] at h
      simp only [Bool.and_eq_true, decide_eq_true_eq] at h
      exact h.2
    have HF : Hid (wordOk (bl s) = (plen s.size && word (bl s))) := by show _ = _; unfold wordOk; rw [hok, bl_length]; rfl
    have HOK := Lib.hid hok
    clear hok
    go_enter Try.func14, Try.ntmps14
    go_wp2_with (go_at_call 22; refine (isCreases _ _ (by unfold maxLen; omega)).mono ?_; rintro e w' ⟨rfl, rfl⟩; rw [HOK.out])
    go_loopw [0] (fun x wr => ∃ t : ByteArray, x = .string t ∧ t.size ≤ 63 ∧ Hid (wordOk (bl s) = (plen t.size && word (bl t))) ∧ Below w.heap.size w wr) (fun x _ => strLen x)
    case atStart => exact ⟨s, rfl, hl, HF, Below.refl _ _⟩
    case round =>
      obtain ⟨t, rfl, ht, HT, hbel⟩ := hrel
      by_cases hpos : 0 < t.size
      · have HP := Lib.hid (plen_odd t.size ht hpos)
        rcases Nat.mod_two_eq_zero_or_one t.size with hpar | hpar
        · have t0 : ((t.size : Int) % 2 == 0) = true := by rw [beq_iff_eq]; omega
          have HE : Hid (wordOk (bl s) = false) := by show _ = _; rw [HT.out, HP.out, hpar]; rfl
          clear hpar
          go_wp2_with fail
          go_ret
          exact ⟨ret_bool HE.out.symm, hbel⟩
        · have t0 : ((t.size : Int) % 2 == 0) = false := by rw [beq_eq_false_iff_ne]; omega
          have HPAR := Lib.hid hpar
          clear hpar
          have hzr := hbel.size
          have e1 : IntKind.i64.wrap ((t.size : Int) / 2 + 1) = (t.size : Int) / 2 + 1 := by rw [IntKind.wrap_i64]; omega
          have e2 : 0 ≤ (t.size : Int) / 2 + 1 := by omega
          have e3 : ((t.size : Int) / 2 + 1).toNat = t.size / 2 + 1 := by omega
          have e4 : (t.size : Int) / 2 + 1 ≤ (t.size : Int) := by omega
          have e5 : 0 ≤ (t.size : Int) / 2 := by omega
          have e6 : ((t.size : Int) / 2).toNat = t.size / 2 := by omega
          have e7 : (t.size : Int) / 2 ≤ (t.size : Int) := by omega
          have hq := str_beq (t.extract (t.size / 2 + 1) t.size) (mkS (otherL (bl (t.extract 0 (t.size / 2)))))
          have hq2 : (bl (t.extract (t.size / 2 + 1) t.size) = bl (mkS (otherL (bl (t.extract 0 (t.size / 2)))))) ↔ ((bl t).drop ((bl t).length / 2 + 1) == otherL ((bl t).take ((bl t).length / 2))) = true := by
            rw [bl_right, bl_mkS, bl_left, bl_length, beq_iff_eq]
          have hst := word_step (bl t) (by rw [bl_length]; exact hpos)
          cases hc : ((bl t).drop ((bl t).length / 2 + 1) == otherL ((bl t).take ((bl t).length / 2))) with
          | false =>
            rw [hc] at hq2 hst
            have hd : ((t.extract (t.size / 2 + 1) t.size).toList == (mkS (otherL (bl (t.extract 0 (t.size / 2))))).toList) = false := by
              rw [hq]
              simpa using hq2
            have HE : Hid (wordOk (bl s) = false) := by
              show _ = _
              rw [HT.out, hst]
              simp
            clear hq hq2 hst hc
            go_wp2_with fail
            go_region_held3 (fun _ => True) (exact trivial) ((go_at_call 23; refine (otherSide _ _ (by rw [size_left _ _ (by omega)]; omega)).mono ?_; rintro e w2 ⟨rfl, hb2⟩))
            go_wp2_with fail
            go_ret
            exact ⟨ret_bool HE.out.symm, hbel.trans ((Below.refl _ wr).drew.trans (hb2.mono hzr))⟩
          | true =>
            rw [hc] at hq2 hst
            have hd : ((t.extract (t.size / 2 + 1) t.size).toList == (mkS (otherL (bl (t.extract 0 (t.size / 2))))).toList) = true := by
              rw [hq]
              simpa using hq2
            have HE : Hid (wordOk (bl s) = (plen (t.extract 0 (t.size / 2)).size && word (bl (t.extract 0 (t.size / 2))))) := by
              show _ = _
              rw [HT.out, hst, HP.out, HPAR.out, size_left _ _ (by omega), bl_left, bl_length]
              simp
            clear hq hq2 hst hc
            have hsz : (t.extract 0 (t.size / 2)).size = t.size / 2 := size_left _ _ (by omega)
            have HSZ := Lib.hid hsz
            clear hsz
            go_wp2_with fail
            go_region_held3 (fun _ => True) (exact trivial) ((go_at_call 23; refine (otherSide _ _ (by rw [size_left _ _ (by omega)]; omega)).mono ?_; rintro e w2 ⟨rfl, hb2⟩))
            go_wp2_with fail
            go_roundw
            case rel => exact ⟨_, rfl, by rw [HSZ.out]; omega, HE, hbel.trans ((Below.refl _ wr).drew.trans (hb2.mono hzr))⟩
            case measure => show (t.extract 0 (t.size / 2)).size < t.size; rw [HSZ.out]; omega
      · have h0 : t.size = 0 := by omega
        have HE : Hid (wordOk (bl s) = true) := by
          show _ = _
          rw [HT.out, h0, List.eq_nil_of_length_eq_zero (l := bl t) (by rw [bl_length]; exact h0)]
          rfl
        clear h0
        go_wp2_with fail
        go_ret
        exact ⟨ret_bool HE.out.symm, hbel⟩
set_option maxHeartbeats 1000000 in
theorem l5Word_N (N : Nat) : ∀ (t : ByteArray) (w : World), t.size ≤ N → t.size ≤ 1048576 →
    Calls Try.prog 28 #[.string t] w fun e w' => e = .returned (.bool (word (bl t))) ∧ ∃ n, w' = w.drewN n := by
  induction N with
  | zero =>
    intro t w hN hs
    have h0 : ((t.size : Int) == 0) = true := by rw [beq_iff_eq]; omega
    have HF : Hid (word (bl t) = true) := by
      show _ = _
      rw [List.eq_nil_of_length_eq_zero (l := bl t) (by rw [bl_length]; omega)]
      rfl
    clear hN
    go_enter Try.func28, Try.ntmps28
    go_wp2_with fail
    go_ret
    exact ⟨ret_bool HF.out.symm, 0, rfl⟩
  | succ N ih =>
    intro t w hN hs
    have IH := Lib.hid ih
    clear ih
    by_cases hz : t.size = 0
    · have h0 : ((t.size : Int) == 0) = true := by rw [beq_iff_eq]; omega
      have HF : Hid (word (bl t) = true) := by
        show _ = _
        rw [List.eq_nil_of_length_eq_zero (l := bl t) (by rw [bl_length]; omega)]
        rfl
      clear hz
      go_enter Try.func28, Try.ntmps28
      go_wp2_with fail
      go_ret
      exact ⟨ret_bool HF.out.symm, 0, rfl⟩
    · have h0 : ((t.size : Int) == 0) = false := by rw [beq_eq_false_iff_ne]; omega
      have hpos : 0 < t.size := by omega
      clear hz
      have e1 : IntKind.i64.wrap ((t.size : Int) / 2 + 1) = (t.size : Int) / 2 + 1 := by rw [IntKind.wrap_i64]; omega
      have e2 : 0 ≤ (t.size : Int) / 2 + 1 := by omega
      have e3 : ((t.size : Int) / 2 + 1).toNat = t.size / 2 + 1 := by omega
      have e4 : (t.size : Int) / 2 + 1 ≤ (t.size : Int) := by omega
      have e5 : 0 ≤ (t.size : Int) / 2 := by omega
      have e6 : ((t.size : Int) / 2).toNat = t.size / 2 := by omega
      have e7 : (t.size : Int) / 2 ≤ (t.size : Int) := by omega
      have hq := str_beq (t.extract (t.size / 2 + 1) t.size) (mkS (otherL (bl (t.extract 0 (t.size / 2)))))
      have hsz : (t.extract 0 (t.size / 2)).size ≤ N := by rw [size_left _ _ (by omega)]; omega
      have hsz2 : (t.extract 0 (t.size / 2)).size ≤ 1048576 := by rw [size_left _ _ (by omega)]; omega
      have hst := word_step (bl t) (by rw [bl_length]; exact hpos)
      cases hw : word (bl (t.extract 0 (t.size / 2))) with
      | false =>
        have HF : Hid (word (bl t) = false) := by
          show _ = _
          rw [bl_left] at hw
          rw [hst, bl_length, hw]
          rfl
        have HW := Lib.hid hw
        clear hw hst hq
        go_enter Try.func28, Try.ntmps28
        go_wp2_with fail
        go_quiet ((go_at_call 28; exact Calls.quiet_of (HW.out ▸ IH.out _ _ hsz hsz2)))
        go_wp2_with fail
        go_ret
        exact ⟨ret_bool HF.out.symm, _, rfl⟩
      | true =>
        have HF : Hid (word (bl t) = ((t.extract (t.size / 2 + 1) t.size).toList == (mkS (otherL (bl (t.extract 0 (t.size / 2))))).toList)) := by
          show _ = _
          rw [bl_left] at hw
          rw [hst, bl_length, hw, hq, bl_right, bl_mkS, bl_left, Bool.true_and]
          exact (Bool.beq_eq_decide_eq _ _)
        have HW := Lib.hid hw
        clear hw hst hq
        go_enter Try.func28, Try.ntmps28
        go_wp2_with fail
        go_quiet ((first | (go_at_call 28; exact Calls.quiet_of (HW.out ▸ IH.out _ _ hsz hsz2)) | (go_at_call 38; exact quiet_left (l5Other _ _ hsz2))))
        go_wp2_with fail
        go_ret
        exact ⟨ret_bool HF.out.symm, _, rfl⟩
theorem l5Word (t : ByteArray) (w : World) (hs : t.size ≤ 1048576) : Calls Try.prog 28 #[.string t] w fun e w' => e = .returned (.bool (word (bl t))) ∧ Below w.heap.size w w' :=
  (l5Word_N t.size t w (Nat.le_refl _) hs).mono fun _ _ ⟨he, n, hn⟩ => ⟨he, by rw [hn]; exact below_drewN (Below.refl _ _) n⟩
set_option maxHeartbeats 400000 in
theorem specWordValid (s : ByteArray) (w : World) (hs : s.size ≤ 1048576) :
    Calls Try.prog 15 #[.string s] w fun e w' => e = .returned (.bool (wordOk (bl s))) ∧ Below w.heap.size w w' := by
  cases hok : creas (bl s) with
  | false =>
    have HF : Hid (wordOk (bl s) = false) := by show _ = _; unfold wordOk; rw [hok]; rfl
    have HOK := Lib.hid hok
    clear hok
    go_enter Try.func15, Try.ntmps15
    go_wp2_with (go_at_call 26; refine (l5Creases _ _ hs).mono ?_; rintro e w' ⟨rfl, rfl⟩; rw [HOK.out])
    go_ret
    exact ⟨ret_bool HF.out.symm, Below.refl _ _⟩
  | true =>
    have hl : s.size ≤ 63 := by
      have h := hok
      unfold creas at h
      rw [bl_length] at h
      simp only [Bool.and_eq_true, decide_eq_true_eq] at h
      exact h.2
    have hd := foldsNum_plen s.size hl
    cases hp : plen s.size with
    | false =>
      have HF : Hid (wordOk (bl s) = false) := by show _ = _; unfold wordOk; rw [hok, bl_length, hp]; rfl
      have hd2 : ¬ 0 ≤ foldsNum s.size := by rw [hp] at hd; simpa using hd
      have HOK := Lib.hid hok
      clear hok hd hp
      go_enter Try.func15, Try.ntmps15
      go_wp2_with (first | (go_at_call 26; refine (l5Creases _ _ hs).mono ?_; rintro e w' ⟨rfl, rfl⟩; rw [HOK.out]) | (go_at_call 27; refine (l5Folds _ _).mono ?_; rintro e w' ⟨rfl, rfl⟩))
      go_ret
      exact ⟨ret_bool HF.out.symm, Below.refl _ _⟩
    | true =>
      have HF : Hid (wordOk (bl s) = word (bl s)) := by show _ = _; unfold wordOk; rw [hok, bl_length, hp]; rfl
      have hd2 : 0 ≤ foldsNum s.size := by rw [hp] at hd; simpa using hd
      have HOK := Lib.hid hok
      clear hok hd hp
      go_enter Try.func15, Try.ntmps15
      go_wp2_with (first | (go_at_call 26; refine (l5Creases _ _ hs).mono ?_; rintro e w' ⟨rfl, rfl⟩; rw [HOK.out]) | (go_at_call 27; refine (l5Folds _ _).mono ?_; rintro e w' ⟨rfl, rfl⟩) | (go_at_call 28; refine (l5Word _ _ hs).mono ?_; rintro e w2 ⟨rfl, hb2⟩))
      go_ret
      exact ⟨ret_bool HF.out.symm, hb2⟩
end Go.Proofs.Ytalbokejljjflaa
