/- The walks of WordValid, of the program and of the reference. Conditions: each theorem's own premises. -/
import Derived.Test.YtdgkjlehofkooaaWordB
import Derived.Deep.RegionHeld3
namespace Go.Proofs.Ytdgkjlehofkooaa.W
set_option maxRecDepth 100000
open Go.RowKit
/-- What l5Word tells, the number of halvings bounded. -/
def wordN : Nat → List UInt8 → Bool
  | 0, _ => true
  | n + 1, l => l.isEmpty || (wordN n (l.take (l.length / 2)) && (l.drop (l.length / 2 + 1) == otherL (l.take (l.length / 2))))
theorem wordN_more : ∀ (n m : Nat) (l : List UInt8), l.length ≤ n → l.length ≤ m → wordN n l = wordN m l
  | 0, 0, _, _, _ => rfl
  | 0, m + 1, l, h, _ => by
    obtain rfl := List.eq_nil_of_length_eq_zero (Nat.le_zero.1 h)
    rfl
  | n + 1, 0, l, _, h => by
    obtain rfl := List.eq_nil_of_length_eq_zero (Nat.le_zero.1 h)
    rfl
  | n + 1, m + 1, l, h1, h2 => by
    unfold wordN
    by_cases hl : l = []
    · subst hl; rfl
    · have : 0 < l.length := List.length_pos_iff.2 hl
      rw [wordN_more n m (l.take (l.length / 2)) (by rw [List.length_take]; omega) (by rw [List.length_take]; omega)]
def word (l : List UInt8) : Bool := wordN l.length l
theorem word_step (l : List UInt8) (h : 0 < l.length) : word l = (word (l.take (l.length / 2)) && (l.drop (l.length / 2 + 1) == otherL (l.take (l.length / 2)))) := by
  unfold word
  obtain ⟨n, hn⟩ : ∃ n, l.length = n + 1 := ⟨l.length - 1, by omega⟩
  have hl : l.isEmpty = false := by
    cases l with
    | nil => simp at h
    | cons a r => rfl
  have e : wordN (n + 1) l = (l.isEmpty || (wordN n (l.take (l.length / 2)) && (l.drop (l.length / 2 + 1) == otherL (l.take (l.length / 2))))) := rfl
  conv => lhs; rw [hn, e, hl, Bool.false_or]
  rw [wordN_more n (l.take (l.length / 2)).length _ (by rw [List.length_take]; omega) (Nat.le_refl _)]
/-- What WordValid tells. -/
def wordOk (l : List UInt8) : Bool := creas l && plen l.length && word l
theorem plen_odd (n : Nat) (h : n ≤ 63) (h0 : 0 < n) : plen n = (decide (n % 2 = 1) && plen (n / 2)) := by
  have key : ∀ n : Fin 64, 0 < n.val → plen n.val = (decide (n.val % 2 = 1) && plen (n.val / 2)) := by decide
  exact key ⟨n, by omega⟩ h0
set_option maxHeartbeats 1000000 in
theorem implWordValid (s : ByteArray) (w : World) (hs : s.size ≤ 1048576) :
    Calls Try.prog 18 #[.string s] w fun e w' => e = .returned (.bool (wordOk (bl s))) ∧ Below w.heap.size w w' := by
  cases hok : creas (bl s) with
  | false =>
    have HF : Hid (wordOk (bl s) = false) := by show _ = _; unfold wordOk; rw [hok]; rfl
    have HOK := Lib.hid hok
    clear hok
    go_enter Try.func18, Try.ntmps18
    go_wp2_with (go_at_call 43; refine (isCreases _ _ (by unfold maxLen; omega)).mono ?_; rintro e w' ⟨rfl, rfl⟩; rw [HOK.out])
    go_ret
    exact ⟨ret_bool HF.out.symm, Below.refl _ _⟩
  | true =>
    have hl : s.size ≤ 63 := by
      have h := hok
      unfold creas at h
      rw [bl_length] at h
      simp only [Bool.and_eq_true, decide_eq_true_eq] at h
      exact h.2
    have HF : Hid (wordOk (bl s) = (plen s.size && word (bl s))) := by show _ = _; unfold wordOk; rw [hok, bl_length]; rfl
    have HOK := Lib.hid hok
    clear hok
    go_enter Try.func18, Try.ntmps18
    go_wp2_with (go_at_call 43; refine (isCreases _ _ (by unfold maxLen; omega)).mono ?_; rintro e w' ⟨rfl, rfl⟩; rw [HOK.out])
    go_loopw [0] (fun x wr => ∃ t : ByteArray, x = .string t ∧ t.size ≤ 63 ∧ Hid (wordOk (bl s) = (plen t.size && word (bl t))) ∧ Below w.heap.size w wr) (fun x _ => strLen x)
    case atStart => exact ⟨s, rfl, hl, HF, Below.refl _ _⟩
    case round =>
      obtain ⟨t, rfl, ht, HT, hbel⟩ := hrel
      by_cases hpos : 0 < t.size
      · have HP := Lib.hid (plen_odd t.size ht hpos)
        rcases Nat.mod_two_eq_zero_or_one t.size with hpar | hpar
        · have t0 : ((t.size : Int) % 2 == 0) = true := by rw [beq_iff_eq]; omega
          have HE : Hid (wordOk (bl s) = false) := by show _ = _; rw [HT.out, HP.out, hpar]; rfl
          clear hpar
          go_wp2_with fail
          go_ret
          exact ⟨ret_bool HE.out.symm, hbel⟩
        · have t0 : ((t.size : Int) % 2 == 0) = false := by rw [beq_eq_false_iff_ne]; omega
          have HPAR := Lib.hid hpar
          clear hpar
          have hzr := hbel.size
          have e1 : IntKind.i64.wrap ((t.size : Int) / 2 + 1) = (t.size : Int) / 2 + 1 := by rw [IntKind.wrap_i64]; omega
          have e2 : 0 ≤ (t.size : Int) / 2 + 1 := by omega
          have e3 : ((t.size : Int) / 2 + 1).toNat = t.size / 2 + 1 := by omega
          have e4 : (t.size : Int) / 2 + 1 ≤ (t.size : Int) := by omega
          have e5 : 0 ≤ (t.size : Int) / 2 := by omega
          have e6 : ((t.size : Int) / 2).toNat = t.size / 2 := by omega
          have e7 : (t.size : Int) / 2 ≤ (t.size : Int) := by omega
          have hq := str_beq (t.extract (t.size / 2 + 1) t.size) (mkS (otherL (bl (t.extract 0 (t.size / 2)))))
          have hq2 : (bl (t.extract (t.size / 2 + 1) t.size) = bl (mkS (otherL (bl (t.extract 0 (t.size / 2)))))) ↔ ((bl t).drop ((bl t).length / 2 + 1) == otherL ((bl t).take ((bl t).length / 2))) = true := by
            rw [bl_right, bl_mkS, bl_left, bl_length, beq_iff_eq]
          have hst := word_step (bl t) (by rw [bl_length]; exact hpos)
          cases hc : ((bl t).drop ((bl t).length / 2 + 1) == otherL ((bl t).take ((bl t).length / 2))) with
          | false =>
            rw [hc] at hq2 hst
            have hd : ((t.extract (t.size / 2 + 1) t.size).toList == (mkS (otherL (bl (t.extract 0 (t.size / 2))))).toList) = false := by
              rw [hq]
              simpa using hq2
            have HE : Hid (wordOk (bl s) = false) := by
              show _ = _
              rw [HT.out, hst]
              simp
            clear hq hq2 hst hc
            go_wp2_with fail
            go_region_held3 (fun _ => True) (exact trivial) ((go_at_call 44; refine (otherSide _ _ (by rw [size_left _ _ (by omega)]; omega)).mono ?_; rintro e w2 ⟨rfl, hb2⟩))
            go_wp2_with fail
            go_ret
            exact ⟨ret_bool HE.out.symm, hbel.trans ((Below.refl _ wr).drew.trans (hb2.mono hzr))⟩
          | true =>
            rw [hc] at hq2 hst
            have hd : ((t.extract (t.size / 2 + 1) t.size).toList == (mkS (otherL (bl (t.extract 0 (t.size / 2))))).toList) = true := by
              rw [hq]
              simpa using hq2
            have HE : Hid (wordOk (bl s) = (plen (t.extract 0 (t.size / 2)).size && word (bl (t.extract 0 (t.size / 2))))) := by
              show _ = _
              rw [HT.out, hst, HP.out, HPAR.out, size_left _ _ (by omega), bl_left, bl_length]
              simp
            clear hq hq2 hst hc
            have hsz : (t.extract 0 (t.size / 2)).size = t.size / 2 := size_left _ _ (by omega)
            have HSZ := Lib.hid hsz
            clear hsz
            go_wp2_with fail
            go_region_held3 (fun _ => True) (exact trivial) ((go_at_call 44; refine (otherSide _ _ (by rw [size_left _ _ (by omega)]; omega)).mono ?_; rintro e w2 ⟨rfl, hb2⟩))
            go_wp2_with fail
            go_roundw
            case rel => exact ⟨_, rfl, by rw [HSZ.out]; omega, HE, hbel.trans ((Below.refl _ wr).drew.trans (hb2.mono hzr))⟩
            case measure => show (t.extract 0 (t.size / 2)).size < t.size; rw [HSZ.out]; omega
      · have h0 : t.size = 0 := by omega
        have HE : Hid (wordOk (bl s) = true) := by
          show _ = _
          rw [HT.out, h0, List.eq_nil_of_length_eq_zero (l := bl t) (by rw [bl_length]; exact h0)]
          rfl
        clear h0
        go_wp2_with fail
        go_ret
        exact ⟨ret_bool HE.out.symm, hbel⟩
end Go.Proofs.Ytdgkjlehofkooaa.W
