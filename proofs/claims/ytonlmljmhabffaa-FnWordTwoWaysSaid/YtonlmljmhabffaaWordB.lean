/- The walks of WordEven, of the program and of the reference. Conditions: each theorem's own premises. -/
import Derived.Test.YtonlmljmhabffaaWordA
import Derived.Laws.BitsAllLaws
import Derived.Laws.BitsLemmas
import Derived.Maps.AppendAt
namespace Go.Proofs.Ytonlmljmhabffaa
open Go.RowKit
/-- Every other element, from the first one on. -/
def evens : List UInt8 → List UInt8
  | a :: _ :: r => a :: evens r
  | [a] => [a]
  | [] => []
theorem evens_get : ∀ (n : Nat) (l : List UInt8), l.length ≤ n → ∀ k, (evens l)[k]? = l[2 * k]?
  | _, [], _, k => by simp [evens]
  | _, [a], _, k => by
    cases k with
    | zero => rfl
    | succ k => simp [evens, Nat.mul_succ]
  | n + 1, a :: b :: r, h, k => by
    cases k with
    | zero => rfl
    | succ k =>
      have := evens_get n r (by simp at h; omega) k
      simp only [evens, List.getElem?_cons_succ, Nat.mul_succ]
      exact this
theorem evens_len : ∀ (n : Nat) (l : List UInt8), l.length ≤ n → (evens l).length = (l.length + 1) / 2
  | _, [], _ => rfl
  | _, [a], _ => by simp [evens]
  | n + 1, a :: b :: r, h => by
    have := evens_len n r (by simp at h; omega)
    simp only [evens, List.length_cons, this]
    omega
/-- Every other element, from the place f on. -/
def evensFrom (f : Nat) (l : List UInt8) : List UInt8 := evens (l.drop f)
/-- The elements at odd places. -/
def odds (l : List UInt8) : List UInt8 := evens (l.drop 1)
theorem odds_get (l : List UInt8) (k : Nat) : (odds l)[k]? = l[2 * k + 1]? := by
  unfold odds
  rw [evens_get _ _ (Nat.le_refl _), List.getElem?_drop]
  congr 1
  omega
theorem odds_len (l : List UInt8) : (odds l).length = l.length / 2 := by
  unfold odds
  rw [evens_len _ _ (Nat.le_refl _), List.length_drop]
  omega
/-- No two that follow each other are equal. -/
def alt (m : List UInt8) : Bool := (List.range (m.length - 1)).all fun k => m[k]? != m[k + 1]?
theorem alt_true {m : List UInt8} (h : ∀ k, k + 1 < m.length → m[k]? ≠ m[k + 1]?) : alt m = true := by
  unfold alt
  rw [List.all_eq_true]
  intro k hk
  simp only [List.mem_range] at hk
  simpa using h k (by omega)
theorem alt_false {m : List UInt8} (k : Nat) (hk : k + 1 < m.length) (h : m[k]? = m[k + 1]?) : alt m = false := by
  unfold alt
  rw [List.all_eq_false]
  exact ⟨k, by simp; omega, by simp [h]⟩
def evenN : Nat → List UInt8 → Bool
  | 0, _ => true
  | n + 1, l => l.isEmpty || (alt (evens l) && evenN n (odds l))
theorem evenN_more : ∀ (n m : Nat) (l : List UInt8), l.length ≤ n → l.length ≤ m → evenN n l = evenN m l
  | 0, 0, _, _, _ => rfl
  | 0, m + 1, l, h, _ => by
    obtain rfl := List.eq_nil_of_length_eq_zero (Nat.le_zero.1 h)
    rfl
  | n + 1, 0, l, _, h => by
    obtain rfl := List.eq_nil_of_length_eq_zero (Nat.le_zero.1 h)
    rfl
  | n + 1, m + 1, l, h1, h2 => by
    unfold evenN
    by_cases hl : l = []
    · subst hl; rfl
    · have : 0 < l.length := List.length_pos_iff.2 hl
      rw [evenN_more n m (odds l) (by rw [odds_len]; omega) (by rw [odds_len]; omega)]
/-- What l5Even tells. -/
def evn (l : List UInt8) : Bool := evenN l.length l
theorem evn_nil : evn [] = true := rfl
theorem evn_cons (l : List UInt8) (h : 0 < l.length) : evn l = (alt (evens l) && evn (odds l)) := by
  unfold evn
  obtain ⟨n, hn⟩ : ∃ n, l.length = n + 1 := ⟨l.length - 1, by omega⟩
  rw [hn]
  show (l.isEmpty || (alt (evens l) && evenN n (odds l))) = _
  have : l.isEmpty = false := by
    cases l with
    | nil => simp at h
    | cons a r => rfl
  rw [this, Bool.false_or, evenN_more n (odds l).length (odds l) (by rw [odds_len]; omega) (Nat.le_refl _)]
/-- 2 to the power of n, minus 1, for some n from 0 to 6. -/
def plen (n : Nat) : Bool := [0, 1, 3, 7, 15, 31, 63].contains n
def wordEvenL (l : List UInt8) : Bool := creas l && plen l.length && evn l
theorem plen_half (n : Nat) (h : plen n = true) : plen (n / 2) = true := by
  have : n ≤ 63 := by
    unfold plen at h
    simp at h
    omega
  have key : ∀ n : Fin 64, plen n.val = true → plen (n.val / 2) = true := by decide
  exact key ⟨n, by omega⟩ h
theorem plen_and (n : Nat) (h : n ≤ 63) : (n &&& (n + 1) = 0 ↔ plen n = true) := by
  have key : ∀ n : Fin 64, (n.val &&& (n.val + 1) = 0 ↔ plen n.val = true) := by decide
  exact key ⟨n, by omega⟩
theorem mem_evens (l : List UInt8) (c : UInt8) (h : c ∈ evens l) : c ∈ l := by
  obtain ⟨k, hk⟩ := List.mem_iff_getElem?.1 h
  rw [evens_get _ _ (Nat.le_refl _)] at hk
  exact List.mem_of_getElem? hk
theorem mem_odds (l : List UInt8) (c : UInt8) (h : c ∈ odds l) : c ∈ l := by
  obtain ⟨k, hk⟩ := List.mem_iff_getElem?.1 h
  rw [odds_get] at hk
  exact List.mem_of_getElem? hk
theorem creas_odds (l : List UInt8) (h : creas l = true) : creas (odds l) = true := by
  unfold creas at *
  simp only [Bool.and_eq_true, List.all_eq_true, decide_eq_true_eq] at *
  exact ⟨fun c hc => h.1 c (mem_odds l c hc), by rw [odds_len]; omega⟩
theorem wordEven_step (l : List UInt8) (h1 : creas l = true) (h2 : plen l.length = true) (h3 : 0 < l.length) : wordEvenL l = (alt (evens l) && wordEvenL (odds l)) := by
  unfold wordEvenL
  rw [h1, h2, creas_odds l h1, odds_len, plen_half _ h2, evn_cons l h3]
  simp
theorem ofInt_i64 (a : Nat) (ha : a < 9223372036854775808) : (BitVec.ofInt 64 (a : Int)).toNat = a := by
  rw [BitVec.ofInt_natCast, BitVec.toNat_ofNat]; exact Nat.mod_eq_of_lt (by omega)
theorem i64_and_nat (a b : Nat) (ha : a < 9223372036854775808) (hb : b < 9223372036854775808) : bits .and .i64 (a : Int) (b : Int) = ((a &&& b : Nat) : Int) := by
  have hx : a &&& b < 2 ^ 63 := Nat.and_lt_two_pow _ (by omega)
  show IntKind.i64.wrap ((BitVec.ofInt 64 (a : Int) &&& BitVec.ofInt 64 (b : Int)).toNat : Int) = _
  rw [BitVec.toNat_and, ofInt_i64 a ha, ofInt_i64 b hb, IntKind.wrap_i64]
  omega
/-- 2 to the power of n, a word that the walk does not open. -/
def pow2 (n : Nat) : Nat := 2 ^ n
theorem pow2_succ (n : Nat) : pow2 (n + 1) = pow2 n * 2 := Nat.pow_succ 2 n
theorem pow2_le {n m : Nat} (h : n ≤ m) : pow2 n ≤ pow2 m := Nat.pow_le_pow_right (by omega) h
theorem pow2_pos (n : Nat) : 1 ≤ pow2 n := Nat.one_le_two_pow
theorem l1Power (n : Nat) (w : World) (hn : n ≤ 40) : Calls Try.prog 41 #[.int .i64 n] w fun e w' => e = .returned (.int .i64 (pow2 n : Nat)) ∧ w = w' := by
  go_enter Try.func41, Try.ntmps41
  go_wp2
  go_loop [3, 4] (fun o i => ∃ k : Nat, ∃ x : Nat, k ≤ n ∧ i = .int .i64 k ∧ o = .int .i64 x ∧ x ≤ 1099511627776 ∧ Hid (x = pow2 k)) (fun _ i => n - (intOf i).toNat)
  case atStart => exact ⟨0, 1, Nat.zero_le _, rfl, rfl, by omega, Lib.hid rfl⟩
  case round =>
    obtain ⟨k, x, hk, rfl, rfl, hx, HX⟩ := hrel
    by_cases hlt : k < n
    · go_wp2
      have hp : pow2 (k + 1) = x * 2 := by rw [pow2_succ, HX.out]
      have hq : x * 2 ≤ 1099511627776 := by
        rw [← hp]
        exact Nat.le_trans (pow2_le (show k + 1 ≤ 40 by omega)) (by decide)
      go_round
      case rel => exact ⟨k + 1, x * 2, by omega, by go_num, by go_num, hq, Lib.hid hp.symm⟩
      case measure => simp [intOf]; omega
    · have HE : Hid (x = pow2 n) := by
        obtain rfl : k = n := by omega
        exact HX
      clear HX
      go_wp2
      go_ret
      exact ⟨ret_int (congrArg (fun n : Nat => (n : Int)) HE.out), rfl⟩
/-- What l5Folds returns. -/
def foldsNum (n : Nat) : Int := ((List.range 7).find? fun k => 2 ^ k == n + 1).elim (-1) fun k => (k : Int)
theorem foldsNum_hit (k n : Nat) (hk : k ≤ 6) (h : 2 ^ k = n + 1) : foldsNum n = (k : Int) := by
  obtain rfl : n = 2 ^ k - 1 := by omega
  have key : ∀ k : Fin 7, foldsNum (2 ^ k.val - 1) = (k.val : Int) := by decide
  exact key ⟨k, by omega⟩
theorem foldsNum_miss (n : Nat) (h : ∀ k, k < 7 → 2 ^ k ≠ n + 1) : foldsNum n = -1 := by
  unfold foldsNum
  have : (List.range 7).find? (fun k => 2 ^ k == n + 1) = none := by
    rw [List.find?_eq_none]
    intro k hk
    simpa using h k (by simpa using hk)
  rw [this]
  rfl
theorem foldsNum_plen (n : Nat) (h : n ≤ 63) : decide (0 ≤ foldsNum n) = plen n := by
  have key : ∀ n : Fin 64, decide (0 ≤ foldsNum n.val) = plen n.val := by decide
  exact key ⟨n, by omega⟩
theorem foldsNum_bd (n : Nat) : -1 ≤ foldsNum n ∧ foldsNum n ≤ 6 := by
  by_cases h : ∃ k, k < 7 ∧ 2 ^ k = n + 1
  · obtain ⟨k, hk, he⟩ := h
    rw [foldsNum_hit k n (by omega) he]
    omega
  · rw [foldsNum_miss n (fun k hk he => h ⟨k, hk, he⟩)]
    omega
theorem l5Folds (n : Nat) (w : World) : Calls Try.prog 26 #[.int .i64 n] w fun e w' => e = .returned (.int .i64 (foldsNum n)) ∧ w = w' := by
  go_enter Try.func26, Try.ntmps26
  go_wp2
  go_loop [3] (fun i => ∃ k : Nat, k ≤ 7 ∧ i = .int .i64 k ∧ Hid (∀ j, j < k → 2 ^ j ≠ n + 1)) (fun i => 7 - (intOf i).toNat)
  case atStart => exact ⟨0, Nat.zero_le _, rfl, Lib.hid (fun j hj => absurd hj (by omega))⟩
  case round =>
    obtain ⟨k, hk, rfl, HA⟩ := hrel
    by_cases hlt : k < 7
    · obtain ⟨x, hx⟩ : ∃ x, x = pow2 k := ⟨_, rfl⟩
      have hx1 : x ≤ 64 := by rw [hx]; exact Nat.le_trans (pow2_le (show k ≤ 6 by omega)) (by decide)
      have hx0 : 1 ≤ x := by rw [hx]; exact pow2_pos k
      have HX := Lib.hid hx
      clear hx
      by_cases he : x = n + 1
      · have ht : ((x : Int) - 1 == (n : Int)) = true := by simp; omega
        have HF := Lib.hid (foldsNum_hit k n (by omega) (by rw [← he, HX.out]; rfl))
        clear he
        go_wp2_with fail
        refine (l1Power k _ (by omega)).mono ?_
        rintro e w' ⟨rfl, rfl⟩
        rw [← HX.out]
        go_wp2
        go_ret
        exact ⟨ret_int HF.out.symm, rfl⟩
      · have ht : ((x : Int) - 1 == (n : Int)) = false := by simp; omega
        have HN : Hid (∀ j, j < k + 1 → 2 ^ j ≠ n + 1) := fun j hj => by
          by_cases e : j = k
          · subst e; intro h; exact he (by rw [HX.out]; exact h)
          · exact HA.out j (by omega)
        clear he
        go_wp2_with fail
        refine (l1Power k _ (by omega)).mono ?_
        rintro e w' ⟨rfl, rfl⟩
        rw [← HX.out]
        go_wp2
        go_round
        case rel => exact ⟨k + 1, by omega, by go_num, HN⟩
        case measure => simp [intOf]; omega
    · obtain rfl : k = 7 := by omega
      have HF := Lib.hid (foldsNum_miss n HA.out)
      go_wp2
      go_ret
      exact ⟨ret_int HF.out.symm, rfl⟩
set_option maxHeartbeats 400000 in
theorem alternates (s : ByteArray) (w : World) (hs : s.size ≤ 1048576) :
    Calls Try.prog 37 #[.string s] w fun e w' => e = .returned (.bool (alt (bl s))) ∧ Below w.heap.size w w' := by
  go_enter Try.func37, Try.ntmps37
  go_wp2
  go_loopw [3] (fun i wr => ∃ m : Nat, 1 ≤ m ∧ m ≤ s.size + 1 ∧ i = .int .i64 m ∧ Hid (∀ j, j + 1 < m → (bl s)[j]? ≠ (bl s)[j + 1]?) ∧ Below w.heap.size w wr) (fun i _ => s.size + 1 - (intOf i).toNat)
  case atStart => exact ⟨1, Nat.le_refl _, by omega, rfl, Lib.hid (fun j hj => absurd hj (by omega)), Below.refl _ _⟩
  case round =>
    obtain ⟨m, hm1, hm, rfl, HA, hbel⟩ := hrel
    by_cases hlt : m < s.size
    · have hlt0 : m - 1 < s.size := by omega
      have e1 : IntKind.i64.wrap ((m : Int) - 1) = (m : Int) - 1 := by rw [IntKind.wrap_i64]; omega
      have e2 : 0 ≤ (m : Int) - 1 := by omega
      have e3 : ((m : Int) - 1).toNat = m - 1 := by omega
      have e4 : (1 : Int) ≤ (m : Int) := by omega
      have e5 : (m : Int) - 1 < (s.size : Int) := by omega
      by_cases he : s[m] = s[m - 1]
      · have ht : ((s[m].toNat : Int) == (s[m - 1].toNat : Int)) = true := by rw [he]; simp
        have HF : Hid (alt (bl s) = false) := Lib.hid (alt_false (m - 1) (by rw [bl_length]; omega) (by rw [bl_get s (m - 1) hlt0, show m - 1 + 1 = m from by omega, bl_get s m hlt, he]))
        clear he
        go_wp2
        go_quiet (fail)
        clear e1
        go_wp2
        go_ret
        exact ⟨ret_bool HF.out.symm, below_drewN hbel _⟩
      · have ht : ((s[m].toNat : Int) == (s[m - 1].toNat : Int)) = false := by
          rw [beq_eq_false_iff_ne]
          intro h
          exact he (UInt8.toNat_inj.1 (by omega))
        have HN : Hid (∀ j, j + 1 < m + 1 → (bl s)[j]? ≠ (bl s)[j + 1]?) := fun j hj => by
          by_cases e : j + 1 = m
          · obtain rfl : j = m - 1 := by omega
            rw [bl_get s (m - 1) hlt0, show m - 1 + 1 = m from by omega, bl_get s m hlt]
            intro h
            exact he (Option.some.inj h).symm
          · exact HA.out j (by omega)
        clear he
        go_wp2
        go_quiet (fail)
        clear e1
        go_wp2
        go_roundw
        case rel => exact ⟨m + 1, by omega, by omega, by go_num, HN, below_drewN hbel _⟩
        case measure => simp [intOf]; omega
    · have HF : Hid (alt (bl s) = true) := Lib.hid (alt_true fun k hk => HA.out k (by rw [bl_length] at hk; omega))
      go_wp2
      go_ret
      exact ⟨ret_bool HF.out.symm, hbel⟩
set_option maxHeartbeats 400000 in
theorem everyOther (s : ByteArray) (f : Nat) (w : World) (hs : s.size ≤ 1048576) (hf : f ≤ 1) :
    Calls Try.prog 38 #[.string s, .int .i64 f] w fun e w' => e = .returned (.string (mkS (evensFrom f (bl s)))) ∧ Below w.heap.size w w' := by
  obtain ⟨i0, hi, hz0, hz1, hz2⟩ := info_parts infoByte
  have HI := Lib.hid hi; have HZ0 := Lib.hid hz0; have HZ1 := Lib.hid hz1; have HZ2 := Lib.hid hz2
  clear hi hz0 hz1 hz2
  go_enter Try.func38, Try.ntmps38
  go_wp2_with (at_make; refine wpList_make_own _ rfl _ _ 25 rfl w.heap.size 5 i0 _ 1 Try.underlying25 HI.out HZ0.out HZ1.out _ _ _ s.size rfl rfl rfl (by rw [HZ2.out]; omega) (by unfold maxLen; omega) (Nat.le_refl _) ?_; intro w1 hown hgr)
  have hb1 : Below w.heap.size w w1 := (Below.refl _ _).grown hgr (Nat.le_refl _) (by intro k hk; cases hk)
  clear hgr
  have hz1 := hb1.size
  go_loopw [5, 6] (fun v i wr => ∃ k : Nat, f + 2 * k ≤ s.size + 1 ∧ k ≤ s.size ∧ i = .int .i64 ((f : Int) + 2 * (k : Int)) ∧ v = .slice (some ⟨w.heap.size, 0, none⟩) k s.size ∧
      wr.ownsRow w.heap.size 5 1 (.slice (some ⟨w.heap.size, 0, none⟩) k s.size) k (((evens ((bl s).drop f)).take k).map fun c => Value.int .u8 (c.toNat : Int)) ∧ Below w.heap.size w wr) (fun _ i _ => s.size + 2 - (intOf i).toNat)
  case atStart => exact ⟨0, by omega, by omega, by simp, rfl, hown, hb1⟩
  case round =>
    obtain ⟨k, hk, hk2, rfl, rfl, hown2, hbel⟩ := hrel
    have hzr := hbel.size
    by_cases hlt : f + 2 * k < s.size
    · have HS : Hid (((evens ((bl s).drop f)).take (k + 1)).map (fun c => Value.int .u8 (c.toNat : Int)) = ((evens ((bl s).drop f)).take k).map (fun c => Value.int .u8 (c.toNat : Int)) ++ [Value.int .u8 (s[f + 2 * k].toNat : Int)]) := by
        show _ = _
        have hg : (evens ((bl s).drop f))[k]? = some s[f + 2 * k] := by
          rw [evens_get _ _ (Nat.le_refl _), List.getElem?_drop, bl_get s _ hlt]
        obtain ⟨h1, h2⟩ := List.getElem?_eq_some_iff.1 hg
        rw [List.take_succ_eq_append_getElem h1, h2, List.map_append]
        rfl
      go_wp2_with (at_builtin; refine wpList_append_fits _ rfl _ _ 25 rfl w.heap.size 5 i0 1 Try.underlying25 HI.out HZ1.out w.heap.size k s.size _ rfl (hown2.alloc _) ⟨wr.heap.size, 0, none⟩ 1 1 [.int .u8 (s[f + 2 * k].toNat : Int)] rfl rfl (cell_one_new _ _ _) (by simp [Value.oneCell']) (by omega) ?_; intro w3 hown3 hgr3)
      have hb3 : Below w.heap.size w w3 := (hbel.alloc hzr _).grown hgr3 (by simp; omega) (by intro k hk; cases hk; exact Nat.le_refl _)
      go_roundw
      case rel => exact ⟨k + 1, by omega, by omega, by go_num, rfl, by rw [HS.out]; exact hown3, hb3⟩
      case measure => simp [intOf]; omega
    · have hb := Buf.of_own (l := (evens ((bl s).drop f)).take k) hown2
      have HE : Hid ((evens ((bl s).drop f)).take k = evens ((bl s).drop f)) := by
        show _ = _
        apply List.take_of_length_le
        rw [evens_len _ _ (Nat.le_refl _), List.length_drop, bl_length]
        omega
      obtain ⟨hbuf, hn⟩ := hb
      have HN := Lib.hid hn
      clear hn
      go_wp2_with (refine wpList_string rfl 25 9 5 _ rfl Try.underlying25 Try.underlying5 Try.underlying9 _ _ _ rfl _ hbuf HN.out ?_)
      go_ret
      exact ⟨ret_string (by rw [HE.out, evensFrom]), hbel⟩
set_option maxHeartbeats 1000000 in
theorem l5Even_N (N : Nat) : ∀ (s : ByteArray) (w : World), s.size ≤ N → s.size ≤ 1048576 →
    Calls Try.prog 39 #[.string s] w fun e w' => e = .returned (.bool (evn (bl s))) ∧ Below w.heap.size w w' := by
  induction N with
  | zero =>
    intro s w hN hs
    have h0 : ((s.size : Int) == 0) = true := by rw [beq_iff_eq]; omega
    have HF : Hid (evn (bl s) = true) := by
      show _ = _
      rw [List.eq_nil_of_length_eq_zero (l := bl s) (by rw [bl_length]; omega)]
      rfl
    clear hN
    go_enter Try.func39, Try.ntmps39
    go_wp2_with fail
    go_ret
    exact ⟨ret_bool HF.out.symm, Below.refl _ _⟩
  | succ N ih =>
    intro s w hN hs
    have IH := Lib.hid ih
    clear ih
    by_cases hz : s.size = 0
    · have h0 : ((s.size : Int) == 0) = true := by rw [beq_iff_eq]; omega
      have HF : Hid (evn (bl s) = true) := by
        show _ = _
        rw [List.eq_nil_of_length_eq_zero (l := bl s) (by rw [bl_length]; omega)]
        rfl
      clear hz
      go_enter Try.func39, Try.ntmps39
      go_wp2_with fail
      go_ret
      exact ⟨ret_bool HF.out.symm, Below.refl _ _⟩
    · have h0 : ((s.size : Int) == 0) = false := by rw [beq_eq_false_iff_ne]; omega
      have hpos : 0 < s.size := by omega
      clear hz
      go_enter Try.func39, Try.ntmps39
      go_wp2_with fail
      go_loopw [3, 4] (fun o i wr => ∃ m : Nat, ∃ b : ByteArray, m ≤ s.size ∧ i = .int .i64 m ∧ o = .string b ∧ b.size ≤ m ∧ Hid (bl b = (odds (bl s)).take (m / 2)) ∧ Hid (∀ k, 2 * k + 2 < m → (bl s)[2 * k]? ≠ (bl s)[2 * k + 2]?) ∧ Below w.heap.size w wr) (fun _ i _ => s.size - (intOf i).toNat)
      case atStart => exact ⟨0, ByteArray.empty, Nat.zero_le _, rfl, rfl, Nat.le_refl _, Lib.hid rfl, Lib.hid (fun k hk => absurd hk (by omega)), Below.refl _ _⟩
      case round =>
        obtain ⟨m, b, hm, rfl, rfl, hb, HB, HA, hbel⟩ := hrel
        by_cases hlt : m < s.size
        · rcases Nat.mod_two_eq_zero_or_one m with hpar | hpar
          · -- an even place
            have t1 : ((m : Int) % 2 == 1) = false := by rw [beq_eq_false_iff_ne]; omega
            have t0 : ((m : Int) % 2 == 0) = true := by rw [beq_iff_eq]; omega
            have HB2 : Hid (bl b = (odds (bl s)).take ((m + 1) / 2)) := by rw [show (m + 1) / 2 = m / 2 from by omega]; exact HB
            by_cases h2 : 2 ≤ m
            · have hlt0 : m - 2 < s.size := by omega
              have e1 : IntKind.i64.wrap ((m : Int) - 2) = (m : Int) - 2 := by rw [IntKind.wrap_i64]; omega
              have e2 : 0 ≤ (m : Int) - 2 := by omega
              have e3 : ((m : Int) - 2).toNat = m - 2 := by omega
              have e4 : (2 : Int) ≤ (m : Int) := by omega
              have e5 : (m : Int) - 2 < (s.size : Int) := by omega
              have g1 : (bl s)[m]? = some s[m] := bl_get s m hlt
              have g2 : (bl s)[m - 2]? = some s[m - 2] := bl_get s (m - 2) hlt0
              by_cases he : s[m] = s[m - 2]
              · have ht : ((s[m].toNat : Int) == (s[m - 2].toNat : Int)) = true := by rw [he]; simp
                have HF : Hid (evn (bl s) = false) := by
                  show _ = _
                  rw [evn_cons _ (by rw [bl_length]; exact hpos), alt_false (m := evens (bl s)) ((m - 2) / 2) (by rw [evens_len _ _ (Nat.le_refl _), bl_length]; omega) (by
                    rw [evens_get _ _ (Nat.le_refl _), evens_get _ _ (Nat.le_refl _), show 2 * ((m - 2) / 2) = m - 2 from by omega, show 2 * ((m - 2) / 2 + 1) = m from by omega, g1, g2, he])]
                  rfl
                clear he g1 g2 hpar
                go_wp2_with fail
                go_quiet (fail)
                clear e1
                go_wp2_with fail
                go_ret
                exact ⟨ret_bool HF.out.symm, below_drewN hbel _⟩
              · have ht : ((s[m].toNat : Int) == (s[m - 2].toNat : Int)) = false := by
                  rw [beq_eq_false_iff_ne]
                  intro h
                  exact he (UInt8.toNat_inj.1 (by omega))
                have HN : Hid (∀ k, 2 * k + 2 < m + 1 → (bl s)[2 * k]? ≠ (bl s)[2 * k + 2]?) := fun k hk => by
                  by_cases e : 2 * k + 2 = m
                  · rw [show 2 * k = m - 2 from by omega, show m - 2 + 2 = m from by omega, g1, g2]
                    intro h
                    exact he (Option.some.inj h).symm
                  · exact HA.out k (by omega)
                clear he g1 g2 hpar
                go_wp2_with fail
                go_quiet (fail)
                clear e1
                go_wp2_with fail
                go_roundw
                case rel => exact ⟨m + 1, b, by omega, by go_num, rfl, by omega, HB2, HN, below_drewN hbel _⟩
                case measure => simp [intOf]; omega
            · have h2' : decide ((2 : Int) ≤ (m : Int)) = false := by simp; omega
              have HN : Hid (∀ k, 2 * k + 2 < m + 1 → (bl s)[2 * k]? ≠ (bl s)[2 * k + 2]?) := fun k hk => absurd hk (by omega)
              clear hpar
              go_wp2_with fail
              go_quiet (fail)
              go_wp2_with fail
              go_roundw
              case rel => exact ⟨m + 1, b, by omega, by go_num, rfl, by omega, HB2, HN, below_drewN hbel _⟩
              case measure => simp [intOf]; omega
          · -- an odd place
            have t1 : ((m : Int) % 2 == 1) = true := by rw [beq_iff_eq]; omega
            have t0 : ((m : Int) % 2 == 0) = false := by rw [beq_eq_false_iff_ne]; omega
            have HB2 : Hid ((odds (bl s)).take ((m + 1) / 2) = (odds (bl s)).take (m / 2) ++ [s[m]]) := by
              show _ = _
              have hg : (odds (bl s))[m / 2]? = some s[m] := by rw [odds_get, show 2 * (m / 2) + 1 = m from by omega, bl_get s m hlt]
              obtain ⟨h1, h2⟩ := List.getElem?_eq_some_iff.1 hg
              rw [show (m + 1) / 2 = m / 2 + 1 from by omega, List.take_succ_eq_append_getElem h1, h2]
            have HN : Hid (∀ k, 2 * k + 2 < m + 1 → (bl s)[2 * k]? ≠ (bl s)[2 * k + 2]?) := fun k hk => HA.out k (by omega)
            clear hpar
            go_wp2_with fail
            go_quiet (fail)
            go_wp2_with fail
            have hsz : (b ++ s.extract m (m + 1)).size ≤ m + 1 := by rw [ByteArray.size_append, bl_size1 (bl_slice1 s m hlt)]; omega
            go_roundw
            case rel => exact ⟨m + 1, _, by omega, by go_num, rfl, hsz, Lib.hid (by rw [HB2.out, bl_append, HB.out, bl_slice1 s m hlt]), HN, below_drewN hbel _⟩
            case measure => simp [intOf]; omega
        · have HO : Hid (bl b = odds (bl s)) := by
            show _ = _
            rw [HB.out]
            apply List.take_of_length_le
            rw [odds_len, bl_length]
            omega
          have hbs : b.size ≤ N := by rw [← bl_length, HO.out, odds_len, bl_length]; omega
          have HT : Hid (alt (evens (bl s)) = true) := Lib.hid (alt_true fun k hk => by
            rw [evens_len _ _ (Nat.le_refl _), bl_length] at hk
            rw [evens_get _ _ (Nat.le_refl _), evens_get _ _ (Nat.le_refl _), show 2 * (k + 1) = 2 * k + 2 from by omega]
            exact HA.out k (by omega))
          go_wp2_with fail
          refine (IH.out b _ hbs (by omega)).mono ?_
          rintro e w2 ⟨rfl, hb2⟩
          have hzr := hbel.size
          go_wp2_with fail
          go_ret
          exact ⟨ret_bool (by rw [evn_cons (bl s) (by rw [bl_length]; exact hpos), HT.out, HO.out, Bool.true_and]), hbel.trans (hb2.mono hzr)⟩
theorem l5Even (s : ByteArray) (w : World) (hs : s.size ≤ 1048576) : Calls Try.prog 39 #[.string s] w fun e w' => e = .returned (.bool (evn (bl s))) ∧ Below w.heap.size w w' :=
  l5Even_N s.size s w (Nat.le_refl _) hs
set_option maxHeartbeats 400000 in
theorem specWordEven (s : ByteArray) (w : World) (hs : s.size ≤ 1048576) :
    Calls Try.prog 23 #[.string s] w fun e w' => e = .returned (.bool (wordEvenL (bl s))) ∧ Below w.heap.size w w' := by
  cases hok : creas (bl s) with
  | false =>
    have HF : Hid (wordEvenL (bl s) = false) := by show _ = _; unfold wordEvenL; rw [hok]; rfl
    have HOK := Lib.hid hok
    clear hok
    go_enter Try.func23, Try.ntmps23
    go_wp2_with (go_at_call 25; refine (l5Creases _ _ hs).mono ?_; rintro e w' ⟨rfl, rfl⟩; rw [HOK.out])
    go_ret
    exact ⟨ret_bool HF.out.symm, Below.refl _ _⟩
  | true =>
    have hl : s.size ≤ 63 := by
      have h := hok
      unfold creas at h
      rw [bl_length] at h
      simp only [Bool.and_eq_true, decide_eq_true_eq] at h
      exact h.2
    have hd := foldsNum_plen s.size hl
    cases hp : plen s.size with
    | false =>
      have HF : Hid (wordEvenL (bl s) = false) := by show _ = _; unfold wordEvenL; rw [hok, bl_length, hp]; rfl
      have hd2 : ¬ 0 ≤ foldsNum s.size := by rw [hp] at hd; simpa using hd
      have HOK := Lib.hid hok
      clear hok hd hp
      go_enter Try.func23, Try.ntmps23
      go_wp2_with (first | (go_at_call 25; refine (l5Creases _ _ hs).mono ?_; rintro e w' ⟨rfl, rfl⟩; rw [HOK.out]) | (go_at_call 26; refine (l5Folds _ _).mono ?_; rintro e w' ⟨rfl, rfl⟩))
      go_ret
      exact ⟨ret_bool HF.out.symm, Below.refl _ _⟩
    | true =>
      have HF : Hid (wordEvenL (bl s) = evn (bl s)) := by show _ = _; unfold wordEvenL; rw [hok, bl_length, hp]; rfl
      have hd2 : 0 ≤ foldsNum s.size := by rw [hp] at hd; simpa using hd
      have HOK := Lib.hid hok
      clear hok hd hp
      go_enter Try.func23, Try.ntmps23
      go_wp2_with (first | (go_at_call 25; refine (l5Creases _ _ hs).mono ?_; rintro e w' ⟨rfl, rfl⟩; rw [HOK.out]) | (go_at_call 26; refine (l5Folds _ _).mono ?_; rintro e w' ⟨rfl, rfl⟩) | (go_at_call 39; refine (l5Even _ _ hs).mono ?_; rintro e w2 ⟨rfl, hb2⟩))
      go_ret
      exact ⟨ret_bool HF.out.symm, hb2⟩
theorem implWordEven_nil (s : ByteArray) (w : World) (hN : s.size = 0) :
    Calls Try.prog 22 #[.string s] w fun e w' => e = .returned (.bool (wordEvenL (bl s))) ∧ Below w.heap.size w w' := by
  have hnil : bl s = [] := List.eq_nil_of_length_eq_zero (by rw [bl_length]; exact hN)
  have HF : Hid (wordEvenL (bl ByteArray.empty) = true) := by show _ = _; decide
  have HOK : Hid (creas (bl ByteArray.empty) = true) := by show _ = _; decide
  obtain rfl : s = ByteArray.empty := by rw [← mkS_bl s, hnil]; rfl
  clear hN hnil
  go_enter Try.func22, Try.ntmps22
  go_wp2_with (go_at_call 28; refine (isCreases _ _ (by decide)).mono ?_; rintro e w' ⟨rfl, rfl⟩; rw [HOK.out])
  go_ret
  exact ⟨ret_bool HF.out.symm, Below.refl _ _⟩
set_option maxHeartbeats 1000000 in
theorem implWordEven_N (N : Nat) : ∀ (s : ByteArray) (w : World), s.size ≤ N → s.size ≤ 1048576 →
    Calls Try.prog 22 #[.string s] w fun e w' => e = .returned (.bool (wordEvenL (bl s))) ∧ Below w.heap.size w w' := by
  induction N with
  | zero =>
    intro s w hN hs
    exact implWordEven_nil s w (by omega)
  | succ N ih =>
    intro s w hN hs
    have IH := Lib.hid ih
    clear ih
    by_cases hz : s.size = 0
    · exact implWordEven_nil s w hz
    · have hpos : 0 < s.size := by omega
      clear hz
      cases hok : creas (bl s) with
      | false =>
        have HF : Hid (wordEvenL (bl s) = false) := by show _ = _; unfold wordEvenL; rw [hok]; rfl
        have HOK := Lib.hid hok
        clear hok
        go_enter Try.func22, Try.ntmps22
        go_wp2_with (go_at_call 28; refine (isCreases _ _ (by unfold maxLen; omega)).mono ?_; rintro e w' ⟨rfl, rfl⟩; rw [HOK.out])
        go_ret
        exact ⟨ret_bool HF.out.symm, Below.refl _ _⟩
      | true =>
        have hl : s.size ≤ 63 := by
          have h := hok
          unfold creas at h
          rw [bl_length] at h
          simp only [Bool.and_eq_true, decide_eq_true_eq] at h
          exact h.2
        cases hp : plen s.size with
        | false =>
          have HF : Hid (wordEvenL (bl s) = false) := by show _ = _; unfold wordEvenL; rw [hok, bl_length, hp]; rfl
          have hb : (bits .and .i64 (s.size : Int) ((s.size : Int) + 1) != 0) = true := by
            have e := i64_and_nat s.size (s.size + 1) (by omega) (by omega)
            rw [show ((s.size + 1 : Nat) : Int) = (s.size : Int) + 1 from by omega] at e
            rw [e, bne_iff_ne]
            intro h
            have h0 : s.size &&& (s.size + 1) = 0 := by omega
            rw [(plen_and s.size hl).1 h0] at hp
            cases hp
          have HOK := Lib.hid hok
          clear hok hp
          go_enter Try.func22, Try.ntmps22
          go_wp2_with (go_at_call 28; refine (isCreases _ _ (by unfold maxLen; omega)).mono ?_; rintro e w' ⟨rfl, rfl⟩; rw [HOK.out])
          go_ret
          exact ⟨ret_bool HF.out.symm, Below.refl _ _⟩
        | true =>
          have hb : (bits .and .i64 (s.size : Int) ((s.size : Int) + 1) != 0) = false := by
            have e := i64_and_nat s.size (s.size + 1) (by omega) (by omega)
            rw [show ((s.size + 1 : Nat) : Int) = (s.size : Int) + 1 from by omega] at e
            rw [e, (plen_and s.size hl).2 hp]
            rfl
          have HF := Lib.hid (wordEven_step (bl s) hok (by rw [bl_length]; exact hp) (by rw [bl_length]; exact hpos))
          have hne := str_some hpos
          have HOK := Lib.hid hok
          clear hok hp
          go_enter Try.func22, Try.ntmps22
          go_wp2_with fail
          refine (isCreases _ _ (by unfold maxLen; omega)).mono ?_
          rintro e w' ⟨rfl, rfl⟩
          rw [HOK.out]
          go_wp2_with fail
          refine (everyOther s 0 _ hs (by omega)).mono ?_
          rintro e w1 ⟨rfl, hb1⟩
          have hz1 := hb1.size
          have hs1 : (mkS (evensFrom 0 (bl s))).size ≤ 1048576 := by rw [mkS_size, evensFrom, List.drop_zero, evens_len _ _ (Nat.le_refl _), bl_length]; omega
          go_wp2_with fail
          refine (alternates _ _ hs1).mono ?_
          rintro e w2 ⟨rfl, hb2⟩
          have hz2 := hb2.size
          cases ha : alt (bl (mkS (evensFrom 0 (bl s)))) with
          | false =>
            have ha2 : wordEvenL (bl s) = false := by
              rw [bl_mkS, evensFrom, List.drop_zero] at ha
              rw [HF.out, ha]
              rfl
            have HA2 := Lib.hid ha2
            clear ha2
            go_wp2_with fail
            go_ret
            exact ⟨ret_bool HA2.out.symm, hb1.trans (hb2.mono hz1)⟩
          | true =>
            have ha2 : wordEvenL (bl s) = wordEvenL (odds (bl s)) := by
              rw [bl_mkS, evensFrom, List.drop_zero] at ha
              rw [HF.out, ha]
              rfl
            have HA2 := Lib.hid ha2
            clear ha2
            go_wp2_with fail
            refine (everyOther s 1 _ hs (by omega)).mono ?_
            rintro e w3 ⟨rfl, hb3⟩
            have hz3 := hb3.size
            have hs2 : (mkS (evensFrom 1 (bl s))).size ≤ N := by rw [mkS_size, evensFrom, evens_len _ _ (Nat.le_refl _), List.length_drop, bl_length]; omega
            have hs3 : (mkS (evensFrom 1 (bl s))).size ≤ 1048576 := by rw [mkS_size, evensFrom, evens_len _ _ (Nat.le_refl _), List.length_drop, bl_length]; omega
            go_wp2_with fail
            refine (IH.out _ _ hs2 hs3).mono ?_
            rintro e w4 ⟨rfl, hb4⟩
            go_wp2_with fail
            go_ret
            exact ⟨ret_bool (by rw [HA2.out, bl_mkS]; rfl), hb1.trans ((hb2.trans ((hb3.trans (hb4.mono hz3)).mono hz2)).mono hz1)⟩
theorem implWordEven (s : ByteArray) (w : World) (hs : s.size ≤ 1048576) : Calls Try.prog 22 #[.string s] w fun e w' => e = .returned (.bool (wordEvenL (bl s))) ∧ Below w.heap.size w w' :=
  implWordEven_N s.size s w (Nat.le_refl _) hs
end Go.Proofs.Ytonlmljmhabffaa
