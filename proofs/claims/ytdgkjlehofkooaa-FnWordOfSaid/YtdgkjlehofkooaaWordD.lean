/- The walks of WordText, of the program and of the reference. Conditions: each theorem's own premises. -/
import Derived.Test.YtdgkjlehofkooaaWordC
namespace Go.Proofs.Ytdgkjlehofkooaa.W
set_option maxRecDepth 100000
open Go.RowKit
/-- The letter of the crease in the middle. -/
def midLetter (l : List UInt8) : UInt8 := if l[l.length / 2]? = some 86 then 82 else 114
def wtN : Nat → List UInt8 → List UInt8
  | 0, _ => []
  | n + 1, l => if l.isEmpty then [] else midLetter l :: wtN n (l.take (l.length / 2))
theorem wtN_more : ∀ (n m : Nat) (l : List UInt8), l.length ≤ n → l.length ≤ m → wtN n l = wtN m l
  | 0, 0, _, _, _ => rfl
  | 0, m + 1, l, h, _ => by
    obtain rfl := List.eq_nil_of_length_eq_zero (Nat.le_zero.1 h)
    rfl
  | n + 1, 0, l, _, h => by
    obtain rfl := List.eq_nil_of_length_eq_zero (Nat.le_zero.1 h)
    rfl
  | n + 1, m + 1, l, h1, h2 => by
    unfold wtN
    by_cases hl : l = []
    · subst hl; rfl
    · have : 0 < l.length := List.length_pos_iff.2 hl
      rw [wtN_more n m (l.take (l.length / 2)) (by rw [List.length_take]; omega) (by rw [List.length_take]; omega)]
/-- The letters R and r of a text of creases, read off the middles. -/
def wt (l : List UInt8) : List UInt8 := wtN l.length l
theorem wt_nil : wt [] = [] := rfl
theorem wt_step (l : List UInt8) (h : 0 < l.length) : wt l = midLetter l :: wt (l.take (l.length / 2)) := by
  unfold wt
  obtain ⟨n, hn⟩ : ∃ n, l.length = n + 1 := ⟨l.length - 1, by omega⟩
  have hl : l.isEmpty = false := by
    cases l with
    | nil => simp at h
    | cons a r => rfl
  have e : wtN (n + 1) l = if l.isEmpty then [] else midLetter l :: wtN n (l.take (l.length / 2)) := rfl
  conv => lhs; rw [hn, e, hl]
  rw [wtN_more n (l.take (l.length / 2)).length _ (by rw [List.length_take]; omega) (Nat.le_refl _)]
  rfl
/-- What WordText returns. -/
def wordTextL (l : List UInt8) : List UInt8 := if wordOk l then wt l else []
theorem wordOk_len {s : ByteArray} (h : wordOk (bl s) = true) : s.size ≤ 63 := by
  unfold wordOk creas at h
  rw [bl_length] at h
  simp only [Bool.and_eq_true, decide_eq_true_eq] at h
  exact h.1.1.2
theorem mid_hit {t : ByteArray} {m : Nat} (hm : m = t.size / 2) (h : m < t.size) (hv : ((t[m].toNat : Int) == 86) = true) : midLetter (bl t) = 82 := by
  unfold midLetter
  subst hm
  rw [bl_length, bl_get t _ h, if_pos]
  have : t[t.size / 2] = 86 := byte_eq (n := 86) hv
  rw [this]
theorem mid_miss {t : ByteArray} {m : Nat} (hm : m = t.size / 2) (h : m < t.size) (hv : ((t[m].toNat : Int) == 86) = false) : midLetter (bl t) = 114 := by
  unfold midLetter
  subst hm
  rw [bl_length, bl_get t _ h, if_neg]
  intro e
  rw [Option.some.inj e] at hv
  exact absurd hv (by decide)
set_option maxHeartbeats 1000000 in
theorem implWordText (s : ByteArray) (w : World) (hs : s.size ≤ 1048576) :
    Calls Try.prog 17 #[.string s] w fun e w' => e = .returned (.tuple #[.string (mkS (wordTextL (bl s))), .bool (wordOk (bl s))]) ∧ Below w.heap.size w w' := by
  cases hok : wordOk (bl s) with
  | false =>
    have HN : Hid (wordTextL (bl s) = []) := by show _ = _; unfold wordTextL; rw [hok]; rfl
    have HOK := Lib.hid hok
    clear hok
    go_enter Try.func17, Try.ntmps17
    go_wp2_with (go_at_call 18; refine (implWordValid _ _ hs).mono ?_; rintro e w1 ⟨rfl, hb1⟩; rw [HOK.out])
    go_ret2
    rw [HN.out]
    exact ⟨rfl, hb1⟩
  | true =>
    obtain ⟨i0, hi, hz0, hz1, hz2⟩ := info_parts infoByte
    have HI := Lib.hid hi; have HZ0 := Lib.hid hz0; have HZ1 := Lib.hid hz1; have HZ2 := Lib.hid hz2
    clear hi hz0 hz1 hz2
    have hl := wordOk_len hok
    have HN : Hid (wordTextL (bl s) = wt (bl s)) := by show _ = _; unfold wordTextL; rw [hok]; rfl
    have HOK := Lib.hid hok
    clear hok
    go_enter Try.func17, Try.ntmps17
    go_wp2_with fail
    refine (implWordValid _ _ hs).mono ?_
    rintro e w1 ⟨rfl, hb1⟩
    rw [HOK.out]
    have hzz1 := hb1.size
    go_wp2_with (at_make; refine wpList_make_own _ rfl _ _ 22 rfl w.heap.size 5 i0 _ 1 Try.underlying22 HI.out HZ0.out HZ1.out _ _ _ 6 rfl rfl rfl (by rw [HZ2.out]; omega) (by unfold maxLen; omega) (by omega) ?_; intro w2 hown hgr)
    have hb2 : Below w.heap.size w w2 := hb1.grown hgr hzz1 (by intro k hk; cases hk)
    have hz2 : w1.heap.size ≤ w2.heap.size := hgr.size
    clear hgr
    go_loopw [0, 4] (fun x o wr => ∃ t : ByteArray, ∃ k : Nat, ∃ l : List UInt8, x = .string t ∧ o = .slice (some ⟨w1.heap.size, 0, none⟩) k 6 ∧ t.size ≤ 63 ∧ k ≤ 6 ∧ Hid (t.size < pow2 (6 - k)) ∧
        wr.ownsRow w.heap.size 5 1 (.slice (some ⟨w1.heap.size, 0, none⟩) k 6) k (l.map fun c => Value.int .u8 (c.toNat : Int)) ∧ Hid (wt (bl s) = l ++ wt (bl t)) ∧ Below w.heap.size w wr) (fun x _ _ => strLen x)
    case atStart => exact ⟨s, 0, [], rfl, rfl, hl, by omega, Lib.hid (Nat.lt_of_le_of_lt hl (by decide)), hown, Lib.hid rfl, hb2⟩
    case round =>
      obtain ⟨t, k, l, rfl, rfl, ht, hk, HK, hown2, HT, hbel⟩ := hrel
      have hzr := hbel.size
      by_cases hpos : 0 < t.size
      · have hlt : t.size / 2 < t.size := by omega
        have hk6 : k < 6 := by
          have h := HK.out
          by_cases e : k = 6
          · subst e
            have : pow2 (6 - 6) = 1 := rfl
            omega
          · omega
        have HK2 : Hid (t.size / 2 < pow2 (6 - (k + 1))) := by
          have h := HK.out
          rw [show 6 - k = 6 - (k + 1) + 1 from by omega, pow2_succ] at h
          show _ < _
          omega
        have hst := Lib.hid (wt_step (bl t) (by rw [bl_length]; exact hpos))
        have HSZ : Hid ((t.extract 0 (t.size / 2)).size = t.size / 2) := Lib.hid (size_left _ _ (by omega))
        cases hv : ((t[t.size / 2].toNat : Int) == 86) with
        | true =>
          have HE : Hid (wt (bl s) = (l ++ [82]) ++ wt (bl (t.extract 0 (t.size / 2)))) := by
            show _ = _
            rw [HT.out, hst.out, mid_hit rfl hlt hv, bl_left, bl_length, List.append_assoc]
            rfl
          have HM : Hid ((l ++ [82]).map (fun c : UInt8 => Value.int .u8 (c.toNat : Int)) = l.map (fun c => Value.int .u8 (c.toNat : Int)) ++ [Value.int .u8 82]) := by show _ = _; rw [List.map_append]; rfl
          go_wp2_with (at_builtin; refine wpList_append_fits _ rfl _ _ 22 rfl w.heap.size 5 i0 1 Try.underlying22 HI.out HZ1.out w1.heap.size k 6 _ rfl (hown2.alloc _) ⟨wr.heap.size, 0, none⟩ 1 1 [.int .u8 82] rfl rfl (cell_one_new _ _ _) (by simp [Value.oneCell']) (by omega) ?_; intro w3 hown3 hgr3)
          have hb3 : Below w.heap.size w w3 := (hbel.alloc hzr _).grown hgr3 (by simp; omega) (by intro k hk; cases hk; exact hzz1)
          go_roundw
          case rel => exact ⟨_, k + 1, l ++ [82], rfl, rfl, by rw [HSZ.out]; omega, by omega, by rw [HSZ.out]; exact HK2, by rw [HM.out]; exact hown3, HE, hb3⟩
          case measure => show (t.extract 0 (t.size / 2)).size < t.size; rw [HSZ.out]; omega
        | false =>
          have HE : Hid (wt (bl s) = (l ++ [114]) ++ wt (bl (t.extract 0 (t.size / 2)))) := by
            show _ = _
            rw [HT.out, hst.out, mid_miss rfl hlt hv, bl_left, bl_length, List.append_assoc]
            rfl
          have HM : Hid ((l ++ [114]).map (fun c : UInt8 => Value.int .u8 (c.toNat : Int)) = l.map (fun c => Value.int .u8 (c.toNat : Int)) ++ [Value.int .u8 114]) := by show _ = _; rw [List.map_append]; rfl
          go_wp2_with (at_builtin; refine wpList_append_fits _ rfl _ _ 22 rfl w.heap.size 5 i0 1 Try.underlying22 HI.out HZ1.out w1.heap.size k 6 _ rfl (hown2.alloc _) ⟨wr.heap.size, 0, none⟩ 1 1 [.int .u8 114] rfl rfl (cell_one_new _ _ _) (by simp [Value.oneCell']) (by omega) ?_; intro w3 hown3 hgr3)
          have hb3 : Below w.heap.size w w3 := (hbel.alloc hzr _).grown hgr3 (by simp; omega) (by intro k hk; cases hk; exact hzz1)
          go_roundw
          case rel => exact ⟨_, k + 1, l ++ [114], rfl, rfl, by rw [HSZ.out]; omega, by omega, by rw [HSZ.out]; exact HK2, by rw [HM.out]; exact hown3, HE, hb3⟩
          case measure => show (t.extract 0 (t.size / 2)).size < t.size; rw [HSZ.out]; omega
      · obtain ⟨hbuf, hn⟩ := Buf.of_own (l := l) hown2
        have HNN := Lib.hid hn
        clear hn
        have HE : Hid (l = wt (bl s)) := by
          show _ = _
          rw [HT.out, List.eq_nil_of_length_eq_zero (l := bl t) (by rw [bl_length]; omega), wt_nil, List.append_nil]
        go_wp2_with (refine wpList_string rfl 22 9 5 _ rfl Try.underlying22 Try.underlying5 Try.underlying9 _ _ _ rfl _ hbuf HNN.out ?_)
        go_ret2
        rw [HN.out, ← HE.out]
        exact ⟨rfl, hbel⟩
end Go.Proofs.Ytdgkjlehofkooaa.W
