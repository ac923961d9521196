/- The walks of the functions of chapters 1 and 5 that look at texts of creases: valid folds, folds exchanged, the other side of a text. Conditions: each theorem's own premises. -/
import Derived.Test.YtdgkjlehofkooaaChecked
import Derived.Test.YtdgkjlehofkooaaBase
import Derived.Deep.QuietTactic
import Derived.BigQuiet
namespace Go.Proofs.Ytdgkjlehofkooaa.W
set_option maxRecDepth 100000
open Go.RowKit
def isMV (c : UInt8) : Bool := c == 77 || c == 86
theorem infoByte : (Try.prog.info? 5).map (fun i => (i.zero, i.size, i.bytes)) = some (some (.int .u8 0), 1, 1) := by kernel_rfl
/-- FoldsValid of the bytes of a text and a number. -/
def foldsOk (l : List UInt8) (n : Int) : Bool := l.all isMV && decide ((l.length : Int) = n)
/-- A text of creases. -/
def creas (l : List UInt8) : Bool := l.all isMV && decide (l.length ≤ 63)
def swp (c : UInt8) : UInt8 := if c = 77 then 86 else if c = 86 then 77 else c
/-- The other side of a text. -/
def otherL (l : List UInt8) : List UInt8 := l.reverse.map swp
theorem isMV_val (c : UInt8) : ((c.toNat : Int) == 77) = true ∧ isMV c = true ∧ swp c = 86 ∨ ((c.toNat : Int) == 77) = false ∧ (((c.toNat : Int) == 86) = true ∧ isMV c = true ∧ swp c = 77 ∨ ((c.toNat : Int) == 86) = false ∧ isMV c = false ∧ swp c = c) := by
  have e : ∀ n : Nat, n < 256 → (((c.toNat : Int) == (n : Int)) = decide (c = UInt8.ofNat n)) := fun n hn => by
    rw [Bool.eq_iff_iff]
    simp only [beq_iff_eq, decide_eq_true_eq]
    constructor
    · intro h
      have : c.toNat = n := by omega
      rw [← this, UInt8.ofNat_toNat]
    · rintro rfl
      have : (UInt8.ofNat n).toNat = n := by simp; omega
      rw [this]
  have e1 : ((c.toNat : Int) == 77) = decide (c = 77) := e 77 (by omega)
  have e2 : ((c.toNat : Int) == 86) = decide (c = 86) := e 86 (by omega)
  rw [e1, e2]
  unfold isMV swp
  by_cases h1 : c = 77
  · left; subst h1; decide
  · right
    refine ⟨by simpa using h1, ?_⟩
    by_cases h2 : c = 86
    · left; subst h2; decide
    · right
      exact ⟨by simpa using h2, by simp [h1, h2], by rw [if_neg h1, if_neg h2]⟩
theorem all_take_step {p : UInt8 → Bool} (s : ByteArray) (k : Nat) (h : k < s.size) : ((bl s).take (k + 1)).all p = (((bl s).take k).all p && p s[k]) := by
  rw [bl_take s k h, List.all_append]
  simp
theorem all_false {p : UInt8 → Bool} (s : ByteArray) (k : Nat) (h : k < s.size) (hp : p s[k] = false) : (bl s).all p = false := by
  rw [List.all_eq_false]
  exact ⟨s[k], List.mem_of_getElem? (bl_get s k h), by simp [hp]⟩
theorem all_true {p : UInt8 → Bool} (s : ByteArray) (h : (bl s).all p = true) (k : Nat) (hk : k < s.size) : p s[k] = true := by
  rw [List.all_eq_true] at h
  exact h _ (List.mem_of_getElem? (bl_get s k hk))
set_option maxHeartbeats 400000 in
theorem implFoldsValid (s : ByteArray) (n : Int) (w : World) (hs : s.size ≤ 1048576) (h1 : -9223372036854775808 ≤ n) (h2 : n ≤ 9223372036854775807) :
    Calls Try.prog 63 #[.string s, .int .i64 n] w fun e w' => e = .returned (.bool (foldsOk (bl s) n)) ∧ w = w' := by
  by_cases hn : n < 0
  · have HF : Hid (foldsOk (bl s) n = false) := by
      show _ = _
      unfold foldsOk
      have : ¬ (((bl s).length : Int) = n) := by omega
      simp [this]
    go_enter Try.func63, Try.ntmps63
    go_wp2
    go_ret
    exact ⟨ret_bool HF.out.symm, rfl⟩
  · by_cases hne : ((s.size : Int) != n) = true
    · have HF : Hid (foldsOk (bl s) n = false) := by
        show _ = _
        unfold foldsOk
        have : ¬ (((bl s).length : Int) = n) := by rw [bl_length]; simpa using hne
        simp [this]
      go_enter Try.func63, Try.ntmps63
      go_wp2
      go_ret
      exact ⟨ret_bool HF.out.symm, rfl⟩
    · obtain rfl : n = (s.size : Int) := by simp only [bne_iff_ne, ne_eq, Decidable.not_not] at hne; exact hne.symm
      have hne' : ((s.size : Int) != (s.size : Int)) = false := by simp
      clear hne
      go_enter Try.func63, Try.ntmps63
      go_wp2
      go_loop [5] (fun i => ∃ k : Nat, k ≤ s.size ∧ i = .int .i64 k ∧ Hid (((bl s).take k).all isMV = true)) (fun i => s.size - (intOf i).toNat)
      case atStart => exact ⟨0, Nat.zero_le _, rfl, Lib.hid rfl⟩
      case round =>
        obtain ⟨k, hk, rfl, HA⟩ := hrel
        by_cases hlt : k < s.size
        · rcases isMV_val s[k] with ⟨h1, hv, _⟩ | ⟨h1, ⟨h2, hv, _⟩ | ⟨h2, hv, _⟩⟩
          · have h1' : ((s[k].toNat : Int) != 77) = false := by rw [bne, h1]; rfl
            have HN : Hid (((bl s).take (k + 1)).all isMV = true) := by show _ = _; rw [all_take_step s k hlt, HA.out, hv]; rfl
            clear hv
            go_wp2
            go_round
            case rel => exact ⟨k + 1, by omega, by go_num, HN⟩
            case measure => simp [intOf]; omega
          · have h1' : ((s[k].toNat : Int) != 77) = true := by rw [bne, h1]; rfl
            have h2' : ((s[k].toNat : Int) != 86) = false := by rw [bne, h2]; rfl
            have HN : Hid (((bl s).take (k + 1)).all isMV = true) := by show _ = _; rw [all_take_step s k hlt, HA.out, hv]; rfl
            clear hv
            go_wp2
            go_round
            case rel => exact ⟨k + 1, by omega, by go_num, HN⟩
            case measure => simp [intOf]; omega
          · have h1' : ((s[k].toNat : Int) != 77) = true := by rw [bne, h1]; rfl
            have h2' : ((s[k].toNat : Int) != 86) = true := by rw [bne, h2]; rfl
            have HF : Hid (foldsOk (bl s) (s.size : Int) = false) := by show _ = _; unfold foldsOk; rw [all_false s k hlt hv]; rfl
            clear hv
            go_wp2
            go_ret
            exact ⟨ret_bool HF.out.symm, rfl⟩
        · obtain rfl : k = s.size := by omega
          have HF : Hid (foldsOk (bl s) (s.size : Int) = true) := by
            show _ = _
            have := HA.out
            rw [bl_full] at this
            unfold foldsOk
            rw [this, bl_length]
            simp
          go_wp2
          go_ret
          exact ⟨ret_bool HF.out.symm, rfl⟩
theorem creas_folds (l : List UInt8) (h : l.length ≤ 63) : creas l = foldsOk l (l.length : Int) := by
  unfold creas foldsOk
  simp [h]
theorem creas_long (l : List UInt8) (h : ¬ l.length ≤ 63) : creas l = false := by
  unfold creas
  simp [h]
theorem isCreases (s : ByteArray) (w : World) (hs : s.size ≤ maxLen) :
    Calls Try.prog 43 #[.string s] w fun e w' => e = .returned (.bool (creas (bl s))) ∧ w = w' := by
  unfold maxLen at hs
  by_cases hl : s.size ≤ 63
  · have HC := Lib.hid (creas_folds (bl s) (by rw [bl_length]; exact hl))
    go_enter Try.func43, Try.ntmps43
    go_wp2_with (go_at_call 63; refine (implFoldsValid _ _ _ (by omega) (by omega) (by omega)).mono ?_; rintro e w' ⟨rfl, rfl⟩)
    go_ret
    rw [HC.out, bl_length]
    exact ⟨rfl, rfl⟩
  · have HC := Lib.hid (creas_long (bl s) (by rw [bl_length]; exact hl))
    go_enter Try.func43, Try.ntmps43
    go_wp2
    go_ret
    exact ⟨ret_bool HC.out.symm, rfl⟩
set_option maxHeartbeats 400000 in
theorem implFoldsSwap (s : ByteArray) (w : World) (hs : s.size ≤ 1048576) :
    Calls Try.prog 11 #[.string s] w fun e w' => e = .returned (.string (mkS ((bl s).map swp))) ∧ Below w.heap.size w w' := by
  go_enter Try.func11, Try.ntmps11
  go_wp2_with (refine wpList_bytes rfl 9 22 5 _ rfl Try.underlying9 Try.underlying22 Try.underlying5 s rfl ?_; intro c w2 hbuf hb2)
  have hz2 := hb2.size
  go_loopw [10] (fun i wr => ∃ k : Nat, k ≤ s.size ∧ i = .int .i64 k ∧ Buf wr w.heap.size (half swp (bl s) k) ∧ Below w.heap.size w wr) (fun i _ => s.size - (intOf i).toNat)
  case atStart => exact ⟨0, Nat.zero_le _, rfl, hbuf.half_start _, hb2⟩
  case round =>
    obtain ⟨k, hk, rfl, hB, hbel⟩ := hrel
    have hzr := hbel.size
    by_cases hlt : k < s.size
    · obtain ⟨hc, hf⟩ := hB.half_cell hlt
      rcases isMV_val s[k] with ⟨h1, _, hv⟩ | ⟨h1, ⟨h2, _, hv⟩ | ⟨h2, _, hv⟩⟩
      all_goals
        have HV := Lib.hid hv
        clear hv
        go_wp2
        go_roundw
      case rel => exact ⟨k + 1, by omega, by go_num, hB.half_store hlt (by rw [HV.out]; rfl), hbel.setCell (by simp) _⟩
      case rel => exact ⟨k + 1, by omega, by go_num, hB.half_store hlt (by rw [HV.out]; rfl), hbel.setCell (by simp) _⟩
      case rel => exact ⟨k + 1, by omega, by go_num, hB.half_keep hlt HV.out, hbel⟩
      all_goals (simp [intOf]; omega)
    · obtain rfl : k = s.size := by omega
      have hE := hB.half_end
      have hn : Hid (((bl s).map swp).length = s.size) := by show _ = _; rw [List.length_map, bl_length]
      go_wp2_with (refine wpList_string rfl 22 9 5 _ rfl Try.underlying22 Try.underlying5 Try.underlying9 _ _ _ rfl _ hE hn.out ?_)
      go_ret
      exact ⟨rfl, hbel⟩
set_option maxHeartbeats 400000 in
theorem specFoldsSwap (s : ByteArray) (w : World) (hs : s.size ≤ 1048576) :
    Calls Try.prog 76 #[.string s] w fun e w' => e = .returned (.string (mkS ((bl s).map swp))) ∧ w = w' := by
  go_enter Try.func76, Try.ntmps76
  go_wp2
  go_loop [3, 4] (fun o i => ∃ k : Nat, ∃ b : ByteArray, k ≤ s.size ∧ i = .int .i64 k ∧ o = .string b ∧ b.size ≤ k ∧ Hid (bl b = ((bl s).take k).map swp)) (fun _ i => s.size - (intOf i).toNat)
  case atStart => exact ⟨0, ByteArray.empty, Nat.zero_le _, rfl, rfl, Nat.le_refl _, Lib.hid rfl⟩
  case round =>
    obtain ⟨k, b, hk, rfl, rfl, hb, HB⟩ := hrel
    by_cases hlt : k < s.size
    · have HS : Hid (((bl s).take (k + 1)).map swp = ((bl s).take k).map swp ++ [swp s[k]]) := by show _ = _; rw [bl_take s k hlt, List.map_append]; rfl
      rcases isMV_val s[k] with ⟨h1, _, hv⟩ | ⟨h1, ⟨h2, _, hv⟩ | ⟨h2, _, hv⟩⟩
      all_goals
        have HV := Lib.hid hv
        clear hv
        go_wp2
        go_round
      case rel => exact ⟨k + 1, _, by omega, by go_num, rfl, by rw [ByteArray.size_append]; show _ + 1 ≤ _; omega, Lib.hid (by rw [HS.out, HV.out, bl_append, HB.out]; rfl)⟩
      case rel => exact ⟨k + 1, _, by omega, by go_num, rfl, by rw [ByteArray.size_append]; show _ + 1 ≤ _; omega, Lib.hid (by rw [HS.out, HV.out, bl_append, HB.out]; rfl)⟩
      case rel => exact ⟨k + 1, _, by omega, by go_num, rfl, by rw [ByteArray.size_append, bl_size1 (bl_slice1 s k hlt)]; omega, Lib.hid (by rw [HS.out, HV.out, bl_append, HB.out, bl_slice1 s k hlt])⟩
      all_goals (simp [intOf]; omega)
    · obtain rfl : k = s.size := by omega
      have HF : Hid (b = mkS ((bl s).map swp)) := by
        have := HB.out
        rw [bl_full] at this
        exact Lib.hid (eq_mkS this)
      go_wp2
      go_ret
      exact ⟨ret_string HF.out, rfl⟩
set_option maxHeartbeats 400000 in
theorem l2Text (s : ByteArray) (w : World) (hs : s.size ≤ 1048576) :
    Calls Try.prog 77 #[.string s] w fun e w' => e = .returned (.string (mkS (bl s).reverse)) ∧ w = w' := by
  go_enter Try.func77, Try.ntmps77
  go_wp2
  go_loop [3, 4] (fun o i => ∃ k : Nat, ∃ b : ByteArray, k ≤ s.size ∧ i = .int .i64 ((k : Int) - 1) ∧ o = .string b ∧ b.size ≤ s.size ∧ Hid (b.size = s.size - k ∧ bl b = ((bl s).drop k).reverse)) (fun _ i => (intOf i + 1).toNat)
  case atStart => exact ⟨s.size, ByteArray.empty, Nat.le_refl _, rfl, rfl, Nat.zero_le _, Lib.hid ⟨by rw [Nat.sub_self]; rfl, by rw [← bl_length, List.drop_length]; rfl⟩⟩
  case round =>
    obtain ⟨k, b, hk, rfl, rfl, hb, HB⟩ := hrel
    by_cases hlt : 0 < k
    · obtain ⟨m, rfl⟩ : ∃ m, k = m + 1 := ⟨k - 1, by omega⟩
      have hm : m < s.size := by omega
      have e1 : ((m + 1 : Nat) : Int) - 1 = (m : Int) := by omega
      rw [e1]
      clear e1
      go_wp2
      have hsz : (b ++ s.extract m (m + 1)).size = s.size - m := by
        rw [ByteArray.size_append, bl_size1 (bl_slice1 s m hm), HB.out.1]
        omega
      go_round
      case rel => exact ⟨m, _, by omega, by go_num, rfl, by omega, Lib.hid ⟨hsz, by rw [bl_append, HB.out.2, bl_slice1 s m hm, bl_drop s m hm, List.reverse_cons]⟩⟩
      case measure => simp [intOf]
    · obtain rfl : k = 0 := by omega
      have HF : Hid (b = mkS (bl s).reverse) := Lib.hid (eq_mkS HB.out.2)
      go_wp2
      go_ret
      exact ⟨ret_string HF.out, rfl⟩
theorem l5Other (s : ByteArray) (w : World) (hs : s.size ≤ 1048576) :
    Calls Try.prog 62 #[.string s] w fun e w' => e = .returned (.string (mkS (otherL (bl s)))) ∧ w = w' := by
  go_enter Try.func62, Try.ntmps62
  go_wp2_with fail
  refine (l2Text _ _ hs).mono ?_
  rintro e w' ⟨rfl, rfl⟩
  go_wp2_with fail
  refine (specFoldsSwap _ _ (by rw [mkS_size, List.length_reverse, bl_length]; exact hs)).mono ?_
  rintro e w' ⟨rfl, rfl⟩
  go_wp2_with fail
  go_ret
  exact ⟨ret_string (by rw [bl_mkS, otherL]), rfl⟩
/-- What otherSide has written after k rounds. -/
def revTo (l : List UInt8) (k : Nat) : List UInt8 := l.reverse.take k ++ List.replicate (l.length - k) 0
theorem revTo_zero (l : List UInt8) : revTo l 0 = List.replicate l.length 0 := by simp [revTo]
theorem revTo_full (l : List UInt8) : revTo l l.length = l.reverse := by
  unfold revTo
  rw [Nat.sub_self, List.take_of_length_le (by simp)]
  simp
theorem revTo_length (l : List UInt8) (k : Nat) (h : k ≤ l.length) : (revTo l k).length = l.length := by
  simp [revTo]
  omega
theorem revTo_set (l : List UInt8) (k : Nat) (h : k < l.length) : (revTo l k).set k (l[l.length - 1 - k]'(by omega)) = revTo l (k + 1) := by
  unfold revTo
  have e : l.length - k = (l.length - (k + 1)) + 1 := by omega
  rw [List.set_append_right _ _ (by simp; omega), e, List.replicate_succ, List.take_succ_eq_append_getElem (by simp; exact h)]
  have e0 : k - (l.reverse.take k).length = 0 := by simp; omega
  rw [e0, List.set_cons_zero, List.append_assoc, List.getElem_reverse]
  rfl
set_option maxHeartbeats 400000 in
theorem otherSide (s : ByteArray) (w : World) (hs : s.size ≤ 1048576) :
    Calls Try.prog 44 #[.string s] w fun e w' => e = .returned (.string (mkS (otherL (bl s)))) ∧ Below w.heap.size w w' := by
  obtain ⟨i0, hi, hz0, hz1, hz2⟩ := info_parts infoByte
  have HI := Lib.hid hi; have HZ0 := Lib.hid hz0; have HZ1 := Lib.hid hz1; have HZ2 := Lib.hid hz2
  clear hi hz0 hz1 hz2
  go_enter Try.func44, Try.ntmps44
  go_wp2_with (refine wpList_make_buf rfl _ _ 22 rfl 5 i0 Try.underlying22 HI.out HZ0.out HZ1.out HZ2.out _ _ _ _ s.size rfl rfl rfl rfl (by omega) ?_; intro w2 hbuf hb2)
  have hz2 := hb2.size
  go_loopw [10] (fun i wr => ∃ k : Nat, k ≤ s.size ∧ i = .int .i64 k ∧ Buf wr w.heap.size (revTo (bl s) k) ∧ Below w.heap.size w wr) (fun i _ => s.size - (intOf i).toNat)
  case atStart => exact ⟨0, Nat.zero_le _, rfl, by rw [revTo_zero, bl_length]; exact hbuf, hb2⟩
  case round =>
    obtain ⟨k, hk, rfl, hB, hbel⟩ := hrel
    have hzr := hbel.size
    by_cases hlt : k < s.size
    · have hl : k < (revTo (bl s) k).length := by rw [revTo_length _ _ (by rw [bl_length]; exact hk), bl_length]; exact hlt
      obtain ⟨hc, hf⟩ := hB.2 k hl
      have hi1 : (0 : Int) ≤ (s.size : Int) - 1 - (k : Int) := by omega
      have hi2 : (s.size : Int) - 1 - (k : Int) < (s.size : Int) := by omega
      have HS : Hid (revTo (bl s) (k + 1) = (revTo (bl s) k).set k s[s.size - 1 - k]) := by
        show _ = _
        have hk2 : k < (bl s).length := by rw [bl_length]; exact hlt
        rw [← revTo_set (bl s) k hk2]
        congr 1
      go_wp2
      go_roundw
      case rel => exact ⟨k + 1, by omega, by go_num, by rw [HS.out]; exact hB.set k _, hbel.setCell (by simp) _⟩
      case measure => simp [intOf]; omega
    · obtain rfl : k = s.size := by omega
      have hn : Hid ((bl s).reverse.length = s.size) := by show _ = _; rw [List.length_reverse, bl_length]
      have hE : Buf wr w.heap.size (bl s).reverse := by
        have := revTo_full (bl s)
        rw [bl_length] at this
        rw [← this]
        exact hB
      go_wp2_with (refine wpList_string rfl 22 9 5 _ rfl Try.underlying22 Try.underlying5 Try.underlying9 _ _ _ rfl _ hE hn.out ?_)
      refine (implFoldsSwap _ _ (by rw [mkS_size, List.length_reverse, bl_length]; exact hs)).mono ?_
      rintro e w3 ⟨rfl, hb3⟩
      go_wp2
      go_ret
      exact ⟨ret_string (by rw [bl_mkS, otherL]), hbel.trans (hb3.mono hzr)⟩
/-- The text that WordOther returns. -/
def wordOtherL (l : List UInt8) : List UInt8 := if creas l then otherL l else []
end Go.Proofs.Ytdgkjlehofkooaa.W
