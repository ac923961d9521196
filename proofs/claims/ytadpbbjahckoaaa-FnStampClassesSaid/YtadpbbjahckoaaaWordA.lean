/- The walks of the functions of chapters 1 and 5 that look at texts of creases: valid folds, folds exchanged, the other side of a text. Conditions: each theorem's own premises. -/
import Derived.Test.YtadpbbjahckoaaaChecked
import Derived.Test.YtadpbbjahckoaaaBase
import Derived.Deep.QuietTactic
import Derived.BigQuiet
namespace Go.Proofs.Ytadpbbjahckoaaa
set_option maxRecDepth 100000
open Go.RowKit
def isMV (c : UInt8) : Bool := c == 77 || c == 86
theorem infoByte : (Try.prog.info? 5).map (fun i => (i.zero, i.size, i.bytes)) = some (some (.int .u8 0), 1, 1) := by kernel_rfl
/-- FoldsValid of the bytes of a text and a number. -/
def foldsOk (l : List UInt8) (n : Int) : Bool := l.all isMV && decide ((l.length : Int) = n)
/-- A text of creases. -/
def creas (l : List UInt8) : Bool := l.all isMV && decide (l.length ≤ 63)
def swp (c : UInt8) : UInt8 := if c = 77 then 86 else if c = 86 then 77 else c
/-- The other side of a text. -/
def otherL (l : List UInt8) : List UInt8 := l.reverse.map swp
theorem isMV_val (c : UInt8) : ((c.toNat : Int) == 77) = true ∧ isMV c = true ∧ swp c = 86 ∨ ((c.toNat : Int) == 77) = false ∧ (((c.toNat : Int) == 86) = true ∧ isMV c = true ∧ swp c = 77 ∨ ((c.toNat : Int) == 86) = false ∧ isMV c = false ∧ swp c = c) := by
  have e : ∀ n : Nat, n < 256 → (((c.toNat : Int) == (n : Int)) = decide (c = UInt8.ofNat n)) := fun n hn => by
    rw [Bool.eq_iff_iff]
    simp only [beq_iff_eq, decide_eq_true_eq]
    constructor
    · intro h
      have : c.toNat = n := by omega
      rw [← this, UInt8.ofNat_toNat]
    · rintro rfl
      have : (UInt8.ofNat n).toNat = n := by simp; omega
      rw [this]
  have e1 : ((c.toNat : Int) == 77) = decide (c = 77) := e 77 (by omega)
  have e2 : ((c.toNat : Int) == 86) = decide (c = 86) := e 86 (by omega)
  rw [e1, e2]
  unfold isMV swp
  by_cases h1 : c = 77
  · left; subst h1; decide
  · right
    refine ⟨by simpa using h1, ?_⟩
    by_cases h2 : c = 86
    · left; subst h2; decide
    · right
      exact ⟨by simpa using h2, by simp [h1, h2], by rw [if_neg h1, if_neg h2]⟩
theorem all_take_step {p : UInt8 → Bool} (s : ByteArray) (k : Nat) (h : k < s.size) : ((bl s).take (k + 1)).all p = (((bl s).take k).all p && p s[k]) := by
  rw [bl_take s k h, List.all_append]
  simp
theorem all_false {p : UInt8 → Bool} (s : ByteArray) (k : Nat) (h : k < s.size) (hp : p s[k] = false) : (bl s).all p = false := by
  rw [List.all_eq_false]
  exact ⟨s[k], List.mem_of_getElem? (bl_get s k h), by simp [hp]⟩
theorem all_true {p : UInt8 → Bool} (s : ByteArray) (h : (bl s).all p = true) (k : Nat) (hk : k < s.size) : p s[k] = true := by
  rw [List.all_eq_true] at h
  exact h _ (List.mem_of_getElem? (bl_get s k hk))
set_option maxHeartbeats 400000 in
theorem implFoldsValid (s : ByteArray) (n : Int) (w : World) (hs : s.size ≤ 1048576) (h1 : -9223372036854775808 ≤ n) (h2 : n ≤ 9223372036854775807) :
    Calls Try.prog 61 #[.string s, .int .i64 n] w fun e w' => e = .returned (.bool (foldsOk (bl s) n)) ∧ w = w' := by
  by_cases hn : n < 0
  · have HF : Hid (foldsOk (bl s) n = false) := by
      show _ = _
      unfold foldsOk
      have : ¬ (((bl s).length : Int) = n) := by omega
      simp [this]
    go_enter Try.func61, Try.ntmps61
    go_wp2
    go_ret
    exact ⟨ret_bool HF.out.symm, rfl⟩
  · by_cases hne : ((s.size : Int) != n) = true
    · have HF : Hid (foldsOk (bl s) n = false) := by
        show _ = _
        unfold foldsOk
        have : ¬ (((bl s).length : Int) = n) := by rw [bl_length]; simpa using hne
        simp [this]
      go_enter Try.func61, Try.ntmps61
      go_wp2
      go_ret
      exact ⟨ret_bool HF.out.symm, rfl⟩
    · obtain rfl : n = (s.size : Int) := by simp only [bne_iff_ne, ne_eq, Decidable.not_not] at hne; exact hne.symm
      have hne' : ((s.size : Int) != (s.size : Int)) = false := by simp
      clear hne
      go_enter Try.func61, Try.ntmps61
      go_wp2
      go_loop [5] (fun i => ∃ k : Nat, k ≤ s.size ∧ i = .int .i64 k ∧ Hid (((bl s).take k).all isMV = true)) (fun i => s.size - (intOf i).toNat)
      case atStart => exact ⟨0, Nat.zero_le _, rfl, Lib.hid rfl⟩
      case round =>
        obtain ⟨k, hk, rfl, HA⟩ := hrel
        by_cases hlt : k < s.size
        · rcases isMV_val s[k] with ⟨h1, hv, _⟩ | ⟨h1, ⟨h2, hv, _⟩ | ⟨h2, hv, _⟩⟩
          · have h1' : ((s[k].toNat : Int) != 77) = false := by rw [bne, h1]; rfl
            have HN : Hid (((bl s).take (k + 1)).all isMV = true) := by show _ = _; rw [all_take_step s k hlt, HA.out, hv]; rfl
            clear hv
            go_wp2
            go_round
            case rel => exact ⟨k + 1, by omega, by go_num, HN⟩
            case measure => simp [intOf]; omega
          · have h1' : ((s[k].toNat : Int) != 77) = true := by rw [bne, h1]; rfl
            have h2' : ((s[k].toNat : Int) != 86) = false := by rw [bne, h2]; rfl
            have HN : Hid (((bl s).take (k + 1)).all isMV = true) := by show _ = _; rw [all_take_step s k hlt, HA.out, hv]; rfl
            clear hv
            go_wp2
            go_round
            case rel => exact ⟨k + 1, by omega, by go_num, HN⟩
            case measure => simp [intOf]; omega
          · have h1' : ((s[k].toNat : Int) != 77) = true := by rw [bne, h1]; rfl
            have h2' : ((s[k].toNat : Int) != 86) = true := by rw [bne, h2]; rfl
            have HF : Hid (foldsOk (bl s) (s.size : Int) = false) := by show _ = _; unfold foldsOk; rw [all_false s k hlt hv]; rfl
            clear hv
            go_wp2
            go_ret
            exact ⟨ret_bool HF.out.symm, rfl⟩
        · obtain rfl : k = s.size := by omega
          have HF : Hid (foldsOk (bl s) (s.size : Int) = true) := by
            show _ = _
            have := HA.out
            rw [bl_full] at this
            unfold foldsOk
            rw [this, bl_length]
            simp
          go_wp2
          go_ret
          exact ⟨ret_bool HF.out.symm, rfl⟩
theorem creas_folds (l : List UInt8) (h : l.length ≤ 63) : creas l = foldsOk l (l.length : Int) := by
  unfold creas foldsOk
  simp [h]
theorem creas_long (l : List UInt8) (h : ¬ l.length ≤ 63) : creas l = false := by
  unfold creas
  simp [h]
/-- What otherSide has written after k rounds. -/
def revTo (l : List UInt8) (k : Nat) : List UInt8 := l.reverse.take k ++ List.replicate (l.length - k) 0
theorem revTo_zero (l : List UInt8) : revTo l 0 = List.replicate l.length 0 := by simp [revTo]
theorem revTo_full (l : List UInt8) : revTo l l.length = l.reverse := by
  unfold revTo
  rw [Nat.sub_self, List.take_of_length_le (by simp)]
  simp
theorem revTo_length (l : List UInt8) (k : Nat) (h : k ≤ l.length) : (revTo l k).length = l.length := by
  simp [revTo]
  omega
theorem revTo_set (l : List UInt8) (k : Nat) (h : k < l.length) : (revTo l k).set k (l[l.length - 1 - k]'(by omega)) = revTo l (k + 1) := by
  unfold revTo
  have e : l.length - k = (l.length - (k + 1)) + 1 := by omega
  rw [List.set_append_right _ _ (by simp; omega), e, List.replicate_succ, List.take_succ_eq_append_getElem (by simp; exact h)]
  have e0 : k - (l.reverse.take k).length = 0 := by simp; omega
  rw [e0, List.set_cons_zero, List.append_assoc, List.getElem_reverse]
  rfl
/-- The text that WordOther returns. -/
def wordOtherL (l : List UInt8) : List UInt8 := if creas l then otherL l else []
end Go.Proofs.Ytadpbbjahckoaaa
