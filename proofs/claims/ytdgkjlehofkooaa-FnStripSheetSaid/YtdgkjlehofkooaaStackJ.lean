/- The walks of fold and SheetStack, of the program and of the reference. Conditions: each theorem's own premises. -/
import Derived.Test.YtdgkjlehofkooaaStackI
namespace Go.Proofs.Ytdgkjlehofkooaa
set_option maxRecDepth 100000
open Go.RowKit
theorem area_is : ∀ l : List UInt8, (∀ c ∈ l, letter c = true) → rowsOf l * colsOf l = 2 ^ l.length
  | [], _ => rfl
  | c :: l, h => by
    have ih := area_is l fun x hx => h x (List.mem_cons_of_mem _ hx)
    rw [rowsOf_cons, colsOf_cons, letter_high (h c List.mem_cons_self), List.length_cons, Nat.pow_succ, ← ih]
    cases high (c.toNat : Int)
    · simp only [Bool.not_false, if_true, Bool.false_eq_true, if_false]
      rw [Nat.mul_left_comm]
      omega
    · simp only [Bool.not_true, if_true, Bool.false_eq_true, if_false]
      rw [Nat.mul_assoc]
      omega
theorem area_bd {l : List UInt8} (h : sheetOk l = true) (k : Nat) (hk : k ≤ l.length) : (sheetTo l k).R * (sheetTo l k).C ≤ 32 := by
  obtain ⟨hl, h5⟩ := ok_is h
  obtain ⟨d1, d2⟩ := sheetTo_dims hl k hk
  rw [d1, d2, area_is _ fun c hc => hl c (List.mem_of_mem_drop hc)]
  have h1 : 2 ^ (l.drop k).length ≤ 2 ^ 5 := Nat.pow_le_pow_right (by omega) (by rw [List.length_drop]; omega)
  omega
set_option maxHeartbeats 1000000 in
theorem foldLetter (base S : Nat) (s : Sheet) (c : UInt8) (w : World) (h : FS w base S s) (hF : Foldable s c) (hA : s.R * s.C ≤ 32) (hbase : base ≤ w.heap.size) :
    Calls Try.prog 36 #[.pointer (some ⟨S, 0, none⟩), .int .u8 (c.toNat : Int)] w fun e w' => e = .returned (.tuple #[]) ∧ FS w' base S (stepS s c) ∧ w.grownBy w' (some S) := by
  obtain ⟨R, C, f⟩ := s
  have hl : ∀ r k, 1 ≤ (f r k).length ∧ (f r k).length ≤ 16 := hF.many
  obtain ⟨hlet, r1, r2, c1, c2, hh, hw, _⟩ := hF
  simp only at r1 r2 c1 c2 hh hw hA
  unfold stepS
  cases hi : high (c.toNat : Int) with
  | true =>
    obtain ⟨e, b⟩ := hh hi
    simp only [if_true]
    obtain ⟨half, hhalf⟩ : ∃ half, half = R / 2 := ⟨_, rfl⟩
    rw [← hhalf] at e b ⊢
    subst e
    clear hhalf hw hh
    have h16 : half ≤ 16 := by omega
    have hA2 : half * C ≤ 32 := by
      have e : 2 * half * C = 2 * (half * C) := Nat.mul_assoc _ _ _
      omega
    have CW := fun fst un => foldHeight_walk base S half C fst un f w h b h16 c1 c2 hA2 hl hbase
    clear h hA hl
    have HC := Lib.hid CW
    clear CW
    rcases letter_is hlet with rfl | rfl | rfl | rfl | rfl | rfl | rfl | rfl
    · exact absurd hi (by decide)
    · exact absurd hi (by decide)
    · exact absurd hi (by decide)
    · exact absurd hi (by decide)
    all_goals
      clear hi hlet
      go_enter Try.func36, Try.ntmps36
      go_wp2_with fail
      refine (HC.out _ _).mono ?_
      rintro e w1 ⟨rfl, h1, h2⟩
      have H1 := Lib.hid h1
      have H2 := Lib.hid h2
      clear h1 h2
      go_wp2_with fail
      go_end0
      exact ⟨rfl, H1.out, H2.out⟩
  | false =>
    obtain ⟨e, b⟩ := hw hi
    simp only [Bool.false_eq_true, if_false]
    obtain ⟨half, hhalf⟩ : ∃ half, half = C / 2 := ⟨_, rfl⟩
    rw [← hhalf] at e b ⊢
    subst e
    clear hhalf hw hh
    have h16 : half ≤ 16 := by omega
    have hA2 : R * half ≤ 32 := by
      have e : R * (2 * half) = 2 * (R * half) := Nat.mul_left_comm _ _ _
      omega
    have CW := fun fst un => foldWidth_walk base S half R fst un f w h b h16 r1 r2 hA2 hl hbase
    clear h hA hl
    have HC := Lib.hid CW
    clear CW
    rcases letter_is hlet with rfl | rfl | rfl | rfl | rfl | rfl | rfl | rfl
    rotate_left 4
    · exact absurd hi (by decide)
    · exact absurd hi (by decide)
    · exact absurd hi (by decide)
    · exact absurd hi (by decide)
    all_goals
      clear hi hlet
      go_enter Try.func36, Try.ntmps36
      go_wp2_with fail
      refine (HC.out _ _).mono ?_
      rintro e w1 ⟨rfl, h1, h2⟩
      have H1 := Lib.hid h1
      have H2 := Lib.hid h2
      clear h1 h2
      go_wp2_with fail
      go_end0
      exact ⟨rfl, H1.out, H2.out⟩
/-- SheetStack has returned a stack, and true. -/
def StackBack (w : World) (a : List Cel) (e : Ending) (w' : World) : Prop :=
  ∃ g cap : Nat, e = .returned (.tuple #[.slice (some ⟨g, 0, none⟩) a.length cap, .bool true]) ∧ w.heap.size ≤ g ∧ w'.ownsRow w.heap.size 35 4 (.slice (some ⟨g, 0, none⟩) a.length cap) a.length (cellsC a) ∧ Below w.heap.size w w'
/-- SheetStack has returned an empty stack, and false. -/
def NoStack (w : World) (e : Ending) (w' : World) : Prop := ∃ A : Option Addr, e = .returned (.tuple #[.slice A 0 0, .bool false]) ∧ Below w.heap.size w w'
/-- The reference's SheetStack has returned a stack, to be read, and true. -/
def StackRead (w : World) (a : List Cel) (e : Ending) (w' : World) : Prop :=
  ∃ g cap : Nat, e = .returned (.tuple #[.slice (some ⟨g, 0, none⟩) a.length cap, .bool true]) ∧ RowC w' g a ∧ Below w.heap.size w w'
theorem specSheetStack (s : ByteArray) (w : World) (hok : sheetOk (bl s) = true) : Calls Try.prog 21 #[.string s] w (StackRead w (stackC (bl s))) := by
  have h5 : s.size ≤ 5 := by rw [← bl_length]; exact (ok_is hok).2
  have HOK := Lib.hid hok
  clear hok
  go_enter Try.func21, Try.ntmps21
  go_wp2_with fail
  refine (specSheetValid s _ (by unfold maxLen; omega)).mono ?_
  rintro e w1 ⟨rfl, rfl⟩
  rw [HOK.out]
  go_wp2_with fail
  refine (l4Stack s _ HOK.out).mono ?_
  rintro e w1 ⟨g, cap, rfl, hr, hb⟩
  go_wp2_with fail
  go_ret2
  exact ⟨g, cap, rfl, hr, hb⟩
theorem specSheetStack_no (s : ByteArray) (w : World) (hs : s.size ≤ maxLen) (hok : sheetOk (bl s) = false) : Calls Try.prog 21 #[.string s] w (NoStack w) := by
  have HOK := Lib.hid hok
  clear hok
  go_enter Try.func21, Try.ntmps21
  go_wp2_with fail
  refine (specSheetValid s _ hs).mono ?_
  rintro e w1 ⟨rfl, rfl⟩
  rw [HOK.out]
  go_wp2_with fail
  go_ret2
  exact ⟨_, rfl, (by repeat (first | exact Below.refl _ _ | assumption | (refine Below.setCell ?_ (by first | omega | (simp; done) | (simp; omega)) _) | (refine Below.alloc ?_ (by first | omega | (simp; done) | (simp; omega)) _) | (refine below_drewN ?_ _) | (refine Below.drew ?_)))⟩
theorem field_layers (a : Option Addr) (n c : Nat) (w : World) : (Instr.field 63 (.agg #[.slice a n c]) 0).run Try.prog w = .ok (.slice a n c) w := by kernel_rfl
set_option maxHeartbeats 4000000 in
theorem implSheetStack (s : ByteArray) (w : World) (hok : sheetOk (bl s) = true) : Calls Try.prog 13 #[.string s] w (StackBack w (stackC (bl s))) := by
  have h5 : s.size ≤ 5 := by rw [← bl_length]; exact (ok_is hok).2
  have C1 := fun w => sizeOf s w (by unfold maxLen; omega)
  have hr0 : sheetRows (bl s) = rowsOf (bl s) := by unfold sheetRows; rw [hok]; rfl
  have hc0 : sheetCols (bl s) = colsOf (bl s) := by unfold sheetCols; rw [hok]; rfl
  rw [hr0, hc0, hok] at C1
  obtain ⟨R, hR⟩ : ∃ R, R = rowsOf (bl s) := ⟨_, rfl⟩
  obtain ⟨C, hC⟩ : ∃ C, C = colsOf (bl s) := ⟨_, rfl⟩
  rw [← hR, ← hC] at C1
  have hRb : 1 ≤ R ∧ R ≤ 32 := by rw [hR]; exact rowsOf_bd _ (by rw [bl_length]; exact h5)
  have hCb : 1 ≤ C ∧ C ≤ 32 := by rw [hC]; exact colsOf_bd _ (by rw [bl_length]; exact h5)
  have hRC : R * C ≤ 32 := by
    have := area_bd hok 0 (Nat.zero_le _)
    rw [sheetTo_zero] at this
    rw [hR, hC]
    exact this
  have H0 : Hid (sheetTo (bl s) 0 = ⟨R, C, fun r c => [⟨r, c, true, true⟩]⟩) := by show _ = _; rw [sheetTo_zero, hR, hC]; rfl
  have HOK := Lib.hid hok
  have HC1 := Lib.hid C1
  clear hr0 hc0 hR hC hok C1
  go_enter Try.func13, Try.ntmps13
  go_wp2_with fail
  refine (HC1.out _).mono ?_
  rintro e w1 ⟨rfl, hb1⟩
  have hz1 := hb1.size
  go_wp2_with fail
  refine (newFoldSheet R C _ hRb.1 hCb.1 hRb.2 hCb.2 hRC).mono ?_
  rintro e w2 ⟨S, rfl, hS, hfs, hb2⟩
  have hz2 : w1.heap.size + 1 ≤ w2.heap.size := by simpa using hb2.size
  have hS : w1.heap.size + 1 ≤ S := by simpa using hS
  have hb12 : Below w.heap.size w w2 := (hb1.alloc hz1 _).trans (hb2.mono (by simp; omega))
  rw [← H0.out] at hfs
  have HFS := Lib.hid hfs
  clear hfs hb2
  go_wp2_with fail
  go_loopw [7] (fun i wr => ∃ k : Nat, k ≤ s.size ∧ i = .int .i64 k ∧ Hid (FS wr (w1.heap.size + 1) S (sheetTo (bl s) k)) ∧ Below w.heap.size w wr ∧ w1.heap.size + 1 ≤ wr.heap.size) (fun i _ => s.size - (intOf i).toNat)
  case atStart => exact ⟨0, Nat.zero_le _, rfl, Lib.hid (by have := HFS.out; simpa using this), hb12, hz2⟩
  case round =>
    obtain ⟨k, hk, rfl, HF, hbel, hzr⟩ := hrel
    by_cases hlt : k < s.size
    · have HS : Hid (sheetTo (bl s) (k + 1) = stepS (sheetTo (bl s) k) s[k]) := by
        show _ = _
        rw [sheetTo_succ _ _ (by rw [bl_length]; exact hlt), bl_getElem s k hlt]
        try rfl
      have HFd : Hid (Foldable (sheetTo (bl s) k) s[k]) := by
        have := foldable HOK.out k (by rw [bl_length]; exact hlt)
        rw [bl_getElem s k hlt] at this
        exact this
      have HAR : Hid ((sheetTo (bl s) k).R * (sheetTo (bl s) k).C ≤ 32) := area_bd HOK.out k (by rw [bl_length]; exact hk)
      go_wp2_with fail
      refine (foldLetter (w1.heap.size + 1) S _ s[k] _ HF.out HFd.out HAR.out hzr).mono ?_
      rintro e w3 ⟨rfl, h3, hgr3⟩
      rw [← HS.out] at h3
      have H3 := Lib.hid h3
      have hz3 := hgr3.size
      have hbel3 := below_grown_at' hbel hgr3 (by omega) (by omega)
      clear h3 hgr3
      go_wp2_with fail
      go_roundw
      case rel => exact ⟨k + 1, by omega, by go_num, H3, hbel3, by omega⟩
      case measure => simp [intOf]; omega
    · obtain rfl : k = s.size := by omega
      obtain ⟨hl, _⟩ := ok_is HOK.out
      obtain ⟨d1, d2⟩ := sheetTo_dims hl s.size (by rw [bl_length]; exact Nat.le_refl _)
      have d3 : (bl s).drop s.size = [] := List.drop_of_length_le (by rw [bl_length]; exact Nat.le_refl _)
      rw [d3] at d1 d2
      have d1 : (sheetTo (bl s) s.size).R = 1 := d1
      have d2 : (sheetTo (bl s) s.size).C = 1 := d2
      have s1 := HF.out.c
      obtain ⟨g, n, cap, vs, hn, s2, _, _, ho, hst⟩ := HF.out.st
      rw [d2] at s1
      rw [d1, d2] at hn
      rw [d1, d2] at hst
      have hn1 : n = 1 := hn
      subst hn1
      have hvl : vs.length = 1 := by have := ho.1; simpa using this
      have hx : vs[0]? = some (vs[0]'(by omega)) := List.getElem?_eq_getElem _
      obtain ⟨g1, cap1, hv, _, ho1⟩ := hst 0 0 _ (by omega) (by omega) hx
      have s3 := own_at ho hx
      rw [hv] at s3
      have HST : Hid ((sheetTo (bl s) s.size).f 0 0 = stackC (bl s)) := by show _ = _; unfold stackC; rw [bl_length]
      rw [HST.out] at s3 ho1
      have HO1 := Lib.hid ho1
      obtain ⟨L, hL⟩ : ∃ L, L = (stackC (bl s)).length := ⟨_, rfl⟩
      rw [← hL] at s3
      have HLL := Lib.hid hL
      have hg1 := (ho1.lt g1 rfl).1
      clear hst hv ho1 hx ho d1 d2 d3 hl hL hn
      go_wp2_with fail
      refine (stackAt S g 1 cap 1 0 0 0 g1 L cap1 _ s1 s2 (by omega) (by omega) s3 (by omega)).mono ?_
      rintro e w4 ⟨rfl, hb4⟩
      have hb4' := hbel.trans (hb4.mono (by omega))
      have hblk := hb4.block g1 (HO1.out.lt g1 rfl).2
      have HO4 := Lib.hid (own_mono (ownsRow_of_block HO1.out hblk) (show w.heap.size ≤ w1.heap.size + 1 by omega))
      clear hblk hb4
      have fld := field_layers (some ⟨g1, 0, none⟩) L cap1 w4
      go_wp2_with fail
      go_ret2
      refine ⟨g1, cap1, by rw [← HLL.out]; rfl, by omega, ?_, hb4'⟩
      exact HO4.out
theorem implSheetStack_no (s : ByteArray) (w : World) (hs : s.size ≤ maxLen) (hok : sheetOk (bl s) = false) : Calls Try.prog 13 #[.string s] w (NoStack w) := by
  have C1 := fun w => sizeOf s w hs
  rw [hok] at C1
  have HC1 := Lib.hid C1
  clear C1 hok
  go_enter Try.func13, Try.ntmps13
  go_wp2_with fail
  refine (HC1.out _).mono ?_
  rintro e w1 ⟨rfl, hb1⟩
  have hz1 := hb1.size
  go_wp2_with fail
  go_ret2
  exact ⟨_, rfl, (by repeat (first | exact Below.refl _ _ | assumption | (refine Below.setCell ?_ (by first | omega | (simp; done) | (simp; omega)) _) | (refine Below.alloc ?_ (by first | omega | (simp; done) | (simp; omega)) _) | (refine below_drewN ?_ _) | (refine Below.drew ?_)))⟩
end Go.Proofs.Ytdgkjlehofkooaa
