/- A sheet folded letter by letter: the plain words, and the walks of the reference's SheetStack. Conditions: each theorem's own premises. -/
import Derived.Test.YtdgkjlehofkooaaStackC
import Derived.Test.YtdgkjlehofkooaaStackD
namespace Go.Proofs.Ytdgkjlehofkooaa
set_option maxRecDepth 100000
open Go.RowKit
/-- A sheet that is being folded: its size now, and a stack at each place. -/
structure Sheet where
  R : Nat
  C : Nat
  f : Nat → Nat → List Cel
/-- A letter by which the left or the upper half moves. -/
def fstC (c : UInt8) : Bool := c == 76 || c == 108 || c == 85 || c == 117
/-- A fold. -/
def stepS (s : Sheet) (c : UInt8) : Sheet :=
  if high (c.toNat : Int) then ⟨s.R / 2, s.C, foldH (fstC c) (under c) (s.R / 2) s.f⟩ else ⟨s.R, s.C / 2, foldW (fstC c) (under c) (s.C / 2) s.f⟩
/-- The sheet ahead of all folds. -/
def sheet0 (l : List UInt8) : Sheet := ⟨rowsOf l, colsOf l, fun r c => [⟨r, c, true, true⟩]⟩
/-- The sheet behind the first k folds. -/
def sheetTo (l : List UInt8) (k : Nat) : Sheet := (l.take k).foldl stepS (sheet0 l)
/-- The stack of a folded sheet. -/
def stackC (l : List UInt8) : List Cel := (sheetTo l l.length).f 0 0
theorem sheetTo_zero (l : List UInt8) : sheetTo l 0 = sheet0 l := by simp [sheetTo]
theorem sheetTo_succ (l : List UInt8) (k : Nat) (h : k < l.length) : sheetTo l (k + 1) = stepS (sheetTo l k) l[k] := by
  unfold sheetTo
  rw [List.take_succ_eq_append_getElem h, List.foldl_append]
  rfl
theorem letter_is {c : UInt8} (h : letter c = true) : c = 82 ∨ c = 76 ∨ c = 114 ∨ c = 108 ∨ c = 85 ∨ c = 68 ∨ c = 117 ∨ c = 100 := by
  simp only [letter, wide, high, Bool.or_eq_true, beq_iff_eq] at h
  have hc : ∀ n : Nat, n < 256 → (c.toNat : Int) = (n : Int) → c = UInt8.ofNat n := fun n _ h => by
    have : c.toNat = n := by omega
    rw [← this, UInt8.ofNat_toNat]
  rcases h with (((h | h) | h) | h) | (((h | h) | h) | h)
  · exact .inl (hc 82 (by omega) h)
  · exact .inr (.inl (hc 76 (by omega) h))
  · exact .inr (.inr (.inl (hc 114 (by omega) h)))
  · exact .inr (.inr (.inr (.inl (hc 108 (by omega) h))))
  · exact .inr (.inr (.inr (.inr (.inl (hc 85 (by omega) h)))))
  · exact .inr (.inr (.inr (.inr (.inr (.inl (hc 68 (by omega) h))))))
  · exact .inr (.inr (.inr (.inr (.inr (.inr (.inl (hc 117 (by omega) h)))))))
  · exact .inr (.inr (.inr (.inr (.inr (.inr (.inr (hc 100 (by omega) h)))))))
theorem letter_high {c : UInt8} (h : letter c = true) : wide (c.toNat : Int) = !high (c.toNat : Int) := by
  rcases letter_is h with rfl | rfl | rfl | rfl | rfl | rfl | rfl | rfl <;> decide
theorem rowsOf_cons (c : UInt8) (l : List UInt8) : rowsOf (c :: l) = if high (c.toNat : Int) then 2 * rowsOf l else rowsOf l := by
  unfold rowsOf
  rw [List.countP_cons]
  cases high (c.toNat : Int) <;> simp [Nat.pow_succ] <;> omega
theorem colsOf_cons (c : UInt8) (l : List UInt8) : colsOf (c :: l) = if wide (c.toNat : Int) then 2 * colsOf l else colsOf l := by
  unfold colsOf
  rw [List.countP_cons]
  cases wide (c.toNat : Int) <;> simp [Nat.pow_succ] <;> omega
theorem sheetTo_dims {l : List UInt8} (h : ∀ c ∈ l, letter c = true) : ∀ k, k ≤ l.length → (sheetTo l k).R = rowsOf (l.drop k) ∧ (sheetTo l k).C = colsOf (l.drop k)
  | 0, _ => by rw [sheetTo_zero]; exact ⟨rfl, rfl⟩
  | k + 1, hk => by
    obtain ⟨h1, h2⟩ := sheetTo_dims h k (by omega)
    rw [sheetTo_succ l k (by omega)]
    rw [List.drop_eq_getElem_cons (show k < l.length by omega), rowsOf_cons] at h1
    rw [List.drop_eq_getElem_cons (show k < l.length by omega), colsOf_cons, letter_high (h _ (List.getElem_mem _))] at h2
    unfold stepS
    cases hh : high (l[k].toNat : Int) with
    | true =>
      rw [hh] at h1 h2
      simp only [if_true, Bool.not_true, Bool.false_eq_true, if_false] at h1 h2 ⊢
      exact ⟨by omega, h2⟩
    | false =>
      rw [hh] at h1 h2
      simp only [Bool.not_false, if_true, Bool.false_eq_true, if_false] at h1 h2 ⊢
      exact ⟨h1, by omega⟩
theorem sheetTo_many (l : List UInt8) : ∀ k, k ≤ l.length → ∀ r c, ((sheetTo l k).f r c).length = 2 ^ k
  | 0, _, _, _ => by rw [sheetTo_zero]; rfl
  | k + 1, hk, r, c => by
    have ih := sheetTo_many l k (by omega)
    rw [sheetTo_succ l k (by omega)]
    unfold stepS
    cases hh : high (l[k].toNat : Int) with
    | true => simp only [if_true, foldH, putC_length, ih]; rw [Nat.pow_succ]; omega
    | false => simp only [Bool.false_eq_true, if_false, foldW, putC_length, ih]; rw [Nat.pow_succ]; omega
theorem stackC_length (l : List UInt8) : (stackC l).length = 2 ^ l.length := sheetTo_many l l.length (Nat.le_refl _) 0 0
theorem pow_bd {k : Nat} (h : k ≤ 5) : 1 ≤ 2 ^ k ∧ 2 ^ k ≤ 32 := by
  have h1 : 2 ^ k ≤ 2 ^ 5 := Nat.pow_le_pow_right (by omega) h
  have h2 : 0 < 2 ^ k := Nat.two_pow_pos _
  omega
theorem ok_is {l : List UInt8} (h : sheetOk l = true) : (∀ c ∈ l, letter c = true) ∧ l.length ≤ 5 := by
  unfold sheetOk at h
  simp only [Bool.and_eq_true, List.all_eq_true, decide_eq_true_eq] at h
  exact h
/-- What a fold meets: the sizes and the stacks' lengths. -/
structure Foldable (s : Sheet) (c : UInt8) : Prop where
  let' : letter c = true
  r1 : 1 ≤ s.R
  r2 : s.R ≤ 32
  c1 : 1 ≤ s.C
  c2 : s.C ≤ 32
  h : high (c.toNat : Int) = true → s.R = 2 * (s.R / 2) ∧ 1 ≤ s.R / 2
  w : high (c.toNat : Int) = false → s.C = 2 * (s.C / 2) ∧ 1 ≤ s.C / 2
  many : ∀ r k, 1 ≤ (s.f r k).length ∧ (s.f r k).length ≤ 16
theorem foldable {l : List UInt8} (h : sheetOk l = true) (k : Nat) (hk : k < l.length) : Foldable (sheetTo l k) l[k] := by
  obtain ⟨hl, h5⟩ := ok_is h
  obtain ⟨d1, d2⟩ := sheetTo_dims hl k (by omega)
  have e := List.drop_eq_getElem_cons hk
  have lt := hl _ (List.getElem_mem hk)
  have b1 := rowsOf_bd (l.drop k) (by rw [List.length_drop]; omega)
  have b2 := colsOf_bd (l.drop k) (by rw [List.length_drop]; omega)
  have b3 := rowsOf_bd (l.drop (k + 1)) (by rw [List.length_drop]; omega)
  have b4 := colsOf_bd (l.drop (k + 1)) (by rw [List.length_drop]; omega)
  refine ⟨lt, by omega, by omega, by omega, by omega, fun hh => ?_, fun hh => ?_, fun r c => ?_⟩
  · rw [e, rowsOf_cons, hh, if_pos rfl] at d1
    omega
  · rw [e, colsOf_cons, letter_high lt, hh, show (!false) = true from rfl, if_pos rfl] at d2
    omega
  · rw [sheetTo_many l k (by omega)]
    have h1 : 2 ^ k ≤ 2 ^ 4 := Nat.pow_le_pow_right (by omega) (by omega)
    have h2 : 0 < 2 ^ k := Nat.two_pow_pos _
    omega
theorem l4Fold (v : Value) (s : Sheet) (c : UInt8) (w : World) (hg : GridV w anyB v s.R s.C s.f) (hF : Foldable s c) :
    Calls Try.prog 65 #[v, .int .u8 (c.toNat : Int)] w (GridBack w (stepS s c).R (stepS s c).C (stepS s c).f) := by
  obtain ⟨R, C, f⟩ := s
  have hl : ∀ r k, 1 ≤ (f r k).length ∧ (f r k).length ≤ 32 := fun r k => by have := hF.many r k; exact ⟨this.1, by have := this.2; show (f r k).length ≤ 32; simp only at this; omega⟩
  obtain ⟨hlet, r1, r2, c1, c2, hh, hw, _⟩ := hF
  simp only at r1 r2 c1 c2 hh hw hg
  unfold stepS
  cases hi : high (c.toNat : Int) with
  | true =>
    obtain ⟨e, b⟩ := hh hi
    simp only [if_true]
    obtain ⟨half, hhalf⟩ : ∃ half, half = R / 2 := ⟨_, rfl⟩
    rw [← hhalf] at e b ⊢
    subst e
    clear hhalf hw hh
    rcases letter_is hlet with rfl | rfl | rfl | rfl | rfl | rfl | rfl | rfl
    · exact absurd hi (by decide)
    · exact absurd hi (by decide)
    · exact absurd hi (by decide)
    · exact absurd hi (by decide)
    · exact l4Fold_high_first1 v half C 85 f w hg b (by omega) c1 c2 hl hi (by decide)
    · exact l4Fold_high_last v half C 68 f w hg b (by omega) c1 c2 hl hi (by decide) (by decide)
    · exact l4Fold_high_first2 v half C 117 f w hg b (by omega) c1 c2 hl hi (by decide) (by decide)
    · exact l4Fold_high_last v half C 100 f w hg b (by omega) c1 c2 hl hi (by decide) (by decide)
  | false =>
    obtain ⟨e, b⟩ := hw hi
    simp only [Bool.false_eq_true, if_false]
    obtain ⟨half, hhalf⟩ : ∃ half, half = C / 2 := ⟨_, rfl⟩
    rw [← hhalf] at e b ⊢
    subst e
    clear hhalf hw hh
    rcases letter_is hlet with rfl | rfl | rfl | rfl | rfl | rfl | rfl | rfl
    · exact l4Fold_wide_last v half R 82 f w hg b (by omega) r1 r2 hl hi (by decide) (by decide)
    · exact l4Fold_wide_first1 v half R 76 f w hg b (by omega) r1 r2 hl hi (by decide)
    · exact l4Fold_wide_last v half R 114 f w hg b (by omega) r1 r2 hl hi (by decide) (by decide)
    · exact l4Fold_wide_first2 v half R 108 f w hg b (by omega) r1 r2 hl hi (by decide) (by decide)
    · exact absurd hi (by decide)
    · exact absurd hi (by decide)
    · exact absurd hi (by decide)
    · exact absurd hi (by decide)
/-- A stack has come back, to be read. -/
def StackGot (w : World) (a : List Cel) (e : Ending) (w' : World) : Prop := ∃ g cap : Nat, e = .returned (.slice (some ⟨g, 0, none⟩) a.length cap) ∧ RowC w' g a ∧ Below w.heap.size w w'
set_option maxRecDepth 100000 in
set_option maxHeartbeats 4000000 in
theorem l4Stack (s : ByteArray) (w : World) (hok : sheetOk (bl s) = true) : Calls Try.prog 47 #[.string s] w (StackGot w (stackC (bl s))) := by
  obtain ⟨i0, hi0, hz0, hz1, hz2⟩ := info_parts infoStack
  have HI := Lib.hid hi0; have HZ0 := Lib.hid hz0; have HZ1 := Lib.hid hz1; have HZ2 := Lib.hid hz2
  clear hi0 hz0 hz1 hz2
  obtain ⟨i0', hi0, hz0, hz1, hz2⟩ := info_parts infoLine
  have HI' := Lib.hid hi0; have HZ0' := Lib.hid hz0; have HZ1' := Lib.hid hz1; have HZ2' := Lib.hid hz2
  clear hi0 hz0 hz1 hz2
  have h5 : s.size ≤ 5 := by rw [← bl_length]; exact (ok_is hok).2
  have C1 := fun w => specSheetSize s w (by unfold maxLen; omega)
  have hr0 : sheetRows (bl s) = rowsOf (bl s) := by unfold sheetRows; rw [hok]; rfl
  have hc0 : sheetCols (bl s) = colsOf (bl s) := by unfold sheetCols; rw [hok]; rfl
  rw [hr0, hc0, hok] at C1
  obtain ⟨R, hR⟩ : ∃ R, R = rowsOf (bl s) := ⟨_, rfl⟩
  obtain ⟨C, hC⟩ : ∃ C, C = colsOf (bl s) := ⟨_, rfl⟩
  rw [← hR, ← hC] at C1
  have hRb : 1 ≤ R ∧ R ≤ 32 := by rw [hR]; exact rowsOf_bd _ (by rw [bl_length]; exact h5)
  have hCb : 1 ≤ C ∧ C ≤ 32 := by rw [hC]; exact colsOf_bd _ (by rw [bl_length]; exact h5)
  have HR := Lib.hid hR
  have HC := Lib.hid hC
  have HOK := Lib.hid hok
  clear hr0 hc0 hR hC hok
  go_enter Try.func47, Try.ntmps47
  go_wp2_with fail
  refine (C1 _).mono ?_
  rintro e w1 ⟨rfl, rfl⟩
  go_wp2_with fail
  go_loopw [6, 7] (fun o i wr => ∃ k g' cap' : Nat, ∃ vs : List Value, k ≤ R ∧ vs.length = k ∧ i = .int .i64 k ∧ o = .slice (some ⟨g', 0, none⟩) k cap' ∧
      wr.ownsRow w.heap.size 87 1 (.slice (some ⟨g', 0, none⟩) k cap') k vs ∧ Hid (Ls wr (fun k => k ≠ g') vs C (sheet0 (bl s)).f) ∧ w.heap.size ≤ g' ∧ Below w.heap.size w wr) (fun _ i _ => R - (intOf i).toNat)
  case atStart => exact ⟨0, w.heap.size, 0, [], Nat.zero_le _, rfl, rfl, rfl, by
    have := World.ownsRow_lit (base := w.heap.size) (e := 87) (size := 1) w #[] 0 (Nat.le_refl _) (by unfold maxLen; omega) rfl
    simpa using this, Lib.hid (fun i u hu => by simp at hu), Nat.le_refl _, (by repeat (first | exact Below.refl _ _ | assumption | (refine Below.setCell ?_ (by first | omega | (simp; done) | (simp; omega)) _) | (refine Below.alloc ?_ (by first | omega | (simp; done) | (simp; omega)) _) | (refine below_drewN ?_ _) | (refine Below.drew ?_)))⟩
  case round =>
    obtain ⟨k, g', cap', vs, hk, hvs, rfl, rfl, hown, HLS, hg', hbel⟩ := hrel
    have hzr := hbel.size
    obtain ⟨wo, rfl⟩ : ∃ wo : World, wo = wr := ⟨_, rfl⟩
    have HVL := Lib.hid hvs
    clear hvs
    by_cases hlt : k < R
    · go_wp2_with fail
      go_loopw [8, 9] (fun o i wr => ∃ m g2 cap2 : Nat, ∃ us : List Value, m ≤ C ∧ us.length = m ∧ i = .int .i64 m ∧ o = .slice (some ⟨g2, 0, none⟩) m cap2 ∧
          wr.ownsRow wo.heap.size 31 1 (.slice (some ⟨g2, 0, none⟩) m cap2) m us ∧ Hid (Vs wr (inB wo.heap.size g2) us ((sheet0 (bl s)).f k)) ∧ wo.heap.size ≤ g2 ∧ Below wo.heap.size wo wr) (fun _ i _ => C - (intOf i).toNat)
      case atStart => exact ⟨0, wo.heap.size, 0, [], Nat.zero_le _, rfl, rfl, rfl, by
        have := World.ownsRow_lit (base := wo.heap.size) (e := 31) (size := 1) wo #[] 0 (Nat.le_refl _) (by unfold maxLen; omega) rfl
        simpa using this, Lib.hid (fun i u hu => by simp at hu), Nat.le_refl _, (by repeat (first | exact Below.refl _ _ | assumption | (refine Below.setCell ?_ (by first | omega | (simp; done) | (simp; omega)) _) | (refine Below.alloc ?_ (by first | omega | (simp; done) | (simp; omega)) _) | (refine below_drewN ?_ _) | (refine Below.drew ?_)))⟩
      case round =>
        obtain ⟨m, g2, cap2, us, hm, hus, rfl, rfl, hown2, HVS, hg2, hbel2⟩ := hrel
        have hzr2 := hbel2.size
        have HUL := Lib.hid hus
        clear hus
        have hg2l := (hown2.lt g2 rfl).2
        by_cases hlm : m < C
        · have HCN : Hid (∀ j u, [Value.slice (some ⟨wr.heap.size, 0, none⟩) 1 1][j]? = some u → ((wr.alloc (.cells #[.int .i64 k, .int .i64 m, .bool true, .bool true] 35)).alloc (.cells #[.slice (some ⟨wr.heap.size, 0, none⟩) 1 1] 31)).cell? ((⟨wr.heap.size + 1, 0, none⟩ : Addr).add j) = some u) := by
            have := cells_new1 (wr.alloc (.cells #[.int .i64 k, .int .i64 m, .bool true, .bool true] 35)) (.slice (some ⟨wr.heap.size, 0, none⟩) 1 1) 31
            rwa [show (wr.alloc (.cells #[.int .i64 k, .int .i64 m, .bool true, .bool true] 35)).heap.size = wr.heap.size + 1 from by simp] at this
          have HR5 : Hid (RowC (wr.alloc (.cells #[.int .i64 k, .int .i64 m, .bool true, .bool true] 35)) wr.heap.size [⟨k, m, true, true⟩]) :=
            ⟨by simp, fun j u hu => (World.cell?_alloc_mark wr _ 35 (0, 0) j).trans (by simpa [cellsC] using hu)⟩
          go_wp2_with (at_builtin; refine wpList_append_lies _ rfl _ _ 87 rfl wo.heap.size 31 i0 (.slice none 0 0) 1 24 Try.underlying87 HI.out HZ0.out HZ1.out HZ2.out rfl (by decide) _ m us rfl ((hown2.alloc _).alloc _) ⟨wr.heap.size + 1, 0, none⟩ 1 1 [.slice (some ⟨wr.heap.size, 0, none⟩) 1 1] rfl rfl HCN.out (by simp [Value.oneCell']) (by omega) (by unfold maxLen; omega) (by omega) (by simp; omega) (wr.heap.size + 1 + 1) (by simp) ?_; intro g6 cap6 w6 hown6 hgr6 hat6 hlt6; obtain ⟨hv6, hb6, hg6⟩ := line_snoc (cap5 := 1) HVS.out HUL.out rfl ((Below.refl _ wr).alloc (Nat.le_refl _) _) (Nat.le_refl _) HR5.out hgr6 rfl (by simpa using hat6) hzr2 hg2 hg2l)
          go_roundw
          case rel => exact ⟨m + 1, g6, cap6, _, by omega, by rw [List.length_append, HUL.out]; rfl, by go_num, by go_num, hown6, hv6, hg6, hbel2.trans hb6⟩
          case measure => simp [intOf]; omega
        · obtain rfl : m = C := by omega
          have hgl' := (hown.lt g' rfl).2
          have hown3 := ownsRow_of_block hown (hbel2.block g' hgl')
          go_wp2_with (at_builtin; refine wpList_append_lies _ rfl _ _ 86 rfl w.heap.size 87 i0' (.slice none 0 0) 1 24 Try.underlying86 HI'.out HZ0'.out HZ1'.out HZ2'.out rfl (by decide) _ k _ rfl (hown3.alloc _) ⟨wr.heap.size, 0, none⟩ 1 1 [.slice (some ⟨g2, 0, none⟩) m cap2] rfl rfl (cells_new1 _ _ _) (by simp [Value.oneCell']) (by omega) (by unfold maxLen; omega) (by omega) (by simp; omega) (wr.heap.size + 1) (by simp) ?_; intro g6 cap6 w6 hown6 hgr6 hat6 hlt6; obtain ⟨hl6, hb6, hg6⟩ := grid_snoc HLS.out HVL.out hbel2 hown2 HVS.out HUL.out hgr6 rfl hat6 hzr hg' hgl' hg2)
          go_roundw
          case rel => exact ⟨k + 1, g6, cap6, _, by omega, by rw [List.length_append, HVL.out]; rfl, by go_num, by go_num, hown6, hl6, hg6, hbel.trans hb6⟩
          case measure => simp [intOf]; omega
    · obtain rfl : k = R := by omega
      have hgrid : GridV wo anyB (.slice (some ⟨g', 0, none⟩) k cap') (sheetTo (bl s) 0).R (sheetTo (bl s) 0).C (sheetTo (bl s) 0).f := by
        rw [sheetTo_zero]
        refine ⟨g', cap', by rw [HR.out]; rfl, trivial, (hown.lt g' rfl).2, fun r hr => ?_⟩
        have hr : r < rowsOf (bl s) := hr
        have hx : vs[r]? = some (vs[r]'(by have := HVL.out; have := HR.out; omega)) := List.getElem?_eq_getElem _
        refine ⟨_, own_at hown hx, ?_⟩
        have := (HLS.out r _ hx).keep (w' := wo) (q := anyB) fun _ _ _ => ⟨rfl, trivial⟩
        rw [HC.out] at this
        exact this
      have HGR := Lib.hid hgrid
      clear hgrid hown
      go_wp2_with fail
      go_loopw [6, 10] (fun o i wr => ∃ m : Nat, ∃ v : Value, m ≤ s.size ∧ i = .int .i64 m ∧ o = v ∧ Hid (GridV wr anyB v (sheetTo (bl s) m).R (sheetTo (bl s) m).C (sheetTo (bl s) m).f) ∧ Below w.heap.size w wr) (fun _ i _ => s.size - (intOf i).toNat)
      case atStart => exact ⟨0, _, Nat.zero_le _, rfl, rfl, HGR, hbel⟩
      case round =>
        obtain ⟨m, v, hm, rfl, rfl, HG, hbel2⟩ := hrel
        have hzr2 := hbel2.size
        by_cases hlm : m < s.size
        · have HS : Hid (sheetTo (bl s) (m + 1) = stepS (sheetTo (bl s) m) s[m]) := by
            show _ = _
            rw [sheetTo_succ _ _ (by rw [bl_length]; exact hlm), bl_getElem s m hlm]
            try rfl
          have HF : Hid (Foldable (sheetTo (bl s) m) s[m]) := by
            have := foldable HOK.out m (by rw [bl_length]; exact hlm)
            rw [bl_getElem s m hlm] at this
            exact this
          go_wp2_with fail
          refine (l4Fold _ _ s[m] _ HG.out HF.out).mono ?_
          rintro e w6 ⟨v6, rfl, hg6, hb6⟩
          rw [← HS.out] at hg6
          have HG6 := Lib.hid hg6
          clear hg6
          go_wp2_with fail
          go_roundw
          case rel => exact ⟨m + 1, v6, by omega, by go_num, rfl, HG6, hbel2.trans (hb6.mono hzr2)⟩
          case measure => simp [intOf]; omega
        · obtain rfl : m = s.size := by omega
          obtain ⟨hl, _⟩ := ok_is HOK.out
          obtain ⟨d1, d2⟩ := sheetTo_dims hl s.size (by rw [bl_length]; exact Nat.le_refl _)
          have d3 : (bl s).drop s.size = [] := List.drop_of_length_le (by rw [bl_length]; exact Nat.le_refl _)
          rw [d3] at d1 d2
          have d1 : (sheetTo (bl s) s.size).R = 1 := d1
          have d2 : (sheetTo (bl s) s.size).C = 1 := d2
          have hg := HG.out
          rw [d1, d2] at hg
          obtain ⟨g, cap, rfl, _, _, hrows⟩ := hg
          obtain ⟨u0, hu0, g0, cap0, rfl, _, _, hcols⟩ := hrows 0 (by omega)
          obtain ⟨u1, hu1, k1, ck, rfl, hrow, _⟩ := hcols 0 (by omega)
          have HROW := Lib.hid hrow
          have HST : Hid ((sheetTo (bl s) s.size).f 0 0 = stackC (bl s)) := by show _ = _; unfold stackC; rw [bl_length]
          clear hrows hcols hrow d1 d2 d3 hl
          go_wp2_with fail
          go_ret
          have := HROW.out
          rw [HST.out] at this ⊢
          exact ⟨k1, ck, rfl, this, hbel2⟩
end Go.Proofs.Ytdgkjlehofkooaa
