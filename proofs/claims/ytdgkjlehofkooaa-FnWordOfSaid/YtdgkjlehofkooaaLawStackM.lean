/- The law FnWordOf, walked: it returns true. The words' texts lie in the namespace W. Conditions: each theorem's own premises. -/
import Derived.Test.YtdgkjlehofkooaaPlainI
import Derived.Test.YtdgkjlehofkooaaPlainWO
import Derived.Test.YtdgkjlehofkooaaWordP
import Derived.Test.YtdgkjlehofkooaaDrawS
import Derived.Deep.RegionHeld3
namespace Go.Proofs.Ytdgkjlehofkooaa
set_option maxRecDepth 100000
open Go.RowKit
set_option maxHeartbeats 4000000 in
theorem drawWordOf (a : Option Addr) (len cap : Nat) (z : List Int) (w : World) (hr : IsRow .u8 w a len cap z) (hc : len ≤ cap) : Calls Try.prog 14 #[.slice a len cap] w fun e w' => ∃ s : ByteArray, e = .returned (.string s) ∧ s.size ≤ 10 ∧ Below w.heap.size w w' := by
  have HR := Lib.hid hr
  clear hr
  go_enter Try.func14, Try.ntmps14
  go_wp2_with fail
  refine (l6Open _ _ _ _ _ HR.out hc).mono ?_
  rintro e w0 ⟨g, A, len', cap', rfl, hg0, hrd, hb⟩
  have hzb := hb.size
  go_wp2_with fail
  refine (pick g A len' cap' 0 _ w0 hrd (by omega) (by omega)).mono ?_
  rintro e w1 ⟨n, rfl, hn, _, hr, hg⟩
  have hn6 : n < 6 := by omega
  clear hn
  go_wp2_with fail
  go_loopw [4, 6] (fun o i wr => ∃ k : Nat, ∃ b : ByteArray, k ≤ n ∧ i = .int .i64 k ∧ o = .string b ∧ b.size ≤ k ∧ Rd wr g A len' cap' (0 + 1 + k) ∧ w0.grownBy wr (some g)) (fun _ i _ => n - (intOf i).toNat)
  case atStart => exact ⟨0, ByteArray.empty, Nat.zero_le _, rfl, rfl, Nat.le_refl _, hr, hg⟩
  case round =>
    obtain ⟨k, b, hk, rfl, rfl, hbs, hr2, hg2⟩ := hrel
    by_cases hlt : k < n
    · have hgl := hr2.lt
      have hr3 := hr2.below ((Below.refl _ _).alloc (Nat.le_refl _) (.cells ([⟨#[82]⟩, ⟨#[114]⟩, ⟨#[76]⟩, ⟨#[108]⟩].map Value.string).toArray 9))
      go_wp2_with fail
      refine (pickOf g A len' cap' (0 + 1 + k) wr.heap.size _ [⟨#[82]⟩, ⟨#[114]⟩, ⟨#[76]⟩, ⟨#[108]⟩] _ hr3 (by omega) (by decide) (by decide) (by omega) (strs_cells wr _ _)).mono ?_
      rintro e w3 ⟨x, hx, rfl, hr4, hg4⟩
      have hx1 : x.size ≤ 1 := by
        simp only [List.mem_cons, List.not_mem_nil, or_false] at hx
        rcases hx with rfl | rfl | rfl | rfl <;> exact Nat.le_refl _
      clear hx
      have hg5 := grown_trans (grown_trans hg2 (World.grownBy_alloc wr _ _)) hg4
      go_wp2_with fail
      have hsz : (b ++ x).size ≤ k + 1 := by rw [ByteArray.size_append]; omega
      go_roundw
      case rel => exact ⟨k + 1, _, by omega, by go_num, rfl, hsz, hr4, hg5⟩
      case measure => simp [intOf]; omega
    · obtain rfl : k = n := by omega
      have hb6 : b.size ≤ 5 := by omega
      go_wp2_with fail
      refine (pick g A len' cap' _ _ _ hr2 (by omega) (by omega)).mono ?_
      rintro e w4 ⟨d, rfl, hd, _, hr5, hg5⟩
      have hg6 := grown_trans hg2 hg5
      clear hd
      by_cases d0 : d = 0
      · subst d0
        have hr6 := hr5.below ((Below.refl _ _).alloc (Nat.le_refl _) (.cells ([⟨#[85]⟩, ⟨#[120]⟩, ⟨#[77]⟩].map Value.string).toArray 9))
        have hgl := hr5.lt
        go_wp2_with fail
        refine (pickOf g A len' cap' _ w4.heap.size _ [⟨#[85]⟩, ⟨#[120]⟩, ⟨#[77]⟩] _ hr6 (by omega) (by decide) (by decide) (by omega) (strs_cells w4 _ _)).mono ?_
        rintro e w5 ⟨x, hx, rfl, hr7, hg7⟩
        have hx1 : x.size ≤ 2 := by
          simp only [List.mem_cons, List.not_mem_nil, or_false] at hx
          rcases hx with rfl | rfl | rfl <;> decide
        clear hx
        have hg8 := grown_trans (grown_trans hg6 (World.grownBy_alloc w4 _ _)) hg7
        go_wp2_with fail
        have hsz : (b ++ x).size ≤ 10 := by rw [ByteArray.size_append]; omega
        go_ret
        exact ⟨_, rfl, hsz, below_grown_at hb hg8 hzb hg0⟩
      · have t0 : ((d : Int) == 0) = false := by rw [beq_eq_false_iff_ne]; omega
        by_cases d1 : d = 1
        · subst d1
          clear t0 d0
          go_wp2_with fail
          go_ret
          exact ⟨_, rfl, by decide, below_grown_at hb hg6 hzb hg0⟩
        · have t1 : ((d : Int) == 1) = false := by rw [beq_eq_false_iff_ne]; omega
          clear d0 d1
          go_wp2_with fail
          go_ret
          exact ⟨_, rfl, by omega, below_grown_at hb hg6 hzb hg0⟩
theorem wordOf_sheet {l : List UInt8} (h : W.wordOfOk l = true) (h5 : l.length ≤ 5) : sheetOk l = true ∧ ∀ x ∈ l, wide (x.toNat : Int) = true := by
  unfold W.wordOfOk at h
  rw [Bool.and_eq_true] at h
  have h1 := List.all_eq_true.1 h.1
  refine ⟨?_, fun x hx => h1 x hx⟩
  unfold sheetOk
  simp only [Bool.and_eq_true, List.all_eq_true, decide_eq_true_eq]
  refine ⟨fun x hx => ?_, h5⟩
  have : wide (x.toNat : Int) = true := h1 x hx
  unfold letter
  rw [this]
  rfl
/-- The crease between two cells of a strip is a byte of the word. -/
theorem right_word {s o : ByteArray} (h : W.wordOfOk (bl s) = true) (h5 : s.size ≤ 5) (ho : bl o = W.ofL (bl s)) (k : Nat) (hk : k < o.size) : rightC (bl s) 0 k = o.extract k (k + 1) := by
  obtain ⟨h1, h2⟩ := wordOf_sheet h (by rw [bl_length]; exact h5)
  have hg := bl_get o k hk
  rw [ho] at hg
  obtain ⟨u, hu⟩ := word_right h1 h2 k _ hg
  have e : bl (o.extract k (k + 1)) = [o[k]] := bl_slice1 o k hk
  rw [rightC_is, u, eq_mkS e]
  have hmv : o[k] = 77 ∨ o[k] = 86 := by simpa [W.isMV] using hu
  rcases hmv with e1 | e1 <;> rw [e1] <;> rfl
set_option maxHeartbeats 4000000 in
theorem fnWordOf_walk (w : World) (a0 : Option Addr) (len0 cap0 : Nat) (z0 : List Int) (w0 : IsRow .u8 w a0 len0 cap0 z0) :
    Calls Try.prog 5 #[.slice a0 len0 cap0] w fun e w' => e = .returned (.bool true) ∧ Below w.heap.size w w' := by
  have HW := Lib.hid w0
  clear w0
  by_cases hl : 1048576 < len0
  · go_enter Try.func5, Try.ntmps5
    go_wp2
    go_ret
    exact ⟨rfl, Below.refl _ _⟩
  · go_enter Try.func5, Try.ntmps5
    go_wp2_with fail
    refine (drawWordOf _ _ _ _ _ HW.out HW.out.le).mono ?_
    rintro e w1 ⟨s, rfl, hs, hb1⟩
    have hz1 := hb1.size
    have C1 := fun w => W.implWordOf s w (by unfold maxLen; omega)
    have C2 := fun w => W.specWordOf s w (by omega)
    obtain ⟨o, ho⟩ : ∃ o, o = mkS (W.wordOfL (bl s)) := ⟨_, rfl⟩
    rw [← ho] at C1 C2
    have too : (o.toList == o.toList) = true := by simp
    cases hok : W.wordOfOk (bl s) with
    | false =>
      rw [hok] at C1 C2
      have HC1 := Lib.hid C1
      have HC2 := Lib.hid C2
      clear C1 C2 hok ho
      go_wp2_with fail
      refine (HC1.out _).mono ?_
      rintro e w2 ⟨rfl, hb2⟩
      go_wp2_with fail
      refine (HC2.out _).mono ?_
      rintro e w3 ⟨rfl, rfl⟩
      go_wp2_with fail
      go_ret
      exact ⟨rfl, hb1.trans (hb2.mono hz1)⟩
    | true =>
      rw [hok] at C1 C2
      have hlen6 : s.size ≤ 6 := by
        have h := hok
        unfold W.wordOfOk at h
        rw [Bool.and_eq_true, decide_eq_true_eq, bl_length] at h
        exact h.2
      have hob : bl o = W.ofL (bl s) := by
        rw [ho, bl_mkS]
        unfold W.wordOfL
        rw [hok]
        rfl
      have hosz : o.size + 1 = W.pow2 s.size := by rw [← bl_length, hob, W.ofL_length, bl_length]
      have hp64 : W.pow2 s.size ≤ 64 := Nat.le_trans (W.pow2_le hlen6) (by decide)
      have hwo : W.wordOk (bl o) = true := by rw [hob]; exact W.ofL_ok _ (by rw [bl_length]; exact hlen6)
      obtain ⟨b1, b2, b3⟩ := W.wordOf_back hok
      rw [← hob] at b1 b2 b3
      obtain ⟨t, ht⟩ : ∃ t, t = mkS (W.wordTextL (bl o)) := ⟨_, rfl⟩
      have htb : bl t = W.wt (bl o) := by
        rw [ht, bl_mkS]
        unfold W.wordTextL
        rw [hwo]
        rfl
      have hts : t.size = s.size := by rw [← bl_length, htb, b3, bl_length]
      have hto : mkS (W.wordOfL (bl t)) = o := by
        have e : W.wordOfL (bl t) = bl o := by
          rw [htb]
          unfold W.wordOfL
          rw [b1]
          exact b2
        rw [e, mkS_bl]
      have C3 := fun w => W.implWordText o w (by omega)
      have C4 := fun w => W.implWordOf t w (by unfold maxLen; omega)
      have C5 := fun w => W.implWordValid o w (by omega)
      have C6 := fun w => W.power s.size w (by omega)
      rw [← ht, hwo] at C3
      rw [hto, htb, b1] at C4
      rw [hwo] at C5
      rw [← hosz] at C6
      have C7 : s.size ≤ 5 → ∀ (k : Nat), k < o.size → ∀ w, Calls Try.prog 8 #[.string s, .int .i64 0, .int .i64 k] w fun e w' => e = .returned (.string (o.extract k (k + 1))) ∧ Below w.heap.size w w' := fun h5 k hk w => by
        rw [← right_word hok h5 hob k hk]
        exact implSheetRight s 0 k w (by unfold maxLen; omega)
      have HC1 := Lib.hid C1
      have HC2 := Lib.hid C2
      have HC3 := Lib.hid C3
      have HC4 := Lib.hid C4
      have HC5 := Lib.hid C5
      have HC6 := Lib.hid C6
      have HC7 := Lib.hid C7
      have hos : o.size ≤ 63 := by omega
      have tq : ((o.size : Int) != (o.size : Int)) = false := by simp
      clear C1 C2 C3 C4 C5 C6 C7 hok ho hob hosz hp64 hwo b1 b2 b3 ht htb hto
      go_wp2_with fail
      refine (HC1.out _).mono ?_
      rintro e w2 ⟨rfl, hb2⟩
      have hbf2 := hb1.trans (hb2.mono hz1)
      have hz2 := hbf2.size
      clear hb1 hb2
      go_wp2_with fail
      refine (HC2.out _).mono ?_
      rintro e w3 ⟨rfl, rfl⟩
      go_wp2_with fail
      refine (HC3.out _).mono ?_
      rintro e w4 ⟨rfl, hb4⟩
      have hbf4 := hbf2.trans (hb4.mono hz2)
      have hz4 := hbf4.size
      clear hbf2 hb4
      go_wp2_with fail
      refine (HC4.out _).mono ?_
      rintro e w5 ⟨rfl, hb5⟩
      have hbf5 := hbf4.trans (hb5.mono hz4)
      have hz5 := hbf5.size
      clear hbf4 hb5
      go_wp2_with fail
      refine (HC5.out _).mono ?_
      rintro e w6 ⟨rfl, hb6⟩
      have hbf6 := hbf5.trans (hb6.mono hz5)
      have hz6 := hbf6.size
      clear hbf5 hb6
      go_wp2_with fail
      refine (HC6.out _).mono ?_
      rintro e w7 ⟨rfl, rfl⟩
      go_wp2_with fail
      go_loopw [12] (fun i wr => ∃ k : Nat, k ≤ o.size ∧ i = .int .i64 k ∧ Below w6.heap.size w6 wr) (fun i _ => o.size - (intOf i).toNat)
      case atStart => exact ⟨0, Nat.zero_le _, rfl, Below.refl _ _⟩
      case round =>
        obtain ⟨k, hk, rfl, hbel⟩ := hrel
        have hzr := hbel.size
        by_cases hlt : k < o.size
        · by_cases h5 : s.size ≤ 5
          · obtain ⟨K, hK⟩ : ∃ K, K = k + 1 := ⟨_, rfl⟩
            have hc8 := HC7.out h5 k hlt
            rw [← hK] at hc8
            have HC8 := Lib.hid hc8
            have tY : ((o.extract k K).toList != (o.extract k K).toList) = false := by simp
            have f1 : IntKind.i64.wrap ((k : Int) + 1) = (K : Int) := by rw [IntKind.wrap_i64]; omega
            have f2 : (k : Int) + 1 = (K : Int) := by omega
            have f3 : IntKind.i64.wrap (K : Int) = (K : Int) := by rw [IntKind.wrap_i64]; omega
            have k0 : (0 : Int) ≤ (k : Int) := by omega
            have k1 : (k : Int) ≤ (K : Int) := by omega
            have k2 : (K : Int) ≤ (o.size : Int) := by omega
            have HK := Lib.hid hK
            clear hc8 hK
            go_wp2_with fail
            go_region_held3 (fun _ => True) (trivial) ((go_at_call 8; refine (HC8.out _).mono ?_; rintro e w8 ⟨rfl, hb8⟩))
            go_wp2_with fail
            go_roundw
            case rel => exact ⟨k + 1, by omega, by have := HK.out; go_num, hbel.trans ((Below.refl _ wr).drew.trans hb8 |>.mono hzr)⟩
            case measure => simp [intOf]; omega
          · go_wp2_with fail
            go_ret
            exact ⟨rfl, hbf6.trans (hbel.mono hz6)⟩
        · go_wp2_with fail
          go_ret
          exact ⟨rfl, hbf6.trans (hbel.mono hz6)⟩
end Go.Proofs.Ytdgkjlehofkooaa
