/- The walks of SheetOver and SheetMirror, of the program and of the reference. Conditions: each theorem's own premises. -/
import Derived.Test.YtnpmpkolglmhdaaSheetA
namespace Go.Proofs.Ytnpmpkolglmhdaa
open Go.RowKit
/-- The letter that l4Other puts in the place of c. -/
def othr (f t : List UInt8) (c : UInt8) : UInt8 := (f.zip t).foldl (fun r p => if c == p.1 then p.2 else r) c
/-- The same, the first m letters of f looked at. -/
def othrTo (f t : List UInt8) (c : UInt8) (m : Nat) : UInt8 := ((f.take m).zip (t.take m)).foldl (fun r p => if c == p.1 then p.2 else r) c
theorem othrTo_all (f t : List UInt8) (c : UInt8) (h : f.length = t.length) : othrTo f t c f.length = othr f t c := by
  unfold othrTo othr
  rw [List.take_length, h, List.take_length]
theorem othrTo_succ (f t : List UInt8) (c x y : UInt8) (m : Nat) (hf : f[m]? = some x) (ht : t[m]? = some y) : othrTo f t c (m + 1) = if c == x then y else othrTo f t c m := by
  obtain ⟨h1, rfl⟩ := List.getElem?_eq_some_iff.1 hf
  obtain ⟨h2, rfl⟩ := List.getElem?_eq_some_iff.1 ht
  unfold othrTo
  rw [List.take_succ_eq_append_getElem h1, List.take_succ_eq_append_getElem h2, List.zip_append (by simp; omega), List.foldl_append]
  rfl
def overL (l : List UInt8) : List UInt8 := if sheetOk l then l.map (fun c => if 97 ≤ c.toNat then UInt8.ofNat (c.toNat - 32) else UInt8.ofNat (c.toNat + 32)) else []
def mirC (c : UInt8) : UInt8 := if c = 82 then 76 else if c = 76 then 82 else if c = 114 then 108 else if c = 108 then 114 else c
def mirL (l : List UInt8) : List UInt8 := if sheetOk l then l.map mirC else []
theorem letter_cases {c : UInt8} (h : letter c = true) : c = 82 ∨ c = 76 ∨ c = 114 ∨ c = 108 ∨ c = 85 ∨ c = 68 ∨ c = 117 ∨ c = 100 := by
  simp only [letter, wide, high, Bool.or_eq_true, beq_iff_eq] at h
  have hc : ∀ n : Nat, n < 256 → (c.toNat : Int) = (n : Int) → c = UInt8.ofNat n := fun n _ h => by
    have : c.toNat = n := by omega
    rw [← this, UInt8.ofNat_toNat]
  rcases h with (((h | h) | h) | h) | (((h | h) | h) | h)
  · exact .inl (hc 82 (by omega) h)
  · exact .inr (.inl (hc 76 (by omega) h))
  · exact .inr (.inr (.inl (hc 114 (by omega) h)))
  · exact .inr (.inr (.inr (.inl (hc 108 (by omega) h))))
  · exact .inr (.inr (.inr (.inr (.inl (hc 85 (by omega) h)))))
  · exact .inr (.inr (.inr (.inr (.inr (.inl (hc 68 (by omega) h))))))
  · exact .inr (.inr (.inr (.inr (.inr (.inr (.inl (hc 117 (by omega) h)))))))
  · exact .inr (.inr (.inr (.inr (.inr (.inr (.inr (hc 100 (by omega) h)))))))
theorem over_othr {c : UInt8} (h : letter c = true) : othr [82, 76, 85, 68, 114, 108, 117, 100] [114, 108, 117, 100, 82, 76, 85, 68] c = if 97 ≤ c.toNat then UInt8.ofNat (c.toNat - 32) else UInt8.ofNat (c.toNat + 32) := by
  rcases letter_cases h with rfl | rfl | rfl | rfl | rfl | rfl | rfl | rfl <;> decide
theorem mir_othr {c : UInt8} (h : letter c = true) : othr [82, 76, 114, 108] [76, 82, 108, 114] c = mirC c := by
  rcases letter_cases h with rfl | rfl | rfl | rfl | rfl | rfl | rfl | rfl <;> decide
theorem ok_letters {l : List UInt8} (h : sheetOk l = true) : ∀ c ∈ l, letter c = true := by
  unfold sheetOk at h
  simp only [Bool.and_eq_true, List.all_eq_true] at h
  exact h.1
theorem over_map {l : List UInt8} (h : sheetOk l = true) : l.map (othr [82, 76, 85, 68, 114, 108, 117, 100] [114, 108, 117, 100, 82, 76, 85, 68]) = overL l := by
  unfold overL
  rw [if_pos h]
  exact List.map_congr_left fun c hc => over_othr (ok_letters h c hc)
theorem mir_map {l : List UInt8} (h : sheetOk l = true) : l.map (othr [82, 76, 114, 108] [76, 82, 108, 114]) = mirL l := by
  unfold mirL
  rw [if_pos h]
  exact List.map_congr_left fun c hc => mir_othr (ok_letters h c hc)
theorem over_no {l : List UInt8} (h : sheetOk l = false) : overL l = [] := by unfold overL; rw [h]; rfl
theorem mir_no {l : List UInt8} (h : sheetOk l = false) : mirL l = [] := by unfold mirL; rw [h]; rfl
set_option maxHeartbeats 400000 in
theorem l4Other (s f t : ByteArray) (w : World) (hs : s.size ≤ maxLen) (hf : f.size ≤ 100) (hft : f.size = t.size) :
    Calls Try.prog 29 #[.string s, .string f, .string t] w fun e w' => e = .returned (.string (mkS ((bl s).map (othr (bl f) (bl t))))) ∧ Below w.heap.size w w' := by
  unfold maxLen at hs
  have ht : t.size ≤ 100 := by omega
  have HFT := Lib.hid hft
  clear hft
  go_enter Try.func29, Try.ntmps29
  go_wp2
  go_loopw [7, 8] (fun o i wr => ∃ k : Nat, ∃ b : ByteArray, k ≤ s.size ∧ i = .int .i64 k ∧ o = .string b ∧ b.size ≤ k ∧ Hid (bl b = ((bl s).take k).map (othr (bl f) (bl t))) ∧ Below w.heap.size w wr) (fun _ i _ => s.size - (intOf i).toNat)
  case atStart => exact ⟨0, ByteArray.empty, Nat.zero_le _, rfl, rfl, Nat.le_refl _, Lib.hid rfl, Below.refl _ _⟩
  case round =>
    obtain ⟨k, b, hk, rfl, rfl, hb, HB, hbel⟩ := hrel
    obtain ⟨wo, rfl⟩ : ∃ wo : World, wo = wr := ⟨_, rfl⟩
    by_cases hlt : k < s.size
    · go_wp2
      go_loopw [9, 10] (fun o i wr => ∃ m : Nat, ∃ x : ByteArray, m ≤ f.size ∧ i = .int .i64 m ∧ o = .string x ∧ x.size = 1 ∧ Hid (bl x = [othrTo (bl f) (bl t) s[k] m]) ∧ Below w.heap.size w wr) (fun _ i _ => f.size - (intOf i).toNat)
      case atStart => exact ⟨0, s.extract k (k + 1), Nat.zero_le _, rfl, rfl, bl_size1 (bl_slice1 s k hlt), Lib.hid (bl_slice1 s k hlt), hbel⟩
      case round =>
        obtain ⟨m, x, hm, rfl, rfl, hx, HX, hbel2⟩ := hrel
        have HX1 := Lib.hid hx
        clear hx
        by_cases hlm : m < f.size
        · have hlt2 : m < t.size := by have := HFT.out; omega
          have HS := Lib.hid (othrTo_succ (bl f) (bl t) s[k] f[m] t[m] m (bl_get f m hlm) (bl_get t m hlt2))
          go_wp2
          go_quiet (fail)
          go_wp2
          · have he := byte_beq (b := true) (by assumption)
            have hn : bl (t.extract m (m + 1)) = [othrTo (bl f) (bl t) s[k] (m + 1)] := by rw [HS.out, if_pos he]; exact bl_slice1 t m hlt2
            go_roundw
            case rel => exact ⟨m + 1, _, by omega, by go_num, rfl, bl_size1 hn, Lib.hid hn, below_drewN hbel2 _⟩
            case measure => simp [intOf]; omega
          · have he := byte_beq (b := false) (by assumption)
            have hn : bl x = [othrTo (bl f) (bl t) s[k] (m + 1)] := by rw [HS.out, he]; exact HX.out
            go_roundw
            case rel => exact ⟨m + 1, _, by omega, by go_num, rfl, HX1.out, Lib.hid hn, below_drewN hbel2 _⟩
            case measure => simp [intOf]; omega
        · obtain rfl : m = f.size := by omega
          have hb1 : x.size ≤ 1 := by rw [HX1.out]; exact Nat.le_refl _
          go_wp2
          have hn : bl (b ++ x) = ((bl s).take (k + 1)).map (othr (bl f) (bl t)) := by
            rw [bl_append, HB.out, HX.out, bl_take s k hlt, List.map_append]
            congr 1
            rw [← bl_length f, othrTo_all _ _ _ (by rw [bl_length, bl_length]; exact HFT.out)]
            rfl
          have hsz : (b ++ x).size ≤ k + 1 := by rw [ByteArray.size_append, HX1.out]; omega
          go_roundw
          case rel => exact ⟨k + 1, _, by omega, by go_num, rfl, hsz, Lib.hid hn, hbel2⟩
          case measure => simp [intOf]; omega
    · obtain rfl : k = s.size := by omega
      have HF : Hid (b = mkS ((bl s).map (othr (bl f) (bl t)))) := by
        have := HB.out
        rw [bl_full] at this
        exact Lib.hid (eq_mkS this)
      go_wp2
      go_ret
      exact ⟨ret_string HF.out, hbel⟩
theorem specSheetOver (s : ByteArray) (w : World) (hs : s.size ≤ maxLen) :
    Calls Try.prog 11 #[.string s] w fun e w' => e = .returned (.tuple #[.string (mkS (overL (bl s))), .bool (sheetOk (bl s))]) ∧ Below w.heap.size w w' := by
  have HS := Lib.hid hs
  clear hs
  cases hok : sheetOk (bl s) with
  | false =>
    have HN := Lib.hid (over_no hok)
    have HOK := Lib.hid hok
    clear hok
    go_enter Try.func11, Try.ntmps11
    go_wp2_with (go_at_call 28; refine (specSheetValid _ _ HS.out).mono ?_; rintro e w' ⟨rfl, rfl⟩; rw [HOK.out])
    go_ret2
    rw [HN.out]
    exact ⟨rfl, Below.refl _ _⟩
  | true =>
    have HN := Lib.hid (over_map hok)
    have HOK := Lib.hid hok
    clear hok
    go_enter Try.func11, Try.ntmps11
    go_wp2_with fail
    refine (specSheetValid _ _ HS.out).mono ?_
    rintro e w' ⟨rfl, rfl⟩
    rw [HOK.out]
    go_wp2_with fail
    refine (l4Other s ⟨#[82, 76, 85, 68, 114, 108, 117, 100]⟩ ⟨#[114, 108, 117, 100, 82, 76, 85, 68]⟩ _ HS.out (by decide) rfl).mono ?_
    rintro e w' ⟨rfl, hb⟩
    go_wp2_with fail
    go_ret2
    rw [← HN.out]
    exact ⟨rfl, hb⟩
theorem specSheetMirror (s : ByteArray) (w : World) (hs : s.size ≤ maxLen) :
    Calls Try.prog 15 #[.string s] w fun e w' => e = .returned (.tuple #[.string (mkS (mirL (bl s))), .bool (sheetOk (bl s))]) ∧ Below w.heap.size w w' := by
  have HS := Lib.hid hs
  clear hs
  cases hok : sheetOk (bl s) with
  | false =>
    have HN := Lib.hid (mir_no hok)
    have HOK := Lib.hid hok
    clear hok
    go_enter Try.func15, Try.ntmps15
    go_wp2_with (go_at_call 28; refine (specSheetValid _ _ HS.out).mono ?_; rintro e w' ⟨rfl, rfl⟩; rw [HOK.out])
    go_ret2
    rw [HN.out]
    exact ⟨rfl, Below.refl _ _⟩
  | true =>
    have HN := Lib.hid (mir_map hok)
    have HOK := Lib.hid hok
    clear hok
    go_enter Try.func15, Try.ntmps15
    go_wp2_with fail
    refine (specSheetValid _ _ HS.out).mono ?_
    rintro e w' ⟨rfl, rfl⟩
    rw [HOK.out]
    go_wp2_with fail
    refine (l4Other s ⟨#[82, 76, 114, 108]⟩ ⟨#[76, 82, 108, 114]⟩ _ HS.out (by decide) rfl).mono ?_
    rintro e w' ⟨rfl, hb⟩
    go_wp2_with fail
    go_ret2
    rw [← HN.out]
    exact ⟨rfl, hb⟩
def overC (c : UInt8) : UInt8 := if 97 ≤ c.toNat then UInt8.ofNat (c.toNat - 32) else UInt8.ofNat (c.toNat + 32)
theorem overC_val {c : UInt8} (h1 : 65 ≤ (c.toNat : Int)) (h2 : (c.toNat : Int) ≤ 122) : (97 ≤ (c.toNat : Int) → (c.toNat : Int) - 97 + 65 = ((overC c).toNat : Int)) ∧ ((c.toNat : Int) < 97 → (c.toNat : Int) - 65 + 97 = ((overC c).toNat : Int)) := by
  unfold overC
  constructor
  · intro h
    rw [if_pos (by omega)]
    have : (UInt8.ofNat (c.toNat - 32)).toNat = c.toNat - 32 := by simp; omega
    rw [this]
    omega
  · intro h
    rw [if_neg (by omega)]
    have : (UInt8.ofNat (c.toNat + 32)).toNat = c.toNat + 32 := by simp; omega
    rw [this]
    omega
set_option maxHeartbeats 400000 in
theorem implSheetOver (s : ByteArray) (w : World) (hs : s.size ≤ maxLen) :
    Calls Try.prog 10 #[.string s] w fun e w' => e = .returned (.tuple #[.string (mkS (overL (bl s))), .bool (sheetOk (bl s))]) ∧ Below w.heap.size w w' := by
  have HS := Lib.hid hs
  clear hs
  cases hok : sheetOk (bl s) with
  | false =>
    have HN := Lib.hid (over_no hok)
    have HOK := Lib.hid hok
    clear hok
    go_enter Try.func10, Try.ntmps10
    go_wp2_with (go_at_call 27; refine (implSheetValid _ _ HS.out).mono ?_; rintro e w' ⟨rfl, hb⟩; rw [HOK.out])
    go_ret2
    rw [HN.out]
    exact ⟨rfl, hb⟩
  | true =>
    have HL : Hid (∀ k (hk : k < s.size), letter s[k] = true) := by
      have h := hok
      unfold sheetOk at h
      simp only [Bool.and_eq_true] at h
      exact all_true s h.1
    have h5 : s.size ≤ 5 := by
      have h := hok
      unfold sheetOk at h
      rw [bl_length] at h
      simp only [Bool.and_eq_true, decide_eq_true_eq] at h
      exact h.2
    have HN : Hid (overL (bl s) = (bl s).map overC) := by
      show _ = _
      unfold overL
      rw [if_pos hok]
      rfl
    have HOK := Lib.hid hok
    clear hok
    go_enter Try.func10, Try.ntmps10
    go_wp2_with fail
    refine (implSheetValid _ _ HS.out).mono ?_
    rintro e w1 ⟨rfl, hb⟩
    have hz1 := hb.size
    rw [HOK.out]
    go_wp2_with (refine wpList_bytes rfl 9 22 5 _ rfl Try.underlying9 Try.underlying22 Try.underlying5 s rfl ?_; intro c w2 hbuf hb2)
    have hz2 := hb2.size
    go_loopw [14] (fun i wr => ∃ k : Nat, k ≤ s.size ∧ i = .int .i64 k ∧ Buf wr w1.heap.size (half overC (bl s) k) ∧ Below w.heap.size w wr) (fun i _ => s.size - (intOf i).toNat)
    case atStart => exact ⟨0, Nat.zero_le _, rfl, hbuf.half_start _, hb.trans (hb2.mono hz1)⟩
    case round =>
      obtain ⟨k, hk, rfl, hB, hbel⟩ := hrel
      have hzr := hbel.size
      by_cases hlt : k < s.size
      · obtain ⟨hc, hf⟩ := hB.half_cell hlt
        have hlet : 65 ≤ (s[k].toNat : Int) ∧ (s[k].toNat : Int) ≤ 122 := by
          have := letter_cases (HL.out k hlt)
          rcases this with h | h | h | h | h | h | h | h <;> rw [h] <;> decide
        obtain ⟨hl1, hl2⟩ := hlet
        have HV := Lib.hid (overC_val (c := s[k]) hl1 hl2)
        go_wp2
        · have hv : (s[k].toNat : Int) - 97 + 65 = ((overC s[k]).toNat : Int) := HV.out.1 (by assumption)
          go_roundw
          case rel => exact ⟨k + 1, by omega, by go_num, hB.half_store hlt hv, hbel.setCell (by simp; omega) _⟩
          case measure => simp [intOf]; omega
        · have hv : (s[k].toNat : Int) - 65 + 97 = ((overC s[k]).toNat : Int) := HV.out.2 (by assumption)
          go_roundw
          case rel => exact ⟨k + 1, by omega, by go_num, hB.half_store hlt hv, hbel.setCell (by simp; omega) _⟩
          case measure => simp [intOf]; omega
      · obtain rfl : k = s.size := by omega
        have hE := hB.half_end
        have hn : Hid (((bl s).map overC).length = s.size) := by show _ = _; rw [List.length_map, bl_length]
        go_wp2_with (refine wpList_string rfl 22 9 5 _ rfl Try.underlying22 Try.underlying5 Try.underlying9 _ _ _ rfl _ hE hn.out ?_)
        go_ret2
        rw [HN.out]
        exact ⟨rfl, hbel⟩
theorem mirC_val (c : UInt8) : ((c.toNat : Int) == 82) = true ∧ mirC c = 76 ∨ ((c.toNat : Int) == 82) = false ∧ (((c.toNat : Int) == 76) = true ∧ mirC c = 82 ∨ ((c.toNat : Int) == 76) = false ∧ (((c.toNat : Int) == 114) = true ∧ mirC c = 108 ∨ ((c.toNat : Int) == 114) = false ∧ (((c.toNat : Int) == 108) = true ∧ mirC c = 114 ∨ ((c.toNat : Int) == 108) = false ∧ mirC c = c))) := by
  have e : ∀ n : Nat, n < 256 → (((c.toNat : Int) == (n : Int)) = decide (c = UInt8.ofNat n)) := fun n hn => by
    rw [Bool.eq_iff_iff]
    simp only [beq_iff_eq, decide_eq_true_eq]
    constructor
    · intro h
      have : c.toNat = n := by omega
      rw [← this, UInt8.ofNat_toNat]
    · rintro rfl
      have : (UInt8.ofNat n).toNat = n := by simp; omega
      rw [this]
  have e1 : ((c.toNat : Int) == 82) = decide (c = 82) := e 82 (by omega)
  have e2 : ((c.toNat : Int) == 76) = decide (c = 76) := e 76 (by omega)
  have e3 : ((c.toNat : Int) == 114) = decide (c = 114) := e 114 (by omega)
  have e4 : ((c.toNat : Int) == 108) = decide (c = 108) := e 108 (by omega)
  rw [e1, e2, e3, e4]
  unfold mirC
  by_cases h1 : c = 82
  · left; subst h1; decide
  · right
    refine ⟨by simpa using h1, ?_⟩
    rw [if_neg h1]
    by_cases h2 : c = 76
    · left; subst h2; decide
    · right
      refine ⟨by simpa using h2, ?_⟩
      rw [if_neg h2]
      by_cases h3 : c = 114
      · left; subst h3; decide
      · right
        refine ⟨by simpa using h3, ?_⟩
        rw [if_neg h3]
        by_cases h4 : c = 108
        · left; subst h4; decide
        · right
          exact ⟨by simpa using h4, if_neg h4⟩
set_option maxHeartbeats 400000 in
theorem implSheetMirror (s : ByteArray) (w : World) (hs : s.size ≤ maxLen) :
    Calls Try.prog 14 #[.string s] w fun e w' => e = .returned (.tuple #[.string (mkS (mirL (bl s))), .bool (sheetOk (bl s))]) ∧ Below w.heap.size w w' := by
  have HS := Lib.hid hs
  clear hs
  cases hok : sheetOk (bl s) with
  | false =>
    have HN := Lib.hid (mir_no hok)
    have HOK := Lib.hid hok
    clear hok
    go_enter Try.func14, Try.ntmps14
    go_wp2_with (go_at_call 27; refine (implSheetValid _ _ HS.out).mono ?_; rintro e w' ⟨rfl, hb⟩; rw [HOK.out])
    go_ret2
    rw [HN.out]
    exact ⟨rfl, hb⟩
  | true =>
    have h5 : s.size ≤ 5 := by
      have h := hok
      unfold sheetOk at h
      rw [bl_length] at h
      simp only [Bool.and_eq_true, decide_eq_true_eq] at h
      exact h.2
    have HN : Hid (mirL (bl s) = (bl s).map mirC) := by
      show _ = _
      unfold mirL
      rw [if_pos hok]
    have HOK := Lib.hid hok
    clear hok
    go_enter Try.func14, Try.ntmps14
    go_wp2_with fail
    refine (implSheetValid _ _ HS.out).mono ?_
    rintro e w1 ⟨rfl, hb⟩
    have hz1 := hb.size
    rw [HOK.out]
    go_wp2_with (refine wpList_bytes rfl 9 22 5 _ rfl Try.underlying9 Try.underlying22 Try.underlying5 s rfl ?_; intro c w2 hbuf hb2)
    have hz2 := hb2.size
    go_loopw [14] (fun i wr => ∃ k : Nat, k ≤ s.size ∧ i = .int .i64 k ∧ Buf wr w1.heap.size (half mirC (bl s) k) ∧ Below w.heap.size w wr) (fun i _ => s.size - (intOf i).toNat)
    case atStart => exact ⟨0, Nat.zero_le _, rfl, hbuf.half_start _, hb.trans (hb2.mono hz1)⟩
    case round =>
      obtain ⟨k, hk, rfl, hB, hbel⟩ := hrel
      have hzr := hbel.size
      by_cases hlt : k < s.size
      · obtain ⟨hc, hf⟩ := hB.half_cell hlt
        rcases mirC_val s[k] with ⟨h1, hv⟩ | ⟨h1, ⟨h2, hv⟩ | ⟨h2, ⟨h3, hv⟩ | ⟨h3, ⟨h4, hv⟩ | ⟨h4, hv⟩⟩⟩⟩
        all_goals
          have HV := Lib.hid hv
          clear hv
          go_wp2
          go_roundw
        case rel => exact ⟨k + 1, by omega, by go_num, hB.half_store hlt (by rw [HV.out]; rfl), hbel.setCell (by simp; omega) _⟩
        case rel => exact ⟨k + 1, by omega, by go_num, hB.half_store hlt (by rw [HV.out]; rfl), hbel.setCell (by simp; omega) _⟩
        case rel => exact ⟨k + 1, by omega, by go_num, hB.half_store hlt (by rw [HV.out]; rfl), hbel.setCell (by simp; omega) _⟩
        case rel => exact ⟨k + 1, by omega, by go_num, hB.half_store hlt (by rw [HV.out]; rfl), hbel.setCell (by simp; omega) _⟩
        case rel => exact ⟨k + 1, by omega, by go_num, hB.half_keep hlt HV.out, hbel⟩
        all_goals (simp [intOf]; omega)
      · obtain rfl : k = s.size := by omega
        have hE := hB.half_end
        have hn : Hid (((bl s).map mirC).length = s.size) := by show _ = _; rw [List.length_map, bl_length]
        go_wp2_with (refine wpList_string rfl 22 9 5 _ rfl Try.underlying22 Try.underlying5 Try.underlying9 _ _ _ rfl _ hE hn.out ?_)
        go_ret2
        rw [HN.out]
        exact ⟨rfl, hbel⟩
end Go.Proofs.Ytnpmpkolglmhdaa
