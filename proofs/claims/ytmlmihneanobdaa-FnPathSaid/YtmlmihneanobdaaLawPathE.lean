/- The law FnPath: lists of places that are the same, and the law, walked. Conditions: each theorem's own premises. -/
import Derived.Test.YtmlmihneanobdaaPathD
import Derived.Test.YtmlmihneanobdaaDrawP
import Derived.BigRegion
namespace Go.Proofs.Ytmlmihneanobdaa
open Go.RowKit
theorem samePlaces_nil (A B : Option Addr) (c d : Nat) (w : World) : Calls Try.prog 22 #[.slice A 0 c, .slice B 0 d] w fun e w' => e = .returned (.bool true) ∧ w = w' := by
  go_enter Try.func22, Try.ntmps22
  go_wp2
  refine wp_loop_rounds 1 ?_
  rw [rounds_succ]
  go_wp2
  go_ret
  exact ⟨rfl, rfl⟩
set_option maxHeartbeats 1000000 in
theorem samePlaces (g1 g2 n c d : Nat) (ps : List (Int × Int)) (w : World) (hn : ps.length = n) (hn2 : n ≤ 1000) (h1 : RowP w g1 ps) (h2 : RowP w g2 ps) (l1 : g1 < w.heap.size) (l2 : g2 < w.heap.size) :
    Calls Try.prog 22 #[.slice (some ⟨g1, 0, none⟩) n c, .slice (some ⟨g2, 0, none⟩) n d] w fun e w' => e = .returned (.bool true) ∧ Below w.heap.size w w' := by
  have HN := Lib.hid hn
  have H1 := Lib.hid h1
  have H2 := Lib.hid h2
  clear hn h1 h2
  have t0 : ((n : Int) != (n : Int)) = false := by simp
  go_enter Try.func22, Try.ntmps22
  go_wp2
  go_loopw [5] (fun i wr => ∃ k : Nat, k ≤ n ∧ i = .int .i64 k ∧ Below w.heap.size w wr) (fun i _ => n - (intOf i).toNat)
  case atStart => exact ⟨0, Nat.zero_le _, rfl, Below.refl _ _⟩
  case round =>
    obtain ⟨k, hk, rfl, hbel⟩ := hrel
    have hzr := hbel.size
    by_cases hlt : k < n
    · have hp : ps[k]? = some (ps[k]'(by rw [HN.out]; exact hlt)) := List.getElem?_eq_getElem _
      obtain ⟨p, hp'⟩ : ∃ p, ps[k]? = some p := ⟨_, hp⟩
      obtain ⟨a1, a2⟩ := H1.out k p hp'
      obtain ⟨a3, a4⟩ := H2.out k p hp'
      have b1 := (hbel.cell (p := ⟨g1, k * 2, none⟩) l1).trans a1
      have b2 := (hbel.cell (p := ⟨g1, k * 2 + 1, none⟩) l1).trans a2
      have b3 := (hbel.cell (p := ⟨g2, k * 2, none⟩) l2).trans a3
      have b4 := (hbel.cell (p := ⟨g2, k * 2 + 1, none⟩) l2).trans a4
      clear a1 a2 a3 a4 hp hp'
      have k0 : (0 : Int) ≤ (k : Int) := by omega
      have k1 : (k : Int) < (n : Int) := by omega
      go_wp2
      go_quiet (fail)
      go_wp2
      go_roundw
      case rel => exact ⟨k + 1, by omega, by go_num, below_drewN hbel _⟩
      case measure => simp [intOf]; omega
    · go_wp2
      go_ret
      exact ⟨rfl, hbel⟩
theorem places_zero (l : List UInt8) : (places l)[0]? = some (0, 0) := rfl
theorem places_get (l : List UInt8) (j : Nat) (h : j ≤ l.length) : (places l)[j + 1]? = some (stAt l j).1 := by
  unfold places placesTo
  rw [List.getElem?_cons_succ, List.getElem?_map, List.getElem?_range (by omega)]
  rfl
theorem stAt_take (l : List UInt8) (k j : Nat) (h : j ≤ k) : stAt (l.take k) j = stAt l j := by
  unfold stAt
  rw [List.take_take, Nat.min_eq_left h]
theorem places_take (l : List UInt8) (k i : Nat) (hk : k ≤ l.length) (p : Int × Int) (h : (places (l.take k))[i]? = some p) : (places l)[i]? = some p := by
  have hl : (l.take k).length = k := by rw [List.length_take]; omega
  cases i with
  | zero => exact h
  | succ j =>
    have hj : j ≤ k := by
      have := (List.getElem?_eq_some_iff.1 h).1
      have h2 : (places (l.take k)).length = (l.take k).length + 2 := placesTo_length _ _
      omega
    rw [places_get _ _ (by omega), stAt_take _ _ _ hj] at h
    rw [places_get _ _ (by omega)]
    exact h
theorem creas_take (l : List UInt8) (k : Nat) (h : creas l = true) : creas (l.take k) = true := by
  unfold creas at h ⊢
  rw [Bool.and_eq_true, decide_eq_true_eq] at h ⊢
  refine ⟨?_, by rw [List.length_take]; omega⟩
  rw [List.all_eq_true] at h ⊢
  exact fun x hx => h.1 x (List.mem_of_mem_take hx)
/-- A step goes to the side or up, by turns. -/
theorem st_par (l : List UInt8) : ∀ k, k ≤ l.length → (k % 2 = 0 → ((stAt l k).2.1 = 1 ∨ (stAt l k).2.1 = -1) ∧ (stAt l k).2.2 = 0) ∧ (k % 2 = 1 → ((stAt l k).2.2 = 1 ∨ (stAt l k).2.2 = -1) ∧ (stAt l k).2.1 = 0)
  | 0, _ => by
    rw [stAt_zero]
    exact ⟨fun _ => ⟨.inl rfl, rfl⟩, fun h => by omega⟩
  | k + 1, h => by
    obtain ⟨a, b⟩ := st_par l k (by omega)
    rw [stAt_succ l k (by omega)]
    unfold pstep turn
    by_cases hc : l[k] = 86
    · simp only [if_pos hc]
      exact ⟨fun h => by have := b (by omega); omega, fun h => by have := a (by omega); omega⟩
    · simp only [if_neg hc]
      exact ⟨fun h => by have := b (by omega); omega, fun h => by have := a (by omega); omega⟩
/-- Two places that follow one another. -/
structure Follow (i : Nat) (p q : Int × Int) : Prop where
  x : (q.1 - p.1 = 1 ∨ p.1 - q.1 = 1) ∧ q.2 = p.2 ∧ i % 2 = 1 ∨ (q.2 - p.2 = 1 ∨ p.2 - q.2 = 1) ∧ q.1 = p.1 ∧ i % 2 = 0
  a1 : -100 ≤ p.1 ∧ p.1 ≤ 100
  a2 : -100 ≤ p.2 ∧ p.2 ≤ 100
theorem places_follow (l : List UInt8) (hl : l.length ≤ 63) (k : Nat) (hk : k < l.length + 1) : ∃ p q, (places l)[k]? = some p ∧ (places l)[k + 1]? = some q ∧ Follow (k + 1) p q := by
  cases k with
  | zero => exact ⟨(0, 0), (stAt l 0).1, rfl, places_get l 0 (by omega), by rw [stAt_zero]; exact ⟨.inl ⟨.inl rfl, rfl, rfl⟩, by decide, by decide⟩⟩
  | succ j =>
    refine ⟨_, _, places_get l j (by omega), places_get l (j + 1) (by omega), ?_⟩
    obtain ⟨a, b⟩ := st_par l (j + 1) (by omega)
    obtain ⟨_, b1, b2, b3, b4⟩ := st_bd l j (by omega)
    have e1 : (stAt l (j + 1)).1.1 = (stAt l j).1.1 + (stAt l (j + 1)).2.1 := by rw [stAt_succ l j (by omega)]; rfl
    have e2 : (stAt l (j + 1)).1.2 = (stAt l j).1.2 + (stAt l (j + 1)).2.2 := by rw [stAt_succ l j (by omega)]; rfl
    refine ⟨?_, by omega, by omega⟩
    by_cases h : (j + 1) % 2 = 0
    · have := a h
      omega
    · have := b (by omega)
      omega
theorem own_cap {w : World} {base g n cap n' : Nat} {e : TypeId} {xs : List Value} (h : w.ownsRow base e 2 (.slice (some ⟨g, 0, none⟩) n cap) n' xs) : n' ≤ cap := by
  obtain ⟨_, ⟨h1, _⟩ | ⟨g', cap', cur, h1, _, _, h2, _⟩⟩ := h
  · cases h1
  · injection h1 with _ _ h3
    omega
set_option maxRecDepth 100000 in
set_option maxHeartbeats 4000000 in
theorem fnPath_walk (W : World) (a0 : Option Addr) (len0 cap0 : Nat) (z0 : List Int) (w0 : IsRow .u8 W a0 len0 cap0 z0) (a1 : Option Addr) (len1 cap1 : Nat) (z1 : List Int) (_w1 : IsRow .u8 W a1 len1 cap1 z1) :
    Calls Try.prog 7 #[.slice a0 len0 cap0, .slice a1 len1 cap1] W fun e w' => e = .returned (.bool true) ∧ Below W.heap.size W w' := by
  have hc0 : len0 ≤ cap0 := w0.le
  have HR := Lib.hid w0
  clear w0 _w1
  by_cases hl : 1048576 < len0
  · go_enter Try.func7, Try.ntmps7
    go_wp2
    go_ret
    exact ⟨rfl, Below.refl _ _⟩
  · by_cases hl1 : 1048576 < len1
    · go_enter Try.func7, Try.ntmps7
      go_wp2
      go_ret
      exact ⟨rfl, Below.refl _ _⟩
    · go_enter Try.func7, Try.ntmps7
      go_wp2_with fail
      refine (drawPathPlaces _ _ _ _ _ HR.out hc0).mono ?_
      rintro e w2 ⟨t, rfl, ht, hb0⟩
      clear HR
      cases hok : creas (bl t) with
      | false =>
        have HOK := Lib.hid hok
        clear hok
        go_wp2_with fail
        refine (implPathPlaces_no t _ (by unfold maxLen; omega) HOK.out).mono ?_
        intro e w3 h3
        obtain ⟨A1, rfl, hb3⟩ := NoPlaces.form h3
        clear h3
        go_wp2_with fail
        refine (specPathPlaces_no t _ (by omega) HOK.out).mono ?_
        intro e w4 h4
        obtain ⟨A2, rfl, hb4⟩ := NoPlaces.form h4
        clear h4
        go_wp2_with fail
        refine (samePlaces_nil _ _ _ _ _).mono ?_
        rintro e w5 ⟨rfl, rfl⟩
        go_wp2_with fail
        refine (samePlaces_nil _ _ _ _ _).mono ?_
        rintro e w5 ⟨rfl, rfl⟩
        go_wp2_with fail
        go_ret
        exact ⟨rfl, hb0.trans ((hb3.trans (hb4.mono hb3.size)).mono hb0.size)⟩
      | true =>
        have hs := creas_len hok
        have hn2 : (bl t).length + 2 ≤ 1000 := by rw [bl_length]; omega
        have HOK := Lib.hid hok
        have HLEN : Hid ((places (bl t)).length = (bl t).length + 2) := Lib.hid (placesTo_length _ _)
        have HF := Lib.hid (places_follow (bl t) (by rw [bl_length]; exact hs))
        have HTAKE := Lib.hid (fun k => creas_take (bl t) k hok)
        have hz0 := hb0.size
        clear hok
        go_wp2_with fail
        refine (implPathPlaces t _ HOK.out).mono ?_
        rintro e w3 ⟨g1, c1, rfl, hg1, ho1, hb1⟩
        have hz1 := hb1.size
        have hl1 : g1 < w3.heap.size := (ho1.lt _ rfl).2
        have hr1 := RowP.of_own ho1
        have hcap1 : t.size + 2 ≤ c1 := by rw [← bl_length]; exact own_cap ho1
        clear ho1
        go_wp2_with fail
        refine (specPathPlaces t _ HOK.out).mono ?_
        rintro e w4 ⟨g2, c2, rfl, hg2, ho2, hb2⟩
        have hz2 := hb2.size
        have hl2 : g2 < w4.heap.size := (ho2.lt _ rfl).2
        have hr2 := RowP.of_own ho2
        have hr12 := hr1.keep (hb2.block g1 hl1)
        clear ho2 hr1
        go_wp2_with fail
        refine (samePlaces g1 g2 _ _ _ (places (bl t)) _ HLEN.out hn2 hr12 hr2 (by omega) hl2).mono ?_
        rintro e w5 ⟨rfl, hb5⟩
        have hz5 := hb5.size
        have HR5 := Lib.hid (hr12.keep (hb5.block g1 (by omega)))
        have hbb : Below W.heap.size W w5 := hb0.trans ((hb1.trans ((hb2.trans (hb5.mono hz2)).mono hz1)).mono hz0)
        clear hr2 hr12 hb0 hb1 hb2 hb5
        obtain ⟨L, hL⟩ : ∃ L, L = (bl t).length := ⟨_, rfl⟩
        have hLs : t.size = L := by rw [hL, bl_length]
        have HL := Lib.hid hL
        have HLS := Lib.hid hLs
        have hL63 : L ≤ 63 := by omega
        rw [← hL]
        have hg15 : g1 < w5.heap.size := by omega
        have hLe : L = (bl t).length := hL
        have HT0 : ∀ K : Nat, K ≤ L → Hid (creas (bl (t.extract 0 K)) = true ∧ (bl (t.extract 0 K)).length = K ∧ (places (bl (t.extract 0 K))).length = K + 2 ∧ ∀ W' : World, RowP W' g1 (places (bl t)) → RowP W' g1 (places (bl (t.extract 0 K)))) := by
          intro K hK
          have hlK : (bl (t.extract 0 K)).length = K := by rw [bl_left, List.length_take, ← hLe]; omega
          refine Lib.hid ⟨by rw [bl_left]; exact HTAKE.out K, hlK, ?_, fun W' h i p hp => h i p (places_take (bl t) K i (by rw [← hLe]; exact hK) p (by rw [← bl_left]; exact hp))⟩
          have := placesTo_length (bl (t.extract 0 K)) (bl (t.extract 0 K)).length
          rw [hlK] at this
          unfold places
          rw [hlK]
          exact this
        have HWR : Hid (∀ K : Nat, K ≤ L → IntKind.i64.wrap ((K : Int) + 2) = (K : Int) + 2) := Lib.hid (fun K hK => by rw [IntKind.wrap_i64]; omega)
        have HTT := Lib.hid HT0
        have HLL : Hid ((t.size : Int) = (L : Int)) := Lib.hid (by omega)
        clear hL hn2 hLe HT0 HTAKE HLEN
        go_wp2_with fail
        go_loopw [10] (fun i wr => ∃ n : Nat, 1 ≤ n ∧ n ≤ L + 2 ∧ i = .int .i64 (n : Int) ∧ ∃ d, wr = w5.drewN d) (fun i _ => 1000 - (intOf i).toNat)
        case atStart => exact ⟨1, by omega, by omega, rfl, 0, rfl⟩
        case round =>
          obtain ⟨n, hn1, hn, rfl, d, rfl⟩ := hrel
          by_cases hlt : n < L + 2
          · obtain ⟨m, hm⟩ : ∃ m, n = m + 1 := ⟨n - 1, by omega⟩
            obtain ⟨p, q, hp, hq, hf⟩ := HF.out m (by rw [← HL.out]; omega)
            rw [← hm] at hq hf
            obtain ⟨b1, b2⟩ := HR5.out m p hp
            obtain ⟨b3, b4⟩ := HR5.out n q hq
            have HFO := Lib.hid hf
            have f1 := hf.a1
            have f2 := hf.a2
            have f3 := hf.x
            have k1 : (n : Int) < (L : Int) + 2 := by omega
            have k2 : (m : Int) < (L : Int) + 2 := by omega
            have k3 : IntKind.i64.wrap ((n : Int) - 1) = (m : Int) := by rw [IntKind.wrap_i64]; omega
            have k4 : (0 : Int) ≤ (m : Int) := by omega
            have k5 : (0 : Int) ≤ (n : Int) := by omega
            obtain ⟨u1, u2, v1, v2, r, s1, d1, d2, d3, d4, d5, d6, d7, d8⟩ : ∃ u1 u2 v1 v2 r s1 : Int, IntKind.i64.wrap (q.1 - p.1) = u1 ∧ IntKind.i64.wrap (p.1 - q.1) = u2 ∧ IntKind.i64.wrap (q.2 - p.2) = v1 ∧ IntKind.i64.wrap (p.2 - q.2) = v2 ∧ (n : Int) % 2 = r ∧ (if u1 < u2 then u2 else u1) = r ∧ (if v1 < v2 then v2 else v1) = s1 ∧ IntKind.i64.wrap (1 - r) = s1 := by
              refine ⟨_, _, _, _, _, 1 - (n : Int) % 2, rfl, rfl, rfl, rfl, rfl, ?_, ?_, ?_⟩
              all_goals (simp only [IntKind.wrap_i64]; omega)
            clear hf f1 f2 f3 hp hq hm
            go_wp2_with fail
            go_region
            go_wp2_with fail
            go_region
            clear k3 d1 d2 d3 d4 d6 d7
            go_wp2_with fail
            go_roundw
            case rel => exact ⟨n + 1, by omega, by omega, by go_num, _, rfl⟩
            case measure => simp [intOf]; omega
          · obtain rfl : n = L + 2 := by omega
            obtain ⟨K, hK, hK2⟩ : ∃ K : Nat, (len1 : Int) % ((L : Int) + 1) = (K : Int) ∧ K ≤ L := by
              have := Nat.mod_lt len1 (show 0 < L + 1 by omega)
              exact ⟨len1 % (L + 1), by simp, by omega⟩
            obtain ⟨HTK, hlK, hlp, hrp⟩ := (HTT.out K hK2).out
            have HTK' := Lib.hid HTK
            have HLK := Lib.hid hlK
            have HLP := Lib.hid hlp
            have HRP := Lib.hid hrp
            have k1 : (K : Int) ≤ (L : Int) := by omega
            have k2 : (0 : Int) ≤ (K : Int) := by omega
            have k3 := HWR.out K hK2
            clear HTK hlK hlp hrp
            go_wp2_with fail
            refine (implPathPlaces (t.extract 0 K) _ HTK'.out).mono ?_
            rintro e w6 ⟨g6, c6, rfl, hg6, ho6, hb6⟩
            rw [HLK.out] at ho6 ⊢
            have hz6 : w5.heap.size ≤ w6.heap.size := hb6.size
            have hl6 : g6 < w6.heap.size := (ho6.lt _ rfl).2
            have HR6 := Lib.hid (HRP.out w6 ((HR5.out.keep (w' := w5.drewN d) rfl).keep (hb6.block g1 hg15)))
            have hr6 : RowP w6 g6 (places (bl (t.extract 0 K))) := by
              have h := ho6
              rw [show K + 2 = (bl (t.extract 0 K)).length + 2 by rw [HLK.out]] at h
              exact RowP.of_own h
            have HS6 := Lib.hid hr6
            clear ho6 hr6
            have hts := HLL.out
            have m1 : (0 : Int) ≤ (K : Int) + 2 := by omega
            have m2 : (K : Int) + 2 ≤ (c1 : Int) := by omega
            have m3 : ((K : Int) + 2).toNat = K + 2 := by omega
            go_wp2_with fail
            refine (samePlaces g6 g1 _ _ _ (places (bl (t.extract 0 K))) _ HLP.out (by omega) HS6.out HR6.out hl6 (by omega)).mono ?_
            rintro e w7 ⟨rfl, hb7⟩
            go_wp2_with fail
            go_ret
            exact ⟨rfl, (below_drewN hbb d).trans ((hb6.trans (hb7.mono hz6)).mono hbb.size)⟩
end Go.Proofs.Ytmlmihneanobdaa
