/- The walks of PathPlaces, of the program and of the reference. Conditions: each theorem's own premises. -/
import Derived.Test.YtalbokejljjflaaPathA
namespace Go.Proofs.Ytalbokejljjflaa
open Go.RowKit
theorem ownsRow_of_block {w w' : World} {base g n cap size : Nat} {e : TypeId} {xs : List Value} (h : w.ownsRow base e size (.slice (some ⟨g, 0, none⟩) n cap) n xs) (hb : w'.heap[g]? = w.heap[g]?) : w'.ownsRow base e size (.slice (some ⟨g, 0, none⟩) n cap) n xs := by
  refine ⟨h.1, ?_⟩
  rcases h.2 with ⟨h', _⟩ | ⟨g', cap', cur, h', r1, r2, r⟩
  · simp at h'
  · simp only [Value.slice.injEq, Option.some.injEq, Addr.mk.injEq, and_true, true_and] at h'
    obtain ⟨rfl, rfl⟩ := h'
    exact .inr ⟨g, cap, cur, rfl, r1, hb.trans r2, r⟩
/-- An empty list of places has come back, and false. -/
def NoPlaces (w : World) (e : Ending) (w' : World) : Prop :=
  ∃ v : Value, e = .returned (.tuple #[v, .bool false]) ∧ (v = .slice none 0 0 ∨ ∃ g, v = .slice (some ⟨g, 0, none⟩) 0 0) ∧ Below w.heap.size w w'
theorem creas_len {s : ByteArray} (h : creas (bl s) = true) : s.size ≤ 63 := by
  unfold creas at h
  rw [bl_length] at h
  simp only [Bool.and_eq_true, decide_eq_true_eq] at h
  exact h.2
set_option maxHeartbeats 1000000 in
theorem implPathPlaces_no (s : ByteArray) (w : World) (hs : s.size ≤ maxLen) (hok : creas (bl s) = false) : Calls Try.prog 20 #[.string s] w (NoPlaces w) := by
  have HOK := Lib.hid hok
  clear hok
  go_enter Try.func20, Try.ntmps20
  go_wp2_with fail
  refine (isCreases _ _ hs).mono ?_
  rintro e w' ⟨rfl, rfl⟩
  rw [HOK.out]
  go_wp2_with fail
  go_ret2
  exact ⟨_, rfl, by first | exact .inl rfl | exact .inr ⟨_, rfl⟩, (by repeat (first | exact Below.refl _ _ | assumption | (refine Below.setCell ?_ (by first | omega | (simp; done) | (simp; omega)) _) | (refine Below.alloc ?_ (by first | omega | (simp; done) | (simp; omega)) _) | (refine below_drewN ?_ _) | (refine Below.drew ?_)))⟩
theorem cells_new4 (w : World) (a b c d : Value) (T : TypeId) : ∀ j u, [a, b, c, d][j]? = some u → (w.alloc (.cells #[a, b, c, d] T)).cell? ((⟨w.heap.size, 0, none⟩ : Addr).add j) = some u := by
  intro j u h
  have e : (⟨w.heap.size, 0, none⟩ : Addr).add j = ⟨w.heap.size, j, none⟩ := by
    unfold Addr.add
    by_cases h0 : j = 0
    · subst h0; rfl
    · simp [h0]
  rw [e]
  refine (World.cell?_alloc_mark w _ T (0, 0) j).trans ?_
  simpa using h
theorem cells_new2 (w : World) (a b : Value) (T : TypeId) : ∀ j u, [a, b][j]? = some u → (w.alloc (.cells #[a, b] T)).cell? ((⟨w.heap.size, 0, none⟩ : Addr).add j) = some u := by
  intro j u h
  have e : (⟨w.heap.size, 0, none⟩ : Addr).add j = ⟨w.heap.size, j, none⟩ := by
    unfold Addr.add
    by_cases h0 : j = 0
    · subst h0; rfl
    · simp [h0]
  rw [e]
  refine (World.cell?_alloc_mark w _ T (0, 0) j).trans ?_
  simpa using h
theorem made_places {w w1 : World} {n T : Nat} {C D : Array Value} (hown : w1.ownsRow w.heap.size T 2 (.slice (some ⟨((w.alloc (.cells C T)).alloc (.cells D T)).heap.size, 0, none⟩) 0 n) 0 []) (hgr : ((w.alloc (.cells C T)).alloc (.cells D T)).grownBy w1 none) :
    w1.ownsRow w.heap.size T 2 (.slice (some ⟨w.heap.size + 1 + 1, 0, none⟩) 0 n) 0 [] ∧ w1.cell? ⟨w.heap.size, 0, none⟩ = C[0]? ∧ w1.cell? ⟨w.heap.size, 1, none⟩ = C[1]? ∧ w1.cell? ⟨w.heap.size + 1, 0, none⟩ = D[0]? ∧ w1.cell? ⟨w.heap.size + 1, 1, none⟩ = D[1]? ∧
      Below w.heap.size w w1 ∧ w.heap.size + 1 + 1 ≤ w1.heap.size := by
  have hz := hgr.size
  have h0 : ∀ j, w1.cell? ⟨w.heap.size, j, none⟩ = C[j]? := fun j => by
    rw [World.cell?_of_block (a := ⟨w.heap.size, j, none⟩) (hgr.block w.heap.size (by simp; omega) (by simp)), World.cell?_of_block (a := ⟨w.heap.size, j, none⟩) (Below.heap_alloc (w.alloc (.cells C T)) _ w.heap.size (by simp))]
    exact World.cell?_alloc_mark w C T (0, 0) j
  have h1 : ∀ j, w1.cell? ⟨w.heap.size + 1, j, none⟩ = D[j]? := fun j => by
    rw [World.cell?_of_block (a := ⟨w.heap.size + 1, j, none⟩) (hgr.block (w.heap.size + 1) (by simp) (by simp))]
    have := World.cell?_alloc_mark (w.alloc (.cells C T)) D T (0, 0) j
    simp at this ⊢
    try exact this
  refine ⟨by simpa using hown, h0 0, h0 1, h1 0, h1 1, ?_, by simpa using hz⟩
  exact (((Below.refl _ w).alloc (Nat.le_refl _) _).alloc (by simp) _).grown hgr (by simp; omega) (by intro k hk; cases hk)
theorem appended_places {w w1 w2 : World} {T : Nat} {E : Array Value} {a b c d : Option Value} (h1 : w1.cell? ⟨w.heap.size, 0, none⟩ = a) (h2 : w1.cell? ⟨w.heap.size, 1, none⟩ = b) (h3 : w1.cell? ⟨w.heap.size + 1, 0, none⟩ = c) (h4 : w1.cell? ⟨w.heap.size + 1, 1, none⟩ = d)
    (hb : Below w.heap.size w w1) (hz : w.heap.size + 1 + 1 ≤ w1.heap.size) (hgr : (w1.alloc (.cells E T)).grownBy w2 (some (w.heap.size + 1 + 1))) :
    w2.cell? ⟨w.heap.size, 0, none⟩ = a ∧ w2.cell? ⟨w.heap.size, 1, none⟩ = b ∧ w2.cell? ⟨w.heap.size + 1, 0, none⟩ = c ∧ w2.cell? ⟨w.heap.size + 1, 1, none⟩ = d ∧ Below w.heap.size w w2 ∧ w.heap.size + 1 + 1 ≤ w2.heap.size := by
  have hz2 := hgr.size
  have hf : ∀ k j, k < w.heap.size + 1 + 1 → w2.cell? ⟨k, j, none⟩ = w1.cell? ⟨k, j, none⟩ := fun k j hk => by
    rw [World.cell?_of_block (a := ⟨k, j, none⟩) (hgr.block k (by simp; omega) (by intro e; injection e; omega)), World.cell?_of_block (a := ⟨k, j, none⟩) (Below.heap_alloc w1 _ k (by omega))]
  refine ⟨(hf _ _ (by omega)).trans h1, (hf _ _ (by omega)).trans h2, (hf _ _ (by omega)).trans h3, (hf _ _ (by omega)).trans h4, ?_, ?_⟩
  · exact (hb.alloc (by omega) _).grown hgr (by simp; omega) (by intro k hk; cases hk; omega)
  · have : (w1.alloc (.cells E T)).heap.size = w1.heap.size + 1 := by simp
    omega
set_option maxHeartbeats 4000000 in
theorem implPathPlaces (s : ByteArray) (w : World) (hok : creas (bl s) = true) : Calls Try.prog 20 #[.string s] w (PlacesBack (bl s) w) := by
  have hl := creas_len hok
  obtain ⟨i0, hi, hz0, hz1, hz2⟩ := info_parts infoPlace
  have HI := Lib.hid hi; have HZ0 := Lib.hid hz0; have HZ1 := Lib.hid hz1; have HZ2 := Lib.hid hz2
  have HOK := Lib.hid hok
  clear hi hz0 hz1 hz2 hok
  go_enter Try.func20, Try.ntmps20
  go_wp2_with fail
  refine (isCreases _ _ (by unfold maxLen; omega)).mono ?_
  rintro e w' ⟨rfl, rfl⟩
  rw [HOK.out]
  go_wp2_with (first
    | (at_make; refine wpList_make_own _ rfl _ _ 38 rfl w.heap.size 25 i0 _ 2 Try.underlying38 HI.out HZ0.out HZ1.out _ _ _ (s.size + 2) rfl rfl (by omega) (by rw [HZ2.out]; omega) (by unfold maxLen; omega) (by simp; omega) ?_; intro w1 hown hgr; obtain ⟨hown', hc1, hc2, hc3, hc4, hbb, hzz⟩ := made_places hown hgr; clear hown hgr)
    | (at_builtin; refine wpList_append_fits _ rfl _ _ 38 rfl w.heap.size 25 i0 2 Try.underlying38 HI.out HZ1.out (w.heap.size + 1 + 1) 0 (s.size + 2) _ rfl (hown'.alloc _) ⟨w1.heap.size, 0, none⟩ 2 2 [.int .i64 0, .int .i64 0, .int .i64 1, .int .i64 0] rfl rfl (cells_new4 _ _ _ _ _ _) (by simp [Value.oneCell']) (by omega) ?_; intro w2 hown2 hgr2; obtain ⟨k1, k2, k3, k4, hbb2, hzz2⟩ := appended_places hc1 hc2 hc3 hc4 hbb hzz hgr2; clear hgr2 hc1 hc2 hc3 hc4))
  have hg2 : w.heap.size + 1 + 1 < w2.heap.size := (hown2.lt _ rfl).2
  refine (walk0 _).mono ?_
  rintro e w3 ⟨b1, b2, b3, rfl, h12, h13, h23, hb1, hb2, hb3, hwk, hbb3⟩
  have hzz3 := hbb3.size
  have hown3 := ownsRow_of_block hown2 (hbb3.block _ hg2)
  have hbel3 := hbb2.trans (hbb3.mono (by omega))
  clear hown' hown2 hbb hbb2 hbb3 k1 k2 k3 k4
  go_wp2_with fail
  go_loopw [6, 8] (fun v i wr => ∃ k : Nat, k ≤ s.size ∧ i = .int .i64 k ∧ v = .slice (some ⟨w.heap.size + 1 + 1, 0, none⟩) (k + 2) (s.size + 2) ∧
      wr.ownsRow w.heap.size 25 2 (.slice (some ⟨w.heap.size + 1 + 1, 0, none⟩) (k + 2) (s.size + 2)) (k + 2) (cellsP (placesTo (bl s) k)) ∧ Walker wr b1 b2 b3 (stAt (bl s) k) ∧ Below w.heap.size w wr ∧ w3.heap.size ≤ wr.heap.size) (fun _ i _ => s.size - (intOf i).toNat)
  case atStart => exact ⟨0, Nat.zero_le _, rfl, by simp, by simpa [placesTo, stAt_zero, cellsP] using hown3, by rw [stAt_zero]; exact hwk, hbel3, Nat.le_refl _⟩
  case round =>
    obtain ⟨k, hk, rfl, rfl, hown4, hwk4, hbel4, hzz4⟩ := hrel
    by_cases hlt : k < s.size
    · have hnear := near_st (bl s) k (by rw [bl_length]; exact hk) (by rw [bl_length]; exact hl)
      have HST : Hid (stAt (bl s) (k + 1) = pstep (stAt (bl s) k) s[k]) := by
        show _ = _
        rw [stAt_succ _ _ (by rw [bl_length]; exact hlt), bl_getElem s k hlt]
        try rfl
      go_wp2_with fail
      refine (walk1 s[k] b1 b2 b3 (stAt (bl s) k) wr h12 h13 h23 hwk4 hnear).mono ?_
      rintro e w5 hstep
      have hbel5 := hstep.below (B := w.heap.size) (by omega) (by omega) (by omega) (by omega)
      have hz5 := hbel5.size
      obtain ⟨rfl, hwk5, hkeep5, _⟩ := hstep
      have hown5 := ownsRow_of_block hown4 (hkeep5 _ (hown4.lt _ rfl).2 (by omega) (by omega) (by omega))
      clear hkeep5 hwk4 hown4
      have HC : Hid (cellsP (placesTo (bl s) (k + 1)) = cellsP (placesTo (bl s) k) ++ [.int .i64 (pstep (stAt (bl s) k) s[k]).1.1, .int .i64 (pstep (stAt (bl s) k) s[k]).1.2]) := by
        show _ = _
        rw [placesTo_succ, cellsP_append, HST.out]
        rfl
      go_wp2_with (at_builtin; refine wpList_append_fits _ rfl _ _ 38 rfl w.heap.size 25 i0 2 Try.underlying38 HI.out HZ1.out (w.heap.size + 1 + 1) (k + 2) (s.size + 2) _ rfl (hown5.alloc _) ⟨w5.heap.size, 0, none⟩ 1 1 [.int .i64 (pstep (stAt (bl s) k) s[k]).1.1, .int .i64 (pstep (stAt (bl s) k) s[k]).1.2] rfl rfl (cells_new2 _ _ _ _) (by simp [Value.oneCell']) (by omega) ?_; intro w6 hown6 hgr6)
      have hbel6 : Below w.heap.size w w6 := below_grown_at ((hbel4.trans hbel5).alloc (by omega) _) hgr6 (by simp; omega) (by omega)
      have hz6 : w5.heap.size + 1 ≤ w6.heap.size := by simpa using hgr6.size
      have hlt5 := hwk5.lt
      have hwk6 : Walker w6 b1 b2 b3 (stAt (bl s) (k + 1)) := by
        rw [HST.out]
        have hf : ∀ b, b < w5.heap.size → b ≠ w.heap.size + 1 + 1 → w6.heap[b]? = w5.heap[b]? := fun b hb hne =>
          (hgr6.block b (by simp; omega) (by intro e; injection e; omega)).trans (Below.heap_alloc w5 _ b hb)
        exact hwk5.keep (hf _ (by omega) (by omega)) (hf _ (by omega) (by omega)) (hf _ (by omega) (by omega))
      go_roundw
      case rel => exact ⟨k + 1, by omega, by go_num, by go_num, by rw [HC.out]; exact hown6, hwk6, hbel6, by omega⟩
      case measure => simp [intOf]; omega
    · obtain rfl : k = s.size := by omega
      go_wp2_with fail
      go_ret2
      refine ⟨w.heap.size + 1 + 1, s.size + 2, by rw [bl_length]; rfl, by omega, ?_, hbel4⟩
      rw [bl_length]
      unfold places
      rw [bl_length]
      exact hown4
theorem own_form {w : World} {base n size : Nat} {e : TypeId} {v : Value} {xs : List Value} (h : w.ownsRow base e size v n xs) (hn : 0 < n) : ∃ g cap, v = .slice (some ⟨g, 0, none⟩) n cap ∧ base ≤ g ∧ g < w.heap.size := by
  rcases h.2 with ⟨_, h0⟩ | ⟨g, cap, cur, rfl, h1, _⟩
  · omega
  · exact ⟨g, cap, rfl, h1, (h.lt g rfl).2⟩
theorem own_at {w : World} {base n size g cap : Nat} {e : TypeId} {xs : List Value} (h : w.ownsRow base e size (.slice (some ⟨g, 0, none⟩) n cap) n xs) {j : Nat} {u : Value} (hj : xs[j]? = some u) : w.cell? ⟨g, j, none⟩ = some u := by
  have hl := (List.getElem?_eq_some_iff.1 hj).1
  rw [h.1] at hl
  rw [h.cellAt j hl, hj]
set_option maxHeartbeats 1000000 in
theorem specPathPlaces_no (s : ByteArray) (w : World) (hs : s.size ≤ 1048576) (hok : creas (bl s) = false) : Calls Try.prog 21 #[.string s] w (NoPlaces w) := by
  have HOK := Lib.hid hok
  clear hok
  go_enter Try.func21, Try.ntmps21
  go_wp2_with fail
  refine (l5Creases _ _ hs).mono ?_
  rintro e w' ⟨rfl, rfl⟩
  rw [HOK.out]
  go_wp2_with fail
  go_ret2
  exact ⟨_, rfl, by first | exact .inl rfl | exact .inr ⟨_, rfl⟩, (by repeat (first | exact Below.refl _ _ | assumption | (refine Below.setCell ?_ (by first | omega | (simp; done) | (simp; omega)) _) | (refine Below.alloc ?_ (by first | omega | (simp; done) | (simp; omega)) _) | (refine below_drewN ?_ _) | (refine Below.drew ?_)))⟩
set_option maxHeartbeats 4000000 in
theorem specPathPlaces (s : ByteArray) (w : World) (hok : creas (bl s) = true) : Calls Try.prog 21 #[.string s] w (PlacesBack (bl s) w) := by
  have hl := creas_len hok
  obtain ⟨i0, hi, hz0, hz1, hz2⟩ := info_parts infoPlace
  have HI := Lib.hid hi; have HZ0 := Lib.hid hz0; have HZ1 := Lib.hid hz1; have HZ2 := Lib.hid hz2
  have HOK := Lib.hid hok
  clear hi hz0 hz1 hz2 hok
  go_enter Try.func21, Try.ntmps21
  go_wp2_with fail
  refine (l5Creases _ _ (by omega)).mono ?_
  rintro e w' ⟨rfl, rfl⟩
  rw [HOK.out]
  go_wp2_with fail
  go_loopw [4, 5, 6, 7] (fun v x y i wr => ∃ k g cap : Nat, k ≤ s.size ∧ i = .int .i64 k ∧ v = .slice (some ⟨g, 0, none⟩) (k + 2) cap ∧ x = .int .i64 (stAt (bl s) k).2.1 ∧ y = .int .i64 (stAt (bl s) k).2.2 ∧
      wr.ownsRow w.heap.size 25 2 (.slice (some ⟨g, 0, none⟩) (k + 2) cap) (k + 2) (cellsP (placesTo (bl s) k)) ∧ w.heap.size ≤ g ∧ Below w.heap.size w wr) (fun _ _ _ i _ => s.size - (intOf i).toNat)
  case atStart => exact ⟨0, w.heap.size, 2, Nat.zero_le _, rfl, rfl, by rw [stAt_zero], by rw [stAt_zero], by
    have := World.ownsRow_lit (base := w.heap.size) (e := 25) (size := 2) w #[.int .i64 0, .int .i64 0, .int .i64 1, .int .i64 0] 2 (Nat.le_refl _) (by unfold maxLen; omega) rfl
    simpa [placesTo, stAt_zero, cellsP] using this, Nat.le_refl _, (by repeat (first | exact Below.refl _ _ | assumption | (refine Below.setCell ?_ (by first | omega | (simp; done) | (simp; omega)) _) | (refine Below.alloc ?_ (by first | omega | (simp; done) | (simp; omega)) _) | (refine below_drewN ?_ _) | (refine Below.drew ?_)))⟩
  case round =>
    obtain ⟨k, g, cap, hk, rfl, rfl, rfl, rfl, hown, hg, hbel⟩ := hrel
    have hzr := hbel.size
    by_cases hlt : k < s.size
    · obtain ⟨d1, d2, d3, d4, p1, p2, p3, p4⟩ := near_st (bl s) k (by rw [bl_length]; exact hk) (by rw [bl_length]; exact hl)
      have hcl := cellsP_get _ _ _ (placesTo_last (bl s) k)
      have hc1 := own_at hown hcl.1
      have hc2 := own_at hown hcl.2
      clear hcl
      cases hv : ((s[k].toNat : Int) == 86) with
      | true =>
        have HST : Hid (stAt (bl s) (k + 1) = (((stAt (bl s) k).1.1 + -(stAt (bl s) k).2.2, (stAt (bl s) k).1.2 + (stAt (bl s) k).2.1), (-(stAt (bl s) k).2.2, (stAt (bl s) k).2.1))) := by
          show _ = _
          rw [stAt_succ _ _ (by rw [bl_length]; exact hlt), bl_getElem s k hlt]
          exact pstep_V _ hv
        have hcn : ∀ j u, [Value.int .i64 ((stAt (bl s) k).1.1 + -(stAt (bl s) k).2.2), Value.int .i64 ((stAt (bl s) k).1.2 + (stAt (bl s) k).2.1)][j]? = some u → ((wr.alloc (.cells #[.int .i64 (stAt (bl s) k).1.1, .int .i64 (stAt (bl s) k).1.2] 25)).alloc (.cells #[.int .i64 ((stAt (bl s) k).1.1 + -(stAt (bl s) k).2.2), .int .i64 ((stAt (bl s) k).1.2 + (stAt (bl s) k).2.1)] 25)).cell? ((⟨wr.heap.size + 1, 0, none⟩ : Addr).add j) = some u := by
          have := cells_new2 (wr.alloc (.cells #[.int .i64 (stAt (bl s) k).1.1, .int .i64 (stAt (bl s) k).1.2] 25)) (.int .i64 ((stAt (bl s) k).1.1 + -(stAt (bl s) k).2.2)) (.int .i64 ((stAt (bl s) k).1.2 + (stAt (bl s) k).2.1)) 25
          rwa [show (wr.alloc (.cells #[.int .i64 (stAt (bl s) k).1.1, .int .i64 (stAt (bl s) k).1.2] 25)).heap.size = wr.heap.size + 1 from by simp] at this
        have HCN := Lib.hid hcn
        clear hcn
        go_wp2_with (at_builtin; refine wpList_append_own _ rfl _ _ 38 rfl w.heap.size 25 i0 (.agg #[.int .i64 0, .int .i64 0]) 2 16 Try.underlying38 HI.out HZ0.out HZ1.out HZ2.out rfl (by decide) _ (k + 2) _ rfl ((hown.alloc _).alloc _) ⟨wr.heap.size + 1, 0, none⟩ 1 1 [.int .i64 ((stAt (bl s) k).1.1 + -(stAt (bl s) k).2.2), .int .i64 ((stAt (bl s) k).1.2 + (stAt (bl s) k).2.1)] rfl rfl HCN.out (by simp [Value.oneCell']) (by unfold maxLen; omega) (by omega) (by simp; omega) ?_; intro v' w3 hown3 hgr3 _; obtain ⟨g3, cap3, hv3, hg3, hl3⟩ := own_form hown3 (by omega); subst hv3)
        have HC : Hid (cellsP (placesTo (bl s) (k + 1)) = cellsP (placesTo (bl s) k) ++ [.int .i64 ((stAt (bl s) k).1.1 + -(stAt (bl s) k).2.2), .int .i64 ((stAt (bl s) k).1.2 + (stAt (bl s) k).2.1)]) := by
          show _ = _
          rw [placesTo_succ, cellsP_append, HST.out]
          rfl
        have hbel3 : Below w.heap.size w w3 := below_grown_at ((hbel.alloc hzr _).alloc (by simp; omega) _) hgr3 (by simp; omega) hg
        go_roundw
        case rel => exact ⟨k + 1, g3, cap3, by omega, by go_num, by go_num, by rw [HST.out], by rw [HST.out], by rw [HC.out]; exact hown3, hg3, hbel3⟩
        case measure => simp [intOf]; omega
      | false =>
        have HST : Hid (stAt (bl s) (k + 1) = (((stAt (bl s) k).1.1 + (stAt (bl s) k).2.2, (stAt (bl s) k).1.2 + -(stAt (bl s) k).2.1), ((stAt (bl s) k).2.2, -(stAt (bl s) k).2.1))) := by
          show _ = _
          rw [stAt_succ _ _ (by rw [bl_length]; exact hlt), bl_getElem s k hlt]
          exact pstep_M _ hv
        have hcn : ∀ j u, [Value.int .i64 ((stAt (bl s) k).1.1 + (stAt (bl s) k).2.2), Value.int .i64 ((stAt (bl s) k).1.2 + -(stAt (bl s) k).2.1)][j]? = some u → ((wr.alloc (.cells #[.int .i64 (stAt (bl s) k).1.1, .int .i64 (stAt (bl s) k).1.2] 25)).alloc (.cells #[.int .i64 ((stAt (bl s) k).1.1 + (stAt (bl s) k).2.2), .int .i64 ((stAt (bl s) k).1.2 + -(stAt (bl s) k).2.1)] 25)).cell? ((⟨wr.heap.size + 1, 0, none⟩ : Addr).add j) = some u := by
          have := cells_new2 (wr.alloc (.cells #[.int .i64 (stAt (bl s) k).1.1, .int .i64 (stAt (bl s) k).1.2] 25)) (.int .i64 ((stAt (bl s) k).1.1 + (stAt (bl s) k).2.2)) (.int .i64 ((stAt (bl s) k).1.2 + -(stAt (bl s) k).2.1)) 25
          rwa [show (wr.alloc (.cells #[.int .i64 (stAt (bl s) k).1.1, .int .i64 (stAt (bl s) k).1.2] 25)).heap.size = wr.heap.size + 1 from by simp] at this
        have HCN := Lib.hid hcn
        clear hcn
        go_wp2_with (at_builtin; refine wpList_append_own _ rfl _ _ 38 rfl w.heap.size 25 i0 (.agg #[.int .i64 0, .int .i64 0]) 2 16 Try.underlying38 HI.out HZ0.out HZ1.out HZ2.out rfl (by decide) _ (k + 2) _ rfl ((hown.alloc _).alloc _) ⟨wr.heap.size + 1, 0, none⟩ 1 1 [.int .i64 ((stAt (bl s) k).1.1 + (stAt (bl s) k).2.2), .int .i64 ((stAt (bl s) k).1.2 + -(stAt (bl s) k).2.1)] rfl rfl HCN.out (by simp [Value.oneCell']) (by unfold maxLen; omega) (by omega) (by simp; omega) ?_; intro v' w3 hown3 hgr3 _; obtain ⟨g3, cap3, hv3, hg3, hl3⟩ := own_form hown3 (by omega); subst hv3)
        have HC : Hid (cellsP (placesTo (bl s) (k + 1)) = cellsP (placesTo (bl s) k) ++ [.int .i64 ((stAt (bl s) k).1.1 + (stAt (bl s) k).2.2), .int .i64 ((stAt (bl s) k).1.2 + -(stAt (bl s) k).2.1)]) := by
          show _ = _
          rw [placesTo_succ, cellsP_append, HST.out]
          rfl
        have hbel3 : Below w.heap.size w w3 := below_grown_at ((hbel.alloc hzr _).alloc (by simp; omega) _) hgr3 (by simp; omega) hg
        go_roundw
        case rel => exact ⟨k + 1, g3, cap3, by omega, by go_num, by go_num, by rw [HST.out], by rw [HST.out], by rw [HC.out]; exact hown3, hg3, hbel3⟩
        case measure => simp [intOf]; omega
    · obtain rfl : k = s.size := by omega
      go_wp2_with fail
      go_ret2
      refine ⟨g, cap, by rw [bl_length]; rfl, hg, ?_, hbel⟩
      rw [bl_length]
      unfold places
      rw [bl_length]
      exact hown
end Go.Proofs.Ytalbokejljjflaa
