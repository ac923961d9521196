/- The walk of the program's eachOrder (all orders of numbers, one by one, each handed to a function). Conditions: each theorem's own premises. -/
import Derived.Test.YtadpbbjahckoaaaStampI
namespace Go.Proofs.Ytadpbbjahckoaaa
set_option maxRecDepth 100000
open Go.RowKit
/-- A block of values of the call's own, that may be written. -/
def BufV (w : World) (g : Nat) (vs : List Value) : Prop := g < w.heap.size ∧ ∀ (j : Nat) (v : Value), vs[j]? = some v → w.cell? ⟨g, j, none⟩ = some v ∧ w.frozen? ⟨g, j, none⟩ = false
theorem BufV.keep {w w' : World} {g : Nat} {vs : List Value} (h : BufV w g vs) (hb : w'.heap[g]? = w.heap[g]?) : BufV w' g vs :=
  ⟨by
    have h1 := h.1
    rw [Array.getElem?_eq_getElem h1] at hb
    exact (Array.getElem?_eq_some_iff.1 hb).1, fun j v hv => ⟨(World.cell?_of_block (a := ⟨g, j, none⟩) hb).trans (h.2 j v hv).1, (World.frozen?_of_block (a := ⟨g, j, none⟩) hb).trans (h.2 j v hv).2⟩⟩
theorem BufV.set {w : World} {g : Nat} {vs : List Value} (h : BufV w g vs) (j : Nat) (u : Value) : BufV (w.setCell ⟨g, j, none⟩ u) g (vs.set j u) := by
  refine ⟨by simpa [World.setCell] using h.1, fun i v hv => ?_⟩
  have hi : i < vs.length := by have := (List.getElem?_eq_some_iff.1 hv).1; simpa using this
  obtain ⟨h1, h2⟩ := h.2 i _ (List.getElem?_eq_getElem hi)
  constructor
  · by_cases e : j = i
    · subst e
      rw [World.cell?_setCell_same _ _ _ h1]
      rw [List.getElem?_set_self hi] at hv
      exact hv
    · rw [World.cell?_setCell_other _ _ _ _ (by simp), h1]
      rw [List.getElem?_set_ne e, List.getElem?_eq_getElem hi] at hv
      exact hv
  · rw [World.frozen?_setCell]
    exact h2
/-- Which numbers are used. -/
def usedL (n : Nat) (b : List Int) : List Value := (List.range n).map fun (i : Nat) => Value.bool (b.contains (i : Int))
theorem usedL_length (n : Nat) (b : List Int) : (usedL n b).length = n := by unfold usedL; rw [List.length_map, List.length_range]
theorem usedL_get {n i : Nat} (b : List Int) (h : i < n) : (usedL n b)[i]? = some (.bool (b.contains (i : Int))) := by
  unfold usedL
  rw [List.getElem?_map, List.getElem?_range h]
  rfl
theorem contains_snoc (b : List Int) (x y : Int) : (b ++ [x]).contains y = (b.contains y || y == x) := by
  rw [Bool.eq_iff_iff, List.contains_iff_mem, List.mem_append, List.mem_singleton, Bool.or_eq_true, List.contains_iff_mem, beq_iff_eq]
theorem usedL_set (n i : Nat) (b : List Int) : (usedL n b).set i (.bool true) = usedL n (b ++ [(i : Int)]) := by
  refine List.ext_getElem? fun k => ?_
  by_cases hk : k < n
  · rw [usedL_get _ hk]
    by_cases e : i = k
    · subst e
      rw [List.getElem?_set_self (by rw [usedL_length]; exact hk), contains_snoc]
      simp
    · rw [List.getElem?_set_ne e, usedL_get _ hk, contains_snoc]
      have : ((k : Int) == (i : Int)) = false := by rw [beq_eq_false_iff_ne]; omega
      rw [this, Bool.or_false]
  · rw [List.getElem?_eq_none (by rw [List.length_set, usedL_length]; omega), List.getElem?_eq_none (by rw [usedL_length]; omega)]
theorem usedL_back {n i : Nat} {b : List Int} (h : b.contains (i : Int) = false) : (usedL n (b ++ [(i : Int)])).set i (.bool false) = usedL n b := by
  rw [← usedL_set, List.set_set]
  refine List.ext_getElem? fun k => ?_
  by_cases hk : k < n
  · by_cases e : i = k
    · subst e
      rw [List.getElem?_set_self (by rw [usedL_length]; exact hk), usedL_get _ hk, h]
    · rw [List.getElem?_set_ne e]
  · rw [List.getElem?_eq_none (by rw [List.length_set, usedL_length]; omega), List.getElem?_eq_none (by rw [usedL_length]; omega)]
/-- Only blocks g and u have been written; what is new is new. -/
structure But2 (g u : Nat) (w w' : World) : Prop where
  os : w'.os = w.os
  tape : w'.tape = w.tape
  output : w'.output = w.output
  size : w.heap.size ≤ w'.heap.size
  block : ∀ k, k < w.heap.size → k ≠ g → k ≠ u → w'.heap[k]? = w.heap[k]?
theorem But2.of_grown {g u q : Nat} {w w' : World} (h : w.grownBy w' (some q)) (hq : q = g ∨ q = u) : But2 g u w w' :=
  ⟨h.os, h.tape, h.output, h.size, fun k hk h1 h2 => h.block k hk (by intro e; have := Option.some.inj e; omega)⟩
theorem But2.alloc (g u : Nat) (w : World) (o : Obj) : But2 g u w (w.alloc o) := ⟨rfl, rfl, rfl, by simp, fun k hk _ _ => Below.heap_alloc w o k hk⟩
theorem But2.trans {g u : Nat} {a b c : World} (h : But2 g u a b) (k : But2 g u b c) : But2 g u a c :=
  ⟨k.os.trans h.os, k.tape.trans h.tape, k.output.trans h.output, Nat.le_trans h.size k.size, fun i hi h1 h2 => (k.block i (Nat.lt_of_lt_of_le hi h.size) h1 h2).trans (h.block i hi h1 h2)⟩
theorem But2.set {g u q : Nat} (w : World) (j : Nat) (v : Value) (hq : q = g ∨ q = u) : But2 g u w (w.setCell ⟨q, j, none⟩ v) :=
  ⟨rfl, rfl, rfl, by simp [World.setCell], fun k _ h1 h2 => Below.heap_setCell w _ v k (by show k ≠ q; omega)⟩
theorem ownsRow_less {w : World} {base g j k n : Nat} {e : TypeId} {xs : List Value} (h : w.ownsRow base e 1 (.slice (some ⟨g, 0, none⟩) k n) k xs) (hj : j ≤ k) : w.ownsRow base e 1 (.slice (some ⟨g, 0, none⟩) j n) j (xs.take j) := by
  obtain ⟨h1, h2⟩ := h
  refine ⟨by rw [List.length_take, h1]; omega, ?_⟩
  rcases h2 with ⟨h', _⟩ | ⟨g', cap', cur, h', r1, r2, r3, r4, r5, r6⟩
  · simp at h'
  · simp only [Value.slice.injEq, Option.some.injEq, Addr.mk.injEq, and_true, true_and] at h'
    obtain ⟨rfl, rfl⟩ := h'
    exact .inr ⟨g, n, cur, rfl, r1, r2, by omega, r4, r5, by rw [← r6, List.take_take, Nat.min_eq_left (by omega), Nat.mul_one]⟩
/-- How many of the orders that begin with b are right. -/
def manyB (ok : List Int → Bool) (n m : Nat) (b : List Int) : Nat := ((allL n m b).filter ok).length
def manyTo (ok : List Int → Bool) (n m : Nat) (b : List Int) (i : Nat) : Nat := ((allTo n m b i).filter ok).length
theorem manyTo_skip {ok : List Int → Bool} {n m i : Nat} {b : List Int} (h : b.contains (i : Int) = true) : manyTo ok n m b (i + 1) = manyTo ok n m b i := by unfold manyTo; rw [allTo_skip h]
theorem manyTo_add {ok : List Int → Bool} {n m i : Nat} {b : List Int} (h : b.contains (i : Int) = false) : manyTo ok n m b (i + 1) = manyTo ok n m b i + manyB ok n m (b ++ [(i : Int)]) := by
  unfold manyTo manyB
  rw [allTo_add h, List.filter_append, List.length_append]
set_option maxRecDepth 100000 in
set_option maxHeartbeats 4000000 in
theorem eachOrder (base n g u fv : Nat) (vb : Array Value) (ok : List Int → Bool) (C : Int → World → Prop) (hn : n ≤ 7) (hgu : g ≠ u)
    (hC : ∀ c w w', C c w → But2 g u w w' → C c w')
    (eg : ∀ args w, (callFunc fv args).run Try.prog w = .ok (.enter fv args) w)
    (hV : ∀ (b : List Int) (c : Int) (w : World), b.length = n → RowI w g b → u < w.heap.size → C c w → Calls Try.prog fv (#[.slice (some ⟨g, 0, none⟩) n n] ++ vb) w fun e w' => e = .returned (.bool true) ∧ C (c + if ok b then 1 else 0) w' ∧ w'.heap[g]? = w.heap[g]? ∧ w'.heap[u]? = w.heap[u]?) :
    ∀ (m j : Nat) (b : List Int) (c : Int) (w : World), b.length = j → j + m = n → w.ownsRow base 3 1 (.slice (some ⟨g, 0, none⟩) j n) j (b.map (Value.int .i64)) → BufV w u (usedL n b) → C c w →
      Calls Try.prog 70 #[.slice (some ⟨g, 0, none⟩) j n, .slice (some ⟨u, 0, none⟩) n n, .func (.func fv) #[] vb] w fun e w' => e = .returned (.bool true) ∧ C (c + manyB ok n m b) w' ∧
        w'.ownsRow base 3 1 (.slice (some ⟨g, 0, none⟩) j n) j (b.map (Value.int .i64)) ∧ BufV w' u (usedL n b)
  | 0, j, b, c, w, hb, hj, ho, hu, hc => by
    obtain rfl : j = n := by omega
    have CV := hV b c w hb (RowI.of_own ho).1 hu.1 hc
    have HCV := Lib.hid CV
    have HM : Hid (manyB ok j 0 b = if ok b then 1 else 0) := by
      show _ = _
      unfold manyB
      show (List.filter ok [b]).length = _
      rw [List.filter_cons, List.filter_nil]
      split <;> rfl
    have HO := Lib.hid ho
    have HU := Lib.hid hu
    have tq : ((j : Int) == (j : Int)) = true := beq_self_eq_true _
    clear ho hu hc hV CV hC
    go_enter Try.func70, Try.ntmps70
    go_wp2_with fail
    refine HCV.out.mono ?_
    rintro e w1 ⟨rfl, hc1, hg1, hu1⟩
    have HC1 := Lib.hid hc1
    have HO1 := Lib.hid (ownsRow_of_blk HO.out hg1)
    have HU1 := Lib.hid (HU.out.keep hu1)
    clear hc1 hg1 hu1
    go_wp2_with fail
    go_ret
    exact ⟨rfl, by rw [HM.out]; have h := HC1.out; split <;> simp_all, HO1.out, HU1.out⟩
  | m + 1, j, b, c, w, hb, hj, ho, hu, hc => by
    have IH := eachOrder base n g u fv vb ok C hn hgu hC eg hV m
    obtain ⟨i0, hi0, hz0, hz1, hz2⟩ := info_parts infoI
    have HI := Lib.hid hi0; have HZ1 := Lib.hid hz1
    have HIH := Lib.hid IH
    have HC := Lib.hid hC
    have HB := Lib.hid hb
    have HO := Lib.hid ho
    have HU := Lib.hid hu
    have HCC := Lib.hid hc
    have tq : ((j : Int) == (n : Int)) = false := by rw [beq_eq_false_iff_ne]; omega
    clear hi0 hz0 hz1 hz2 ho hu hc hV IH hC hb
    go_enter Try.func70, Try.ntmps70
    go_wp2_with fail
    go_loopw [19] (fun i wr => ∃ (q : Nat) (c' : Int), q ≤ n ∧ i = .int .i64 q ∧ Hid (c' = c + manyTo ok n m b q) ∧ Hid (C c' wr) ∧ Hid (wr.ownsRow base 3 1 (.slice (some ⟨g, 0, none⟩) j n) j (b.map (Value.int .i64))) ∧ Hid (BufV wr u (usedL n b))) (fun i _ => n - (intOf i).toNat)
    case atStart => exact ⟨0, c, Nat.zero_le _, rfl, Lib.hid (by unfold manyTo; rw [allTo_zero]; simp), HCC, HO, HU⟩
    case round =>
      obtain ⟨q, c', hq, rfl, HCE, HC1, HO1, HU1⟩ := hrel
      by_cases hlt : q < n
      · obtain ⟨d1, d2⟩ := HU1.out.2 q _ (usedL_get b hlt)
        have q0 : (0 : Int) ≤ (q : Int) := by omega
        have q1 : (q : Int) < (n : Int) := by omega
        cases hct : b.contains (q : Int) with
        | true =>
          rw [hct] at d1
          have HCE2 : Hid (c' = c + manyTo ok n m b (q + 1)) := by show _ = _; rw [manyTo_skip hct]; exact HCE.out
          clear hct
          go_wp2_with fail
          go_roundw
          case rel => exact ⟨q + 1, c', by omega, by go_num, HCE2, HC1, HO1, HU1⟩
          case measure => simp [intOf]; omega
        | false =>
          rw [hct] at d1
          have HCE2 : Hid (c' + manyB ok n m (b ++ [(q : Int)]) = c + manyTo ok n m b (q + 1)) := by
            show _ = _
            rw [manyTo_add hct, HCE.out, Int.natCast_add, Int.add_assoc]
          have HBK : Hid ((usedL n (b ++ [(q : Int)])).set q (.bool false) = usedL n b) := Lib.hid (usedL_back hct)
          have HUS := Lib.hid (HU1.out.set q (.bool true))
          have hog := (HO1.out.lt g rfl).2
          have HO2A : Hid (((wr.setCell ⟨u, q, none⟩ (.bool true)).alloc (.cells #[.int .i64 q] 3)).ownsRow base 3 1 (.slice (some ⟨g, 0, none⟩) j n) j (b.map (Value.int .i64))) := by
            show World.ownsRow _ _ _ _ _ _ _
            exact (ownsRow_of_blk HO1.out (Below.heap_setCell wr ⟨u, q, none⟩ (.bool true) g hgu)).alloc _
          have HCN : Hid (∀ jj uu, [Value.int .i64 (q : Int)][jj]? = some uu → ((wr.setCell ⟨u, q, none⟩ (.bool true)).alloc (.cells #[.int .i64 q] 3)).cell? ((⟨wr.heap.size, 0, none⟩ : Addr).add jj) = some uu) := by
            show ∀ _ _, _
            intro jj uu h
            have := cell_one_new (wr.setCell ⟨u, q, none⟩ (.bool true)) (.int .i64 (q : Int)) 3 jj uu h
            rwa [show (wr.setCell ⟨u, q, none⟩ (.bool true)).heap.size = wr.heap.size from by simp [World.setCell]] at this
          clear hct
          go_wp2_with (at_builtin; refine wpList_append_fits _ rfl _ _ 22 rfl base 3 i0 1 Try.underlying22 HI.out HZ1.out g j n _ rfl HO2A.out ⟨wr.heap.size, 0, none⟩ 1 1 [.int .i64 q] rfl rfl HCN.out (ints_oneCell .i64 [(q : Int)]) (by omega) ?_; intro w3 hown3 hgr3)
          have hb2 : But2 g u wr w3 := ((But2.set wr q (.bool true) (.inr rfl)).trans (But2.alloc g u _ _)).trans (But2.of_grown hgr3 (.inl rfl))
          have hu3 : BufV w3 u (usedL n (b ++ [(q : Int)])) := by
            rw [← usedL_set]
            refine HUS.out.keep ((hgr3.block u (by have := HUS.out.1; rw [World.size_alloc]; omega) (by intro e; exact hgu (Option.some.inj e).symm)).trans (Below.heap_alloc _ _ u HUS.out.1))
          have ho3 : w3.ownsRow base 3 1 (.slice (some ⟨g, 0, none⟩) (j + 1) n) (j + 1) ((b ++ [(q : Int)]).map (Value.int .i64)) := by
            rw [List.map_append]
            exact hown3
          have HC3 := Lib.hid (HC.out _ _ _ HC1.out hb2)
          have HU3 := Lib.hid hu3
          have HO3 := Lib.hid ho3
          clear hown3 hgr3 hb2 hu3 ho3 HO2A HCN HUS
          go_wp2_with fail
          refine (HIH.out (j + 1) (b ++ [(q : Int)]) c' w3 (by rw [List.length_append, HB.out]; rfl) (by omega) HO3.out HU3.out HC3.out).mono ?_
          rintro e w4 ⟨rfl, hc4, ho4, hu4⟩
          obtain ⟨f1, f2⟩ := hu4.2 q _ (usedL_get _ hlt)
          have HU4 : Hid (BufV (w4.setCell ⟨u, q, none⟩ (.bool false)) u (usedL n b)) := by
            show BufV _ _ _
            rw [← HBK.out]
            exact hu4.set q (.bool false)
          have HO4 : Hid ((w4.setCell ⟨u, q, none⟩ (.bool false)).ownsRow base 3 1 (.slice (some ⟨g, 0, none⟩) j n) j (b.map (Value.int .i64))) := by
            show World.ownsRow _ _ _ _ _ _ _
            have h1 := ownsRow_less (ownsRow_of_blk ho4 (Below.heap_setCell w4 ⟨u, q, none⟩ (.bool false) g hgu)) (j := j) (by omega)
            rw [List.map_append, List.take_append_of_le_length (by rw [List.length_map, HB.out]; exact Nat.le_refl _), List.take_of_length_le (by rw [List.length_map, HB.out]; exact Nat.le_refl _)] at h1
            exact h1
          have HC4 : Hid (C (c + manyTo ok n m b (q + 1)) (w4.setCell ⟨u, q, none⟩ (.bool false))) := by
            show C _ _
            rw [← HCE2.out]
            exact HC.out _ _ _ hc4 (But2.set w4 q (.bool false) (.inr rfl))
          clear hc4 ho4 hu4
          go_wp2_with fail
          go_roundw
          case rel => exact ⟨q + 1, _, by omega, by go_num, Lib.hid rfl, HC4, HO4, HU4⟩
          case measure => simp [intOf]; omega
      · obtain rfl : q = n := by omega
        have HC5 : Hid (C (c + manyB ok q (m + 1) b) wr) := by
          show C _ _
          have := HC1.out
          rw [HCE.out] at this
          exact this
        go_wp2_with fail
        go_ret
        exact ⟨rfl, HC5.out, HO1.out, HU1.out⟩
end Go.Proofs.Ytadpbbjahckoaaa
