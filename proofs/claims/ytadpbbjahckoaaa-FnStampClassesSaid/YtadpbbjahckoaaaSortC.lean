/- The walks of slices.Collect, slices.SortedFunc, sortedStacks and the program's StampNth. Conditions: each theorem's own premises. -/
import Derived.Test.YtadpbbjahckoaaaSortB
import Derived.Test.YtadpbbjahckoaaaSortL
import Derived.Test.YtadpbbjahckoaaaPlainM
namespace Go.Proofs.Ytadpbbjahckoaaa
open Go.RowKit Go.Shelf Go.Sort
open Go.Sort (SWO)
/-- One of these rows. -/
structure Of (rs : List RD) where
  r : RD
  mem : r ∈ rs
def ofAll (rs : List RD) : List (Of rs) := rs.attach.map fun x => ⟨x.1, x.2⟩
theorem ofAll_r (rs : List RD) : (ofAll rs).map Of.r = rs := by
  unfold ofAll
  rw [List.map_map]
  exact List.attach_map_subtype_val rs
theorem ofAll_length (rs : List RD) : (ofAll rs).length = rs.length := by unfold ofAll; rw [List.length_map, List.length_attach]
def Of.v {rs : List RD} (r : Of rs) : Value := r.1.v
def Of.cmp {rs : List RD} (a b : Of rs) : Int := cmpL a.1.xs b.1.xs
theorem of_swo (rs : List RD) : SWO (ltOf (Of.cmp (rs := rs))) where
  irrefl x := by
    unfold ltOf Of.cmp
    rw [cmpL_self]
    rfl
  trans x y z h k := by
    unfold ltOf Of.cmp at *
    rw [decide_eq_true_eq] at *
    exact cmpL_trans h k
  ntrans x y z h k := by
    unfold ltOf Of.cmp at *
    rw [decide_eq_false_iff_not] at *
    exact cmpL_ntrans h k
theorem sortWorld_grown {α : Type} [Inhabited α] (enc : α → Value) (w : World) (g n : Nat) (d : Array α) (os : Array Obj) : w.grownBy (sortWorld enc w g 0 n d os) (some g) := by
  refine ⟨rfl, rfl, rfl, by simp [sortWorld, grow, putRow, mapBlock, Sort.ahead], fun k hk hne => ?_⟩
  unfold sortWorld
  rw [heap_grow_old _ _ (by simpa using hk)]
  have : g ≠ k := fun e => hne (by rw [e])
  simp [putRow, mapBlock, Sort.ahead, Array.getElem?_modify, this]
/-- Lists have come back, sorted. -/
def SortedBack (w : World) (S : List (List Int)) (e : Ending) (w' : World) : Prop :=
  ∃ (rs : List RD) (G k cap : Nat), rs.map RD.xs = S ∧ rs.length = k ∧ e = .returned (.slice (some ⟨G, 0, none⟩) k cap) ∧
    (∀ (j : Nat) (r : RD), rs[j]? = some r → w'.cell? ⟨G, j, none⟩ = some r.v ∧ BufI w' r.g r.xs ∧ w.heap.size ≤ r.g ∧ r.cap = r.xs.length) ∧ Below w.heap.size w w'
set_option maxHeartbeats 1000000 in
theorem sortFunc {w w1 : World} {rs : List RD} {G cap : Nat} (hne : rs ≠ []) (hown : w1.ownsRow w.heap.size 22 1 (.slice (some ⟨G, 0, none⟩) rs.length cap) rs.length (rs.map RD.v)) (hrows : ∀ r ∈ rs, BufI w1 r.g r.xs ∧ r.g ≠ G ∧ w.heap.size ≤ r.g ∧ r.cap = r.xs.length) (hlen : rs.length ≤ 1000) (hx : ∀ r ∈ rs, r.xs.length ≤ 1000) (hb : Below w.heap.size w w1) :
    Calls Try.prog 68 #[.slice (some ⟨G, 0, none⟩) rs.length cap, .func (.func 40) #[] #[]] w1 fun e w' => e = .returned (.tuple #[]) ∧ ∃ rs' : List RD, rs'.Perm rs ∧ (rs'.map RD.xs).Pairwise (fun x y => ¬ cmpL y x < 0) ∧
      (∀ (j : Nat) (r : RD), rs'[j]? = some r → w'.cell? ⟨G, j, none⟩ = some r.v ∧ BufI w' r.g r.xs ∧ w.heap.size ≤ r.g ∧ r.cap = r.xs.length) ∧ Below w.heap.size w w' := by
  obtain ⟨r0, hr0⟩ : ∃ r, r ∈ rs := List.exists_mem_of_ne_nil _ hne
  have inh : Inhabited (Of rs) := ⟨⟨r0, hr0⟩⟩
  have hG := hown.lt G rfl
  obtain ⟨d, hd⟩ : ∃ d : Array (Of rs), d = (ofAll rs).toArray := ⟨_, rfl⟩
  have hds : d.size = rs.length := by rw [hd, List.size_toArray, ofAll_length]
  have hdv : d.toList.map Of.r = rs := by rw [hd]; exact ofAll_r rs
  have hH : Holds Of.v w1 G 0 d := fun j hj => by
    have hj' : j < rs.length := by omega
    have e1 : rs[j]? = some (d[j]!).1 := by
      have e2 : (d.toList.map Of.r)[j]? = some (d[j]!).1 := by
        rw [List.getElem?_map, Array.getElem?_toList, Array.getElem?_eq_getElem hj, getElem!_pos d j hj]
        rfl
      rwa [hdv] at e2
    rw [Nat.zero_add]
    exact ⟨ownI_at hown (by rw [List.getElem?_map, e1]; rfl), hown.frozenAt j⟩
  have hcmp : CmpLays1 Try.prog 40 #[] (Of.v (rs := rs)) Of.cmp G 0 d.size w1 := CmpReads.lays fun m os dk _ x y => by
    have hg := sortWorld_grown (Of.v (rs := rs)) w1 G m dk os
    obtain ⟨h1, h2, _⟩ := hrows x.1 x.2
    obtain ⟨h3, h4, _⟩ := hrows y.1 y.2
    have := slicesCompare x.1.g y.1.g x.1.xs.length y.1.xs.length x.1.cap y.1.cap x.1.xs y.1.xs _ rfl rfl (hx x.1 x.2) (h1.keep (hg.block _ h1.1 (fun e => h2 (Option.some.inj e)))).row (h3.keep (hg.block _ h3.1 (fun e => h4 (Option.some.inj e)))).row
    exact this.mono fun e w' ⟨he, hw⟩ => ⟨he, 0, hw.symm⟩
  have hcon := Any.slices_SortFunc sortK Of.v (fun _ => rfl) Of.cmp (of_swo rs) 40 #[] G 0 cap d w1 (enters_of Try.func40 (by kernel_rfl) rfl) hcmp hH hG.2 (by omega)
  change Calls Try.prog 68 _ _ _ at hcon
  rw [hds] at hcon
  refine hcon.mono ?_
  rintro e w2 ⟨rfl, d', n, os, hp, hs, rfl⟩
  refine ⟨rfl, d'.toList.map Of.r, ?_, ?_, ?_, ?_⟩
  · have h3 := hp.2.2
    rw [← hds, Array.extract_size] at h3
    have e1 : d'.extract 0 d.size = d' := by rw [← hp.1, Array.extract_size]
    rw [e1] at h3
    have := h3.map Of.r
    rwa [hdv] at this
  · rw [List.map_map, List.pairwise_map, List.pairwise_iff_getElem]
    intro i j hi hj hij
    have hi' : i < d'.size := by simpa using hi
    have hj' : j < d'.size := by simpa using hj
    have h3 := hs i j (Nat.zero_le _) hij (by rw [← hds, ← hp.1]; exact hj')
    unfold ltOf Of.cmp at h3
    rw [decide_eq_false_iff_not, getElem!_pos d' j hj', getElem!_pos d' i hi'] at h3
    simpa using h3
  · intro j r hr
    rw [List.getElem?_map, Array.getElem?_toList] at hr
    cases hj : d'[j]? with
    | none => rw [hj] at hr; cases hr
    | some x =>
      rw [hj] at hr
      have hr' : x.1 = r := Option.some.inj hr
      subst hr'
      obtain ⟨hjl, hje⟩ := Array.getElem?_eq_some_iff.1 hj
      have hHo := holds_sortWorld Of.v w1 G 0 n d d' os hG.2 hH hp.1
      obtain ⟨h1, h2, h3, h4⟩ := hrows x.1 x.2
      have hg := sortWorld_grown (Of.v (rs := rs)) w1 G n d' os
      refine ⟨?_, h1.keep (hg.block _ h1.1 (fun e => h2 (Option.some.inj e))), h3, h4⟩
      have := (hHo j hjl).1
      rw [Nat.zero_add, getElem!_pos d' j hjl, hje] at this
      exact this
  · exact hb.grown (sortWorld_grown _ _ _ _ _ _) hb.size (fun k e => by cases e; exact hG.1)
set_option maxHeartbeats 1000000 in
theorem collect (gf : Nat) (lb : Array Value) (Ks : List (List Int)) (keep : Nat → Prop) (w : World) (eg : ∀ args w, (callFunc gf args).run Try.prog w = .ok (.enter gf args) w) (hseq : SeqStk Try.prog gf lb Ks keep w) (hkeep : ∀ k, keep k → k < w.heap.size) (hlen : Ks.length ≤ 1000) (hne : Ks ≠ []) :
    Calls Try.prog 67 #[.func (.func gf) #[] lb] w (Collected w Ks) := by
  have HC := Lib.hid (appendSeq gf lb Ks keep w eg hseq hkeep hlen hne)
  clear hseq hkeep hlen hne
  go_enter Try.func67, Try.ntmps67
  go_wp2_with fail
  refine HC.out.mono ?_
  rintro e w1 ⟨rs, G, k, cap, h1, h2, rfl, h3, h4, h5⟩
  have H1 := Lib.hid h1
  have H2 := Lib.hid h2
  have H3 := Lib.hid h3
  have H4 := Lib.hid h4
  have H5 := Lib.hid h5
  clear h1 h2 h3 h4 h5
  go_wp2_with fail
  go_ret
  exact ⟨rs, G, k, cap, H1.out, H2.out, rfl, H3.out, H4.out, H5.out⟩
set_option maxHeartbeats 1000000 in
theorem sortedFunc (gf : Nat) (lb : Array Value) (Ks : List (List Int)) (keep : Nat → Prop) (w : World) (eg : ∀ args w, (callFunc gf args).run Try.prog w = .ok (.enter gf args) w) (hseq : SeqStk Try.prog gf lb Ks keep w) (hkeep : ∀ k, keep k → k < w.heap.size) (hlen : Ks.length ≤ 1000) (hne : Ks ≠ []) (hx : ∀ l ∈ Ks, l.length ≤ 1000) :
    Calls Try.prog 54 #[.func (.func gf) #[] lb, .func (.func 40) #[] #[]] w fun e w' => ∃ S : List (List Int), S.Perm Ks ∧ S.Pairwise (fun x y => ¬ cmpL y x < 0) ∧ SortedBack w S e w' := by
  have HC := Lib.hid (collect gf lb Ks keep w eg hseq hkeep hlen hne)
  have HX := Lib.hid hx
  have HL := Lib.hid hlen
  have HN := Lib.hid hne
  clear hseq hkeep hlen hne hx
  go_enter Try.func54, Try.ntmps54
  go_wp2_with fail
  refine HC.out.mono ?_
  rintro e w1 ⟨rs, G, k, cap, h1, h2, rfl, h3, h4, h5⟩
  subst h2
  have hrn : rs ≠ [] := fun e => HN.out (by rw [← h1, e]; rfl)
  have hrl : rs.length ≤ 1000 := by rw [← List.length_map (f := RD.xs), h1]; exact HL.out
  have HS := Lib.hid (sortFunc hrn h3 h4 hrl (fun r hr => HX.out r.xs (by rw [← h1]; exact List.mem_map_of_mem hr)) h5)
  have H1 := Lib.hid h1
  obtain ⟨N, hN⟩ : ∃ N, N = rs.length := ⟨_, rfl⟩
  have HNN := Lib.hid hN
  rw [← hN] at HS ⊢
  clear h1 h3 h4 h5 hrn hrl hN
  go_wp2_with fail
  refine HS.out.mono ?_
  rintro e w2 ⟨rfl, rs', hp, hs, hc, hb⟩
  have HP := Lib.hid hp
  have HSS := Lib.hid hs
  have HCC := Lib.hid hc
  have HB := Lib.hid hb
  clear hp hs hc hb
  go_wp2_with fail
  go_ret
  refine ⟨rs'.map RD.xs, ?_, HSS.out, rs', G, N, cap, rfl, by rw [HNN.out]; exact HP.out.length_eq, rfl, HCC.out, HB.out⟩
  rw [← H1.out]
  exact HP.out.map RD.xs
set_option maxHeartbeats 1000000 in
theorem sortedStacks (n : Nat) (h1 : 1 ≤ n) (h7 : n ≤ 7) (w : World) : Calls Try.prog 34 #[.int .i64 n] w (SortedBack w (stacksS n)) := by
  have C1 := fun w => stacksOf n w
  have hVn : (w.alloc (.cells #[.int .i64 n] 3)).cell? ⟨w.heap.size, 0, none⟩ = some (.int .i64 n) := World.cell?_alloc_mark w #[.int .i64 n] 3 (0, 0) 0
  have hlen := stacksL_many h7
  have C2 := sortedFunc 55 #[.pointer (some ⟨w.heap.size, 0, none⟩)] (stacksL n) (fun k => k = w.heap.size) (w.alloc (.cells #[.int .i64 n] 3)) (enters_of Try.func55 (by kernel_rfl) rfl) (stacksOf_seq n h7 _ w.heap.size hVn) (fun k hk => by rw [hk]; simp) (by omega)
    (fun e => by have h := stacks_pos h1 h7; rw [e] at h; simp at h)
    (fun l hl => by rw [stacksL_length n h1 l hl]; omega)
  have HC1 := Lib.hid C1
  have HC2 := Lib.hid C2
  clear C1 C2 hVn
  go_enter Try.func34, Try.ntmps34
  go_wp2_with fail
  refine (HC1.out _).mono ?_
  rintro e w1 ⟨rfl, rfl⟩
  go_wp2_with fail
  refine HC2.out.mono ?_
  rintro e w2 ⟨S, hp, hs, rs, G, k, cap, h2, h3, rfl, h4, h5⟩
  have HS := Lib.hid (sorted_stacks h1 hp (hs.imp fun {x y} h => (by omega)))
  have H2 := Lib.hid h2
  have H3 := Lib.hid h3
  have H4 := Lib.hid h4
  have H5 := Lib.hid h5
  clear hp hs h2 h3 h4 h5
  go_wp2_with fail
  go_ret
  refine ⟨rs, G, k, cap, by rw [H2.out, HS.out], H3.out, rfl, fun j r hr => ?_, ((RowKit.Below.refl _ w).alloc (Nat.le_refl _) _).trans (H5.out.mono (by simp))⟩
  obtain ⟨a1, a2, a3, a4⟩ := H4.out j r hr
  rw [World.size_alloc] at a3
  exact ⟨a1, a2, by omega, a4⟩
/-- A list and a word have come back, the list in a block of its own that may be written. -/
def NthBack (w : World) (ok : Bool) (xs : List Int) (e : Ending) (w' : World) : Prop :=
  RowKit.Below w.heap.size w w' ∧ ∃ g n cap : Nat, xs.length = n ∧ e = .returned (.tuple #[.slice (some ⟨g, 0, none⟩) n cap, .bool ok]) ∧ w.heap.size ≤ g ∧ BufI w' g xs
set_option maxHeartbeats 2000000 in
theorem implStampNthB (n r : Int) (w : World) : Calls Try.prog 9 #[.int .i64 n, .int .i64 r] w (NthBack w (nthI n r).isSome ((nthI n r).getD [])) := by
  have C1 := fun w => stampsInRangeI n w
  by_cases hbad : inI n = true ∧ 0 ≤ r
  · obtain ⟨hi, h0⟩ := hbad
    obtain ⟨m, rfl, h1, h7⟩ := inI_nat hi
    have HRN : Hid (nthI m r = (stacksS m)[r.toNat]?) := by
      show _ = _
      unfold nthI
      rw [if_pos ⟨hi, h0⟩]
      rfl
    rw [hi] at C1
    have HC1 := Lib.hid C1
    have HC2 := Lib.hid (fun w => sortedStacks m h1 h7 w)
    have hr0 : ¬ r < 0 := by omega
    have hml := stacks_len m h7
    clear C1 hi
    go_enter Try.func9, Try.ntmps9
    go_wp2_with fail
    refine (HC1.out _).mono ?_
    rintro e w1 ⟨rfl, rfl⟩
    go_wp2_with fail
    refine (HC2.out _).mono ?_
    rintro e w2 ⟨rs, G, K, cap, hx, hK, rfl, hc, hb⟩
    have hz2 := hb.size
    have HKS : Hid ((stacksS m).length = K) := by show _ = _; rw [← hx, List.length_map, hK]
    by_cases hrk : r < (K : Int)
    · obtain ⟨k, rfl⟩ : ∃ k : Nat, r = k := ⟨r.toNat, by omega⟩
      obtain ⟨x, hxk⟩ : ∃ x, rs[k]? = some x := ⟨_, List.getElem?_eq_getElem (by omega)⟩
      obtain ⟨c0, hrr, hrlo, _⟩ := hc k x hxk
      have hn : nthI m k = some x.xs := by
        rw [HRN.out, Int.toNat_natCast, ← hx, List.getElem?_map, hxk]
        rfl
      have HNN := Lib.hid hn
      have HRR := Lib.hid hrr
      have HB := Lib.hid hb
      have c1 : w2.cell? ⟨G, k, none⟩ = some (.slice (some ⟨x.g, 0, none⟩) x.xs.length x.cap) := c0
      clear c0
      obtain ⟨xn, hxn⟩ : ∃ a, a = x.xs.length := ⟨_, rfl⟩
      rw [← hxn] at c1
      have HXN := Lib.hid hxn
      have hkK : ¬ (K : Int) ≤ (k : Int) := by omega
      clear hx hK hc hxk hn hrr hxn hb
      go_wp2_with fail
      go_ret2
      rw [HNN.out]
      exact ⟨HB.out, _, _, _, HXN.out.symm, rfl, hrlo, HRR.out⟩
    · have hn : nthI m r = none := by rw [HRN.out, List.getElem?_eq_none (by rw [HKS.out]; omega)]
      have HNN := Lib.hid hn
      have HB := Lib.hid hb
      have hkK : (K : Int) ≤ r := by omega
      clear hx hK hc hn hb
      go_wp2_with fail
      go_ret2
      rw [HNN.out]
      exact ⟨HB.out.alloc hz2 _, _, 0, 0, rfl, rfl, hz2, ⟨by simp, fun i h => by simp at h⟩⟩
  · have hn : nthI n r = none := by unfold nthI; rw [if_neg hbad]
    have HNN := Lib.hid hn
    cases hi : inI n with
    | false =>
      rw [hi] at C1
      have HC1 := Lib.hid C1
      clear C1 hi hbad hn
      go_enter Try.func9, Try.ntmps9
      go_wp2_with fail
      refine (HC1.out _).mono ?_
      rintro e w1 ⟨rfl, rfl⟩
      go_wp2_with fail
      go_ret2
      rw [HNN.out]
      exact ⟨(RowKit.Below.refl _ _).alloc (Nat.le_refl _) _, _, 0, 0, rfl, rfl, Nat.le_refl _, ⟨by simp, fun i h => by simp at h⟩⟩
    | true =>
      have h0 : r < 0 := by
        apply Classical.byContradiction
        intro h
        exact hbad ⟨hi, by omega⟩
      rw [hi] at C1
      have HC1 := Lib.hid C1
      clear C1 hi hbad hn
      go_enter Try.func9, Try.ntmps9
      go_wp2_with fail
      refine (HC1.out _).mono ?_
      rintro e w1 ⟨rfl, rfl⟩
      go_wp2_with fail
      go_ret2
      rw [HNN.out]
      exact ⟨(RowKit.Below.refl _ _).alloc (Nat.le_refl _) _, _, 0, 0, rfl, rfl, Nat.le_refl _, ⟨by simp, fun i h => by simp at h⟩⟩
theorem implStampNth (n r : Int) (w : World) : Calls Try.prog 9 #[.int .i64 n, .int .i64 r] w (OverBack w (nthI n r).isSome ((nthI n r).getD [])) :=
  (implStampNthB n r w).mono fun _ _ ⟨h1, g, m, cap, h2, h3, h4, h5⟩ => ⟨h1, g, m, cap, h2, h3, h4, h5.row⟩
end Go.Proofs.Ytadpbbjahckoaaa
