/- The iterator over possible stacks at every number of stamps, and the walk of the program's StampMany. Conditions: each theorem's own premises. -/
import Derived.Test.YtadpbbjahckoaaaIterA
import Derived.Test.YtadpbbjahckoaaaStampJ
namespace Go.Proofs.Ytadpbbjahckoaaa
set_option maxRecDepth 100000
open Go.RowKit
attribute [local go_sem] Oper.semAt_some
theorem insertAt_length {l : List Int} {k : Nat} (h : k ≤ l.length) (x : Int) : (insertAt l k x).length = l.length + 1 := by
  unfold insertAt
  rw [List.length_append, List.length_append, List.length_take, List.length_drop, List.length_singleton]
  omega
theorem stacksL_length : ∀ (n : Nat), 1 ≤ n → ∀ l ∈ stacksL n, l.length = n
  | 0, h, _, _ => by omega
  | 1, _, l, hl => by
    have : l = [0] := List.mem_singleton.1 hl
    rw [this]
    rfl
  | n + 2, _, l, hl => by
    have hl' : l ∈ (stacksL (n + 1)).flatMap fun l => putTo (n + 2) l (n + 2) := hl
    obtain ⟨t, ht, hm⟩ := List.mem_flatMap.1 hl'
    have h1 := stacksL_length (n + 1) (by omega) t ht
    unfold putTo at hm
    obtain ⟨h2, _⟩ := List.mem_filter.1 hm
    obtain ⟨i, hi, rfl⟩ := List.mem_map.1 h2
    have := List.mem_range.1 hi
    rw [insertAt_length (by omega)]
    omega
theorem stacksL_many {n : Nat} (h : n ≤ 7) : (stacksL n).length ≤ 462 := by
  have e : n = 0 ∨ n = 1 ∨ n = 2 ∨ n = 3 ∨ n = 4 ∨ n = 5 ∨ n = 6 ∨ n = 7 := by omega
  rcases e with rfl | rfl | rfl | rfl | rfl | rfl | rfl | rfl
  all_goals decide +kernel
theorem stacksOf_seq : ∀ (n : Nat), n ≤ 7 → ∀ (w : World) (B : Nat), w.cell? ⟨B, 0, none⟩ = some (.int .i64 n) → SeqStk Try.prog 55 #[.pointer (some ⟨B, 0, none⟩)] (stacksL n) (fun k => k = B) w
  | 0, _, w, B, h => stacksOf1_one 0 (by omega) w B h
  | 1, _, w, B, h => stacksOf1_one 1 (by omega) w B h
  | n + 2, h7, w, B, h => stacksOf1_more (n + 2) (by omega) h7 (stacksL (n + 1)) (fun l hl => by rw [stacksL_length (n + 1) (by omega) l hl])
      (fun w B hB => stacksOf_seq (n + 1) (by omega) w B (by rw [hB]; congr 2; omega)) w B h
theorem stampsInRangeI (n : Int) (w : World) : Calls Try.prog 33 #[.int .i64 n] w fun e w' => e = .returned (.bool (inI n)) ∧ w = w' := by
  have HI : Hid (inI n = (decide (1 ≤ n) && decide (n ≤ 7))) := Lib.hid rfl
  go_enter Try.func33, Try.ntmps33
  by_cases h1 : 1 ≤ n
  · by_cases h2 : n ≤ 7
    · have HR : Hid (inI n = true) := by show _ = _; rw [HI.out, decide_eq_true h1, decide_eq_true h2]; rfl
      go_wp2
      go_ret
      exact ⟨ret_bool (by rw [HR.out]), rfl⟩
    · have HR : Hid (inI n = false) := by show _ = _; rw [HI.out, decide_eq_false h2, Bool.and_false]
      go_wp2
      go_ret
      exact ⟨ret_bool (by rw [HR.out]), rfl⟩
  · have HR : Hid (inI n = false) := by show _ = _; rw [HI.out, decide_eq_false h1]; rfl
    go_wp2
    go_ret
    exact ⟨ret_bool (by rw [HR.out]), rfl⟩
def implMany (n : Int) : Int := if inI n = true then ((stacksL n.toNat).length : Int) else -1
theorem putObj_below {B : Nat} {w A : World} {D : Nat} {o : Obj} (h : Below B w A) (hD : B ≤ D) (hA : B ≤ A.heap.size) : Below B w (A.putObj D o) :=
  h.grown (grownBy_putObj' A D o) hA (fun k e => by cases e; exact hD)
set_option maxRecDepth 100000 in
set_option maxHeartbeats 4000000 in
theorem implStampMany (n : Int) (w : World) : Calls Try.prog 17 #[.int .i64 n] w fun e w' => e = .returned (.int .i64 (implMany n)) ∧ Below w.heap.size w w' := by
  refine (callsIn_wide (n := 0)).1 ?_
  refine callsIn_of_wp_marks Try.func17 rfl trivial ?_ rfl
  simp only [Try.ntmps17, List.size_toArray, List.length_cons, List.length_nil, Nat.reduceAdd, Nat.reduceSub, Array.replicate_succ, Array.replicate_zero, List.push_toArray, List.append_toArray, List.nil_append, List.cons_append]
  gi_wp2
  refine ⟨trivial, rfl, (callsIn_wide.2 (stampsInRangeI n _)).mono ?_⟩
  rintro e w1 ⟨rfl, rfl⟩
  cases hi : inI n with
  | false =>
    have HR : Hid (implMany n = -1) := by show _ = _; unfold implMany; rw [if_neg (by rw [hi]; decide)]
    clear hi
    gi_wp2
    exact ⟨_, results_tmp rfl _ _ _, (by show Ending.returned (.int .i64 (-1)) = _; exact ret_int HR.out.symm), Below.refl _ _⟩
  | true =>
    obtain ⟨m, rfl, h1, h7⟩ := inI_nat hi
    have HR : Hid (implMany m = ((stacksL m).length : Int)) := by show _ = _; unfold implMany; rw [if_pos hi]; rfl
    clear hi
    gi_wp2
    refine ⟨trivial, rfl, (callsIn_wide.2 (stacksOf m _)).mono ?_⟩
    rintro e w1 ⟨rfl, rfl⟩
    gi_wp2
    obtain ⟨V, hV⟩ : ∃ V, V = (w.alloc (.cells #[.int .i64 0] 3)).alloc (.cells #[.int .i64 m] 3) := ⟨_, rfl⟩
    have hVz : V.heap.size = w.heap.size + 2 := by rw [hV]; simp
    have hVb : Below w.heap.size w V := by rw [hV]; exact ((Below.refl _ w).alloc (Nat.le_refl _) _).alloc (by simp) _
    have hVn : V.cell? ⟨w.heap.size + 1, 0, none⟩ = some (.int .i64 m) := by
      rw [hV]
      have := World.cell?_alloc_mark (w.alloc (.cells #[.int .i64 0] 3)) #[.int .i64 m] 3 (0, 0) 0
      rwa [World.size_alloc] at this
    have hVc : V.cell? ⟨w.heap.size, 0, none⟩ = some (.int .i64 0) ∧ V.frozen? ⟨w.heap.size, 0, none⟩ = false := by
      rw [hV]
      exact ⟨(World.cell?_of_block (a := ⟨w.heap.size, 0, none⟩) (Below.heap_alloc _ _ _ (by simp))).trans (World.cell?_alloc_mark w #[.int .i64 0] 3 (0, 0) 0), (World.frozen?_of_block (a := ⟨w.heap.size, 0, none⟩) (Below.heap_alloc _ _ _ (by simp))).trans (World.frozen?_alloc_mark w #[.int .i64 0] 3 0 0 0)⟩
    have HST := Lib.hid (stacksOf_seq m h7 V (w.heap.size + 1) hVn)
    rw [← hV]
    clear hVn hV
    have hlen : (stacksL m).length ≤ 462 := stacksL_many h7
    refine range_stk (gf := 55) (lb := #[.pointer (some ⟨w.heap.size + 1, 0, none⟩)]) rfl (enters_of Try.func55 (by kernel_rfl) rfl) HST.out (Below.refl _ _) rfl w.heap.size (by omega) (by omega)
      (fun pre q A => q = w.heap.size ∧ pre.length ≤ (stacksL m).length ∧ A.cell? ⟨w.heap.size, 0, none⟩ = some (.int .i64 pre.length) ∧ A.frozen? ⟨w.heap.size, 0, none⟩ = false ∧ Below w.heap.size w A)
      (fun pre q A C row ⟨h1, h2, h3, h4, h5⟩ hg hr => ⟨h1, h2, cell_kept h3 hg (fun r e => (hr r e).2), (frozen_kept h3 hg (fun r e => (hr r e).2)).trans h4, h5.grown hg h5.size (fun r e => by have := (hr r e).1; omega)⟩)
      ⟨rfl, Nat.zero_le _, hVc.1, hVc.2, hVb⟩
      (fun x => { tmps := #[.int .i64 m, undef, .int .i64 0, .pointer (some ⟨w.heap.size, 0, none⟩), .int .i64 m, .bool true, .bool false, .int .i64 m, .func (.func 55) #[] #[.pointer (some ⟨w.heap.size + 1, 0, none⟩)], x.v, undef, undef, undef], defers := [] }) ?assign ?body ?done
    case assign =>
      intro l' x A K hK
      gi_wp2
      first | exact hK | simpa using hK
    case body =>
      rintro l' pre q x A ⟨rfl, hl, hc, hf, hb⟩ hpre hx hcap hrow hxg hxq hqA hVA
      have hlt : pre.length < (stacksL m).length := (List.getElem?_eq_some_iff.1 hx).1
      have hw : IntKind.i64.wrap ((pre.length : Int) + 1) = (pre.length : Int) + 1 := by rw [IntKind.wrap_i64]; omega
      gi_wp2
      refine ⟨w.heap.size, ⟨rfl, by rw [List.length_append, List.length_singleton]; omega, ?_, ?_, hb.setCell (p := ⟨w.heap.size, 0, none⟩) (Nat.le_refl _) _⟩, .inl rfl, by simpa [World.setCell] using hqA, by simp [World.setCell], fun k _ _ hk => Below.heap_setCell _ _ _ k hk⟩
      · rw [List.length_append, List.length_singleton]
        refine (World.cell?_setCell_same _ _ _ hc).trans ?_
        congr 2
      · rw [World.frozen?_setCell]
        exact hf
    case done =>
      rintro D q rs A hD hrs ⟨_, _, hc, _, hb⟩ hK
      have hn : rs.length = (stacksL m).length := by rw [← hrs, List.length_map]
      rw [hn] at hc
      gi_wp2
      refine ⟨by simp, .inl ⟨_, _, rfl, run_takeDeferred hK, ?_⟩⟩
      exact ⟨_, results_tmp rfl _ _ _, (by show Ending.returned (.int .i64 ((stacksL m).length : Int)) = _; exact ret_int HR.out.symm), putObj_below hb (by omega) hb.size⟩
end Go.Proofs.Ytadpbbjahckoaaa
