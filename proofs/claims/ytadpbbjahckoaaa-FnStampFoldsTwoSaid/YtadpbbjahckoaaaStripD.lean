/- The walks of addFold, flatStrip and StripLayers of the program. Conditions: each theorem's own premises. -/
import Derived.Test.YtadpbbjahckoaaaStripC
import Derived.Deep.RegionLaw
import Derived.Deep.AppendLies
namespace Go.Proofs.Ytadpbbjahckoaaa
set_option maxRecDepth 100000
open Go.RowKit
theorem ownsF_of_block {w w' : World} {base g n cap size : Nat} {e : TypeId} {xs : List Value} (h : w.ownsRow base e size (.slice (some ⟨g, 0, none⟩) n cap) n xs) (hb : w'.heap[g]? = w.heap[g]?) : w'.ownsRow base e size (.slice (some ⟨g, 0, none⟩) n cap) n xs := by
  refine ⟨h.1, ?_⟩
  rcases h.2 with ⟨h', _⟩ | ⟨g', cap', cur, h', r1, r2, r⟩
  · simp at h'
  · simp only [Value.slice.injEq, Option.some.injEq, Addr.mk.injEq, and_true, true_and] at h'
    obtain ⟨rfl, rfl⟩ := h'
    exact .inr ⟨g, cap, cur, rfl, r1, hb.trans r2, r⟩
theorem cellsF_new4 (w : World) (a b c d : Value) (T : TypeId) : ∀ j u, [a, b, c, d][j]? = some u → (w.alloc (.cells #[a, b, c, d] T)).cell? ((⟨w.heap.size, 0, none⟩ : Addr).add j) = some u := by
  intro j u h
  have e : (⟨w.heap.size, 0, none⟩ : Addr).add j = ⟨w.heap.size, j, none⟩ := by
    unfold Addr.add
    by_cases h0 : j = 0
    · subst h0; rfl
    · simp [h0]
  rw [e]
  refine (World.cell?_alloc_mark w _ T (0, 0) j).trans ?_
  simpa using h
def cellsF : List Fd → List Value
  | [] => []
  | x :: r => .int .i64 x.a :: .int .i64 x.b :: .int .i64 x.p :: .bool x.h :: cellsF r
theorem cellsF_append : ∀ a b : List Fd, cellsF (a ++ b) = cellsF a ++ cellsF b
  | [], _ => rfl
  | p :: r, b => by
    show _ :: _ :: _ :: _ :: cellsF (r ++ b) = _
    rw [cellsF_append r b]
    rfl
theorem cellsF_get : ∀ (a : List Fd) (i : Nat) (p : Fd), a[i]? = some p → (cellsF a)[i * 4]? = some (.int .i64 p.a) ∧ (cellsF a)[i * 4 + 1]? = some (.int .i64 p.b) ∧ (cellsF a)[i * 4 + 2]? = some (.int .i64 p.p) ∧ (cellsF a)[i * 4 + 3]? = some (.bool p.h)
  | [], _, _, h => by simp at h
  | q :: r, 0, p, h => by
    have : q = p := by simpa using h
    subst this
    exact ⟨rfl, rfl, rfl, rfl⟩
  | q :: r, i + 1, p, h => by
    have := cellsF_get r i p (by simpa using h)
    rw [show (i + 1) * 4 = i * 4 + 1 + 1 + 1 + 1 from by omega]
    exact this
theorem ownF_at {w : World} {base n size g cap : Nat} {e : TypeId} {xs : List Value} (h : w.ownsRow base e size (.slice (some ⟨g, 0, none⟩) n cap) n xs) {j : Nat} {u : Value} (hj : xs[j]? = some u) : w.cell? ⟨g, j, none⟩ = some u := by
  have hl := (List.getElem?_eq_some_iff.1 hj).1
  have h1 := h.1
  rw [h.cellAt j (by omega)]
  exact hj
theorem RowF.of_own {w : World} {base g n cap : Nat} {e : TypeId} {a : List Fd} (h : w.ownsRow base e 4 (.slice (some ⟨g, 0, none⟩) n cap) n (cellsF a)) : RowF w g a :=
  ⟨(h.lt g rfl).2, fun k f hf => by
    obtain ⟨a1, a2, a3, a4⟩ := cellsF_get a k f hf
    exact ⟨ownF_at h a1, ownF_at h a2, ownF_at h a3, ownF_at h a4⟩⟩
theorem infoFold : (Try.prog.info? 76).map (fun i => (i.zero, i.size, i.bytes)) = some (some (.agg #[.int .i64 0, .int .i64 0, .int .i64 0, .bool false]), 4, 32) := by kernel_rfl
/-- Block F are parts laid flat, with these folds. -/
structure FP (w0 w : World) (F gp n cp : Nat) (pl : List Int) (fs : List Fd) : Prop where
  a : w.cell? ⟨F, 0, none⟩ = some (.int .i64 n)
  b : w.cell? ⟨F, 1, none⟩ = some (.slice (some ⟨gp, 0, none⟩) (n + 1) cp)
  fr : w.frozen? ⟨F, 2, none⟩ = false
  rp : RowI w gp pl
  gl : gp < F
  bl : Below F w0 w
  st : ∃ v, w.cell? ⟨F, 2, none⟩ = some v ∧ (v = .slice none 0 0 ∨ ∃ g cap, v = .slice (some ⟨g, 0, none⟩) fs.length cap) ∧ w.ownsRow (F + 1) 76 4 v fs.length (cellsF fs)
def foldAt (a b : Nat) (pl : List Int) (c : UInt8) : Fd := ⟨a, b, pl.getD b 0, ((c.toNat : Int) == 86) == ((a : Int) % 2 == 0)⟩
theorem fp_keep {w0 w w6 : World} {F gp n cp : Nat} {pl : List Int} {fs : List Fd} {v : Value} {o : Obj} (h : FP w0 w F gp n cp pl fs) (hv : w.cell? ⟨F, 2, none⟩ = some v) (hgr : (w.drew.alloc o).grownBy w6 v.ownBlock) :
    (∀ k, k ≤ F → w6.heap[k]? = w.heap[k]?) ∧ w.heap.size + 1 ≤ w6.heap.size ∧ F < w.heap.size := by
  have hF : F < w.heap.size := World.block_lt_of_cell? w _ h.a
  obtain ⟨v', hv', hv2, hown⟩ := h.st
  have e : v' = v := by rw [hv] at hv'; exact (Option.some.inj hv').symm
  subst e
  have hlo : ∀ g, v'.ownBlock = some g → F + 1 ≤ g := by
    intro g hg
    rcases hv2 with rfl | ⟨g', cap, rfl⟩
    · simp [Value.ownBlock] at hg
    · have : g' = g := Option.some.inj hg
      subst this
      exact (hown.lt g' rfl).1
  have s1 : (w.drew.alloc o).heap.size = w.heap.size + 1 := by
    show (w.alloc o).heap.size = _
    simp
  refine ⟨fun k hk => ?_, by rw [← s1]; exact hgr.size, hF⟩
  refine (hgr.block k (by rw [s1]; omega) (fun e => by have := hlo k e.symm; omega)).trans ?_
  show (w.alloc o).heap[k]? = _
  rw [Below.heap_alloc _ _ k (by omega)]
theorem fp_cell {w0 w w6 : World} {F gp n cp : Nat} {pl : List Int} {fs : List Fd} {v : Value} {o : Obj} (h : FP w0 w F gp n cp pl fs) (hv : w.cell? ⟨F, 2, none⟩ = some v) (hgr : (w.drew.alloc o).grownBy w6 v.ownBlock) :
    w6.cell? ⟨F, 2, none⟩ = some v ∧ w6.frozen? ⟨F, 2, none⟩ = false := by
  have hk := (fp_keep h hv hgr).1 F (Nat.le_refl _)
  exact ⟨(World.cell?_of_block (a := ⟨F, 2, none⟩) hk).trans hv, (World.frozen?_of_block (a := ⟨F, 2, none⟩) hk).trans h.fr⟩
theorem fp_step {w0 w w6 : World} {F gp n cp g6 cap6 a b : Nat} {Z : Int} {X : Bool} {pl : List Int} {fs : List Fd} {v : Value} {o : Obj} (h : FP w0 w F gp n cp pl fs) (hv : w.cell? ⟨F, 2, none⟩ = some v) (hgr : (w.drew.alloc o).grownBy w6 v.ownBlock)
    (hown6 : w6.ownsRow (F + 1) 76 4 (.slice (some ⟨g6, 0, none⟩) (fs.length + 1) cap6) (fs.length + 1) (cellsF fs ++ [.int .i64 a, .int .i64 b, .int .i64 Z, .bool X])) :
    FP w0 (w6.setCell ⟨F, 2, none⟩ (.slice (some ⟨g6, 0, none⟩) (fs.length + 1) cap6)) F gp n cp pl (fs ++ [⟨a, b, Z, X⟩]) := by
  obtain ⟨k1, k2, hF⟩ := fp_keep h hv hgr
  have hl6 := hown6.lt g6 rfl
  have hS := k1 F (Nat.le_refl _)
  have hsc : ∀ (a : Addr) (x : Value), a ≠ ⟨F, 2, none⟩ → (w6.setCell ⟨F, 2, none⟩ x).cell? a = w6.cell? a := fun a x ha => World.cell?_setCell_other w6 _ _ _ (Ne.symm ha)
  have hgp := h.gl
  have hbw := h.bl
  have hz := hbw.size
  have hb6 : Below F w0 w6 := ⟨hgr.os.trans hbw.os, hgr.tape.trans hbw.tape, hgr.output.trans hbw.output, by omega, fun k hk => (k1 k (by omega)).trans (hbw.block k hk)⟩
  refine ⟨(hsc _ _ (by simp)).trans ((World.cell?_of_block (a := ⟨F, 0, none⟩) hS).trans h.a), (hsc _ _ (by simp)).trans ((World.cell?_of_block (a := ⟨F, 1, none⟩) hS).trans h.b),
    by rw [World.frozen?_setCell]; exact (World.frozen?_of_block (a := ⟨F, 2, none⟩) hS).trans h.fr, ?_, hgp, hb6.setCell (Nat.le_refl _) _, ?_⟩
  · exact (h.rp.keep (k1 gp (by omega))).keep (Below.heap_setCell w6 ⟨F, 2, none⟩ _ gp (by show gp ≠ F; omega))
  · refine ⟨_, World.cell?_setCell_same _ _ _ ((World.cell?_of_block (a := ⟨F, 2, none⟩) hS).trans hv), .inr ⟨g6, cap6, by rw [List.length_append]; rfl⟩, ?_⟩
    have := ownsF_of_block hown6 (Below.heap_setCell w6 ⟨F, 2, none⟩ (.slice (some ⟨g6, 0, none⟩) (fs.length + 1) cap6) g6 (by show g6 ≠ F; omega))
    rw [List.length_append, cellsF_append]
    exact this
set_option maxRecDepth 100000 in
set_option maxHeartbeats 4000000 in
theorem addFold (w0 w : World) (F gp n cp a b : Nat) (pl : List Int) (fs : List Fd) (c : UInt8) (hp : FP w0 w F gp n cp pl fs) (hpl : pl.length = n + 1) (hb : b < n + 1) (_hn : n ≤ 10) (hfs : fs.length ≤ 10) :
    Calls Try.prog 63 #[.pointer (some ⟨F, 0, none⟩), .int .i64 a, .int .i64 b, .int .u8 c.toNat] w fun e w' => e = .returned (.tuple #[]) ∧ FP w0 w' F gp n cp pl (fs ++ [foldAt a b pl c]) := by
  obtain ⟨i0, hi0, hz0, hz1, hz2⟩ := info_parts infoFold
  have HI := Lib.hid hi0; have HZ0 := Lib.hid hz0; have HZ1 := Lib.hid hz1; have HZ2 := Lib.hid hz2
  clear hi0 hz0 hz1 hz2
  have HP := Lib.hid hp
  obtain ⟨v, hv, hvf, hown⟩ := hp.st
  have hbp := hp.b
  have hfr := hp.fr
  have hF : F < w.heap.size := World.block_lt_of_cell? w _ hbp
  have c1 := hp.rp.2 b _ (getD_some (by omega))
  obtain ⟨Z, hZ⟩ : ∃ Z, Z = pl.getD b 0 := ⟨_, rfl⟩
  rw [← hZ] at c1
  have HZ := Lib.hid hZ
  obtain ⟨X, hX⟩ : ∃ X, X = ((c.toNat : Int) == 86) := ⟨_, rfl⟩
  obtain ⟨Y, hY⟩ : ∃ Y, Y = ((a : Int) % 2 == 0) := ⟨_, rfl⟩
  have HX := Lib.hid hX
  have HY := Lib.hid hY
  have tx := hX.symm
  have ty : ((a : Int).tmod 2 == 0) = Y := by rw [Int.tmod_eq_emod_of_nonneg (by omega)]; exact hY.symm
  have n0 : (0 : Int) ≤ (b : Int) := by omega
  have n1 : (b : Int) < (n : Int) + 1 := by omega
  clear hp hZ hX hY hpl hb
  go_enter Try.func63, Try.ntmps63
  go_wp2_with fail
  go_region_law ((refine step_append_lies _ (by rfl) _ _ _ (by rfl) (F + 1) 76 i0 _ 4 32 Try.underlying68 HI.out HZ0.out HZ1.out HZ2.out rfl (by omega) v fs.length (cellsF fs) (by rfl) ((show w.drew.ownsRow _ _ _ _ _ _ from hown).alloc _) ⟨w.heap.size, 0, none⟩ 1 1 [.int .i64 a, .int .i64 b, .int .i64 Z, .bool (X == Y)] (by rfl) (by rfl) (cellsF_new4 _ _ _ _ _ _) (by simp [Value.oneCell']) (by omega) (by unfold maxLen; omega) (by omega) (by simp; omega) (w.heap.size + 1) (by simp) ?_; intro g6 cap6 w6 hown6 hgr6 hat6 hlt6; obtain ⟨d1, d2⟩ := fp_cell HP.out hv hgr6))
  all_goals
    go_wp2_with fail
    go_end0
    refine ⟨rfl, ?_⟩
    have := fp_step HP.out hv hgr6 hown6
    rw [HX.out, HY.out, HZ.out] at this
    exact this
/-- The folds of a strip, the first k of them. -/
def foldsTo (pl : List Int) (bs : List UInt8) (k : Nat) : List Fd := (List.range k).map fun i => foldAt i (i + 1) pl (bs.getD i 0)
theorem foldsTo_step (pl : List Int) (bs : List UInt8) (k : Nat) : foldsTo pl bs (k + 1) = foldsTo pl bs k ++ [foldAt k (k + 1) pl (bs.getD k 0)] := by
  unfold foldsTo
  rw [List.range_succ, List.map_append]
  rfl
theorem foldsTo_length (pl : List Int) (bs : List UInt8) (k : Nat) : (foldsTo pl bs k).length = k := by
  unfold foldsTo
  simp
theorem bl_getD (s : ByteArray) (k : Nat) (h : k < s.size) : (bl s).getD k 0 = s[k] := by
  have := bl_get s k h
  rw [List.getD_eq_getElem?_getD, this]
  rfl
theorem fp_start {w1 : World} {gp n cp T : Nat} {pl : List Int} (hr : RowI w1 gp pl) :
    FP w1 (w1.alloc (.cells #[.int .i64 n, .slice (some ⟨gp, 0, none⟩) (n + 1) cp, .slice none 0 0] T)) w1.heap.size gp n cp pl [] := by
  have hA : ∀ j, (w1.alloc (.cells #[.int .i64 n, .slice (some ⟨gp, 0, none⟩) (n + 1) cp, .slice none 0 0] T)).cell? ⟨w1.heap.size, j, none⟩ = (#[.int .i64 n, .slice (some ⟨gp, 0, none⟩) (n + 1) cp, .slice none 0 0] : Array Value)[j]? := fun j => World.cell?_alloc_mark w1 _ T (0, 0) j
  have hF : ∀ j, (w1.alloc (.cells #[.int .i64 n, .slice (some ⟨gp, 0, none⟩) (n + 1) cp, .slice none 0 0] T)).frozen? ⟨w1.heap.size, j, none⟩ = false := fun j => by
    have := World.frozen?_alloc_mark w1 #[.int .i64 n, .slice (some ⟨gp, 0, none⟩) (n + 1) cp, .slice none 0 0] T 0 0 j
    exact this.trans (by simp)
  exact ⟨hA 0, hA 1, hF 2, hr.keep (Below.heap_alloc w1 _ gp hr.1), hr.1, (Below.refl _ w1).alloc (Nat.le_refl _) _, .slice none 0 0, hA 2, .inl rfl, ⟨by simp [cellsF], .inl ⟨rfl, rfl⟩⟩⟩
set_option maxRecDepth 100000 in
set_option maxHeartbeats 4000000 in
theorem flatStrip (g n c : Nat) (l : List Int) (s : ByteArray) (w : World) (hl : l.length = n) (hok : lensOk l = true) (hr : RowI w g l) (hs : s.size + 1 = n) :
    Calls Try.prog 50 #[.slice (some ⟨g, 0, none⟩) n c, .string s] w fun e w' => ∃ (w1 : World) (F gp cp : Nat), e = .returned (.pointer (some ⟨F, 0, none⟩)) ∧ FP w1 w' F gp n cp (placesL l) (foldsTo (placesL l) (bl s) s.size) ∧ Below w.heap.size w w' := by
  have C1 := placesOf g n c l w hl hok hr
  have hok2 := lensOk_len hok
  have hn6 : n ≤ 6 := by omega
  have hpl : (placesL l).length = n + 1 := by rw [placesL_length, hl]
  have HC1 := Lib.hid C1
  have HPL := Lib.hid hpl
  clear C1 hl hok hr hok2 hpl
  go_enter Try.func50, Try.ntmps50
  go_wp2_with fail
  refine HC1.out.mono ?_
  rintro e w1 ⟨gp, m, cp, hm, rfl, hgp, hrp, hb1⟩
  rw [HPL.out] at hm
  subst hm
  have hgpl := hrp.1
  have HB1 := Lib.hid hb1
  have hz1 := hb1.size
  have HS : Hid (FP w1 (w1.alloc (.cells #[.int .i64 n, .slice (some ⟨gp, 0, none⟩) (n + 1) cp, .slice none 0 0] 70)) w1.heap.size gp n cp (placesL l) []) := fp_start hrp
  clear hrp hb1
  go_wp2_with fail
  go_loopw [6] (fun i wr => ∃ k : Nat, k ≤ s.size ∧ i = .int .i64 k ∧ Hid (FP w1 wr w1.heap.size gp n cp (placesL l) (foldsTo (placesL l) (bl s) k))) (fun i _ => s.size - (intOf i).toNat)
  case atStart => exact ⟨0, Nat.zero_le _, rfl, HS⟩
  case round =>
    obtain ⟨k, hk, rfl, HF⟩ := hrel
    by_cases hlt : k < s.size
    · have C2 := addFold w1 wr w1.heap.size gp n cp k (k + 1) (placesL l) _ s[k] HF.out HPL.out (by omega) (by omega) (by rw [foldsTo_length]; omega)
      rw [← bl_getD s k hlt, ← foldsTo_step, bl_getD s k hlt] at C2
      have HC2 := Lib.hid C2
      clear C2
      go_wp2_with fail
      refine HC2.out.mono ?_
      rintro e w2 ⟨rfl, hf2⟩
      have HF2 := Lib.hid hf2
      clear hf2
      go_wp2_with fail
      go_roundw
      case rel => exact ⟨k + 1, by omega, by go_num, HF2⟩
      case measure => simp [intOf]; omega
    · obtain rfl : k = s.size := by omega
      go_wp2_with fail
      go_ret
      exact ⟨w1, _, gp, cp, rfl, HF.out, HB1.out.trans (HF.out.bl.mono hz1)⟩
def layersOk (l : List Int) (bs : List UInt8) (ys : List Int) : Bool := stripOk l bs && rightL l.length (placesL l) (foldsTo (placesL l) bs bs.length) ys
theorem foldsTo_mem {pl : List Int} {bs : List UInt8} {k : Nat} {f : Fd} (h : f ∈ foldsTo pl bs k) : f.a < k + 1 ∧ f.b < k + 1 := by
  unfold foldsTo at h
  rw [List.mem_map] at h
  obtain ⟨i, h1, rfl⟩ := h
  have := List.mem_range.1 h1
  exact ⟨by show i < _; omega, by show i + 1 < _; omega⟩
end Go.Proofs.Ytadpbbjahckoaaa
