/- The walks of the program's eachLayers, count and StripMany. Conditions: each theorem's own premises. -/
import Derived.Test.YtadpbbjahckoaaaOrder
import Derived.Test.YtadpbbjahckoaaaStripD
import Derived.Shelf.Abstract
namespace Go.Proofs.Ytadpbbjahckoaaa
set_option maxRecDepth 100000
open Go.RowKit
/-- Block F are parts laid flat, all of it below block L. -/
structure FS (w : World) (L F n : Nat) (pl : List Int) (fs : List Fd) : Prop where
  fl : F < L
  a : w.cell? ⟨F, 0, none⟩ = some (.int .i64 n)
  st : (w.cell? ⟨F, 2, none⟩ = some (.slice none 0 0) ∧ fs = []) ∨ ∃ gp cp gf N cf, gp < L ∧ gf < L ∧ w.cell? ⟨F, 1, none⟩ = some (.slice (some ⟨gp, 0, none⟩) (n + 1) cp) ∧ RowI w gp pl ∧
    w.cell? ⟨F, 2, none⟩ = some (.slice (some ⟨gf, 0, none⟩) N cf) ∧ RowF w gf fs ∧ fs.length = N ∧ N ≤ cf ∧ N ≤ 10
theorem FS.below {w w' : World} {L F n : Nat} {pl : List Int} {fs : List Fd} (h : FS w L F n pl fs) (hb : Below L w w') : FS w' L F n pl fs where
  fl := h.fl
  a := (hb.cell (p := ⟨F, 0, none⟩) h.fl).trans h.a
  st := by
    rcases h.st with ⟨h1, h2⟩ | ⟨gp, cp, gf, N, cf, h1, h2, h3, h4, h5, h6, h7⟩
    · exact .inl ⟨(hb.cell (p := ⟨F, 2, none⟩) h.fl).trans h1, h2⟩
    · exact .inr ⟨gp, cp, gf, N, cf, h1, h2, (hb.cell (p := ⟨F, 1, none⟩) h.fl).trans h3, h4.below hb h1, (hb.cell (p := ⟨F, 2, none⟩) h.fl).trans h5, h6.below hb h2, h7⟩
theorem rightFS {w : World} {L F n : Nat} {pl : List Int} {fs : List Fd} (h : FS w L F n pl fs) (hpl : pl.length = n + 1) (hn : n ≤ 10) (hin : ∀ f ∈ fs, f.a < n ∧ f.b < n) (g c : Nat) (l : List Int) (hl : l.length = n) (hr : RowI w g l) :
    Calls Try.prog 72 #[.pointer (some ⟨F, 0, none⟩), .slice (some ⟨g, 0, none⟩) n c] w fun e w' => e = .returned (.bool (rightL n pl fs l)) ∧ Below w.heap.size w w' := by
  rcases h.st with ⟨h1, h2⟩ | ⟨gp, cp, gf, N, cf, h1, h2, h3, h4, h5, h6, h7, h8, h9⟩
  · subst h2
    exact rightNil F g n c pl l w h.a h1 hl hr hn
  · exact right F gf gp N cf cp g n c fs pl l w h.a h3 h5 hl hr h7 h6 hpl h4 hn h9 h8 hin
theorem wrap_step (c : Int) : IntKind.i64.wrap (IntKind.i64.wrap c + 1) = IntKind.i64.wrap (c + 1) := by
  rw [IntKind.wrap_i64, IntKind.wrap_i64, IntKind.wrap_i64]
  omega
theorem count1 (M : Nat) (v : Value) (c : Int) (w : World) (hc : w.cell? ⟨M, 0, none⟩ = some (.int .i64 (IntKind.i64.wrap c))) (hf : w.frozen? ⟨M, 0, none⟩ = false) :
    Calls Try.prog 65 #[v, .pointer (some ⟨M, 0, none⟩)] w fun e w' => e = .returned (.bool true) ∧ w.setCell ⟨M, 0, none⟩ (.int .i64 (IntKind.i64.wrap (c + 1))) = w' := by
  have HW := Lib.hid (wrap_step c)
  obtain ⟨x, hx⟩ : ∃ x, x = IntKind.i64.wrap c := ⟨_, rfl⟩
  obtain ⟨y, hy⟩ : ∃ y, y = IntKind.i64.wrap (c + 1) := ⟨_, rfl⟩
  rw [← hx, ← hy] at HW
  rw [← hx] at hc
  rw [← hy]
  have hw := HW.out
  clear hx hy HW
  go_enter Try.func65, Try.ntmps65
  go_wp2
  go_ret
  exact ⟨rfl, rfl⟩
/-- What lies in memory while layers are counted. -/
structure CS (w0 : World) (L M b2 b3 F : Nat) (c : Int) (w : World) : Prop where
  bel : Below L w0 w
  many : w.cell? ⟨M, 0, none⟩ = some (.int .i64 (IntKind.i64.wrap c))
  free : w.frozen? ⟨M, 0, none⟩ = false
  flat : w.cell? ⟨b2, 0, none⟩ = some (.pointer (some ⟨F, 0, none⟩))
  fn : w.cell? ⟨b3, 0, none⟩ = some (.func (.func 65) #[] #[.pointer (some ⟨M, 0, none⟩)])
theorem CS.below {w0 : World} {L M b2 b3 F : Nat} {c : Int} {w w' : World} (h : CS w0 L M b2 b3 F c w) (hL : L ≤ w.heap.size) (hb : Below w.heap.size w w') : CS w0 L M b2 b3 F c w' :=
  ⟨h.bel.trans (hb.mono hL), (hb.cell (p := ⟨M, 0, none⟩) (World.block_lt_of_cell? w _ h.many)).trans h.many, (hb.frozen (p := ⟨M, 0, none⟩) (World.block_lt_of_cell? w _ h.many)).trans h.free,
    (hb.cell (p := ⟨b2, 0, none⟩) (World.block_lt_of_cell? w _ h.flat)).trans h.flat, (hb.cell (p := ⟨b3, 0, none⟩) (World.block_lt_of_cell? w _ h.fn)).trans h.fn⟩
theorem CS.but {w0 : World} {L M b2 b3 F g u : Nat} {c : Int} {w w' : World} (h : CS w0 L M b2 b3 F c w) (hL : L ≤ w.heap.size) (hg : L ≤ g) (hu : L ≤ u) (h1 : M ≠ g ∧ M ≠ u ∧ b2 ≠ g ∧ b2 ≠ u ∧ b3 ≠ g ∧ b3 ≠ u) (hb : But2 g u w w') : CS w0 L M b2 b3 F c w' :=
  ⟨⟨hb.os.trans h.bel.os, hb.tape.trans h.bel.tape, hb.output.trans h.bel.output, Nat.le_trans h.bel.size hb.size, fun k hk => (hb.block k (by omega) (by omega) (by omega)).trans (h.bel.block k hk)⟩,
    (World.cell?_of_block (a := ⟨M, 0, none⟩) (hb.block M (World.block_lt_of_cell? w _ h.many) h1.1 h1.2.1)).trans h.many, (World.frozen?_of_block (a := ⟨M, 0, none⟩) (hb.block M (World.block_lt_of_cell? w _ h.many) h1.1 h1.2.1)).trans h.free,
    (World.cell?_of_block (a := ⟨b2, 0, none⟩) (hb.block b2 (World.block_lt_of_cell? w _ h.flat) h1.2.2.1 h1.2.2.2.1)).trans h.flat, (World.cell?_of_block (a := ⟨b3, 0, none⟩) (hb.block b3 (World.block_lt_of_cell? w _ h.fn) h1.2.2.2.2.1 h1.2.2.2.2.2)).trans h.fn⟩
theorem CS.size {w0 : World} {L M b2 b3 F : Nat} {c : Int} {w : World} (h : CS w0 L M b2 b3 F c w) (hLM : L ≤ M) : L ≤ w.heap.size := by
  have := World.block_lt_of_cell? w _ h.many
  have e : (⟨M, 0, none⟩ : Addr).block = M := rfl
  omega
set_option maxRecDepth 100000 in
set_option maxHeartbeats 4000000 in
theorem eachLayers1 {w0 : World} {L M b2 b3 F n : Nat} {pl : List Int} {fs : List Fd} (hfs : FS w0 L F n pl fs) (hpl : pl.length = n + 1) (hn : n ≤ 10) (hin : ∀ f ∈ fs, f.a < n ∧ f.b < n) (hLM : L ≤ M) (h2 : M ≠ b2) (h3 : M ≠ b3)
    (g u k : Nat) (b : List Int) (c : Int) (w : World) (hb : b.length = n) (hr : RowI w g b) (hc : CS w0 L M b2 b3 F c w) (hMg : M ≠ g) (hMu : M ≠ u) (hu : u < w.heap.size) :
    Calls Try.prog 71 #[.slice (some ⟨g, 0, none⟩) n k, .pointer (some ⟨b2, 0, none⟩), .pointer (some ⟨b3, 0, none⟩)] w fun e w' => e = .returned (.bool true) ∧ CS w0 L M b2 b3 F (c + if rightL n pl fs b then 1 else 0) w' ∧ w'.heap[g]? = w.heap[g]? ∧ w'.heap[u]? = w.heap[u]? := by
  have C1 := rightFS (hfs.below hc.bel) hpl hn hin g k b hb hr
  have hLw := hc.size hLM
  have HC := Lib.hid hc
  have HGL := Lib.hid hr.1
  have HUL := Lib.hid hu
  have cf := hc.flat
  cases hR : rightL n pl fs b with
  | false =>
    rw [hR] at C1
    have HC1 := Lib.hid C1
    clear hc C1 hR hr hu
    go_enter Try.func71, Try.ntmps71
    go_wp2_with fail
    refine HC1.out.mono ?_
    rintro e w1 ⟨rfl, hb1⟩
    have HB1 := Lib.hid hb1
    clear hb1
    go_wp2_with fail
    go_ret
    refine ⟨rfl, ?_, HB1.out.block g HGL.out, HB1.out.block u HUL.out⟩
    have := HC.out.below hLw HB1.out
    simpa using this
  | true =>
    rw [hR] at C1
    have HC1 := Lib.hid C1
    clear hc C1 hR hr hu
    go_enter Try.func71, Try.ntmps71
    go_wp2_with fail
    refine HC1.out.mono ?_
    rintro e w1 ⟨rfl, hb1⟩
    have HB1 := Lib.hid hb1
    have hc1 := HC.out.below hLw hb1
    have cn := hc1.fn
    have HCC := Lib.hid hc1
    clear hb1 hc1
    go_wp2_with fail
    refine (count1 M _ c _ HCC.out.many HCC.out.free).mono ?_
    rintro e w2 ⟨rfl, rfl⟩
    go_wp2_with fail
    go_ret
    have h := HCC.out
    refine ⟨rfl, ⟨h.bel.setCell (p := ⟨M, 0, none⟩) hLM _, (World.cell?_setCell_same _ _ _ h.many).trans (by rw [IntKind.wrap_i64]; unfold wrap64; rfl), by rw [World.frozen?_setCell]; exact h.free, ?_, ?_⟩, ?_, ?_⟩
    · exact (World.cell?_setCell_other _ _ _ _ (by intro e; injection e; omega)).trans h.flat
    · exact (World.cell?_setCell_other _ _ _ _ (by intro e; injection e; omega)).trans h.fn
    · exact (Below.heap_setCell _ _ _ g (by show g ≠ M; omega)).trans (HB1.out.block g HGL.out)
    · exact (Below.heap_setCell _ _ _ u (by show u ≠ M; omega)).trans (HB1.out.block u HUL.out)
theorem infoB : (Try.prog.info? 4).map (fun i => (i.zero, i.size, i.bytes)) = some (some (.bool false), 1, 1) := by kernel_rfl
theorem usedL_nil (n : Nat) : usedL n [] = List.replicate n (.bool false) := by
  unfold usedL
  rw [show (fun (i : Nat) => Value.bool (([] : List Int).contains (i : Int))) = fun _ => Value.bool false from rfl, List.map_const', List.length_range]
theorem bufV_made {w : World} {base g n : Nat} {e : TypeId} (h : w.ownsRow base e 1 (.slice (some ⟨g, 0, none⟩) n n) n (madeCells (Value.bool false).cells (n * 1)).toList) : BufV w g (List.replicate n (.bool false)) := by
  have e1 : List.replicate n (Value.bool false) = (madeCells (Value.bool false).cells (n * 1)).toList := by
    rw [Nat.mul_one]
    exact (toList_madeCells_one _ _).symm
  rw [← e1] at h
  exact ⟨(h.lt g rfl).2, fun j v hv => ⟨ownI_at h hv, h.frozenAt j⟩⟩
theorem fs_of_fp {w1 w : World} {F gp n cp : Nat} {pl : List Int} {fs : List Fd} (h : FP w1 w F gp n cp pl fs) (h10 : fs.length ≤ 10) : FS w w.heap.size F n pl fs := by
  have hF : F < w.heap.size := World.block_lt_of_cell? w _ h.a
  obtain ⟨v, hv, hvf, hown⟩ := h.st
  refine ⟨hF, h.a, ?_⟩
  rcases hown.2 with ⟨rfl, h0⟩ | ⟨gf, cap, cur, rfl, hgf, _, hcap, _⟩
  · exact .inl ⟨hv, List.length_eq_zero_iff.1 h0⟩
  · exact .inr ⟨gp, cp, gf, fs.length, cap, by have := h.gl; omega, (hown.lt gf rfl).2, h.b, h.rp, hv, RowF.of_own hown, rfl, hcap, h10⟩
theorem wrap_small {K : Nat} (h : K ≤ 823543) : IntKind.i64.wrap (0 + (K : Int)) = (K : Int) := by
  rw [IntKind.wrap_i64]
  omega
theorem manyB_bd (ok : List Int → Bool) {n : Nat} (h : n ≤ 7) : manyB ok n n [] ≤ 823543 := Nat.le_trans (List.length_filter_le _ _) (Nat.le_trans (allL_length n h n []) (pow7 h))
set_option maxRecDepth 100000 in
set_option maxHeartbeats 4000000 in
theorem eachLayersC {w0 w : World} {M F n : Nat} {pl : List Int} {fs : List Fd} (hfs : FS w0 w0.heap.size F n pl fs) (hpl : pl.length = n + 1) (hn : n ≤ 6) (hin : ∀ f ∈ fs, f.a < n ∧ f.b < n) (hbel : Below w0.heap.size w0 w) (hM : M = w0.heap.size)
    (hm : w.cell? ⟨M, 0, none⟩ = some (.int .i64 0)) (hf : w.frozen? ⟨M, 0, none⟩ = false) :
    Calls Try.prog 64 #[.pointer (some ⟨F, 0, none⟩), .func (.func 65) #[] #[.pointer (some ⟨M, 0, none⟩)]] w fun e w' => e = .returned (.tuple #[]) ∧ Below w0.heap.size w0 w' ∧ w'.cell? ⟨M, 0, none⟩ = some (.int .i64 (manyB (rightL n pl fs) n n [])) := by
  obtain ⟨i0, hi0, hz0, hz1, hz2⟩ := info_parts infoI
  have HI := Lib.hid hi0; have HZ0 := Lib.hid hz0; have HZ1 := Lib.hid hz1; have HZ2 := Lib.hid hz2
  clear hi0 hz0 hz1 hz2
  obtain ⟨j0, hi0, hz0, hz1, hz2⟩ := info_parts infoB
  have HJ := Lib.hid hi0; have HY0 := Lib.hid hz0; have HY1 := Lib.hid hz1; have HY2 := Lib.hid hz2
  clear hi0 hz0 hz1 hz2
  have HFS := Lib.hid hfs
  have HBEL := Lib.hid hbel
  have HMM := Lib.hid hm
  have HMF := Lib.hid hf
  have hMl : M < w.heap.size := World.block_lt_of_cell? w _ hm
  have hFM : F < M := by rw [hM]; exact hfs.fl
  have ca : ∀ o, (w.alloc o).cell? ⟨F, 0, none⟩ = some (.int .i64 n) := fun o => (World.cell?_of_block (a := ⟨F, 0, none⟩) (Below.heap_alloc w o F (by omega))).trans ((hbel.cell (p := ⟨F, 0, none⟩) hfs.fl).trans hfs.a)
  have cb : ∀ o o', ((w.alloc o).alloc o').cell? ⟨F, 0, none⟩ = some (.int .i64 n) := fun o o' => (World.cell?_of_block (a := ⟨F, 0, none⟩) (Below.heap_alloc (w.alloc o) o' F (by simp; omega))).trans (ca o)
  have HMW := Lib.hid hM
  obtain ⟨V, hV⟩ : ∃ V, V = (w.alloc (.cells #[.pointer (some ⟨F, 0, none⟩)] 58)).alloc (.cells #[.func (.func 65) #[] #[.pointer (some ⟨M, 0, none⟩)]] 32) := ⟨_, rfl⟩
  have hVz : V.heap.size = w.heap.size + 2 := by rw [hV]; simp
  have hVb : Below w.heap.size w V := by rw [hV]; exact ((Below.refl _ w).alloc (Nat.le_refl _) _).alloc (by simp) _
  have hV1 : V.cell? ⟨w.heap.size + 1, 0, none⟩ = some (.func (.func 65) #[] #[.pointer (some ⟨M, 0, none⟩)]) := by
    rw [hV]
    have := World.cell?_alloc_mark (w.alloc (.cells #[.pointer (some ⟨F, 0, none⟩)] 58)) #[.func (.func 65) #[] #[.pointer (some ⟨M, 0, none⟩)]] 32 (0, 0) 0
    rwa [World.size_alloc] at this
  have hV0 : V.cell? ⟨w.heap.size, 0, none⟩ = some (.pointer (some ⟨F, 0, none⟩)) := by
    rw [hV]
    exact (World.cell?_of_block (a := ⟨w.heap.size, 0, none⟩) (Below.heap_alloc _ _ _ (by simp))).trans (World.cell?_alloc_mark w #[.pointer (some ⟨F, 0, none⟩)] 58 (0, 0) 0)
  have HV : Hid (∀ w', V.grownBy w' none → w'.cell? ⟨w.heap.size, 0, none⟩ = some (.pointer (some ⟨F, 0, none⟩)) ∧ w'.cell? ⟨w.heap.size + 1, 0, none⟩ = some (.func (.func 65) #[] #[.pointer (some ⟨M, 0, none⟩)]) ∧ w'.cell? ⟨F, 0, none⟩ = some (.int .i64 n) ∧ Below w.heap.size w w' ∧ w.heap.size + 2 ≤ w'.heap.size) :=
    Lib.hid fun w' hg => ⟨(World.cell?_of_block (a := ⟨w.heap.size, 0, none⟩) (hg.block w.heap.size (by omega) (by intro e; cases e))).trans hV0, (World.cell?_of_block (a := ⟨w.heap.size + 1, 0, none⟩) (hg.block (w.heap.size + 1) (by omega) (by intro e; cases e))).trans hV1,
      (World.cell?_of_block (a := ⟨F, 0, none⟩) (hg.block F (by omega) (by intro e; cases e))).trans ((hVb.cell (p := ⟨F, 0, none⟩) (by show F < _; omega)).trans ((hbel.cell (p := ⟨F, 0, none⟩) hfs.fl).trans hfs.a)), hVb.grown hg (by omega) (by intro k e; cases e), by have := hg.size; omega⟩
  rw [hV] at HV
  clear hV0 hV1 hVb hVz hV
  clear hfs hbel hm hf hM
  go_enter Try.func64, Try.ntmps64
  go_wp2_with (first
    | (refine wpList_make_own _ rfl _ _ 22 rfl w.heap.size 3 i0 (.int .i64 0) 1 Try.underlying22 HI.out HZ0.out HZ1.out .i64 .i64 n n rfl rfl rfl (by rw [HZ2.out]; omega) (by unfold maxLen; omega) (by simp; omega) ?_; intro w2 hown2 hgr2; obtain ⟨e1, e2, e3, e4, e5⟩ := HV.out w2 hgr2; have HE2 := Lib.hid e2; clear e2)
    | (refine wpList_make_full _ rfl _ _ 78 rfl w.heap.size 4 j0 (.bool false) 1 Try.underlying78 HJ.out HY0.out HY1.out .i64 .i64 _ _ n rfl rfl rfl rfl (by rw [HY2.out]; omega) (by unfold maxLen; omega) (by omega) ?_; intro w3 hown3 hgr3))
  have hw3 : Below w2.heap.size w2 w3 := (Below.refl _ w2).grown hgr3 (Nat.le_refl _) (by intro k e; cases e)
  have hz3 := hw3.size
  have ho2 : w2.ownsRow w.heap.size 3 1 (.slice (some ⟨w.heap.size + 1 + 1, 0, none⟩) 0 n) 0 [] := by simpa using hown2
  have ho3 := ownsRow_of_blk ho2 (hw3.block _ (ho2.lt _ rfl).2)
  have hu3 : BufV w3 w2.heap.size (usedL n []) := by rw [usedL_nil]; exact bufV_made hown3
  have hcs : CS w0 w0.heap.size M w.heap.size (w.heap.size + 1) F 0 w3 := by
    have hww : Below w.heap.size w w3 := e4.trans (hw3.mono (by omega))
    have hLw : w0.heap.size ≤ w.heap.size := HBEL.out.size
    exact ⟨HBEL.out.trans (hww.mono hLw), (hww.cell (p := ⟨M, 0, none⟩) hMl).trans HMM.out, (hww.frozen (p := ⟨M, 0, none⟩) hMl).trans HMF.out, (hw3.cell (p := ⟨w.heap.size, 0, none⟩) (by show w.heap.size < _; omega)).trans e1, (hw3.cell (p := ⟨w.heap.size + 1, 0, none⟩) (by show w.heap.size + 1 < _; omega)).trans HE2.out⟩
  have HO3 := Lib.hid ho3
  have HU3 := Lib.hid hu3
  have HCS := Lib.hid hcs
  have HHC : Hid (∀ (c : Int) (wx wy : World), CS w0 w0.heap.size M w.heap.size (w.heap.size + 1) F c wx → But2 (w.heap.size + 1 + 1) w2.heap.size wx wy → CS w0 w0.heap.size M w.heap.size (w.heap.size + 1) F c wy) := by
    show ∀ _ _ _, _
    intro c wx wy h hb
    have h0 := HMW.out
    have h1 := HBEL.out.size
    exact h.but (h.size (by omega)) (by omega) (by omega) (by omega) hb
  have HHV : Hid (∀ (b : List Int) (c : Int) (wx : World), b.length = n → RowI wx (w.heap.size + 1 + 1) b → w2.heap.size < wx.heap.size → CS w0 w0.heap.size M w.heap.size (w.heap.size + 1) F c wx → Calls Try.prog 71 (#[.slice (some ⟨w.heap.size + 1 + 1, 0, none⟩) n n] ++ #[.pointer (some ⟨w.heap.size, 0, none⟩), .pointer (some ⟨w.heap.size + 1, 0, none⟩)]) wx fun e w' => e = .returned (.bool true) ∧ CS w0 w0.heap.size M w.heap.size (w.heap.size + 1) F (c + if rightL n pl fs b then 1 else 0) w' ∧ w'.heap[w.heap.size + 1 + 1]? = wx.heap[w.heap.size + 1 + 1]? ∧ w'.heap[w2.heap.size]? = wx.heap[w2.heap.size]?) := by
    show ∀ _ _ _, _
    intro b c wx hb hr hu hc
    have h0 := HMW.out
    exact eachLayers1 HFS.out hpl (by omega) hin (by omega) (by omega) (by omega) _ _ n b c wx hb hr hc (by omega) (by omega) hu
  have hGU : w.heap.size + 1 + 1 < w2.heap.size := (ho2.lt _ rfl).2
  clear hown2 hown3 hgr2 hgr3 hw3 ho2 ho3 hu3 hcs ca cb e1 e3 e4 HE2 HV
  refine (eachOrder w.heap.size n (w.heap.size + 1 + 1) w2.heap.size 71 #[.pointer (some ⟨w.heap.size, 0, none⟩), .pointer (some ⟨w.heap.size + 1, 0, none⟩)] (rightL n pl fs) (CS w0 w0.heap.size M w.heap.size (w.heap.size + 1) F) (by omega) (by omega) HHC.out (enters_of Try.func71 (by kernel_rfl) rfl) HHV.out n 0 [] 0 w3 rfl (by omega) HO3.out HU3.out HCS.out).mono ?_
  rintro e w4 ⟨rfl, hc4, ho4, hu4⟩
  have HC4 := Lib.hid hc4
  clear hc4 ho4 hu4
  go_wp2_with fail
  go_end0
  refine ⟨rfl, HC4.out.bel, HC4.out.many.trans ?_⟩
  rw [wrap_small (manyB_bd (rightL n pl fs) (by omega))]
set_option maxRecDepth 100000 in
set_option maxHeartbeats 4000000 in
theorem countC {w : World} {F n : Nat} {pl : List Int} {fs : List Fd} (hfs : FS w w.heap.size F n pl fs) (hpl : pl.length = n + 1) (hn : n ≤ 6) (hin : ∀ f ∈ fs, f.a < n ∧ f.b < n) :
    Calls Try.prog 51 #[.pointer (some ⟨F, 0, none⟩)] w fun e w' => e = .returned (.int .i64 (manyB (rightL n pl fs) n n [])) ∧ Below w.heap.size w w' := by
  have CE : Calls Try.prog 64 #[.pointer (some ⟨F, 0, none⟩), .func (.func 65) #[] #[.pointer (some ⟨w.heap.size, 0, none⟩)]] (w.alloc (.cells #[.int .i64 0] 3)) fun e w' => e = .returned (.tuple #[]) ∧ Below w.heap.size w w' ∧ w'.cell? ⟨w.heap.size, 0, none⟩ = some (.int .i64 (manyB (rightL n pl fs) n n [])) :=
    eachLayersC hfs hpl hn hin ((Below.refl _ w).alloc (Nat.le_refl _) _) rfl (World.cell?_alloc_mark w #[.int .i64 0] 3 (0, 0) 0) (World.frozen?_alloc_mark w #[.int .i64 0] 3 0 0 0)
  have HCE := Lib.hid CE
  clear CE hfs hpl hin
  obtain ⟨K, hK⟩ : ∃ K, K = manyB (rightL n pl fs) n n [] := ⟨_, rfl⟩
  rw [← hK] at HCE ⊢
  clear hK
  go_enter Try.func51, Try.ntmps51
  go_wp2_with fail
  refine HCE.out.mono ?_
  rintro e w1 ⟨rfl, hb1, hc1⟩
  have HB1 := Lib.hid hb1
  clear hb1
  go_wp2_with fail
  go_ret
  exact ⟨rfl, HB1.out⟩
/-- How many right layers a strip has. -/
def stripMany (l : List Int) (bs : List UInt8) : Nat := manyB (rightL l.length (placesL l) (foldsTo (placesL l) bs bs.length)) l.length l.length []
set_option maxRecDepth 100000 in
set_option maxHeartbeats 4000000 in
theorem implStripMany (g n c : Nat) (l : List Int) (s : ByteArray) (w : World) (hl : l.length = n) (hok : stripOk l (bl s) = true) (hr : RowI w g l) (hs : s.size ≤ 1048576) :
    Calls Try.prog 29 #[.slice (some ⟨g, 0, none⟩) n c, .string s] w fun e w' => e = .returned (.int .i64 (stripMany l (bl s))) ∧ Below w.heap.size w w' := by
  have hok1 : lensOk l = true := by
    unfold stripOk at hok
    rw [Bool.and_eq_true] at hok
    exact hok.1
  have hok2 : s.size + 1 = n := by
    have h1 := (lensOk_len hok1).1
    have h2 := hok
    unfold stripOk foldsOk at h2
    rw [Bool.and_eq_true, Bool.and_eq_true, decide_eq_true_eq, bl_length] at h2
    have := h2.2.2
    omega
  have hn6 : n ≤ 6 := by have := lensOk_len hok1; omega
  have C1 := fun w (h : RowI w g l) => stripValid g n c l s w hl (by omega) hs h
  have C2 := fun w (h : RowI w g l) => flatStrip g n c l s w hl hok1 h hok2
  rw [hok] at C1
  have HC1 := Lib.hid C1
  have HC2 := Lib.hid C2
  have HR := Lib.hid hr
  have hpl : (placesL l).length = n + 1 := by rw [placesL_length, hl]
  have HPL := Lib.hid hpl
  have HSM : Hid (stripMany l (bl s) = manyB (rightL n (placesL l) (foldsTo (placesL l) (bl s) s.size)) n n []) := by show _ = _; unfold stripMany; rw [hl, bl_length]
  clear C1 C2 hok hok1 hr hl hpl
  go_enter Try.func29, Try.ntmps29
  go_wp2_with fail
  refine (HC1.out _ HR.out).mono ?_
  rintro e w1 ⟨rfl, rfl⟩
  go_wp2_with fail
  refine (HC2.out _ HR.out).mono ?_
  rintro e w2 ⟨w3, F, gp, cp, rfl, hfp, hb2⟩
  have hz2 := hb2.size
  have hlen := foldsTo_length (placesL l) (bl s) s.size
  have CC := countC (fs_of_fp hfp (by omega)) HPL.out hn6 (fun f hf => by
    have := foldsTo_mem hf
    omega)
  have HCC := Lib.hid CC
  have HB2 := Lib.hid hb2
  clear CC hfp hlen hb2
  go_wp2_with fail
  refine HCC.out.mono ?_
  rintro e w4 ⟨rfl, hb4⟩
  have HB4 := Lib.hid hb4
  clear hb4
  go_wp2_with fail
  go_ret
  exact ⟨ret_int (by rw [HSM.out]), HB2.out.trans (HB4.out.mono hz2)⟩
end Go.Proofs.Ytadpbbjahckoaaa
