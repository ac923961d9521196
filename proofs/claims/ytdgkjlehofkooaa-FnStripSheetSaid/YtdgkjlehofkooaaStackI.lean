/- The walks of foldWidth and foldHeight of the program's sheet. Conditions: each theorem's own premises. -/
import Derived.Test.YtdgkjlehofkooaaStackH
namespace Go.Proofs.Ytdgkjlehofkooaa
set_option maxRecDepth 100000
open Go.RowKit
/-- The new stacks, n of them made, in block G. -/
structure FW (w wr : World) (G N n W : Nat) (F : Nat → Nat → List Cel) : Prop where
  b : Below w.heap.size w wr
  st : ∃ vs : List Value, wr.ownsRow w.heap.size 63 1 (.slice (some ⟨G, 0, none⟩) n N) n vs ∧ Os wr w.heap.size (fun k => k ≠ G) vs (fun i => F (i / W) (i % W))
theorem idx_lt {r c R C : Nat} (hr : r < R) (hc : c < C) : r * C + c < R * C := by
  have h := Nat.mul_le_mul_right C (Nat.succ_le_of_lt hr)
  rw [Nat.succ_mul] at h
  omega
theorem idx_div {r c C : Nat} (hc : c < C) : (r * C + c) / C = r := by rw [Nat.add_comm, Nat.add_mul_div_right _ _ (by omega), Nat.div_eq_of_lt hc, Nat.zero_add]
theorem idx_mod {r c C : Nat} (hc : c < C) : (r * C + c) % C = c := by rw [Nat.add_comm, Nat.add_mul_mod_self_right, Nat.mod_eq_of_lt hc]
/-- A stack of the sheet ahead of the fold, found. -/
theorem FS.at {w : World} {base S : Nat} {s : Sheet} (h : FS w base S s) : ∃ g n cap : Nat, n = s.R * s.C ∧ w.cell? ⟨S, 2, none⟩ = some (.slice (some ⟨g, 0, none⟩) n cap) ∧ g ≠ S ∧
    ∀ r c, r < s.R → c < s.C → ∃ ga ca : Nat, w.cell? ⟨g, r * s.C + c, none⟩ = some (.slice (some ⟨ga, 0, none⟩) (s.f r c).length ca) ∧ RowC w ga (s.f r c) := by
  obtain ⟨g, n, cap, vs, hn, h2, hg, _, ho, hs⟩ := h.st
  refine ⟨g, n, cap, hn, h2, hg, fun r c hr hc => ?_⟩
  have hl : vs.length = n := by have := ho.1; simpa using this
  have hx : vs[r * s.C + c]? = some (vs[r * s.C + c]'(by rw [hl, hn]; exact idx_lt hr hc)) := List.getElem?_eq_getElem _
  obtain ⟨ga, ca, hv, _, ho2⟩ := hs r c _ hr hc hx
  refine ⟨ga, ca, ?_, RowC.of_own ho2⟩
  rw [own_at ho hx, hv]
theorem below_pair {w wr w1 w2 : World} {o : Obj} (hb : Below w.heap.size w wr) (hb1 : Below wr.heap.size wr w1) (hb2 : Below (w1.alloc o).heap.size (w1.alloc o) w2) :
    Below w.heap.size w (w1.alloc o) ∧ Below w.heap.size w w2 ∧ Below wr.heap.size wr w2 ∧ wr.heap.size ≤ w1.heap.size ∧ w1.heap.size < w2.heap.size := by
  have z := hb.size
  have z1 := hb1.size
  have s1 : (w1.alloc o).heap.size = w1.heap.size + 1 := by simp
  have z2 : w1.heap.size + 1 ≤ w2.heap.size := by rw [← s1]; exact hb2.size
  have a1 := hb1.alloc (o := o) (by omega)
  have a2 := a1.trans (hb2.mono (by omega))
  exact ⟨hb.trans (a1.mono z), hb.trans (a2.mono z), a2, z1, by omega⟩
theorem joined_mid {w wr w1 w2 w3 : World} {G N n p : Nat} {vs : List Value} (hown : wr.ownsRow w.heap.size 63 1 (.slice (some ⟨G, 0, none⟩) n N) n vs) (hb2 : Below wr.heap.size wr w2) (hz : wr.heap.size ≤ w1.heap.size) (hp : p = w1.heap.size) (hgr : w2.grownBy w3 (some p)) :
    w3.ownsRow w.heap.size 63 1 (.slice (some ⟨G, 0, none⟩) n N) n vs := by
  have hl := (hown.lt G rfl).2
  have := hb2.size
  exact ownsRow_of_block hown ((hgr.block G (by omega) (by intro e; injection e; omega)).trans (hb2.block G hl))
theorem fw_step {w wr w1 w2 w3 w4 : World} {G N n W p g3 cap3 : Nat} {F : Nat → Nat → List Cel} {vs : List Value} {a : List Cel} {o : Obj} (hb : Below w.heap.size w wr) (hown : wr.ownsRow w.heap.size 63 1 (.slice (some ⟨G, 0, none⟩) n N) n vs) (hos : Os wr w.heap.size (fun k => k ≠ G) vs (fun i => F (i / W) (i % W)))
    (hb2 : Below wr.heap.size wr w2) (hz : wr.heap.size ≤ w1.heap.size) (hz2 : w1.heap.size < w2.heap.size) (hp : p = w1.heap.size) (hgr : w2.grownBy w3 (some p)) (ho3 : w3.ownsRow w2.heap.size 35 4 (.slice (some ⟨g3, 0, none⟩) a.length cap3) a.length (cellsC a)) (hg3 : w2.heap.size ≤ g3)
    (hgr4 : (w3.alloc o).grownBy w4 (some G)) (hown4 : w4.ownsRow w.heap.size 63 1 (.slice (some ⟨G, 0, none⟩) (n + 1) N) (n + 1) (vs ++ [.slice (some ⟨g3, 0, none⟩) a.length cap3])) (ha : a = F (n / W) (n % W)) :
    FW w w4 G N (n + 1) W F := by
  have hl := hown.lt G rfl
  have hzz := hb.size
  have hg3l := (ho3.lt g3 rfl).2
  have hz3 := hgr.size
  have s3 : (w3.alloc o).heap.size = w3.heap.size + 1 := by simp
  have k4 : ∀ k, k < w3.heap.size → k ≠ G → w4.heap[k]? = w3.heap[k]? := fun k h1 h2 => (hgr4.block k (by omega) (by intro e; injection e; omega)).trans (Below.heap_alloc w3 _ k h1)
  have k3 : ∀ k, k < w2.heap.size → k ≠ p → w3.heap[k]? = w2.heap[k]? := fun k h1 h2 => hgr.block k h1 (by intro e; injection e; omega)
  have hb24 : Below w.heap.size w w4 := by
    have hbw2 : Below w.heap.size w w2 := hb.trans (hb2.mono hzz)
    exact below_grown_at' ((below_grown_at' hbw2 hgr (by omega) (by omega)).alloc (by omega) _) hgr4 (by omega) hl.1
  refine ⟨hb24, _, hown4, Os.snoc ?_ ?_⟩
  · exact hos.keep fun k h1 h2 => ⟨(k4 k (by omega) h2).trans ((k3 k (by omega) (by omega)).trans (hb2.block k h1)), h2⟩
  · have hle : vs.length = n := by have := hown.1; simpa using this
    rw [hle]
    show StackO _ _ _ _ (F (n / W) (n % W))
    rw [← ha]
    exact ⟨g3, cap3, rfl, by show g3 ≠ G; omega, own_mono (ownsRow_of_block ho3 (k4 g3 hg3l (by omega))) (by omega)⟩
theorem fw_end {w wr : World} {base S G W R' C' j : Nat} {f F : Nat → Nat → List Cel} {s : Sheet} {x : Nat} (h : FS w base S s) (hF : FW w wr G (R' * C') (R' * C') W F) (hG : w.heap.size ≤ G) (hbase : base ≤ w.heap.size) (hW : W = C') (hf : f = F)
    (hj : (j = 1 ∧ x = C' ∧ s.R = R') ∨ (j = 0 ∧ x = R' ∧ s.C = C')) :
    FS ((wr.setCell ⟨S, 2, none⟩ (.slice (some ⟨G, 0, none⟩) (R' * C') (R' * C'))).setCell ⟨S, j, none⟩ (.int .i64 x)) base S ⟨R', C', f⟩ ∧
      w.grownBy ((wr.setCell ⟨S, 2, none⟩ (.slice (some ⟨G, 0, none⟩) (R' * C') (R' * C'))).setCell ⟨S, j, none⟩ (.int .i64 x)) (some S) := by
  subst hW hf
  obtain ⟨hb, vs, ho, hos⟩ := hF
  have hS : S < w.heap.size := World.block_lt_of_cell? w _ h.r
  obtain ⟨g0, n0, cap0, vs0, _, h2, _⟩ := h.st
  have c0 := (hb.cell (p := ⟨S, 0, none⟩) hS).trans h.r
  have c1 := (hb.cell (p := ⟨S, 1, none⟩) hS).trans h.c
  have c2 := (hb.cell (p := ⟨S, 2, none⟩) hS).trans h2
  have z0 := (hb.frozen (p := ⟨S, 0, none⟩) hS).trans h.f1
  have z1 := (hb.frozen (p := ⟨S, 1, none⟩) hS).trans h.f2
  have z2 := (hb.frozen (p := ⟨S, 2, none⟩) hS).trans h.f3
  obtain ⟨X, hX⟩ : ∃ X, X = wr.setCell ⟨S, 2, none⟩ (.slice (some ⟨G, 0, none⟩) (R' * W) (R' * W)) := ⟨_, rfl⟩
  have other : ∀ (Y : World) (a b : Nat) (v : Value), a ≠ b → (Y.setCell ⟨S, a, none⟩ v).cell? ⟨S, b, none⟩ = Y.cell? ⟨S, b, none⟩ := fun Y a b v hab =>
    World.cell?_setCell_other Y ⟨S, a, none⟩ ⟨S, b, none⟩ v (by intro h; injection h; exact hab (by assumption))
  have x0 : X.cell? ⟨S, 0, none⟩ = some (.int .i64 s.R) := by rw [hX, other _ _ _ _ (by omega)]; exact c0
  have x1 : X.cell? ⟨S, 1, none⟩ = some (.int .i64 s.C) := by rw [hX, other _ _ _ _ (by omega)]; exact c1
  have x2 : X.cell? ⟨S, 2, none⟩ = some (.slice (some ⟨G, 0, none⟩) (R' * W) (R' * W)) := by rw [hX]; exact World.cell?_setCell_same _ _ _ c2
  have hXk : ∀ k, k ≠ S → X.heap[k]? = wr.heap[k]? := fun k hk => by rw [hX]; exact Below.heap_setCell wr ⟨S, 2, none⟩ _ k hk
  have hgX : w.grownBy X (some S) := by rw [hX]; exact grown_setCell (grown_of_below hb (some S)) 2 _
  have hGl := ho.lt G rfl
  rw [← hX]
  have hfz : ∀ i, (X.setCell ⟨S, j, none⟩ (.int .i64 x)).frozen? ⟨S, i, none⟩ = wr.frozen? ⟨S, i, none⟩ := fun i => by rw [World.frozen?_setCell, hX, World.frozen?_setCell]
  have hk : ∀ k, k ≠ S → (X.setCell ⟨S, j, none⟩ (.int .i64 x)).heap[k]? = wr.heap[k]? := fun k hk => (Below.heap_setCell X ⟨S, j, none⟩ _ k hk).trans (hXk k hk)
  refine ⟨⟨?_, ?_, (hfz 0).trans z0, (hfz 1).trans z1, (hfz 2).trans z2, G, R' * W, R' * W, vs, rfl, ?_, by omega, by omega, own_mono (ownsRow_of_block ho (hk G (by omega))) hbase, fun r c u hr hc hu => ?_⟩, grown_setCell hgX j _⟩
  · rcases hj with ⟨rfl, rfl, e⟩ | ⟨rfl, rfl, e⟩
    · rw [other _ _ _ _ (by omega), x0, e]
    · exact World.cell?_setCell_same _ _ _ x0
  · rcases hj with ⟨rfl, rfl, e⟩ | ⟨rfl, rfl, e⟩
    · exact World.cell?_setCell_same _ _ _ x1
    · rw [other _ _ _ _ (by omega), x1, e]
  · rw [other _ _ _ _ (by omega)]
    exact x2
  · have hr : r < R' := hr
    have hc : c < W := hc
    have hu : vs[r * W + c]? = some u := hu
    obtain ⟨g1, cap1, h1, hq, ho1⟩ := hos _ u hu
    have ho1' : wr.ownsRow w.heap.size 35 4 (.slice (some ⟨g1, 0, none⟩) (f ((r * W + c) / W) ((r * W + c) % W)).length cap1) (f ((r * W + c) / W) ((r * W + c) % W)).length (cellsC (f ((r * W + c) / W) ((r * W + c) % W))) := ho1
    have h1' : u = .slice (some ⟨g1, 0, none⟩) (f ((r * W + c) / W) ((r * W + c) % W)).length cap1 := h1
    rw [idx_div hc, idx_mod hc] at ho1' h1'
    have := (ho1.lt g1 rfl).1
    exact ⟨g1, cap1, h1', by show g1 ≠ S; omega, own_mono (ownsRow_of_block ho1' (hk g1 (by omega))) hbase⟩
set_option maxRecDepth 100000 in
set_option maxHeartbeats 4000000 in
theorem foldWidth_walk (base S half R : Nat) (fst un : Bool) (f : Nat → Nat → List Cel) (w : World) (h : FS w base S ⟨R, 2 * half, f⟩) (h1 : 1 ≤ half) (h2 : half ≤ 16) (ho1 : 1 ≤ R) (ho2 : R ≤ 32) (hRC : R * half ≤ 32) (hl : ∀ r k, 1 ≤ (f r k).length ∧ (f r k).length ≤ 16) (hbase : base ≤ w.heap.size) :
    Calls Try.prog 56 #[.pointer (some ⟨S, 0, none⟩), .bool fst, .bool un] w fun e w' => e = .returned (.tuple #[]) ∧ FS w' base S ⟨R, half, foldW fst un half f⟩ ∧ w.grownBy w' (some S) := by
  obtain ⟨i0, hi0, hz0, hz1, hz2⟩ := info_parts infoLayers
  have HI := Lib.hid hi0; have HZ0 := Lib.hid hz0; have HZ1 := Lib.hid hz1; have HZ2 := Lib.hid hz2
  clear hi0 hz0 hz1 hz2
  have HF := Lib.hid h
  have HL := Lib.hid hl
  obtain ⟨g, n0, cap, hn0, s2, hgS, hat⟩ := h.at
  have HAT := Lib.hid hat
  have s0 := h.r
  have s1 := h.c
  simp only at s0 s1 hn0
  have hS := World.block_lt_of_cell? w _ s0
  have hS : S < w.heap.size := hS
  clear hat hl h
  obtain ⟨D, hD⟩ : ∃ D, D = 2 * half := ⟨_, rfl⟩
  obtain ⟨N, hN⟩ : ∃ N, N = R * half := ⟨_, rfl⟩
  rw [← hN] at hRC
  have HN : Hid (N = R * half) := hN
  have HN0 : Hid (n0 = R * (2 * half)) := hn0
  have HD : Hid (D = 2 * half) := hD
  rw [← hD] at s1
  have HS0 := Lib.hid s0
  have HS1 := Lib.hid s1
  have HS2 := Lib.hid s2
  have HE0 : Hid ((D : Int) / 2 = (half : Int)) := by show _ = _; omega
  have hD32 : D ≤ 32 := by omega
  have HNI : Hid ((R : Int) * (half : Int) = (N : Int)) := by show _ = _; rw [hN, Int.natCast_mul]
  have HNI2 : Hid (IntKind.i64.wrap ((R : Int) * (half : Int)) = (N : Int)) := by show _ = _; rw [HNI.out, IntKind.wrap_i64]; omega
  have HNI3 : Hid (IntKind.i64.wrap (N : Int) = (N : Int)) := by show _ = _; rw [IntKind.wrap_i64]; omega
  have hn64 : n0 ≤ 64 := by
    have e : R * (2 * half) = 2 * (R * half) := by first | exact Nat.mul_left_comm _ _ _ | exact Nat.mul_assoc _ _ _
    rw [HN0.out, e, ← HN.out]
    omega
  clear hD hN hn0
  have p3 : (D : Int) / 2 = (half : Int) := HE0.out
  have p4 := HNI.out
  have p5 := HNI2.out
  have p6 := HNI3.out
  go_enter Try.func56, Try.ntmps56
  go_wp2_with (at_make; refine wpList_make_own _ rfl _ _ 80 rfl w.heap.size 63 i0 _ 1 Try.underlying80 HI.out HZ0.out HZ1.out _ _ _ N rfl rfl rfl (by rw [HZ2.out]; omega) (by unfold maxLen; omega) (Nat.le_refl _) ?_; intro w1 hown1 hgr1)
  clear p3 p4 p5 p6
  have hb1 : Below w.heap.size w w1 := ⟨hgr1.os, hgr1.tape, hgr1.output, hgr1.size, fun k hk => hgr1.block k hk (by simp)⟩
  clear hgr1
  go_loopw [7, 8] (fun v i wr => ∃ r : Nat, r ≤ R ∧ i = .int .i64 r ∧ v = .slice (some ⟨w.heap.size, 0, none⟩) (r * half) N ∧ Hid (FW w wr w.heap.size N (r * half) half (foldW fst un half f)) ∧ wr.cell? ⟨S, 0, none⟩ = some (.int .i64 R)) (fun _ i _ => R - (intOf i).toNat)
  case atStart => exact ⟨0, Nat.zero_le _, rfl, by rw [Nat.zero_mul], by rw [Nat.zero_mul]; exact ⟨hb1, [], hown1, fun i u hu => by simp at hu⟩, (hb1.cell (p := ⟨S, 0, none⟩) hS).trans s0⟩
  case round =>
    obtain ⟨r, hr, rfl, rfl, HFW, t0⟩ := hrel
    obtain ⟨wo, rfl⟩ : ∃ wo : World, wo = wr := ⟨_, rfl⟩
    clear s0 s1 s2
    by_cases hlt : r < R
    · go_wp2_with fail
      go_loopw [7, 9] (fun v i wr => ∃ c : Nat, c ≤ half ∧ i = .int .i64 c ∧ v = .slice (some ⟨w.heap.size, 0, none⟩) (r * half + c) N ∧ Hid (FW w wr w.heap.size N (r * half + c) half (foldW fst un half f)) ∧ wr.cell? ⟨S, 0, none⟩ = some (.int .i64 R)) (fun _ i _ => half - (intOf i).toNat)
      case atStart => exact ⟨0, Nat.zero_le _, rfl, rfl, HFW, t0⟩
      case round =>
        obtain ⟨c, hc, rfl, rfl, HFW2, t0'⟩ := hrel
        by_cases hlc : c < half
        · obtain ⟨hbel, vs, hown, hos⟩ := HFW2.out
          have HOS := Lib.hid hos
          clear hos
          have hzr := hbel.size
          have hidx : r * half + c < N := by rw [HN.out]; exact idx_lt hlt hlc
          obtain ⟨st, hst⟩ : ∃ st, st = stays fst half c := ⟨_, rfl⟩
          obtain ⟨mv, hmv⟩ : ∃ mv, mv = moves fst half c := ⟨_, rfl⟩
          have hstb : st < 2 * half := by rw [hst]; unfold stays; cases fst <;> simp <;> omega
          have hmvb : mv < 2 * half := by rw [hmv]; unfold moves; cases fst <;> simp <;> omega
          have CFP := fun w => foldedPlaces fst half c w (by omega) h2
          rw [← hst, ← hmv] at CFP
          have HST := Lib.hid hst
          have HMV := Lib.hid hmv
          have HFP := Lib.hid CFP
          clear hst hmv CFP
          obtain ⟨ga, ca, d1, e1⟩ := HAT.out r st (by first | exact hlt | exact hstb) (by first | exact hlc | exact hstb)
          obtain ⟨gb, cb, d2, e2⟩ := HAT.out r mv (by first | exact hlt | exact hmvb) (by first | exact hlc | exact hmvb)
          try simp only at d1 d2 e1 e2
          have ix1 : r * (2 * half) + st < n0 := by rw [HN0.out]; exact idx_lt (by first | exact hlt | exact hstb) (by first | exact hlc | exact hstb)
          have ix2 : r * (2 * half) + mv < n0 := by rw [HN0.out]; exact idx_lt (by first | exact hlt | exact hmvb) (by first | exact hlc | exact hmvb)
          obtain ⟨x1, hx1⟩ : ∃ x, x = r * (2 * half) + st := ⟨_, rfl⟩
          obtain ⟨x2, hx2⟩ : ∃ x, x = r * (2 * half) + mv := ⟨_, rfl⟩
          rw [← hx1] at d1 ix1
          rw [← hx2] at d2 ix2
          rw [← HD.out] at hx1 hx2
          obtain ⟨A, hA⟩ : ∃ A, A = f r st := ⟨_, rfl⟩
          obtain ⟨B, hB⟩ : ∃ B, B = f r mv := ⟨_, rfl⟩
          have hA16 : 1 ≤ A.length ∧ A.length ≤ 16 := by rw [hA]; exact HL.out _ _
          have hB16 : 1 ≤ B.length ∧ B.length ≤ 16 := by rw [hB]; exact HL.out _ _
          have HFE : Hid (putC un false A B = (foldW fst un half f) ((r * half + c) / half) ((r * half + c) % half)) := by show _ = _; rw [idx_div hlc, idx_mod hlc, hA, hB, HST.out, HMV.out]; rfl
          rw [← hA] at d1 e1
          rw [← hB] at d2 e2
          obtain ⟨na, hna⟩ : ∃ na, A.length = na := ⟨_, rfl⟩
          obtain ⟨nb, hnb⟩ : ∃ nb, B.length = nb := ⟨_, rfl⟩
          rw [hna] at d1 hA16
          rw [hnb] at d2 hB16
          have HNA := Lib.hid hna
          have HNB := Lib.hid hnb
          have HX1 := Lib.hid hx1
          have HX2 := Lib.hid hx2
          have HSS : Hid (∀ w', Below w.heap.size w w' → w'.cell? ⟨S, 1, none⟩ = some (.int .i64 D) ∧ w'.cell? ⟨S, 2, none⟩ = some (.slice (some ⟨g, 0, none⟩) n0 cap) ∧ w'.cell? ⟨g, x1, none⟩ = some (.slice (some ⟨ga, 0, none⟩) na ca) ∧ w'.cell? ⟨g, x2, none⟩ = some (.slice (some ⟨gb, 0, none⟩) nb cb)) := fun w' hb =>
            ⟨(hb.cell (p := ⟨S, 1, none⟩) hS).trans (HS1.out), (hb.cell (p := ⟨S, 2, none⟩) hS).trans HS2.out, (hb.cell (p := ⟨g, x1, none⟩) (World.block_lt_of_cell? w _ d1)).trans d1, (hb.cell (p := ⟨g, x2, none⟩) (World.block_lt_of_cell? w _ d2)).trans d2⟩
          have HE1 := Lib.hid e1
          have HE2 := Lib.hid e2
          clear hA hB hna hnb hx1 hx2 d1 d2 e1 e2
          go_wp2_with fail
          refine (HFP.out _).mono ?_
          rintro e wx ⟨rfl, rfl⟩
          go_wp2_with fail
          refine (stackAt S g n0 cap D r st x1 ga na ca _ (HSS.out _ hbel).1 (HSS.out _ hbel).2.1 HX1.out ix1 (HSS.out _ hbel).2.2.1 (by omega)).mono ?_
          rintro e w2 ⟨rfl, hb2⟩
          go_wp2_with fail
          have hbA : Below w.heap.size w (w2.alloc (.cells #[.slice (some ⟨ga, 0, none⟩) na ca] 63)) := (hbel.trans (hb2.mono hzr)).alloc (by have := hb2.size; omega) _
          refine (stackAt S g n0 cap D r mv x2 gb nb cb _ (HSS.out _ hbA).1 (HSS.out _ hbA).2.1 HX2.out ix2 (HSS.out _ hbA).2.2.2 (by omega)).mono ?_
          rintro e w3 ⟨rfl, hb3⟩
          obtain ⟨_, hbw3, hbr3, hz2, hz3⟩ := below_pair hbel hb2 hb3
          have hpc : w3.cell? ⟨w2.heap.size, 0, none⟩ = some (.slice (some ⟨ga, 0, none⟩) na ca) := (hb3.cell (p := ⟨w2.heap.size, 0, none⟩) (by simp)).trans (World.cell?_alloc_mark w2 _ _ (0, 0) 0)
          have hpf : w3.frozen? ⟨w2.heap.size, 0, none⟩ = false := (hb3.frozen (p := ⟨w2.heap.size, 0, none⟩) (by simp)).trans (World.frozen?_alloc_mark w2 _ _ 0 0 0)
          go_wp2_with fail
          refine (joinW w2.heap.size ga na ca gb nb cb A B un false _ HNA.out HNB.out hA16.1 hB16.1 (by omega) (by omega) (fun a b c d w => by exact turnW a b c d w) hpc hpf (HE1.out.below hbw3 HE1.out.1) (HE2.out.below hbw3 HE2.out.1)).mono ?_
          rintro e w4 ⟨g5, cap5, rfl, hc5, hg5, ho5, hgr5⟩
          have hown4 := joined_mid hown hbr3 hz2 rfl hgr5
          have hpf4 : w4.heap.size ≤ w4.heap.size := Nat.le_refl _
          obtain ⟨L5, hL5⟩ : ∃ L, L = (putC un false A B).length := ⟨_, rfl⟩
          have hc5' := hc5
          rw [← hL5] at hc5'
          have HL5 := Lib.hid hL5
          have HC5 := Lib.hid ho5
          have hzz4 := hgr5.size
          clear hL5 hc5 ho5 hpc hpf
          go_wp2_with (at_builtin; refine wpList_append_fits _ rfl _ _ 80 rfl w.heap.size 63 i0 1 Try.underlying80 HI.out HZ1.out w.heap.size (r * half + c) N _ rfl (hown4.alloc _) ⟨w4.heap.size, 0, none⟩ 1 1 [.slice (some ⟨g5, 0, none⟩) L5 cap5] rfl rfl (cells_new1 _ _ _) (by simp [Value.oneCell']) (by omega) ?_; intro w6 hown6 hgr6)
          have hFW6 : FW w w6 w.heap.size N (r * half + c + 1) half (foldW fst un half f) := fw_step hbel hown HOS.out hbr3 hz2 hz3 rfl hgr5 HC5.out hg5 hgr6 (by rw [← HL5.out]; exact hown6) HFE.out
          have HFW6 := Lib.hid hFW6
          have t6 : w6.cell? ⟨S, 0, none⟩ = some (.int .i64 R) := (hFW6.b.cell (p := ⟨S, 0, none⟩) hS).trans HS0.out
          clear hFW6 hown6 hgr6 hgr5 hown4 hc5' hbw3 hbr3 hb3 hbA hb2 hown hbel
          go_roundw
          case rel => exact ⟨c + 1, by omega, by go_num, rfl, HFW6, t6⟩
          case measure => simp [intOf]; omega
        · obtain rfl : c = half := by omega
          have HFW3 : Hid (FW w wr w.heap.size N ((r + 1) * c) c (foldW fst un c f)) := by show FW _ _ _ _ _ _ _; rw [Nat.succ_mul]; exact HFW2.out
          have e9 : r * c + c = (r + 1) * c := (Nat.succ_mul r c).symm
          rw [e9]
          clear e9
          go_wp2_with fail
          go_roundw
          case rel => exact ⟨r + 1, by omega, by go_num, rfl, HFW3, t0'⟩
          case measure => simp [intOf]; omega
    · obtain rfl : r = R := by omega
      have hb9 := HFW.out.b
      have u0 := (hb9.cell (p := ⟨S, 0, none⟩) hS).trans HS0.out
      have u1 := (hb9.cell (p := ⟨S, 1, none⟩) hS).trans HS1.out
      have u2 := (hb9.cell (p := ⟨S, 2, none⟩) hS).trans HS2.out
      have v0 := (hb9.frozen (p := ⟨S, 0, none⟩) hS).trans HF.out.f1
      have v1 := (hb9.frozen (p := ⟨S, 1, none⟩) hS).trans HF.out.f2
      have v2 := (hb9.frozen (p := ⟨S, 2, none⟩) hS).trans HF.out.f3
      clear hb9
      go_wp2_with fail
      go_end0
      have hfw := HFW.out
      rw [HN.out] at hfw ⊢
      refine ⟨rfl, fw_end HF.out hfw (Nat.le_refl _) hbase rfl rfl (.inl ⟨rfl, rfl, rfl⟩)⟩
set_option maxRecDepth 100000 in
set_option maxHeartbeats 4000000 in
theorem foldHeight_walk (base S half C : Nat) (fst un : Bool) (f : Nat → Nat → List Cel) (w : World) (h : FS w base S ⟨2 * half, C, f⟩) (h1 : 1 ≤ half) (h2 : half ≤ 16) (ho1 : 1 ≤ C) (ho2 : C ≤ 32) (hRC : half * C ≤ 32) (hl : ∀ r k, 1 ≤ (f r k).length ∧ (f r k).length ≤ 16) (hbase : base ≤ w.heap.size) :
    Calls Try.prog 57 #[.pointer (some ⟨S, 0, none⟩), .bool fst, .bool un] w fun e w' => e = .returned (.tuple #[]) ∧ FS w' base S ⟨half, C, foldH fst un half f⟩ ∧ w.grownBy w' (some S) := by
  obtain ⟨i0, hi0, hz0, hz1, hz2⟩ := info_parts infoLayers
  have HI := Lib.hid hi0; have HZ0 := Lib.hid hz0; have HZ1 := Lib.hid hz1; have HZ2 := Lib.hid hz2
  clear hi0 hz0 hz1 hz2
  have HF := Lib.hid h
  have HL := Lib.hid hl
  obtain ⟨g, n0, cap, hn0, s2, hgS, hat⟩ := h.at
  have HAT := Lib.hid hat
  have s0 := h.r
  have s1 := h.c
  simp only at s0 s1 hn0
  have hS := World.block_lt_of_cell? w _ s0
  have hS : S < w.heap.size := hS
  clear hat hl h
  obtain ⟨D, hD⟩ : ∃ D, D = 2 * half := ⟨_, rfl⟩
  obtain ⟨N, hN⟩ : ∃ N, N = half * C := ⟨_, rfl⟩
  rw [← hN] at hRC
  have HN : Hid (N = half * C) := hN
  have HN0 : Hid (n0 = (2 * half) * C) := hn0
  have HD : Hid (D = 2 * half) := hD
  rw [← hD] at s0
  have HS0 := Lib.hid s0
  have HS1 := Lib.hid s1
  have HS2 := Lib.hid s2
  have HE0 : Hid ((D : Int) / 2 = (half : Int)) := by show _ = _; omega
  have hD32 : D ≤ 32 := by omega
  have HNI : Hid ((half : Int) * (C : Int) = (N : Int)) := by show _ = _; rw [hN, Int.natCast_mul]
  have HNI2 : Hid (IntKind.i64.wrap ((half : Int) * (C : Int)) = (N : Int)) := by show _ = _; rw [HNI.out, IntKind.wrap_i64]; omega
  have HNI3 : Hid (IntKind.i64.wrap (N : Int) = (N : Int)) := by show _ = _; rw [IntKind.wrap_i64]; omega
  have hn64 : n0 ≤ 64 := by
    have e : (2 * half) * C = 2 * (half * C) := by first | exact Nat.mul_left_comm _ _ _ | exact Nat.mul_assoc _ _ _
    rw [HN0.out, e, ← HN.out]
    omega
  clear hD hN hn0
  have p3 : (D : Int) / 2 = (half : Int) := HE0.out
  have p4 := HNI.out
  have p5 := HNI2.out
  have p6 := HNI3.out
  go_enter Try.func57, Try.ntmps57
  go_wp2_with (at_make; refine wpList_make_own _ rfl _ _ 80 rfl w.heap.size 63 i0 _ 1 Try.underlying80 HI.out HZ0.out HZ1.out _ _ _ N rfl rfl rfl (by rw [HZ2.out]; omega) (by unfold maxLen; omega) (Nat.le_refl _) ?_; intro w1 hown1 hgr1)
  clear p3 p4 p5 p6
  have hb1 : Below w.heap.size w w1 := ⟨hgr1.os, hgr1.tape, hgr1.output, hgr1.size, fun k hk => hgr1.block k hk (by simp)⟩
  clear hgr1
  go_loopw [7, 8] (fun v i wr => ∃ r : Nat, r ≤ half ∧ i = .int .i64 r ∧ v = .slice (some ⟨w.heap.size, 0, none⟩) (r * C) N ∧ Hid (FW w wr w.heap.size N (r * C) C (foldH fst un half f)) ∧ wr.cell? ⟨S, 1, none⟩ = some (.int .i64 C)) (fun _ i _ => half - (intOf i).toNat)
  case atStart => exact ⟨0, Nat.zero_le _, rfl, by rw [Nat.zero_mul], by rw [Nat.zero_mul]; exact ⟨hb1, [], hown1, fun i u hu => by simp at hu⟩, (hb1.cell (p := ⟨S, 1, none⟩) hS).trans s1⟩
  case round =>
    obtain ⟨r, hr, rfl, rfl, HFW, t0⟩ := hrel
    obtain ⟨wo, rfl⟩ : ∃ wo : World, wo = wr := ⟨_, rfl⟩
    clear s0 s1 s2
    by_cases hlt : r < half
    · have hlt' : (r : Int) < (half : Int) := by omega
      obtain ⟨st, hst⟩ : ∃ st, st = stays fst half r := ⟨_, rfl⟩
      obtain ⟨mv, hmv⟩ : ∃ mv, mv = moves fst half r := ⟨_, rfl⟩
      have hstb : st < 2 * half := by rw [hst]; unfold stays; cases fst <;> simp <;> omega
      have hmvb : mv < 2 * half := by rw [hmv]; unfold moves; cases fst <;> simp <;> omega
      have CFP := fun w => foldedPlaces fst half r w (by omega) h2
      rw [← hst, ← hmv] at CFP
      have HST := Lib.hid hst
      have HMV := Lib.hid hmv
      have HFP := Lib.hid CFP
      clear hst hmv CFP
      go_wp2_with fail
      refine (HFP.out _).mono ?_
      rintro e wx ⟨rfl, rfl⟩
      go_wp2_with fail
      go_loopw [7, 11] (fun v i wr => ∃ c : Nat, c ≤ C ∧ i = .int .i64 c ∧ v = .slice (some ⟨w.heap.size, 0, none⟩) (r * C + c) N ∧ Hid (FW w wr w.heap.size N (r * C + c) C (foldH fst un half f)) ∧ wr.cell? ⟨S, 1, none⟩ = some (.int .i64 C)) (fun _ i _ => C - (intOf i).toNat)
      case atStart => exact ⟨0, Nat.zero_le _, rfl, rfl, HFW, t0⟩
      case round =>
        obtain ⟨c, hc, rfl, rfl, HFW2, t0'⟩ := hrel
        by_cases hlc : c < C
        · obtain ⟨hbel, vs, hown, hos⟩ := HFW2.out
          have HOS := Lib.hid hos
          clear hos
          have hzr := hbel.size
          have hidx : r * C + c < N := by rw [HN.out]; exact idx_lt hlt hlc
          obtain ⟨ga, ca, d1, e1⟩ := HAT.out st c (by first | exact hlt | exact hstb) (by first | exact hlc | exact hstb)
          obtain ⟨gb, cb, d2, e2⟩ := HAT.out mv c (by first | exact hlt | exact hmvb) (by first | exact hlc | exact hmvb)
          try simp only at d1 d2 e1 e2
          have ix1 : st * C + c < n0 := by rw [HN0.out]; exact idx_lt (by first | exact hlt | exact hstb) (by first | exact hlc | exact hstb)
          have ix2 : mv * C + c < n0 := by rw [HN0.out]; exact idx_lt (by first | exact hlt | exact hmvb) (by first | exact hlc | exact hmvb)
          obtain ⟨x1, hx1⟩ : ∃ x, x = st * C + c := ⟨_, rfl⟩
          obtain ⟨x2, hx2⟩ : ∃ x, x = mv * C + c := ⟨_, rfl⟩
          rw [← hx1] at d1 ix1
          rw [← hx2] at d2 ix2
          obtain ⟨A, hA⟩ : ∃ A, A = f st c := ⟨_, rfl⟩
          obtain ⟨B, hB⟩ : ∃ B, B = f mv c := ⟨_, rfl⟩
          have hA16 : 1 ≤ A.length ∧ A.length ≤ 16 := by rw [hA]; exact HL.out _ _
          have hB16 : 1 ≤ B.length ∧ B.length ≤ 16 := by rw [hB]; exact HL.out _ _
          have HFE : Hid (putC un true A B = (foldH fst un half f) ((r * C + c) / C) ((r * C + c) % C)) := by show _ = _; rw [idx_div hlc, idx_mod hlc, hA, hB, HST.out, HMV.out]; rfl
          rw [← hA] at d1 e1
          rw [← hB] at d2 e2
          obtain ⟨na, hna⟩ : ∃ na, A.length = na := ⟨_, rfl⟩
          obtain ⟨nb, hnb⟩ : ∃ nb, B.length = nb := ⟨_, rfl⟩
          rw [hna] at d1 hA16
          rw [hnb] at d2 hB16
          have HNA := Lib.hid hna
          have HNB := Lib.hid hnb
          have HX1 := Lib.hid hx1
          have HX2 := Lib.hid hx2
          have HSS : Hid (∀ w', Below w.heap.size w w' → w'.cell? ⟨S, 1, none⟩ = some (.int .i64 C) ∧ w'.cell? ⟨S, 2, none⟩ = some (.slice (some ⟨g, 0, none⟩) n0 cap) ∧ w'.cell? ⟨g, x1, none⟩ = some (.slice (some ⟨ga, 0, none⟩) na ca) ∧ w'.cell? ⟨g, x2, none⟩ = some (.slice (some ⟨gb, 0, none⟩) nb cb)) := fun w' hb =>
            ⟨(hb.cell (p := ⟨S, 1, none⟩) hS).trans (HS1.out), (hb.cell (p := ⟨S, 2, none⟩) hS).trans HS2.out, (hb.cell (p := ⟨g, x1, none⟩) (World.block_lt_of_cell? w _ d1)).trans d1, (hb.cell (p := ⟨g, x2, none⟩) (World.block_lt_of_cell? w _ d2)).trans d2⟩
          have HE1 := Lib.hid e1
          have HE2 := Lib.hid e2
          clear hA hB hna hnb hx1 hx2 d1 d2 e1 e2
          go_wp2_with fail
          refine (stackAt S g n0 cap C st c x1 ga na ca _ (HSS.out _ hbel).1 (HSS.out _ hbel).2.1 HX1.out ix1 (HSS.out _ hbel).2.2.1 (by omega)).mono ?_
          rintro e w2 ⟨rfl, hb2⟩
          go_wp2_with fail
          have hbA : Below w.heap.size w (w2.alloc (.cells #[.slice (some ⟨ga, 0, none⟩) na ca] 63)) := (hbel.trans (hb2.mono hzr)).alloc (by have := hb2.size; omega) _
          refine (stackAt S g n0 cap C mv c x2 gb nb cb _ (HSS.out _ hbA).1 (HSS.out _ hbA).2.1 HX2.out ix2 (HSS.out _ hbA).2.2.2 (by omega)).mono ?_
          rintro e w3 ⟨rfl, hb3⟩
          obtain ⟨_, hbw3, hbr3, hz2, hz3⟩ := below_pair hbel hb2 hb3
          have hpc : w3.cell? ⟨w2.heap.size, 0, none⟩ = some (.slice (some ⟨ga, 0, none⟩) na ca) := (hb3.cell (p := ⟨w2.heap.size, 0, none⟩) (by simp)).trans (World.cell?_alloc_mark w2 _ _ (0, 0) 0)
          have hpf : w3.frozen? ⟨w2.heap.size, 0, none⟩ = false := (hb3.frozen (p := ⟨w2.heap.size, 0, none⟩) (by simp)).trans (World.frozen?_alloc_mark w2 _ _ 0 0 0)
          go_wp2_with fail
          refine (joinH w2.heap.size ga na ca gb nb cb A B un true _ HNA.out HNB.out hA16.1 hB16.1 (by omega) (by omega) (fun a b c d w => by exact turnH a b c d w) hpc hpf (HE1.out.below hbw3 HE1.out.1) (HE2.out.below hbw3 HE2.out.1)).mono ?_
          rintro e w4 ⟨g5, cap5, rfl, hc5, hg5, ho5, hgr5⟩
          have hown4 := joined_mid hown hbr3 hz2 rfl hgr5
          have hpf4 : w4.heap.size ≤ w4.heap.size := Nat.le_refl _
          obtain ⟨L5, hL5⟩ : ∃ L, L = (putC un true A B).length := ⟨_, rfl⟩
          have hc5' := hc5
          rw [← hL5] at hc5'
          have HL5 := Lib.hid hL5
          have HC5 := Lib.hid ho5
          have hzz4 := hgr5.size
          clear hL5 hc5 ho5 hpc hpf
          go_wp2_with (at_builtin; refine wpList_append_fits _ rfl _ _ 80 rfl w.heap.size 63 i0 1 Try.underlying80 HI.out HZ1.out w.heap.size (r * C + c) N _ rfl (hown4.alloc _) ⟨w4.heap.size, 0, none⟩ 1 1 [.slice (some ⟨g5, 0, none⟩) L5 cap5] rfl rfl (cells_new1 _ _ _) (by simp [Value.oneCell']) (by omega) ?_; intro w6 hown6 hgr6)
          have hFW6 : FW w w6 w.heap.size N (r * C + c + 1) C (foldH fst un half f) := fw_step hbel hown HOS.out hbr3 hz2 hz3 rfl hgr5 HC5.out hg5 hgr6 (by rw [← HL5.out]; exact hown6) HFE.out
          have HFW6 := Lib.hid hFW6
          have t6 : w6.cell? ⟨S, 1, none⟩ = some (.int .i64 C) := (hFW6.b.cell (p := ⟨S, 1, none⟩) hS).trans HS1.out
          clear hFW6 hown6 hgr6 hgr5 hown4 hc5' hbw3 hbr3 hb3 hbA hb2 hown hbel
          go_roundw
          case rel => exact ⟨c + 1, by omega, by go_num, rfl, HFW6, t6⟩
          case measure => simp [intOf]; omega
        · obtain rfl : c = C := by omega
          have HFW3 : Hid (FW w wr w.heap.size N ((r + 1) * c) c (foldH fst un half f)) := by show FW _ _ _ _ _ _ _; rw [Nat.succ_mul]; exact HFW2.out
          have e9 : r * c + c = (r + 1) * c := (Nat.succ_mul r c).symm
          rw [e9]
          clear e9
          go_wp2_with fail
          go_roundw
          case rel => exact ⟨r + 1, by omega, by go_num, rfl, HFW3, t0'⟩
          case measure => simp [intOf]; omega
    · obtain rfl : r = half := by omega
      have hb9 := HFW.out.b
      have u0 := (hb9.cell (p := ⟨S, 0, none⟩) hS).trans HS0.out
      have u1 := (hb9.cell (p := ⟨S, 1, none⟩) hS).trans HS1.out
      have u2 := (hb9.cell (p := ⟨S, 2, none⟩) hS).trans HS2.out
      have v0 := (hb9.frozen (p := ⟨S, 0, none⟩) hS).trans HF.out.f1
      have v1 := (hb9.frozen (p := ⟨S, 1, none⟩) hS).trans HF.out.f2
      have v2 := (hb9.frozen (p := ⟨S, 2, none⟩) hS).trans HF.out.f3
      clear hb9
      go_wp2_with fail
      go_end0
      have hfw := HFW.out
      rw [HN.out] at hfw ⊢
      refine ⟨rfl, fw_end HF.out hfw (Nat.le_refl _) hbase rfl rfl (.inr ⟨rfl, rfl, rfl⟩)⟩
end Go.Proofs.Ytdgkjlehofkooaa
