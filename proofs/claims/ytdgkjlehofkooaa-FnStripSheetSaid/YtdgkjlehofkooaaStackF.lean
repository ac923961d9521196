/- The walks of the program's functions on a stack that is folded: the closures, join, foldedPlaces. Conditions: each theorem's own premises. -/
import Derived.Test.YtdgkjlehofkooaaStackE
namespace Go.Proofs.Ytdgkjlehofkooaa
set_option maxRecDepth 100000
open Go.RowKit
/-- 'make([]T, 0, n)' at a step of a region that draws its order. -/
theorem step_make_own {P : Program} {w : World} {ops : Array Oper} {o : Oper} {a : Act} {K : Act → World → Prop} {Q : Exit → Act → World → Prop} {E : Prop} (hgd : o.guard = none) (l c : Operand) (t : TypeId) (hop : o.op = Op.makeSlice t l c)
    (base : Nat) (e : TypeId) (i : TypeInfo) (z : Value) (size : Nat) (h1 : P.underlying t = some (.slice e)) (h2 : P.info? e = some i) (h3 : i.zero = some z) (h4 : i.size = size)
    (kl kc : IntKind) (C : Int) (n : Nat) (hl : a.eval l = .int kl 0) (hc : a.eval c = .int kc C) (hC : C = (n : Int)) (b2 : i.bytes * n ≤ 281474976710656) (b3 : n ≤ maxLen) (b4 : base ≤ w.heap.size)
    (hK : ∀ w', w'.ownsRow base e size (.slice (some ⟨w.heap.size, 0, none⟩) 0 n) 0 [] → w.grownBy w' none → K (a.put o.dst (.slice (some ⟨w.heap.size, 0, none⟩) 0 n)) w') :
    if Region.wanted o (yielded ops a.tmps) = true then Oper.wp P o a w K Q else E := by
  have hw : Region.wanted o (yielded ops a.tmps) = true := by simp [Region.wanted, hgd]
  rw [if_pos hw]
  obtain ⟨w', hrun, r1, r2⟩ := run_make_own (P := P) w base t e i z size h1 h2 h3 h4 kl kc n b2 b3 b4
  subst hC
  unfold Oper.wp
  simp [execOp, hop, hl, hc, hrun, Result.andThen]
  exact hK w' r1 r2
/-- A cell as a value. -/
def celV (x : Cel) : Value := .agg #[.int .i64 x.row, .int .i64 x.col, .bool x.up, .bool x.head]
set_option maxHeartbeats 1000000 in
theorem turnW (row col : Int) (up head : Bool) (w : World) : Calls Try.prog 74 #[.agg #[.int .i64 row, .int .i64 col, .bool up, .bool head]] w fun e w' =>
    e = .returned (.agg #[.int .i64 row, .int .i64 col, .bool (!up), .bool head]) ∧ Below w.heap.size w w' := by
  go_enter Try.func74, Try.ntmps74
  go_wp2
  exact bodyPost_ret (v := .agg #[.int .i64 row, .int .i64 col, .bool (!up), .bool head]) (by simp [results, Try.results74, go_sem]) rfl ⟨rfl, (by repeat (first | exact Below.refl _ _ | assumption | (refine Below.setCell ?_ (by first | omega | (simp; done) | (simp; omega)) _) | (refine Below.alloc ?_ (by first | omega | (simp; done) | (simp; omega)) _) | (refine below_drewN ?_ _) | (refine Below.drew ?_)))⟩
set_option maxHeartbeats 1000000 in
theorem turnH (row col : Int) (up head : Bool) (w : World) : Calls Try.prog 75 #[.agg #[.int .i64 row, .int .i64 col, .bool up, .bool head]] w fun e w' =>
    e = .returned (.agg #[.int .i64 row, .int .i64 col, .bool (!up), .bool (!head)]) ∧ Below w.heap.size w w' := by
  go_enter Try.func75, Try.ntmps75
  go_wp2
  exact bodyPost_ret (v := .agg #[.int .i64 row, .int .i64 col, .bool (!up), .bool (!head)]) (by simp [results, Try.results75, go_sem]) rfl ⟨rfl, (by repeat (first | exact Below.refl _ _ | assumption | (refine Below.setCell ?_ (by first | omega | (simp; done) | (simp; omega)) _) | (refine Below.alloc ?_ (by first | omega | (simp; done) | (simp; omega)) _) | (refine below_drewN ?_ _) | (refine Below.drew ?_)))⟩
theorem foldedPlaces (fst : Bool) (half i : Nat) (w : World) (hi : i < half) (hh : half ≤ 16) :
    Calls Try.prog 72 #[.int .i64 i, .int .i64 half, .bool fst] w fun e w' => e = .returned (.tuple #[.int .i64 (stays fst half i : Nat), .int .i64 (moves fst half i : Nat)]) ∧ w = w' := by
  cases fst with
  | true =>
    have e1 : ((half : Int) - 1 - (i : Int)) = ((half - 1 - i : Nat) : Int) := by omega
    have e2 : ((half : Int) + (i : Int)) = ((half + i : Nat) : Int) := by omega
    have H1 := Lib.hid e1; have H2 := Lib.hid e2
    clear e1 e2
    go_enter Try.func72, Try.ntmps72
    go_wp2
    go_ret2
    refine ⟨?_, rfl⟩
    show _ = Ending.returned (.tuple #[.int .i64 ((half + i : Nat) : Int), .int .i64 ((half - 1 - i : Nat) : Int)])
    rw [← H1.out, ← H2.out]
    rfl
  | false =>
    have e1 : (2 * (half : Int) - 1 - (i : Int)) = ((2 * half - 1 - i : Nat) : Int) := by omega
    have H1 := Lib.hid e1
    clear e1
    go_enter Try.func72, Try.ntmps72
    go_wp2
    go_ret2
    refine ⟨?_, rfl⟩
    show _ = Ending.returned (.tuple #[.int .i64 (i : Int), .int .i64 ((2 * half - 1 - i : Nat) : Int)])
    rw [← H1.out]
    rfl
theorem join_made {w w1 : World} {T p n gb : Nat} {C : Array Value} {u : Value} (hp : w.cell? ⟨p, 0, none⟩ = some u) (hpf : w.frozen? ⟨p, 0, none⟩ = false) (hpl : p < w.heap.size) (hgr : (w.alloc (.cells C T)).drew.grownBy w1 none)
    {a b : List Cel} {ga : Nat} (hra : RowC w ga a) (hrb : RowC w gb b) (hn : n = w.heap.size + 1) :
    w1.cell? ⟨p, 0, none⟩ = some u ∧ w1.cell? ⟨w.heap.size, 0, none⟩ = C[0]? ∧ w1.frozen? ⟨p, 0, none⟩ = false ∧ Below w.heap.size w w1 ∧ n ≤ w1.heap.size ∧ RowC w1 ga a ∧ RowC w1 gb b := by
  have hz : (w.alloc (.cells C T)).heap.size = w.heap.size + 1 := by simp
  have hz1 : w.heap.size + 1 ≤ w1.heap.size := by rw [← hz]; exact hgr.size
  have hk : ∀ k, k < w.heap.size → w1.heap[k]? = w.heap[k]? := fun k h => (hgr.block k (by show k < (w.alloc (.cells C T)).heap.size; omega) (by simp)).trans (Below.heap_alloc w _ k h)
  have hb : Below w.heap.size w w1 := ⟨hgr.os, hgr.tape, hgr.output, by omega, hk⟩
  refine ⟨(World.cell?_of_block (a := ⟨p, 0, none⟩) (hk p hpl)).trans hp, ?_, (World.frozen?_of_block (a := ⟨p, 0, none⟩) (hk p hpl)).trans hpf, hb, by omega, hra.below hb hra.1, hrb.below hb hrb.1⟩
  rw [World.cell?_of_block (a := ⟨w.heap.size, 0, none⟩) (hgr.block w.heap.size (by show w.heap.size < (w.alloc (.cells C T)).heap.size; omega) (by simp))]
  exact World.cell?_alloc_mark w C T (0, 0) 0
/-- Two stacks have been joined: the cell at the head of block p leads to the new one. -/
def Joined (w : World) (p : Nat) (a : List Cel) (e : Ending) (w' : World) : Prop :=
  ∃ g cap : Nat, e = .returned (.tuple #[]) ∧ w'.cell? ⟨p, 0, none⟩ = some (.slice (some ⟨g, 0, none⟩) a.length cap) ∧ w.heap.size ≤ g ∧ w'.ownsRow w.heap.size 35 4 (.slice (some ⟨g, 0, none⟩) a.length cap) a.length (cellsC a) ∧ w.grownBy w' (some p)
theorem joined_end {w w4 : World} {p g cap n : Nat} {a : List Cel} {u : Value} (hb : Below w.heap.size w w4) (hc : w4.cell? ⟨p, 0, none⟩ = some u) (hp : p < w.heap.size) (hg : w.heap.size ≤ g) (hn : a.length = n)
    (hown : w4.ownsRow w.heap.size 35 4 (.slice (some ⟨g, 0, none⟩) n cap) n (cellsC a)) :
    Joined w p a (.returned (.tuple #[])) (w4.setCell ⟨p, 0, none⟩ (.slice (some ⟨g, 0, none⟩) n cap)) := by
  subst hn
  exact ⟨g, cap, rfl, World.cell?_setCell_same _ _ _ hc, hg, ownsRow_of_block hown (Below.heap_setCell w4 ⟨p, 0, none⟩ _ g (by show g ≠ p; omega)), grown_setCell (grown_of_below hb (some p)) 0 _⟩
theorem join_fit {w wr w3 : World} {p g : Nat} {u : Value} (hb : Below w.heap.size w wr) (hgr : wr.grownBy w3 (some (w.heap.size + g))) (hp : wr.cell? ⟨p, 0, none⟩ = some u) (hpf : wr.frozen? ⟨p, 0, none⟩ = false) (hpl : p < w.heap.size) :
    Below w.heap.size w w3 ∧ w3.cell? ⟨p, 0, none⟩ = some u ∧ w3.frozen? ⟨p, 0, none⟩ = false := by
  have hz := hb.size
  have hk := hgr.block p (by omega) (by intro e; injection e; omega)
  exact ⟨below_grown_at' hb hgr hz (by omega), (World.cell?_of_block (a := ⟨p, 0, none⟩) hk).trans hp, (World.frozen?_of_block (a := ⟨p, 0, none⟩) hk).trans hpf⟩
theorem join_mk {w wr w3 : World} {p g ga n c : Nat} {u : Value} {a b : List Cel} (hb : Below w.heap.size w wr) (hgr : wr.grownBy w3 none) (hp : wr.cell? ⟨p, 0, none⟩ = some u) (hpf : wr.frozen? ⟨p, 0, none⟩ = false) (hpl : p < w.heap.size)
    (hra : RowC w ga a) (hown : wr.ownsRow w.heap.size 35 4 (.slice (some ⟨g, 0, none⟩) n c) n (cellsC b)) :
    Below w.heap.size w w3 ∧ w3.cell? ⟨p, 0, none⟩ = some u ∧ w3.frozen? ⟨p, 0, none⟩ = false ∧ RowC w3 ga a ∧ RowC w3 g b ∧ wr.heap.size ≤ w3.heap.size := by
  have hz := hb.size
  have hk := hgr.block p (by omega) (by simp)
  have hb3 : Below w.heap.size w w3 := ⟨hgr.os.trans hb.os, hgr.tape.trans hb.tape, hgr.output.trans hb.output, Nat.le_trans hz hgr.size, fun k h => (hgr.block k (by omega) (by simp)).trans (hb.block k h)⟩
  exact ⟨hb3, (World.cell?_of_block (a := ⟨p, 0, none⟩) hk).trans hp, (World.frozen?_of_block (a := ⟨p, 0, none⟩) hk).trans hpf, hra.below hb3 hra.1, (RowC.of_own hown).keep (hgr.block g (hown.lt g rfl).2 (by simp)), hgr.size⟩
theorem join_fit2 {w w3 w5 : World} {p g G : Nat} {u : Value} {b : List Cel} (hb : Below w.heap.size w w3) (hgr : w3.grownBy w5 (some G)) (hp : w3.cell? ⟨p, 0, none⟩ = some u) (hpf : w3.frozen? ⟨p, 0, none⟩ = false) (hpl : p < w.heap.size) (hG : w.heap.size ≤ G)
    (hrr : RowC w3 g b) (hg : g < G) : Below w.heap.size w w5 ∧ w5.cell? ⟨p, 0, none⟩ = some u ∧ w5.frozen? ⟨p, 0, none⟩ = false ∧ RowC w5 g b := by
  have hz := hb.size
  have hk := hgr.block p (by omega) (by intro e; injection e; omega)
  exact ⟨below_grown_at' hb hgr hz hG, (World.cell?_of_block (a := ⟨p, 0, none⟩) hk).trans hp, (World.frozen?_of_block (a := ⟨p, 0, none⟩) hk).trans hpf, hrr.keep (hgr.block g hrr.1 (by intro e; injection e; omega))⟩
set_option maxRecDepth 100000 in
set_option maxHeartbeats 4000000 in
theorem joinW (p ga na ca gb nb cb : Nat) (a b : List Cel) (un hi : Bool) (w : World) (hna : a.length = na) (hnb : b.length = nb) (ha1 : 1 ≤ na) (hb1 : 1 ≤ nb) (ha2 : na ≤ 32) (hb2 : nb ≤ 32)
    (ht : ∀ (row col : Int) (up head : Bool) (w : World), Calls Try.prog 74 #[.agg #[.int .i64 row, .int .i64 col, .bool up, .bool head]] w fun e w' => e = .returned (.agg #[.int .i64 row, .int .i64 col, .bool (!up), .bool (if hi then !head else head)]) ∧ Below w.heap.size w w')
    (hp : w.cell? ⟨p, 0, none⟩ = some (.slice (some ⟨ga, 0, none⟩) na ca)) (hpf : w.frozen? ⟨p, 0, none⟩ = false) (hra : RowC w ga a) (hrb : RowC w gb b) :
    Calls Try.prog 73 #[.pointer (some ⟨p, 0, none⟩), .agg #[.slice (some ⟨gb, 0, none⟩) nb cb], .bool un, .func (.func 74) #[] #[]] w (Joined w p (putC un hi a b)) := by
  obtain ⟨i0, hi0, hz0, hz1, hz2⟩ := info_parts infoCell
  have HI := Lib.hid hi0; have HZ0 := Lib.hid hz0; have HZ1 := Lib.hid hz1; have HZ2 := Lib.hid hz2
  have hpl := World.block_lt_of_cell? w _ hp
  have HNA := Lib.hid hna
  have HNB := Lib.hid hnb
  have HLA : Hid ((cellsC a).length = na * 4) := by show _ = _; rw [cellsC_length, hna]
  have HRL : Hid ((revTo hi b nb).length = nb) := revTo_length _ _ _ (by omega)
  have HLR : Hid ((cellsC (revTo hi b nb)).length = nb * 4) := by show _ = _; rw [cellsC_length, HRL.out]
  have HPU : Hid (putC true hi a b = revTo hi b nb ++ a) := by show _ = _; unfold putC; rw [← hnb, revTo_full]; rfl
  have HPO : Hid (putC false hi a b = a ++ revTo hi b nb) := by show _ = _; unfold putC; rw [← hnb, revTo_full]; rfl
  have HPL : Hid (∀ un, (putC un hi a b).length = na + nb) := fun un => by rw [putC_length, hna, hnb]
  have HT := Lib.hid ht
  clear hi0 hz0 hz1 hz2 hna hnb ht
  have hpl : p < w.heap.size := hpl
  obtain ⟨w1, hrun, hown1, hgr1⟩ := run_make_own (P := Try.prog) (w.alloc (.cells #[.slice (some ⟨gb, 0, none⟩) nb cb] 63)).drew w.heap.size 31 35 i0 _ 4 Try.underlying31 HI.out HZ0.out HZ1.out .i64 .i64 (na + nb) (by rw [HZ2.out]; omega) (by unfold maxLen; omega) (by simp)
  rw [Int.natCast_add] at hrun
  have q1 : IntKind.i64.wrap ((na : Int) + (nb : Int)) = (na : Int) + (nb : Int) := by rw [IntKind.wrap_i64]; omega
  obtain ⟨s1, s2, s3, s4, s5, s6, s7⟩ := join_made hp hpf hpl hgr1 hra hrb rfl
  have e1 : (w.alloc (.cells #[.slice (some ⟨gb, 0, none⟩) nb cb] 63)).drew.heap.size = w.heap.size + 1 := by show (w.alloc _).heap.size = _; simp
  rw [e1] at hown1 hrun
  have HSA : Hid (∀ o, (w.alloc o).cell? ⟨p, 0, none⟩ = some (.slice (some ⟨ga, 0, none⟩) na ca)) := fun o => (((Below.refl _ w).alloc (Nat.le_refl _) o).cell (p := ⟨p, 0, none⟩) hpl).trans hp
  have HSP : Hid (w.cell? ⟨p, 0, none⟩ = some (.slice (some ⟨ga, 0, none⟩) na ca) ∧ w.frozen? ⟨p, 0, none⟩ = false) := ⟨hp, hpf⟩
  have HRA := Lib.hid hra
  have HRB := Lib.hid hrb
  have hgal := hra.1
  have hgbl := hrb.1
  clear e1 hgr1 hra hrb s5 s6 s7 hp hpf
  have hnn : w.heap.size ≠ p := by omega
  go_enter Try.func73, Try.ntmps73
  go_wp2_with fail
  go_region_held3 (fun w' => w'.cell? ⟨p, 0, none⟩ = some (.slice (some ⟨ga, 0, none⟩) na ca) ∧ w'.cell? ⟨w.heap.size, 0, none⟩ = some (.slice (some ⟨gb, 0, none⟩) nb cb))
    (first | exact ⟨HSA.out _, World.cell?_alloc_mark w _ _ (0, 0) 0⟩ | exact ⟨s1, s2⟩)
    (fail)
  clear q1 hrun
  go_wp2_with fail
  go_loopw [8, 9] (fun v i wr => ∃ k : Nat, ∃ x : Int, k ≤ nb ∧ x + k + 1 = nb ∧ i = .int .i64 x ∧ v = .slice (some ⟨w.heap.size + 1, 0, none⟩) k (na + nb) ∧
      wr.ownsRow w.heap.size 35 4 (.slice (some ⟨w.heap.size + 1, 0, none⟩) k (na + nb)) k (cellsC (revTo hi b k)) ∧ wr.cell? ⟨w.heap.size, 0, none⟩ = some (.slice (some ⟨gb, 0, none⟩) nb cb) ∧ Below w.heap.size w wr) (fun _ i _ => (intOf i + 1).toNat)
  case atStart => exact ⟨0, (nb : Int) - 1, Nat.zero_le _, by omega, rfl, rfl, by simpa [revTo, cellsC] using hown1, s2, s4⟩
  case round =>
    obtain ⟨k, x, hk, hx, rfl, rfl, hown, hbox, hbel⟩ := hrel
    have hzr := hbel.size
    have hgm := (hown.lt _ rfl).2
    by_cases hlt : 0 ≤ x
    · obtain ⟨j, rfl⟩ : ∃ j : Nat, x = j := ⟨x.toNat, by omega⟩
      have hjn : j < nb := by omega
      obtain ⟨c, hc⟩ : ∃ c, b[j]? = some c := ⟨_, List.getElem?_eq_getElem (by rw [HNB.out]; exact hjn)⟩
      obtain ⟨c1, c2, c3, c4⟩ := (HRB.out.below hbel hgbl).at hc
      have HS : Hid (cellsC (revTo hi b (k + 1)) = cellsC (revTo hi b k) ++ [.int .i64 c.row, .int .i64 c.col, .bool (!c.up), .bool (if hi then !c.head else c.head)]) := by
        show _ = _
        rw [revTo_succ hi b k j c (by rw [HNB.out]; omega) hc, cellsC_append]
        rfl
      have k1 : (j : Int) < (nb : Int) := by omega
      clear hc
      go_wp2_with fail
      refine (HT.out c.row c.col c.up c.head _).mono ?_
      rintro e w2 ⟨rfl, hb2⟩
      obtain ⟨hd, hhd⟩ : ∃ hd, hd = (if hi then !c.head else c.head) := ⟨_, rfl⟩
      rw [← hhd] at HS ⊢
      clear hhd
      have hown2 := ownsRow_of_block hown (hb2.block _ hgm)
      have hbox2 := (hb2.cell (p := ⟨w.heap.size, 0, none⟩) (by show w.heap.size < _; omega)).trans hbox
      have hz2 := hb2.size
      go_wp2_with (at_builtin; refine wpList_append_fits _ rfl _ _ 31 rfl w.heap.size 35 i0 4 Try.underlying31 HI.out HZ1.out (w.heap.size + 1) k (na + nb) _ rfl (hown2.alloc _) ⟨w2.heap.size, 0, none⟩ 1 1 [.int .i64 c.row, .int .i64 c.col, .bool (!c.up), .bool hd] rfl rfl (cells_new4 _ _ _ _ _ _) (by simp [Value.oneCell']) (by omega) ?_; intro w3 hown3 hgr3)
      have hbel3 : Below w.heap.size w w3 := below_grown_at' ((hbel.trans (hb2.mono hzr)).alloc (by omega) _) hgr3 (by simp; omega) (by omega)
      have hbox3 : w3.cell? ⟨w.heap.size, 0, none⟩ = some (.slice (some ⟨gb, 0, none⟩) nb cb) := (World.cell?_of_block (a := ⟨w.heap.size, 0, none⟩) ((hgr3.block w.heap.size (by simp; omega) (by simp)).trans (Below.heap_alloc w2 _ _ (by omega)))).trans hbox2
      go_roundw
      case rel => exact ⟨k + 1, j - 1, by omega, by omega, by go_num, by go_num, by rw [HS.out]; exact hown3, hbox3, hbel3⟩
      case measure => first | (simp [intOf]; done) | (simp [intOf]; omega)
    · obtain rfl : k = nb := by omega
      have hp2 := (hbel.cell (p := ⟨p, 0, none⟩) hpl).trans (HSP.out.1)
      have hpf2 := (hbel.frozen (p := ⟨p, 0, none⟩) hpl).trans (HSP.out.2)
      have hra2 := HRA.out.below hbel hgal
      cases un with
      | true =>
        go_wp2_with (at_builtin; refine wpList_append_fits _ rfl _ _ 31 rfl w.heap.size 35 i0 4 Try.underlying31 HI.out HZ1.out (w.heap.size + 1) k (na + k) _ rfl hown ⟨ga, 0, none⟩ na ca (cellsC a) rfl HLA.out hra2.news (cellsC_one a) (by omega) ?_; intro w3 hown3 hgr3; obtain ⟨hbel3, hp3, hpf3⟩ := join_fit hbel hgr3 hp2 hpf2 hpl)
        go_end0
        rw [HPU.out]
        refine joined_end hbel3 hp3 hpl (by omega) (by rw [List.length_append, HRL.out, HNA.out]) ?_
        rw [cellsC_append]
        exact hown3
      | false =>
        have tok1 : True := trivial
        have tok2 : True := trivial
        go_wp2_with (first
          | (at_make; refine wpList_make_own _ rfl _ _ 31 rfl w.heap.size 35 i0 _ 4 Try.underlying31 HI.out HZ0.out HZ1.out _ _ _ (na + k) rfl rfl (by omega) (by rw [HZ2.out]; omega) (by unfold maxLen; omega) hzr ?_; intro w3 hown3 hgr3; obtain ⟨hbel3, hp3, hpf3, hra3, hown4, hz3⟩ := join_mk hbel hgr3 hp2 hpf2 hpl HRA.out hown)
          | (at_builtin; have _t := tok1; refine wpList_append_fits _ rfl _ _ 31 rfl w.heap.size 35 i0 4 Try.underlying31 HI.out HZ1.out wr.heap.size 0 (na + k) _ rfl hown3 ⟨ga, 0, none⟩ na ca (cellsC a) rfl HLA.out hra3.news (cellsC_one a) (by omega) ?_; intro w5 hown5 hgr5; clear tok1 _t; simp only [Nat.zero_add, List.nil_append] at hown5 ⊢; obtain ⟨hbel5, hp5, hpf5, hrr5⟩ := join_fit2 hbel3 hgr5 hp3 hpf3 hpl hzr hown4 hgm)
          | (at_builtin; have _t := tok2; refine wpList_append_fits _ rfl _ _ 31 rfl w.heap.size 35 i0 4 Try.underlying31 HI.out HZ1.out wr.heap.size na (na + k) _ rfl hown5 ⟨w.heap.size + 1, 0, none⟩ k (na + k) (cellsC (revTo hi b k)) rfl HLR.out hrr5.news (cellsC_one _) (by omega) ?_; intro w6 hown6 hgr6; clear tok2 _t; obtain ⟨hbel6, hp6, hpf6, _⟩ := join_fit2 hbel5 hgr6 hp5 hpf5 hpl hzr hrr5 hgm))
        go_end0
        rw [HPO.out]
        refine joined_end hbel6 hp6 hpl hzr (by rw [List.length_append, HRL.out, HNA.out]) ?_
        rw [cellsC_append]
        exact hown6
set_option maxRecDepth 100000 in
set_option maxHeartbeats 4000000 in
theorem joinH (p ga na ca gb nb cb : Nat) (a b : List Cel) (un hi : Bool) (w : World) (hna : a.length = na) (hnb : b.length = nb) (ha1 : 1 ≤ na) (hb1 : 1 ≤ nb) (ha2 : na ≤ 32) (hb2 : nb ≤ 32)
    (ht : ∀ (row col : Int) (up head : Bool) (w : World), Calls Try.prog 75 #[.agg #[.int .i64 row, .int .i64 col, .bool up, .bool head]] w fun e w' => e = .returned (.agg #[.int .i64 row, .int .i64 col, .bool (!up), .bool (if hi then !head else head)]) ∧ Below w.heap.size w w')
    (hp : w.cell? ⟨p, 0, none⟩ = some (.slice (some ⟨ga, 0, none⟩) na ca)) (hpf : w.frozen? ⟨p, 0, none⟩ = false) (hra : RowC w ga a) (hrb : RowC w gb b) :
    Calls Try.prog 73 #[.pointer (some ⟨p, 0, none⟩), .agg #[.slice (some ⟨gb, 0, none⟩) nb cb], .bool un, .func (.func 75) #[] #[]] w (Joined w p (putC un hi a b)) := by
  obtain ⟨i0, hi0, hz0, hz1, hz2⟩ := info_parts infoCell
  have HI := Lib.hid hi0; have HZ0 := Lib.hid hz0; have HZ1 := Lib.hid hz1; have HZ2 := Lib.hid hz2
  have hpl := World.block_lt_of_cell? w _ hp
  have HNA := Lib.hid hna
  have HNB := Lib.hid hnb
  have HLA : Hid ((cellsC a).length = na * 4) := by show _ = _; rw [cellsC_length, hna]
  have HRL : Hid ((revTo hi b nb).length = nb) := revTo_length _ _ _ (by omega)
  have HLR : Hid ((cellsC (revTo hi b nb)).length = nb * 4) := by show _ = _; rw [cellsC_length, HRL.out]
  have HPU : Hid (putC true hi a b = revTo hi b nb ++ a) := by show _ = _; unfold putC; rw [← hnb, revTo_full]; rfl
  have HPO : Hid (putC false hi a b = a ++ revTo hi b nb) := by show _ = _; unfold putC; rw [← hnb, revTo_full]; rfl
  have HPL : Hid (∀ un, (putC un hi a b).length = na + nb) := fun un => by rw [putC_length, hna, hnb]
  have HT := Lib.hid ht
  clear hi0 hz0 hz1 hz2 hna hnb ht
  have hpl : p < w.heap.size := hpl
  obtain ⟨w1, hrun, hown1, hgr1⟩ := run_make_own (P := Try.prog) (w.alloc (.cells #[.slice (some ⟨gb, 0, none⟩) nb cb] 63)).drew w.heap.size 31 35 i0 _ 4 Try.underlying31 HI.out HZ0.out HZ1.out .i64 .i64 (na + nb) (by rw [HZ2.out]; omega) (by unfold maxLen; omega) (by simp)
  rw [Int.natCast_add] at hrun
  have q1 : IntKind.i64.wrap ((na : Int) + (nb : Int)) = (na : Int) + (nb : Int) := by rw [IntKind.wrap_i64]; omega
  obtain ⟨s1, s2, s3, s4, s5, s6, s7⟩ := join_made hp hpf hpl hgr1 hra hrb rfl
  have e1 : (w.alloc (.cells #[.slice (some ⟨gb, 0, none⟩) nb cb] 63)).drew.heap.size = w.heap.size + 1 := by show (w.alloc _).heap.size = _; simp
  rw [e1] at hown1 hrun
  have HSA : Hid (∀ o, (w.alloc o).cell? ⟨p, 0, none⟩ = some (.slice (some ⟨ga, 0, none⟩) na ca)) := fun o => (((Below.refl _ w).alloc (Nat.le_refl _) o).cell (p := ⟨p, 0, none⟩) hpl).trans hp
  have HSP : Hid (w.cell? ⟨p, 0, none⟩ = some (.slice (some ⟨ga, 0, none⟩) na ca) ∧ w.frozen? ⟨p, 0, none⟩ = false) := ⟨hp, hpf⟩
  have HRA := Lib.hid hra
  have HRB := Lib.hid hrb
  have hgal := hra.1
  have hgbl := hrb.1
  clear e1 hgr1 hra hrb s5 s6 s7 hp hpf
  have hnn : w.heap.size ≠ p := by omega
  go_enter Try.func73, Try.ntmps73
  go_wp2_with fail
  go_region_held3 (fun w' => w'.cell? ⟨p, 0, none⟩ = some (.slice (some ⟨ga, 0, none⟩) na ca) ∧ w'.cell? ⟨w.heap.size, 0, none⟩ = some (.slice (some ⟨gb, 0, none⟩) nb cb))
    (first | exact ⟨HSA.out _, World.cell?_alloc_mark w _ _ (0, 0) 0⟩ | exact ⟨s1, s2⟩)
    (fail)
  clear q1 hrun
  go_wp2_with fail
  go_loopw [8, 9] (fun v i wr => ∃ k : Nat, ∃ x : Int, k ≤ nb ∧ x + k + 1 = nb ∧ i = .int .i64 x ∧ v = .slice (some ⟨w.heap.size + 1, 0, none⟩) k (na + nb) ∧
      wr.ownsRow w.heap.size 35 4 (.slice (some ⟨w.heap.size + 1, 0, none⟩) k (na + nb)) k (cellsC (revTo hi b k)) ∧ wr.cell? ⟨w.heap.size, 0, none⟩ = some (.slice (some ⟨gb, 0, none⟩) nb cb) ∧ Below w.heap.size w wr) (fun _ i _ => (intOf i + 1).toNat)
  case atStart => exact ⟨0, (nb : Int) - 1, Nat.zero_le _, by omega, rfl, rfl, by simpa [revTo, cellsC] using hown1, s2, s4⟩
  case round =>
    obtain ⟨k, x, hk, hx, rfl, rfl, hown, hbox, hbel⟩ := hrel
    have hzr := hbel.size
    have hgm := (hown.lt _ rfl).2
    by_cases hlt : 0 ≤ x
    · obtain ⟨j, rfl⟩ : ∃ j : Nat, x = j := ⟨x.toNat, by omega⟩
      have hjn : j < nb := by omega
      obtain ⟨c, hc⟩ : ∃ c, b[j]? = some c := ⟨_, List.getElem?_eq_getElem (by rw [HNB.out]; exact hjn)⟩
      obtain ⟨c1, c2, c3, c4⟩ := (HRB.out.below hbel hgbl).at hc
      have HS : Hid (cellsC (revTo hi b (k + 1)) = cellsC (revTo hi b k) ++ [.int .i64 c.row, .int .i64 c.col, .bool (!c.up), .bool (if hi then !c.head else c.head)]) := by
        show _ = _
        rw [revTo_succ hi b k j c (by rw [HNB.out]; omega) hc, cellsC_append]
        rfl
      have k1 : (j : Int) < (nb : Int) := by omega
      clear hc
      go_wp2_with fail
      refine (HT.out c.row c.col c.up c.head _).mono ?_
      rintro e w2 ⟨rfl, hb2⟩
      obtain ⟨hd, hhd⟩ : ∃ hd, hd = (if hi then !c.head else c.head) := ⟨_, rfl⟩
      rw [← hhd] at HS ⊢
      clear hhd
      have hown2 := ownsRow_of_block hown (hb2.block _ hgm)
      have hbox2 := (hb2.cell (p := ⟨w.heap.size, 0, none⟩) (by show w.heap.size < _; omega)).trans hbox
      have hz2 := hb2.size
      go_wp2_with (at_builtin; refine wpList_append_fits _ rfl _ _ 31 rfl w.heap.size 35 i0 4 Try.underlying31 HI.out HZ1.out (w.heap.size + 1) k (na + nb) _ rfl (hown2.alloc _) ⟨w2.heap.size, 0, none⟩ 1 1 [.int .i64 c.row, .int .i64 c.col, .bool (!c.up), .bool hd] rfl rfl (cells_new4 _ _ _ _ _ _) (by simp [Value.oneCell']) (by omega) ?_; intro w3 hown3 hgr3)
      have hbel3 : Below w.heap.size w w3 := below_grown_at' ((hbel.trans (hb2.mono hzr)).alloc (by omega) _) hgr3 (by simp; omega) (by omega)
      have hbox3 : w3.cell? ⟨w.heap.size, 0, none⟩ = some (.slice (some ⟨gb, 0, none⟩) nb cb) := (World.cell?_of_block (a := ⟨w.heap.size, 0, none⟩) ((hgr3.block w.heap.size (by simp; omega) (by simp)).trans (Below.heap_alloc w2 _ _ (by omega)))).trans hbox2
      go_roundw
      case rel => exact ⟨k + 1, j - 1, by omega, by omega, by go_num, by go_num, by rw [HS.out]; exact hown3, hbox3, hbel3⟩
      case measure => first | (simp [intOf]; done) | (simp [intOf]; omega)
    · obtain rfl : k = nb := by omega
      have hp2 := (hbel.cell (p := ⟨p, 0, none⟩) hpl).trans (HSP.out.1)
      have hpf2 := (hbel.frozen (p := ⟨p, 0, none⟩) hpl).trans (HSP.out.2)
      have hra2 := HRA.out.below hbel hgal
      cases un with
      | true =>
        go_wp2_with (at_builtin; refine wpList_append_fits _ rfl _ _ 31 rfl w.heap.size 35 i0 4 Try.underlying31 HI.out HZ1.out (w.heap.size + 1) k (na + k) _ rfl hown ⟨ga, 0, none⟩ na ca (cellsC a) rfl HLA.out hra2.news (cellsC_one a) (by omega) ?_; intro w3 hown3 hgr3; obtain ⟨hbel3, hp3, hpf3⟩ := join_fit hbel hgr3 hp2 hpf2 hpl)
        go_end0
        rw [HPU.out]
        refine joined_end hbel3 hp3 hpl (by omega) (by rw [List.length_append, HRL.out, HNA.out]) ?_
        rw [cellsC_append]
        exact hown3
      | false =>
        have tok1 : True := trivial
        have tok2 : True := trivial
        go_wp2_with (first
          | (at_make; refine wpList_make_own _ rfl _ _ 31 rfl w.heap.size 35 i0 _ 4 Try.underlying31 HI.out HZ0.out HZ1.out _ _ _ (na + k) rfl rfl (by omega) (by rw [HZ2.out]; omega) (by unfold maxLen; omega) hzr ?_; intro w3 hown3 hgr3; obtain ⟨hbel3, hp3, hpf3, hra3, hown4, hz3⟩ := join_mk hbel hgr3 hp2 hpf2 hpl HRA.out hown)
          | (at_builtin; have _t := tok1; refine wpList_append_fits _ rfl _ _ 31 rfl w.heap.size 35 i0 4 Try.underlying31 HI.out HZ1.out wr.heap.size 0 (na + k) _ rfl hown3 ⟨ga, 0, none⟩ na ca (cellsC a) rfl HLA.out hra3.news (cellsC_one a) (by omega) ?_; intro w5 hown5 hgr5; clear tok1 _t; simp only [Nat.zero_add, List.nil_append] at hown5 ⊢; obtain ⟨hbel5, hp5, hpf5, hrr5⟩ := join_fit2 hbel3 hgr5 hp3 hpf3 hpl hzr hown4 hgm)
          | (at_builtin; have _t := tok2; refine wpList_append_fits _ rfl _ _ 31 rfl w.heap.size 35 i0 4 Try.underlying31 HI.out HZ1.out wr.heap.size na (na + k) _ rfl hown5 ⟨w.heap.size + 1, 0, none⟩ k (na + k) (cellsC (revTo hi b k)) rfl HLR.out hrr5.news (cellsC_one _) (by omega) ?_; intro w6 hown6 hgr6; clear tok2 _t; obtain ⟨hbel6, hp6, hpf6, _⟩ := join_fit2 hbel5 hgr6 hp5 hpf5 hpl hzr hrr5 hgm))
        go_end0
        rw [HPO.out]
        refine joined_end hbel6 hp6 hpl hzr (by rw [List.length_append, HRL.out, HNA.out]) ?_
        rw [cellsC_append]
        exact hown6
end Go.Proofs.Ytdgkjlehofkooaa
