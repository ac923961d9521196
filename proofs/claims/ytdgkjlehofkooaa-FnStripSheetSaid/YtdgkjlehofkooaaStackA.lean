/- Stacks of cells: the plain words, how they lie in memory, and the walks of the reference's functions that turn a stack over and put two together. Conditions: each theorem's own premises. -/
import Derived.Test.YtdgkjlehofkooaaSheetA
import Derived.Maps.AppendAt
import Derived.Deep.RegionHeld3
import Derived.Deep.AppendLies
namespace Go.Proofs.Ytdgkjlehofkooaa
set_option maxRecDepth 100000
open Go.RowKit
/-- A cell as it lies in a stack. -/
structure Cel where
  row : Int
  col : Int
  up : Bool
  head : Bool
/-- A cell that is turned over; hi: by a fold of the height. -/
def turnC (hi : Bool) (x : Cel) : Cel := ⟨x.row, x.col, !x.up, if hi then !x.head else x.head⟩
/-- The stack of the half that stays and the half that moves. -/
def putC (un hi : Bool) (a b : List Cel) : List Cel := if un then b.reverse.map (turnC hi) ++ a else a ++ b.reverse.map (turnC hi)
theorem putC_length (un hi : Bool) (a b : List Cel) : (putC un hi a b).length = a.length + b.length := by
  unfold putC
  cases un <;> simp <;> omega
/-- The memory cells of a list of cells. -/
def cellsC : List Cel → List Value
  | [] => []
  | x :: r => .int .i64 x.row :: .int .i64 x.col :: .bool x.up :: .bool x.head :: cellsC r
theorem cellsC_append : ∀ a b : List Cel, cellsC (a ++ b) = cellsC a ++ cellsC b
  | [], _ => rfl
  | p :: r, b => by
    show _ :: _ :: _ :: _ :: cellsC (r ++ b) = _
    rw [cellsC_append r b]
    rfl
theorem cellsC_length : ∀ a : List Cel, (cellsC a).length = a.length * 4
  | [] => rfl
  | p :: r => by
    show (cellsC r).length + 1 + 1 + 1 + 1 = (r.length + 1) * 4
    rw [cellsC_length r]
    omega
theorem cellsC_get : ∀ (a : List Cel) (i : Nat) (p : Cel), a[i]? = some p → (cellsC a)[i * 4]? = some (.int .i64 p.row) ∧ (cellsC a)[i * 4 + 1]? = some (.int .i64 p.col) ∧ (cellsC a)[i * 4 + 2]? = some (.bool p.up) ∧ (cellsC a)[i * 4 + 3]? = some (.bool p.head)
  | [], _, _, h => by simp at h
  | q :: r, 0, p, h => by
    have : q = p := by simpa using h
    subst this
    exact ⟨rfl, rfl, rfl, rfl⟩
  | q :: r, i + 1, p, h => by
    have := cellsC_get r i p (by simpa using h)
    rw [show (i + 1) * 4 = i * 4 + 1 + 1 + 1 + 1 from by omega]
    exact this
theorem cellsC_one : ∀ (a : List Cel), ∀ v ∈ cellsC a, Value.oneCell' v = true
  | [], v, h => by simp [cellsC] at h
  | p :: r, v, h => by
    simp only [cellsC, List.mem_cons] at h
    rcases h with rfl | rfl | rfl | rfl | h
    · rfl
    · rfl
    · rfl
    · rfl
    · exact cellsC_one r v h
theorem infoCell : (Try.prog.info? 35).map (fun i => (i.zero, i.size, i.bytes)) = some (some (.agg #[.int .i64 0, .int .i64 0, .bool false, .bool false]), 4, 24) := by kernel_rfl
theorem ownsRow_of_block {w w' : World} {base g n cap size : Nat} {e : TypeId} {xs : List Value} (h : w.ownsRow base e size (.slice (some ⟨g, 0, none⟩) n cap) n xs) (hb : w'.heap[g]? = w.heap[g]?) : w'.ownsRow base e size (.slice (some ⟨g, 0, none⟩) n cap) n xs := by
  refine ⟨h.1, ?_⟩
  rcases h.2 with ⟨h', _⟩ | ⟨g', cap', cur, h', r1, r2, r⟩
  · simp at h'
  · simp only [Value.slice.injEq, Option.some.injEq, Addr.mk.injEq, and_true, true_and] at h'
    obtain ⟨rfl, rfl⟩ := h'
    exact .inr ⟨g, cap, cur, rfl, r1, hb.trans r2, r⟩
theorem own_mono {w : World} {base base' n size : Nat} {e : TypeId} {v : Value} {xs : List Value} (h : w.ownsRow base e size v n xs) (hb : base' ≤ base) : w.ownsRow base' e size v n xs := by
  refine ⟨h.1, ?_⟩
  rcases h.2 with h0 | ⟨g', cap', cur, h', r1, r⟩
  · exact .inl h0
  · exact .inr ⟨g', cap', cur, h', Nat.le_trans hb r1, r⟩
theorem own_at {w : World} {base n size g cap : Nat} {e : TypeId} {xs : List Value} (h : w.ownsRow base e size (.slice (some ⟨g, 0, none⟩) n cap) n xs) {j : Nat} {u : Value} (hj : xs[j]? = some u) : w.cell? ⟨g, j, none⟩ = some u := by
  have hl := (List.getElem?_eq_some_iff.1 hj).1
  rw [h.1] at hl
  rw [h.cellAt j hl, hj]
theorem own_form {w : World} {base n size : Nat} {e : TypeId} {v : Value} {xs : List Value} (h : w.ownsRow base e size v n xs) (hn : 0 < n) : ∃ g cap, v = .slice (some ⟨g, 0, none⟩) n cap ∧ base ≤ g ∧ g < w.heap.size := by
  rcases h.2 with ⟨_, h0⟩ | ⟨g, cap, cur, rfl, h1, _⟩
  · omega
  · exact ⟨g, cap, rfl, h1, (h.lt g rfl).2⟩
theorem cells_new4 (w : World) (a b c d : Value) (T : TypeId) : ∀ j u, [a, b, c, d][j]? = some u → (w.alloc (.cells #[a, b, c, d] T)).cell? ((⟨w.heap.size, 0, none⟩ : Addr).add j) = some u := by
  intro j u h
  have e : (⟨w.heap.size, 0, none⟩ : Addr).add j = ⟨w.heap.size, j, none⟩ := by
    unfold Addr.add
    by_cases h0 : j = 0
    · subst h0; rfl
    · simp [h0]
  rw [e]
  refine (World.cell?_alloc_mark w _ T (0, 0) j).trans ?_
  simpa using h
theorem int_eq {k : IntKind} {a b : Int} (h : a = b) : Value.int k a = .int k b := by rw [h]
/-- Block g reads as these cells, from its head on. -/
def RowC (w : World) (g : Nat) (a : List Cel) : Prop := g < w.heap.size ∧ ∀ j u, (cellsC a)[j]? = some u → w.cell? ⟨g, j, none⟩ = some u
theorem RowC.at {w : World} {g : Nat} {a : List Cel} (h : RowC w g a) {i : Nat} {p : Cel} (hp : a[i]? = some p) :
    w.cell? ⟨g, i * 4, none⟩ = some (.int .i64 p.row) ∧ w.cell? ⟨g, i * 4 + 1, none⟩ = some (.int .i64 p.col) ∧ w.cell? ⟨g, i * 4 + 2, none⟩ = some (.bool p.up) ∧ w.cell? ⟨g, i * 4 + 3, none⟩ = some (.bool p.head) := by
  obtain ⟨h1, h2, h3, h4⟩ := cellsC_get a i p hp
  exact ⟨h.2 _ _ h1, h.2 _ _ h2, h.2 _ _ h3, h.2 _ _ h4⟩
theorem RowC.keep {w w' : World} {g : Nat} {a : List Cel} (h : RowC w g a) (hb : w'.heap[g]? = w.heap[g]?) : RowC w' g a :=
  ⟨by
    have h1 := h.1
    rw [Array.getElem?_eq_getElem h1] at hb
    exact (Array.getElem?_eq_some_iff.1 hb).1, fun j u hu => (World.cell?_of_block (a := ⟨g, j, none⟩) hb).trans (h.2 j u hu)⟩
theorem RowC.below {w w' : World} {g B : Nat} {a : List Cel} (h : RowC w g a) (hb : Below B w w') (hg : g < B) : RowC w' g a := h.keep (hb.block g hg)
theorem RowC.of_own {w : World} {base g n cap : Nat} {e : TypeId} {a : List Cel} (h : w.ownsRow base e 4 (.slice (some ⟨g, 0, none⟩) n cap) n (cellsC a)) : RowC w g a :=
  ⟨(h.lt g rfl).2, fun _ _ hu => own_at h hu⟩
theorem below_grown_at' {B g : Nat} {a w w' : World} (h : Below B a w) (hg : w.grownBy w' (some g)) (hB : B ≤ w.heap.size) (hr : B ≤ g) : Below B a w' := h.grown hg hB (by intro k hk; cases hk; exact hr)
/-- A stack has come back, in a block from base on. -/
def CellsBack (w : World) (a : List Cel) (e : Ending) (w' : World) : Prop :=
  ∃ g cap : Nat, e = .returned (.slice (some ⟨g, 0, none⟩) a.length cap) ∧ w.heap.size ≤ g ∧ w'.ownsRow w.heap.size 35 4 (.slice (some ⟨g, 0, none⟩) a.length cap) a.length (cellsC a) ∧ Below w.heap.size w w'
/-- The first k cells of a stack turned over. -/
def revTo (hi : Bool) (b : List Cel) (k : Nat) : List Cel := (b.reverse.take k).map (turnC hi)
theorem revTo_length (hi : Bool) (b : List Cel) (k : Nat) (h : k ≤ b.length) : (revTo hi b k).length = k := by
  unfold revTo
  simp
  omega
theorem revTo_succ (hi : Bool) (b : List Cel) (k j : Nat) (p : Cel) (h : j + k + 1 = b.length) (hp : b[j]? = some p) : revTo hi b (k + 1) = revTo hi b k ++ [turnC hi p] := by
  unfold revTo
  have hr : b.reverse[k]? = some p := by
    rw [List.getElem?_reverse (by omega)]
    rw [show b.length - 1 - k = j from by omega]
    exact hp
  have hk : k < b.reverse.length := by simp; omega
  rw [List.take_succ_eq_append_getElem hk, List.map_append]
  rw [List.getElem?_eq_getElem hk] at hr
  rw [Option.some.inj hr]
  rfl
theorem revTo_full (hi : Bool) (b : List Cel) : revTo hi b b.length = b.reverse.map (turnC hi) := by
  unfold revTo
  rw [List.take_of_length_le (by simp)]
set_option maxHeartbeats 4000000 in
theorem l4Turned (g n c : Nat) (b : List Cel) (hi : Bool) (w : World) (hn : b.length = n) (hn2 : n ≤ 1000) (hr : RowC w g b) :
    Calls Try.prog 79 #[.slice (some ⟨g, 0, none⟩) n c, .bool hi] w (CellsBack w (revTo hi b n)) := by
  obtain ⟨i0, hi0, hz0, hz1, hz2⟩ := info_parts infoCell
  have HI := Lib.hid hi0; have HZ0 := Lib.hid hz0; have HZ1 := Lib.hid hz1; have HZ2 := Lib.hid hz2
  have HN := Lib.hid hn
  have HR := Lib.hid hr
  have hgl := hr.1
  clear hi0 hz0 hz1 hz2 hn hr
  go_enter Try.func79, Try.ntmps79
  go_wp2_with fail
  go_loopw [5, 6] (fun v i wr => ∃ k g' cap : Nat, ∃ x : Int, k ≤ n ∧ x + k + 1 = n ∧ i = .int .i64 x ∧ v = .slice (some ⟨g', 0, none⟩) k cap ∧ wr.ownsRow w.heap.size 35 4 (.slice (some ⟨g', 0, none⟩) k cap) k (cellsC (revTo hi b k)) ∧ w.heap.size ≤ g' ∧ Below w.heap.size w wr)
    (fun _ i _ => (intOf i + 1).toNat)
  case atStart => exact ⟨0, w.heap.size, 0, n - 1, Nat.zero_le _, by omega, rfl, rfl, by
    have := World.ownsRow_lit (base := w.heap.size) (e := 35) (size := 4) w #[] 0 (Nat.le_refl _) (by unfold maxLen; omega) rfl
    simpa [revTo, cellsC] using this, Nat.le_refl _, (by repeat (first | exact Below.refl _ _ | assumption | (refine Below.setCell ?_ (by first | omega | (simp; done) | (simp; omega)) _) | (refine Below.alloc ?_ (by first | omega | (simp; done) | (simp; omega)) _) | (refine below_drewN ?_ _) | (refine Below.drew ?_)))⟩
  case round =>
    obtain ⟨k, g', cap, x, hk, hx, rfl, rfl, hown, hg, hbel⟩ := hrel
    have hzr := hbel.size
    by_cases hlt : 0 ≤ x
    · obtain ⟨j, rfl⟩ : ∃ j : Nat, x = j := ⟨x.toNat, by omega⟩
      have hjn : j < n := by omega
      obtain ⟨p, hp⟩ : ∃ p, b[j]? = some p := ⟨_, List.getElem?_eq_getElem (by rw [HN.out]; exact hjn)⟩
      have hr2 := HR.out.below hbel hgl
      obtain ⟨c1, c2, c3, c4⟩ := hr2.at hp
      have HS : Hid (cellsC (revTo hi b (k + 1)) = cellsC (revTo hi b k) ++ [.int .i64 p.row, .int .i64 p.col, .bool (!p.up), .bool (if hi then !p.head else p.head)]) := by
        show _ = _
        rw [revTo_succ hi b k j p (by rw [HN.out]; omega) hp, cellsC_append]
        rfl
      have k1 : (j : Int) < (n : Int) := by omega
      clear hp hr2
      have HC1 : Hid (∀ (C : Array Value) (x4 : Value), ∀ j u, [Value.int .i64 p.row, .int .i64 p.col, .bool (!p.up), x4][j]? = some u → ((wr.alloc (.cells C 35)).alloc (.cells #[.int .i64 p.row, .int .i64 p.col, .bool (!p.up), x4] 35)).cell? ((⟨wr.heap.size + 1, 0, none⟩ : Addr).add j) = some u) := by
        intro C x4
        have := cells_new4 (wr.alloc (.cells C 35)) (.int .i64 p.row) (.int .i64 p.col) (.bool (!p.up)) x4 35
        rwa [show (wr.alloc (.cells C 35)).heap.size = wr.heap.size + 1 from by simp] at this
      cases hi with
      | false =>
        go_wp2_with (at_builtin; refine wpList_append_own _ rfl _ _ 31 rfl w.heap.size 35 i0 (.agg #[.int .i64 0, .int .i64 0, .bool false, .bool false]) 4 24 Try.underlying31 HI.out HZ0.out HZ1.out HZ2.out rfl (by decide) _ k _ rfl ((hown.alloc _).alloc _) ⟨wr.heap.size + 1, 0, none⟩ 1 1 [.int .i64 p.row, .int .i64 p.col, .bool (!p.up), .bool p.head] rfl rfl (HC1.out _ _) (by simp [Value.oneCell']) (by unfold maxLen; omega) (by omega) (by simp; omega) ?_; intro v' w3 hown3 hgr3 _; obtain ⟨g3, cap3, hv3, hg3, hl3⟩ := own_form hown3 (by omega); subst hv3)
        have hbel3 : Below w.heap.size w w3 := below_grown_at' ((hbel.alloc hzr _).alloc (by simp; omega) _) hgr3 (by simp; omega) hg
        go_roundw
        case rel => exact ⟨k + 1, g3, cap3, j - 1, by omega, by omega, by go_num, by go_num, by rw [HS.out]; exact hown3, hg3, hbel3⟩
        case measure => first | (simp [intOf]; done) | (simp [intOf]; omega)
      | true =>
        go_wp2_with (at_builtin; refine wpList_append_own _ rfl _ _ 31 rfl w.heap.size 35 i0 (.agg #[.int .i64 0, .int .i64 0, .bool false, .bool false]) 4 24 Try.underlying31 HI.out HZ0.out HZ1.out HZ2.out rfl (by decide) _ k _ rfl ((hown.alloc _).alloc _) ⟨wr.heap.size + 1, 0, none⟩ 1 1 [.int .i64 p.row, .int .i64 p.col, .bool (!p.up), .bool (!p.head)] rfl rfl (HC1.out _ _) (by simp [Value.oneCell']) (by unfold maxLen; omega) (by omega) (by simp; omega) ?_; intro v' w3 hown3 hgr3 _; obtain ⟨g3, cap3, hv3, hg3, hl3⟩ := own_form hown3 (by omega); subst hv3)
        have hbel3 : Below w.heap.size w w3 := below_grown_at' ((hbel.alloc hzr _).alloc (by simp; omega) _) hgr3 (by simp; omega) hg
        go_roundw
        case rel => exact ⟨k + 1, g3, cap3, j - 1, by omega, by omega, by go_num, by go_num, by rw [HS.out]; exact hown3, hg3, hbel3⟩
        case measure => first | (simp [intOf]; done) | (simp [intOf]; omega)
    · obtain rfl : k = n := by omega
      have HL : Hid ((revTo hi b k).length = k) := revTo_length hi b k (by rw [HN.out]; exact Nat.le_refl _)
      go_wp2_with fail
      go_ret
      exact ⟨g', cap, by rw [HL.out]; rfl, hg, by rw [HL.out]; exact hown, hbel⟩
/-- A small letter folds under. -/
def under (c : UInt8) : Bool := decide (97 ≤ c.toNat)
theorem addr_add (g j : Nat) : (⟨g, 0, none⟩ : Addr).add j = ⟨g, j, none⟩ := by
  unfold Addr.add
  by_cases h0 : j = 0
  · subst h0; rfl
  · simp [h0]
theorem RowC.news {w : World} {g : Nat} {a : List Cel} (h : RowC w g a) : ∀ j u, (cellsC a)[j]? = some u → w.cell? ((⟨g, 0, none⟩ : Addr).add j) = some u := fun j u hu => by
  rw [addr_add]
  exact h.2 j u hu
theorem put_mid {w2 w3 : World} {C : Array Value} {T g g3 : Nat} {n c : Nat} {l : List Cel} (hgr : (w2.alloc (.cells C T)).grownBy w3 (Value.slice (some ⟨w2.heap.size, 0, none⟩) n c).ownBlock) (hat : (Value.slice (some ⟨w2.heap.size, 0, none⟩) n c).ownBlock = some g3 ∨ g3 = w2.heap.size + 1) (hrr : RowC w2 g l) :
    Below w2.heap.size w2 w3 ∧ w2.heap.size ≤ g3 ∧ RowC w3 g l ∧ w2.heap.size ≤ w3.heap.size := by
  have hb : Below w2.heap.size w2 w3 := below_grown_at' ((Below.refl _ w2).alloc (Nat.le_refl _) _) hgr (by simp) (Nat.le_refl _)
  refine ⟨hb, ?_, hrr.below hb hrr.1, hb.size⟩
  rcases hat with h | rfl
  · have : w2.heap.size = g3 := Option.some.inj h
    omega
  · omega
set_option maxHeartbeats 4000000 in
theorem l4Put (ga na ca gb nb cb : Nat) (a b : List Cel) (c : UInt8) (w : World) (hna : a.length = na) (hnb : b.length = nb) (ha1 : 1 ≤ na) (hb1 : 1 ≤ nb) (ha2 : na ≤ 1000) (hb2 : nb ≤ 1000) (hra : RowC w ga a) (hrb : RowC w gb b) :
    Calls Try.prog 78 #[.slice (some ⟨ga, 0, none⟩) na ca, .slice (some ⟨gb, 0, none⟩) nb cb, .int .u8 (c.toNat : Int)] w (CellsBack w (putC (under c) (high (c.toNat : Int)) a b)) := by
  obtain ⟨i0, hi0, hz0, hz1, hz2⟩ := info_parts infoCell
  have HI := Lib.hid hi0; have HZ0 := Lib.hid hz0; have HZ1 := Lib.hid hz1; have HZ2 := Lib.hid hz2
  have HNB := Lib.hid hnb
  have HRA := Lib.hid hra
  have HRB := Lib.hid hrb
  have HLA : Hid ((cellsC a).length = na * 4) := by show _ = _; rw [cellsC_length, hna]
  have HRL : Hid ((revTo (high (c.toNat : Int)) b nb).length = nb) := revTo_length _ _ _ (by omega)
  have HLR : Hid ((cellsC (revTo (high (c.toNat : Int)) b nb)).length = nb * 4) := by show _ = _; rw [cellsC_length, HRL.out]
  have HPU : Hid (under c = true → putC (under c) (high (c.toNat : Int)) a b = revTo (high (c.toNat : Int)) b nb ++ a) := fun h => by unfold putC; rw [h, ← hnb, revTo_full]; rfl
  have HPO : Hid (under c = false → putC (under c) (high (c.toNat : Int)) a b = a ++ revTo (high (c.toNat : Int)) b nb) := fun h => by unfold putC; rw [h, ← hnb, revTo_full]; rfl
  have HPL : Hid ((putC (under c) (high (c.toNat : Int)) a b).length = na + nb) := by show _ = _; rw [putC_length, hna, hnb]
  have hal := hra.1
  clear hi0 hz0 hz1 hz2 hna hnb hra hrb
  cases hun : under c with
  | true =>
    have t1 : (97 : Int) ≤ (c.toNat : Int) := by unfold under at hun; rw [decide_eq_true_eq] at hun; omega
    have HU := Lib.hid hun
    clear hun
    go_enter Try.func78, Try.ntmps78
    go_wp2_with fail
    refine (l4High _ _).mono ?_
    rintro e w1 ⟨rfl, rfl⟩
    go_wp2_with fail
    refine (l4Turned gb nb cb b _ _ HNB.out hb2 HRB.out).mono ?_
    rintro e w2 ⟨g, cap, rfl, hg, hown, hbel⟩
    have hra2 := HRA.out.below hbel hal
    have hz2 := hbel.size
    rw [HRL.out] at hown ⊢
    go_wp2_with (at_builtin; refine wpList_append_lies _ rfl _ _ 31 rfl w.heap.size 35 i0 (.agg #[.int .i64 0, .int .i64 0, .bool false, .bool false]) 4 24 Try.underlying31 HI.out HZ0.out HZ1.out HZ2.out rfl (by decide) _ nb _ rfl hown ⟨ga, 0, none⟩ na ca (cellsC a) rfl HLA.out hra2.news (cellsC_one a) (by omega) (by unfold maxLen; omega) (by omega) hz2 w2.heap.size rfl ?_; intro g3 cap3 w3 hown3 hgr3 hat3 _)
    go_ret
    have hg3 : w.heap.size ≤ g3 := by
      rcases hat3 with h | rfl
      · have : g = g3 := Option.some.inj h
        omega
      · exact hz2
    rw [← HU.out]
    refine ⟨g3, cap3, by rw [HPL.out, Nat.add_comm]; rfl, hg3, ?_, ?_⟩
    · rw [HPL.out, HPU.out HU.out, cellsC_append, Nat.add_comm na nb]
      exact hown3
    · exact below_grown_at' hbel hgr3 hz2 hg
  | false =>
    have t1 : ¬ (97 : Int) ≤ (c.toNat : Int) := by unfold under at hun; rw [decide_eq_false_iff_not] at hun; omega
    have HU := Lib.hid hun
    clear hun
    go_enter Try.func78, Try.ntmps78
    go_wp2_with fail
    refine (l4High _ _).mono ?_
    rintro e w1 ⟨rfl, rfl⟩
    go_wp2_with fail
    refine (l4Turned gb nb cb b _ _ HNB.out hb2 HRB.out).mono ?_
    rintro e w2 ⟨g, cap, rfl, hg, hown, hbel⟩
    have hra2 := HRA.out.below hbel hal
    have hz2 := hbel.size
    rw [HRL.out] at hown ⊢
    have hgl2 := (hown.lt g rfl).2
    have hemp : (w2.alloc (.cells #[] 35)).ownsRow w2.heap.size 35 4 (.slice (some ⟨w2.heap.size, 0, none⟩) 0 0) 0 [] := by
      have := World.ownsRow_lit (base := w2.heap.size) (e := 35) (size := 4) w2 #[] 0 (Nat.le_refl _) (by unfold maxLen; omega) rfl
      simpa using this
    have hra3 := hra2.below ((Below.refl _ w2).alloc (Nat.le_refl _) (.cells #[] 35)) (by omega)
    have hrr := RowC.of_own hown
    clear hown
    have tok1 : True := trivial
    have tok2 : True := trivial
    go_wp2_with (first
      | (at_builtin; have _t := tok1; refine wpList_append_lies _ rfl _ _ 31 rfl w2.heap.size 35 i0 (.agg #[.int .i64 0, .int .i64 0, .bool false, .bool false]) 4 24 Try.underlying31 HI.out HZ0.out HZ1.out HZ2.out rfl (by decide) _ 0 _ rfl hemp ⟨ga, 0, none⟩ na ca (cellsC a) rfl HLA.out hra3.news (cellsC_one a) (by omega) (by unfold maxLen; omega) (by omega) (by simp) (w2.heap.size + 1) (by simp) ?_; intro g3 cap3 w3 hown3 hgr3 hat3 hlt3; clear tok1 _t; simp only [Nat.zero_add, List.nil_append] at hown3 ⊢; obtain ⟨hbel3, hg3, hrr3, hz3⟩ := put_mid hgr3 hat3 hrr; clear hat3 hgr3 hrr)
      | (at_builtin; have _t := tok2; refine wpList_append_lies _ rfl _ _ 31 rfl w2.heap.size 35 i0 (.agg #[.int .i64 0, .int .i64 0, .bool false, .bool false]) 4 24 Try.underlying31 HI.out HZ0.out HZ1.out HZ2.out rfl (by decide) _ na _ rfl hown3 ⟨g, 0, none⟩ nb cap (cellsC (revTo (high (c.toNat : Int)) b nb)) rfl HLR.out hrr3.news (cellsC_one _) (by omega) (by unfold maxLen; omega) (by omega) (by omega) w3.heap.size rfl ?_; intro g4 cap4 w4 hown4 hgr4 hat4 _; clear tok2 _t))
    go_ret
    have hg4 : w.heap.size ≤ g4 := by
      rcases hat4 with h | rfl
      · have : g3 = g4 := Option.some.inj h
        omega
      · omega
    rw [← HU.out]
    refine ⟨g4, cap4, by rw [HPL.out]; rfl, hg4, ?_, ?_⟩
    · rw [HPL.out, HPO.out HU.out, cellsC_append]
      exact own_mono hown4 hz2
    · exact hbel.trans ((below_grown_at' hbel3 hgr4 (by omega) (by omega)).mono hz2)
end Go.Proofs.Ytdgkjlehofkooaa
