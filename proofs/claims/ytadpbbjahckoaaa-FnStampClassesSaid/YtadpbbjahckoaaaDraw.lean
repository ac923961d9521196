/- The walks of the reader of drawn codes: opened, a number picked, a text picked. Conditions: each theorem's own premises. -/
import Derived.Test.YtadpbbjahckoaaaChecked
import Derived.Test.YtadpbbjahckoaaaBase
import Derived.Laws.BitsAllLaws
import Derived.Laws.BitsLemmas
namespace Go.Proofs.Ytadpbbjahckoaaa
set_option maxRecDepth 100000
open Go.RowKit
theorem ofInt_i64x (a : Nat) (ha : a < 9223372036854775808) : (BitVec.ofInt 64 (a : Int)).toNat = a := by
  rw [BitVec.ofInt_natCast, BitVec.toNat_ofNat]; exact Nat.mod_eq_of_lt (by omega)
theorem i64_xor_nat (a b : Nat) (ha : a < 9223372036854775808) (hb : b < 9223372036854775808) : bits .xor .i64 (a : Int) (b : Int) = ((a ^^^ b : Nat) : Int) := by
  have hx : a ^^^ b < 2 ^ 63 := Nat.xor_lt_two_pow (by omega) (by omega)
  show IntKind.i64.wrap ((BitVec.ofInt 64 (a : Int) ^^^ BitVec.ofInt 64 (b : Int)).toNat : Int) = _
  rw [BitVec.toNat_xor, ofInt_i64x a ha, ofInt_i64x b hb, IntKind.wrap_i64]
  omega
/-- A reader has been opened in a new block. -/
def Opened (w : World) (e : Ending) (w' : World) : Prop :=
  ∃ (g : Nat) (A : Option Addr) (len cap : Nat), e = .returned (.pointer (some ⟨g, 0, none⟩)) ∧ w.heap.size ≤ g ∧ Rd w' g A len cap 0 ∧ Below w.heap.size w w'
theorem l6Open (a : Option Addr) (len cap : Nat) (z : List Int) (w : World) (hr : IsRow .u8 w a len cap z) (hc : len ≤ cap) :
    Calls Try.prog 35 #[.slice a len cap] w (Opened w) := by
  have hb := RdBytes.of_row hr
  have HB := Lib.hid hb
  clear hb hr
  by_cases hl : 2000 < len
  · have h1 : (2000 : Int) ≤ (cap : Int) := by omega
    go_enter Try.func35, Try.ntmps35
    go_wp2
    go_ret
    exact ⟨w.heap.size, a, 2000, cap, rfl, Nat.le_refl _, Rd.new _ (HB.out.less (by omega)) (Nat.le_refl _), (by repeat (first | exact Below.refl _ _ | assumption | (refine Below.setCell ?_ (by first | omega | (simp; done) | (simp; omega)) _) | (refine Below.alloc ?_ (by first | omega | (simp; done) | (simp; omega)) _) | (refine below_drewN ?_ _) | (refine Below.drew ?_)))⟩
  · go_enter Try.func35, Try.ntmps35
    go_wp2
    go_ret
    exact ⟨w.heap.size, a, len, cap, rfl, Nat.le_refl _, Rd.new _ HB.out (by omega), (by repeat (first | exact Below.refl _ _ | assumption | (refine Below.setCell ?_ (by first | omega | (simp; done) | (simp; omega)) _) | (refine Below.alloc ?_ (by first | omega | (simp; done) | (simp; omega)) _) | (refine below_drewN ?_ _) | (refine Below.drew ?_)))⟩
/-- A number from 0 to n-1 has been picked (0 if n is less than 1). -/
def Picked (w : World) (g : Nat) (A : Option Addr) (len cap p : Nat) (n : Int) (e : Ending) (w' : World) : Prop :=
  ∃ x : Nat, e = .returned (.int .i64 x) ∧ (1 ≤ n → (x : Int) < n) ∧ (n < 1 → x = 0) ∧ Rd w' g A len cap (p + 1) ∧ w.grownBy w' (some g)
set_option maxRecDepth 100000 in
set_option maxHeartbeats 2000000 in
theorem pick (g : Nat) (A : Option Addr) (len cap p : Nat) (n : Int) (w : World) (h : Rd w g A len cap p) (hp : p ≤ 100000) (hn : n ≤ 9223372036854775807) :
    Calls Try.prog 38 #[.pointer (some ⟨g, 0, none⟩), .int .i64 n] w (Picked w g A len cap p n) := by
  have hlt := h.lt
  have c0 := h.bytes
  have c1 := h.place
  have c2 := h.free
  have hs := h.short
  have hst := Lib.hid (h.step (p + 1) ((p : Int) + 1) (by omega))
  have hrow := Lib.hid h.row
  have HG : Hid (w.grownBy (w.setCell ⟨g, 1, none⟩ (.int .i64 ((p : Int) + 1))) (some g)) := grown_setCell (World.grownBy.refl w _) 1 _
  clear h
  by_cases h1 : n < 1
  · go_enter Try.func38, Try.ntmps38
    go_wp2
    go_ret
    exact ⟨0, rfl, fun h => absurd h (by omega), fun _ => rfl, hst.out, HG.out⟩
  · by_cases h0 : len = 0
    · have t0 : ((len : Int) == 0) = true := by rw [beq_iff_eq]; omega
      clear h0
      go_enter Try.func38, Try.ntmps38
      go_wp2
      go_ret
      exact ⟨0, rfl, fun _ => by omega, fun _ => rfl, hst.out, HG.out⟩
    · have t0 : ((len : Int) == 0) = false := by rw [beq_eq_false_iff_ne]; omega
      obtain ⟨b, off, rfl, hbg, hcell⟩ := hrow.out (by omega)
      by_cases hk : p < len
      · obtain ⟨v, hv, hv1, hv2⟩ := hcell p hk
        have hv' : (w.setCell ⟨g, 1, none⟩ (.int .i64 ((p : Int) + 1))).cell? ⟨b, off + p, none⟩ = some (.int .u8 v) := (World.cell?_setCell_other w ⟨g, 1, none⟩ ⟨b, off + p, none⟩ _ (by intro e; injection e; omega)).trans hv
        have hc0 : (w.setCell ⟨g, 1, none⟩ (.int .i64 ((p : Int) + 1))).cell? ⟨g, 0, none⟩ = some (.slice (some ⟨b, off, none⟩) len cap) := hst.out.bytes
        clear hcell hv
        go_enter Try.func38, Try.ntmps38
        go_wp2
        go_ret
        have hm1 := Int.emod_nonneg v (show n ≠ 0 by omega)
        have hm2 := Int.emod_lt_of_pos v (show 0 < n by omega)
        exact ⟨(v % n).toNat, ret_int (by omega), fun _ => by omega, fun h => absurd h (by omega), hst.out, HG.out⟩
      · have hi1 : p % len < len := Nat.mod_lt _ (by omega)
        have hi2 : (p * 7 + 3) % len < len := Nat.mod_lt _ (by omega)
        obtain ⟨v, hv, hv1, hv2⟩ := hcell _ hi1
        obtain ⟨u, hu, hu1, hu2⟩ := hcell _ hi2
        have hv' : (w.setCell ⟨g, 1, none⟩ (.int .i64 ((p : Int) + 1))).cell? ⟨b, off + p % len, none⟩ = some (.int .u8 v) := (World.cell?_setCell_other w ⟨g, 1, none⟩ ⟨b, off + p % len, none⟩ _ (by intro e; injection e; omega)).trans hv
        have hu' : (w.setCell ⟨g, 1, none⟩ (.int .i64 ((p : Int) + 1))).cell? ⟨b, off + (p * 7 + 3) % len, none⟩ = some (.int .u8 u) := (World.cell?_setCell_other w ⟨g, 1, none⟩ ⟨b, off + (p * 7 + 3) % len, none⟩ _ (by intro e; injection e; omega)).trans hu
        have hc0 : (w.setCell ⟨g, 1, none⟩ (.int .i64 ((p : Int) + 1))).cell? ⟨g, 0, none⟩ = some (.slice (some ⟨b, off, none⟩) len cap) := hst.out.bytes
        clear hcell hv hu
        have a1 : 0 ≤ (p : Int) % (len : Int) := Int.emod_nonneg _ (by omega)
        have a2 : (p : Int) % (len : Int) < (len : Int) := Int.emod_lt_of_pos _ (by omega)
        have a3 : ((p : Int) % (len : Int)).toNat = p % len := by omega
        have b1 : 0 ≤ ((p : Int) * 7 + 3) % (len : Int) := Int.emod_nonneg _ (by omega)
        have b2 : ((p : Int) * 7 + 3) % (len : Int) < (len : Int) := Int.emod_lt_of_pos _ (by omega)
        have b3 : (((p : Int) * 7 + 3) % (len : Int)).toNat = (p * 7 + 3) % len := by
          have : ((p : Int) * 7 + 3) % (len : Int) = (((p * 7 + 3) % len : Nat) : Int) := by simp
          omega
        have d1 : 0 ≤ (p : Int) / (len : Int) := Int.ediv_nonneg (by omega) (by omega)
        have d2 : (p : Int) / (len : Int) ≤ 100000 := Int.le_trans (Int.ediv_le_self _ (by omega)) (by omega)
        have w1 : IntKind.i64.wrap (v * 131) = v * 131 := by rw [IntKind.wrap_i64]; omega
        have w2 : IntKind.i64.wrap ((p : Int) * 7) = (p : Int) * 7 := by rw [IntKind.wrap_i64]; omega
        have w3 : IntKind.i64.wrap ((p : Int) * 7 + 3) = (p : Int) * 7 + 3 := by rw [IntKind.wrap_i64]; omega
        have w4 : IntKind.i64.wrap (u * 1117) = u * 1117 := by rw [IntKind.wrap_i64]; omega
        have w5 : IntKind.i64.wrap (v * 131 + u * 1117) = v * 131 + u * 1117 := by rw [IntKind.wrap_i64]; omega
        have w6 : IntKind.i64.wrap ((p : Int) * 29) = (p : Int) * 29 := by rw [IntKind.wrap_i64]; omega
        have w7 : IntKind.i64.wrap (v * 131 + u * 1117 + (p : Int) * 29) = v * 131 + u * 1117 + (p : Int) * 29 := by rw [IntKind.wrap_i64]; omega
        have w8 : IntKind.i64.wrap ((p : Int) / (len : Int) * 53) = (p : Int) / (len : Int) * 53 := by rw [IntKind.wrap_i64]; omega
        have w9 : IntKind.i64.wrap (v * 131 + u * 1117 + (p : Int) * 29 + (p : Int) / (len : Int) * 53) = v * 131 + u * 1117 + (p : Int) * 29 + (p : Int) / (len : Int) * 53 := by rw [IntKind.wrap_i64]; omega
        have p7 : 0 ≤ (p : Int) * 7 + 3 := by omega
        obtain ⟨y, hy⟩ : ∃ y : Nat, bits .xor .i64 (v * 131 + u * 1117 + (p : Int) * 29 + (p : Int) / (len : Int) * 53) ((v * 131 + u * 1117 + (p : Int) * 29 + (p : Int) / (len : Int) * 53) / 64) = (y : Int) := by
          obtain ⟨X, hX⟩ : ∃ X : Nat, v * 131 + u * 1117 + (p : Int) * 29 + (p : Int) / (len : Int) * 53 = (X : Int) := ⟨(v * 131 + u * 1117 + (p : Int) * 29 + (p : Int) / (len : Int) * 53).toNat, by omega⟩
          refine ⟨X ^^^ (X / 64), ?_⟩
          rw [hX, show (X : Int) / 64 = ((X / 64 : Nat) : Int) from by omega]
          exact i64_xor_nat X (X / 64) (by omega) (by omega)
        have sp : 0 ≤ v * 131 + u * 1117 + (p : Int) * 29 + (p : Int) / (len : Int) * 53 := by omega
        go_enter Try.func38, Try.ntmps38
        go_wp2
        go_quiet (fail)
        clear w1 w2 w3 w4 w5 w6 w7 w8 w9 a3 b3
        go_wp2
        go_ret
        have hm1 := Int.emod_nonneg (y : Int) (show n ≠ 0 by omega)
        have hm2 := Int.emod_lt_of_pos (y : Int) (show 0 < n by omega)
        exact ⟨((y : Int) % n).toNat, ret_int (by omega), fun _ => by omega, fun h => absurd h (by omega), (hst.out).keep (fun _ _ => rfl), grown_drewN HG.out _⟩
/-- One of these texts has been picked. -/
def PickedOf (w : World) (g : Nat) (A : Option Addr) (len cap p : Nat) (ss : List ByteArray) (e : Ending) (w' : World) : Prop :=
  ∃ s, s ∈ ss ∧ e = .returned (.string s) ∧ Rd w' g A len cap (p + 1) ∧ w.grownBy w' (some g)
end Go.Proofs.Ytadpbbjahckoaaa
