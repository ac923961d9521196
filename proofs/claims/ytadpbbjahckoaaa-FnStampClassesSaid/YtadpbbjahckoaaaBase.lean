/- Words of our own for the walks of this seat: strings as lists of bytes, a block of bytes that the call itself made. Conditions: each theorem's own premises. -/
import Derived.WalkKit
import Derived.WalkLawsBesides
import Derived.WalkSpells
import Derived.Lib.Hide
import Derived.Deep.QuietTactic
import Derived.BigQuiet
namespace Go.Proofs.Ytadpbbjahckoaaa
set_option maxRecDepth 100000
open Go.RowKit

/-- A string with these bytes. -/
def mkS (l : List UInt8) : ByteArray := ⟨l.toArray⟩
/-- The bytes of a string. -/
def bl (s : ByteArray) : List UInt8 := s.data.toList
theorem bl_mkS (l : List UInt8) : bl (mkS l) = l := by simp [mkS, bl]
theorem mkS_size (l : List UInt8) : (mkS l).size = l.length := rfl
theorem bl_length (s : ByteArray) : (bl s).length = s.size := Array.length_toList
theorem mkS_bl (s : ByteArray) : mkS (bl s) = s := by
  obtain ⟨⟨l⟩⟩ := s
  rfl
theorem eq_mkS {s : ByteArray} {l : List UInt8} (h : bl s = l) : s = mkS l := by rw [← h, mkS_bl]
theorem bl_append (a b : ByteArray) : bl (a ++ b) = bl a ++ bl b := by
  show (a ++ b).data.toList = _
  rw [ByteArray.data_append, Array.toList_append]
  rfl
theorem bl_one (c : UInt8) : bl { data := #[c] } = [c] := rfl
theorem bl_nil : bl { data := #[] } = [] := rfl
theorem bl_extract (s : ByteArray) (a b : Nat) : bl (s.extract a b) = ((bl s).drop a).take (b - a) := by
  unfold bl
  rw [ByteArray.data_extract, Array.toList_extract, List.extract_eq_take_drop]
theorem bl_get (s : ByteArray) (k : Nat) (h : k < s.size) : (bl s)[k]? = some s[k] := by
  unfold bl
  rw [Array.getElem?_toList]
  exact Array.getElem?_eq_getElem h
theorem bl_getElem (s : ByteArray) (k : Nat) (h : k < s.size) (h' : k < (bl s).length) : (bl s)[k] = s[k] := by
  have := bl_get s k h
  rw [List.getElem?_eq_getElem h'] at this
  exact Option.some.inj this
theorem bl_take (s : ByteArray) (k : Nat) (h : k < s.size) : (bl s).take (k + 1) = (bl s).take k ++ [s[k]] := by
  rw [List.take_succ_eq_append_getElem (by rw [bl_length]; exact h)]
  congr 2
theorem bl_drop (s : ByteArray) (k : Nat) (h : k < s.size) : (bl s).drop k = s[k] :: (bl s).drop (k + 1) := by
  rw [List.drop_eq_getElem_cons (by rw [bl_length]; exact h)]
  congr 1
theorem bl_slice1 (s : ByteArray) (k : Nat) (h : k < s.size) : bl (s.extract k (k + 1)) = [s[k]] := by
  rw [bl_extract, bl_drop s k h, Nat.add_sub_cancel_left]
  rfl
theorem bl_left (s : ByteArray) (m : Nat) : bl (s.extract 0 m) = (bl s).take m := by
  rw [bl_extract, List.drop_zero, Nat.sub_zero]
theorem bl_right (s : ByteArray) (m : Nat) : bl (s.extract m s.size) = (bl s).drop m := by
  rw [bl_extract]
  apply List.take_of_length_le
  rw [List.length_drop, bl_length]
  exact Nat.le_refl _
theorem size_left (s : ByteArray) (m : Nat) (h : m ≤ s.size) : (s.extract 0 m).size = m := by
  rw [← bl_length, bl_left, List.length_take, bl_length]
  omega
theorem size_right (s : ByteArray) (m : Nat) : (s.extract m s.size).size = s.size - m := by
  rw [← bl_length, bl_right, List.length_drop, bl_length]
/-- The number of bytes of a string in a slot. -/
def strLen : Value → Nat
  | .string t => t.size
  | _ => 0
theorem bl_full (s : ByteArray) : (bl s).take s.size = bl s := List.take_of_length_le (by rw [bl_length]; exact Nat.le_refl _)
theorem byte_lt (c : UInt8) : (c.toNat : Int) < 256 := by have := c.toNat_lt; omega
theorem byte_eq {c : UInt8} {n : Nat} (h : ((c.toNat : Int) == (n : Int)) = true) : c = UInt8.ofNat n := by
  have h1 : (c.toNat : Int) = (n : Int) := by simpa using h
  have h2 : c.toNat = n := by omega
  rw [← h2, UInt8.ofNat_toNat]
theorem byte_ne {c : UInt8} {n : Nat} (h : ((c.toNat : Int) == (n : Int)) = false) : c ≠ UInt8.ofNat n ∨ 256 ≤ n := by
  by_cases hn : n < 256
  · left
    rintro rfl
    have : (UInt8.ofNat n).toNat = n := by simp; omega
    rw [this] at h
    simp at h
  · right; omega
theorem byte_beq {c d : UInt8} {b : Bool} (h : ((c.toNat : Int) == (d.toNat : Int)) = b) : (c == d) = b := by
  rw [← h, Bool.eq_iff_iff]
  simp only [beq_iff_eq]
  constructor
  · rintro rfl; rfl
  · intro h
    exact UInt8.toNat_inj.1 (by omega)
theorem bl_size1 {b : ByteArray} {c : UInt8} (h : bl b = [c]) : b.size = 1 := by rw [← bl_length, h]; rfl
theorem ret_string {a b : ByteArray} (h : a = b) : Ending.returned (.string a) = .returned (.string b) := by rw [h]
theorem ret_bool {a b : Bool} (h : a = b) : Ending.returned (.bool a) = .returned (.bool b) := by rw [h]
theorem ret_int {k : IntKind} {a b : Int} (h : a = b) : Ending.returned (.int k a) = .returned (.int k b) := by rw [h]

theorem bcell {W w1 : World} {B : Nat} (hb : Below B W w1) : (∀ b o, b < B → w1.cell? ⟨b, o, none⟩ = W.cell? ⟨b, o, none⟩) ∧ (∀ b o, b < B → w1.frozen? ⟨b, o, none⟩ = W.frozen? ⟨b, o, none⟩) :=
  ⟨fun b o h => hb.cell (p := ⟨b, o, none⟩) h, fun b o h => hb.frozen (p := ⟨b, o, none⟩) h⟩

theorem str_list (s : ByteArray) : s.toList = bl s := ByteArray.toList_eq s
theorem str_some {s : ByteArray} (h : 0 < s.size) : s.toList.isEmpty = false := by
  rw [str_list]
  rw [← bl_length] at h
  cases hb : bl s with
  | nil => rw [hb] at h; simp at h
  | cons a r => rfl
theorem str_none {s : ByteArray} (h : s.size = 0) : s.toList.isEmpty = true := by
  rw [str_list, List.eq_nil_of_length_eq_zero (l := bl s) (by rw [bl_length]; exact h)]
  rfl
theorem str_beq (a b : ByteArray) : (a.toList == b.toList) = decide (bl a = bl b) := by
  rw [str_list, str_list, Bool.eq_iff_iff]
  simp

/-- Block g, made by the call, holds these bytes from its head on; none of them is frozen. -/
def Buf (w : World) (g : Nat) (l : List UInt8) : Prop :=
  g < w.heap.size ∧ ∀ j (h : j < l.length), w.cell? ⟨g, j, none⟩ = some (.int .u8 (l[j].toNat : Int)) ∧ w.frozen? ⟨g, j, none⟩ = false
theorem Buf.set {w : World} {g : Nat} {l : List UInt8} (h : Buf w g l) (j : Nat) (c : UInt8) : Buf (w.setCell ⟨g, j, none⟩ (.int .u8 (c.toNat : Int))) g (l.set j c) := by
  refine ⟨by simpa [World.setCell] using h.1, fun i hi => ?_⟩
  have hi' : i < l.length := by simpa using hi
  obtain ⟨h1, h2⟩ := h.2 i hi'
  constructor
  · by_cases e : j = i
    · subst e
      rw [World.cell?_setCell_same _ _ _ h1]
      simp
    · rw [World.cell?_setCell_other _ _ _ _ (by simp), h1]
      simp [e]
  · rw [World.frozen?_setCell]
    exact h2
theorem Buf.below {w w' : World} {g B : Nat} {l : List UInt8} (h : Buf w g l) (hb : Below B w w') (hg : g < B) : Buf w' g l :=
  ⟨by have := hb.size; have := h.1; omega, fun j hj => ⟨(hb.cell (p := ⟨g, j, none⟩) hg).trans (h.2 j hj).1, (hb.frozen (p := ⟨g, j, none⟩) hg).trans (h.2 j hj).2⟩⟩
/-- '[]byte(s)': a new block with the bytes of s. -/
theorem run_bytes_buf {P : Program} (w : World) (src dst e : TypeId) (s : ByteArray) (hs : P.underlying src = some .string) (hd : P.underlying dst = some (.slice e)) (he : P.underlying e = some (.int .u8)) :
    ∃ c w1, (convert src dst (.string s)).run P w = .ok (.slice (some ⟨w.heap.size, 0, none⟩) s.size c) w1 ∧ Buf w1 w.heap.size (bl s) ∧ Below w.heap.size w w1 := by
  refine ⟨_, _, run_bytes_of_string w src dst e s hs hd he, ⟨by simp, fun j hj => ?_⟩, (Below.refl _ _).drew.alloc (Nat.le_refl _) _⟩
  have hj' : j < s.data.size := by rw [bl_length] at hj; exact hj
  constructor
  · have := World.cell?_alloc_mark w.drew (bytesRow s (grownCap w s.size 0 e)) e ((bytesRow s (grownCap w s.size 0 e)).size, (bytesRow s (grownCap w s.size 0 e)).size + 1) j
    rw [bytesRow_at s _ j hj'] at this
    refine Eq.trans this ?_
    congr 3
  · have := World.frozen?_alloc_mark w.drew (bytesRow s (grownCap w s.size 0 e)) e (bytesRow s (grownCap w s.size 0 e)).size ((bytesRow s (grownCap w s.size 0 e)).size + 1) j
    refine Eq.trans this ?_
    have hz : j < (bytesRow s (grownCap w s.size 0 e)).size := by
      unfold bytesRow
      rw [Array.size_append, Array.size_map]
      omega
    have : ¬ (bytesRow s (grownCap w s.size 0 e)).size ≤ j := by omega
    simp [this]
theorem wpList_bytes {P : Program} {w : World} {ops : Array Oper} {rest : List Oper} {o : Oper} {a : Act} {Q : Exit → Act → World → Prop} (hg : o.guard = none) (src dst e : TypeId) (x : Operand) (hop : o.op = Op.convert src dst x)
    (hs : P.underlying src = some .string) (hd : P.underlying dst = some (.slice e)) (he : P.underlying e = some (.int .u8)) (s : ByteArray) (hx : a.eval x = .string s)
    (h : ∀ c w1, Buf w1 w.heap.size (bl s) → Below w.heap.size w w1 → wpList P ops Q rest (a.put o.dst (.slice (some ⟨w.heap.size, 0, none⟩) s.size c)) w1) : wpList P ops Q (o :: rest) a w := by
  refine wpList_plain hg fun K hK' => ?_
  obtain ⟨c, w1, hrun, h1, h2⟩ := run_bytes_buf (P := P) w src dst e s hs hd he
  unfold Oper.wp
  simp [execOp, hop, hx, hrun, Result.andThen]
  exact hK' _ _ (h c w1 h1 h2)
/-- 'string(b)', b the whole of a block of the call's own. -/
theorem wpList_string {P : Program} {w : World} {ops : Array Oper} {rest : List Oper} {o : Oper} {a : Act} {Q : Exit → Act → World → Prop} (hg : o.guard = none) (src dst e : TypeId) (x : Operand) (hop : o.op = Op.convert src dst x)
    (hs : P.underlying src = some (.slice e)) (he : P.underlying e = some (.int .u8)) (hd : P.underlying dst = some .string) (g n c : Nat) (hx : a.eval x = .slice (some ⟨g, 0, none⟩) n c) (l : List UInt8) (hb : Buf w g l) (hn : l.length = n)
    (h : wpList P ops Q rest (a.put o.dst (.string (mkS l))) w) : wpList P ops Q (o :: rest) a w := by
  refine wpList_plain hg fun K hK' => ?_
  subst hn
  have hrun := run_convert_bytes_back (P := P) w src dst e ⟨g, 0, none⟩ c l hs he hd (fun j hj => by
    have := (hb.2 j hj).1
    by_cases e : j = 0
    · subst e; simpa [Addr.add] using this
    · simpa [Addr.add, e] using this)
  unfold Oper.wp
  simp [execOp, hop, hx, hrun, Result.andThen]
  exact hK' _ _ h
/-- A list whose first k elements have gone through f. -/
def half (f : UInt8 → UInt8) (l : List UInt8) (k : Nat) : List UInt8 := (l.take k).map f ++ l.drop k
theorem half_zero (f : UInt8 → UInt8) (l : List UInt8) : half f l 0 = l := by simp [half]
theorem half_full (f : UInt8 → UInt8) (l : List UInt8) : half f l l.length = l.map f := by simp [half]
theorem half_length (f : UInt8 → UInt8) (l : List UInt8) (k : Nat) : (half f l k).length = l.length := by
  simp [half]
  omega
theorem half_get (f : UInt8 → UInt8) {l : List UInt8} {k : Nat} (h : k < l.length) : (half f l k)[k]? = some l[k] := by
  unfold half
  rw [List.getElem?_append_right (by simp; omega)]
  simp [Nat.min_eq_left (Nat.le_of_lt h), h]
theorem half_succ (f : UInt8 → UInt8) {l : List UInt8} {k : Nat} (h : k < l.length) : half f l (k + 1) = (l.take k).map f ++ f l[k] :: l.drop (k + 1) := by
  unfold half
  rw [List.take_succ_eq_append_getElem h, List.map_append, List.append_assoc]
  rfl
theorem half_set (f : UInt8 → UInt8) {l : List UInt8} {k : Nat} (h : k < l.length) : (half f l k).set k (f l[k]) = half f l (k + 1) := by
  rw [half_succ f h]
  unfold half
  rw [List.set_append_right _ _ (by simp; omega), List.drop_eq_getElem_cons h]
  have e : k - ((l.take k).map f).length = 0 := by simp; omega
  rw [e]
  rfl
theorem half_stay (f : UInt8 → UInt8) {l : List UInt8} {k : Nat} (h : k < l.length) (hf : f l[k] = l[k]) : half f l k = half f l (k + 1) := by
  rw [half_succ f h, hf]
  unfold half
  rw [List.drop_eq_getElem_cons h]
/-- The cell that the round at k reads. -/
theorem Buf.half_cell {w : World} {g : Nat} {f : UInt8 → UInt8} {s : ByteArray} {k : Nat} (h : Buf w g (half f (bl s) k)) (hk : k < s.size) : w.cell? ⟨g, k, none⟩ = some (.int .u8 (s[k].toNat : Int)) ∧ w.frozen? ⟨g, k, none⟩ = false := by
  have hk' : k < (bl s).length := by rw [bl_length]; exact hk
  obtain ⟨h1, h2⟩ := h.2 k (by rw [half_length]; exact hk')
  refine ⟨?_, h2⟩
  have e := half_get f hk'
  rw [List.getElem?_eq_getElem (by rw [half_length]; exact hk')] at e
  rw [h1, Option.some.inj e]
  rfl
theorem Buf.half_store {w : World} {g : Nat} {f : UInt8 → UInt8} {s : ByteArray} {k : Nat} (h : Buf w g (half f (bl s) k)) (hk : k < s.size) {x : Int} (hx : x = ((f s[k]).toNat : Int)) : Buf (w.setCell ⟨g, k, none⟩ (.int .u8 x)) g (half f (bl s) (k + 1)) := by
  have hk' : k < (bl s).length := by rw [bl_length]; exact hk
  rw [← half_set f hk', hx]
  exact h.set k _
theorem Buf.half_keep {w : World} {g : Nat} {f : UInt8 → UInt8} {s : ByteArray} {k : Nat} (h : Buf w g (half f (bl s) k)) (hk : k < s.size) (hf : f s[k] = s[k]) : Buf w g (half f (bl s) (k + 1)) := by
  have hk' : k < (bl s).length := by rw [bl_length]; exact hk
  rw [← half_stay f hk' hf]
  exact h
theorem Buf.half_end {w : World} {g : Nat} {f : UInt8 → UInt8} {s : ByteArray} (h : Buf w g (half f (bl s) s.size)) : Buf w g ((bl s).map f) := by
  have := half_full f (bl s)
  rw [bl_length] at this
  rw [← this]
  exact h
theorem Buf.half_start {w : World} {g : Nat} {s : ByteArray} (f : UInt8 → UInt8) (h : Buf w g (bl s)) : Buf w g (half f (bl s) 0) := by
  rw [half_zero]
  exact h
/-- A block of bytes that is owned as a row is a buffer. -/
theorem Buf.of_own {w : World} {base g n cap : Nat} {e : TypeId} {l : List UInt8} (h : w.ownsRow base e 1 (.slice (some ⟨g, 0, none⟩) n cap) n (l.map fun c => Value.int .u8 (c.toNat : Int))) : Buf w g l ∧ l.length = n := by
  have hn : l.length = n := by have := h.1; simpa using this
  refine ⟨⟨(h.lt g rfl).2, fun j hj => ⟨?_, h.frozenAt j⟩⟩, hn⟩
  rw [h.cellAt j (by omega)]
  simp [hj]
/-- 'make([]byte, n)'. -/
theorem wpList_make_buf {P : Program} {w : World} {ops : Array Oper} {rest : List Oper} {o : Oper} {a : Act} {Q : Exit → Act → World → Prop}
    (hg : o.guard = none) (l c : Operand) (t : TypeId) (hop : o.op = Op.makeSlice t l c)
    (e : TypeId) (i : TypeInfo) (h1 : P.underlying t = some (.slice e)) (h2 : P.info? e = some i) (h3 : i.zero = some (.int .u8 0)) (h4 : i.size = 1) (h5 : i.bytes = 1)
    (kl kc : IntKind) (L C : Int) (n : Nat) (hl : a.eval l = .int kl L) (hc : a.eval c = .int kc C) (hL : L = (n : Int)) (hC : C = (n : Int)) (b2 : n ≤ 1048576)
    (hK : ∀ w', Buf w' w.heap.size (List.replicate n 0) → Below w.heap.size w w' → wpList P ops Q rest (a.put o.dst (.slice (some ⟨w.heap.size, 0, none⟩) n n)) w') :
    wpList P ops Q (o :: rest) a w := by
  refine wpList_make_full w hg l c t hop w.heap.size e i (.int .u8 0) 1 h1 h2 h3 h4 kl kc L C n hl hc hL hC (by rw [h5]; omega) (by unfold maxLen; omega) (Nat.le_refl _) ?_
  intro w' hown hgr
  refine hK w' ?_ ((Below.refl _ _).grown hgr (Nat.le_refl _) (by intro k hk; cases hk))
  refine (Buf.of_own (base := w.heap.size) (e := e) (n := n) (cap := n) ?_).1
  have e1 : (List.replicate n (0 : UInt8)).map (fun c => Value.int .u8 (c.toNat : Int)) = (madeCells (Value.int .u8 0).cells (n * 1)).toList := by
    rw [Nat.mul_one, List.map_replicate]
    exact (toList_madeCells_one _ _).symm
  rw [e1]
  exact hown
theorem quiet_left {P : Program} {f : FuncId} {args : Array Value} {w : World} {n : Nat} {v : Value}
    (h : Calls P f args (w.drewN n) fun e w' => e = .returned v ∧ w.drewN n = w') : Calls P f args (w.drewN n) fun e w'' => e = .returned v ∧ ∃ m, w'' = w.drewN m :=
  h.mono fun _ _ ⟨he, hm⟩ => ⟨he, n, hm.symm⟩
/-- What the walk is told of a slice of integers that came in: it is nil; or it leads to a row of 'cap' cells, the numbers 'zs' (the first 'len' are its elements), each fitting its kind. -/
def IsRow (k : IntKind) (w : World) (a : Option Addr) (len cap : Nat) (zs : List Int) : Prop :=
  (a = none ∧ len = 0 ∧ cap = 0 ∧ zs = []) ∨
  ∃ x, a = some x ∧ len ≤ cap ∧ cap ≤ maxLen ∧ zs.length = cap ∧ (∀ i, i < zs.length → w.cell? (x.add i) = some (.int k (zs.getD i 0))) ∧ ∀ n ∈ zs, (Lit.int k n).wf = true
theorem IsRow.le {k : IntKind} {w : World} {a : Option Addr} {len cap : Nat} {zs : List Int} (h : IsRow k w a len cap zs) : len ≤ cap := by
  rcases h with ⟨_, h1, h2, _⟩ | ⟨_, _, h1, _⟩ <;> omega
/-- The first len bytes of a slice can be read, below block g. -/
def RdBytes (w : World) (A : Option Addr) (len g : Nat) : Prop :=
  0 < len → ∃ b off, A = some ⟨b, off, none⟩ ∧ b < g ∧ ∀ i, i < len → ∃ v : Int, w.cell? ⟨b, off + i, none⟩ = some (.int .u8 v) ∧ 0 ≤ v ∧ v ≤ 255
theorem RdBytes.of_row {w : World} {A : Option Addr} {len cap : Nat} {zs : List Int} (h : IsRow .u8 w A len cap zs) : RdBytes w A len w.heap.size := by
  intro hlen
  rcases h with ⟨_, h0, _⟩ | ⟨x, rfl, hl, _, hz, hcell, hwz⟩
  · omega
  · obtain ⟨b, off, spot⟩ := x
    have h0 := hcell 0 (by omega)
    have hspot : spot = none := by simpa [Addr.add] using World.cell?_spot h0
    subst hspot
    have hb : b < w.heap.size := by
      have := World.block_lt_of_cell? w _ h0
      simpa [Addr.add] using this
    refine ⟨b, off, rfl, hb, fun i hi => ⟨zs.getD i 0, ?_, ?_⟩⟩
    · have := hcell i (by omega)
      by_cases e : i = 0
      · subst e; simpa [Addr.add] using this
      · simpa [Addr.add, e] using this
    · have hm : zs.getD i 0 ∈ zs := by
        rw [List.getD_eq_getElem?_getD, List.getElem?_eq_getElem (by omega : i < zs.length)]
        exact List.getElem_mem _
      have hw := hwz _ hm
      have h1 : IntKind.u8.min = 0 := rfl
      have h2 : IntKind.u8.max = 255 := rfl
      simp only [Lit.wf, Bool.and_eq_true, decide_eq_true_eq] at hw
      omega
theorem RdBytes.less {w : World} {A : Option Addr} {len len' g : Nat} (h : RdBytes w A len g) (hl : len' ≤ len) : RdBytes w A len' g := fun h0 => by
  obtain ⟨b, off, hA, hb, hc⟩ := h (by omega)
  exact ⟨b, off, hA, hb, fun i hi => hc i (by omega)⟩
/-- Block g is a reader: its bytes, and how many numbers have been read. -/
structure Rd (w : World) (g : Nat) (A : Option Addr) (len cap p : Nat) : Prop where
  bytes : w.cell? ⟨g, 0, none⟩ = some (.slice A len cap)
  place : w.cell? ⟨g, 1, none⟩ = some (.int .i64 p)
  free : w.frozen? ⟨g, 1, none⟩ = false
  row : RdBytes w A len g
  short : len ≤ 2000
theorem Rd.lt {w : World} {g : Nat} {A : Option Addr} {len cap p : Nat} (h : Rd w g A len cap p) : g < w.heap.size := World.block_lt_of_cell? w _ h.bytes
/-- A reader is kept by what turns neither its block nor any below it. -/
theorem Rd.keep {w w' : World} {g : Nat} {A : Option Addr} {len cap p : Nat} (h : Rd w g A len cap p) (hb : ∀ k, k ≤ g → w'.heap[k]? = w.heap[k]?) : Rd w' g A len cap p where
  bytes := (World.cell?_of_block (a := ⟨g, 0, none⟩) (hb g (Nat.le_refl _))).trans h.bytes
  place := (World.cell?_of_block (a := ⟨g, 1, none⟩) (hb g (Nat.le_refl _))).trans h.place
  free := (World.frozen?_of_block (a := ⟨g, 1, none⟩) (hb g (Nat.le_refl _))).trans h.free
  row := fun h0 => by
    obtain ⟨b, off, hA, hbg, hc⟩ := h.row h0
    refine ⟨b, off, hA, hbg, fun i hi => ?_⟩
    obtain ⟨v, h1, h2⟩ := hc i hi
    exact ⟨v, (World.cell?_of_block (a := ⟨b, off + i, none⟩) (hb b (by show b ≤ g; omega))).trans h1, h2⟩
  short := h.short
theorem Rd.below {w w' : World} {g : Nat} {A : Option Addr} {len cap p : Nat} (h : Rd w g A len cap p) (hb : Below w.heap.size w w') : Rd w' g A len cap p :=
  h.keep fun k hk => hb.block k (by have := h.lt; omega)
theorem Rd.new {w : World} {A : Option Addr} {len cap : Nat} (T : TypeId) (h : RdBytes w A len w.heap.size) (hs : len ≤ 2000) : Rd (w.alloc (.cells #[.slice A len cap, .int .i64 0] T)) w.heap.size A len cap 0 where
  bytes := World.cell?_alloc_mark w _ T (0, 0) 0
  place := World.cell?_alloc_mark w _ T (0, 0) 1
  free := World.frozen?_alloc_mark w _ T 0 0 1
  row := fun h0 => by
    obtain ⟨b, off, hA, hbg, hc⟩ := h h0
    refine ⟨b, off, hA, hbg, fun i hi => ?_⟩
    obtain ⟨v, h1, h2⟩ := hc i hi
    exact ⟨v, (World.cell?_of_block (a := ⟨b, off + i, none⟩) (Below.heap_alloc w _ b hbg)).trans h1, h2⟩
  short := hs
/-- One more number has been read: the place has moved on. -/
theorem Rd.step {w : World} {g : Nat} {A : Option Addr} {len cap p : Nat} (h : Rd w g A len cap p) (q : Nat) (x : Int) (hx : x = (q : Int)) : Rd (w.setCell ⟨g, 1, none⟩ (.int .i64 x)) g A len cap q where
  bytes := (World.cell?_setCell_other _ _ _ _ (by simp)).trans h.bytes
  place := by rw [hx]; exact World.cell?_setCell_same _ _ _ h.place
  free := by rw [World.frozen?_setCell]; exact h.free
  row := fun h0 => by
    obtain ⟨b, off, hA, hbg, hc⟩ := h.row h0
    refine ⟨b, off, hA, hbg, fun i hi => ?_⟩
    obtain ⟨v, h1, h2⟩ := hc i hi
    exact ⟨v, (World.cell?_setCell_other w ⟨g, 1, none⟩ ⟨b, off + i, none⟩ _ (by intro e; injection e; omega)).trans h1, h2⟩
  short := h.short
/-- Only block g, made by the caller, has been written; what is new is new. -/
theorem grown_trans {a b c : World} {g : Nat} (h : a.grownBy b (some g)) (k : b.grownBy c (some g)) : a.grownBy c (some g) :=
  ⟨k.os.trans h.os, k.tape.trans h.tape, k.output.trans h.output, Nat.le_trans h.size k.size, fun i hi hne => (k.block i (Nat.lt_of_lt_of_le hi h.size) hne).trans (h.block i hi hne)⟩
theorem grown_of_below {a w : World} (h : Below a.heap.size a w) (row : Option Nat) : a.grownBy w row := ⟨h.os, h.tape, h.output, h.size, fun i hi _ => h.block i hi⟩
theorem grown_drewN {a w : World} {row : Option Nat} (h : a.grownBy w row) (n : Nat) : a.grownBy (w.drewN n) row := ⟨h.os, h.tape, h.output, h.size, h.block⟩
theorem grown_setCell {a w : World} {g : Nat} (h : a.grownBy w (some g)) (i : Nat) (u : Value) : a.grownBy (w.setCell ⟨g, i, none⟩ u) (some g) :=
  ⟨h.os, h.tape, h.output, by simpa [World.setCell] using h.size, fun k hk hne => (Below.heap_setCell w ⟨g, i, none⟩ u k (by rintro rfl; exact hne rfl)).trans (h.block k hk hne)⟩
theorem below_grown_at {B g : Nat} {a w w' : World} (h : Below B a w) (hg : w.grownBy w' (some g)) (hB : B ≤ w.heap.size) (hr : B ≤ g) : Below B a w' := h.grown hg hB (by intro k hk; cases hk; exact hr)
end Go.Proofs.Ytadpbbjahckoaaa
