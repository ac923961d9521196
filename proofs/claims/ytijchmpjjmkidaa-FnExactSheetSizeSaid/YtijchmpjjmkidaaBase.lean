/- Words of our own for the walks of this seat: strings as lists of bytes, a block of bytes that the call itself made. Conditions: each theorem's own premises. -/
import Derived.WalkKit
import Derived.WalkLawsBesides
import Derived.WalkSpells
import Derived.Lib.Hide
namespace Go.Proofs.Ytijchmpjjmkidaa
open Go.RowKit

/-- A string with these bytes. -/
def mkS (l : List UInt8) : ByteArray := ⟨l.toArray⟩
/-- The bytes of a string. -/
def bl (s : ByteArray) : List UInt8 := s.data.toList
theorem bl_mkS (l : List UInt8) : bl (mkS l) = l := by simp [mkS, bl]
theorem mkS_size (l : List UInt8) : (mkS l).size = l.length := rfl
theorem bl_length (s : ByteArray) : (bl s).length = s.size := Array.length_toList
theorem mkS_bl (s : ByteArray) : mkS (bl s) = s := by
  obtain ⟨⟨l⟩⟩ := s
  rfl
theorem eq_mkS {s : ByteArray} {l : List UInt8} (h : bl s = l) : s = mkS l := by rw [← h, mkS_bl]
theorem bl_append (a b : ByteArray) : bl (a ++ b) = bl a ++ bl b := by
  show (a ++ b).data.toList = _
  rw [ByteArray.data_append, Array.toList_append]
  rfl
theorem bl_one (c : UInt8) : bl { data := #[c] } = [c] := rfl
theorem bl_nil : bl { data := #[] } = [] := rfl
theorem bl_extract (s : ByteArray) (a b : Nat) : bl (s.extract a b) = ((bl s).drop a).take (b - a) := by
  unfold bl
  rw [ByteArray.data_extract, Array.toList_extract, List.extract_eq_take_drop]
theorem bl_get (s : ByteArray) (k : Nat) (h : k < s.size) : (bl s)[k]? = some s[k] := by
  unfold bl
  rw [Array.getElem?_toList]
  exact Array.getElem?_eq_getElem h
theorem bl_getElem (s : ByteArray) (k : Nat) (h : k < s.size) (h' : k < (bl s).length) : (bl s)[k] = s[k] := by
  have := bl_get s k h
  rw [List.getElem?_eq_getElem h'] at this
  exact Option.some.inj this
theorem bl_take (s : ByteArray) (k : Nat) (h : k < s.size) : (bl s).take (k + 1) = (bl s).take k ++ [s[k]] := by
  rw [List.take_succ_eq_append_getElem (by rw [bl_length]; exact h)]
  congr 2
theorem bl_drop (s : ByteArray) (k : Nat) (h : k < s.size) : (bl s).drop k = s[k] :: (bl s).drop (k + 1) := by
  rw [List.drop_eq_getElem_cons (by rw [bl_length]; exact h)]
  congr 1
theorem bl_slice1 (s : ByteArray) (k : Nat) (h : k < s.size) : bl (s.extract k (k + 1)) = [s[k]] := by
  rw [bl_extract, bl_drop s k h, Nat.add_sub_cancel_left]
  rfl
theorem bl_full (s : ByteArray) : (bl s).take s.size = bl s := List.take_of_length_le (by rw [bl_length]; exact Nat.le_refl _)
theorem byte_lt (c : UInt8) : (c.toNat : Int) < 256 := by have := c.toNat_lt; omega
theorem byte_eq {c : UInt8} {n : Nat} (h : ((c.toNat : Int) == (n : Int)) = true) : c = UInt8.ofNat n := by
  have h1 : (c.toNat : Int) = (n : Int) := by simpa using h
  have h2 : c.toNat = n := by omega
  rw [← h2, UInt8.ofNat_toNat]
theorem byte_ne {c : UInt8} {n : Nat} (h : ((c.toNat : Int) == (n : Int)) = false) : c ≠ UInt8.ofNat n ∨ 256 ≤ n := by
  by_cases hn : n < 256
  · left
    rintro rfl
    have : (UInt8.ofNat n).toNat = n := by simp; omega
    rw [this] at h
    simp at h
  · right; omega
theorem ret_string {a b : ByteArray} (h : a = b) : Ending.returned (.string a) = .returned (.string b) := by rw [h]
theorem ret_bool {a b : Bool} (h : a = b) : Ending.returned (.bool a) = .returned (.bool b) := by rw [h]
theorem ret_int {k : IntKind} {a b : Int} (h : a = b) : Ending.returned (.int k a) = .returned (.int k b) := by rw [h]

theorem bcell {W w1 : World} {B : Nat} (hb : Below B W w1) : (∀ b o, b < B → w1.cell? ⟨b, o, none⟩ = W.cell? ⟨b, o, none⟩) ∧ (∀ b o, b < B → w1.frozen? ⟨b, o, none⟩ = W.frozen? ⟨b, o, none⟩) :=
  ⟨fun b o h => hb.cell (p := ⟨b, o, none⟩) h, fun b o h => hb.frozen (p := ⟨b, o, none⟩) h⟩

/-- Block g, made by the call, holds these bytes from its head on; none of them is frozen. -/
def Buf (w : World) (g : Nat) (l : List UInt8) : Prop :=
  g < w.heap.size ∧ ∀ j (h : j < l.length), w.cell? ⟨g, j, none⟩ = some (.int .u8 (l[j].toNat : Int)) ∧ w.frozen? ⟨g, j, none⟩ = false
theorem Buf.set {w : World} {g : Nat} {l : List UInt8} (h : Buf w g l) (j : Nat) (c : UInt8) : Buf (w.setCell ⟨g, j, none⟩ (.int .u8 (c.toNat : Int))) g (l.set j c) := by
  refine ⟨by simpa [World.setCell] using h.1, fun i hi => ?_⟩
  have hi' : i < l.length := by simpa using hi
  obtain ⟨h1, h2⟩ := h.2 i hi'
  constructor
  · by_cases e : j = i
    · subst e
      rw [World.cell?_setCell_same _ _ _ h1]
      simp
    · rw [World.cell?_setCell_other _ _ _ _ (by simp), h1]
      simp [e]
  · rw [World.frozen?_setCell]
    exact h2
theorem Buf.below {w w' : World} {g B : Nat} {l : List UInt8} (h : Buf w g l) (hb : Below B w w') (hg : g < B) : Buf w' g l :=
  ⟨by have := hb.size; have := h.1; omega, fun j hj => ⟨(hb.cell (p := ⟨g, j, none⟩) hg).trans (h.2 j hj).1, (hb.frozen (p := ⟨g, j, none⟩) hg).trans (h.2 j hj).2⟩⟩
end Go.Proofs.Ytijchmpjjmkidaa
