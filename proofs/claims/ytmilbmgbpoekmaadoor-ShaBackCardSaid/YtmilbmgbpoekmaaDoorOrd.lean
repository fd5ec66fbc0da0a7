/-
  PLAIN LEAN: lists of bytes in order; the order of their digits; a list brought to 32.
-/
import Derived.Lib.BytesEntry
import GoSem.Extern.BytealgCompare
import GoSem.Op.String
namespace Go.Proofs.YtmilbmgbpoekmaaDoor
open Go

/-- The first 32 of a list, noughts behind. -/
def foldL (l : List Int) : List Int := (List.range 32).map fun j => l.getD j 0
theorem length_foldL (l : List Int) : (foldL l).length = 32 := by simp [foldL]
theorem getD_foldL (l : List Int) (j : Nat) (h : j < 32) : (foldL l).getD j 0 = l.getD j 0 := by
  simp [foldL, List.getD_eq_getElem?_getD, h]
theorem byte_foldL {l : List Int} (h : ∀ j, 0 ≤ l.getD j 0 ∧ l.getD j 0 < 256) (j : Nat) : 0 ≤ (foldL l).getD j 0 ∧ (foldL l).getD j 0 < 256 := by
  by_cases hj : j < 32
  · rw [getD_foldL l j hj]; exact h j
  · rw [List.getD_eq_getElem?_getD, List.getElem?_eq_none (by rw [length_foldL]; omega)]
    simp

def lexCmp : List Int → List Int → Int
  | x :: xs, y :: ys => if x < y then -1 else if y < x then 1 else lexCmp xs ys
  | _, _ => 0
theorem lexCmp_self : ∀ xs : List Int, lexCmp xs xs = 0
  | [] => rfl
  | x :: xs => by simp [lexCmp, lexCmp_self xs]
theorem lexCmp_swap : ∀ xs ys : List Int, lexCmp ys xs = - lexCmp xs ys
  | [], [] => rfl
  | [], _ :: _ => rfl
  | _ :: _, [] => rfl
  | x :: xs, y :: ys => by
    simp only [lexCmp]
    have ih := lexCmp_swap xs ys
    by_cases h1 : x < y
    · rw [if_pos h1, if_neg (by omega), if_pos h1]; rfl
    · by_cases h2 : y < x
      · rw [if_pos h2, if_neg h1, if_pos h2]
      · rw [if_neg h2, if_neg h1, if_neg h1, if_neg h2, ih]
theorem lexCmp_cases : ∀ xs ys : List Int, lexCmp xs ys = -1 ∨ lexCmp xs ys = 0 ∨ lexCmp xs ys = 1
  | [], [] => .inr (.inl rfl)
  | [], _ :: _ => .inr (.inl rfl)
  | _ :: _, [] => .inr (.inl rfl)
  | x :: xs, y :: ys => by
    simp only [lexCmp]
    by_cases h1 : x < y
    · rw [if_pos h1]; exact .inl rfl
    · rw [if_neg h1]
      by_cases h2 : y < x
      · rw [if_pos h2]; exact .inr (.inr rfl)
      · rw [if_neg h2]; exact lexCmp_cases xs ys
theorem lexCmp_eq : ∀ xs ys : List Int, xs.length = ys.length → (lexCmp xs ys = 0 ↔ xs = ys)
  | [], [], _ => by simp [lexCmp]
  | x :: xs, y :: ys, h => by
    have ih := lexCmp_eq xs ys (by simpa using h)
    simp only [lexCmp]
    by_cases h1 : x < y
    · rw [if_pos h1]; simp; omega
    · rw [if_neg h1]
      by_cases h2 : y < x
      · rw [if_pos h2]; simp; omega
      · rw [if_neg h2, ih]
        have : x = y := by omega
        simp [this]
/-- Where the first difference lies, it decides. -/
theorem lexCmp_at : ∀ (xs ys : List Int) (i : Nat), i < xs.length → i < ys.length → (∀ j, j < i → xs.getD j 0 = ys.getD j 0) → xs.getD i 0 ≠ ys.getD i 0 → lexCmp xs ys = if xs.getD i 0 < ys.getD i 0 then -1 else 1
  | [], _, _, h, _, _, _ => by simp at h
  | _ :: _, [], _, _, h, _, _ => by simp at h
  | x :: xs, y :: ys, 0, _, _, _, hne => by
    have hne' : x ≠ y := by simpa using hne
    simp only [lexCmp, List.getD_cons_zero]
    by_cases h1 : x < y
    · rw [if_pos h1, if_pos h1]
    · rw [if_neg h1, if_neg h1, if_pos (by omega)]
  | x :: xs, y :: ys, i + 1, h1, h2, hall, hne => by
    have e : x = y := by simpa using hall 0 (by omega)
    have ih := lexCmp_at xs ys i (by simpa using h1) (by simpa using h2) (fun j hj => by simpa using hall (j + 1) (by omega)) (by simpa using hne)
    simp only [lexCmp, List.getD_cons_succ, ih, e, Int.lt_irrefl, if_false]
theorem eq_of_getD {xs ys : List Int} (hl : xs.length = ys.length) (h : ∀ j, j < xs.length → xs.getD j 0 = ys.getD j 0) : xs = ys := by
  apply List.ext_getElem?
  intro i
  by_cases hi : i < xs.length
  · have := h i hi
    rw [List.getD_eq_getElem?_getD, List.getD_eq_getElem?_getD, List.getElem?_eq_getElem hi, List.getElem?_eq_getElem (by omega)] at this
    rw [List.getElem?_eq_getElem hi, List.getElem?_eq_getElem (by omega)]
    simpa using this
  · rw [List.getElem?_eq_none (by omega), List.getElem?_eq_none (by omega)]

/-! ### The library's comparison -/
theorem u8_lt {a b : Int} (ha : 0 ≤ a ∧ a < 256) (hb : 0 ≤ b ∧ b < 256) : (UInt8.ofNat a.toNat < UInt8.ofNat b.toNat) ↔ a < b := by
  rw [UInt8.lt_iff_toNat_lt, UInt8.toNat_ofNat', UInt8.toNat_ofNat', Nat.mod_eq_of_lt (by omega), Nat.mod_eq_of_lt (by omega)]
  omega
theorem u8_eq {a b : Int} (ha : 0 ≤ a ∧ a < 256) (hb : 0 ≤ b ∧ b < 256) : (UInt8.ofNat a.toNat = UInt8.ofNat b.toNat) ↔ a = b := by
  constructor
  · intro h
    have h' := congrArg UInt8.toNat h
    rw [UInt8.toNat_ofNat', UInt8.toNat_ofNat', Nat.mod_eq_of_lt (by omega), Nat.mod_eq_of_lt (by omega)] at h'
    omega
  · rintro rfl; rfl
theorem bytes_at (xs : List Int) (i : Nat) (h : i < xs.length) : (⟨(Lib.bytesOf xs).toArray⟩ : ByteArray)[i]! = UInt8.ofNat (xs.getD i 0).toNat := by
  have hs : i < (⟨(Lib.bytesOf xs).toArray⟩ : ByteArray).size := by simpa [ByteArray.size, Lib.bytesOf] using h
  rw [getElem!_pos (⟨(Lib.bytesOf xs).toArray⟩ : ByteArray) i hs]
  show (Lib.bytesOf xs).toArray[i] = _
  simp [Lib.bytesOf, List.getD_eq_getElem?_getD, h]
theorem cmp_lex (xs ys : List Int) (n : Nat) (hx : xs.length = n) (hy : ys.length = n) (bx : ∀ j, 0 ≤ xs.getD j 0 ∧ xs.getD j 0 < 256) (by_ : ∀ j, 0 ≤ ys.getD j 0 ∧ ys.getD j 0 < 256) :
    Extern.BytealgCompare.cmp ⟨(Lib.bytesOf xs).toArray⟩ ⟨(Lib.bytesOf ys).toArray⟩ = lexCmp xs ys := by
  have sx : (⟨(Lib.bytesOf xs).toArray⟩ : ByteArray).size = n := by simp [ByteArray.size, Lib.bytesOf, hx]
  have sy : (⟨(Lib.bytesOf ys).toArray⟩ : ByteArray).size = n := by simp [ByteArray.size, Lib.bytesOf, hy]
  unfold Extern.BytealgCompare.cmp
  rw [sx, sy, Nat.min_self]
  have key : ∀ i, i < n → (((⟨(Lib.bytesOf xs).toArray⟩ : ByteArray)[i]! != (⟨(Lib.bytesOf ys).toArray⟩ : ByteArray)[i]!) = true ↔ xs.getD i 0 ≠ ys.getD i 0) := fun i hi => by
    rw [bytes_at xs i (by omega), bytes_at ys i (by omega), bne_iff_ne, Ne, u8_eq (bx i) (by_ i)]
  cases hf : (List.range n).find? fun i => (⟨(Lib.bytesOf xs).toArray⟩ : ByteArray)[i]! != (⟨(Lib.bytesOf ys).toArray⟩ : ByteArray)[i]! with
  | some i =>
    rw [List.find?_range_eq_some] at hf
    obtain ⟨h1, h2, h3⟩ := hf
    have hi : i < n := List.mem_range.1 h2
    have hne := (key i hi).1 h1
    have hall : ∀ j, j < i → xs.getD j 0 = ys.getD j 0 := fun j hj => by
      have h4 := h3 j hj
      by_cases e : xs.getD j 0 = ys.getD j 0
      · exact e
      · have := (key j (by omega)).2 e
        rw [this] at h4
        cases h4
    rw [lexCmp_at xs ys i (by omega) (by omega) hall hne]
    simp only []
    rw [bytes_at xs i (by omega), bytes_at ys i (by omega)]
    by_cases h5 : xs.getD i 0 < ys.getD i 0
    · rw [if_pos h5, if_pos ((u8_lt (bx i) (by_ i)).2 h5)]
    · rw [if_neg h5, if_neg (fun h => h5 ((u8_lt (bx i) (by_ i)).1 h))]
  | none =>
    have hall : ∀ j, j < xs.length → xs.getD j 0 = ys.getD j 0 := fun j hj => by
      by_cases e : xs.getD j 0 = ys.getD j 0
      · exact e
      · have h1 := (key j (by omega)).2 e
        have h2 := List.find?_eq_none.1 hf j (List.mem_range.2 (by omega))
        exact absurd h1 h2
    obtain rfl := eq_of_getD (by omega) hall
    simp [lexCmp_self]
end Go.Proofs.YtmilbmgbpoekmaaDoor
