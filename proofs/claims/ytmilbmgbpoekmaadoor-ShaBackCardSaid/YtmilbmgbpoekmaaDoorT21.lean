/-
  PLAIN LEAN: digits that are written are read as the same list; one letter changed gives another list or none.
-/
import Derived.Test.YtmilbmgbpoekmaaDoorT19
namespace Go.Proofs.YtmilbmgbpoekmaaDoor
open Go.RowKit
set_option maxRecDepth 100000

theorem strL_strOfNums (m : List Int) (h : ∀ x ∈ m, 0 ≤ x ∧ x < 256) : strL (strOfNums m) = m := by
  have e : strL (strOfNums m) = (m.map fun n => UInt8.ofNat n.toNat).map fun b => (b.toNat : Int) := by
    unfold strL
    rw [strOfNums_data]
  rw [e, List.map_map]
  conv => rhs; rw [← List.map_id m]
  refine List.map_congr_left (fun x hx => ?_)
  obtain ⟨h0, h1⟩ := h x hx
  simp only [Function.comp_def, id, UInt8.toNat_ofNat']
  omega
theorem dg_hexd (n : Int) (h : 0 ≤ n ∧ n < 16) : dg (hexd n) = n := by
  unfold hexd dg
  by_cases h1 : n < 10
  · rw [if_pos h1, if_pos (by omega)]; omega
  · rw [if_neg h1, if_neg (by omega), if_pos (by omega)]; omega
theorem hexd_dg (c : Int) (h : 0 ≤ dg c) : hexd (dg c) = c := by
  unfold dg at h ⊢
  by_cases h1 : 48 ≤ c ∧ c ≤ 57
  · rw [if_pos h1, hexd, if_pos (by omega)]; omega
  · rw [if_neg h1] at h ⊢
    by_cases h2 : 97 ≤ c ∧ c ≤ 102
    · rw [if_pos h2, hexd, if_neg (by omega)]; omega
    · rw [if_neg h2] at h; omega
theorem hexL_get : ∀ (x : List Int) (j : Nat), j < x.length → (hexL x).getD (2 * j) 0 = hexd (x.getD j 0 / 16) ∧ (hexL x).getD (2 * j + 1) 0 = hexd (x.getD j 0 % 16)
  | [], j, h => by simp at h
  | x :: xs, 0, _ => ⟨rfl, rfl⟩
  | x :: xs, j + 1, h => by
    have ih := hexL_get xs j (by simpa using h)
    rw [show 2 * (j + 1) = 2 * j + 2 by omega, show 2 * j + 2 + 1 = (2 * j + 1) + 2 by omega]
    simpa [hexL] using ih
theorem hexL_byte (x : List Int) (h : ∀ y ∈ x, 0 ≤ y ∧ y < 256) : ∀ c ∈ hexL x, 0 ≤ c ∧ c < 256 := by
  induction x with
  | nil => intro c hc; simp [hexL] at hc
  | cons y x ih =>
    intro c hc
    have hy := h y (by simp)
    simp only [hexL, List.mem_cons] at hc
    rcases hc with rfl | rfl | hc
    · exact hexd_byte _ (by omega)
    · exact hexd_byte _ (by omega)
    · exact ih (fun z hz => h z (by simp [hz])) c hc
theorem vd_hexL (x : List Int) (hx : x.length = 32) (hb : ∀ j, 0 ≤ x.getD j 0 ∧ x.getD j 0 < 256) (j : Nat) (hj : j < 32) :
    vd (hexL x) (2 * j) = x.getD j 0 / 16 ∧ vd (hexL x) (2 * j + 1) = x.getD j 0 % 16 := by
  have h := hexL_get x j (by omega)
  have hj := hb j
  unfold vd
  rw [h.1, h.2, dg_hexd _ (by omega), dg_hexd _ (by omega)]
  exact ⟨rfl, rfl⟩
theorem unOk_hexL (x : List Int) (hx : x.length = 32) (hb : ∀ j, 0 ≤ x.getD j 0 ∧ x.getD j 0 < 256) : unOk (hexL x) := by
  refine ⟨by rw [length_hexL, hx], fun k hk => ?_⟩
  have h := vd_hexL x hx hb (k / 2) (by omega)
  have hj := hb (k / 2)
  rcases Nat.mod_two_eq_zero_or_one k with e | e
  · rw [show 2 * (k / 2) = k by omega] at h
    rw [h.1]; omega
  · rw [show 2 * (k / 2) + 1 = k by omega] at h
    rw [h.2]; omega
theorem unL_get (S : List Int) (j : Nat) (hj : j < 32) : (unL S).getD j 0 = 16 * vd S (2 * j) + vd S (2 * j + 1) := by
  have : (unL S).getD j 0 = part S 64 j := by simp [unL, List.getD_eq_getElem?_getD, hj]
  rw [this, part, if_pos (by omega)]
theorem unL_hexL (x : List Int) (hx : x.length = 32) (hb : ∀ j, 0 ≤ x.getD j 0 ∧ x.getD j 0 < 256) : unL (hexL x) = x := by
  refine eq_of_getD (by rw [length_unL, hx]) (fun j hj => ?_)
  rw [length_unL] at hj
  have h := vd_hexL x hx hb j hj
  have := hb j
  rw [unL_get _ j hj, h.1, h.2]
  omega

/-! ### One letter changed -/
theorem vd_set (S : List Int) (k : Nat) (c : Int) (hk : k < S.length) (i : Nat) : vd (S.set k c) i = if i = k then dg c else vd S i := by
  unfold vd
  rw [List.getD_eq_getElem?_getD, List.getElem?_set]
  by_cases e : k = i
  · rw [if_pos e, if_pos (by omega), if_pos e.symm]; rfl
  · rw [if_neg e, if_neg (fun h => e h.symm), List.getD_eq_getElem?_getD]
theorem unOk_set (S : List Int) (hS : unOk S) (k : Nat) (hk : k < 64) (c : Int) : unOk (S.set k c) ↔ 0 ≤ dg c := by
  constructor
  · intro h
    have := h.2 k hk
    rwa [vd_set S k c (by rw [hS.1]; exact hk), if_pos rfl] at this
  · intro h
    refine ⟨by rw [List.length_set]; exact hS.1, fun i hi => ?_⟩
    rw [vd_set S k c (by rw [hS.1]; exact hk)]
    split
    · exact h
    · exact hS.2 i hi
theorem set_same (S : List Int) (k : Nat) (hk : k < S.length) (c : Int) : S.set k c = S ↔ c = S.getD k 0 := by
  constructor
  · intro h
    have := congrArg (fun l => l.getD k 0) h
    simp only [List.getD_eq_getElem?_getD, List.getElem?_set_self hk] at this
    simpa [List.getD_eq_getElem?_getD] using this
  · rintro rfl
    apply List.ext_getElem?
    intro i
    rw [List.getElem?_set]
    by_cases e : k = i
    · subst e
      rw [if_pos rfl, if_pos hk, List.getD_eq_getElem?_getD, List.getElem?_eq_getElem hk]
      rfl
    · rw [if_neg e]
theorem unL_set (S : List Int) (hS : unOk S) (k : Nat) (hk : k < 64) (c : Int) (hc : 0 ≤ dg c) (h : unL (S.set k c) = unL S) : c = S.getD k 0 := by
  have e := congrArg (fun l => l.getD (k / 2) 0) h
  simp only [unL_get _ (k / 2) (show k / 2 < 32 by omega), vd_set S k c (by rw [hS.1]; exact hk)] at e
  have hv := hS.2 k hk
  have key : dg c = vd S k := by
    rcases Nat.mod_two_eq_zero_or_one k with m | m
    · rw [if_pos (by omega), if_neg (by omega), show 2 * (k / 2) = k by omega] at e
      omega
    · rw [if_neg (by omega), if_pos (by omega), show 2 * (k / 2) + 1 = k by omega] at e
      omega
  have h1 := hexd_dg c hc
  have h2 := hexd_dg (S.getD k 0) hv
  rw [← h1, key]
  exact h2
theorem splice_str (S : List Int) (k : Nat) (hk : k < S.length) (c : Int) : (strOfNums S).extract 0 k ++ strOfNums [c] ++ (strOfNums S).extract (k + 1) S.length = strOfNums (S.set k c) := by
  have h1 : (strOfNums S).extract 0 k = strOfNums (S.take k) := by
    apply ByteArray.ext
    simp [strOfNums]
  have h2 : (strOfNums S).extract (k + 1) S.length = strOfNums (S.drop (k + 1)) := by
    apply ByteArray.ext
    simp [strOfNums]
    rw [List.take_of_length_le (by simp)]
  rw [h1, h2, strOfNums_append, strOfNums_append, List.set_eq_take_append_cons_drop, if_pos hk, List.append_assoc]
  rfl
theorem str_eq (a b : List Int) (ha : ∀ x ∈ a, 0 ≤ x ∧ x < 256) (hb : ∀ x ∈ b, 0 ≤ x ∧ x < 256) : ((strOfNums a).toList == (strOfNums b).toList) = (a == b) := by
  rw [Bool.eq_iff_iff, beq_iff_eq, beq_iff_eq, Lib.toList_data, Lib.toList_data]
  constructor
  · intro h
    have e : strL (strOfNums a) = strL (strOfNums b) := by unfold strL; rw [h]
    rwa [strL_strOfNums a ha, strL_strOfNums b hb] at e
  · rintro rfl; rfl
end Go.Proofs.YtmilbmgbpoekmaaDoor
