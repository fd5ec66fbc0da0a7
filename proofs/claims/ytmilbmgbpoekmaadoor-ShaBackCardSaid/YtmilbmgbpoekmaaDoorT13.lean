/-
  DIGITS AND THEIR ORDER; the contracts of Fold, of bytes.Compare and of the two comparisons.
-/
import Derived.Test.YtmilbmgbpoekmaaDoorT11
import Derived.Test.YtmilbmgbpoekmaaDoorOrd
namespace Go.Proofs.YtmilbmgbpoekmaaDoor
open Go.RowKit
set_option maxRecDepth 100000

theorem hexd_lt {n m : Int} (hn : 0 ≤ n ∧ n < 16) (hm : 0 ≤ m ∧ m < 16) : hexd n < hexd m ↔ n < m := by
  unfold hexd
  by_cases h1 : n < 10 <;> by_cases h2 : m < 10 <;> simp only [h1, h2, if_true, if_false] <;> omega
theorem hexd_eq {n m : Int} (hn : 0 ≤ n ∧ n < 16) (hm : 0 ≤ m ∧ m < 16) : hexd n = hexd m ↔ n = m := by
  unfold hexd
  by_cases h1 : n < 10 <;> by_cases h2 : m < 10 <;> simp only [h1, h2, if_true, if_false] <;> omega
theorem hex_less : ∀ (xs ys : List Int), xs.length = ys.length → (∀ x ∈ xs, 0 ≤ x ∧ x < 256) → (∀ y ∈ ys, 0 ≤ y ∧ y < 256) →
    Op.bytesLess (Lib.bytesOf (hexL xs)) (Lib.bytesOf (hexL ys)) = decide (lexCmp xs ys < 0)
  | [], [], _, _, _ => by simp [hexL, Lib.bytesOf, Op.bytesLess, lexCmp]
  | x :: xs, y :: ys, h, hx, hy => by
    have ih := hex_less xs ys (by simpa using h) (fun z hz => hx z (by simp [hz])) (fun z hz => hy z (by simp [hz]))
    obtain ⟨x0, x1⟩ := hx x (by simp)
    obtain ⟨y0, y1⟩ := hy y (by simp)
    have bx1 := hexd_byte (x / 16) (by omega)
    have bx2 := hexd_byte (x % 16) (by omega)
    have by1 := hexd_byte (y / 16) (by omega)
    have by2 := hexd_byte (y % 16) (by omega)
    have l1 : (UInt8.ofNat (hexd (x / 16)).toNat < UInt8.ofNat (hexd (y / 16)).toNat) ↔ x / 16 < y / 16 := (u8_lt bx1 by1).trans (hexd_lt (by omega) (by omega))
    have l2 : (UInt8.ofNat (hexd (x % 16)).toNat < UInt8.ofNat (hexd (y % 16)).toNat) ↔ x % 16 < y % 16 := (u8_lt bx2 by2).trans (hexd_lt (by omega) (by omega))
    have e1 : (UInt8.ofNat (hexd (x / 16)).toNat = UInt8.ofNat (hexd (y / 16)).toNat) ↔ x / 16 = y / 16 := (u8_eq bx1 by1).trans (hexd_eq (by omega) (by omega))
    have e2 : (UInt8.ofNat (hexd (x % 16)).toNat = UInt8.ofNat (hexd (y % 16)).toNat) ↔ x % 16 = y % 16 := (u8_eq bx2 by2).trans (hexd_eq (by omega) (by omega))
    have hb : ∀ zs : List Int, ∀ z, Lib.bytesOf (hexL (z :: zs)) = UInt8.ofNat (hexd (z / 16)).toNat :: UInt8.ofNat (hexd (z % 16)).toNat :: Lib.bytesOf (hexL zs) := fun zs z => rfl
    rw [hb, hb, Op.bytesLess, Op.bytesLess, ih]
    rw [Bool.eq_iff_iff]
    simp only [Bool.or_eq_true, Bool.and_eq_true, beq_iff_eq, decide_eq_true_eq, l1, l2, e1, e2]
    rw [show lexCmp (x :: xs) (y :: ys) = (if x < y then -1 else if y < x then 1 else lexCmp xs ys) from rfl]
    by_cases h1 : x < y
    · rw [if_pos h1]; omega
    · rw [if_neg h1]
      by_cases h2 : y < x
      · rw [if_pos h2]; omega
      · rw [if_neg h2]
        have : x = y := by omega
        subst this
        simp
theorem hexL_inj : ∀ (xs ys : List Int), (∀ x ∈ xs, 0 ≤ x ∧ x < 256) → (∀ y ∈ ys, 0 ≤ y ∧ y < 256) → Lib.bytesOf (hexL xs) = Lib.bytesOf (hexL ys) → xs = ys
  | [], [], _, _, _ => rfl
  | [], _ :: _, _, _, h => by simp [hexL, Lib.bytesOf] at h
  | _ :: _, [], _, _, h => by simp [hexL, Lib.bytesOf] at h
  | x :: xs, y :: ys, hx, hy, h => by
    obtain ⟨x0, x1⟩ := hx x (by simp)
    obtain ⟨y0, y1⟩ := hy y (by simp)
    have hb : ∀ zs : List Int, ∀ z, Lib.bytesOf (hexL (z :: zs)) = UInt8.ofNat (hexd (z / 16)).toNat :: UInt8.ofNat (hexd (z % 16)).toNat :: Lib.bytesOf (hexL zs) := fun zs z => rfl
    rw [hb, hb] at h
    injection h with h1 h
    injection h with h2 h3
    have e1 := (hexd_eq (by omega) (by omega)).1 ((u8_eq (hexd_byte (x / 16) (by omega)) (hexd_byte (y / 16) (by omega))).1 h1)
    have e2 := (hexd_eq (by omega) (by omega)).1 ((u8_eq (hexd_byte (x % 16) (by omega)) (hexd_byte (y % 16) (by omega))).1 h2)
    rw [hexL_inj xs ys (fun z hz => hx z (by simp [hz])) (fun z hz => hy z (by simp [hz])) h3]
    rw [show x = y by omega]
theorem mem_of_getD {xs : List Int} (h : ∀ j, 0 ≤ xs.getD j 0 ∧ xs.getD j 0 < 256) : ∀ x ∈ xs, 0 ≤ x ∧ x < 256 := fun x hx => by
  obtain ⟨i, hi, e⟩ := List.getElem_of_mem hx
  have := h i
  rw [List.getD_eq_getElem?_getD, List.getElem?_eq_getElem hi] at this
  simpa [e] using this

set_option maxHeartbeats 1000000 in
/-- veneerref01.Fold(b). -/
theorem fold_any (a : Option Addr) (cap : Nat) (l : List Int) (w : World) (hB : BytesAt (fun b => b < w.heap.size) w a cap l) (hcap : cap ≤ 140737488355328) :
    Calls Tryd.prog 12 #[.slice a l.length cap] w fun e w' => e = .returned (.agg (u8s (foldL l)).toArray) ∧ Below w.heap.size w w' := by
  have hlc := hB.fits
  obtain ⟨L, hL⟩ : ∃ L, L = l.length := ⟨_, rfl⟩
  have HL := Lib.hid hL
  have hLc : L ≤ 140737488355328 := by omega
  rw [← hL]
  clear hL hlc
  have HBB := Lib.hid hB.byte
  go_enter Tryd.func12, Tryd.ntmps12
  go_wp2_with fail
  go_loopw [4] (fun x wr => ∃ i : Nat, i ≤ 32 ∧ i ≤ L ∧ x = .int .i64 i ∧ wr.rowIs (w.heap.size + 1) 25 32 (fun j => .int .u8 (if j < i then l.getD j 0 else 0)) ∧ wr.rowIs w.heap.size 25 32 (fun _ => .int .u8 0) ∧ Below w.heap.size w wr) (fun x _ => 32 - (intOf x).toNat)
  case atStart =>
    refine ⟨0, by omega, by omega, rfl, ?_, ?_, ((Below.refl _ _).alloc (Nat.le_refl _) _).alloc (by simp) _⟩
    · have h1 := rowIs_lit (w.alloc (.cells (rowArr 32 fun _ => .int .u8 0) 25)) ((List.range 32).map fun _ => .int .u8 0) 25 32 (fun _ => .int .u8 0) rfl
      rw [Go.Deep.nblk_alloc] at h1
      exact h1.congr (fun j _ => by rw [if_neg (by omega)])
    · have h1 := rowIs_lit w ((List.range 32).map fun _ => .int .u8 0) 25 32 (fun _ => .int .u8 0) rfl
      exact h1.alloc _
  case round =>
    obtain ⟨i, hi, hiL, rfl, hD, hR, hb⟩ := hrel
    by_cases hc : i < 32 ∧ i < L
    · obtain ⟨h1, h2⟩ := hc
      obtain ⟨b, o, rfl, hok, hcell⟩ := hB.addr (by have := HL.out; omega)
      have c1 : wr.cell? ⟨b, o + i, none⟩ = some (.int .u8 (l.getD i 0)) := by
        rw [hb.cell (p := ⟨b, o + i, none⟩) hok]
        exact hcell i (by have := HL.out; omega)
      have c2 := hD.cell (i := i) h1
      have f2 := hD.frozen i
      have hne : w.heap.size ≠ w.heap.size + 1 := by omega
      go_wp2_with fail
      go_roundw
      case rel =>
        refine ⟨i + 1, by omega, by omega, by go_num, (hD.set i _).congr (fun j hj => ?_), hR.setOther (a := ⟨w.heap.size + 1, i, none⟩) (by show w.heap.size ≠ w.heap.size + 1; omega) _, hb.setCell (p := ⟨w.heap.size + 1, i, none⟩) (by show w.heap.size ≤ w.heap.size + 1; omega) _⟩
        by_cases e : j = i
        · rw [if_pos e, if_pos (by omega), e, List.getD_eq_getElem?_getD]
        · rw [if_neg e]
          by_cases e2 : j < i
          · rw [if_pos e2, if_pos (by omega)]
          · rw [if_neg e2, if_neg (by omega)]
      case measure => simp [intOf]; omega
    · have hD2 : wr.rowIs (w.heap.size + 1) 25 32 (fun j => .int .u8 ((foldL l).getD j 0)) := hD.congr (fun j hj => by
        rw [getD_foldL l j hj]
        by_cases e : j < i
        · rw [if_pos e]
        · rw [if_neg e, List.getD_eq_getElem?_getD, List.getElem?_eq_none (by have := HL.out; omega)]
          rfl)
      clear hD
      have hex : i = 32 ∨ (i < 32 ∧ i = L) := by omega
      rcases hex with rfl | ⟨h1, rfl⟩
      all_goals
        go_wp2_with (first
          | (refine wpList_load_abs rfl 25 (.tmp 3) rfl (w.heap.size + 1) rfl 25 32 _ hD2 _ Tryd.underlying25 rfl Tryd.sz25 ?_; intro es hes)
          | (refine wpList_store_abs rfl 25 (.tmp 2) (.tmp 21) rfl w.heap.size rfl es rfl 25 32 _ _ hR hes.out Tryd.sz25 (fun j _ => rfl) ?_; intro w9 hR9 hg9 hs9; clear hs9)
          | fail)
        have hbk := rowIs_block hR9
        refine bodyPost_ret (results_row (g := w.heap.size) rfl rfl hbk Tryd.underlying25 rfl (by rw [size_rowArr]; exact Tryd.sz25)) rfl ⟨?_, ?_⟩
        · rw [u8s_rowArr _ 32 (length_foldL l)]
        · exact hb.trans (below_of_grown hg9 (Nat.le_refl _) hb.size)
end Go.Proofs.YtmilbmgbpoekmaaDoor
