import Derived.Test.YtmilbmgbpoekmaaDoorT5
namespace Go.Proofs.YtmilbmgbpoekmaaDoor
open Go.RowKit
set_option maxRecDepth 100000

theorem zcount_mod (n : Nat) : Sha.zcount (n % 64) = Sha.zcount n := by unfold Sha.zcount; omega
/-- What Sum gives of a hash that has all of l. -/
theorem sum_of_fin (l : List Int) : Sha.digest (Sha.finSt (Sha.finSt Sha.init l) (Sha.finBuf l ++ (128 :: (List.replicate (Sha.zcount (Sha.finBuf l).length) 0 ++ Sha.sizeBytes l.length)))) = Sha.sum l := by
  unfold Sha.sum Sha.pad
  rw [Sha.finSt_append Sha.init l, Sha.finBuf_length, zcount_mod]

theorem sum_one (l : List Int) (j : Nat) : (Value.int .u8 ((Sha.sum l).getD j 0)).oneCell' = true := rfl
theorem u8s_rowArr (l : List Int) (n : Nat) (h : l.length = n) : (u8s l).toArray = rowArr n (fun j => .int .u8 (l.getD j 0)) := by
  unfold u8s rowArr
  congr 1
  apply List.ext_getElem?
  intro i
  by_cases hi : i < n
  · simp [hi, List.getD_eq_getElem?_getD, h]
  · rw [List.getElem?_eq_none (by simp; omega), List.getElem?_eq_none (by simp; omega)]

set_option maxHeartbeats 1000000 in
/-- sha.Sum(b). -/
theorem sum_len (a : Option Addr) (cap : Nat) (l : List Int) (w : World) (hB : BytesAt (fun b => b < w.heap.size) w a cap l) (hcap : cap ≤ 9223372036854775807) (hll : l.length ≤ 140737488355328) (h00 : 0 < w.heap.size)
   (hT : ∀ k, k < 64 → w.cell? ⟨0, k, none⟩ = some (.int .u32 (Sha.KL.getD k 0))) :
    Calls Tryd.prog 10 #[.slice a l.length cap] w fun e w' => e = .returned (.agg (u8s (Sha.sum l)).toArray) ∧ Below w.heap.size w w' := by
  have HT := Lib.hid hT
  clear hT
  have hlc := hB.fits
  go_enter Tryd.func10, Tryd.ntmps10
  go_wp2_with fail
  refine (new_any _).mono ?_
  rintro e w2 ⟨rfl, hH, hB2⟩
  simp only [Go.Deep.nblk_alloc] at hH hB2
  have hR2 : w2.rowIs w.heap.size 25 32 (fun _ => .int .u8 0) := rowIs_below (rowIs_lit w _ 25 32 _ rfl) hB2 (by omega)
  have hlt2 := hH.lt
  have hBw : Below w.heap.size w w2 := ((Below.refl _ _).alloc (Nat.le_refl _) _).trans (hB2.mono (by omega))
  have hT2 : ∀ k, k < 64 → w2.cell? ⟨0, k, none⟩ = some (.int .u32 (Sha.KL.getD k 0)) := fun k hk => by
    rw [hBw.cell (p := ⟨0, k, none⟩) h00]; exact HT.out k hk
  have HT2 := Lib.hid hT2
  clear hT2 hB2
  have hC : w.heap.size < w.heap.size + 1 := by omega
  go_wp2_with fail
  generalize w.heap.size + 1 = C at *
  refine (write_any C a cap l Sha.init [] 0 _ hH (hB.to (fun b hb => ⟨by have := hBw.size; omega, by omega⟩) (fun b hb => hBw.block b hb)) (by omega) (by omega) (by omega) (by omega) (by omega) HT2.out).mono ?_
  rintro e w3 ⟨rfl, hg3, hH3⟩
  have hR3 : w3.rowIs w.heap.size 25 32 (fun _ => .int .u8 0) := rowIs_grown hR2 hg3 (by omega)
  have hB3 : Below w.heap.size w w3 := hBw.trans (below_of_grown hg3 (by omega) hBw.size)
  clear hR2 hBw hg3 hH HT2
  have hT3 : ∀ k, k < 64 → w3.cell? ⟨0, k, none⟩ = some (.int .u32 (Sha.KL.getD k 0)) := fun k hk => by
    rw [hB3.cell (p := ⟨0, k, none⟩) h00]; exact HT.out k hk
  have HT3 := Lib.hid hT3
  clear hT3
  have hsz3 := hB3.size
  go_wp2_with fail
  refine (hsum_any (some ⟨C, 0, none⟩) _ _ _ _ (.inl ⟨C, rfl, hH3⟩) (by omega) (by omega) HT3.out).mono ?_
  rintro e w4 ⟨rfl, hB4⟩
  rw [List.nil_append, Nat.zero_add, sum_of_fin]
  have hR4 : w4.rowIs w.heap.size 25 32 (fun _ => .int .u8 0) := rowIs_below hR3 hB4 hR3.lt
  have hB5 : Below w.heap.size w w4 := hB3.trans (hB4.mono hsz3)
  obtain ⟨es, hes⟩ : ∃ es, es = (u8s (Sha.sum l)).toArray := ⟨_, rfl⟩
  have hes2 : es = rowArr 32 (fun j => .int .u8 ((Sha.sum l).getD j 0)) := by rw [hes]; exact u8s_rowArr _ 32 (Sha.length_sum l)
  have HES := Lib.hid hes2
  have HES1 := Lib.hid hes
  rw [← hes]
  clear hes hes2 hB4 hR3 hB3 hH3 HT3
  go_wp2_with (first
    | (refine wpList_store_abs rfl 25 (.tmp 2) (.tmp 9) rfl w.heap.size rfl es rfl 25 32 _ _ hR4 HES.out Tryd.sz25 (fun j _ => rfl) ?_; intro w9 hR9 hg9 hs9; clear hs9)
    | fail)
  have hbk := rowIs_block hR9
  refine bodyPost_ret (results_row (g := w.heap.size) rfl rfl hbk Tryd.underlying25 rfl (by rw [size_rowArr]; exact Tryd.sz25)) rfl ⟨?_, ?_⟩
  · rw [← HES.out, HES1.out]
  · exact hB5.trans (below_of_grown hg9 (Nat.le_refl _) hB5.size)
theorem sum_any (a : Option Addr) (cap : Nat) (l : List Int) (w : World) (hB : BytesAt (fun b => b < w.heap.size) w a cap l) (hcap : cap ≤ 140737488355328) (h00 : 0 < w.heap.size)
   (hT : ∀ k, k < 64 → w.cell? ⟨0, k, none⟩ = some (.int .u32 (Sha.KL.getD k 0))) :
    Calls Tryd.prog 10 #[.slice a l.length cap] w fun e w' => e = .returned (.agg (u8s (Sha.sum l)).toArray) ∧ Below w.heap.size w w' :=
  sum_len a cap l w hB (by omega) (by have := hB.fits; omega) h00 hT
end Go.Proofs.YtmilbmgbpoekmaaDoor
