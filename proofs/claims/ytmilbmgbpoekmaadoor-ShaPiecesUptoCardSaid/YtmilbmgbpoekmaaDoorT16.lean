/-
  THE LAW ShaKeeps' walk.
-/
import Derived.Test.YtmilbmgbpoekmaaDoorT11
import Derived.Lib.BytesEntry
namespace Go.Proofs.YtmilbmgbpoekmaaDoor
open Go.RowKit
set_option maxRecDepth 100000

/-- Own bytes that are there lie in a row. -/
theorem OwnB.row {base : Nat} {w : World} {v : Value} {m : List Int} (h : OwnB base w v m) (hm : 0 < m.length) :
    ∃ g cap N f, v = .slice (some ⟨g, 0, none⟩) m.length cap ∧ base ≤ g ∧ m.length ≤ cap ∧ cap ≤ maxLen ∧ w.rowIs g 5 N f ∧ m.length ≤ N ∧ ∀ j, j < m.length → f j = .int .u8 (m.getD j 0) := by
  obtain ⟨g, cap, rfl, hg, hlt, hc1, hc2, hcell⟩ := h.at hm
  obtain ⟨h1, h2⟩ := h
  rcases h2 with ⟨_, h2⟩ | ⟨g', cap', cur, hv, hg', hh, hc, hmx, hsz, htk⟩
  · omega
  · injection hv with e1 e2 e3
    injection e1 with e1
    injection e1 with e1 _ _
    subst e1
    subst e3
    have hlen : m.length ≤ cur.size := by
      have e := congrArg List.length htk
      rw [List.length_take, length_u8s, Nat.mul_one, Array.length_toList] at e
      omega
    refine ⟨g, cap, cur.size, fun j => cur[j]?.getD undef, rfl, hg, hc1, hc2, ⟨cur, hh, rfl, fun j hj => by simp [hj]⟩, hlen, fun j hj => ?_⟩
    have h3 := hcell j hj
    rw [cell_of_row w g j cur 5 (0, 0) hh] at h3
    simp [h3]

/-- string(b). -/
theorem run_string_at {ok : Nat → Prop} {w : World} {a : Option Addr} {cap : Nat} {l : List Int} (h : BytesAt ok w a cap l) : (convert 22 9 (.slice a l.length cap)).run Tryd.prog w = .ok (.string (strOfNums l)) w := by
  cases a with
  | none =>
    have h0 := h.none_ rfl
    have h1 := h.fits
    obtain rfl : l = [] := List.eq_nil_of_length_eq_zero (by omega)
    exact run_convert_bytes_nil w 22 5 Tryd.underlying22 Tryd.underlying5 _ _ 9 (by kernel_rfl)
  | some ad =>
    obtain ⟨b, o, s⟩ := ad
    obtain ⟨rfl, _, hc⟩ := h.some_ b o s rfl
    exact run_convert_bytes_arg w 22 5 Tryd.underlying22 Tryd.underlying5 b o l.length cap l rfl hc 9 (by kernel_rfl)

/-- h.Sum() of a hash that has all of l. -/
theorem hashSum_any (hb : Nat) (l : List Int) (w : World) (hH : HashIs w hb (Sha.finSt Sha.init l) (Sha.finBuf l) l.length) (hn : l.length ≤ 1152921504606846976) (h00 : 0 < w.heap.size) (hT : TabK w) :
    Calls Tryd.prog 18 #[.pointer (some ⟨hb, 0, none⟩)] w fun e w' => e = .returned (.agg (u8s (Sha.sum l)).toArray) ∧ Below w.heap.size w w' := by
  have h := hsum_any (some ⟨hb, 0, none⟩) _ _ _ w (.inl ⟨hb, rfl, hH⟩) hn h00 hT
  rw [sum_of_fin] at h
  exact h
theorem hashSum_nil (w : World) (h00 : 0 < w.heap.size) (hT : TabK w) :
    Calls Tryd.prog 18 #[.pointer none] w fun e w' => e = .returned (.agg (u8s (Sha.sum [])).toArray) ∧ Below w.heap.size w w' := by
  have h := hsum_any none _ _ _ w (.inr ⟨rfl, rfl, rfl, rfl⟩) (by omega) h00 hT
  have e := sum_of_fin []
  have e1 : Sha.finSt Sha.init [] = Sha.init := rfl
  have e2 : Sha.finBuf [] = [] := rfl
  rw [e1, e2] at e
  simp only [List.length_nil] at e h
  rw [e] at h
  exact h
theorem refNil_any (w : World) : Calls Tryd.prog 11 #[.slice none 0 0] w fun e w' => e = .returned (.agg (u8s (Sha.sum [])).toArray) ∧ Below w.heap.size w w' :=
  ref_any none 0 [] w ⟨by simp, by simp, by simp, by simp⟩ (by omega)

set_option maxHeartbeats 4000000 in
/-- veneerlaw01.ShaKeeps(b, mark). -/
theorem shaKeeps_walk (a : Option Addr) (cap : Nat) (l : List Int) (mark : Int) (w : World) (hB : BytesAt (fun b => b < w.heap.size) w a cap l) (hcap : cap ≤ 140737488351232) (h0 : 0 < w.heap.size) (hT : TabK w) :
    Calls Tryd.prog 6 #[.slice a l.length cap, .int .u8 mark] w fun e w' => e = .returned (.bool true) ∧ Below w.heap.size w w' := by
  have HT := Lib.hid hT
  clear hT
  have hg := eqGuard25
  have hlc := hB.fits
  have hcv0 := run_string_at hB
  obtain ⟨L, hL⟩ : ∃ L, L = l.length := ⟨_, rfl⟩
  have HL := Lib.hid hL
  have hLc : L ≤ 140737488351232 := by omega
  have hLcap : L ≤ cap := by omega
  rw [← hL]
  clear hL hlc hcv0
  go_enter Tryd.func6, Tryd.ntmps6
  go_wp2_with fail
  go_at_call 9
  refine (awake_any w h0 HT.out).mono ?_
  rintro e w1 ⟨rfl, hb1⟩
  have hB1 : BytesAt (fun b => b < w1.heap.size) w1 a cap l := hB.to (fun b h => Nat.lt_of_lt_of_le h hb1.size) (fun b h => hb1.block b h)
  have hfit1 : ([] : List Int).length + l.length ≤ 140737488355328 := by have := HL.out; simp; omega
  have hfit2 : ([] ++ l).length + [(7 : Int), 9].length ≤ 140737488355328 := by have := HL.out; simp; omega
  have b7 : (0 : Int) ≤ 7 ∧ (7 : Int) < 256 := by omega
  have b9 : (0 : Int) ≤ 9 ∧ (9 : Int) < 256 := by omega
  go_wp2_with (first
    | (refine wpList_append_bytes rfl (.tmp 11) (.tmp 12) rfl w1.heap.size _ [] rfl ⟨rfl, .inr ⟨w1.heap.size, 0, #[], rfl, Nat.le_refl _, Go.Deep.blk_alloc_new _ _, Nat.le_refl _, by unfold maxLen; omega, rfl, rfl⟩⟩ (fun b => b < w1.heap.size) a L cap l rfl HL.out.symm (hB1.keep (fun b hb => Go.Deep.blk_alloc_lt _ _ _ hb)) hfit1 (by simp) ?_; intro v2 w2 hown2 hgr2
       have hb12 : Below w1.heap.size w1 w2 := ((Below.refl _ _).alloc (Nat.le_refl _) _).trans (below_of_grown (g := w1.heap.size) hgr2 (Nat.le_refl _) (by simp)))
    | (refine wpList_append_bytes rfl (.tmp 13) (.tmp 14) rfl w1.heap.size _ _ rfl (hown2.alloc _) (fun _ => True) _ 2 2 [7, 9] rfl rfl (bytesAt_two w2 7 9 b7 b9) hfit2 (by have := hb12.size; simp; omega) ?_; intro v3 w3 hown3 hgr3)
    | fail)
  have hb13 : Below w1.heap.size w1 w3 := hb12.trans (((Below.refl _ _).alloc hb12.size _).grown hgr3 (by have := hb12.size; simp; omega) (fun k hk => (World.ownsRow.lt hown2 k hk).1))
  clear hb12 hown2 hgr2 hgr3 hfit1 hfit2
  obtain ⟨g, rcap, N, f, rfl, hg1, hrc, hrm, hrow, hN, hf⟩ := hown3.row (by simp)
  have hml : ([] ++ l ++ [7, 9] : List Int).length = L + 2 := by have := HL.out; simp; omega
  rw [hml] at hrc hN hf
  rw [hml]
  have hb1w3 : Below w.heap.size w w3 := hb1.trans (hb13.mono hb1.size)
  have hglt := hrow.lt
  have hg0 : w.heap.size ≤ g := Nat.le_trans hb1.size hg1
  have hml2 : ∀ j, j < L → f j = .int .u8 (l.getD j 0) := fun j hj => by
    rw [hf j (by omega)]
    have := HL.out
    rw [List.nil_append, List.getD_eq_getElem?_getD, List.getElem?_append_left (by omega), ← List.getD_eq_getElem?_getD]
  have HF := Lib.hid hf
  have HF2 := Lib.hid hml2
  clear hf hml2 hown3 hb13 hB1
  refine (new_any w3).mono ?_
  rintro e w4 ⟨rfl, hH4, hb34⟩
  obtain ⟨C, hC⟩ : ∃ C, C = w3.heap.size := ⟨_, rfl⟩
  rw [← hC] at hH4 hb34 ⊢
  rw [← hC] at hglt
  have hrow4 := rowIs_below hrow hb34 hglt
  have hC0 : w.heap.size ≤ C := by have := hb1w3.size; omega
  have hb14 : Below w.heap.size w w4 := hb1w3.trans (hb34.mono hC0)
  clear hrow hb34 hb1w3 hC
  have hgC : g ≠ C := by omega
  have hC4 := hH4.lt
  go_wp2_with fail
  go_at_call 19
  refine (write_len C (some ⟨g, 0, none⟩) rcap L l Sha.init [] 0 w4 HL.out.symm hH4 ⟨by have := HL.out; omega, by simp, fun b o s e => ?_, hB.byte⟩ (by unfold maxLen at hrm; omega) (by omega) (by omega) (Nat.lt_of_lt_of_le h0 hb14.size) (by omega) (TabK.below HT.out h0 hb14)).mono ?_
  · cases e
    refine ⟨rfl, ⟨by omega, hgC⟩, fun j hj => ?_⟩
    have hj' : j < L := by have := HL.out; omega
    rw [Nat.zero_add, hrow4.cell (i := j) (by omega), HF2.out j hj']
  rintro e w5 ⟨rfl, hgr5, hH5⟩
  rw [List.nil_append, Nat.zero_add] at hH5
  have hrow5 := rowIs_grown hrow4 hgr5 hgC
  have hb15 : Below w.heap.size w w5 := hb14.trans (below_of_grown hgr5 hC0 hb14.size)
  clear hrow4 hgr5 hb14 hH4
  obtain ⟨A, hA⟩ : ∃ A, A = strOfNums ([] ++ l ++ [7, 9]) := ⟨_, rfl⟩
  obtain ⟨B, hBs⟩ : ∃ B, B = strOfNums l := ⟨_, rfl⟩
  have hcv1 : (convert 22 9 (.slice (some ⟨g, 0, none⟩) (L + 2) rcap)).run Tryd.prog w5 = .ok (.string A) w5 := by
    rw [hA]
    exact run_convert_bytes_arg w5 22 5 Tryd.underlying22 Tryd.underlying5 g 0 (L + 2) rcap _ hml (fun j hj => by rw [Nat.zero_add, hrow5.cell (i := j) (by omega), HF.out j hj]) 9 (by kernel_rfl)
  have hcv2 : (convert 22 9 (.slice a L cap)).run Tryd.prog w5 = .ok (.string B) w5 := by
    rw [hBs, HL.out]
    exact run_string_at (hB.keep (fun b hb => hb15.block b hb))
  have hne : (A.toList == (B ++ ⟨#[7, 9]⟩).toList) = true := by
    rw [hA, hBs, beq_iff_eq, Lib.toList_data, Lib.toList_data]
    simp [strOfNums]
  have hBz : B.size ≤ 140737488351232 := by rw [hBs, strOfNums_size, ← HL.out]; exact hLc
  clear hA hBs
  go_wp2_with fail
  clear hcv1 hcv2 hne hBz
  obtain ⟨M, hM⟩ : ∃ M, M = L + 2 := ⟨_, rfl⟩
  rw [← hM]
  rw [← hM] at hN
  go_loopw [7] (fun x wr => ∃ i : Nat, i ≤ M ∧ x = .int .i64 i ∧ (∃ f, wr.rowIs g 5 N f) ∧ HashIs wr C (Sha.finSt Sha.init l) (Sha.finBuf l) L ∧ Below w.heap.size w wr) (fun x _ => M - (intOf x).toNat)
  case atStart => exact ⟨0, by omega, rfl, ⟨f, hrow5⟩, hH5, hb15⟩
  case round =>
    clear hrow5 hH5 hb15 HF HF2
    obtain ⟨i, hi, rfl, ⟨f', hrow6⟩, hH6, hb6⟩ := hrel
    by_cases hlt : i < M
    · have c := hrow6.cell (i := i) (by omega)
      have fz := hrow6.frozen i
      go_wp2_with fail
      go_roundw
      case rel =>
        exact ⟨i + 1, by omega, by go_num, ⟨_, hrow6.set i _⟩, hH6.of_block (Below.heap_setCell wr _ _ C (fun e => hgC e.symm)), hb6.setCell (p := ⟨g, i, none⟩) hg0 _⟩
      case measure => simp [intOf]; omega
    · have hsz6 := hb6.size
      go_wp2_with fail
      go_at_call 19
      refine (write_nil a L cap wr).mono ?_
      rintro e w7 ⟨rfl, rfl⟩
      go_wp2_with fail
      go_at_call 18
      refine (hashSum_any C l wr (by rw [HL.out] at hH6; exact hH6) (by have := HL.out; omega) (Nat.lt_of_lt_of_le h0 hsz6) (TabK.below HT.out h0 hb6)).mono ?_
      rintro e w8 ⟨rfl, hb8⟩
      have hb68 := hb6.trans (hb8.mono hsz6)
      obtain ⟨cs, hcs⟩ : ∃ cs, cs = (u8s (Sha.sum l)).toArray := ⟨_, rfl⟩
      rw [← hcs]
      have HC := Lib.hid hcs
      go_wp2_with fail
      go_at_call 11
      rw [HL.out]
      refine (ref_any a cap l w8 (hB.to (fun b h => Nat.lt_of_lt_of_le h hb68.size) (fun b h => hb68.block b h)) hcap).mono ?_
      rintro e w9 ⟨rfl, hb9⟩
      have hb69 := hb68.trans (hb9.mono hb68.size)
      rw [← hcs, ← HL.out]
      have heq : ∀ w, (Op.equalIn 10000 25 (.agg cs) (.agg cs)).run Tryd.prog w = .ok true w := fun w => by
        rw [hcs, run_equalIn_25 9998 _ _ (Sha.length_sum l) (Sha.length_sum l)]
        simp
      clear hcs
      go_wp2_with fail
      go_at_call 17
      refine (len_nil w9).mono ?_
      rintro e w10 ⟨rfl, rfl⟩
      go_wp2_with fail
      go_at_call 18
      refine (hashSum_nil w9 (Nat.lt_of_lt_of_le h0 hb69.size) (TabK.below HT.out h0 hb69)).mono ?_
      rintro e w11 ⟨rfl, hb11⟩
      have hb70 := hb69.trans (hb11.mono hb69.size)
      obtain ⟨ds, hds⟩ : ∃ ds, ds = (u8s (Sha.sum [])).toArray := ⟨_, rfl⟩
      rw [← hds]
      go_wp2_with fail
      go_at_call 11
      refine (refNil_any w11).mono ?_
      rintro e w12 ⟨rfl, hb12⟩
      have hb71 := hb70.trans (hb12.mono hb70.size)
      rw [← hds]
      have heq2 : ∀ w, (Op.equalIn 10000 25 (.agg ds) (.agg ds)).run Tryd.prog w = .ok true w := fun w => by
        rw [hds, run_equalIn_25 9998 _ _ (Sha.length_sum []) (Sha.length_sum [])]
        simp
      clear hds
      go_wp2_with fail
      go_ret
      exact ⟨rfl, hb71⟩
end Go.Proofs.YtmilbmgbpoekmaaDoor
