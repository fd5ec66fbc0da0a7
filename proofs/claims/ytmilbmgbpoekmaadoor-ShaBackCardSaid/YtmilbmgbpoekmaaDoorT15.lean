/-
  THE LAW ShaOrder's walk.
-/
import Derived.Test.YtmilbmgbpoekmaaDoorT14
namespace Go.Proofs.YtmilbmgbpoekmaaDoor
open Go.RowKit
set_option maxRecDepth 100000

/-- An array of 32 bytes loaded by value, guarded or not. -/
theorem wpList_load_u8 {ops : Array Oper} {rest : List Oper} {op : Oper} {a : Act} {w : World} {Q : Exit → Act → World → Prop} (hw : Region.wanted op (yielded ops a.tmps) = true) (x : Operand) (ho : op.op = .load 25 x)
    (g : Nat) (hx : a.eval x = .pointer (some ⟨g, 0, none⟩)) (cs : Array Value) (f : Nat → Value) (hg : w.rowIs g 25 32 f) (hc : cs = rowArr 32 f)
    (h : wpList Tryd.prog ops Q rest (a.put op.dst (.agg cs)) w) : wpList Tryd.prog ops Q (op :: rest) a w := by
  subst hc
  exact BigFrame.wpList_want hw fun K hK => wp_load_row 25 x ho g hx 25 _ (0, 0) _ (rowIs_block hg) Tryd.underlying25 rfl (by rw [size_rowArr]; exact Tryd.sz25) (hK _ _ h)

theorem byte_of_at {ok : Nat → Prop} {w : World} {a : Option Addr} {cap : Nat} {l : List Int} (h : BytesAt ok w a cap l) : ∀ j, 0 ≤ (foldL l).getD j 0 ∧ (foldL l).getD j 0 < 256 := byte_foldL h.byte

set_option maxHeartbeats 4000000 in
/-- veneerlaw01.ShaOrder(a, b). -/
theorem shaOrder_walk (a : Option Addr) (cap : Nat) (l : List Int) (a' : Option Addr) (cap' : Nat) (l' : List Int) (w : World) (hB : BytesAt (fun b => b < w.heap.size) w a cap l) (hB' : BytesAt (fun b => b < w.heap.size) w a' cap' l')
    (hcap : cap ≤ 140737488351232) (hcap' : cap' ≤ 140737488351232) (h0 : 0 < w.heap.size) (hT : TabK w) :
    Calls Tryd.prog 4 #[.slice a l.length cap, .slice a' l'.length cap'] w fun e w' => e = .returned (.bool true) ∧ Below w.heap.size w w' := by
  have HT := Lib.hid hT
  clear hT
  have bx := byte_of_at hB
  have by_ := byte_of_at hB'
  have lx := length_foldL l
  have ly := length_foldL l'
  obtain ⟨x, hx⟩ : ∃ x, x = foldL l := ⟨_, rfl⟩
  obtain ⟨y, hy⟩ : ∃ y, y = foldL l' := ⟨_, rfl⟩
  rw [← hx] at bx lx
  rw [← hy] at by_ ly
  have BX := Lib.hid bx
  have BY := Lib.hid by_
  have HX := Lib.hid hx
  have HY := Lib.hid hy
  have LX := Lib.hid lx
  have LY := Lib.hid ly
  clear bx by_ hx hy lx ly
  go_enter Tryd.func4, Tryd.ntmps4
  go_wp2_with fail
  go_at_call 9
  refine (awake_any w h0 HT.out).mono ?_
  rintro e w1 ⟨rfl, hb1⟩
  go_wp2_with fail
  go_at_call 12
  refine (fold_any a cap l w1 (hB.to (fun b h => Nat.lt_of_lt_of_le h hb1.size) (fun b h => hb1.block b h)) (by omega)).mono ?_
  rintro e w2 ⟨rfl, hb2⟩
  have hb12 := hb1.trans (hb2.mono hb1.size)
  clear hb1 hb2
  rw [← HX.out]
  obtain ⟨cs, hcs⟩ : ∃ cs, cs = (u8s x).toArray := ⟨_, rfl⟩
  rw [← hcs]
  have HC := Lib.hid (hcs.trans (u8s_rowArr x 32 LX.out))
  have HC' := Lib.hid hcs
  clear hcs
  go_wp2_with (first
    | (refine wpList_alloc_abs rfl 25 rfl _ (zero25 _) 32 (fun _ => .int .u8 0) rfl ?_; intro w3 X hX hXr hXb hXl)
    | (refine wpList_store_abs rfl 25 (.tmp 5) (.tmp 13) rfl X rfl cs rfl 25 32 _ _ hXr HC.out Tryd.sz25 (fun j _ => rfl) ?_; intro w4 hX4 hg4 hs4)
    | fail)
  have hXs : w.heap.size ≤ X := by have := hX.out; have := hb12.size; omega
  have hb14 : Below w.heap.size w w4 := (hb12.trans (hXb.mono hXs)).trans (below_of_grown hg4 hXs (by omega))
  clear hXr hXb hXl hg4 hs4 hb12
  go_at_call 12
  refine (fold_any a' cap' l' w4 (hB'.to (fun b h => Nat.lt_of_lt_of_le h hb14.size) (fun b h => hb14.block b h)) (by omega)).mono ?_
  rintro e w5 ⟨rfl, hb5⟩
  rw [← HY.out]
  obtain ⟨ds, hds⟩ : ∃ ds, ds = (u8s y).toArray := ⟨_, rfl⟩
  rw [← hds]
  have HD := Lib.hid (hds.trans (u8s_rowArr y 32 LY.out))
  have HD' := Lib.hid hds
  clear hds
  have hX5 := rowIs_below hX4 hb5 hX4.lt
  have hb15 := hb14.trans (hb5.mono hb14.size)
  clear hX4 hb14 hb5
  go_wp2_with (first
    | (refine wpList_alloc_abs rfl 25 rfl _ (zero25 _) 32 (fun _ => .int .u8 0) rfl ?_; intro w6 Y hY hYr hYb hYl)
    | (refine wpList_store_abs rfl 25 (.tmp 6) (.tmp 15) rfl Y rfl ds rfl 25 32 _ _ hYr HD.out Tryd.sz25 (fun j _ => rfl) ?_; intro w7 hY7 hg7 hs7
       have hYs : X < Y := by have := hY.out; have := hX5.lt; omega
       have hX7 := rowIs_grown (rowIs_below hX5 hYb hYs) hg7 (by omega)
       have hb17 : Below w.heap.size w w7 := (hb15.trans (hYb.mono (by omega))).trans (below_of_grown hg7 (by omega) (by omega))
       clear hYr hYb hYl hg7 hs7 hb15 hX5)
    | (refine wpList_load_u8 rfl (.tmp 5) rfl X rfl cs _ hX7 HC.out ?_)
    | (refine wpList_load_u8 rfl (.tmp 6) rfl Y rfl ds _ hY7 HD.out ?_)
    | fail)
  obtain ⟨N, hN⟩ : ∃ N, N = lexCmp x y := ⟨_, rfl⟩
  have hN3 : N = -1 ∨ N = 0 ∨ N = 1 := by rw [hN]; exact lexCmp_cases x y
  have hcmp : ∀ w, Calls Tryd.prog 13 #[.agg cs, .agg ds] w fun e w' => e = .returned (.int .i64 N) ∧ Below w.heap.size w w' := fun w => by
    rw [HC'.out, HD'.out, hN]; exact cmp_any x y LX.out LY.out BX.out BY.out w
  have hcmp2 : ∀ w, Calls Tryd.prog 13 #[.agg ds, .agg cs] w fun e w' => e = .returned (.int .i64 (-N)) ∧ Below w.heap.size w w' := fun w => by
    rw [HC'.out, HD'.out, hN, ← lexCmp_swap x y]; exact cmp_any y x LY.out LX.out BY.out BX.out w
  have hcmp3 : ∀ w, Calls Tryd.prog 15 #[.agg cs, .agg ds] w fun e w' => e = .returned (.int .i64 N) ∧ Below w.heap.size w w' := fun w => by
    rw [HC'.out, HD'.out, hN]; exact refcmp_any x y LX.out LY.out BX.out BY.out w
  obtain ⟨S, hS⟩ : ∃ S, S = strOfNums (hexL x) := ⟨_, rfl⟩
  obtain ⟨T, hT⟩ : ∃ T, T = strOfNums (hexL y) := ⟨_, rfl⟩
  have hhex : ∀ w, Calls Tryd.prog 14 #[.agg cs] w fun e w' => e = .returned (.string S) ∧ Below w.heap.size w w' := fun w => by
    rw [HC'.out, hS]; exact hex_any x LX.out BX.out w
  have hhex2 : ∀ w, Calls Tryd.prog 14 #[.agg ds] w fun e w' => e = .returned (.string T) ∧ Below w.heap.size w w' := fun w => by
    rw [HD'.out, hT]; exact hex_any y LY.out BY.out w
  have hless : Op.bytesLess S.toList T.toList = decide (N < 0) := by
    rw [hS, hT, hN, Lib.strOfNums_toList, Lib.strOfNums_toList]
    exact hex_less x y (by rw [LX.out, LY.out]) (mem_of_getD BX.out) (mem_of_getD BY.out)
  have heq : (S.toList == T.toList) = (N == 0) := by
    rw [hS, hT, Lib.strOfNums_toList, Lib.strOfNums_toList, Bool.eq_iff_iff, beq_iff_eq, beq_iff_eq, hN, lexCmp_eq x y (by rw [LX.out, LY.out])]
    exact ⟨hexL_inj x y (mem_of_getD BX.out) (mem_of_getD BY.out), fun h => by rw [h]⟩
  have HL := Lib.hid hless
  have HE := Lib.hid heq
  clear hless heq hS hT hN
  go_at_call 13
  refine (hcmp w7).mono ?_
  rintro e w8 ⟨rfl, hb8⟩
  have hX8 := rowIs_below hX7 hb8 hX7.lt
  have hY8 := rowIs_below hY7 hb8 hY7.lt
  have hb18 := hb17.trans (hb8.mono hb17.size)
  clear hX7 hY7 hb17 hb8
  go_wp2_with (first
    | (refine wpList_load_u8 rfl (.tmp 5) rfl X rfl cs _ hX8 HC.out ?_)
    | (refine wpList_load_u8 rfl (.tmp 6) rfl Y rfl ds _ hY8 HD.out ?_)
    | fail)
  go_at_call 14
  refine (hhex w8).mono ?_
  rintro e w9 ⟨rfl, hb9⟩
  have hX9 := rowIs_below hX8 hb9 hX8.lt
  have hY9 := rowIs_below hY8 hb9 hY8.lt
  have hb19 := hb18.trans (hb9.mono hb18.size)
  clear hX8 hY8 hb18 hb9
  go_wp2_with (first
    | (refine wpList_load_u8 rfl (.tmp 5) rfl X rfl cs _ hX9 HC.out ?_)
    | (refine wpList_load_u8 rfl (.tmp 6) rfl Y rfl ds _ hY9 HD.out ?_)
    | fail)
  go_at_call 14
  refine (hhex2 w9).mono ?_
  rintro e w10 ⟨rfl, hb10⟩
  have hX10 := rowIs_below hX9 hb10 hX9.lt
  have hY10 := rowIs_below hY9 hb10 hY9.lt
  have hb20 := hb19.trans (hb10.mono hb19.size)
  clear hX9 hY9 hb19 hb10 hcmp hhex hhex2
  go_wp2_with (first
    | (refine wpList_load_u8 rfl (.tmp 5) rfl X rfl cs _ hX10 HC.out ?_)
    | (refine wpList_load_u8 rfl (.tmp 6) rfl Y rfl ds _ hY10 HD.out ?_)
    | fail)
  go_at_call 15
  refine (hcmp3 w10).mono ?_
  rintro e w11 ⟨rfl, hb11⟩
  have hX11 := rowIs_below hX10 hb11 hX10.lt
  have hY11 := rowIs_below hY10 hb11 hY10.lt
  have hb21 := hb20.trans (hb11.mono hb20.size)
  clear hX10 hY10 hb20 hb11 hcmp3
  go_wp2_with (first
    | (refine wpList_load_u8 rfl (.tmp 5) rfl X rfl cs _ hX11 HC.out ?_)
    | (refine wpList_load_u8 rfl (.tmp 6) rfl Y rfl ds _ hY11 HD.out ?_)
    | fail)
  go_at_call 13
  refine (hcmp2 w11).mono ?_
  rintro e w12 ⟨rfl, hb12⟩
  have hb22 := hb21.trans (hb12.mono hb21.size)
  clear hX11 hY11 hb21 hb12 hcmp2
  have hl := HL.out
  have he := HE.out
  rcases hN3 with rfl | rfl | rfl
  all_goals
    simp only [Int.reduceNeg, Int.reduceLT, decide_true, decide_false] at hl
    simp only [Int.reduceNeg, Int.reduceBEq] at he
    go_wp2_with fail
    go_ret
    exact ⟨rfl, hb22⟩
end Go.Proofs.YtmilbmgbpoekmaaDoor
