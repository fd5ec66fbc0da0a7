/-
  THE LAW ShaDigits' walk.
-/
import Derived.Test.YtmilbmgbpoekmaaDoorT18
import Derived.Test.YtmilbmgbpoekmaaDoorT19
import Derived.Test.YtmilbmgbpoekmaaDoorT15
namespace Go.Proofs.YtmilbmgbpoekmaaDoor
open Go.RowKit
set_option maxRecDepth 100000

theorem ld25 {w : World} {g : Nat} {f : Nat → Value} {cs : Array Value} (h : w.rowIs g 25 32 f) (hc : cs = rowArr 32 f) : (loadVar 25 ⟨g, 0, none⟩).run Tryd.prog w = .ok (.agg cs) w := by
  subst hc
  exact run_loadVar_row w g 25 25 _ (0, 0) _ (rowIs_block h) Tryd.underlying25 rfl (by rw [size_rowArr]; exact Tryd.sz25)

/-- An array of 32 bytes loaded by value, as one step of a quiet walk. -/
theorem quiet_load25 {o : Oper} {a : Act} {C : World → Prop} {K : Act → Prop} (x : Operand) (ho : o.op = .load 25 x) (g : Nat) (hx : a.eval x = .pointer (some ⟨g, 0, none⟩)) (cs : Array Value)
    (h : ∀ w, C w → (loadVar 25 ⟨g, 0, none⟩).run Tryd.prog w = .ok (.agg cs) w) (hk : K (a.put o.dst (.agg cs))) : o.quiet Tryd.prog a C K := by
  refine ⟨.agg cs, fun w hw => ?_, hk⟩
  unfold Oper.quietAt execOp
  simp only [ho, hx, Instr.loadAt, Instr.sureAddr, Sem.run_bind, Sem.run_pure, Result.andThen_ok, h w hw]
  exact ⟨rfl, rfl⟩

set_option maxHeartbeats 4000000 in
/-- veneerlaw01.ShaDigits(b, s). -/
theorem shaDigits_walk (a : Option Addr) (cap : Nat) (l : List Int) (s : ByteArray) (w : World) (hB : BytesAt (fun b => b < w.heap.size) w a cap l)
    (hcap : cap ≤ 140737488351232) (h0 : 0 < w.heap.size) (hT : TabK w) :
    Calls Tryd.prog 7 #[.slice a l.length cap, .string s] w fun e w' => e = .returned (.bool true) ∧ Below w.heap.size w w' := by
  have HT := Lib.hid hT
  clear hT
  have hg := eqGuard25
  have bx := byte_of_at hB
  have lx := length_foldL l
  obtain ⟨x, hx⟩ : ∃ x, x = foldL l := ⟨_, rfl⟩
  rw [← hx] at bx lx
  have BX := Lib.hid bx
  have HX := Lib.hid hx
  have LX := Lib.hid lx
  clear bx hx lx
  go_enter Tryd.func7, Tryd.ntmps7
  go_wp2_with fail
  go_at_call 9
  refine (awake_any w h0 HT.out).mono ?_
  rintro e w1 ⟨rfl, hb1⟩
  go_wp2_with fail
  go_at_call 12
  refine (fold_any a cap l w1 (hB.to (fun b h => Nat.lt_of_lt_of_le h hb1.size) (fun b h => hb1.block b h)) (by omega)).mono ?_
  rintro e w2 ⟨rfl, hb2⟩
  have hb12 := hb1.trans (hb2.mono hb1.size)
  clear hb1 hb2
  rw [← HX.out]
  obtain ⟨cs, hcs⟩ : ∃ cs, cs = (u8s x).toArray := ⟨_, rfl⟩
  rw [← hcs]
  have HC := Lib.hid (hcs.trans (u8s_rowArr x 32 LX.out))
  have HC' := Lib.hid hcs
  clear hcs
  go_wp2_with (first
    | (refine wpList_alloc_abs rfl 25 rfl _ (zero25 _) 32 (fun _ => .int .u8 0) rfl ?_; intro w3 X hX hXr hXb hXl)
    | (refine wpList_store_abs rfl 25 (.tmp 5) (.tmp 13) rfl X rfl cs rfl 25 32 _ _ hXr HC.out Tryd.sz25 (fun j _ => rfl) ?_; intro w4 hX4 hg4 hs4)
    | fail)
  have hXs : w.heap.size ≤ X := by have := hX.out; have := hb12.size; omega
  have hb14 : Below w.heap.size w w4 := (hb12.trans (hXb.mono hXs)).trans (below_of_grown hg4 hXs (by omega))
  clear hXr hXb hXl hg4 hs4 hb12
  obtain ⟨S, hS⟩ : ∃ S, S = strL s := ⟨_, rfl⟩
  go_at_call 20
  refine (unhex_any s w4).mono ?_
  rintro e w5 ⟨rfl, hb5⟩
  rw [← hS]
  obtain ⟨ds, hds⟩ : ∃ ds, ds = (u8s (unR S)).toArray := ⟨_, rfl⟩
  rw [← hds]
  obtain ⟨E, hE⟩ : ∃ E, E = unE S := ⟨_, rfl⟩
  rw [← hE]
  have HS := Lib.hid hS
  have HE := Lib.hid hE
  have HD := Lib.hid (hds.trans (u8s_rowArr (unR S) 32 (length_unR S)))
  have HD' := Lib.hid hds
  clear hds hS hE
  have hX5 := rowIs_below hX4 hb5 hX4.lt
  have hb15 := hb14.trans (hb5.mono hb14.size)
  clear hX4 hb14 hb5
  go_wp2_with (first
    | (refine wpList_alloc_abs rfl 25 rfl _ (zero25 _) 32 (fun _ => .int .u8 0) rfl ?_; intro w6 Y hY hYr hYb hYl)
    | (refine wpList_store_abs rfl 25 (.tmp 6) (.tmp 17) rfl Y rfl ds rfl 25 32 _ _ hYr HD.out Tryd.sz25 (fun j _ => rfl) ?_; intro w7 hY7 hg7 hs7
       have hYs : X < Y := by have := hY.out; have := hX5.lt; omega
       have hX7 := rowIs_grown (rowIs_below hX5 hYb hYs) hg7 (by omega)
       have hb17 : Below w.heap.size w w7 := (hb15.trans (hYb.mono (by omega))).trans (below_of_grown hg7 (by omega) (by omega))
       clear hYr hYb hYl hg7 hs7 hb15 hX5)
    | fail)
  go_at_call 21
  refine (refunhex_any s w7).mono ?_
  rintro e w8 ⟨rfl, hb8⟩
  rw [← HS.out, ← HD'.out, ← HE.out]
  have hX8 := rowIs_below hX7 hb8 hX7.lt
  have hY8 := rowIs_below hY7 hb8 hY7.lt
  have hb18 := hb17.trans (hb8.mono hb17.size)
  clear hX7 hY7 hb17 hb8
  go_wp2_with (first
    | (refine wpList_alloc_abs rfl 25 rfl _ (zero25 _) 32 (fun _ => .int .u8 0) rfl ?_; intro w9 Z hZ hZr hZb hZl)
    | (refine wpList_store_abs rfl 25 (.tmp 8) (.tmp 22) rfl Z rfl ds rfl 25 32 _ _ hZr HD.out Tryd.sz25 (fun j _ => rfl) ?_; intro w10 hZ10 hg10 hs10
       have hZs : Y < Z := by have := hZ.out; have := hY8.lt; omega
       have hX10 := rowIs_grown (rowIs_below hX8 hZb (by omega)) hg10 (by omega)
       have hY10 := rowIs_grown (rowIs_below hY8 hZb hZs) hg10 (by omega)
       have hb20 : Below w.heap.size w w10 := (hb18.trans (hZb.mono (by omega))).trans (below_of_grown hg10 (by omega) (by omega))
       clear hZr hZb hZl hg10 hs10 hb18 hX8 hY8)
    | fail)
  obtain ⟨T, hT⟩ : ∃ T, T = strOfNums (hexL x) := ⟨_, rfl⟩
  have hhex : ∀ w, Calls Tryd.prog 14 #[.agg cs] w fun e w' => e = .returned (.string T) ∧ Below w.heap.size w w' := fun w => by
    rw [HC'.out, hT]; exact hex_any x LX.out BX.out w
  have hhex2 : ∀ w, Calls Tryd.prog 22 #[.agg cs] w fun e w' => e = .returned (.string T) ∧ Below w.heap.size w w' := fun w => by
    rw [HC'.out, hT]; exact refhex_any x LX.out BX.out w
  clear hT
  obtain ⟨B, hBB⟩ : ∃ B, B = w10.heap.size := ⟨_, rfl⟩
  have l1 : ∀ e : Ext B w10, (loadVar 25 ⟨X, 0, none⟩).run Tryd.prog e.x = .ok (.agg cs) e.x := fun e => ld25 (rowIs_below hX10 e.h (by have := hX10.lt; omega)) HC.out
  have l2 : ∀ e : Ext B w10, (loadVar 25 ⟨Y, 0, none⟩).run Tryd.prog e.x = .ok (.agg ds) e.x := fun e => ld25 (rowIs_below hY10 e.h (by have := hY10.lt; omega)) HD.out
  have l3 : ∀ e : Ext B w10, (loadVar 25 ⟨Z, 0, none⟩).run Tryd.prog e.x = .ok (.agg ds) e.x := fun e => ld25 (rowIs_below hZ10 e.h (by have := hZ10.lt; omega)) HD.out
  have heq : ∀ w, (Op.equalIn 10000 25 (.agg ds) (.agg ds)).run Tryd.prog w = .ok true w := fun w => by
    rw [HD'.out, run_equalIn_25 9998 _ _ (length_unR S) (length_unR S)]
    simp
  have hBle : B ≤ w10.heap.size := by omega
  clear hX10 hY10 hZ10
  refine wp_region_below B (by kernel_rfl) (by kernel_rfl) ?_
  have c1 : ∀ w', (∃ e : Ext B w10, w' = e.x) → (loadVar 25 ⟨X, 0, none⟩).run Tryd.prog w' = .ok (.agg cs) w' := fun w' ⟨e, he⟩ => he ▸ l1 e
  have c2 : ∀ w', (∃ e : Ext B w10, w' = e.x) → (loadVar 25 ⟨Y, 0, none⟩).run Tryd.prog w' = .ok (.agg ds) w' := fun w' ⟨e, he⟩ => he ▸ l2 e
  have c3 : ∀ w', (∃ e : Ext B w10, w' = e.x) → (loadVar 25 ⟨Z, 0, none⟩).run Tryd.prog w' = .ok (.agg ds) w' := fun w' ⟨e, he⟩ => he ▸ l3 e
  clear l1 l2 l3
  repeat (first
    | go_big_quiet_skip
    | (go_big_quiet_want
       first
       | (refine quiet_load25 (.tmp 5) rfl X rfl cs c1 ?_; simp only [Act.put, List.setIfInBounds_toArray, List.set_cons_succ, List.set_cons_zero]; go_big_quiet_on)
       | (refine quiet_load25 (.tmp 6) rfl Y rfl ds c2 ?_; simp only [Act.put, List.setIfInBounds_toArray, List.set_cons_succ, List.set_cons_zero]; go_big_quiet_on)
       | (refine quiet_load25 (.tmp 8) rfl Z rfl ds c3 ?_; simp only [Act.put, List.setIfInBounds_toArray, List.set_cons_succ, List.set_cons_zero]; go_big_quiet_on)
       | (go_big_quiet_op; first | go_big_quiet_on | (apply Exists.intro; refine ⟨fun e => ?_, ?_⟩; (first | (go_at_call 14; exact below_call hBle e (hhex e.x)) | (go_at_call 22; exact below_call hBle e (hhex2 e.x))); go_big_quiet_on))))
  refine wpQuiet_nil ?_
  intro w11 hb11
  go_wp2_with fail
  go_ret
  exact ⟨rfl, hb20.trans (hb11.mono (by rw [hBB]; exact hb20.size))⟩
end Go.Proofs.YtmilbmgbpoekmaaDoor
