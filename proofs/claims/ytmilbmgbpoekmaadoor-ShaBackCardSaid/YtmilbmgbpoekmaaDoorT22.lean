/-
  THE LAW ShaBack's walk.
-/
import Derived.Test.YtmilbmgbpoekmaaDoorT20
import Derived.Test.YtmilbmgbpoekmaaDoorT21
namespace Go.Proofs.YtmilbmgbpoekmaaDoor
open Go.RowKit
set_option maxRecDepth 100000

/-- int(uint(at) % 64). -/
theorem at_place (a : Int) (_h : -9223372036854775808 ≤ a ∧ a ≤ 9223372036854775807) : ∃ k : Nat, k < 64 ∧ wrap64 ((IntKind.u64.wrap a).tmod 64) = (k : Int) := by
  have e : IntKind.u64.wrap a = a % 18446744073709551616 := by simp [IntKind.wrap, IntKind.bits, IntKind.signed]
  rw [e, Int.tmod_eq_emod_of_nonneg (by omega)]
  refine ⟨(a % 18446744073709551616 % 64).toNat, by omega, ?_⟩
  unfold wrap64
  omega

set_option maxHeartbeats 4000000 in
/-- veneerlaw01.ShaBack(b, at, c). -/
theorem shaBack_walk (a : Option Addr) (cap : Nat) (l : List Int) (at_ : Int) (c : Int) (w : World) (hB : BytesAt (fun b => b < w.heap.size) w a cap l)
    (hcap : cap ≤ 140737488351232) (hat : -9223372036854775808 ≤ at_ ∧ at_ ≤ 9223372036854775807) (hc : 0 ≤ c ∧ c < 256) (h0 : 0 < w.heap.size) (hT : TabK w) :
    Calls Tryd.prog 8 #[.slice a l.length cap, .int .i64 at_, .int .u8 c] w fun e w' => e = .returned (.bool true) ∧ Below w.heap.size w w' := by
  have HT := Lib.hid hT
  clear hT
  have hg := eqGuard25
  have bx := byte_of_at hB
  have lx := length_foldL l
  obtain ⟨x, hx⟩ : ∃ x, x = foldL l := ⟨_, rfl⟩
  rw [← hx] at bx lx
  have BX := Lib.hid bx
  have HX := Lib.hid hx
  have LX := Lib.hid lx
  have HCB := Lib.hid hc
  clear bx hx lx hc
  go_enter Tryd.func8, Tryd.ntmps8
  go_wp2_with fail
  go_at_call 9
  refine (awake_any w h0 HT.out).mono ?_
  rintro e w1 ⟨rfl, hb1⟩
  go_wp2_with fail
  go_at_call 12
  refine (fold_any a cap l w1 (hB.to (fun b h => Nat.lt_of_lt_of_le h hb1.size) (fun b h => hb1.block b h)) (by omega)).mono ?_
  rintro e w2 ⟨rfl, hb2⟩
  have hb12 := hb1.trans (hb2.mono hb1.size)
  clear hb1 hb2
  rw [← HX.out]
  obtain ⟨cs, hcs⟩ : ∃ cs, cs = (u8s x).toArray := ⟨_, rfl⟩
  rw [← hcs]
  have HC := Lib.hid (hcs.trans (u8s_rowArr x 32 LX.out))
  have HC' := Lib.hid hcs
  clear hcs
  go_wp2_with (first
    | (refine wpList_alloc_abs rfl 25 rfl _ (zero25 _) 32 (fun _ => .int .u8 0) rfl ?_; intro w3 X hX hXr hXb hXl)
    | (refine wpList_store_abs rfl 25 (.tmp 7) (.tmp 18) rfl X rfl cs rfl 25 32 _ _ hXr HC.out Tryd.sz25 (fun j _ => rfl) ?_; intro w4 hX4 hg4 hs4
       have hXs : w.heap.size ≤ X := by have := hX.out; have := hb12.size; omega
       have hb14 : Below w.heap.size w w4 := (hb12.trans (hXb.mono hXs)).trans (below_of_grown hg4 hXs (by omega))
       clear hXr hXb hXl hg4 hs4 hb12)
    | (refine wpList_load_u8 rfl (.tmp 7) rfl X rfl cs _ hX4 HC.out ?_)
    | fail)
  obtain ⟨T, hT⟩ : ∃ T, T = strOfNums (hexL x) := ⟨_, rfl⟩
  have hhex : ∀ w, Calls Tryd.prog 14 #[.agg cs] w fun e w' => e = .returned (.string T) ∧ Below w.heap.size w w' := fun w => by
    rw [HC'.out, hT]; exact hex_any x LX.out BX.out w
  have hTz : T.size = 64 := by rw [hT, strOfNums_size, length_hexL, LX.out]
  have HTT := Lib.hid hT
  go_at_call 14
  refine (hhex w4).mono ?_
  rintro e w5 ⟨rfl, hb5⟩
  have hX5 := rowIs_below hX4 hb5 hX4.lt
  have hb15 := hb14.trans (hb5.mono hb14.size)
  clear hX4 hb14 hb5 hhex hT
  obtain ⟨S, hS⟩ : ∃ S, S = hexL x := ⟨_, rfl⟩
  have hSb : ∀ y ∈ S, 0 ≤ y ∧ y < 256 := by rw [hS]; exact hexL_byte x (mem_of_getD BX.out)
  have hSok : unOk S := by rw [hS]; exact unOk_hexL x LX.out BX.out
  have hSx : unL S = x := by rw [hS]; exact unL_hexL x LX.out BX.out
  have hTS : T = strOfNums S := by rw [HTT.out, hS]
  have hst : strL T = S := by rw [hTS]; exact strL_strOfNums S hSb
  have HSB := Lib.hid hSb
  have HSOK := Lib.hid hSok
  have HSX := Lib.hid hSx
  have HTS := Lib.hid hTS
  have hun : ∀ w, Calls Tryd.prog 20 #[.string T] w fun e w' => e = .returned (.tuple #[.agg cs, .int .i64 0]) ∧ Below w.heap.size w w' := fun w => by
    have h := unhex_any T w
    rw [hst, (unR_ok hSok).1, (unR_ok hSok).2, hSx, ← HC'.out] at h
    exact h
  clear hS hSb hSok hSx hTS hst
  go_wp2_with fail
  go_at_call 20
  refine (hun w5).mono ?_
  rintro e w6 ⟨rfl, hb6⟩
  have hX6 := rowIs_below hX5 hb6 hX5.lt
  have hb16 := hb15.trans (hb6.mono hb15.size)
  clear hX5 hb15 hb6 hun
  have heq : ∀ w, (Op.equalIn 10000 25 (.agg cs) (.agg cs)).run Tryd.prog w = .ok true w := fun w => by
    rw [HC'.out, run_equalIn_25 9998 _ _ LX.out LX.out]
    simp
  go_wp2_with (first
    | (refine wpList_alloc_abs rfl 25 rfl _ (zero25 _) 32 (fun _ => .int .u8 0) rfl ?_; intro w7 Y hY hYr hYb hYl)
    | (refine wpList_store_abs rfl 25 (.tmp 9) (.tmp 24) rfl Y rfl cs rfl 25 32 _ _ hYr HC.out Tryd.sz25 (fun j _ => rfl) ?_; intro w8 hY8 hg8 hs8
       have hYs : X < Y := by have := hY.out; have := hX6.lt; omega
       have hX8 := rowIs_grown (rowIs_below hX6 hYb hYs) hg8 (by omega)
       have hb18 : Below w.heap.size w w8 := (hb16.trans (hYb.mono (by omega))).trans (below_of_grown hg8 (by omega) (by omega))
       clear hYr hYb hYl hg8 hs8 hb16 hX6)
    | (refine wpList_load_u8 rfl (.tmp 9) rfl Y rfl cs _ hY8 HC.out ?_)
    | (refine wpList_load_u8 rfl (.tmp 7) rfl X rfl cs _ hX8 HC.out ?_)
    | fail)
  obtain ⟨k, hk, hkv⟩ := at_place at_ hat
  rw [hkv]
  have HKV := Lib.hid hkv
  clear hkv
  obtain ⟨P1, hP1⟩ : ∃ P1, P1 = T.extract 0 k := ⟨_, rfl⟩
  obtain ⟨P2, hP2⟩ : ∃ P2, P2 = T.extract (k + 1) 64 := ⟨_, rfl⟩
  obtain ⟨C1, hC1⟩ : ∃ C1, C1 = strOfNums [c] := ⟨_, rfl⟩
  have s1 : ∀ W, (Instr.slice 9 (.string T) none (some (.int .i64 (k : Int))) none).run Tryd.prog W = .ok (.string P1) W := fun W => by
    rw [run_slice_string_h W 9 T (by kernel_rfl) .i64 k (by omega) (by rw [hTz]; omega), hP1]
    rfl
  have s2 : ∀ W, (Instr.slice 9 (.string T) (some (.int .i64 ((k : Int) + 1))) none none).run Tryd.prog W = .ok (.string P2) W := fun W => by
    rw [run_slice_string_l W 9 T (by kernel_rfl) .i64 ((k : Int) + 1) (by omega) (by rw [hTz]; omega), hP2, hTz]
    rfl
  have hcv : (convert 22 9 (.slice (some ⟨w8.heap.size, 0, none⟩) 1 1)).run Tryd.prog (w8.alloc (.cells #[.int .u8 c] 5)).drew = .ok (.string C1) (w8.alloc (.cells #[.int .u8 c] 5)).drew := by
    rw [hC1]
    refine run_convert_bytes_arg _ 22 5 Tryd.underlying22 Tryd.underlying5 w8.heap.size 0 1 1 [c] rfl (fun i hi => ?_) 9 (by kernel_rfl)
    obtain rfl : i = 0 := by omega
    have hbk : (w8.alloc (.cells #[.int .u8 c] 5)).drew.heap[w8.heap.size]? = some (.cells #[.int .u8 c] 5 (0, 0)) := Go.Deep.blk_alloc_new _ _
    rw [cell_of_row _ w8.heap.size _ _ 5 (0, 0) hbk]
    rfl
  have z1 : P1.size = k := by rw [hP1, ByteArray.size_extract, hTz]; omega
  obtain ⟨q, hq⟩ : ∃ q, q = P2.size := ⟨_, rfl⟩
  have hq64 : q ≤ 64 := by rw [hq, hP2, ByteArray.size_extract, hTz]; omega
  have z2 : P2.size = q := hq.symm
  have z3 : C1.size = 1 := by rw [hC1, strOfNums_size]; rfl
  obtain ⟨U, hU⟩ : ∃ U, U = P1 ++ C1 ++ P2 := ⟨_, rfl⟩
  have hUS : U = strOfNums (S.set k c) := by
    have h := splice_str S k (by rw [HSOK.out.1]; exact hk) c
    rw [HSOK.out.1] at h
    rw [hU, hP1, hP2, hC1, HTS.out]
    exact h
  have HUU := Lib.hid hU
  have HUS := Lib.hid hUS
  have hb19 : Below w.heap.size w (w8.alloc (.cells #[.int .u8 c] 5)).drew := (hb18.alloc hb18.size _).drew
  have hX9 := (hX8.alloc (.cells #[.int .u8 c] 5)).drew
  clear hP1 hP2 hC1 hU hUS hq
  go_region
  rw [← HUU.out]
  clear s1 s2 hcv z1 z2 z3 hq64 hX8 hb18 hY8
  generalize (w8.alloc (.cells #[.int .u8 c] 5)).drew = w9 at *
  obtain ⟨S', hS'⟩ : ∃ S', S' = S.set k c := ⟨_, rfl⟩
  have hS'b : ∀ y ∈ S', 0 ≤ y ∧ y < 256 := fun y hy => by
    rw [hS'] at hy
    rcases List.mem_or_eq_of_mem_set hy with h | rfl
    · exact HSB.out y h
    · exact HCB.out
  have hkS : k < S.length := by rw [HSOK.out.1]; exact hk
  obtain ⟨ds, hds⟩ : ∃ ds, ds = (u8s (unR S')).toArray := ⟨_, rfl⟩
  have hun : ∀ w, Calls Tryd.prog 20 #[.string U] w fun e w' => e = .returned (.tuple #[.agg ds, .int .i64 (unE S')]) ∧ Below w.heap.size w w' := fun w => by
    have h := unhex_any U w
    rw [HUS.out, ← hS', strL_strOfNums S' hS'b, ← hds] at h
    rw [HUS.out, ← hS']
    exact h
  have htt : (U.toList == T.toList) = (S' == S) := by rw [HUS.out, HTS.out, ← hS']; exact str_eq S' S hS'b HSB.out
  have HD := Lib.hid (hds.trans (u8s_rowArr (unR S') 32 (length_unR S')))
  have key : (unE S' = 0 ∧ (U.toList == T.toList) = true ∧ ∀ w, (Op.equalIn 10000 25 (.agg ds) (.agg cs)).run Tryd.prog w = .ok true w) ∨
      (unE S' = 0 ∧ (U.toList == T.toList) = false ∧ ∀ w, (Op.equalIn 10000 25 (.agg ds) (.agg cs)).run Tryd.prog w = .ok false w) ∨
      (unE S' = 21 ∧ (U.toList == T.toList) = false ∧ ∀ w, (Op.equalIn 10000 25 (.agg ds) (.agg #[.int .u8 0, .int .u8 0, .int .u8 0, .int .u8 0, .int .u8 0, .int .u8 0, .int .u8 0, .int .u8 0, .int .u8 0, .int .u8 0, .int .u8 0, .int .u8 0, .int .u8 0, .int .u8 0, .int .u8 0, .int .u8 0, .int .u8 0, .int .u8 0, .int .u8 0, .int .u8 0, .int .u8 0, .int .u8 0, .int .u8 0, .int .u8 0, .int .u8 0, .int .u8 0, .int .u8 0, .int .u8 0, .int .u8 0, .int .u8 0, .int .u8 0, .int .u8 0])).run Tryd.prog w = .ok true w) := by
    by_cases hA : c = S.getD k 0
    · have e : S' = S := by rw [hS']; exact (set_same S k hkS c).2 hA
      refine .inl ⟨by rw [e]; exact (unR_ok HSOK.out).2, by rw [htt, e]; simp, fun w => ?_⟩
      rw [hds, e, (unR_ok HSOK.out).1, HSX.out, ← HC'.out]
      exact heq w
    · have hne : (S' == S) = false := by
        rw [beq_eq_false_iff_ne, hS']
        exact fun h => hA ((set_same S k hkS c).1 h)
      by_cases hD : 0 ≤ dg c
      · have hok : unOk S' := by rw [hS']; exact (unOk_set S HSOK.out k hk c).2 hD
        refine .inr (.inl ⟨(unR_ok hok).2, by rw [htt, hne], fun w => ?_⟩)
        rw [hds, HC'.out, run_equalIn_25 9998 _ _ (length_unR S') LX.out, (unR_ok hok).1]
        have : (unL S' == x) = false := by
          rw [beq_eq_false_iff_ne, hS', ← HSX.out]
          exact fun h => hA (unL_set S HSOK.out k hk c hD h)
        rw [this]
      · have hno : ¬ unOk S' := by rw [hS']; exact fun h => hD ((unOk_set S HSOK.out k hk c).1 h)
        refine .inr (.inr ⟨(unR_no hno).2, by rw [htt, hne], fun w => ?_⟩)
        have e : (#[.int .u8 0, .int .u8 0, .int .u8 0, .int .u8 0, .int .u8 0, .int .u8 0, .int .u8 0, .int .u8 0, .int .u8 0, .int .u8 0, .int .u8 0, .int .u8 0, .int .u8 0, .int .u8 0, .int .u8 0, .int .u8 0, .int .u8 0, .int .u8 0, .int .u8 0, .int .u8 0, .int .u8 0, .int .u8 0, .int .u8 0, .int .u8 0, .int .u8 0, .int .u8 0, .int .u8 0, .int .u8 0, .int .u8 0, .int .u8 0, .int .u8 0, .int .u8 0] : Array Value) = (u8s (List.replicate 32 0)).toArray := by kernel_rfl
        rw [hds, (unR_no hno).1, e, run_equalIn_25 9998 _ _ (by simp) (by simp)]
        simp
  clear htt hds hS'b hS' hkS
  rcases key with ⟨hE, htt, hde⟩ | ⟨hE, htt, hde⟩ | ⟨hE, htt, hde⟩
  all_goals
    rw [hE] at hun
    clear hE heq
    go_wp2_with fail
    go_at_call 20
    refine (hun w9).mono ?_
    rintro e w10 ⟨rfl, hb10⟩
    have hX10 := rowIs_below hX9 hb10 hX9.lt
    have hb20 := hb19.trans (hb10.mono hb19.size)
    clear hX9 hb19 hb10 hun
    go_wp2_with (first
      | (refine wpList_alloc_abs rfl 25 rfl _ (zero25 _) 32 (fun _ => .int .u8 0) rfl ?_; intro w11 Z hZ hZr hZb hZl)
      | (refine wpList_store_abs rfl 25 (.tmp 13) (.tmp 57) rfl Z rfl ds rfl 25 32 _ _ hZr HD.out Tryd.sz25 (fun j _ => rfl) ?_; intro w12 hZ12 hg12 hs12
         have hZs : X < Z := by have := hZ.out; have := hX10.lt; omega
         have hX12 := rowIs_grown (rowIs_below hX10 hZb hZs) hg12 (by omega)
         have hb22 : Below w.heap.size w w12 := (hb20.trans (hZb.mono (by omega))).trans (below_of_grown hg12 (by omega) (by omega))
         clear hZr hZb hZl hg12 hs12 hb20 hX10)
      | (refine wpList_load_u8 rfl (.tmp 13) rfl Z rfl ds _ hZ12 HD.out ?_)
      | (refine wpList_load_u8 rfl (.tmp 7) rfl X rfl cs _ hX12 HC.out ?_)
      | fail)
    go_ret
    exact ⟨rfl, hb22⟩
end Go.Proofs.YtmilbmgbpoekmaaDoor
