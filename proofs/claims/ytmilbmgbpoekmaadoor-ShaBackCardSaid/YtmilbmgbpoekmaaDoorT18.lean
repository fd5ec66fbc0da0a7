/-
  THE CONTRACT of sha.Unhex.
-/
import Derived.Test.YtmilbmgbpoekmaaDoorT17
namespace Go.Proofs.YtmilbmgbpoekmaaDoor
open Go.RowKit
set_option maxRecDepth 100000

/-- The sixteen digits' row, marked. -/
theorem digs_cell (W : World) (k : Nat) (hk : k < 16) : (W.alloc (.cells #[.int .u8 48, .int .u8 49, .int .u8 50, .int .u8 51, .int .u8 52, .int .u8 53, .int .u8 54, .int .u8 55, .int .u8 56, .int .u8 57, .int .u8 97, .int .u8 98, .int .u8 99, .int .u8 100, .int .u8 101, .int .u8 102] 5 (16, 17))).cell? ⟨W.heap.size, 0 + k, none⟩ = some (.int .u8 (hexdigs.getD k 0)) := by
  have hbk : (W.alloc (.cells #[.int .u8 48, .int .u8 49, .int .u8 50, .int .u8 51, .int .u8 52, .int .u8 53, .int .u8 54, .int .u8 55, .int .u8 56, .int .u8 57, .int .u8 97, .int .u8 98, .int .u8 99, .int .u8 100, .int .u8 101, .int .u8 102] 5 (16, 17))).heap[W.heap.size]? = some (.cells #[.int .u8 48, .int .u8 49, .int .u8 50, .int .u8 51, .int .u8 52, .int .u8 53, .int .u8 54, .int .u8 55, .int .u8 56, .int .u8 57, .int .u8 97, .int .u8 98, .int .u8 99, .int .u8 100, .int .u8 101, .int .u8 102] 5 (16, 17)) := Go.Deep.blk_alloc_new _ _
  rw [cell_of_row _ W.heap.size _ _ 5 (16, 17) hbk, Nat.zero_add]
  have all : ∀ k : Fin 16, (#[.int .u8 48, .int .u8 49, .int .u8 50, .int .u8 51, .int .u8 52, .int .u8 53, .int .u8 54, .int .u8 55, .int .u8 56, .int .u8 57, .int .u8 97, .int .u8 98, .int .u8 99, .int .u8 100, .int .u8 101, .int .u8 102] : Array Value)[k.val]? = some (.int .u8 (hexdigs.getD k.val 0)) := by
    intro k
    match k with
    | ⟨0, _⟩ => rfl
    | ⟨1, _⟩ => rfl
    | ⟨2, _⟩ => rfl
    | ⟨3, _⟩ => rfl
    | ⟨4, _⟩ => rfl
    | ⟨5, _⟩ => rfl
    | ⟨6, _⟩ => rfl
    | ⟨7, _⟩ => rfl
    | ⟨8, _⟩ => rfl
    | ⟨9, _⟩ => rfl
    | ⟨10, _⟩ => rfl
    | ⟨11, _⟩ => rfl
    | ⟨12, _⟩ => rfl
    | ⟨13, _⟩ => rfl
    | ⟨14, _⟩ => rfl
    | ⟨15, _⟩ => rfl
    | ⟨k + 16, h⟩ => omega
  exact all ⟨k, hk⟩

set_option maxHeartbeats 2000000 in
/-- sha.Unhex(s). -/
theorem unhex_any (s : ByteArray) (w : World) :
    Calls Tryd.prog 20 #[.string s] w fun e w' => e = .returned (.tuple #[.agg (u8s (unR (strL s))).toArray, .int .i64 (unE (strL s))]) ∧ Below w.heap.size w w' := by
  obtain ⟨S, hS⟩ : ∃ S, S = strL s := ⟨_, rfl⟩
  have hlen : S.length = s.size := by rw [hS]; exact length_strL s
  have hby : ∀ j, 0 ≤ S.getD j 0 ∧ S.getD j 0 < 256 := by rw [hS]; exact byte_strL s
  have hix : ∀ i, i < s.size → ∀ W, (Instr.index 9 (.string s) (.int .i64 (i : Int))).run Tryd.prog W = .ok (.int .u8 (S.getD i 0)) W := fun i hi W => by
    rw [hS]; exact run_index_strL 9 (by kernel_rfl) s i hi W
  rw [← hS]
  have HLEN := Lib.hid hlen
  have HBY := Lib.hid hby
  have HIX := Lib.hid hix
  clear hS hlen hby hix
  have R0 : Hid (((w.alloc (.cells (rowArr 32 fun _ => .int .u8 0) 25)).alloc (.cells (rowArr 32 fun _ => .int .u8 0) 25)).rowIs w.heap.size 25 32 (fun _ => .int .u8 0)) := Lib.hid (by
    have h1 := rowIs_lit w ((List.range 32).map fun _ => .int .u8 0) 25 32 (fun _ => .int .u8 0) rfl
    exact h1.alloc _)
  have D0 : Hid (((w.alloc (.cells (rowArr 32 fun _ => .int .u8 0) 25)).alloc (.cells (rowArr 32 fun _ => .int .u8 0) 25)).rowIs (w.heap.size + 1) 25 32 (fun _ => .int .u8 0)) := Lib.hid (by
    have h1 := rowIs_lit (w.alloc (.cells (rowArr 32 fun _ => .int .u8 0) 25)) ((List.range 32).map fun _ => .int .u8 0) 25 32 (fun _ => .int .u8 0) rfl
    rw [Go.Deep.nblk_alloc] at h1
    exact h1)
  have B0 : Hid (Below w.heap.size w ((w.alloc (.cells (rowArr 32 fun _ => .int .u8 0) 25)).alloc (.cells (rowArr 32 fun _ => .int .u8 0) 25))) := Lib.hid (((Below.refl _ _).alloc (Nat.le_refl _) _).alloc (by simp) _)
  by_cases h64 : s.size = 64
  · have hd : ((s.size : Int) != 64) = false := by rw [h64]; rfl
    go_enter Tryd.func20, Tryd.ntmps20
    go_wp2_with fail
    go_loopw [13] (fun x wr => ∃ i : Nat, i ≤ 64 ∧ x = .int .i64 i ∧ (∀ k, k < i → 0 ≤ vd S k) ∧ wr.rowIs (w.heap.size + 1) 25 32 (fun j => .int .u8 (part S i j)) ∧ wr.rowIs w.heap.size 25 32 (fun _ => .int .u8 0) ∧ Below w.heap.size w wr) (fun x _ => 64 - (intOf x).toNat)
    case atStart => exact ⟨0, by omega, rfl, fun k hk => by omega, D0.out.congr (fun j _ => by rw [part_zero]), R0.out, B0.out⟩
    case round =>
      clear R0 D0 B0
      obtain ⟨i, hi, rfl, hok, hD, hR, hb⟩ := hrel
      have HOK := Lib.hid hok
      clear hok
      by_cases hlt : i < 64
      · obtain ⟨c, hc⟩ : ∃ c, c = S.getD i 0 := ⟨_, rfl⟩
        have hcb := HBY.out i
        rw [← hc] at hcb
        have hix : ∀ W, (Instr.index 9 (.string s) (.int .i64 (i : Int))).run Tryd.prog W = .ok (.int .u8 c) W := by rw [hc]; exact HIX.out i (by omega)
        have hvd : vd S i = dg c := by rw [vd, hc]
        have hcv := Lib.run_convert_bytes_const (P := Tryd.prog) wr 22 5 #[.int .u8 48, .int .u8 49, .int .u8 50, .int .u8 51, .int .u8 52, .int .u8 53, .int .u8 54, .int .u8 55, .int .u8 56, .int .u8 57, .int .u8 97, .int .u8 98, .int .u8 99, .int .u8 100, .int .u8 101, .int .u8 102] 16 16 Tryd.underlying22 Tryd.underlying5
        have HVD := Lib.hid hvd
        have HCB := Lib.hid hcb
        clear hc hvd hcb
        go_wp2_with fail
        go_at_call 27
        refine (ixb_any wr.heap.size c HCB.out _ (fun k hk => digs_cell wr k hk)).mono ?_
        rintro e w2 ⟨rfl, rfl⟩
        have hD2 := hD.alloc (.cells #[.int .u8 48, .int .u8 49, .int .u8 50, .int .u8 51, .int .u8 52, .int .u8 53, .int .u8 54, .int .u8 55, .int .u8 56, .int .u8 57, .int .u8 97, .int .u8 98, .int .u8 99, .int .u8 100, .int .u8 101, .int .u8 102] 5 (16, 17))
        have hR2 := hR.alloc (.cells #[.int .u8 48, .int .u8 49, .int .u8 50, .int .u8 51, .int .u8 52, .int .u8 53, .int .u8 54, .int .u8 55, .int .u8 56, .int .u8 57, .int .u8 97, .int .u8 98, .int .u8 99, .int .u8 100, .int .u8 101, .int .u8 102] 5 (16, 17))
        have hb2 := hb.alloc hb.size (.cells #[.int .u8 48, .int .u8 49, .int .u8 50, .int .u8 51, .int .u8 52, .int .u8 53, .int .u8 54, .int .u8 55, .int .u8 56, .int .u8 57, .int .u8 97, .int .u8 98, .int .u8 99, .int .u8 100, .int .u8 101, .int .u8 102] 5 (16, 17))
        clear hcv hix hD hR hb
        generalize (wr.alloc (.cells #[.int .u8 48, .int .u8 49, .int .u8 50, .int .u8 51, .int .u8 52, .int .u8 53, .int .u8 54, .int .u8 55, .int .u8 56, .int .u8 57, .int .u8 97, .int .u8 98, .int .u8 99, .int .u8 100, .int .u8 101, .int .u8 102] 5 (16, 17))) = w2 at *
        obtain ⟨n, hn⟩ : ∃ n, n = dg c := ⟨_, rfl⟩
        have hnr := dg_range c
        rw [← hn] at hnr ⊢
        have hvn : vd S i = n := by rw [HVD.out, hn]
        have HVN := Lib.hid hvn
        clear hvn hn
        by_cases hneg : n < 0
        · have hno : ¬ unOk S := fun h => by have := h.2 i hlt; have := HVN.out; omega
          go_wp2_with (first
            | (refine wpList_store_abs rfl 25 (.tmp 2) (.tmp 24) rfl w.heap.size rfl _ rfl 25 32 (fun _ => .int .u8 0) _ hR2 rfl Tryd.sz25 (fun j _ => rfl) ?_; intro w9 hR9 hg9 hs9; clear hs9)
            | fail)
          have hbk := rowIs_block hR9
          refine bodyPost_ret (results_row2 (g := w.heap.size) rfl rfl rfl hbk Tryd.underlying25 rfl (by rw [size_rowArr]; exact Tryd.sz25)) rfl ⟨by rw [(unR_no hno).1, (unR_no hno).2, zeros_rowArr]; rfl, ?_⟩
          exact hb2.trans (below_of_grown hg9 (Nat.le_refl _) hb2.size)
        · have hold := part_old S i HOK.out
          obtain ⟨old, ho⟩ : ∃ old, old = part S i (i / 2) := ⟨_, rfl⟩
          have cc := hD2.cell (i := i / 2) (by omega)
          rw [← ho] at cc hold
          have fz := hD2.frozen (i / 2)
          have hor : bits .or .u8 (old * 16) n = old * 16 + n := by
            have h := or_nib old n hold ⟨by omega, by omega⟩
            rwa [show old * 16 % 256 = old * 16 by omega] at h
          have HOR := Lib.hid hor
          clear hor
          have hnew : part S (i + 1) (i / 2) = old * 16 + n := by rw [part_next, HVN.out, ho]
          have HNEW := Lib.hid hnew
          have HO := Lib.hid ho
          clear ho hnew
          go_wp2_with fail
          rw [HOR.out]
          refine ⟨⟨i + 1, by omega, by go_num, fun k hk => ?_, (hD2.set (i / 2) _).congr (fun j hj => ?_), hR2.setOther (a := ⟨w.heap.size + 1, i / 2, none⟩) (by show w.heap.size ≠ w.heap.size + 1; omega) _, hb2.setCell (p := ⟨w.heap.size + 1, i / 2, none⟩) (by show w.heap.size ≤ w.heap.size + 1; omega) _⟩, by simp [intOf]; omega⟩
          · by_cases e : k = i
            · rw [e, HVN.out]; omega
            · exact HOK.out k (by omega)
          · by_cases e : j = i / 2
            · rw [if_pos e, e, HNEW.out]
            · rw [if_neg e, part_else S i j e]
      · obtain rfl : i = 64 := by omega
        have hyes : unOk S := ⟨by rw [HLEN.out, h64], fun k hk => HOK.out k hk⟩
        go_wp2_with (first
          | (refine wpList_load_abs rfl 25 (.tmp 4) rfl (w.heap.size + 1) rfl 25 32 _ hD _ Tryd.underlying25 rfl Tryd.sz25 ?_; intro es hes)
          | (refine wpList_store_abs rfl 25 (.tmp 2) (.tmp 37) rfl w.heap.size rfl es rfl 25 32 _ _ hR hes.out Tryd.sz25 (fun j _ => rfl) ?_; intro w9 hR9 hg9 hs9; clear hs9)
          | fail)
        have hbk := rowIs_block hR9
        refine bodyPost_ret (results_row2 (g := w.heap.size) rfl rfl rfl hbk Tryd.underlying25 rfl (by rw [size_rowArr]; exact Tryd.sz25)) rfl ⟨by rw [(unR_ok hyes).1, (unR_ok hyes).2, unL_rowArr]; rfl, ?_⟩
        exact hb.trans (below_of_grown hg9 (Nat.le_refl _) hb.size)
  · have hd : ((s.size : Int) != 64) = true := by rw [bne_iff_ne]; omega
    have hno : ¬ unOk S := fun h => h64 (by rw [← HLEN.out]; exact h.1)
    rw [(unR_no hno).1, (unR_no hno).2, zeros_rowArr]
    go_enter Tryd.func20, Tryd.ntmps20
    have hd0 := D0.out
    have hr0 := R0.out
    go_wp2_with (first
      | (refine wpList_load_abs rfl 25 (.tmp 4) rfl (w.heap.size + 1) rfl 25 32 _ D0.out _ Tryd.underlying25 rfl Tryd.sz25 ?_; intro es hes)
      | (refine wpList_store_abs rfl 25 (.tmp 2) (.tmp 10) rfl w.heap.size rfl es rfl 25 32 _ _ R0.out hes.out Tryd.sz25 (fun j _ => rfl) ?_; intro w9 hR9 hg9 hs9; clear hs9)
      | fail)
    have hbk := rowIs_block hR9
    refine bodyPost_ret (results_row2 (g := w.heap.size) rfl rfl rfl hbk Tryd.underlying25 rfl (by rw [size_rowArr]; exact Tryd.sz25)) rfl ⟨rfl, ?_⟩
    exact B0.out.trans (below_of_grown hg9 (Nat.le_refl _) B0.out.size)
end Go.Proofs.YtmilbmgbpoekmaaDoor
