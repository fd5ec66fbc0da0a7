/-
  THE CONTRACTS of the reference's Unhex and Hex.
-/
import Derived.Test.YtmilbmgbpoekmaaDoorT17
namespace Go.Proofs.YtmilbmgbpoekmaaDoor
open Go.RowKit
set_option maxRecDepth 100000

set_option maxHeartbeats 2000000 in
/-- veneerref01.Unhex(s). -/
theorem refunhex_any (s : ByteArray) (w : World) :
    Calls Tryd.prog 21 #[.string s] w fun e w' => e = .returned (.tuple #[.agg (u8s (unR (strL s))).toArray, .int .i64 (unE (strL s))]) ∧ Below w.heap.size w w' := by
  obtain ⟨S, hS⟩ : ∃ S, S = strL s := ⟨_, rfl⟩
  have hlen : S.length = s.size := by rw [hS]; exact length_strL s
  have hby : ∀ j, 0 ≤ S.getD j 0 ∧ S.getD j 0 < 256 := by rw [hS]; exact byte_strL s
  have hix : ∀ i, i < s.size → ∀ W, (Instr.index 9 (.string s) (.int .i64 (i : Int))).run Tryd.prog W = .ok (.int .u8 (S.getD i 0)) W := fun i hi W => by
    rw [hS]; exact run_index_strL 9 (by kernel_rfl) s i hi W
  rw [← hS]
  have HLEN := Lib.hid hlen
  have HBY := Lib.hid hby
  have HIX := Lib.hid hix
  clear hS hlen hby hix
  have R0 : Hid (((w.alloc (.cells (rowArr 32 fun _ => .int .u8 0) 25)).alloc (.cells (rowArr 32 fun _ => .int .u8 0) 25)).rowIs w.heap.size 25 32 (fun _ => .int .u8 0)) := Lib.hid (by
    have h1 := rowIs_lit w ((List.range 32).map fun _ => .int .u8 0) 25 32 (fun _ => .int .u8 0) rfl
    exact h1.alloc _)
  have D0 : Hid (((w.alloc (.cells (rowArr 32 fun _ => .int .u8 0) 25)).alloc (.cells (rowArr 32 fun _ => .int .u8 0) 25)).rowIs (w.heap.size + 1) 25 32 (fun _ => .int .u8 0)) := Lib.hid (by
    have h1 := rowIs_lit (w.alloc (.cells (rowArr 32 fun _ => .int .u8 0) 25)) ((List.range 32).map fun _ => .int .u8 0) 25 32 (fun _ => .int .u8 0) rfl
    rw [Go.Deep.nblk_alloc] at h1
    exact h1)
  have B0 : Hid (Below w.heap.size w ((w.alloc (.cells (rowArr 32 fun _ => .int .u8 0) 25)).alloc (.cells (rowArr 32 fun _ => .int .u8 0) 25))) := Lib.hid (((Below.refl _ _).alloc (Nat.le_refl _) _).alloc (by simp) _)
  by_cases h64 : s.size = 64
  · have hd : ((s.size : Int) != 64) = false := by rw [h64]; rfl
    go_enter Tryd.func21, Tryd.ntmps21
    go_wp2_with fail
    go_loopw [5] (fun x wr => ∃ i : Nat, i ≤ 64 ∧ x = .int .i64 i ∧ (∀ k, k < i → 0 ≤ vd S k) ∧ wr.rowIs (w.heap.size + 1) 25 32 (fun j => .int .u8 (part S i j)) ∧ wr.rowIs w.heap.size 25 32 (fun _ => .int .u8 0) ∧ Below w.heap.size w wr) (fun x _ => 64 - (intOf x).toNat)
    case atStart => exact ⟨0, by omega, rfl, fun k hk => by omega, D0.out.congr (fun j _ => by rw [part_zero]), R0.out, B0.out⟩
    case round =>
      clear R0 D0 B0
      obtain ⟨i, hi, rfl, hok, hD, hR, hb⟩ := hrel
      have HOK := Lib.hid hok
      clear hok
      by_cases hlt : i < 64
      · obtain ⟨c, hc⟩ : ∃ c, c = S.getD i 0 := ⟨_, rfl⟩
        have hcb := HBY.out i
        rw [← hc] at hcb
        have hix : ∀ W, (Instr.index 9 (.string s) (.int .i64 (i : Int))).run Tryd.prog W = .ok (.int .u8 c) W := by rw [hc]; exact HIX.out i (by omega)
        have hvd : vd S i = dg c := by rw [vd, hc]
        have HVD := Lib.hid hvd
        clear hc hvd
        obtain ⟨c0, c1⟩ := hcb
        have hold := part_old S i HOK.out
        obtain ⟨old, ho⟩ : ∃ old, old = part S i (i / 2) := ⟨_, rfl⟩
        have cc := hD.cell (i := i / 2) (by omega)
        rw [← ho] at cc hold
        have fz := hD.frozen (i / 2)
        have hnew : part S (i + 1) (i / 2) = old * 16 + dg c := by rw [part_next, HVD.out, ho]
        have HNEW := Lib.hid hnew
        clear ho hnew
        obtain ⟨o0, o1⟩ := hold
        have fin : ∀ n : Int, 0 ≤ n → dg c = n → ((∃ i_1 : Nat, i_1 ≤ 64 ∧ Value.int .i64 ((i : Int) + 1) = .int .i64 i_1 ∧ (∀ k, k < i_1 → 0 ≤ vd S k) ∧ (wr.setCell ⟨w.heap.size + 1, i / 2, none⟩ (.int .u8 (old * 16 + n))).rowIs (w.heap.size + 1) 25 32 (fun j => .int .u8 (part S i_1 j)) ∧
            (wr.setCell ⟨w.heap.size + 1, i / 2, none⟩ (.int .u8 (old * 16 + n))).rowIs w.heap.size 25 32 (fun _ => .int .u8 0) ∧ Below w.heap.size w (wr.setCell ⟨w.heap.size + 1, i / 2, none⟩ (.int .u8 (old * 16 + n)))) ∧
            64 - (intOf (.int .i64 ((i : Int) + 1))).toNat < 64 - (intOf (.int .i64 (i : Int))).toNat) := fun n hn0 hn => by
          refine ⟨⟨i + 1, by omega, by go_num, fun k hk => ?_, (hD.set (i / 2) _).congr (fun j hj => ?_), hR.setOther (a := ⟨w.heap.size + 1, i / 2, none⟩) (by show w.heap.size ≠ w.heap.size + 1; omega) _, hb.setCell (p := ⟨w.heap.size + 1, i / 2, none⟩) (by show w.heap.size ≤ w.heap.size + 1; omega) _⟩, by simp [intOf]; omega⟩
          · by_cases e : k = i
            · rw [e, HVD.out]; omega
            · exact HOK.out k (by omega)
          · by_cases e : j = i / 2
            · rw [if_pos e, e, HNEW.out, hn]
            · rw [if_neg e, part_else S i j e]
        have FIN := Lib.hid fin
        clear fin
        by_cases hA : 48 ≤ c ∧ c ≤ 57
        · have hn : dg c = c - 48 := by unfold dg; rw [if_pos hA]
          have HN := Lib.hid hn
          clear hn
          obtain ⟨hA1, hA2⟩ := hA
          go_wp2_with fail
          exact FIN.out (c - 48) (by omega) HN.out
        · by_cases hF : 97 ≤ c ∧ c ≤ 102
          · have hn : dg c = c - 87 := by unfold dg; rw [if_neg hA, if_pos hF]
            have HN := Lib.hid hn
            clear hn
            obtain ⟨hF1, hF2⟩ := hF
            have hA2 : ¬ c ≤ 57 := by omega
            have hA1 : 48 ≤ c := by omega
            clear hA
            go_wp2_with fail
            exact FIN.out (c - 97 + 10) (by omega) (by rw [HN.out]; omega)
          · have hn : dg c = -1 := by unfold dg; rw [if_neg hA, if_neg hF]
            have hno : ¬ unOk S := fun h => by have := h.2 i hlt; have := HVD.out; omega
            have HN := Lib.hid hn
            clear hn FIN HN cc fz
            rcases (by omega : c < 48 ∨ (57 < c ∧ c < 97) ∨ 102 < c) with h | ⟨h, h'⟩ | h
            all_goals
              clear hA hF
              go_wp2_with (first
                | (refine wpList_store_abs rfl 25 (.tmp 2) (.tmp 36) rfl w.heap.size rfl _ rfl 25 32 (fun _ => .int .u8 0) _ hR rfl Tryd.sz25 (fun j _ => rfl) ?_; intro w9 hR9 hg9 hs9; clear hs9)
                | fail)
              have hbk := rowIs_block hR9
              refine bodyPost_ret (results_row2 (g := w.heap.size) rfl rfl rfl hbk Tryd.underlying25 rfl (by rw [size_rowArr]; exact Tryd.sz25)) rfl ⟨by rw [(unR_no hno).1, (unR_no hno).2, zeros_rowArr]; rfl, ?_⟩
              exact hb.trans (below_of_grown hg9 (Nat.le_refl _) hb.size)
      · obtain rfl : i = 64 := by omega
        have hyes : unOk S := ⟨by rw [HLEN.out, h64], fun k hk => HOK.out k hk⟩
        go_wp2_with (first
          | (refine wpList_load_abs rfl 25 (.tmp 4) rfl (w.heap.size + 1) rfl 25 32 _ hD _ Tryd.underlying25 rfl Tryd.sz25 ?_; intro es hes)
          | (refine wpList_store_abs rfl 25 (.tmp 2) (.tmp 47) rfl w.heap.size rfl es rfl 25 32 _ _ hR hes.out Tryd.sz25 (fun j _ => rfl) ?_; intro w9 hR9 hg9 hs9; clear hs9)
          | fail)
        have hbk := rowIs_block hR9
        refine bodyPost_ret (results_row2 (g := w.heap.size) rfl rfl rfl hbk Tryd.underlying25 rfl (by rw [size_rowArr]; exact Tryd.sz25)) rfl ⟨by rw [(unR_ok hyes).1, (unR_ok hyes).2, unL_rowArr]; rfl, ?_⟩
        exact hb.trans (below_of_grown hg9 (Nat.le_refl _) hb.size)
  · have hd : ((s.size : Int) != 64) = true := by rw [bne_iff_ne]; omega
    have hno : ¬ unOk S := fun h => h64 (by rw [← HLEN.out]; exact h.1)
    rw [(unR_no hno).1, (unR_no hno).2, zeros_rowArr]
    go_enter Tryd.func21, Tryd.ntmps21
    go_wp2_with (first
      | (refine wpList_load_abs rfl 25 (.tmp 4) rfl (w.heap.size + 1) rfl 25 32 _ D0.out _ Tryd.underlying25 rfl Tryd.sz25 ?_; intro es hes)
      | (refine wpList_store_abs rfl 25 (.tmp 2) (.tmp 11) rfl w.heap.size rfl es rfl 25 32 _ _ R0.out hes.out Tryd.sz25 (fun j _ => rfl) ?_; intro w9 hR9 hg9 hs9; clear hs9)
      | fail)
    have hbk := rowIs_block hR9
    refine bodyPost_ret (results_row2 (g := w.heap.size) rfl rfl rfl hbk Tryd.underlying25 rfl (by rw [size_rowArr]; exact Tryd.sz25)) rfl ⟨rfl, ?_⟩
    exact B0.out.trans (below_of_grown hg9 (Nat.le_refl _) B0.out.size)

theorem strOfNums_append (a b : List Int) : strOfNums a ++ strOfNums b = strOfNums (a ++ b) := by
  apply ByteArray.ext
  simp [strOfNums]
theorem hexSl_all : ∀ n : Fin 16, (⟨#[48, 49, 50, 51, 52, 53, 54, 55, 56, 57, 97, 98, 99, 100, 101, 102]⟩ : ByteArray).extract n.val (n.val + 1) = strOfNums [hexd n.val] := by
  intro n
  match n with
  | ⟨0, _⟩ => rfl
  | ⟨1, _⟩ => rfl
  | ⟨2, _⟩ => rfl
  | ⟨3, _⟩ => rfl
  | ⟨4, _⟩ => rfl
  | ⟨5, _⟩ => rfl
  | ⟨6, _⟩ => rfl
  | ⟨7, _⟩ => rfl
  | ⟨8, _⟩ => rfl
  | ⟨9, _⟩ => rfl
  | ⟨10, _⟩ => rfl
  | ⟨11, _⟩ => rfl
  | ⟨12, _⟩ => rfl
  | ⟨13, _⟩ => rfl
  | ⟨14, _⟩ => rfl
  | ⟨15, _⟩ => rfl
  | ⟨k + 16, h⟩ => omega
/-- A piece of one letter of the sixteen digits. -/
theorem hexSl (x : Int) (h : 0 ≤ x ∧ x < 16) (W : World) : (Instr.slice 9 (.string ⟨#[48, 49, 50, 51, 52, 53, 54, 55, 56, 57, 97, 98, 99, 100, 101, 102]⟩) (some (.int .u8 x)) (some (.int .u8 (x + 1))) none).run Tryd.prog W = .ok (.string (strOfNums [hexd x])) W := by
  rw [run_slice_string W 9 _ .u8 .u8 x (x + 1) (by kernel_rfl) h.1 (by omega) (by
    have : (⟨#[48, 49, 50, 51, 52, 53, 54, 55, 56, 57, 97, 98, 99, 100, 101, 102]⟩ : ByteArray).size = 16 := rfl
    rw [this]; omega)]
  have e := hexSl_all ⟨x.toNat, by omega⟩
  have e1 : ((x.toNat : Nat) : Int) = x := by omega
  have e2 : (x + 1).toNat = x.toNat + 1 := by omega
  simp only [e1] at e
  rw [e2, e]

set_option maxHeartbeats 2000000 in
/-- veneerref01.Hex(d). -/
theorem refhex_any (d : List Int) (hd : d.length = 32) (hb : ∀ j, 0 ≤ d.getD j 0 ∧ d.getD j 0 < 256) (w : World) :
    Calls Tryd.prog 22 #[.agg (u8s d).toArray] w fun e w' => e = .returned (.string (strOfNums (hexL d))) ∧ Below w.heap.size w w' := by
  obtain ⟨cs, hcs⟩ : ∃ cs, cs = (u8s d).toArray := ⟨_, rfl⟩
  have hcs2 : cs = rowArr 32 (fun j => .int .u8 (d.getD j 0)) := by rw [hcs]; exact u8s_rowArr d 32 hd
  rw [← hcs]
  have HCS := Lib.hid hcs2
  have HB := Lib.hid hb
  have HD := Lib.hid hd
  have R0 : Hid ((w.alloc (.cells cs 25)).rowIs w.heap.size 25 32 (fun j => .int .u8 (d.getD j 0))) := Lib.hid (by
    rw [hcs2]; exact ⟨_, Go.Deep.blk_alloc_new _ _, size_rowArr _ _, get_rowArr _ _⟩)
  have B0 : Hid (Below w.heap.size w (w.alloc (.cells cs 25))) := Lib.hid ((Below.refl _ _).alloc (Nat.le_refl _) _)
  clear hcs hcs2 hb hd
  go_enter Tryd.func22, Tryd.ntmps22
  go_wp2_with fail
  go_loopw [4, 5] (fun r x wr => ∃ i : Nat, i ≤ 32 ∧ x = .int .i64 i ∧ r = .string (strOfNums (hexL (d.take i))) ∧ wr.rowIs w.heap.size 25 32 (fun j => .int .u8 (d.getD j 0)) ∧ Below w.heap.size w wr) (fun _ x _ => 32 - (intOf x).toNat)
  case atStart => exact ⟨0, by omega, rfl, rfl, R0.out, B0.out⟩
  case round =>
    clear R0 B0
    obtain ⟨i, hi, rfl, rfl, hR, hb⟩ := hrel
    by_cases hlt : i < 32
    · obtain ⟨x, hx⟩ : ∃ x, x = d.getD i 0 := ⟨_, rfl⟩
      obtain ⟨xl, xh⟩ : 0 ≤ x ∧ x < 256 := by rw [hx]; exact HB.out i
      have c := hR.cell (i := i) hlt
      rw [← hx] at c
      obtain ⟨q, hq⟩ : ∃ q, q = x / 16 := ⟨_, rfl⟩
      obtain ⟨m, hm⟩ : ∃ m, m = x % 16 := ⟨_, rfl⟩
      have s1 := hexSl (x / 16) (by omega)
      have s2 := hexSl (x % 16) (by omega)
      obtain ⟨A, hA⟩ : ∃ A, A = strOfNums (hexL (d.take i)) := ⟨_, rfl⟩
      obtain ⟨G, hG⟩ : ∃ G, G = strOfNums [hexd (x / 16)] := ⟨_, rfl⟩
      obtain ⟨K, hK⟩ : ∃ K, K = strOfNums [hexd (x % 16)] := ⟨_, rfl⟩
      have z1 : A.size = 2 * i := by rw [hA, strOfNums_size, length_hexL, List.length_take, HD.out, Nat.min_eq_left hi]
      have z2 : G.size = 1 := by rw [hG, strOfNums_size]; rfl
      have z3 : K.size = 1 := by rw [hK, strOfNums_size]; rfl
      rw [← hA]
      rw [← hG] at s1
      rw [← hK] at s2
      have HA := Lib.hid hA
      have HG := Lib.hid hG
      have HK := Lib.hid hK
      have HX := Lib.hid hx
      clear hA hG hK hx hq hm
      go_wp2_with fail
      go_quiet (fail)
      go_wp2_with fail
      refine ⟨⟨i + 1, by omega, by go_num, ?_, rowIs_drewN hR _, below_drewN hb _⟩, by simp [intOf]; omega⟩
      have e2 : d[i]? = some x := by
        rw [HX.out, List.getD_eq_getElem?_getD, List.getElem?_eq_getElem (by rw [HD.out]; exact hlt)]
        rfl
      rw [HA.out, HG.out, HK.out, strOfNums_append, strOfNums_append, List.take_add_one, hexL_append, e2, List.append_assoc]
      rfl
    · obtain rfl : i = 32 := by omega
      rw [List.take_of_length_le (by rw [HD.out]; exact Nat.le_refl 32)]
      go_wp2_with fail
      go_ret
      exact ⟨rfl, hb⟩
end Go.Proofs.YtmilbmgbpoekmaaDoor
