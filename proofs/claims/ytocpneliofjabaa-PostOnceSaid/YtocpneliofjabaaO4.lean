/-
  ONE CALL, BY THE ANSWERS ALONE: Drop, Double, Take.
-/
import Derived.Test.YtocpneliofjabaaO3
namespace Go.Proofs.Ytocpneliofjabaa
open Go.RowKit
set_option maxRecDepth 100000

set_option maxHeartbeats 4000000 in
theorem call_drop_no (P B n : Nat) (s : Pst) (U : Nat → Prop) (w0 w : World) (K a b nn : Int) (body : ByteArray) (h : Two (PA P n s) (WA B s.L s.last) U w0 w)
    (hfd : fndI nn s.L = -1) (hK : (IntKind.u64.wrap K).tmod 6 = 2) :
    Calls Try.prog 13 #[.pointer (some ⟨B, 0, none⟩), .pointer (some ⟨P, 0, none⟩), .agg #[.int .i64 K, .int .i64 a, .int .i64 b, .int .i64 nn, .string body]] w fun e w' => e = .returned (.bool true) ∧ Two (PA P n s) (WA B s.L s.last) U w0 w' := by
  obtain ⟨V, hT, hV, _, hJ⟩ := Two.boxed (held_PA P n s) (held_WA B s.L s.last) h (.cells #[.int .i64 K, .int .i64 a, .int .i64 b, .int .i64 nn, .string body] 35)
  have HC := Lib.hid (box_cells (K := K) (a := a) (b := b) (nn := nn) (body := body) hV)
  have HC0 := Lib.hid (box_cell0 (K := K) (a := a) (b := b) (nn := nn) (body := body) hV)
  have HJ := Lib.hid hJ
  clear h hV hJ
  have HFD := Lib.hid hfd
  have hs : ∀ S w, PostSt S w P n s → Calls Try.prog 19 #[.pointer (some ⟨P, 0, none⟩), .int .i64 nn] w fun e w' => e = .returned (.bool false) ∧ Kept S w w' ∧ PostSt (Gr S w w') w' P n s := fun S w hp => by
    have h := drop_any S P n s nn w hp
    unfold Pst.dropN Pst.drop at h
    rw [hfd] at h
    exact h
  have HS := Lib.hid hs
  clear hs hfd
  go_enter Try.func13, Try.ntmps13
  go_wp2_with fail
  obtain ⟨W, hW⟩ : ∃ W, W = w.alloc (.cells #[.int .i64 K, .int .i64 a, .int .i64 b, .int .i64 nn, .string body] 35) := ⟨_, rfl⟩
  rw [← hW] at hT HC HC0 HJ ⊢
  obtain ⟨X, hX⟩ : ∃ X, X = w.heap.size := ⟨_, rfl⟩
  rw [← hX] at HC HC0 ⊢
  clear hW hX
  obtain ⟨v0, q1, _, q3, q4, q5⟩ := way_list hT
  have HTE := Lib.hid (fun e : Ext W.heap.size W => Two.below (held_PA _ _ _) (held_WA _ _ _) hT e.h)
  have hc0 : ∀ e : Ext W.heap.size W, e.x.cell? ⟨B, 0, none⟩ = some v0 := fun e => (e.h.cell (p := ⟨B, 0, none⟩) q4).trans q1
  have hc3 : ∀ e : Ext W.heap.size W, e.x.cell? ⟨X, 3, none⟩ = some (.int .i64 nn) := fun e => (HC.out _ _ _ (HTE.out e)).2.2.1
  have hat : ∀ e : Ext W.heap.size W, Calls Try.prog 29 #[v0, .int .i64 nn] e.x fun x w' => x = .returned (.int .i64 (-1)) ∧ e.x = w' := fun e => by
    have h := at_any v0 s.L nn e.x (pk_below q3 e.h) (by omega)
    rw [HFD.out] at h
    exact h
  have HAT := Lib.hid hat
  have HT := Lib.hid hT
  clear hat q1 q3 q4 hT
  refine wp_region_below W.heap.size (by kernel_rfl) (by kernel_rfl) ?_
  repeat (go_big_quiet_step ((go_at_call 29; rename_i e; with_reducible exact below_call_same e (HAT.out e))))
  refine wpQuiet_nil ?_
  intro w2 hb2
  have hT2 := Two.below (held_PA _ _ _) (held_WA _ _ _) HT.out hb2
  have d0 := HC0.out _ _ _ hT2
  obtain ⟨d1, d2, d3, d4⟩ := HC.out _ _ _ hT2
  clear hc0 hc3 hb2
  go_wp2_with fail
  refine (hT2.first (A1' := PA P n s) (held_WA _ _ _) (held_PA P n s) (fun S hp => HS.out S _ hp)).mono ?_
  rintro e w3 ⟨rfl, hA2⟩
  have HEND := Lib.hid (HJ.out _ _ _ hA2)
  clear hA2 hT2 d0 d1 d2 d3 d4
  go_wp2_with fail
  go_ret
  exact ⟨rfl, HEND.out⟩
set_option maxHeartbeats 4000000 in
theorem call_drop_yes (P B n : Nat) (s : Pst) (U : Nat → Prop) (w0 w : World) (K a b nn : Int) (body : ByteArray) (h : Two (PA P n s) (WA B s.L s.last) U w0 w)
    (i : Nat) (x : Pk) (hfd : fndI nn s.L = (i : Int)) (hx : s.L[i]? = some x) (hK : (IntKind.u64.wrap K).tmod 6 = 2) :
    Calls Try.prog 13 #[.pointer (some ⟨B, 0, none⟩), .pointer (some ⟨P, 0, none⟩), .agg #[.int .i64 K, .int .i64 a, .int .i64 b, .int .i64 nn, .string body]] w fun e w' => e = .returned (.bool true) ∧ Two (PA P n (s.cut i)) (WA B (rmv i s.L) s.last) U w0 w' := by
  obtain ⟨V, hT, hV, _, hJ⟩ := Two.boxed (held_PA P n s) (held_WA B s.L s.last) h (.cells #[.int .i64 K, .int .i64 a, .int .i64 b, .int .i64 nn, .string body] 35)
  have HC := Lib.hid (box_cells (K := K) (a := a) (b := b) (nn := nn) (body := body) hV)
  have HC0 := Lib.hid (box_cell0 (K := K) (a := a) (b := b) (nn := nn) (body := body) hV)
  have HJ := Lib.hid hJ
  clear h hV hJ
  have HFD := Lib.hid hfd
  have hi : i < s.L.length := (List.getElem?_eq_some_iff.1 hx).1
  have hs : ∀ S w, PostSt S w P n s → Calls Try.prog 19 #[.pointer (some ⟨P, 0, none⟩), .int .i64 nn] w fun e w' => e = .returned (.bool true) ∧ Kept S w w' ∧ PostSt (Gr S w w') w' P n (s.cut i) := fun S w hp => by
    have h := drop_any S P n s nn w hp
    unfold Pst.dropN Pst.drop at h
    rw [hfd, if_neg (by omega), Int.toNat_natCast, show decide (0 ≤ (i : Int)) = true by simp] at h
    exact h
  have HS := Lib.hid hs
  have hi0 : decide (0 ≤ (i : Int)) = true := by simp
  have hi1 : (0 : Int) ≤ (i : Int) := by omega
  clear hs hfd hx
  go_enter Try.func13, Try.ntmps13
  go_wp2_with fail
  obtain ⟨W, hW⟩ : ∃ W, W = w.alloc (.cells #[.int .i64 K, .int .i64 a, .int .i64 b, .int .i64 nn, .string body] 35) := ⟨_, rfl⟩
  rw [← hW] at hT HC HC0 HJ ⊢
  obtain ⟨X, hX⟩ : ∃ X, X = w.heap.size := ⟨_, rfl⟩
  rw [← hX] at HC HC0 ⊢
  clear hW hX
  obtain ⟨v0, q1, _, q3, q4, q5⟩ := way_list hT
  have HTE := Lib.hid (fun e : Ext W.heap.size W => Two.below (held_PA _ _ _) (held_WA _ _ _) hT e.h)
  have hc0 : ∀ e : Ext W.heap.size W, e.x.cell? ⟨B, 0, none⟩ = some v0 := fun e => (e.h.cell (p := ⟨B, 0, none⟩) q4).trans q1
  have hc3 : ∀ e : Ext W.heap.size W, e.x.cell? ⟨X, 3, none⟩ = some (.int .i64 nn) := fun e => (HC.out _ _ _ (HTE.out e)).2.2.1
  have hat : ∀ e : Ext W.heap.size W, Calls Try.prog 29 #[v0, .int .i64 nn] e.x fun x w' => x = .returned (.int .i64 (i : Int)) ∧ e.x = w' := fun e => by
    have h := at_any v0 s.L nn e.x (pk_below q3 e.h) (by omega)
    rw [HFD.out] at h
    exact h
  have HAT := Lib.hid hat
  have HT := Lib.hid hT
  clear hat q1 q3 q4 hT
  refine wp_region_below W.heap.size (by kernel_rfl) (by kernel_rfl) ?_
  repeat (go_big_quiet_step ((go_at_call 29; rename_i e; with_reducible exact below_call_same e (HAT.out e))))
  refine wpQuiet_nil ?_
  intro w2 hb2
  have hT2 := Two.below (held_PA _ _ _) (held_WA _ _ _) HT.out hb2
  have d0 := HC0.out _ _ _ hT2
  obtain ⟨d1, d2, d3, d4⟩ := HC.out _ _ _ hT2
  clear hc0 hc3 hb2
  go_wp2_with fail
  refine (hT2.first (A1' := PA P n (s.cut i)) (held_WA _ _ _) (held_PA P n s) (fun S hp => HS.out S _ hp)).mono ?_
  rintro e w3 ⟨rfl, hA2⟩
  obtain ⟨v3, g1, _, g3, g4, g5⟩ := way_list hA2
  have HA := Lib.hid hA2
  have G3 := Lib.hid g3
  have hrl := length_rmv hi
  have hle : Hid ((rmv i s.L).length ≤ 256) := Lib.hid (by omega)
  clear hA2 hT2 d0 d1 d2 d3 d4 g3 hrl
  go_wp2_with fail
  refine (without_any v3 s.L i w3 G3.out g5 hi).mono ?_
  rintro e w4 ⟨v4, rfl, ho4, hb4⟩
  have e4 : w4.cell? ⟨B, 0, none⟩ = some v3 := (hb4.cell (p := ⟨B, 0, none⟩) g4).trans g1
  obtain ⟨_, _, f4, _⟩ := way_list (Two.below (held_PA _ _ _) (held_WA _ _ _) HA.out hb4)
  have HEND := Lib.hid (HJ.out _ _ _ (HA.out.way_store (held_PA _ _ _) hb4 ho4 hle.out))
  obtain ⟨a4, cap4, rfl, _, _, _⟩ := ho4.shape
  obtain ⟨q, hq⟩ : ∃ q, q = (rmv i s.L).length := ⟨_, rfl⟩
  rw [← hq] at HEND ⊢
  clear ho4 hb4 hq
  go_wp2_with fail
  go_ret
  exact ⟨rfl, HEND.out⟩
set_option maxHeartbeats 4000000 in
theorem call_double_no (P B n : Nat) (s : Pst) (U : Nat → Prop) (w0 w : World) (K a b nn : Int) (body : ByteArray) (h : Two (PA P n s) (WA B s.L s.last) U w0 w)
    (hl : s.last < 1000000) (hfd : fndI nn s.L = -1) (hK : (IntKind.u64.wrap K).tmod 6 = 3) :
    Calls Try.prog 13 #[.pointer (some ⟨B, 0, none⟩), .pointer (some ⟨P, 0, none⟩), .agg #[.int .i64 K, .int .i64 a, .int .i64 b, .int .i64 nn, .string body]] w fun e w' => e = .returned (.bool true) ∧ Two (PA P n s) (WA B s.L s.last) U w0 w' := by
  obtain ⟨V, hT, hV, _, hJ⟩ := Two.boxed (held_PA P n s) (held_WA B s.L s.last) h (.cells #[.int .i64 K, .int .i64 a, .int .i64 b, .int .i64 nn, .string body] 35)
  have HC := Lib.hid (box_cells (K := K) (a := a) (b := b) (nn := nn) (body := body) hV)
  have HC0 := Lib.hid (box_cell0 (K := K) (a := a) (b := b) (nn := nn) (body := body) hV)
  have HJ := Lib.hid hJ
  clear h hV hJ
  have HFD := Lib.hid hfd
  have hs : ∀ S w, PostSt S w P n s → Calls Try.prog 20 #[.pointer (some ⟨P, 0, none⟩), .int .i64 nn] w fun e w' => e = .returned (.int .i64 0) ∧ Kept S w w' ∧ PostSt (Gr S w w') w' P n s := fun S w hp => by
    have h := double_any S P n s nn w hp hl
    unfold Pst.dblN Pst.dbl at h
    rw [hfd] at h
    exact h
  have HS := Lib.hid hs
  clear hs hfd
  go_enter Try.func13, Try.ntmps13
  go_wp2_with fail
  obtain ⟨W, hW⟩ : ∃ W, W = w.alloc (.cells #[.int .i64 K, .int .i64 a, .int .i64 b, .int .i64 nn, .string body] 35) := ⟨_, rfl⟩
  rw [← hW] at hT HC HC0 HJ ⊢
  obtain ⟨X, hX⟩ : ∃ X, X = w.heap.size := ⟨_, rfl⟩
  rw [← hX] at HC HC0 ⊢
  clear hW hX
  obtain ⟨v0, q1, _, q3, q4, q5⟩ := way_list hT
  have HTE := Lib.hid (fun e : Ext W.heap.size W => Two.below (held_PA _ _ _) (held_WA _ _ _) hT e.h)
  have hc0 : ∀ e : Ext W.heap.size W, e.x.cell? ⟨B, 0, none⟩ = some v0 := fun e => (e.h.cell (p := ⟨B, 0, none⟩) q4).trans q1
  have hc3 : ∀ e : Ext W.heap.size W, e.x.cell? ⟨X, 3, none⟩ = some (.int .i64 nn) := fun e => (HC.out _ _ _ (HTE.out e)).2.2.1
  have hat : ∀ e : Ext W.heap.size W, Calls Try.prog 29 #[v0, .int .i64 nn] e.x fun x w' => x = .returned (.int .i64 (-1)) ∧ e.x = w' := fun e => by
    have h := at_any v0 s.L nn e.x (pk_below q3 e.h) (by omega)
    rw [HFD.out] at h
    exact h
  have HAT := Lib.hid hat
  have HT := Lib.hid hT
  clear hat q1 q3 q4 hT
  refine wp_region_below W.heap.size (by kernel_rfl) (by kernel_rfl) ?_
  repeat (go_big_quiet_step ((go_at_call 29; rename_i e; with_reducible exact below_call_same e (HAT.out e))))
  refine wpQuiet_nil ?_
  intro w2 hb2
  have hT2 := Two.below (held_PA _ _ _) (held_WA _ _ _) HT.out hb2
  have d0 := HC0.out _ _ _ hT2
  obtain ⟨d1, d2, d3, d4⟩ := HC.out _ _ _ hT2
  clear hc0 hc3 hb2
  go_wp2_with fail
  refine (hT2.first (A1' := PA P n s) (held_WA _ _ _) (held_PA P n s) (fun S hp => HS.out S _ hp)).mono ?_
  rintro e w3 ⟨rfl, hA2⟩
  have HEND := Lib.hid (HJ.out _ _ _ hA2)
  clear hA2 hT2 d0 d1 d2 d3 d4
  go_wp2_with fail
  go_ret
  exact ⟨rfl, HEND.out⟩
set_option maxHeartbeats 4000000 in
theorem call_double_yes (P B n : Nat) (s : Pst) (U : Nat → Prop) (w0 w : World) (K a b nn : Int) (body : ByteArray) (h : Two (PA P n s) (WA B s.L s.last) U w0 w)
    (i : Nat) (x : Pk) (hfd : fndI nn s.L = (i : Int)) (hx : s.L[i]? = some x) (N : Int) (s1 : Pst) (hs : ∀ S w, PostSt S w P n s → Calls Try.prog 20 #[.pointer (some ⟨P, 0, none⟩), .int .i64 nn] w fun e w' => e = .returned (.int .i64 N) ∧ Kept S w w' ∧ PostSt (Gr S w w') w' P n s1)
    (hw : ∀ S w, WaySt S w B s.L s.last → Calls Try.prog 30 #[.pointer (some ⟨B, 0, none⟩), .int .i64 N, pka x] w fun e w' => e = .returned (.bool true) ∧ Kept S w w' ∧ WaySt (Gr S w w') w' B s1.L s1.last)
    (hK : (IntKind.u64.wrap K).tmod 6 = 3) :
    Calls Try.prog 13 #[.pointer (some ⟨B, 0, none⟩), .pointer (some ⟨P, 0, none⟩), .agg #[.int .i64 K, .int .i64 a, .int .i64 b, .int .i64 nn, .string body]] w fun e w' => e = .returned (.bool true) ∧ Two (PA P n s1) (WA B s1.L s1.last) U w0 w' := by
  obtain ⟨V, hT, hV, _, hJ⟩ := Two.boxed (held_PA P n s) (held_WA B s.L s.last) h (.cells #[.int .i64 K, .int .i64 a, .int .i64 b, .int .i64 nn, .string body] 35)
  have HC := Lib.hid (box_cells (K := K) (a := a) (b := b) (nn := nn) (body := body) hV)
  have HC0 := Lib.hid (box_cell0 (K := K) (a := a) (b := b) (nn := nn) (body := body) hV)
  have HJ := Lib.hid hJ
  clear h hV hJ
  have HFD := Lib.hid hfd
  have hi : i < s.L.length := (List.getElem?_eq_some_iff.1 hx).1
  have HX := Lib.hid hx
  have HS := Lib.hid hs
  have HW := Lib.hid hw
  have hi0 : decide (0 ≤ (i : Int)) = true := by simp
  have hi2 : decide ((i : Int) < 0) = false := by simp
  have hi1 : (0 : Int) ≤ (i : Int) := by omega
  clear hs hw hfd hx
  go_enter Try.func13, Try.ntmps13
  go_wp2_with fail
  obtain ⟨W, hW⟩ : ∃ W, W = w.alloc (.cells #[.int .i64 K, .int .i64 a, .int .i64 b, .int .i64 nn, .string body] 35) := ⟨_, rfl⟩
  rw [← hW] at hT HC HC0 HJ ⊢
  obtain ⟨X, hX⟩ : ∃ X, X = w.heap.size := ⟨_, rfl⟩
  rw [← hX] at HC HC0 ⊢
  clear hW hX
  obtain ⟨v0, q1, _, q3, q4, q5⟩ := way_list hT
  have HTE := Lib.hid (fun e : Ext W.heap.size W => Two.below (held_PA _ _ _) (held_WA _ _ _) hT e.h)
  have hc0 : ∀ e : Ext W.heap.size W, e.x.cell? ⟨B, 0, none⟩ = some v0 := fun e => (e.h.cell (p := ⟨B, 0, none⟩) q4).trans q1
  have hc3 : ∀ e : Ext W.heap.size W, e.x.cell? ⟨X, 3, none⟩ = some (.int .i64 nn) := fun e => (HC.out _ _ _ (HTE.out e)).2.2.1
  have hat : ∀ e : Ext W.heap.size W, Calls Try.prog 29 #[v0, .int .i64 nn] e.x fun x w' => x = .returned (.int .i64 (i : Int)) ∧ e.x = w' := fun e => by
    have h := at_any v0 s.L nn e.x (pk_below q3 e.h) (by omega)
    rw [HFD.out] at h
    exact h
  have HAT := Lib.hid hat
  have HT := Lib.hid hT
  clear hat q1 q3 q4 hT
  refine wp_region_below W.heap.size (by kernel_rfl) (by kernel_rfl) ?_
  repeat (go_big_quiet_step ((go_at_call 29; rename_i e; with_reducible exact below_call_same e (HAT.out e))))
  refine wpQuiet_nil ?_
  intro w2 hb2
  have hT2 := Two.below (held_PA _ _ _) (held_WA _ _ _) HT.out hb2
  have d0 := HC0.out _ _ _ hT2
  obtain ⟨d1, d2, d3, d4⟩ := HC.out _ _ _ hT2
  clear hc0 hc3 hb2
  go_wp2_with fail
  refine (hT2.first (A1' := PA P n s1) (held_WA _ _ _) (held_PA P n s) (fun S hp => HS.out S _ hp)).mono ?_
  rintro e w3 ⟨rfl, hA2⟩
  obtain ⟨v3, g1, _, g3, g4, g5⟩ := way_list hA2
  obtain ⟨a3, cap3, rfl, c1, c2, c3⟩ := g3.shape
  obtain ⟨g, rfl, _, _, hgl, x0, x1, x2, x3⟩ := c3 i x HX.out
  have HA := Lib.hid hA2
  unfold maxLen at c2
  clear hA2 hT2 d0 d1 d2 d3 d4 g3 c3
  go_wp2_with fail
  refine (HA.out.second (A2' := WA B s1.L s1.last) (held_PA P n s1) (held_WA _ _ _) (fun S hp => HW.out S _ hp)).mono ?_
  rintro e w4 ⟨rfl, hB2⟩
  have HEND := Lib.hid (HJ.out _ _ _ hB2)
  clear hB2
  go_wp2_with fail
  go_ret
  exact ⟨rfl, HEND.out⟩
set_option maxHeartbeats 4000000 in
theorem call_take_no (P B n : Nat) (s : Pst) (U : Nat → Prop) (w0 w : World) (K a b nn : Int) (body : ByteArray) (h : Two (PA P n s) (WA B s.L s.last) U w0 w)
    (x : Pk) (hs : ∀ S w, PostSt S w P n s → Calls Try.prog 18 #[.pointer (some ⟨P, 0, none⟩), .int .i64 nn] w fun e w' => e = .returned (.tuple #[pka x, .bool false]) ∧ Kept S w w' ∧ PostSt (Gr S w w') w' P n s)
    (hK : (IntKind.u64.wrap K).tmod 6 = 1) :
    Calls Try.prog 13 #[.pointer (some ⟨B, 0, none⟩), .pointer (some ⟨P, 0, none⟩), .agg #[.int .i64 K, .int .i64 a, .int .i64 b, .int .i64 nn, .string body]] w fun e w' => e = .returned (.bool true) ∧ Two (PA P n s) (WA B s.L s.last) U w0 w' := by
  obtain ⟨V, hT, hV, _, hJ⟩ := Two.boxed (held_PA P n s) (held_WA B s.L s.last) h (.cells #[.int .i64 K, .int .i64 a, .int .i64 b, .int .i64 nn, .string body] 35)
  have HC := Lib.hid (box_cells (K := K) (a := a) (b := b) (nn := nn) (body := body) hV)
  have HC0 := Lib.hid (box_cell0 (K := K) (a := a) (b := b) (nn := nn) (body := body) hV)
  have HJ := Lib.hid hJ
  clear h hV hJ
  have HS := Lib.hid hs
  clear hs
  go_enter Try.func13, Try.ntmps13
  go_wp2_with fail
  obtain ⟨W, hW⟩ : ∃ W, W = w.alloc (.cells #[.int .i64 K, .int .i64 a, .int .i64 b, .int .i64 nn, .string body] 35) := ⟨_, rfl⟩
  rw [← hW] at hT HC HC0 HJ ⊢
  obtain ⟨X, hX⟩ : ∃ X, X = w.heap.size := ⟨_, rfl⟩
  rw [← hX] at HC HC0 ⊢
  clear hW hX
  obtain ⟨v0, q1, _, q3, q4, q5⟩ := way_list hT
  have HTE := Lib.hid (fun e : Ext W.heap.size W => Two.below (held_PA _ _ _) (held_WA _ _ _) hT e.h)
  have hc0 : ∀ e : Ext W.heap.size W, e.x.cell? ⟨B, 0, none⟩ = some v0 := fun e => (e.h.cell (p := ⟨B, 0, none⟩) q4).trans q1
  have hc3 : ∀ e : Ext W.heap.size W, e.x.cell? ⟨X, 3, none⟩ = some (.int .i64 nn) := fun e => (HC.out _ _ _ (HTE.out e)).2.2.1
  have hat : ∀ e : Ext W.heap.size W, Calls Try.prog 29 #[v0, .int .i64 nn] e.x fun x w' => x = .returned (.int .i64 (fndI nn s.L)) ∧ e.x = w' := fun e => by
    have h := at_any v0 s.L nn e.x (pk_below q3 e.h) (by omega)
    skip
    exact h
  have HAT := Lib.hid hat
  have HT := Lib.hid hT
  clear hat q1 q3 q4 hT
  refine wp_region_below W.heap.size (by kernel_rfl) (by kernel_rfl) ?_
  repeat (go_big_quiet_step ((go_at_call 29; rename_i e; with_reducible exact below_call_same e (HAT.out e))))
  refine wpQuiet_nil ?_
  intro w2 hb2
  have hT2 := Two.below (held_PA _ _ _) (held_WA _ _ _) HT.out hb2
  have d0 := HC0.out _ _ _ hT2
  obtain ⟨d1, d2, d3, d4⟩ := HC.out _ _ _ hT2
  clear hc0 hc3 hb2
  obtain ⟨f, hf⟩ : ∃ f, f = fndI nn s.L := ⟨_, rfl⟩
  rw [← hf]
  clear hf
  go_wp2_with fail
  refine (hT2.first (A1' := PA P n s) (held_WA _ _ _) (held_PA P n s) (fun S hp => HS.out S _ hp)).mono ?_
  rintro e w3 ⟨rfl, hA2⟩
  have HEND := Lib.hid (HJ.out _ _ _ (Two.below (held_PA _ _ _) (held_WA _ _ _) hA2 ((Below.refl _ _).alloc (Nat.le_refl _) (.cells #[.int .i64 x.id, .int .i64 x.fr, .int .i64 x.to, .string x.body] 49))))
  clear hA2 hT2 d0 d1 d2 d3 d4
  unfold pka
  go_wp2_with fail
  go_ret
  exact ⟨rfl, HEND.out⟩
set_option maxHeartbeats 4000000 in
theorem call_take_yes (P B n : Nat) (s : Pst) (U : Nat → Prop) (w0 w : World) (K a b nn : Int) (body : ByteArray) (h : Two (PA P n s) (WA B s.L s.last) U w0 w)
    (i : Nat) (x : Pk) (hfd : fndI nn s.L = (i : Int)) (hx : s.L[i]? = some x) (hs : ∀ S w, PostSt S w P n s → Calls Try.prog 18 #[.pointer (some ⟨P, 0, none⟩), .int .i64 nn] w fun e w' => e = .returned (.tuple #[pka x, .bool true]) ∧ Kept S w w' ∧ PostSt (Gr S w w') w' P n (s.cut i))
    (hK : (IntKind.u64.wrap K).tmod 6 = 1) :
    Calls Try.prog 13 #[.pointer (some ⟨B, 0, none⟩), .pointer (some ⟨P, 0, none⟩), .agg #[.int .i64 K, .int .i64 a, .int .i64 b, .int .i64 nn, .string body]] w fun e w' => e = .returned (.bool true) ∧ Two (PA P n (s.cut i)) (WA B (rmv i s.L) s.last) U w0 w' := by
  obtain ⟨V, hT, hV, _, hJ⟩ := Two.boxed (held_PA P n s) (held_WA B s.L s.last) h (.cells #[.int .i64 K, .int .i64 a, .int .i64 b, .int .i64 nn, .string body] 35)
  have HC := Lib.hid (box_cells (K := K) (a := a) (b := b) (nn := nn) (body := body) hV)
  have HC0 := Lib.hid (box_cell0 (K := K) (a := a) (b := b) (nn := nn) (body := body) hV)
  have HJ := Lib.hid hJ
  clear h hV hJ
  have HFD := Lib.hid hfd
  have hi : i < s.L.length := (List.getElem?_eq_some_iff.1 hx).1
  have HX := Lib.hid hx
  have HS := Lib.hid hs
  have hi2 : decide ((i : Int) < 0) = false := by simp
  have hi1 : (0 : Int) ≤ (i : Int) := by omega
  clear hs hfd hx
  go_enter Try.func13, Try.ntmps13
  go_wp2_with fail
  obtain ⟨W, hW⟩ : ∃ W, W = w.alloc (.cells #[.int .i64 K, .int .i64 a, .int .i64 b, .int .i64 nn, .string body] 35) := ⟨_, rfl⟩
  rw [← hW] at hT HC HC0 HJ ⊢
  obtain ⟨X, hX⟩ : ∃ X, X = w.heap.size := ⟨_, rfl⟩
  rw [← hX] at HC HC0 ⊢
  clear hW hX
  obtain ⟨v0, q1, _, q3, q4, q5⟩ := way_list hT
  have HTE := Lib.hid (fun e : Ext W.heap.size W => Two.below (held_PA _ _ _) (held_WA _ _ _) hT e.h)
  have hc0 : ∀ e : Ext W.heap.size W, e.x.cell? ⟨B, 0, none⟩ = some v0 := fun e => (e.h.cell (p := ⟨B, 0, none⟩) q4).trans q1
  have hc3 : ∀ e : Ext W.heap.size W, e.x.cell? ⟨X, 3, none⟩ = some (.int .i64 nn) := fun e => (HC.out _ _ _ (HTE.out e)).2.2.1
  have hat : ∀ e : Ext W.heap.size W, Calls Try.prog 29 #[v0, .int .i64 nn] e.x fun x w' => x = .returned (.int .i64 (i : Int)) ∧ e.x = w' := fun e => by
    have h := at_any v0 s.L nn e.x (pk_below q3 e.h) (by omega)
    rw [HFD.out] at h
    exact h
  have HAT := Lib.hid hat
  have HT := Lib.hid hT
  clear hat q1 q3 q4 hT
  refine wp_region_below W.heap.size (by kernel_rfl) (by kernel_rfl) ?_
  repeat (go_big_quiet_step ((go_at_call 29; rename_i e; with_reducible exact below_call_same e (HAT.out e))))
  refine wpQuiet_nil ?_
  intro w2 hb2
  have hT2 := Two.below (held_PA _ _ _) (held_WA _ _ _) HT.out hb2
  have d0 := HC0.out _ _ _ hT2
  obtain ⟨d1, d2, d3, d4⟩ := HC.out _ _ _ hT2
  clear hc0 hc3 hb2
  go_wp2_with fail
  refine (hT2.first (A1' := PA P n (s.cut i)) (held_WA _ _ _) (held_PA P n s) (fun S hp => HS.out S _ hp)).mono ?_
  rintro e w3 ⟨rfl, hA2⟩
  have hA3 := Two.below (held_PA _ _ _) (held_WA _ _ _) hA2 ((Below.refl _ _).alloc (Nat.le_refl _) (.cells #[.int .i64 x.id, .int .i64 x.fr, .int .i64 x.to, .string x.body] 49))
  clear hA2 hT2 d0 d1 d2 d3 d4
  unfold pka
  go_wp2_with fail
  obtain ⟨W3, hW3⟩ : ∃ W3, W3 = w3.alloc (.cells #[.int .i64 x.id, .int .i64 x.fr, .int .i64 x.to, .string x.body] 49) := ⟨_, rfl⟩
  have hrow : PkRow W3 w3.heap.size x := by rw [hW3]; exact rowIs_lit w3 [.int .i64 x.id, .int .i64 x.fr, .int .i64 x.to, .string x.body] 49 4 _ rfl
  rw [← hW3] at hA3 ⊢
  obtain ⟨T, hT⟩ : ∃ T, T = w3.heap.size := ⟨_, rfl⟩
  rw [← hT] at hrow ⊢
  clear hW3 hT
  obtain ⟨v3, g1, _, g3, g4, g5⟩ := way_list hA3
  have G3 := Lib.hid g3
  have G1 := Lib.hid g1
  obtain ⟨a3, cap3, hv3, c1, c2, c3⟩ := g3.shape
  obtain ⟨g, rfl, _, _, hgl, x0, x1, x2, x3⟩ := c3 i x HX.out
  subst hv3
  have r0 : W3.cell? ⟨T, 0, none⟩ = some (.int .i64 x.id) := hrow.cell (by omega)
  have r1 : W3.cell? ⟨T, 1, none⟩ = some (.int .i64 x.fr) := hrow.cell (by omega)
  have r2 : W3.cell? ⟨T, 2, none⟩ = some (.int .i64 x.to) := hrow.cell (by omega)
  have r3 : W3.cell? ⟨T, 3, none⟩ = some (.string x.body) := hrow.cell (by omega)
  have hi3 : (i : Int) < (s.L.length : Int) := by omega
  have hrl := length_rmv hi
  have hle : Hid ((rmv i s.L).length ≤ 256) := Lib.hid (by omega)
  have HA := Lib.hid hA3
  unfold maxLen at c2
  clear hA3 g3 c3 hrow hrl
  go_quiet (fail)
  clear x0 x1 x2 x3 r0 r1 r2 r3
  go_wp2_with fail
  refine (without_any _ s.L i (W3.drewN nq) (by exact G3.out) g5 hi).mono ?_
  rintro e w4 ⟨v4, rfl, ho4, hb4⟩
  have hb5 : Below W3.heap.size W3 w4 := (below_drewN (Below.refl W3.heap.size W3) nq).trans hb4
  have e4 : w4.cell? ⟨B, 0, none⟩ = some (.slice (some ⟨g, 0, none⟩) s.L.length cap3) := (hb5.cell (p := ⟨B, 0, none⟩) g4).trans G1.out
  obtain ⟨_, _, f4, _⟩ := way_list (Two.below (held_PA _ _ _) (held_WA _ _ _) HA.out hb5)
  have HEND := Lib.hid (HJ.out _ _ _ (HA.out.way_store (held_PA _ _ _) hb5 ho4 hle.out))
  obtain ⟨a4, cap4, rfl, _, _, _⟩ := ho4.shape
  obtain ⟨q, hq⟩ : ∃ q, q = (rmv i s.L).length := ⟨_, rfl⟩
  rw [← hq] at HEND ⊢
  clear ho4 hb4 hb5 hq
  go_wp2_with fail
  go_ret
  exact ⟨rfl, HEND.out⟩
end Go.Proofs.Ytocpneliofjabaa
