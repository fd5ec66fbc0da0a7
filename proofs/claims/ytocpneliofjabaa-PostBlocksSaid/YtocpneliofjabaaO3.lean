/-
  ONE CALL, BY THE ANSWERS ALONE (veneerlaw21.way.call).
-/
import Derived.Test.YtocpneliofjabaaO2
namespace Go.Proofs.Ytocpneliofjabaa
open Go.RowKit
set_option maxRecDepth 100000

theorem Two.step2 {A1 A2 A2' : (Nat → Prop) → World → Prop} {U : Nat → Prop} {w0 w w' : World} (H1 : Held A1) (H2 : Held A2) (h : Two A1 A2 U w0 w) (hc : ∀ S, A2 S w → Kept S w w' ∧ A2' (Gr S w w') w') : Two A1 A2' U w0 w' := by
  obtain ⟨S, T, h1, h2, h3, h4, h5⟩ := h
  obtain ⟨hk, h2'⟩ := hc T h2
  have hS := H1.lt S w h1
  have hT := H2.lt T w h2
  refine ⟨S, Gr T w w', H1.keep S w w' h1 (fun i hi => hk.block i (hS i hi) (fun ht => h3 i hi ht)) hk.size, h2', ?_, ?_, h5.trans hk (fun i hi ht => ?_)⟩
  · intro i hi ht
    rcases ht with ht | ⟨ht, _⟩
    · exact h3 i hi ht
    · have := hS i hi; omega
  · intro i hi
    rcases hi with hi | hi | ⟨hi, _⟩
    · exact h4 i (.inl hi)
    · exact h4 i (.inr hi)
    · exact .inr (Nat.le_trans h5.size hi)
  · rcases h4 i (.inr ht) with h | h
    · exact h
    · omega
theorem Two.way_store {A1 : (Nat → Prop) → World → Prop} {U : Nat → Prop} {w0 w w4 : World} {B : Nat} {L M : List Pk} {last : Int} {v4 : Value} (H1 : Held A1) (h : Two A1 (WA B L last) U w0 w) (hb : Below w.heap.size w w4) (ho : PkOwn w.heap.size w4 v4 M) (hM : M.length ≤ 256) :
    Two A1 (WA B M last) U w0 (w4.setCell ⟨B, 0, none⟩ v4) := by
  refine h.step2 H1 (held_WA _ _ _) (fun S hp => ?_)
  obtain ⟨v, h1, h2, h4, h5, h7, h8⟩ := hp
  exact way_stored (L := L) h1 (Kept.refl S w) (Nat.le_refl _) hb ho h4 h7 hM
/-- The way's packets, as they lie. -/
theorem way_list {A1 : (Nat → Prop) → World → Prop} {U : Nat → Prop} {w0 w : World} {B : Nat} {L : List Pk} {last : Int} (h : Two A1 (WA B L last) U w0 w) : ∃ v, w.cell? ⟨B, 0, none⟩ = some v ∧ w.frozen? ⟨B, 0, none⟩ = false ∧ PkOwn 0 w v L ∧ B < w.heap.size ∧ L.length ≤ 256 := by
  obtain ⟨S, T, _, ⟨v, h1, h2, _, _, _, h6⟩, _⟩ := h
  exact ⟨v, h1.cell (by omega), h1.frozen 0, h2, h1.lt, h6⟩
theorem box_cell0 {V : Nat → Prop} {w : World} {K a b nn : Int} {body : ByteArray} (hV : ¬ V w.heap.size) :
    ∀ A1 A2 w', Two A1 A2 V (w.alloc (.cells #[.int .i64 K, .int .i64 a, .int .i64 b, .int .i64 nn, .string body] 35)) w' → w'.cell? ⟨w.heap.size, 0, none⟩ = some (.int .i64 K) := fun A1 A2 w' h => by
  have hb := h.kept.block w.heap.size (by simp) hV
  have hn := Go.Deep.blk_alloc_new w (.cells #[.int .i64 K, .int .i64 a, .int .i64 b, .int .i64 nn, .string body] 35)
  exact cell_of_row w' w.heap.size 0 _ 35 (0, 0) (hb.trans hn)
set_option maxHeartbeats 4000000 in
theorem call_send (P B n : Nat) (s : Pst) (U : Nat → Prop) (w0 w : World) (K a b nn : Int) (body : ByteArray) (h : Two (PA P n s) (WA B s.L s.last) U w0 w)
    (N : Int) (s1 : Pst) (hs : ∀ S w, PostSt S w P n s → Calls Try.prog 14 #[.pointer (some ⟨P, 0, none⟩), .int .i64 a, .int .i64 b, .string body] w fun e w' => e = .returned (.int .i64 N) ∧ Kept S w w' ∧ PostSt (Gr S w w') w' P n s1)
    (hw : ∀ S w, WaySt S w B s.L s.last → Calls Try.prog 30 #[.pointer (some ⟨B, 0, none⟩), .int .i64 N, pka ⟨0, a, b, body⟩] w fun e w' => e = .returned (.bool true) ∧ Kept S w w' ∧ WaySt (Gr S w w') w' B s1.L s1.last)
    (hK : (IntKind.u64.wrap K).tmod 6 = 0) :
    Calls Try.prog 13 #[.pointer (some ⟨B, 0, none⟩), .pointer (some ⟨P, 0, none⟩), .agg #[.int .i64 K, .int .i64 a, .int .i64 b, .int .i64 nn, .string body]] w fun e w' => e = .returned (.bool true) ∧ Two (PA P n s1) (WA B s1.L s1.last) U w0 w' := by
  obtain ⟨V, hT, hV, _, hJ⟩ := Two.boxed (held_PA P n s) (held_WA B s.L s.last) h (.cells #[.int .i64 K, .int .i64 a, .int .i64 b, .int .i64 nn, .string body] 35)
  have HC := Lib.hid (box_cells (K := K) (a := a) (b := b) (nn := nn) (body := body) hV)
  have HC0 := Lib.hid (box_cell0 (K := K) (a := a) (b := b) (nn := nn) (body := body) hV)
  have HJ := Lib.hid hJ
  clear h hV hJ
  have HS := Lib.hid hs
  have HW := Lib.hid hw
  clear hs hw
  go_enter Try.func13, Try.ntmps13
  go_wp2_with fail
  obtain ⟨W, hW⟩ : ∃ W, W = w.alloc (.cells #[.int .i64 K, .int .i64 a, .int .i64 b, .int .i64 nn, .string body] 35) := ⟨_, rfl⟩
  rw [← hW] at hT HC HC0 HJ ⊢
  obtain ⟨X, hX⟩ : ∃ X, X = w.heap.size := ⟨_, rfl⟩
  rw [← hX] at HC HC0 ⊢
  clear hW hX
  obtain ⟨v0, q1, _, q3, q4, q5⟩ := way_list hT
  have HTE := Lib.hid (fun e : Ext W.heap.size W => Two.below (held_PA _ _ _) (held_WA _ _ _) hT e.h)
  have hc0 : ∀ e : Ext W.heap.size W, e.x.cell? ⟨B, 0, none⟩ = some v0 := fun e => (e.h.cell (p := ⟨B, 0, none⟩) q4).trans q1
  have hc3 : ∀ e : Ext W.heap.size W, e.x.cell? ⟨X, 3, none⟩ = some (.int .i64 nn) := fun e => (HC.out _ _ _ (HTE.out e)).2.2.1
  have hat : ∀ e : Ext W.heap.size W, Calls Try.prog 29 #[v0, .int .i64 nn] e.x fun x w' => x = .returned (.int .i64 (fndI nn s.L)) ∧ e.x = w' := fun e => by
    have h := at_any v0 s.L nn e.x (pk_below q3 e.h) (by omega)
    skip
    exact h
  have HAT := Lib.hid hat
  have HT := Lib.hid hT
  clear hat q1 q3 q4 hT
  refine wp_region_below W.heap.size (by kernel_rfl) (by kernel_rfl) ?_
  repeat (go_big_quiet_step ((go_at_call 29; rename_i e; with_reducible exact below_call_same e (HAT.out e))))
  refine wpQuiet_nil ?_
  intro w2 hb2
  have hT2 := Two.below (held_PA _ _ _) (held_WA _ _ _) HT.out hb2
  have d0 := HC0.out _ _ _ hT2
  obtain ⟨d1, d2, d3, d4⟩ := HC.out _ _ _ hT2
  clear hc0 hc3 hb2
  obtain ⟨f, hf⟩ : ∃ f, f = fndI nn s.L := ⟨_, rfl⟩
  rw [← hf]
  clear hf
  clear d1 d2 d3 d4
  go_wp2_with fail
  clear d0
  have hT3 := hT2.drew (held_PA _ _ _) (held_WA _ _ _)
  clear hT2
  go_region_held3 (fun w' => w'.cell? ⟨X, 1, none⟩ = some (.int .i64 a) ∧ w'.cell? ⟨X, 2, none⟩ = some (.int .i64 b) ∧ w'.cell? ⟨X, 3, none⟩ = some (.int .i64 nn) ∧ w'.cell? ⟨X, 4, none⟩ = some (.string body))
    (first
      | exact HC.out _ _ _ hB2
      | exact HC.out _ _ _ hA2
      | exact HC.out _ _ _ hT3
      | go_keep)
    (first
      | (go_at_call 14; refine (hT3.first (A1' := PA P n s1) (held_WA _ _ _) (held_PA P n s) (fun S hp => HS.out S _ hp)).mono ?_; rintro e w3 ⟨rfl, hA2⟩)
      | (go_at_call 30; refine (hA2.second (A2' := WA B s1.L s1.last) (held_PA P n s1) (held_WA _ _ _) (fun S hp => HW.out S _ hp)).mono ?_; rintro e w4 ⟨rfl, hB2⟩))
  have HEND := Lib.hid (HJ.out _ _ _ hB2)
  clear hA2 hB2 hT3
  go_wp2_with fail
  go_ret
  exact ⟨rfl, HEND.out⟩
set_option maxHeartbeats 4000000 in
theorem call_block (P B n : Nat) (s : Pst) (U : Nat → Prop) (w0 w : World) (K a b nn : Int) (body : ByteArray) (h : Two (PA P n s) (WA B s.L s.last) U w0 w)
    (s1 : Pst) (hs : ∀ S w, PostSt S w P n s → Calls Try.prog 15 #[.pointer (some ⟨P, 0, none⟩), .int .i64 a, .int .i64 b] w fun e w' => e = .returned (.tuple #[]) ∧ Kept S w w' ∧ PostSt (Gr S w w') w' P (n + 1) s1)
    (hK : (IntKind.u64.wrap K).tmod 6 = 4) :
    Calls Try.prog 13 #[.pointer (some ⟨B, 0, none⟩), .pointer (some ⟨P, 0, none⟩), .agg #[.int .i64 K, .int .i64 a, .int .i64 b, .int .i64 nn, .string body]] w fun e w' => e = .returned (.bool true) ∧ Two (PA P (n + 1) s1) (WA B s.L s.last) U w0 w' := by
  obtain ⟨V, hT, hV, _, hJ⟩ := Two.boxed (held_PA P n s) (held_WA B s.L s.last) h (.cells #[.int .i64 K, .int .i64 a, .int .i64 b, .int .i64 nn, .string body] 35)
  have HC := Lib.hid (box_cells (K := K) (a := a) (b := b) (nn := nn) (body := body) hV)
  have HC0 := Lib.hid (box_cell0 (K := K) (a := a) (b := b) (nn := nn) (body := body) hV)
  have HJ := Lib.hid hJ
  clear h hV hJ
  have HS := Lib.hid hs
  clear hs
  go_enter Try.func13, Try.ntmps13
  go_wp2_with fail
  obtain ⟨W, hW⟩ : ∃ W, W = w.alloc (.cells #[.int .i64 K, .int .i64 a, .int .i64 b, .int .i64 nn, .string body] 35) := ⟨_, rfl⟩
  rw [← hW] at hT HC HC0 HJ ⊢
  obtain ⟨X, hX⟩ : ∃ X, X = w.heap.size := ⟨_, rfl⟩
  rw [← hX] at HC HC0 ⊢
  clear hW hX
  obtain ⟨v0, q1, _, q3, q4, q5⟩ := way_list hT
  have HTE := Lib.hid (fun e : Ext W.heap.size W => Two.below (held_PA _ _ _) (held_WA _ _ _) hT e.h)
  have hc0 : ∀ e : Ext W.heap.size W, e.x.cell? ⟨B, 0, none⟩ = some v0 := fun e => (e.h.cell (p := ⟨B, 0, none⟩) q4).trans q1
  have hc3 : ∀ e : Ext W.heap.size W, e.x.cell? ⟨X, 3, none⟩ = some (.int .i64 nn) := fun e => (HC.out _ _ _ (HTE.out e)).2.2.1
  have hat : ∀ e : Ext W.heap.size W, Calls Try.prog 29 #[v0, .int .i64 nn] e.x fun x w' => x = .returned (.int .i64 (fndI nn s.L)) ∧ e.x = w' := fun e => by
    have h := at_any v0 s.L nn e.x (pk_below q3 e.h) (by omega)
    skip
    exact h
  have HAT := Lib.hid hat
  have HT := Lib.hid hT
  clear hat q1 q3 q4 hT
  refine wp_region_below W.heap.size (by kernel_rfl) (by kernel_rfl) ?_
  repeat (go_big_quiet_step ((go_at_call 29; rename_i e; with_reducible exact below_call_same e (HAT.out e))))
  refine wpQuiet_nil ?_
  intro w2 hb2
  have hT2 := Two.below (held_PA _ _ _) (held_WA _ _ _) HT.out hb2
  have d0 := HC0.out _ _ _ hT2
  obtain ⟨d1, d2, d3, d4⟩ := HC.out _ _ _ hT2
  clear hc0 hc3 hb2
  obtain ⟨f, hf⟩ : ∃ f, f = fndI nn s.L := ⟨_, rfl⟩
  rw [← hf]
  clear hf
  go_wp2_with fail
  refine (hT2.first (A1' := PA P (n + 1) s1) (held_WA _ _ _) (held_PA P n s) (fun S hp => HS.out S _ hp)).mono ?_
  rintro e w3 ⟨rfl, hA2⟩
  have HEND := Lib.hid (HJ.out _ _ _ hA2)
  clear hA2 hT2 d0 d1 d2 d3 d4
  go_wp2_with fail
  go_ret
  exact ⟨rfl, HEND.out⟩
set_option maxHeartbeats 4000000 in
theorem call_free (P B n : Nat) (s : Pst) (U : Nat → Prop) (w0 w : World) (K a b nn : Int) (body : ByteArray) (h : Two (PA P n s) (WA B s.L s.last) U w0 w)
    (s1 : Pst) (hs : ∀ S w, PostSt S w P n s → Calls Try.prog 17 #[.pointer (some ⟨P, 0, none⟩), .int .i64 a, .int .i64 b] w fun e w' => e = .returned (.tuple #[]) ∧ Kept S w w' ∧ PostSt (Gr S w w') w' P n s1)
    (hK : (IntKind.u64.wrap K).tmod 6 = 5) :
    Calls Try.prog 13 #[.pointer (some ⟨B, 0, none⟩), .pointer (some ⟨P, 0, none⟩), .agg #[.int .i64 K, .int .i64 a, .int .i64 b, .int .i64 nn, .string body]] w fun e w' => e = .returned (.bool true) ∧ Two (PA P n s1) (WA B s.L s.last) U w0 w' := by
  obtain ⟨V, hT, hV, _, hJ⟩ := Two.boxed (held_PA P n s) (held_WA B s.L s.last) h (.cells #[.int .i64 K, .int .i64 a, .int .i64 b, .int .i64 nn, .string body] 35)
  have HC := Lib.hid (box_cells (K := K) (a := a) (b := b) (nn := nn) (body := body) hV)
  have HC0 := Lib.hid (box_cell0 (K := K) (a := a) (b := b) (nn := nn) (body := body) hV)
  have HJ := Lib.hid hJ
  clear h hV hJ
  have HS := Lib.hid hs
  clear hs
  go_enter Try.func13, Try.ntmps13
  go_wp2_with fail
  obtain ⟨W, hW⟩ : ∃ W, W = w.alloc (.cells #[.int .i64 K, .int .i64 a, .int .i64 b, .int .i64 nn, .string body] 35) := ⟨_, rfl⟩
  rw [← hW] at hT HC HC0 HJ ⊢
  obtain ⟨X, hX⟩ : ∃ X, X = w.heap.size := ⟨_, rfl⟩
  rw [← hX] at HC HC0 ⊢
  clear hW hX
  obtain ⟨v0, q1, _, q3, q4, q5⟩ := way_list hT
  have HTE := Lib.hid (fun e : Ext W.heap.size W => Two.below (held_PA _ _ _) (held_WA _ _ _) hT e.h)
  have hc0 : ∀ e : Ext W.heap.size W, e.x.cell? ⟨B, 0, none⟩ = some v0 := fun e => (e.h.cell (p := ⟨B, 0, none⟩) q4).trans q1
  have hc3 : ∀ e : Ext W.heap.size W, e.x.cell? ⟨X, 3, none⟩ = some (.int .i64 nn) := fun e => (HC.out _ _ _ (HTE.out e)).2.2.1
  have hat : ∀ e : Ext W.heap.size W, Calls Try.prog 29 #[v0, .int .i64 nn] e.x fun x w' => x = .returned (.int .i64 (fndI nn s.L)) ∧ e.x = w' := fun e => by
    have h := at_any v0 s.L nn e.x (pk_below q3 e.h) (by omega)
    skip
    exact h
  have HAT := Lib.hid hat
  have HT := Lib.hid hT
  clear hat q1 q3 q4 hT
  refine wp_region_below W.heap.size (by kernel_rfl) (by kernel_rfl) ?_
  repeat (go_big_quiet_step ((go_at_call 29; rename_i e; with_reducible exact below_call_same e (HAT.out e))))
  refine wpQuiet_nil ?_
  intro w2 hb2
  have hT2 := Two.below (held_PA _ _ _) (held_WA _ _ _) HT.out hb2
  have d0 := HC0.out _ _ _ hT2
  obtain ⟨d1, d2, d3, d4⟩ := HC.out _ _ _ hT2
  clear hc0 hc3 hb2
  obtain ⟨f, hf⟩ : ∃ f, f = fndI nn s.L := ⟨_, rfl⟩
  rw [← hf]
  clear hf
  go_wp2_with fail
  refine (hT2.first (A1' := PA P n s1) (held_WA _ _ _) (held_PA P n s) (fun S hp => HS.out S _ hp)).mono ?_
  rintro e w3 ⟨rfl, hA2⟩
  have HEND := Lib.hid (HJ.out _ _ _ hA2)
  clear hA2 hT2 d0 d1 d2 d3 d4
  go_wp2_with fail
  go_ret
  exact ⟨rfl, HEND.out⟩
end Go.Proofs.Ytocpneliofjabaa
