/-
  ONE CALL ON BOTH (veneerlaw21.do).
-/
import Derived.Test.YtocpneliofjabaaL2
namespace Go.Proofs.Ytocpneliofjabaa
open Go.RowKit
set_option maxRecDepth 100000

/-- What a box of five holds, in every later world that keeps it. -/
theorem box_cells {V : Nat → Prop} {w : World} {K a b nn : Int} {body : ByteArray} (hV : ¬ V w.heap.size) :
    ∀ A1 A2 w', Two A1 A2 V (w.alloc (.cells #[.int .i64 K, .int .i64 a, .int .i64 b, .int .i64 nn, .string body] 35)) w' →
      w'.cell? ⟨w.heap.size, 1, none⟩ = some (.int .i64 a) ∧ w'.cell? ⟨w.heap.size, 2, none⟩ = some (.int .i64 b) ∧ w'.cell? ⟨w.heap.size, 3, none⟩ = some (.int .i64 nn) ∧ w'.cell? ⟨w.heap.size, 4, none⟩ = some (.string body) := fun A1 A2 w' h => by
  have hb := h.kept.block w.heap.size (by simp) hV
  have hn := Go.Deep.blk_alloc_new w (.cells #[.int .i64 K, .int .i64 a, .int .i64 b, .int .i64 nn, .string body] 35)
  have hc : ∀ j, w'.cell? ⟨w.heap.size, j, none⟩ = (#[.int .i64 K, .int .i64 a, .int .i64 b, .int .i64 nn, .string body] : Array Value)[j]? := fun j => cell_of_row w' w.heap.size j _ 35 (0, 0) (hb.trans hn)
  exact ⟨hc 1, hc 2, hc 3, hc 4⟩

set_option maxHeartbeats 4000000 in
theorem do_send (P R n : Nat) (s : Pst) (r : Rst) (U : Nat → Prop) (w0 w : World) (K a b nn : Int) (body : ByteArray) (ha : i64r a) (hb : i64r b) (h : Two (PA P n s) (RA R r) U w0 w) (hR : Rel s r) (hl : s.last < 1000000)
    (hK : (IntKind.u64.wrap K).tmod 6 = 0) :
    Calls Try.prog 8 #[.pointer (some ⟨P, 0, none⟩), .pointer (some ⟨R, 0, none⟩), .agg #[.int .i64 K, .int .i64 a, .int .i64 b, .int .i64 nn, .string body]] w fun e w' => e = .returned (.bool true) ∧ Two (PA P n (s.send a b body)) (RA R (r.send a b body)) U w0 w' := by
  obtain ⟨V, hT, hV, _, hJ⟩ := Two.boxed (held_PA P n s) (held_RA R r) h (.cells #[.int .i64 K, .int .i64 a, .int .i64 b, .int .i64 nn, .string body] 35)
  have hf : s.Fine := by obtain ⟨S, _, h1, _⟩ := h; exact PostSt.fine h1
  have HC := Lib.hid (box_cells (K := K) (a := a) (b := b) (nn := nn) (body := body) hV)
  have HJ := Lib.hid hJ
  have HR := Lib.hid hR
  have HF := Lib.hid hf
  have HA := Lib.hid ha
  have HB := Lib.hid hb
  clear h hV hJ hR hf ha hb
  have hl2 : r.ever < 1000000 := by have := HR.out.last; omega
  have HL2 := Lib.hid hl2
  clear hl2
  have hEQ := HR.out.sendN HF.out a b
  have HEQ := Lib.hid hEQ
  clear hEQ
  go_enter Try.func8, Try.ntmps8
  go_wp2_with fail
  obtain ⟨W, hW⟩ : ∃ W, W = w.alloc (.cells #[.int .i64 K, .int .i64 a, .int .i64 b, .int .i64 nn, .string body] 35) := ⟨_, rfl⟩
  rw [← hW] at hT HC HJ ⊢
  obtain ⟨X, hX⟩ : ∃ X, X = w.heap.size := ⟨_, rfl⟩
  rw [← hX] at HC ⊢
  clear hW hX
  have hT0 := hT.drew (held_PA P n s) (held_RA R r)
  clear hT
  go_region_held3 (fun w' => w'.cell? ⟨X, 1, none⟩ = some (.int .i64 a) ∧ w'.cell? ⟨X, 2, none⟩ = some (.int .i64 b) ∧ w'.cell? ⟨X, 3, none⟩ = some (.int .i64 nn) ∧ w'.cell? ⟨X, 4, none⟩ = some (.string body))
    (first
      | exact HC.out _ _ _ hB2
      | exact HC.out _ _ _ hA2
      | exact HC.out _ _ _ hT0
      | go_keep)
    (first
      | (go_at_call 14; refine (hT0.first (A1' := PA P n (s.send a b body)) (held_RA R r) (held_PA P n s) (fun S hp => send_any S P n s a b body HA.out HB.out _ hp hl)).mono ?_; rintro e w2 ⟨rfl, hA2⟩)
      | (go_at_call 21; refine (hA2.second (A2' := RA R (r.send a b body)) (held_PA P n (s.send a b body)) (held_RA R r) (fun S hp => rsend_any S R r a b body HA.out HB.out _ hp HL2.out)).mono ?_; rintro e w3 ⟨rfl, hB2⟩
         rw [← HEQ.out]))
  have HEND := Lib.hid (HJ.out _ _ _ hB2)
  clear hA2 hB2 hT0
  go_wp2_with fail
  go_ret
  exact ⟨rfl, HEND.out⟩
set_option maxHeartbeats 4000000 in
theorem do_drop (P R n : Nat) (s : Pst) (r : Rst) (U : Nat → Prop) (w0 w : World) (K a b nn : Int) (body : ByteArray) (ha : i64r a) (hb : i64r b) (h : Two (PA P n s) (RA R r) U w0 w) (hR : Rel s r) 
    (hK : (IntKind.u64.wrap K).tmod 6 = 2) :
    Calls Try.prog 8 #[.pointer (some ⟨P, 0, none⟩), .pointer (some ⟨R, 0, none⟩), .agg #[.int .i64 K, .int .i64 a, .int .i64 b, .int .i64 nn, .string body]] w fun e w' => e = .returned (.bool true) ∧ Two (PA P n (s.drop nn)) (RA R (r.drop nn)) U w0 w' := by
  obtain ⟨V, hT, hV, _, hJ⟩ := Two.boxed (held_PA P n s) (held_RA R r) h (.cells #[.int .i64 K, .int .i64 a, .int .i64 b, .int .i64 nn, .string body] 35)
  have hf : s.Fine := by obtain ⟨S, _, h1, _⟩ := h; exact PostSt.fine h1
  have HC := Lib.hid (box_cells (K := K) (a := a) (b := b) (nn := nn) (body := body) hV)
  have HJ := Lib.hid hJ
  have HR := Lib.hid hR
  have HF := Lib.hid hf
  have HA := Lib.hid ha
  have HB := Lib.hid hb
  clear h hV hJ hR hf ha hb
  have hEQ := HR.out.dropN nn
  have HEQ := Lib.hid hEQ
  clear hEQ
  go_enter Try.func8, Try.ntmps8
  go_wp2_with fail
  obtain ⟨W, hW⟩ : ∃ W, W = w.alloc (.cells #[.int .i64 K, .int .i64 a, .int .i64 b, .int .i64 nn, .string body] 35) := ⟨_, rfl⟩
  rw [← hW] at hT HC HJ ⊢
  obtain ⟨X, hX⟩ : ∃ X, X = w.heap.size := ⟨_, rfl⟩
  rw [← hX] at HC ⊢
  clear hW hX
  have hT0 := hT.drew (held_PA P n s) (held_RA R r)
  clear hT
  go_region_held3 (fun w' => w'.cell? ⟨X, 1, none⟩ = some (.int .i64 a) ∧ w'.cell? ⟨X, 2, none⟩ = some (.int .i64 b) ∧ w'.cell? ⟨X, 3, none⟩ = some (.int .i64 nn) ∧ w'.cell? ⟨X, 4, none⟩ = some (.string body))
    (first
      | exact HC.out _ _ _ hB2
      | exact HC.out _ _ _ hA2
      | exact HC.out _ _ _ hT0
      | go_keep)
    (first
      | (go_at_call 19; refine (hT0.first (A1' := PA P n (s.drop nn)) (held_RA R r) (held_PA P n s) (fun S hp => drop_any S P n s nn _ hp)).mono ?_; rintro e w2 ⟨rfl, hA2⟩)
      | (go_at_call 23; refine (hA2.second (A2' := RA R (r.drop nn)) (held_PA P n (s.drop nn)) (held_RA R r) (fun S hp => rdrop_any S R r nn _ hp)).mono ?_; rintro e w3 ⟨rfl, hB2⟩
         rw [← HEQ.out]))
  have HEND := Lib.hid (HJ.out _ _ _ hB2)
  clear hA2 hB2 hT0
  go_wp2_with fail
  go_ret
  exact ⟨rfl, HEND.out⟩
set_option maxHeartbeats 4000000 in
theorem do_double (P R n : Nat) (s : Pst) (r : Rst) (U : Nat → Prop) (w0 w : World) (K a b nn : Int) (body : ByteArray) (ha : i64r a) (hb : i64r b) (h : Two (PA P n s) (RA R r) U w0 w) (hR : Rel s r) (hl : s.last < 1000000)
    (hK : (IntKind.u64.wrap K).tmod 6 = 3) :
    Calls Try.prog 8 #[.pointer (some ⟨P, 0, none⟩), .pointer (some ⟨R, 0, none⟩), .agg #[.int .i64 K, .int .i64 a, .int .i64 b, .int .i64 nn, .string body]] w fun e w' => e = .returned (.bool true) ∧ Two (PA P n (s.dbl nn)) (RA R (r.dbl nn)) U w0 w' := by
  obtain ⟨V, hT, hV, _, hJ⟩ := Two.boxed (held_PA P n s) (held_RA R r) h (.cells #[.int .i64 K, .int .i64 a, .int .i64 b, .int .i64 nn, .string body] 35)
  have hf : s.Fine := by obtain ⟨S, _, h1, _⟩ := h; exact PostSt.fine h1
  have HC := Lib.hid (box_cells (K := K) (a := a) (b := b) (nn := nn) (body := body) hV)
  have HJ := Lib.hid hJ
  have HR := Lib.hid hR
  have HF := Lib.hid hf
  have HA := Lib.hid ha
  have HB := Lib.hid hb
  clear h hV hJ hR hf ha hb
  have hl2 : r.ever < 1000000 := by have := HR.out.last; omega
  have HL2 := Lib.hid hl2
  clear hl2
  have hEQ := HR.out.dblN HF.out nn
  have HEQ := Lib.hid hEQ
  clear hEQ
  go_enter Try.func8, Try.ntmps8
  go_wp2_with fail
  obtain ⟨W, hW⟩ : ∃ W, W = w.alloc (.cells #[.int .i64 K, .int .i64 a, .int .i64 b, .int .i64 nn, .string body] 35) := ⟨_, rfl⟩
  rw [← hW] at hT HC HJ ⊢
  obtain ⟨X, hX⟩ : ∃ X, X = w.heap.size := ⟨_, rfl⟩
  rw [← hX] at HC ⊢
  clear hW hX
  have hT0 := hT.drew (held_PA P n s) (held_RA R r)
  clear hT
  go_region_held3 (fun w' => w'.cell? ⟨X, 1, none⟩ = some (.int .i64 a) ∧ w'.cell? ⟨X, 2, none⟩ = some (.int .i64 b) ∧ w'.cell? ⟨X, 3, none⟩ = some (.int .i64 nn) ∧ w'.cell? ⟨X, 4, none⟩ = some (.string body))
    (first
      | exact HC.out _ _ _ hB2
      | exact HC.out _ _ _ hA2
      | exact HC.out _ _ _ hT0
      | go_keep)
    (first
      | (go_at_call 20; refine (hT0.first (A1' := PA P n (s.dbl nn)) (held_RA R r) (held_PA P n s) (fun S hp => double_any S P n s nn _ hp hl)).mono ?_; rintro e w2 ⟨rfl, hA2⟩)
      | (go_at_call 24; refine (hA2.second (A2' := RA R (r.dbl nn)) (held_PA P n (s.dbl nn)) (held_RA R r) (fun S hp => rdouble_any S R r nn _ hp HL2.out)).mono ?_; rintro e w3 ⟨rfl, hB2⟩
         rw [← HEQ.out]))
  have HEND := Lib.hid (HJ.out _ _ _ hB2)
  clear hA2 hB2 hT0
  go_wp2_with fail
  go_ret
  exact ⟨rfl, HEND.out⟩
end Go.Proofs.Ytocpneliofjabaa
