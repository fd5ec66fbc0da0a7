/-
  ONE CALL ON BOTH: Take, Block, Free; all of them.
-/
import Derived.Test.YtocpneliofjabaaL3
namespace Go.Proofs.Ytocpneliofjabaa
open Go.RowKit
set_option maxRecDepth 100000

set_option maxHeartbeats 4000000 in
theorem do_take (P R n : Nat) (s : Pst) (r : Rst) (U : Nat → Prop) (w0 w : World) (K a b nn : Int) (body : ByteArray) (h : Two (PA P n s) (RA R r) U w0 w) (hR : Rel s r)
    (hK : (IntKind.u64.wrap K).tmod 6 = 1) :
    Calls Try.prog 8 #[.pointer (some ⟨P, 0, none⟩), .pointer (some ⟨R, 0, none⟩), .agg #[.int .i64 K, .int .i64 a, .int .i64 b, .int .i64 nn, .string body]] w fun e w' => e = .returned (.bool true) ∧ Two (PA P n (s.take nn)) (RA R (r.take nn)) U w0 w' := by
  obtain ⟨V, hT, hV, _, hJ⟩ := Two.boxed (held_PA P n s) (held_RA R r) h (.cells #[.int .i64 K, .int .i64 a, .int .i64 b, .int .i64 nn, .string body] 35)
  have HC := Lib.hid (box_cells (K := K) (a := a) (b := b) (nn := nn) (body := body) hV)
  have HJ := Lib.hid hJ
  have HE1 := Lib.hid (hR.takes nn)
  have HE2 := Lib.hid (hR.takeX nn)
  clear h hV hJ hR
  go_enter Try.func8, Try.ntmps8
  go_wp2_with fail
  obtain ⟨W, hW⟩ : ∃ W, W = w.alloc (.cells #[.int .i64 K, .int .i64 a, .int .i64 b, .int .i64 nn, .string body] 35) := ⟨_, rfl⟩
  rw [← hW] at hT HC HJ ⊢
  obtain ⟨X, hX⟩ : ∃ X, X = w.heap.size := ⟨_, rfl⟩
  rw [← hX] at HC ⊢
  clear hW hX
  refine (hT.first (A1' := PA P n (s.take nn)) (held_RA R r) (held_PA P n s) (fun S hp => take_any S P n s nn _ hp)).mono ?_
  rintro e w2 ⟨rfl, hA2⟩
  obtain ⟨t, ht⟩ : ∃ t, t = s.takes nn := ⟨_, rfl⟩
  obtain ⟨x, hx⟩ : ∃ x, x = s.takeX nn := ⟨_, rfl⟩
  rw [← ht, ← hx]
  have HT := Lib.hid (ht.trans HE1.out)
  have HX := Lib.hid (hx.trans HE2.out)
  clear ht hx HE1 HE2 hT
  unfold pka
  obtain ⟨V2, hT2, hV2, _, hJ2⟩ := Two.boxed (held_PA P n (s.take nn)) (held_RA R r) hA2 (.cells #[.int .i64 x.id, .int .i64 x.fr, .int .i64 x.to, .string x.body] 49)
  have hc2 := HC.out _ _ _ (hJ2 _ _ _ hT2)
  obtain ⟨_, _, c3, _⟩ := hc2
  have HJ2 := Lib.hid hJ2
  clear hJ2
  go_wp2_with fail
  refine (hT2.second (A2' := RA R (r.take nn)) (held_PA P n (s.take nn)) (held_RA R r) (fun S hp => rtake_any S R r nn _ hp)).mono ?_
  rintro e w3 ⟨rfl, hB2⟩
  rw [← HT.out, ← HX.out]
  have hrow : PkRow w3 w2.heap.size x := World.rowIs.of_block (rowIs_lit w2 [.int .i64 x.id, .int .i64 x.fr, .int .i64 x.to, .string x.body] 49 4 _ rfl) (hB2.kept.block _ (by simp) hV2)
  have hrl := hrow.lt
  have HROW := Lib.hid hrow
  have HEND := Lib.hid (HJ.out _ _ _ (HJ2.out _ _ _ (Two.below (held_PA _ _ _) (held_RA _ _) hB2 ((Below.refl _ _).alloc (Nat.le_refl _) (.cells #[.int .i64 x.id, .int .i64 x.fr, .int .i64 x.to, .string x.body] 49)))))
  have r0 : w3.cell? ⟨w2.heap.size, 0, none⟩ = some (.int .i64 x.id) := hrow.cell (by omega)
  have r1 : w3.cell? ⟨w2.heap.size, 1, none⟩ = some (.int .i64 x.fr) := hrow.cell (by omega)
  have r2 : w3.cell? ⟨w2.heap.size, 2, none⟩ = some (.int .i64 x.to) := hrow.cell (by omega)
  have r3 : w3.cell? ⟨w2.heap.size, 3, none⟩ = some (.string x.body) := hrow.cell (by omega)
  unfold pka
  clear hB2 hT2 hA2 hV2 hrow c3
  go_wp2_with fail
  go_ret
  exact ⟨rfl, HEND.out⟩
set_option maxHeartbeats 4000000 in
theorem do_block (P R n : Nat) (s : Pst) (r : Rst) (U : Nat → Prop) (w0 w : World) (K a b nn : Int) (body : ByteArray) (ha : i64r a) (hb : i64r b) (h : Two (PA P n s) (RA R r) U w0 w) (hR : Rel s r) 
    (hn : n ≤ 1000000) (hM : r.M.length ≤ 900000) (hK : (IntKind.u64.wrap K).tmod 6 = 4) :
    Calls Try.prog 8 #[.pointer (some ⟨P, 0, none⟩), .pointer (some ⟨R, 0, none⟩), .agg #[.int .i64 K, .int .i64 a, .int .i64 b, .int .i64 nn, .string body]] w fun e w' => e = .returned (.bool true) ∧ Two (PA P (n + 1) (s.blk a b)) (RA R (r.blk a b)) U w0 w' := by
  obtain ⟨V, hT, hV, _, hJ⟩ := Two.boxed (held_PA P n s) (held_RA R r) h (.cells #[.int .i64 K, .int .i64 a, .int .i64 b, .int .i64 nn, .string body] 35)
  have HC := Lib.hid (box_cells (K := K) (a := a) (b := b) (nn := nn) (body := body) hV)
  have HJ := Lib.hid hJ
  have HE1 := Lib.hid ((hR.blk a b).bl a b)
  have HE2 := Lib.hid ((hR.blk a b).bl b a)
  have HA := Lib.hid ha
  have HB := Lib.hid hb
  clear h hV hJ hR ha hb
  go_enter Try.func8, Try.ntmps8
  go_wp2_with fail
  obtain ⟨W, hW⟩ : ∃ W, W = w.alloc (.cells #[.int .i64 K, .int .i64 a, .int .i64 b, .int .i64 nn, .string body] 35) := ⟨_, rfl⟩
  rw [← hW] at hT HC HJ ⊢
  obtain ⟨X, hX⟩ : ∃ X, X = w.heap.size := ⟨_, rfl⟩
  rw [← hX] at HC ⊢
  clear hW hX
  refine (hT.first (A1' := PA P (n + 1) (s.blk a b)) (held_RA R r) (held_PA P n s) (fun S hp => block_any S P n s a b HA.out HB.out _ hp hn)).mono ?_
  rintro e w2 ⟨rfl, hA2⟩
  obtain ⟨c1, c2, _, _⟩ := HC.out _ _ _ hA2
  clear hT
  go_wp2_with fail
  refine (hA2.second (A2' := RA R (r.blk a b)) (held_PA P (n + 1) (s.blk a b)) (held_RA R r) (fun S hp => rblock_any S R r a b _ hp hM)).mono ?_
  rintro e w3 ⟨rfl, hB2⟩
  have HB2 := Lib.hid hB2
  have hcell : ∀ e : Ext w3.heap.size w3, e.x.cell? ⟨X, 1, none⟩ = some (.int .i64 a) ∧ e.x.cell? ⟨X, 2, none⟩ = some (.int .i64 b) := fun e => by
    have h := HC.out _ _ _ (Two.below (held_PA _ _ _) (held_RA _ _) hB2 e.h)
    exact ⟨h.1, h.2.1⟩
  have hc1 := fun e => (hcell e).1
  have hc2 := fun e => (hcell e).2
  have hq1 : ∀ e : Ext w3.heap.size w3, Calls Try.prog 16 #[.pointer (some ⟨P, 0, none⟩), .int .i64 a, .int .i64 b] e.x fun x w' => x = .returned (.bool ((s.blk a b).bl a b)) ∧ Below e.x.heap.size e.x w' := fun e => by
    obtain ⟨S, T, h1, _⟩ := Two.below (held_PA _ _ _) (held_RA _ _) hB2 e.h
    exact blocked_any S P _ _ a b HA.out HB.out _ h1
  have hq2 : ∀ e : Ext w3.heap.size w3, Calls Try.prog 16 #[.pointer (some ⟨P, 0, none⟩), .int .i64 b, .int .i64 a] e.x fun x w' => x = .returned (.bool ((s.blk a b).bl b a)) ∧ Below e.x.heap.size e.x w' := fun e => by
    obtain ⟨S, T, h1, _⟩ := Two.below (held_PA _ _ _) (held_RA _ _) hB2 e.h
    exact blocked_any S P _ _ b a HB.out HA.out _ h1
  have hr1 : ∀ e : Ext w3.heap.size w3, Calls Try.prog 27 #[.pointer (some ⟨R, 0, none⟩), .int .i64 a, .int .i64 b] e.x fun x w' => x = .returned (.bool ((s.blk a b).bl a b)) ∧ e.x = w' := fun e => by
    obtain ⟨S, T, _, h1, _⟩ := Two.below (held_PA _ _ _) (held_RA _ _) hB2 e.h
    rw [HE1.out]
    exact rblocked_any T R _ a b _ h1
  have hr2 : ∀ e : Ext w3.heap.size w3, Calls Try.prog 27 #[.pointer (some ⟨R, 0, none⟩), .int .i64 b, .int .i64 a] e.x fun x w' => x = .returned (.bool ((s.blk a b).bl b a)) ∧ e.x = w' := fun e => by
    obtain ⟨S, T, _, h1, _⟩ := Two.below (held_PA _ _ _) (held_RA _ _) hB2 e.h
    rw [HE2.out]
    exact rblocked_any T R _ b a _ h1
  generalize (s.blk a b).bl a b = q1 at *
  generalize (s.blk a b).bl b a = q2 at *
  have HQ1 := Lib.hid hq1
  have HQ2 := Lib.hid hq2
  have HR1 := Lib.hid hr1
  have HR2 := Lib.hid hr2
  clear hcell hq1 hq2 hr1 hr2 hA2 hB2 c1 c2
  go_wp2_with fail
  refine wp_region_below w3.heap.size (by kernel_rfl) (by kernel_rfl) ?_
  repeat (go_big_quiet_step ((first
    | (go_at_call 16; rename_i e; with_reducible exact below_call (Nat.le_refl _) e (HQ1.out e))
    | (go_at_call 16; rename_i e; with_reducible exact below_call (Nat.le_refl _) e (HQ2.out e))
    | (go_at_call 27; rename_i e; with_reducible exact below_call_same e (HR1.out e))
    | (go_at_call 27; rename_i e; with_reducible exact below_call_same e (HR2.out e)))))
  refine wpQuiet_nil ?_
  intro w4 hb4
  clear hc1 hc2
  go_wp2_with fail
  go_ret
  exact ⟨rfl, HJ.out _ _ _ (Two.below (held_PA _ _ _) (held_RA _ _) HB2.out hb4)⟩
set_option maxHeartbeats 4000000 in
theorem do_free (P R n : Nat) (s : Pst) (r : Rst) (U : Nat → Prop) (w0 w : World) (K a b nn : Int) (body : ByteArray) (ha : i64r a) (hb : i64r b) (h : Two (PA P n s) (RA R r) U w0 w) (hR : Rel s r) 
    (hn : n ≤ 1000000) (hK : (IntKind.u64.wrap K).tmod 6 = 5) :
    Calls Try.prog 8 #[.pointer (some ⟨P, 0, none⟩), .pointer (some ⟨R, 0, none⟩), .agg #[.int .i64 K, .int .i64 a, .int .i64 b, .int .i64 nn, .string body]] w fun e w' => e = .returned (.bool true) ∧ Two (PA P n (s.fre a b)) (RA R (r.fre a b)) U w0 w' := by
  obtain ⟨V, hT, hV, _, hJ⟩ := Two.boxed (held_PA P n s) (held_RA R r) h (.cells #[.int .i64 K, .int .i64 a, .int .i64 b, .int .i64 nn, .string body] 35)
  have HC := Lib.hid (box_cells (K := K) (a := a) (b := b) (nn := nn) (body := body) hV)
  have HJ := Lib.hid hJ
  have HE1 := Lib.hid ((hR.fre a b).bl a b)
  have HE2 := Lib.hid ((hR.fre a b).bl b a)
  have HA := Lib.hid ha
  have HB := Lib.hid hb
  clear h hV hJ hR ha hb
  go_enter Try.func8, Try.ntmps8
  go_wp2_with fail
  obtain ⟨W, hW⟩ : ∃ W, W = w.alloc (.cells #[.int .i64 K, .int .i64 a, .int .i64 b, .int .i64 nn, .string body] 35) := ⟨_, rfl⟩
  rw [← hW] at hT HC HJ ⊢
  obtain ⟨X, hX⟩ : ∃ X, X = w.heap.size := ⟨_, rfl⟩
  rw [← hX] at HC ⊢
  clear hW hX
  refine (hT.first (A1' := PA P n (s.fre a b)) (held_RA R r) (held_PA P n s) (fun S hp => free_any S P n s a b HA.out HB.out _ hp hn)).mono ?_
  rintro e w2 ⟨rfl, hA2⟩
  obtain ⟨c1, c2, _, _⟩ := HC.out _ _ _ hA2
  clear hT
  go_wp2_with fail
  refine (hA2.second (A2' := RA R (r.fre a b)) (held_PA P n (s.fre a b)) (held_RA R r) (fun S hp => rfree_any S R r a b _ hp)).mono ?_
  rintro e w3 ⟨rfl, hB2⟩
  have HB2 := Lib.hid hB2
  have hcell : ∀ e : Ext w3.heap.size w3, e.x.cell? ⟨X, 1, none⟩ = some (.int .i64 a) ∧ e.x.cell? ⟨X, 2, none⟩ = some (.int .i64 b) := fun e => by
    have h := HC.out _ _ _ (Two.below (held_PA _ _ _) (held_RA _ _) hB2 e.h)
    exact ⟨h.1, h.2.1⟩
  have hc1 := fun e => (hcell e).1
  have hc2 := fun e => (hcell e).2
  have hq1 : ∀ e : Ext w3.heap.size w3, Calls Try.prog 16 #[.pointer (some ⟨P, 0, none⟩), .int .i64 a, .int .i64 b] e.x fun x w' => x = .returned (.bool ((s.fre a b).bl a b)) ∧ Below e.x.heap.size e.x w' := fun e => by
    obtain ⟨S, T, h1, _⟩ := Two.below (held_PA _ _ _) (held_RA _ _) hB2 e.h
    exact blocked_any S P _ _ a b HA.out HB.out _ h1
  have hq2 : ∀ e : Ext w3.heap.size w3, Calls Try.prog 16 #[.pointer (some ⟨P, 0, none⟩), .int .i64 b, .int .i64 a] e.x fun x w' => x = .returned (.bool ((s.fre a b).bl b a)) ∧ Below e.x.heap.size e.x w' := fun e => by
    obtain ⟨S, T, h1, _⟩ := Two.below (held_PA _ _ _) (held_RA _ _) hB2 e.h
    exact blocked_any S P _ _ b a HB.out HA.out _ h1
  have hr1 : ∀ e : Ext w3.heap.size w3, Calls Try.prog 27 #[.pointer (some ⟨R, 0, none⟩), .int .i64 a, .int .i64 b] e.x fun x w' => x = .returned (.bool ((s.fre a b).bl a b)) ∧ e.x = w' := fun e => by
    obtain ⟨S, T, _, h1, _⟩ := Two.below (held_PA _ _ _) (held_RA _ _) hB2 e.h
    rw [HE1.out]
    exact rblocked_any T R _ a b _ h1
  have hr2 : ∀ e : Ext w3.heap.size w3, Calls Try.prog 27 #[.pointer (some ⟨R, 0, none⟩), .int .i64 b, .int .i64 a] e.x fun x w' => x = .returned (.bool ((s.fre a b).bl b a)) ∧ e.x = w' := fun e => by
    obtain ⟨S, T, _, h1, _⟩ := Two.below (held_PA _ _ _) (held_RA _ _) hB2 e.h
    rw [HE2.out]
    exact rblocked_any T R _ b a _ h1
  generalize (s.fre a b).bl a b = q1 at *
  generalize (s.fre a b).bl b a = q2 at *
  have HQ1 := Lib.hid hq1
  have HQ2 := Lib.hid hq2
  have HR1 := Lib.hid hr1
  have HR2 := Lib.hid hr2
  clear hcell hq1 hq2 hr1 hr2 hA2 hB2 c1 c2
  go_wp2_with fail
  refine wp_region_below w3.heap.size (by kernel_rfl) (by kernel_rfl) ?_
  repeat (go_big_quiet_step ((first
    | (go_at_call 16; rename_i e; with_reducible exact below_call (Nat.le_refl _) e (HQ1.out e))
    | (go_at_call 16; rename_i e; with_reducible exact below_call (Nat.le_refl _) e (HQ2.out e))
    | (go_at_call 27; rename_i e; with_reducible exact below_call_same e (HR1.out e))
    | (go_at_call 27; rename_i e; with_reducible exact below_call_same e (HR2.out e)))))
  refine wpQuiet_nil ?_
  intro w4 hb4
  clear hc1 hc2
  go_wp2_with fail
  go_ret
  exact ⟨rfl, HJ.out _ _ _ (Two.below (held_PA _ _ _) (held_RA _ _) HB2.out hb4)⟩

theorem kind_six (K : Int) : ∃ k : Nat, k < 6 ∧ (IntKind.u64.wrap K).tmod 6 = (k : Int) := by
  have e : IntKind.u64.wrap K = K % 18446744073709551616 := by simp [IntKind.wrap, IntKind.bits, IntKind.signed]
  rw [e, Int.tmod_eq_emod_of_nonneg (by omega)]
  exact ⟨(K % 18446744073709551616 % 6).toNat, by omega, by omega⟩
/-- A call's data: its kind by the remainder. -/
structure DcOf (K : Int) (d : Dc) : Prop where
  k6 : d.k < 6
  kind : (IntKind.u64.wrap K).tmod 6 = (d.k : Int)
  a : i64r d.a
  b : i64r d.b
def dcv (K : Int) (d : Dc) : Value := .agg #[.int .i64 K, .int .i64 d.a, .int .i64 d.b, .int .i64 d.n, .string d.body]
/-- veneerlaw21.do(p, r, d). -/
theorem do_any (P R n : Nat) (s : Pst) (r : Rst) (U : Nat → Prop) (w0 w : World) (K : Int) (d : Dc) (hd : DcOf K d) (h : Two (PA P n s) (RA R r) U w0 w) (hR : Rel s r) (hl : s.last < 1000000) (hn : n ≤ 1000000) (hM : r.M.length ≤ 900000) :
    Calls Try.prog 8 #[.pointer (some ⟨P, 0, none⟩), .pointer (some ⟨R, 0, none⟩), dcv K d] w fun e w' => e = .returned (.bool true) ∧ Two (PA P (n + 1) (s.doo d)) (RA R (r.doo d)) U w0 w' := by
  obtain ⟨k, a, b, nn, body⟩ := d
  obtain ⟨k6, hk, ha, hb⟩ := hd
  match k, k6, hk with
  | 0, _, hk => exact (do_send P R n s r U w0 w K a b nn body ha hb h hR hl hk).mono fun e w' ⟨h1, h2⟩ => ⟨h1, h2.n1 (Nat.le_succ n)⟩
  | 1, _, hk => exact (do_take P R n s r U w0 w K a b nn body h hR hk).mono fun e w' ⟨h1, h2⟩ => ⟨h1, h2.n1 (Nat.le_succ n)⟩
  | 2, _, hk => exact (do_drop P R n s r U w0 w K a b nn body ha hb h hR hk).mono fun e w' ⟨h1, h2⟩ => ⟨h1, h2.n1 (Nat.le_succ n)⟩
  | 3, _, hk => exact (do_double P R n s r U w0 w K a b nn body ha hb h hR hl hk).mono fun e w' ⟨h1, h2⟩ => ⟨h1, h2.n1 (Nat.le_succ n)⟩
  | 4, _, hk => exact do_block P R n s r U w0 w K a b nn body ha hb h hR hn hM hk
  | 5, _, hk => exact (do_free P R n s r U w0 w K a b nn body ha hb h hR hn hk).mono fun e w' ⟨h1, h2⟩ => ⟨h1, h2.n1 (Nat.le_succ n)⟩
  | k + 6, h6, _ => exact absurd (show k + 6 < 6 from h6) (by omega)
end Go.Proofs.Ytocpneliofjabaa
