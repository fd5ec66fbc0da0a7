/-
  THE POST's STATE AS DATA, and in memory; the pair of two addresses; whether two are blocked; a new post.
-/
import Derived.Test.YtocpneliofjabaaSt
import Derived.Lib.Hide
namespace Go.Proofs.Ytocpneliofjabaa
open Go.RowKit
set_option maxRecDepth 100000

/-- A post's state. -/
structure Pst where
  most : Int
  last : Int
  L : List Pk
  D : Int → Int → Bool
def Pst.bl (s : Pst) (a b : Int) : Bool := s.D (min a b) (max a b)
structure Pst.Fine (s : Pst) : Prop where
  m1 : 1 ≤ s.most
  m2 : s.most ≤ 256
  l0 : 0 ≤ s.last
  l1 : s.last ≤ 1000000
  len : (s.L.length : Int) ≤ s.last
  room : (s.L.length : Int) ≤ s.most
  pk : ∀ x ∈ s.L, i64r x.id ∧ i64r x.fr ∧ i64r x.to
def r4 (a b c d : Value) (j : Nat) : Value := if j = 0 then a else if j = 1 then b else if j = 2 then c else d

/-- The post lies at P, in the blocks of S. -/
def PostSt (S : Nat → Prop) (w : World) (P n : Nat) (s : Pst) : Prop :=
  ∃ v m, w.rowIs P 58 4 (r4 (.int .i64 s.most) (.int .i64 s.last) v (.map (some m))) ∧ PkOwn 0 w v s.L ∧ MapQ w m n s.D ∧ S P ∧ S m ∧ (∀ g, v.ownBlock = some g → S g ∧ g ≠ P ∧ g ≠ m) ∧ P ≠ m ∧ (∀ i, S i → i < w.heap.size) ∧ s.Fine
theorem PostSt.keep {S : Nat → Prop} {w w' : World} {P n : Nat} {s : Pst} (h : PostSt S w P n s) (hk : ∀ i, S i → w'.heap[i]? = w.heap[i]?) (hs : w.heap.size ≤ w'.heap.size) : PostSt S w' P n s := by
  obtain ⟨v, m, h1, h2, h3, h4, h5, h6, h7, h8, h9⟩ := h
  exact ⟨v, m, h1.of_block (hk P h4), h2.keep (fun k hv => hk k (h6 k hv).1), h3.kept (hk m h5), h4, h5, h6, h7, fun i hi => Nat.lt_of_lt_of_le (h8 i hi) hs, h9⟩
theorem PostSt.below {S : Nat → Prop} {w w' : World} {P n : Nat} {s : Pst} (h : PostSt S w P n s) (hb : Below w.heap.size w w') : PostSt S w' P n s :=
  h.keep (fun i hi => hb.block i (by obtain ⟨v, m, _, _, _, _, _, _, _, h8, _⟩ := h; exact h8 i hi)) hb.size
theorem PostSt.mono {S T : Nat → Prop} {w : World} {P n : Nat} {s : Pst} (h : PostSt S w P n s) (hST : ∀ i, S i → T i) (hT : ∀ i, T i → i < w.heap.size) : PostSt T w P n s := by
  obtain ⟨v, m, h1, h2, h3, h4, h5, h6, h7, h8, h9⟩ := h
  exact ⟨v, m, h1, h2, h3, hST _ h4, hST _ h5, fun g hg => ⟨hST _ (h6 g hg).1, (h6 g hg).2⟩, h7, hT, h9⟩
theorem PostSt.lt {S : Nat → Prop} {w : World} {P n : Nat} {s : Pst} (h : PostSt S w P n s) : ∀ i, S i → i < w.heap.size := let ⟨_, _, _, _, _, _, _, _, _, h8, _⟩ := h; h8
theorem PostSt.fine {S : Nat → Prop} {w : World} {P n : Nat} {s : Pst} (h : PostSt S w P n s) : s.Fine := let ⟨_, _, _, _, _, _, _, _, _, _, h9⟩ := h; h9

theorem zero65 (w : World) : (zeroValue 65).run Try.prog w = .ok (pv 0 0) w := by kernel_rfl
theorem sz65 : (Try.prog.info? 65).map (·.size) = some 2 := by kernel_rfl

set_option maxHeartbeats 1000000 in
/-- pair(a, b). -/
theorem pair_any (a b : Int) (w : World) : Calls Try.prog 33 #[.int .i64 a, .int .i64 b] w fun e w' => e = .returned (pv (min a b) (max a b)) ∧ Below w.heap.size w w' := by
  rcases Int.lt_trichotomy a b with h | rfl | h
  · have h2 : ¬ b ≤ a := by omega
    have e1 : min a b = a := by omega
    have e2 : max a b = b := by omega
    rw [e1, e2]
    clear e1 e2
    go_enter Try.func33, Try.ntmps33
    go_wp2_with fail
    exact bodyPost_ret (results_row (g := w.heap.size) rfl rfl (Go.Deep.blk_alloc_new _ _) Try.underlying65 rfl sz65) rfl ⟨rfl, (Below.refl _ _).alloc (Nat.le_refl _) _⟩
  · rw [show min a a = a by omega, show max a a = a by omega]
    go_enter Try.func33, Try.ntmps33
    go_wp2_with fail
    exact bodyPost_ret (results_row (g := w.heap.size) rfl rfl (Go.Deep.blk_alloc_new _ _) Try.underlying65 rfl sz65) rfl ⟨rfl, (Below.refl _ _).alloc (Nat.le_refl _) _⟩
  · have h2 : ¬ a ≤ b := by omega
    have e1 : min a b = b := by omega
    have e2 : max a b = a := by omega
    rw [e1, e2]
    clear e1 e2
    go_enter Try.func33, Try.ntmps33
    go_wp2_with fail
    exact bodyPost_ret (results_row (g := w.heap.size) rfl rfl (Go.Deep.blk_alloc_new _ _) Try.underlying65 rfl sz65) rfl ⟨rfl, (Below.refl _ _).alloc (Nat.le_refl _) _⟩

theorem i64r_min {a b : Int} (ha : i64r a) (hb : i64r b) : i64r (min a b) := by unfold i64r at *; omega
theorem i64r_max {a b : Int} (ha : i64r a) (hb : i64r b) : i64r (max a b) := by unfold i64r at *; omega
set_option maxHeartbeats 1000000 in
/-- p.Blocked(a, b), no post. -/
theorem blocked_nil (a b : Int) (w : World) : Calls Try.prog 16 #[.pointer none, .int .i64 a, .int .i64 b] w fun e w' => e = .returned (.bool false) ∧ Below w.heap.size w w' := by
  go_enter Try.func16, Try.ntmps16
  go_wp2_with fail
  go_quiet (fail)
  go_wp2_with fail
  go_ret
  exact ⟨rfl, below_drewN (Below.refl _ _) _⟩
set_option maxHeartbeats 1000000 in
/-- p.Blocked(a, b). -/
theorem blocked_any (S : Nat → Prop) (P n : Nat) (s : Pst) (a b : Int) (ha : i64r a) (hb : i64r b) (w : World) (hp : PostSt S w P n s) :
    Calls Try.prog 16 #[.pointer (some ⟨P, 0, none⟩), .int .i64 a, .int .i64 b] w fun e w' => e = .returned (.bool (s.bl a b)) ∧ Below w.heap.size w w' := by
  obtain ⟨v, m, h1, h2, h3, h4, h5, h6, h7, h8, h9⟩ := hp
  have hc : ∀ e : Ext w.heap.size w, e.x.cell? ⟨P, 3, none⟩ = some (.map (some m)) := fun e => by
    rw [e.h.cell (p := ⟨P, 3, none⟩) (h8 P h4), h1.cell (by omega)]
    rfl
  have hl : ∀ e : Ext w.heap.size w, (Instr.lookup 56 (.map (some m)) (pv (min a b) (max a b)) false).run Try.prog e.x = .ok (.int .i64 (if s.bl a b then 1 else 0)) e.x := fun e =>
    (h3.kept (e.h.block m (h8 m h5))).look _ _ (i64r_min ha hb) (i64r_max ha hb)
  clear h1 h2 h3 h6 h7 h8 h9
  cases hq : s.bl a b
  all_goals
    have HQ := Lib.hid hq
    simp only [hq, if_true, Bool.false_eq_true, if_false] at hl
    clear hq
    go_enter Try.func16, Try.ntmps16
    go_wp2_with fail
    refine wp_region_below w.heap.size (by kernel_rfl) (by kernel_rfl) ?_
    repeat (go_big_quiet_step ((go_at_call 33; first | exact below_call (Nat.le_refl _) ‹_› (pair_any _ _ _) | (rename_i e; exact below_call (Nat.le_refl _) e (pair_any _ _ e.x)))))
    refine wpQuiet_nil ?_
    intro w2 hb2
    go_wp2_with fail
    go_ret
    exact ⟨rfl, hb2⟩

def pst0 (m : Int) : Pst := ⟨m, 0, [], fun _ _ => false⟩
theorem ownB_nil (w : World) : PkOwn 0 w (.slice none 0 0) [] := World.ownsRow_nil _ _ _ _
set_option maxHeartbeats 1000000 in
/-- New(most), as it may. -/
theorem new_any (m : Int) (h1 : 1 ≤ m) (h2 : m ≤ 256) (w : World) :
    Calls Try.prog 7 #[.int .i64 m] w fun e w' => e = .returned (.tuple #[.pointer (some ⟨w.heap.size + 1, 0, none⟩), .int .i64 0]) ∧ PostSt (fun i => i = w.heap.size ∨ i = w.heap.size + 1) w' (w.heap.size + 1) 0 (pst0 m) ∧ Below w.heap.size w w' ∧ w.heap.size + 2 ≤ w'.heap.size := by
  have hmm := @run_makeMap Try.prog
  go_enter Try.func7, Try.ntmps7
  go_wp2_with fail
  go_ret2
  refine ⟨rfl, ⟨.slice none 0 0, w.heap.size, rowIs_new2 w _ 58 4 [.int .i64 m, .int .i64 0, .slice none 0 0, .map (some w.heap.size)] _ rfl, ownB_nil _, (mapQ_made w).kept (Go.Deep.blk_alloc_lt _ _ _ (by simp)), .inr rfl, .inl rfl, by simp [Value.ownBlock], by omega, fun i h => by simp; omega, ?_⟩, ((Below.refl _ _).alloc (Nat.le_refl _) _).alloc (by simp) _, by simp⟩
  exact ⟨h1, h2, Int.le_refl _, by show (0 : Int) ≤ 1000000; omega, Int.le_refl _, by show (0 : Int) ≤ m; omega, by intro x hx; cases hx⟩
set_option maxHeartbeats 1000000 in
/-- New(most), refused. -/
theorem new_no (m : Int) (h : m < 1 ∨ 256 < m) (w : World) :
    Calls Try.prog 7 #[.int .i64 m] w fun e w' => e = .returned (.tuple #[.pointer none, .int .i64 1]) ∧ w = w' := by
  rcases h with h | h
  · go_enter Try.func7, Try.ntmps7
    go_wp2_with fail
    go_ret2
    exact ⟨rfl, rfl⟩
  · have h2 : ¬ m < 1 := by omega
    go_enter Try.func7, Try.ntmps7
    go_wp2_with fail
    go_ret2
    exact ⟨rfl, rfl⟩
end Go.Proofs.Ytocpneliofjabaa
