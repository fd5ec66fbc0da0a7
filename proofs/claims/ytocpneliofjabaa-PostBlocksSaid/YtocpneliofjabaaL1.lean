/-
  TWO STRUCTURES APART IN MEMORY; what the document fixes (awake).
-/
import Derived.Test.YtocpneliofjabaaR7
namespace Go.Proofs.Ytocpneliofjabaa
open Go.RowKit
set_option maxRecDepth 100000

/-- A statement on the blocks of a set alone. -/
structure Held (A : (Nat → Prop) → World → Prop) : Prop where
  keep : ∀ S w w', A S w → (∀ i, S i → w'.heap[i]? = w.heap[i]?) → w.heap.size ≤ w'.heap.size → A S w'
  lt : ∀ S w, A S w → ∀ i, S i → i < w.heap.size
def PA (P n : Nat) (s : Pst) (S : Nat → Prop) (w : World) : Prop := PostSt S w P n s
def RA (R : Nat) (r : Rst) (S : Nat → Prop) (w : World) : Prop := RefSt S w R r
def NA (S : Nat → Prop) (_ : World) : Prop := ∀ i, ¬ S i
theorem held_PA (P n : Nat) (s : Pst) : Held (PA P n s) := ⟨fun _ _ _ h hk hs => h.keep hk hs, fun _ _ h => h.lt⟩
theorem held_RA (R : Nat) (r : Rst) : Held (RA R r) := ⟨fun _ _ _ h hk hs => h.keep hk hs, fun _ _ h => h.lt⟩
theorem held_NA : Held NA := ⟨fun _ _ _ h _ _ => h, fun _ _ h i hi => absurd hi (h i)⟩

/-- Two of them, apart; since w0 no block has changed but those of U and new ones. -/
def Two (A1 A2 : (Nat → Prop) → World → Prop) (U : Nat → Prop) (w0 w : World) : Prop :=
  ∃ S T, A1 S w ∧ A2 T w ∧ (∀ i, S i → ¬ T i) ∧ (∀ i, S i ∨ T i → U i ∨ w0.heap.size ≤ i) ∧ Kept U w0 w
theorem Two.swap {A1 A2 : (Nat → Prop) → World → Prop} {U : Nat → Prop} {w0 w : World} (h : Two A1 A2 U w0 w) : Two A2 A1 U w0 w := by
  obtain ⟨S, T, h1, h2, h3, h4, h5⟩ := h
  exact ⟨T, S, h2, h1, fun i ht hs => h3 i hs ht, fun i hi => h4 i hi.symm, h5⟩
theorem Two.kept {A1 A2 : (Nat → Prop) → World → Prop} {U : Nat → Prop} {w0 w : World} (h : Two A1 A2 U w0 w) : Kept U w0 w := let ⟨_, _, _, _, _, _, h5⟩ := h; h5
theorem Two.first {A1 A1' A2 : (Nat → Prop) → World → Prop} {U : Nat → Prop} {w0 w : World} {f : FuncId} {args : Array Value} {v : Value} (H2 : Held A2) (H1 : Held A1) (h : Two A1 A2 U w0 w)
    (hc : ∀ S, A1 S w → Calls Try.prog f args w fun e w' => e = .returned v ∧ Kept S w w' ∧ A1' (Gr S w w') w') : Calls Try.prog f args w fun e w' => e = .returned v ∧ Two A1' A2 U w0 w' := by
  obtain ⟨S, T, h1, h2, h3, h4, h5⟩ := h
  refine (hc S h1).mono ?_
  rintro e w' ⟨rfl, hk, h1'⟩
  have hS := H1.lt S w h1
  have hT := H2.lt T w h2
  refine ⟨rfl, Gr S w w', T, h1', H2.keep T w w' h2 (fun i hi => hk.block i (hT i hi) (fun hs => h3 i hs hi)) hk.size, ?_, ?_, h5.trans hk (fun i hi hs => ?_)⟩
  · intro i hi ht
    rcases hi with hi | ⟨hi, _⟩
    · exact h3 i hi ht
    · have := hT i ht; omega
  · intro i hi
    rcases hi with (hi | ⟨hi, _⟩) | hi
    · exact h4 i (.inl hi)
    · exact .inr (Nat.le_trans h5.size hi)
    · exact h4 i (.inr hi)
  · rcases h4 i (.inl hs) with h | h
    · exact h
    · omega
theorem Two.second {A1 A2 A2' : (Nat → Prop) → World → Prop} {U : Nat → Prop} {w0 w : World} {f : FuncId} {args : Array Value} {v : Value} (H1 : Held A1) (H2 : Held A2) (h : Two A1 A2 U w0 w)
    (hc : ∀ S, A2 S w → Calls Try.prog f args w fun e w' => e = .returned v ∧ Kept S w w' ∧ A2' (Gr S w w') w') : Calls Try.prog f args w fun e w' => e = .returned v ∧ Two A1 A2' U w0 w' :=
  (h.swap.first H1 H2 hc).mono fun _ _ ⟨a, b⟩ => ⟨a, b.swap⟩
/-- A world that is the same below the heap's end. -/
theorem Two.below {A1 A2 : (Nat → Prop) → World → Prop} {U : Nat → Prop} {w0 w w' : World} (H1 : Held A1) (H2 : Held A2) (h : Two A1 A2 U w0 w) (hb : Below w.heap.size w w') : Two A1 A2 U w0 w' := by
  obtain ⟨S, T, h1, h2, h3, h4, h5⟩ := h
  exact ⟨S, T, H1.keep S w w' h1 (fun i hi => hb.block i (H1.lt S w h1 i hi)) hb.size, H2.keep T w w' h2 (fun i hi => hb.block i (H2.lt T w h2 i hi)) hb.size, h3, h4, h5.trans (Kept.of_below (S := fun _ => False) hb) (fun _ _ h => h.elim)⟩
theorem Two.quiet1 {A1 A2 : (Nat → Prop) → World → Prop} {U : Nat → Prop} {w0 w : World} {f : FuncId} {args : Array Value} {Φ : Ending → World → Prop} (H1 : Held A1) (H2 : Held A2) (h : Two A1 A2 U w0 w)
    (hc : ∀ S, A1 S w → Calls Try.prog f args w fun e w' => Φ e w' ∧ Below w.heap.size w w') : Calls Try.prog f args w fun e w' => Φ e w' ∧ Two A1 A2 U w0 w' := by
  obtain ⟨S, T, h1, h2⟩ := id h
  exact (hc S h1).mono fun e w' ⟨a, b⟩ => ⟨a, h.below H1 H2 b⟩
/-- The frame begins later. -/
theorem Two.from_alloc {A1 A2 : (Nat → Prop) → World → Prop} {U : Nat → Prop} {w w' : World} {o : Obj} (h : Two A1 A2 U (w.alloc o) w') : Two A1 A2 U w w' := by
  obtain ⟨S, T, h1, h2, h3, h4, h5⟩ := h
  exact ⟨S, T, h1, h2, h3, fun i hi => (h4 i hi).imp _root_.id (fun h => by simp at h; omega), ((Kept.refl U w).alloc o).trans h5 (fun _ _ h => h)⟩
theorem Two.start {A1 A2 : (Nat → Prop) → World → Prop} {w : World} {S T : Nat → Prop} (h1 : A1 S w) (h2 : A2 T w) (h3 : ∀ i, S i → ¬ T i) : Two A1 A2 (fun i => S i ∨ T i) w w := ⟨S, T, h1, h2, h3, fun _ h => .inl h, Kept.refl _ _⟩
theorem Two.from_below {A1 A2 : (Nat → Prop) → World → Prop} {B : Nat} {w w' : World} (h : Two A1 A2 (fun i => B ≤ i) w w') (hB : B ≤ w.heap.size) : Below B w w' := h.kept.below (fun _ h => h) hB

/-- Only a post. -/
def Pone (P n : Nat) (s : Pst) (U : Nat → Prop) (w0 w : World) : Prop := Two (PA P n s) NA U w0 w
theorem Pone.start {S : Nat → Prop} {w w1 : World} {P n : Nat} {s : Pst} (h : PostSt S w1 P n s) (hS : ∀ i, S i → w.heap.size ≤ i) (hb : Below w.heap.size w w1) : Pone P n s (fun i => w.heap.size ≤ i) w w1 :=
  ⟨S, fun _ => False, h, fun _ h => h, fun _ _ h => h, fun i hi => .inl (hi.elim (hS i) False.elim), Kept.of_below hb⟩
theorem Pone.keeps {f : FuncId} {args : Array Value} {v : Value} {P n n' : Nat} {s s' : Pst} {U : Nat → Prop} {w0 w : World} (h : Pone P n s U w0 w)
    (hc : ∀ S, PostSt S w P n s → Calls Try.prog f args w fun e w' => e = .returned v ∧ Kept S w w' ∧ PostSt (Gr S w w') w' P n' s') : Calls Try.prog f args w fun e w' => e = .returned v ∧ Pone P n' s' U w0 w' :=
  Two.first held_NA (held_PA P n s) h hc
theorem Pone.quiet {f : FuncId} {args : Array Value} {Φ : Ending → World → Prop} {P n : Nat} {s : Pst} {U : Nat → Prop} {w0 w : World} (h : Pone P n s U w0 w)
    (hc : ∀ S, PostSt S w P n s → Calls Try.prog f args w fun e w' => Φ e w' ∧ Below w.heap.size w w') : Calls Try.prog f args w fun e w' => Φ e w' ∧ Pone P n s U w0 w' :=
  Two.quiet1 (held_PA P n s) held_NA h hc

theorem Pone.alloc {P n : Nat} {s : Pst} {U : Nat → Prop} {w0 w : World} (h : Pone P n s U w0 w) (o : Obj) : Pone P n s U w0 (w.alloc o) := Two.below (held_PA _ _ _) held_NA h ((Below.refl _ _).alloc (Nat.le_refl _) _)
def wa (b : ByteArray) : Pst := (pst0 2).send 1 2 b
def wb (b : ByteArray) : Pst := (wa b).dbl 1
def wc (b c : ByteArray) : Pst := (wb b).send 1 2 c
def wd (b c : ByteArray) : Pst := (wc b c).blk 2 1
def we (b c : ByteArray) : Pst := (wd b c).take 1
def wf (b c : ByteArray) : Pst := (we b c).drop 1
set_option maxHeartbeats 4000000 in
/-- veneerlaw21.awake(). -/
theorem awake_any (w : World) : Calls Try.prog 6 #[] w fun e w' => e = .returned (.bool true) ∧ Below w.heap.size w w' := by
  obtain ⟨ba, hba⟩ : ∃ b : ByteArray, b = ⟨#[97]⟩ := ⟨_, rfl⟩
  obtain ⟨bb, hbb⟩ : ∃ b : ByteArray, b = ⟨#[98]⟩ := ⟨_, rfl⟩
  have n1 : (pst0 2).sendN 1 2 = 1 := by kernel_rfl
  have n2 : (wa ba).dblN 1 = 2 := by kernel_rfl
  have n3 : (wb ba).sendN 1 2 = 0 := by kernel_rfl
  have n4 : (wd ba bb).takes 1 = false := by kernel_rfl
  have n5 : (we ba bb).dropN 1 = true := by kernel_rfl
  have n6 : (wf ba bb).first = 0 := by kernel_rfl
  have n7 : (wf ba bb).L.length = 1 := by kernel_rfl
  have l1 : (pst0 2).last < 1000000 := by decide
  have l2 : (wa ba).last < 1000000 := by have : (wa ba).last = 1 := by kernel_rfl
                                         omega
  have l3 : (wb ba).last < 1000000 := by have : (wb ba).last = 2 := by kernel_rfl
                                         omega
  have i1 : i64r 1 := by unfold i64r; omega
  have i2 : i64r 2 := by unfold i64r; omega
  have L1 := Lib.hid l1
  have L2 := Lib.hid l2
  have L3 := Lib.hid l3
  have I1 := Lib.hid i1
  have I2 := Lib.hid i2
  have N1 := Lib.hid n1
  have N2 := Lib.hid n2
  have N3 := Lib.hid n3
  have N4 := Lib.hid n4
  have N5 := Lib.hid n5
  have N6 := Lib.hid n6
  have N7 := Lib.hid n7
  have HBA := Lib.hid hba
  have HBB := Lib.hid hbb
  clear hba hbb n1 n2 n3 n4 n5 n6 n7 l1 l2 l3 i1 i2
  go_enter Try.func6, Try.ntmps6
  go_wp2_with fail
  refine (new_any 2 (by omega) (by omega) w).mono ?_
  rintro e w1 ⟨rfl, hp1, hb1, hs1⟩
  have h1 := Pone.start hp1 (fun i hi => by omega) hb1
  obtain ⟨P, hP⟩ : ∃ P, P = w.heap.size + 1 := ⟨_, rfl⟩
  rw [← hP] at h1 ⊢
  clear hp1 hb1 hs1 hP
  go_wp2_with fail
  rw [← HBA.out]
  refine (h1.keeps (fun S hp => send_any S P 0 (pst0 2) 1 2 ba I1.out I2.out w1 hp L1.out)).mono ?_
  rintro e w2 ⟨rfl, h2⟩
  rw [N1.out]
  clear h1
  go_wp2_with fail
  refine (h2.keeps (fun S hp => double_any S P 0 (wa ba) 1 w2 hp L2.out)).mono ?_
  rintro e w3 ⟨rfl, h3⟩
  rw [N2.out]
  clear h2
  go_wp2_with fail
  rw [← HBB.out]
  refine (h3.keeps (fun S hp => send_any S P 0 (wb ba) 1 2 bb I1.out I2.out w3 hp L3.out)).mono ?_
  rintro e w4 ⟨rfl, h4⟩
  rw [N3.out]
  clear h3
  go_wp2_with fail
  refine (h4.keeps (fun S hp => block_any S P 0 (wc ba bb) 2 1 I2.out I1.out w4 hp (by omega))).mono ?_
  rintro e w5 ⟨rfl, h5⟩
  clear h4
  go_wp2_with fail
  refine (h5.keeps (fun S hp => take_any S P 1 (wd ba bb) 1 w5 hp)).mono ?_
  rintro e w6 ⟨rfl, h6⟩
  rw [N4.out]
  clear h5
  obtain ⟨X, hX⟩ : ∃ X, X = (wd ba bb).takeX 1 := ⟨_, rfl⟩
  rw [← hX]
  clear hX
  unfold pka
  go_wp2_with fail
  refine ((h6.alloc _).keeps (fun S hp => drop_any S P 1 (we ba bb) 1 _ hp)).mono ?_
  rintro e w7 ⟨rfl, h7⟩
  rw [N5.out]
  clear h6
  go_wp2_with fail
  refine (h7.quiet (fun S hp => first_any S P 1 (wf ba bb) w7 hp)).mono ?_
  rintro e w8 ⟨rfl, h8⟩
  rw [N6.out]
  clear h7
  go_wp2_with fail
  refine (h8.quiet (Φ := fun e w' => ∃ v', e = .returned v' ∧ PkOwn w8.heap.size w' v' (wf ba bb).L) (fun S hp => (list_any S P 1 (wf ba bb) w8 hp).mono (fun e w' ⟨v', a, b, c⟩ => ⟨⟨v', a, b⟩, c⟩))).mono ?_
  rintro e w9 ⟨⟨v, rfl, hv⟩, h9⟩
  obtain ⟨a, cap, rfl, _, _, _⟩ := hv.shape
  rw [N7.out]
  clear h8 hv
  go_wp2_with fail
  go_ret
  exact ⟨rfl, Two.from_below h9 (Nat.le_refl _)⟩
end Go.Proofs.Ytocpneliofjabaa
