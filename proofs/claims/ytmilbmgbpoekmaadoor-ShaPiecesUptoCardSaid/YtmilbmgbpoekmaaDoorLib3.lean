/-
  TWO LAWS ON A REGION THAT DRAWS ITS ORDER, for the step of Derived/BigQuiet.lean: reads and calls that leave the world alone ahead of a forced end; reads beside calls that make memory of their own.
-/
import Derived.WalkKit
import Derived.StillTail
import Derived.BigQuiet
namespace Go.Proofs.YtmilbmgbpoekmaaDoor
open Go.RowKit
section
variable {P : Program} {ops : Array Oper}

theorem still_of_quiet {w : World} {o : Oper} {a : Act} {K K' : Act → Prop} (hk : ∀ a, K a → K' a) (h : o.quiet P a (fun x => x = w) K) : o.still P a w K' := by
  obtain ⟨v, h1, h2⟩ := h
  have h3 := h1 w rfl
  unfold Oper.quietAt at h3
  unfold Oper.still
  cases hr : (execOp a.eval o).run P w with
  | halt x w' => rw [hr] at h3; exact h3.elim
  | ok n w' =>
    rw [hr] at h3
    cases n with
    | value u => obtain ⟨e1, rfl⟩ := h3; exact ⟨e1, hk _ h2⟩
    | skip => obtain ⟨e1, rfl⟩ := h3; exact ⟨e1, hk _ h2⟩
    | enter f args => obtain ⟨e1, hc⟩ := h3; exact ⟨e1, v, hc, hk _ h2⟩
    | _ => exact h3.elim
theorem wpStill_of_quiet {w : World} {Q : Act → Prop} : ∀ (l : List Oper) (a : Act), wpQuiet P ops (fun x => x = w) Q l a → wpStill P ops w Q l a
  | [], _, h => h
  | o :: l, a, h => by
    unfold wpQuiet at h
    unfold wpStill
    by_cases hw : Region.wanted o (yielded ops a.tmps) = true
    · rw [if_pos hw] at h ⊢
      exact still_of_quiet (fun a' h' => wpStill_of_quiet l a' h') h
    · rw [if_neg hw] at h ⊢
      exact wpStill_of_quiet l _ h
/-- Reads and calls that leave the world alone, and then a forced end. -/
theorem wp_region_quiet_tail {id : Nat} {Q : Exit → Act → World → Prop} {a : Act} {w : World} {l : List Oper} (n : Nat) (hm : P.follows .mixedOrders = true) (hB : Region.lexTailB .any l.toArray n = true)
    (h : wpQuiet P l.toArray (fun x => x = w.drew) (fun a' => wpList P l.toArray Q (l.drop n) a' w.drew) (l.take n) a) : (Code.region id l.toArray true).wp P Q a w :=
  wp_region_still_tail n hm hB (wpStill_of_quiet _ _ h)

/-- A world that is as 'w' below B. -/
structure Ext (B : Nat) (w : World) where
  x : World
  h : Below B w x
instance (B : Nat) (w : World) : Nonempty (Ext B w) := ⟨⟨w, Below.refl B w⟩⟩
/-- Reads beside calls that make memory of their own. -/
theorem wp_region_below {id : Nat} {Q : Exit → Act → World → Prop} {a : Act} {w : World} {l : List Oper} (B : Nat) (hm : P.follows .mixedOrders = true) (hB : Region.lexB .any l.toArray = true)
    (h : wpQuiet P l.toArray (fun w' => ∃ e : Ext B w, w' = e.x) (fun a' => ∀ w', Below B w w' → Q .normal a' w') l a) : (Code.region id l.toArray true).wp P Q a w := by
  refine wp_region_quiet (C := fun w' => ∃ e : Ext B w, w' = e.x) hm hB ⟨⟨w.drew, (Below.refl B w).drew⟩, rfl⟩ ?_
  have key : ∀ (l' : List Oper) (a : Act), wpQuiet P l.toArray (fun w' => ∃ e : Ext B w, w' = e.x) (fun a' => ∀ w', Below B w w' → Q .normal a' w') l' a →
      wpQuiet P l.toArray (fun w' => ∃ e : Ext B w, w' = e.x) (fun a' => ∀ w', (∃ e : Ext B w, w' = e.x) → Q .normal a' w') l' a := by
    intro l'
    induction l' with
    | nil => exact fun a h w' ⟨e, he⟩ => h w' (he ▸ e.h)
    | cons o l' ih =>
      intro a h
      unfold wpQuiet at h ⊢
      by_cases hw : Region.wanted o (yielded l.toArray a.tmps) = true
      · rw [if_pos hw] at h ⊢
        exact Oper.quiet_mono (fun a' h' => ih a' h') h
      · rw [if_neg hw] at h ⊢
        exact ih _ h
  simpa using key l a h
/-- A call that makes memory of its own, in such a region. -/
theorem below_call {f : FuncId} {args : Array Value} {B : Nat} {w : World} {v : Value} (hB : B ≤ w.heap.size) (e : Ext B w)
    (h : Calls P f args e.x fun r w' => r = .returned v ∧ Below e.x.heap.size e.x w') : Calls P f args e.x fun r w' => r = .returned v ∧ ∃ e2 : Ext B w, w' = e2.x :=
  h.mono fun _ w' ⟨h1, h2⟩ => ⟨h1, ⟨w', e.h.trans (h2.mono (Nat.le_trans hB e.h.size))⟩, rfl⟩
theorem below_call_same {f : FuncId} {args : Array Value} {B : Nat} {w : World} {v : Value} (e : Ext B w)
    (h : Calls P f args e.x fun r w' => r = .returned v ∧ e.x = w') : Calls P f args e.x fun r w' => r = .returned v ∧ ∃ e2 : Ext B w, w' = e2.x :=
  h.mono fun _ _ ⟨h1, h2⟩ => ⟨h1, e, h2.symm⟩
end
end Go.Proofs.YtmilbmgbpoekmaaDoor
