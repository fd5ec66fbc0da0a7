/-
  Code; way.
-/
import Derived.Test.YtcodlhjedhaaaaaDoorF8
namespace Go.Proofs.YtcodlhjedhaaaaaDoor
open Go.RowKit
set_option maxRecDepth 100000

theorem kept_fresh {w w2 w3 : World} {tb : Nat} (h1 : Below w.heap.size w w2) (h2 : Kept (fun i => i = tb) w2 w3) (ht : w.heap.size ≤ tb) : Below w.heap.size w w3 :=
  h1.trans (h2.below (fun i hi => by rw [hi]; exact ht) h1.size)
set_option maxHeartbeats 1000000 in
/-- fault.Code. -/
theorem code_any (I : Nat → Prop) (x : Er) (v : Value) (w : World) (hE : ETy w) (h : ErAt I w x v) :
    Calls Tryd.prog 19 #[v] w fun ex w' => ex = .returned (.int .i64 x.code) ∧ Below w.heap.size w w' := by
  have k1 : Below w.heap.size w (w.alloc (.cells #[.int .i64 0] 35)) := (Below.refl _ _).alloc (Nat.le_refl _) _
  by_cases hx : x = .none
  · subst hx
    cases h
    rw [Er.code]
    have hc := as_nil (.iface 70 (.pointer (some ⟨w.heap.size, 0, none⟩))) (w.alloc (.cells #[.int .i64 0] 35))
    go_enter Tryd.func19, Tryd.ntmps19
    go_wp2_with (go_at_call 33; refine hc.mono ?_; rintro e2 w2 ⟨rfl, rfl⟩)
    go_ret
    exact ⟨rfl, k1⟩
  · have hr : (w.alloc (.cells #[.int .i64 0] 35)).rowIs w.heap.size 35 1 (fun _ => .int .i64 0) := rowIs_lit w [.int .i64 0] 35 1 _ rfl
    have hc := asCode (fun b => b < w.heap.size) x v (w.alloc (.cells #[.int .i64 0] 35)) w.heap.size (.int .i64 0) (hE.under k1) hx ((h.any (fun b => b < w.heap.size) (fun b _ hb => hb)).under k1) (by omega) hr
    obtain ⟨t, u, rfl⟩ := h.iface hx
    clear h hr
    go_enter Tryd.func19, Tryd.ntmps19
    go_wp2_with (go_at_call 33; refine hc.mono ?_; rintro e2 w2 ⟨rfl, hk, hr2⟩; have e0 := hr2.cell (i := 0) (by omega))
    go_ret
    exact ⟨rfl, kept_fresh k1 hk (Nat.le_refl _)⟩
end Go.Proofs.YtcodlhjedhaaaaaDoor
