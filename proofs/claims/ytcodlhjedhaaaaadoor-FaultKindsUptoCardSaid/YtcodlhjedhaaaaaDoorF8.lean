/-
  errors.As; Code.
-/
import Derived.Test.YtcodlhjedhaaaaaDoorF7
namespace Go.Proofs.YtcodlhjedhaaaaaDoor
open Go.RowKit Go.Extern.Stop Go.Stop Go.Extern
set_option maxRecDepth 100000

/-- errors.errorType's cell. -/
def ETy (w : World) : Prop := w.cell? ⟨0, 0, none⟩ = some (.iface 102 (.agg #[.pointer (some ⟨5, 32, none⟩)]))
theorem ETy.under {w w' : World} (h : ETy w) (hb : Below w.heap.size w w') : ETy w' := (hb.cell (p := ⟨0, 0, none⟩) (cell_block_lt h)).trans h

set_option maxHeartbeats 4000000 in
/-- errors.As at a target of type 70: what errors.as does, it does. -/
theorem as_to70 (t : TypeId) (u : Value) (tb : Nat) (w : World) (hE : ETy w) (htb : tb < w.heap.size) (Q : Ending → World → Prop)
    (hq : ∀ w' a, Below w.heap.size w w' → w.heap.size ≤ a.block → w'.cell? a = some (.pointer (some ⟨tb, 0, none⟩)) →
      Calls Tryd.prog 44 #[.iface t u, .iface 70 (.pointer (some ⟨tb, 0, none⟩)), .agg #[.pointer (some ⟨5, 70, none⟩), .pointer (some a), .int .u64 150], .iface 102 (.agg #[.pointer (some ⟨5, 35, none⟩)])] w' (fun ex w2 => (∃ b, ex = .returned (.bool b)) ∧ Q ex w2)) :
    Calls Tryd.prog 33 #[.iface t u, .iface 70 (.pointer (some ⟨tb, 0, none⟩))] w Q := by
  have h41 := @run_callFunc_extern Tryd.prog 41 _ (fun args => ReflectliteValue.unpack (args.getD 0 (.tuple #[]))) Tryd.func41 (by kernel_rfl) (by kernel_rfl) (by kernel_rfl) (by kernel_rfl)
  have h42 := @run_callFunc_extern Tryd.prog 42 _ (ReflectliteValue.methodAny (ReflectliteValue.valueError "reflectlite.Value.Type" 0) (fun t _ _ _ => ReflectliteType.toType t)) Tryd.func42 (by kernel_rfl) (by kernel_rfl) (by kernel_rfl) (by kernel_rfl)
  have h43 := @run_callFunc_extern Tryd.prog 43 _ (ReflectliteValue.method (ReflectliteValue.valueError "reflectlite.Value.IsNil" 0) ReflectliteValue.isNil) Tryd.func43 (by kernel_rfl) (by kernel_rfl) (by kernel_rfl) (by kernel_rfl)
  have h81 := @run_callFunc_extern Tryd.prog 81 _ (ReflectliteType.abiMethod fun t => do pure (.int .u8 (← Rtype.kind t))) Tryd.func81 (by kernel_rfl) (by kernel_rfl) (by kernel_rfl) (by kernel_rfl)
  have h91 := @run_callFunc_extern Tryd.prog 91 _ (ReflectliteType.method ReflectliteType.elem) Tryd.func91 (by kernel_rfl) (by kernel_rfl) (by kernel_rfl) (by kernel_rfl)
  have h92 := @run_callFunc_extern Tryd.prog 92 _ (ReflectliteType.relation "Implements" ReflectliteType.implements_) Tryd.func92 (by kernel_rfl) (by kernel_rfl) (by kernel_rfl) (by kernel_rfl)
  have f6 := valueOf70
  have f7 := type70
  have mK := methodKind
  have mE := methodElem
  have mI := methodImplements
  have kP := kind70
  have kE := kind35
  have eP := elem70
  have iE := implements35
  have k1 : Below w.heap.size w (w.alloc (.cells #[.pointer (some ⟨tb, 0, none⟩)] 70)) := (Below.refl _ _).alloc (Nat.le_refl _) _
  have k2 := k1.alloc k1.size (.cells #[.pointer (some ⟨5, 70, none⟩), .pointer (some ⟨w.heap.size, 0, none⟩), .int .u64 150] 86)
  have hc2 : ((w.alloc (.cells #[.pointer (some ⟨tb, 0, none⟩)] 70)).alloc (.cells #[.pointer (some ⟨5, 70, none⟩), .pointer (some ⟨w.heap.size, 0, none⟩), .int .u64 150] 86)).cell? ⟨w.heap.size, 0, none⟩ = some (.pointer (some ⟨tb, 0, none⟩)) := by
    rw [World.cell?_alloc_lt _ _ ⟨w.heap.size, 0, none⟩ (by simp)]; simp
  have n8 := isNil70 ⟨w.heap.size, 0, none⟩ ⟨tb, 0, none⟩ _ hc2
  have hg2 : ((w.alloc (.cells #[.pointer (some ⟨tb, 0, none⟩)] 70)).alloc (.cells #[.pointer (some ⟨5, 70, none⟩), .pointer (some ⟨w.heap.size, 0, none⟩), .int .u64 150] 86)).cell? ⟨0, 0, none⟩ = some (.iface 102 (.agg #[.pointer (some ⟨5, 32, none⟩)])) := ETy.under hE k2
  have hcall := hq _ ⟨w.heap.size, 0, none⟩ k2 (Nat.le_refl _) hc2
  clear hq k1 k2 hc2 hE
  go_enter Tryd.func33, Tryd.ntmps33
  go_wp2_with (first | (go_at_call 44; refine hcall.mono ?_; rintro e2 w2 ⟨⟨b, rfl⟩, hQ⟩) | fail)
  exact hQ
set_option maxHeartbeats 4000000 in
/-- errors.As at a target of type 95: what errors.as does, it does. -/
theorem as_to95 (t : TypeId) (u : Value) (tb : Nat) (w : World) (hE : ETy w) (htb : tb < w.heap.size) (Q : Ending → World → Prop)
    (hq : ∀ w' a, Below w.heap.size w w' → w.heap.size ≤ a.block → w'.cell? a = some (.pointer (some ⟨tb, 0, none⟩)) →
      Calls Tryd.prog 44 #[.iface t u, .iface 95 (.pointer (some ⟨tb, 0, none⟩)), .agg #[.pointer (some ⟨5, 95, none⟩), .pointer (some a), .int .u64 150], .iface 102 (.agg #[.pointer (some ⟨5, 29, none⟩)])] w' (fun ex w2 => (∃ b, ex = .returned (.bool b)) ∧ Q ex w2)) :
    Calls Tryd.prog 33 #[.iface t u, .iface 95 (.pointer (some ⟨tb, 0, none⟩))] w Q := by
  have h41 := @run_callFunc_extern Tryd.prog 41 _ (fun args => ReflectliteValue.unpack (args.getD 0 (.tuple #[]))) Tryd.func41 (by kernel_rfl) (by kernel_rfl) (by kernel_rfl) (by kernel_rfl)
  have h42 := @run_callFunc_extern Tryd.prog 42 _ (ReflectliteValue.methodAny (ReflectliteValue.valueError "reflectlite.Value.Type" 0) (fun t _ _ _ => ReflectliteType.toType t)) Tryd.func42 (by kernel_rfl) (by kernel_rfl) (by kernel_rfl) (by kernel_rfl)
  have h43 := @run_callFunc_extern Tryd.prog 43 _ (ReflectliteValue.method (ReflectliteValue.valueError "reflectlite.Value.IsNil" 0) ReflectliteValue.isNil) Tryd.func43 (by kernel_rfl) (by kernel_rfl) (by kernel_rfl) (by kernel_rfl)
  have h81 := @run_callFunc_extern Tryd.prog 81 _ (ReflectliteType.abiMethod fun t => do pure (.int .u8 (← Rtype.kind t))) Tryd.func81 (by kernel_rfl) (by kernel_rfl) (by kernel_rfl) (by kernel_rfl)
  have h91 := @run_callFunc_extern Tryd.prog 91 _ (ReflectliteType.method ReflectliteType.elem) Tryd.func91 (by kernel_rfl) (by kernel_rfl) (by kernel_rfl) (by kernel_rfl)
  have h92 := @run_callFunc_extern Tryd.prog 92 _ (ReflectliteType.relation "Implements" ReflectliteType.implements_) Tryd.func92 (by kernel_rfl) (by kernel_rfl) (by kernel_rfl) (by kernel_rfl)
  have f6 := valueOf95
  have f7 := type95
  have mK := methodKind
  have mE := methodElem
  have mI := methodImplements
  have kP := kind95
  have kE := kind29
  have eP := elem95
  have iE := implements29
  have k1 : Below w.heap.size w (w.alloc (.cells #[.pointer (some ⟨tb, 0, none⟩)] 95)) := (Below.refl _ _).alloc (Nat.le_refl _) _
  have k2 := k1.alloc k1.size (.cells #[.pointer (some ⟨5, 95, none⟩), .pointer (some ⟨w.heap.size, 0, none⟩), .int .u64 150] 86)
  have hc2 : ((w.alloc (.cells #[.pointer (some ⟨tb, 0, none⟩)] 95)).alloc (.cells #[.pointer (some ⟨5, 95, none⟩), .pointer (some ⟨w.heap.size, 0, none⟩), .int .u64 150] 86)).cell? ⟨w.heap.size, 0, none⟩ = some (.pointer (some ⟨tb, 0, none⟩)) := by
    rw [World.cell?_alloc_lt _ _ ⟨w.heap.size, 0, none⟩ (by simp)]; simp
  have n8 := isNil95 ⟨w.heap.size, 0, none⟩ ⟨tb, 0, none⟩ _ hc2
  have hg2 : ((w.alloc (.cells #[.pointer (some ⟨tb, 0, none⟩)] 95)).alloc (.cells #[.pointer (some ⟨5, 95, none⟩), .pointer (some ⟨w.heap.size, 0, none⟩), .int .u64 150] 86)).cell? ⟨0, 0, none⟩ = some (.iface 102 (.agg #[.pointer (some ⟨5, 32, none⟩)])) := ETy.under hE k2
  have hcall := hq _ ⟨w.heap.size, 0, none⟩ k2 (Nat.le_refl _) hc2
  clear hq k1 k2 hc2 hE
  go_enter Tryd.func33, Tryd.ntmps33
  go_wp2_with (first | (go_at_call 44; refine hcall.mono ?_; rintro e2 w2 ⟨⟨b, rfl⟩, hQ⟩) | fail)
  exact hQ
set_option maxHeartbeats 4000000 in
/-- errors.As at a target of type 97: what errors.as does, it does. -/
theorem as_to97 (t : TypeId) (u : Value) (tb : Nat) (w : World) (hE : ETy w) (htb : tb < w.heap.size) (Q : Ending → World → Prop)
    (hq : ∀ w' a, Below w.heap.size w w' → w.heap.size ≤ a.block → w'.cell? a = some (.pointer (some ⟨tb, 0, none⟩)) →
      Calls Tryd.prog 44 #[.iface t u, .iface 97 (.pointer (some ⟨tb, 0, none⟩)), .agg #[.pointer (some ⟨5, 97, none⟩), .pointer (some a), .int .u64 150], .iface 102 (.agg #[.pointer (some ⟨5, 33, none⟩)])] w' (fun ex w2 => (∃ b, ex = .returned (.bool b)) ∧ Q ex w2)) :
    Calls Tryd.prog 33 #[.iface t u, .iface 97 (.pointer (some ⟨tb, 0, none⟩))] w Q := by
  have h41 := @run_callFunc_extern Tryd.prog 41 _ (fun args => ReflectliteValue.unpack (args.getD 0 (.tuple #[]))) Tryd.func41 (by kernel_rfl) (by kernel_rfl) (by kernel_rfl) (by kernel_rfl)
  have h42 := @run_callFunc_extern Tryd.prog 42 _ (ReflectliteValue.methodAny (ReflectliteValue.valueError "reflectlite.Value.Type" 0) (fun t _ _ _ => ReflectliteType.toType t)) Tryd.func42 (by kernel_rfl) (by kernel_rfl) (by kernel_rfl) (by kernel_rfl)
  have h43 := @run_callFunc_extern Tryd.prog 43 _ (ReflectliteValue.method (ReflectliteValue.valueError "reflectlite.Value.IsNil" 0) ReflectliteValue.isNil) Tryd.func43 (by kernel_rfl) (by kernel_rfl) (by kernel_rfl) (by kernel_rfl)
  have h81 := @run_callFunc_extern Tryd.prog 81 _ (ReflectliteType.abiMethod fun t => do pure (.int .u8 (← Rtype.kind t))) Tryd.func81 (by kernel_rfl) (by kernel_rfl) (by kernel_rfl) (by kernel_rfl)
  have h91 := @run_callFunc_extern Tryd.prog 91 _ (ReflectliteType.method ReflectliteType.elem) Tryd.func91 (by kernel_rfl) (by kernel_rfl) (by kernel_rfl) (by kernel_rfl)
  have h92 := @run_callFunc_extern Tryd.prog 92 _ (ReflectliteType.relation "Implements" ReflectliteType.implements_) Tryd.func92 (by kernel_rfl) (by kernel_rfl) (by kernel_rfl) (by kernel_rfl)
  have f6 := valueOf97
  have f7 := type97
  have mK := methodKind
  have mE := methodElem
  have mI := methodImplements
  have kP := kind97
  have kE := kind33
  have eP := elem97
  have iE := implements33
  have k1 : Below w.heap.size w (w.alloc (.cells #[.pointer (some ⟨tb, 0, none⟩)] 97)) := (Below.refl _ _).alloc (Nat.le_refl _) _
  have k2 := k1.alloc k1.size (.cells #[.pointer (some ⟨5, 97, none⟩), .pointer (some ⟨w.heap.size, 0, none⟩), .int .u64 150] 86)
  have hc2 : ((w.alloc (.cells #[.pointer (some ⟨tb, 0, none⟩)] 97)).alloc (.cells #[.pointer (some ⟨5, 97, none⟩), .pointer (some ⟨w.heap.size, 0, none⟩), .int .u64 150] 86)).cell? ⟨w.heap.size, 0, none⟩ = some (.pointer (some ⟨tb, 0, none⟩)) := by
    rw [World.cell?_alloc_lt _ _ ⟨w.heap.size, 0, none⟩ (by simp)]; simp
  have n8 := isNil97 ⟨w.heap.size, 0, none⟩ ⟨tb, 0, none⟩ _ hc2
  have hg2 : ((w.alloc (.cells #[.pointer (some ⟨tb, 0, none⟩)] 97)).alloc (.cells #[.pointer (some ⟨5, 97, none⟩), .pointer (some ⟨w.heap.size, 0, none⟩), .int .u64 150] 86)).cell? ⟨0, 0, none⟩ = some (.iface 102 (.agg #[.pointer (some ⟨5, 32, none⟩)])) := ETy.under hE k2
  have hcall := hq _ ⟨w.heap.size, 0, none⟩ k2 (Nat.le_refl _) hc2
  clear hq k1 k2 hc2 hE
  go_enter Tryd.func33, Tryd.ntmps33
  go_wp2_with (first | (go_at_call 44; refine hcall.mono ?_; rintro e2 w2 ⟨⟨b, rfl⟩, hQ⟩) | fail)
  exact hQ

/-- errors.As, the target a number. -/
theorem asCode (I : Nat → Prop) (x : Er) (v : Value) (w : World) (tb : Nat) (old : Value) (hE : ETy w) (hx : x ≠ .none) (h : ErAt I w x v) (hI : ¬ I tb) (ht : w.rowIs tb 35 1 (fun _ => old)) :
    Calls Tryd.prog 33 #[v, .iface 70 (.pointer (some ⟨tb, 0, none⟩))] w (CPost x tb w) := by
  obtain ⟨t, u, rfl⟩ := h.iface hx
  refine as_to70 t u tb w hE ht.lt _ (fun w' a hb ha hc => ?_)
  refine (as_code x.sz I x _ w' tb a old (Nat.le_refl _) hx (h.under hb) hI (by have := ht.lt; omega) hc (rowIs_below ht hb ht.lt)).mono ?_
  rintro ex w2 ⟨rfl, hk, hr⟩
  exact ⟨⟨_, rfl⟩, rfl, (Kept.of_below hb).trans hk (fun i _ h => h), hr⟩
/-- errors.As, the target a fault: at a fault. -/
theorem asFaultHit (p : Option Addr) (w : World) (tb : Nat) (old : Value) (hE : ETy w) (ht : w.rowIs tb 29 1 (fun _ => old)) :
    Calls Tryd.prog 33 #[.iface 29 (.pointer p), .iface 95 (.pointer (some ⟨tb, 0, none⟩))] w fun ex w' => ex = .returned (.bool true) ∧ Kept (fun i => i = tb) w w' ∧ w'.rowIs tb 29 1 (fun _ => .pointer p) := by
  refine as_to95 29 _ tb w hE ht.lt _ (fun w' a hb ha hc => ?_)
  refine (as_hit29 p tb a old w' hc (rowIs_below ht hb ht.lt)).mono ?_
  rintro ex w2 ⟨rfl, hk, hr⟩
  exact ⟨⟨_, rfl⟩, rfl, (Kept.of_below hb).trans hk (fun i _ h => h), hr⟩
/-- errors.As, the target a fault: at whatever. -/
theorem asFault (I : Nat → Prop) (x : Er) (v : Value) (w : World) (tb : Nat) (p0 : Option Addr) (hE : ETy w) (hx : x ≠ .none) (h : ErAt I w x v) (hI : ¬ I tb) (ht : w.rowIs tb 29 1 (fun _ => .pointer p0)) :
    Calls Tryd.prog 33 #[v, .iface 95 (.pointer (some ⟨tb, 0, none⟩))] w (FPost tb w) := by
  obtain ⟨t, u, rfl⟩ := h.iface hx
  refine as_to95 t u tb w hE ht.lt _ (fun w' a hb ha hc => ?_)
  refine (as_fault x.sz I x _ w' tb a p0 (Nat.le_refl _) hx (h.under hb) hI (by have := ht.lt; omega) hc (rowIs_below ht hb ht.lt)).mono ?_
  rintro ex w2 ⟨hit, p, rfl, hk, hr⟩
  exact ⟨⟨_, rfl⟩, hit, p, rfl, (Kept.of_below hb).trans hk (fun i _ h => h), hr⟩
/-- errors.As, the target a fault: at a number. -/
theorem asFaultNum (n : Int) (w : World) (tb : Nat) (hE : ETy w) (ht : tb < w.heap.size) :
    Calls Tryd.prog 33 #[.iface 35 (.int .i64 n), .iface 95 (.pointer (some ⟨tb, 0, none⟩))] w fun ex w' => ex = .returned (.bool false) ∧ Below w.heap.size w w' := by
  refine as_to95 35 _ tb w hE ht _ (fun w' a hb ha hc => ?_)
  refine (as_num29 n tb a w').mono ?_
  rintro ex w2 ⟨rfl, hk⟩
  exact ⟨⟨_, rfl⟩, rfl, hb.trans (hk.mono hb.size)⟩
/-- errors.As, the target a list: at a list. -/
theorem asListHit (p : Option Addr) (w : World) (tb : Nat) (old : Value) (hE : ETy w) (ht : w.rowIs tb 33 1 (fun _ => old)) :
    Calls Tryd.prog 33 #[.iface 33 (.pointer p), .iface 97 (.pointer (some ⟨tb, 0, none⟩))] w fun ex w' => ex = .returned (.bool true) ∧ Kept (fun i => i = tb) w w' ∧ w'.rowIs tb 33 1 (fun _ => .pointer p) := by
  refine as_to97 33 _ tb w hE ht.lt _ (fun w' a hb ha hc => ?_)
  refine (as_hit33 p tb a old w' hc (rowIs_below ht hb ht.lt)).mono ?_
  rintro ex w2 ⟨rfl, hk, hr⟩
  exact ⟨⟨_, rfl⟩, rfl, (Kept.of_below hb).trans hk (fun i _ h => h), hr⟩
/-- errors.As, the target a list: at a number. -/
theorem asListNum (n : Int) (w : World) (tb : Nat) (hE : ETy w) (ht : tb < w.heap.size) :
    Calls Tryd.prog 33 #[.iface 35 (.int .i64 n), .iface 97 (.pointer (some ⟨tb, 0, none⟩))] w fun ex w' => ex = .returned (.bool false) ∧ Below w.heap.size w w' := by
  refine as_to97 35 _ tb w hE ht _ (fun w' a hb ha hc => ?_)
  refine (as_num33 n tb a w').mono ?_
  rintro ex w2 ⟨rfl, hk⟩
  exact ⟨⟨_, rfl⟩, rfl, hb.trans (hk.mono hb.size)⟩
set_option maxHeartbeats 1000000 in
/-- errors.As(nil, target). -/
theorem as_nil (t : Value) (w : World) : Calls Tryd.prog 33 #[.nilIface, t] w fun e w' => e = .returned (.bool false) ∧ w = w' := by
  go_enter Tryd.func33, Tryd.ntmps33
  go_wp2
  go_ret
  exact ⟨rfl, rfl⟩
end Go.Proofs.YtcodlhjedhaaaaaDoor
