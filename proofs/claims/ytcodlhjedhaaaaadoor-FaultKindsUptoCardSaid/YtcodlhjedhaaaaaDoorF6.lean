/-
  (*List).Unwrap; errors.as: at an error of the target's type, and at a number where the target is of another.
-/
import Derived.Test.YtcodlhjedhaaaaaDoorF5
namespace Go.Proofs.YtcodlhjedhaaaaaDoor
open Go.RowKit Go.Extern.Stop Go.Stop Go.Extern
set_option maxRecDepth 100000

theorem info32 : (Tryd.prog.info? 32).map (fun i => (i.zero, i.size, i.bytes)) = some (some .nilIface, 1, 16) := by kernel_rfl
set_option maxHeartbeats 1000000 in
/-- (*List).Unwrap. -/
theorem lunwrap_any (b g n cap : Nat) (us : Nat → Value) (w : World) (hmax : n ≤ 1000000) (hr : w.rowIs b 66 1 (fun _ => .slice (some ⟨g, 0, none⟩) n cap)) (hc : ∀ i, i < n → w.cell? ⟨g, i, none⟩ = some (us i)) (ho : ∀ i, i < n → (us i).oneCell' = true) :
    Calls Tryd.prog 32 #[.pointer (some ⟨b, 0, none⟩)] w fun ex w' => ∃ v', ex = .returned v' ∧ w'.ownsRow w.heap.size 32 1 v' n ((List.range n).map us) ∧ Below w.heap.size w w' := by
  have c0 : w.cell? ⟨b, 0, none⟩ = some (.slice (some ⟨g, 0, none⟩) n cap) := hr.cell (i := 0) (by omega)
  obtain ⟨i0, hi, hz, hz1, hz2⟩ := info_parts info32
  have hcl := Tryd.slices_Clone i0 .nilIface 1 16 hi hz hz1 hz2 rfl (by omega) (fun w => Tryd.sizeOf32 w) g 0 n cap ((List.range n).map us) w (by simp) (by unfold maxLen; omega) (by omega) (fun j u hu => by
    rw [Nat.zero_add]
    have hj : j < n := by have := (List.getElem?_eq_some_iff.1 hu).1; simpa using this
    rw [hc j hj, ← hu]
    simp [hj]) (fun u hu => by
    obtain ⟨j, hj, rfl⟩ := List.mem_map.1 hu
    exact ho j (List.mem_range.1 hj))
  clear hi hz hz1 hz2 hc hr
  go_enter Tryd.func32, Tryd.ntmps32
  go_wp2_with (go_at_call 40; refine hcl.mono ?_; rintro e2 w2 ⟨v2, rfl, hown, _, hb⟩)
  go_ret
  exact ⟨_, rfl, hown, hb⟩

theorem assert35_106 (v : Value) (xT : TypeId) (w : World) : (Instr.typeAssert (.iface 35 v) xT 106 true).run Tryd.prog w = .ok (.tuple #[.nilIface, .bool false]) w := run_typeAssert_lacksB Tryd.underlying106 (by kernel_rfl) (by kernel_rfl) v xT w
theorem assert35_109 (v : Value) (xT : TypeId) (w : World) : (Instr.typeAssert (.iface 35 v) xT 109 true).run Tryd.prog w = .ok (.tuple #[.nilIface, .bool false]) w := run_typeAssert_lacksB Tryd.underlying109 (by kernel_rfl) (by kernel_rfl) v xT w
theorem assert35_110 (v : Value) (xT : TypeId) (w : World) : (Instr.typeAssert (.iface 35 v) xT 110 true).run Tryd.prog w = .ok (.tuple #[.nilIface, .bool false]) w := run_typeAssert_lacksB Tryd.underlying110 (by kernel_rfl) (by kernel_rfl) v xT w
theorem assert29_106 (v : Value) (xT : TypeId) (w : World) : (Instr.typeAssert (.iface 29 v) xT 106 true).run Tryd.prog w = .ok (.tuple #[.nilIface, .bool false]) w := run_typeAssert_lacksB Tryd.underlying106 (by kernel_rfl) (by kernel_rfl) v xT w
theorem assert29_109 (v : Value) (xT : TypeId) (w : World) : (Instr.typeAssert (.iface 29 v) xT 109 true).run Tryd.prog w = .ok (.tuple #[.iface 29 v, .bool true]) w := run_typeAssert_hasB Tryd.underlying109 (by kernel_rfl) v xT w
theorem assert29_110 (v : Value) (xT : TypeId) (w : World) : (Instr.typeAssert (.iface 29 v) xT 110 true).run Tryd.prog w = .ok (.tuple #[.nilIface, .bool false]) w := run_typeAssert_lacksB Tryd.underlying110 (by kernel_rfl) (by kernel_rfl) v xT w
theorem assert33_106 (v : Value) (xT : TypeId) (w : World) : (Instr.typeAssert (.iface 33 v) xT 106 true).run Tryd.prog w = .ok (.tuple #[.nilIface, .bool false]) w := run_typeAssert_lacksB Tryd.underlying106 (by kernel_rfl) (by kernel_rfl) v xT w
theorem assert33_109 (v : Value) (xT : TypeId) (w : World) : (Instr.typeAssert (.iface 33 v) xT 109 true).run Tryd.prog w = .ok (.tuple #[.nilIface, .bool false]) w := run_typeAssert_lacksB Tryd.underlying109 (by kernel_rfl) (by kernel_rfl) v xT w
theorem assert33_110 (v : Value) (xT : TypeId) (w : World) : (Instr.typeAssert (.iface 33 v) xT 110 true).run Tryd.prog w = .ok (.tuple #[.iface 33 v, .bool true]) w := run_typeAssert_hasB Tryd.underlying110 (by kernel_rfl) v xT w

set_option maxHeartbeats 4000000 in
/-- errors.as, the error being of the target's type 35. -/
theorem as_hit35 (n : Int) (tb : Nat) (a : Addr) (old : Value) (w : World) (ha : w.cell? a = some (.pointer (some ⟨tb, 0, none⟩))) (ht : w.rowIs tb 35 1 (fun _ => old)) :
    Calls Tryd.prog 44 #[.iface 35 (.int .i64 n), .iface 70 (.pointer (some ⟨tb, 0, none⟩)), .agg #[.pointer (some ⟨5, 70, none⟩), .pointer (some a), .int .u64 150], .iface 102 (.agg #[.pointer (some ⟨5, 35, none⟩)])] w fun ex w' => ex = .returned (.bool true) ∧ Kept (fun i => i = tb) w w' ∧ w'.rowIs tb 35 1 (fun _ => (.int .i64 n)) := by
  have h46 := @run_callFunc_extern Tryd.prog 46 _ ReflectliteType.typeOf Tryd.func46 (by kernel_rfl) (by kernel_rfl) (by kernel_rfl) (by kernel_rfl)
  have h89 := @run_callFunc_extern Tryd.prog 89 _ (ReflectliteType.relation "AssignableTo" ReflectliteType.assignableTo) Tryd.func89 (by kernel_rfl) (by kernel_rfl) (by kernel_rfl) (by kernel_rfl)
  have h51 := @run_callFunc_extern Tryd.prog 51 _ (ReflectliteValue.method (ReflectliteValue.valueError "reflectlite.Value.Elem" 0) ReflectliteValue.elem) Tryd.func51 (by kernel_rfl) (by kernel_rfl) (by kernel_rfl) (by kernel_rfl)
  have h41 := @run_callFunc_extern Tryd.prog 41 _ (fun args => ReflectliteValue.unpack (args.getD 0 (.tuple #[]))) Tryd.func41 (by kernel_rfl) (by kernel_rfl) (by kernel_rfl) (by kernel_rfl)
  have h52 := @run_callFunc_extern Tryd.prog 52 _ ReflectliteValue.set Tryd.func52 (by kernel_rfl) (by kernel_rfl) (by kernel_rfl) (by kernel_rfl)
  have tO := typeOf35
  have mA := methodAssignableTo
  have aS := assignable35_35
  have vO := valueOf35
  have k1 : Below w.heap.size w (w.alloc (.cells #[.pointer (some ⟨5, 70, none⟩), .pointer (some a), .int .u64 150] 86)) := (Below.refl _ _).alloc (Nat.le_refl _) _
  have hal : a.block < w.heap.size := by
    rcases Nat.lt_or_ge a.block w.heap.size with h | h
    · exact h
    · simp [World.cell?, Array.getElem?_eq_none h] at ha
  have el := elemV70 a ⟨tb, 0, none⟩ (w.alloc (.cells #[.pointer (some ⟨5, 70, none⟩), .pointer (some a), .int .u64 150] 86)) ((k1.cell hal).trans ha)
  have k2 : Below w.heap.size w ((w.alloc (.cells #[.pointer (some ⟨5, 70, none⟩), .pointer (some a), .int .u64 150] 86)).alloc (.cells #[.int .i64 n] 35)) := k1.alloc k1.size _
  have ht2 : ((w.alloc (.cells #[.pointer (some ⟨5, 70, none⟩), .pointer (some a), .int .u64 150] 86)).alloc (.cells #[.int .i64 n] 35)).rowIs tb 35 1 (fun _ => old) := rowIs_below ht k2 ht.lt
  have st := set35 ⟨tb, 0, none⟩ ⟨w.heap.size + 1, 0, none⟩ n old ((w.alloc (.cells #[.pointer (some ⟨5, 70, none⟩), .pointer (some a), .int .u64 150] 86)).alloc (.cells #[.int .i64 n] 35)) (by rw [World.cell?_alloc_at _ _ _ _ (by simp)]; rfl) (ht2.cell (i := 0) (by omega)) (ht2.frozen 0)
  have hend : Kept (fun i => i = tb) w (((w.alloc (.cells #[.pointer (some ⟨5, 70, none⟩), .pointer (some a), .int .u64 150] 86)).alloc (.cells #[.int .i64 n] 35)).setCell ⟨tb, 0, none⟩ (.int .i64 n)) ∧ (((w.alloc (.cells #[.pointer (some ⟨5, 70, none⟩), .pointer (some a), .int .u64 150] 86)).alloc (.cells #[.int .i64 n] 35)).setCell ⟨tb, 0, none⟩ (.int .i64 n)).rowIs tb 35 1 (fun _ => (.int .i64 n)) :=
    ⟨Kept.setCell (S := fun i => i = tb) (Kept.of_below k2) (p := ⟨tb, 0, none⟩) (fun _ => rfl) _, (ht2.set 0 (.int .i64 n)).congr (fun i hi => by simp; omega)⟩
  clear ht ht2 k1 k2 ha
  go_enter Tryd.func44, Tryd.ntmps44
  go_wp2
  refine wp_loop_rounds 1 ?_
  rw [rounds_succ]
  go_wp2
  go_ret
  exact ⟨rfl, hend⟩

set_option maxHeartbeats 4000000 in
/-- errors.as, the error being of the target's type 29. -/
theorem as_hit29 (p : Option Addr) (tb : Nat) (a : Addr) (old : Value) (w : World) (ha : w.cell? a = some (.pointer (some ⟨tb, 0, none⟩))) (ht : w.rowIs tb 29 1 (fun _ => old)) :
    Calls Tryd.prog 44 #[.iface 29 (.pointer p), .iface 95 (.pointer (some ⟨tb, 0, none⟩)), .agg #[.pointer (some ⟨5, 95, none⟩), .pointer (some a), .int .u64 150], .iface 102 (.agg #[.pointer (some ⟨5, 29, none⟩)])] w fun ex w' => ex = .returned (.bool true) ∧ Kept (fun i => i = tb) w w' ∧ w'.rowIs tb 29 1 (fun _ => (.pointer p)) := by
  have h46 := @run_callFunc_extern Tryd.prog 46 _ ReflectliteType.typeOf Tryd.func46 (by kernel_rfl) (by kernel_rfl) (by kernel_rfl) (by kernel_rfl)
  have h89 := @run_callFunc_extern Tryd.prog 89 _ (ReflectliteType.relation "AssignableTo" ReflectliteType.assignableTo) Tryd.func89 (by kernel_rfl) (by kernel_rfl) (by kernel_rfl) (by kernel_rfl)
  have h51 := @run_callFunc_extern Tryd.prog 51 _ (ReflectliteValue.method (ReflectliteValue.valueError "reflectlite.Value.Elem" 0) ReflectliteValue.elem) Tryd.func51 (by kernel_rfl) (by kernel_rfl) (by kernel_rfl) (by kernel_rfl)
  have h41 := @run_callFunc_extern Tryd.prog 41 _ (fun args => ReflectliteValue.unpack (args.getD 0 (.tuple #[]))) Tryd.func41 (by kernel_rfl) (by kernel_rfl) (by kernel_rfl) (by kernel_rfl)
  have h52 := @run_callFunc_extern Tryd.prog 52 _ ReflectliteValue.set Tryd.func52 (by kernel_rfl) (by kernel_rfl) (by kernel_rfl) (by kernel_rfl)
  have tO := typeOf29
  have mA := methodAssignableTo
  have aS := assignable29_29
  have vO := valueOf29
  have k1 : Below w.heap.size w (w.alloc (.cells #[.pointer (some ⟨5, 95, none⟩), .pointer (some a), .int .u64 150] 86)) := (Below.refl _ _).alloc (Nat.le_refl _) _
  have hal : a.block < w.heap.size := by
    rcases Nat.lt_or_ge a.block w.heap.size with h | h
    · exact h
    · simp [World.cell?, Array.getElem?_eq_none h] at ha
  have el := elemV95 a ⟨tb, 0, none⟩ (w.alloc (.cells #[.pointer (some ⟨5, 95, none⟩), .pointer (some a), .int .u64 150] 86)) ((k1.cell hal).trans ha)
  have k2 : Below w.heap.size w ((w.alloc (.cells #[.pointer (some ⟨5, 95, none⟩), .pointer (some a), .int .u64 150] 86)).alloc (.cells #[.pointer p] 29)) := k1.alloc k1.size _
  have ht2 : ((w.alloc (.cells #[.pointer (some ⟨5, 95, none⟩), .pointer (some a), .int .u64 150] 86)).alloc (.cells #[.pointer p] 29)).rowIs tb 29 1 (fun _ => old) := rowIs_below ht k2 ht.lt
  have st := set29 ⟨tb, 0, none⟩ ⟨w.heap.size + 1, 0, none⟩ p old ((w.alloc (.cells #[.pointer (some ⟨5, 95, none⟩), .pointer (some a), .int .u64 150] 86)).alloc (.cells #[.pointer p] 29)) (by rw [World.cell?_alloc_at _ _ _ _ (by simp)]; rfl) (ht2.cell (i := 0) (by omega)) (ht2.frozen 0)
  have hend : Kept (fun i => i = tb) w (((w.alloc (.cells #[.pointer (some ⟨5, 95, none⟩), .pointer (some a), .int .u64 150] 86)).alloc (.cells #[.pointer p] 29)).setCell ⟨tb, 0, none⟩ (.pointer p)) ∧ (((w.alloc (.cells #[.pointer (some ⟨5, 95, none⟩), .pointer (some a), .int .u64 150] 86)).alloc (.cells #[.pointer p] 29)).setCell ⟨tb, 0, none⟩ (.pointer p)).rowIs tb 29 1 (fun _ => (.pointer p)) :=
    ⟨Kept.setCell (S := fun i => i = tb) (Kept.of_below k2) (p := ⟨tb, 0, none⟩) (fun _ => rfl) _, (ht2.set 0 (.pointer p)).congr (fun i hi => by simp; omega)⟩
  clear ht ht2 k1 k2 ha
  go_enter Tryd.func44, Tryd.ntmps44
  go_wp2
  refine wp_loop_rounds 1 ?_
  rw [rounds_succ]
  go_wp2
  go_ret
  exact ⟨rfl, hend⟩

set_option maxHeartbeats 4000000 in
/-- errors.as, the error being of the target's type 33. -/
theorem as_hit33 (p : Option Addr) (tb : Nat) (a : Addr) (old : Value) (w : World) (ha : w.cell? a = some (.pointer (some ⟨tb, 0, none⟩))) (ht : w.rowIs tb 33 1 (fun _ => old)) :
    Calls Tryd.prog 44 #[.iface 33 (.pointer p), .iface 97 (.pointer (some ⟨tb, 0, none⟩)), .agg #[.pointer (some ⟨5, 97, none⟩), .pointer (some a), .int .u64 150], .iface 102 (.agg #[.pointer (some ⟨5, 33, none⟩)])] w fun ex w' => ex = .returned (.bool true) ∧ Kept (fun i => i = tb) w w' ∧ w'.rowIs tb 33 1 (fun _ => (.pointer p)) := by
  have h46 := @run_callFunc_extern Tryd.prog 46 _ ReflectliteType.typeOf Tryd.func46 (by kernel_rfl) (by kernel_rfl) (by kernel_rfl) (by kernel_rfl)
  have h89 := @run_callFunc_extern Tryd.prog 89 _ (ReflectliteType.relation "AssignableTo" ReflectliteType.assignableTo) Tryd.func89 (by kernel_rfl) (by kernel_rfl) (by kernel_rfl) (by kernel_rfl)
  have h51 := @run_callFunc_extern Tryd.prog 51 _ (ReflectliteValue.method (ReflectliteValue.valueError "reflectlite.Value.Elem" 0) ReflectliteValue.elem) Tryd.func51 (by kernel_rfl) (by kernel_rfl) (by kernel_rfl) (by kernel_rfl)
  have h41 := @run_callFunc_extern Tryd.prog 41 _ (fun args => ReflectliteValue.unpack (args.getD 0 (.tuple #[]))) Tryd.func41 (by kernel_rfl) (by kernel_rfl) (by kernel_rfl) (by kernel_rfl)
  have h52 := @run_callFunc_extern Tryd.prog 52 _ ReflectliteValue.set Tryd.func52 (by kernel_rfl) (by kernel_rfl) (by kernel_rfl) (by kernel_rfl)
  have tO := typeOf33
  have mA := methodAssignableTo
  have aS := assignable33_33
  have vO := valueOf33
  have k1 : Below w.heap.size w (w.alloc (.cells #[.pointer (some ⟨5, 97, none⟩), .pointer (some a), .int .u64 150] 86)) := (Below.refl _ _).alloc (Nat.le_refl _) _
  have hal : a.block < w.heap.size := by
    rcases Nat.lt_or_ge a.block w.heap.size with h | h
    · exact h
    · simp [World.cell?, Array.getElem?_eq_none h] at ha
  have el := elemV97 a ⟨tb, 0, none⟩ (w.alloc (.cells #[.pointer (some ⟨5, 97, none⟩), .pointer (some a), .int .u64 150] 86)) ((k1.cell hal).trans ha)
  have k2 : Below w.heap.size w ((w.alloc (.cells #[.pointer (some ⟨5, 97, none⟩), .pointer (some a), .int .u64 150] 86)).alloc (.cells #[.pointer p] 33)) := k1.alloc k1.size _
  have ht2 : ((w.alloc (.cells #[.pointer (some ⟨5, 97, none⟩), .pointer (some a), .int .u64 150] 86)).alloc (.cells #[.pointer p] 33)).rowIs tb 33 1 (fun _ => old) := rowIs_below ht k2 ht.lt
  have st := set33 ⟨tb, 0, none⟩ ⟨w.heap.size + 1, 0, none⟩ p old ((w.alloc (.cells #[.pointer (some ⟨5, 97, none⟩), .pointer (some a), .int .u64 150] 86)).alloc (.cells #[.pointer p] 33)) (by rw [World.cell?_alloc_at _ _ _ _ (by simp)]; rfl) (ht2.cell (i := 0) (by omega)) (ht2.frozen 0)
  have hend : Kept (fun i => i = tb) w (((w.alloc (.cells #[.pointer (some ⟨5, 97, none⟩), .pointer (some a), .int .u64 150] 86)).alloc (.cells #[.pointer p] 33)).setCell ⟨tb, 0, none⟩ (.pointer p)) ∧ (((w.alloc (.cells #[.pointer (some ⟨5, 97, none⟩), .pointer (some a), .int .u64 150] 86)).alloc (.cells #[.pointer p] 33)).setCell ⟨tb, 0, none⟩ (.pointer p)).rowIs tb 33 1 (fun _ => (.pointer p)) :=
    ⟨Kept.setCell (S := fun i => i = tb) (Kept.of_below k2) (p := ⟨tb, 0, none⟩) (fun _ => rfl) _, (ht2.set 0 (.pointer p)).congr (fun i hi => by simp; omega)⟩
  clear ht ht2 k1 k2 ha
  go_enter Tryd.func44, Tryd.ntmps44
  go_wp2
  refine wp_loop_rounds 1 ?_
  rw [rounds_succ]
  go_wp2
  go_ret
  exact ⟨rfl, hend⟩

set_option maxHeartbeats 4000000 in
/-- errors.as, a number, the target being of type 29. -/
theorem as_num29 (n : Int) (tb : Nat) (a : Addr) (w : World) :
    Calls Tryd.prog 44 #[.iface 35 (.int .i64 n), .iface 95 (.pointer (some ⟨tb, 0, none⟩)), .agg #[.pointer (some ⟨5, 95, none⟩), .pointer (some a), .int .u64 150], .iface 102 (.agg #[.pointer (some ⟨5, 29, none⟩)])] w fun ex w' => ex = .returned (.bool false) ∧ Below w.heap.size w w' := by
  have h46 := @run_callFunc_extern Tryd.prog 46 _ ReflectliteType.typeOf Tryd.func46 (by kernel_rfl) (by kernel_rfl) (by kernel_rfl) (by kernel_rfl)
  have h89 := @run_callFunc_extern Tryd.prog 89 _ (ReflectliteType.relation "AssignableTo" ReflectliteType.assignableTo) Tryd.func89 (by kernel_rfl) (by kernel_rfl) (by kernel_rfl) (by kernel_rfl)
  have tO := typeOf35
  have mA := methodAssignableTo
  have aS := assignable35_29
  have t1 := assert35_106
  have t2 := assert35_109
  have t3 := assert35_110
  go_enter Tryd.func44, Tryd.ntmps44
  go_wp2
  refine wp_loop_rounds 1 ?_
  rw [rounds_succ]
  go_wp2
  go_ret
  exact ⟨rfl, (Below.refl _ _).alloc (Nat.le_refl _) _⟩

set_option maxHeartbeats 4000000 in
/-- errors.as, a number, the target being of type 33. -/
theorem as_num33 (n : Int) (tb : Nat) (a : Addr) (w : World) :
    Calls Tryd.prog 44 #[.iface 35 (.int .i64 n), .iface 97 (.pointer (some ⟨tb, 0, none⟩)), .agg #[.pointer (some ⟨5, 97, none⟩), .pointer (some a), .int .u64 150], .iface 102 (.agg #[.pointer (some ⟨5, 33, none⟩)])] w fun ex w' => ex = .returned (.bool false) ∧ Below w.heap.size w w' := by
  have h46 := @run_callFunc_extern Tryd.prog 46 _ ReflectliteType.typeOf Tryd.func46 (by kernel_rfl) (by kernel_rfl) (by kernel_rfl) (by kernel_rfl)
  have h89 := @run_callFunc_extern Tryd.prog 89 _ (ReflectliteType.relation "AssignableTo" ReflectliteType.assignableTo) Tryd.func89 (by kernel_rfl) (by kernel_rfl) (by kernel_rfl) (by kernel_rfl)
  have tO := typeOf35
  have mA := methodAssignableTo
  have aS := assignable35_33
  have t1 := assert35_106
  have t2 := assert35_109
  have t3 := assert35_110
  go_enter Tryd.func44, Tryd.ntmps44
  go_wp2
  refine wp_loop_rounds 1 ?_
  rw [rounds_succ]
  go_wp2
  go_ret
  exact ⟨rfl, (Below.refl _ _).alloc (Nat.le_refl _) _⟩
end Go.Proofs.YtcodlhjedhaaaaaDoor
