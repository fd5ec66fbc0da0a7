/-
  Small contracts: Errno, New, Wrap, first, the Unwraps.
-/
import Derived.Test.YtcodlhjedhaaaaaDoorEr
import Derived.Test.YtcodlhjedhaaaaaDoorShelf
import Derived.LaidEql
import Derived.Stop.IfaceNil
namespace Go.Proofs.YtcodlhjedhaaaaaDoor
open Go.RowKit
set_option maxRecDepth 100000

def i64r (a : Int) : Prop := -9223372036854775808 ≤ a ∧ a ≤ 9223372036854775807
def errno (n : Int) : Int := (n % 18446744073709551616) % 301
theorem errno_le (n : Int) : 0 ≤ errno n ∧ errno n ≤ 300 := by unfold errno; omega

set_option maxHeartbeats 1000000 in
/-- The reference's Errno. -/
theorem errno_any (n : Int) (w : World) : Calls Tryd.prog 23 #[.int .i64 n] w fun e w' => e = .returned (.int .i64 (errno n)) ∧ w = w' := by
  go_enter Tryd.func23, Tryd.ntmps23
  go_wp2_with fail
  go_ret
  have e1 : IntKind.u64.wrap n = n % 18446744073709551616 := by simp [IntKind.wrap, IntKind.bits, IntKind.signed]
  have e2 : wrap64 ((IntKind.u64.wrap n).tmod 301) = errno n := by
    rw [e1, Int.tmod_eq_emod_of_nonneg (by omega)]
    unfold errno wrap64
    omega
  rw [e2]
  exact ⟨rfl, rfl⟩

def newEr (op path : ByteArray) (e : Int) : Er := if e = 0 then .none else .flt op path (.num e)
def wrapEr (op : ByteArray) : Er → Er
  | .none => .none
  | x => .flt op ⟨#[]⟩ x
theorem wrapEr_of (op : ByteArray) (x : Er) (h : x ≠ .none) : wrapEr op x = .flt op ⟨#[]⟩ x := by cases x <;> first | rfl | exact absurd rfl h
theorem fltRow_new (w : World) (op path : ByteArray) (u : Value) : (w.alloc (.cells #[.string op, .string path, u] 39)).rowIs w.heap.size 39 3 (fltRow op path u) := rowIs_lit w [.string op, .string path, u] 39 3 _ rfl

set_option maxHeartbeats 1000000 in
/-- fault.New. -/
theorem new_any (op path : ByteArray) (e : Int) (h0 : 0 ≤ e) (h1 : e ≤ 300) (w : World) :
    Calls Tryd.prog 27 #[.string op, .string path, .int .i64 e] w fun ex w' => ∃ v, ex = .returned v ∧ ErAt (fun b => w.heap.size ≤ b) w' (newEr op path e) v ∧ Below w.heap.size w w' := by
  by_cases he : e = 0
  · subst he
    go_enter Tryd.func27, Tryd.ntmps27
    go_wp2_with fail
    go_ret
    exact ⟨_, rfl, .none, Below.refl _ _⟩
  · go_enter Tryd.func27, Tryd.ntmps27
    go_wp2_with fail
    go_ret
    refine ⟨_, rfl, ?_, (Below.refl _ _).alloc (Nat.le_refl _) _⟩
    rw [newEr, if_neg he]
    exact .flt op path (.num e) w.heap.size _ (by simp) (Nat.le_refl _) (fltRow_new _ _ _ _) (.num e (by omega) h1)
set_option maxHeartbeats 1000000 in
/-- fault.Wrap. -/
theorem wrap_any (I : Nat → Prop) (op : ByteArray) (x : Er) (v : Value) (w : World) (hx : ErAt I w x v) :
    Calls Tryd.prog 26 #[.string op, v] w fun ex w' => ∃ u, ex = .returned u ∧ ErAt (fun b => I b ∨ w.heap.size ≤ b) w' (wrapEr op x) u ∧ Below w.heap.size w w' := by
  by_cases hn : x = .none
  · subst hn
    cases hx
    go_enter Tryd.func26, Tryd.ntmps26
    go_wp2_with fail
    go_ret
    exact ⟨_, rfl, .none, Below.refl _ _⟩
  · have hin : Below w.heap.size w (w.alloc (.cells #[.string op, .string ⟨#[]⟩, v] 39)) := (Below.refl _ _).alloc (Nat.le_refl _) _
    have key : ErAt (fun b => I b ∨ w.heap.size ≤ b) (w.alloc (.cells #[.string op, .string ⟨#[]⟩, v] 39)) (wrapEr op x) (.iface 29 (.pointer (some ⟨w.heap.size, 0, none⟩))) := by
      rw [wrapEr_of op x hn]
      exact .flt op _ x w.heap.size _ hn (.inr (Nat.le_refl _)) (fltRow_new _ _ _ _) (hx.keep hin.size (fun b hI hlt => ⟨.inl hI, hin.block b hlt⟩))
    cases hx with
    | none => exact absurd rfl hn
    | _ =>
      go_enter Tryd.func26, Tryd.ntmps26
      go_wp2_with fail
      go_ret
      exact ⟨_, rfl, key, hin⟩

theorem iface32 : Tryd.prog.isIface 32 = true := by kernel_rfl
theorem comp29 : (Tryd.prog.info? 29).map (·.comparable) = some true := by kernel_rfl
theorem comp33 : (Tryd.prog.info? 33).map (·.comparable) = some true := by kernel_rfl
theorem sz39 : (Tryd.prog.info? 39).map (·.size) = some 3 := by kernel_rfl
theorem sz66 : (Tryd.prog.info? 66).map (·.size) = some 1 := by kernel_rfl
/-- Two pointers to faults that are one. -/
theorem eql29 (a : Addr) (w : World) : (binOp .eql 32 (.iface 29 (.pointer (some a))) (.iface 29 (.pointer (some a)))).run Tryd.prog w = .ok (.bool true) w := by
  obtain ⟨ms, h⟩ := underlying_of_isIface iface32
  have c := comp29
  have z := sz39
  cases h1 : Tryd.prog.info? 29 with
  | none => simp [h1] at c
  | some i =>
    cases h2 : Tryd.prog.info? 39 with
    | none => simp [h2] at z
    | some j => exact run_eql_iface_ptr_same w a h Tryd.underlying29 h1 (by simpa [h1] using c) h2
theorem eql33 (a : Addr) (w : World) : (binOp .eql 32 (.iface 33 (.pointer (some a))) (.iface 33 (.pointer (some a)))).run Tryd.prog w = .ok (.bool true) w := by
  obtain ⟨ms, h⟩ := underlying_of_isIface iface32
  have c := comp33
  have z := sz66
  cases h1 : Tryd.prog.info? 33 with
  | none => simp [h1] at c
  | some i =>
    cases h2 : Tryd.prog.info? 66 with
    | none => simp [h2] at z
    | some j => exact run_eql_iface_ptr_same w a h Tryd.underlying33 h1 (by simpa [h1] using c) h2
theorem eqlOther (s t : TypeId) (x y : Value) (hne : s ≠ t) (w : World) : (binOp .eql 32 (.iface s x) (.iface t y)).run Tryd.prog w = .ok (.bool false) w := by
  obtain ⟨ms, h⟩ := underlying_of_isIface iface32
  have e : ∀ d : Nat, (Op.equalIn (d + 1) 32 (.iface s x) (.iface t y)).run Tryd.prog w = .ok false w := fun d => by
    simp [Op.equalIn, run_underlying h, hne]
  simp only [binOp]
  simp [Op.equal, Op.maxDepth, e 9999]

set_option maxHeartbeats 1000000 in
/-- first: a fault is itself. -/
theorem first_same (b : Nat) (w : World) :
    Calls Tryd.prog 45 #[.iface 29 (.pointer (some ⟨b, 0, none⟩)), .pointer (some ⟨b, 0, none⟩)] w fun ex w' => ex = .returned (.bool true) ∧ w = w' := by
  have he := eql29
  go_enter Tryd.func45, Tryd.ntmps45
  go_wp2_with fail
  go_ret
  exact ⟨rfl, rfl⟩
set_option maxHeartbeats 1000000 in
/-- first: a fault is no list. -/
theorem first_list (a p : Option Addr) (w : World) :
    Calls Tryd.prog 45 #[.iface 33 (.pointer a), .pointer p] w fun ex w' => ex = .returned (.bool false) ∧ w = w' := by
  have he := eqlOther 29 33 (.pointer p) (.pointer a) (by decide)
  go_enter Tryd.func45, Tryd.ntmps45
  go_wp2_with fail
  go_ret
  exact ⟨rfl, rfl⟩
set_option maxHeartbeats 1000000 in
/-- (*Fault).Unwrap. -/
theorem funwrap_any (b : Nat) (op path : ByteArray) (u : Value) (w : World) (hr : w.rowIs b 39 3 (fltRow op path u)) :
    Calls Tryd.prog 15 #[.pointer (some ⟨b, 0, none⟩)] w fun ex w' => ex = .returned u ∧ w = w' := by
  have c2 : w.cell? ⟨b, 2, none⟩ = some u := hr.cell (i := 2) (by omega)
  go_enter Tryd.func15, Tryd.ntmps15
  go_wp2_with fail
  go_ret
  exact ⟨rfl, rfl⟩
end Go.Proofs.YtcodlhjedhaaaaaDoor
