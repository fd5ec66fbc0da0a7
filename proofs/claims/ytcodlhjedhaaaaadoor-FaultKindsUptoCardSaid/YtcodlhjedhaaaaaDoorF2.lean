/-
  The errors' texts: Errno.Error, (*Fault).Error, (*List).Error, Text.
-/
import Derived.Test.YtcodlhjedhaaaaaDoorF1
namespace Go.Proofs.YtcodlhjedhaaaaaDoor
open Go.RowKit
set_option maxRecDepth 100000

/-- The table that strconv reads. -/
def Tab (w : World) : Prop := Lib.TabIs Tryd.prog w "internal/strconv.uint64pow10" .u64 Lib.pow10Tab
theorem below_grow {B : Nat} {a w : World} (h : Below B a w) (hB : B ≤ a.heap.size) (os : Array Obj) : Below B a (Sort.grow w os) :=
  ⟨h.os, h.tape, h.output, by simp [Sort.grow]; have := h.size; omega, fun k hk => by
    have := h.size
    rw [← h.block k hk]
    simp only [Sort.grow]
    rw [Array.getElem?_append_left (by omega)]⟩
theorem digits_le : ∀ n : Fin 301, (Lib.itoa (n.val : Int)).length ≤ 3 := by decide +kernel
theorem itoa_le (e : Int) (h0 : 0 ≤ e) (h1 : e ≤ 300) : (Lib.itoa e).length ≤ 3 := by
  have := digits_le ⟨e.toNat, by omega⟩
  simp only at this
  rwa [show ((e.toNat : Nat) : Int) = e by omega] at this
set_option maxHeartbeats 1000000 in
/-- Errno.Error. -/
theorem errnoError_any (e : Int) (h0 : 0 ≤ e) (h1 : e ≤ 300) (w : World) (ht : Tab w) : Calls Tryd.prog 30 #[.int .i64 e] w fun ex w' => ex = .returned (.string (numText e)) ∧ Below w.heap.size w w' := by
  have hl := itoa_le e h0 h1
  have z : (⟨#[118, 101, 110, 101, 101, 114, 58, 32, 101, 114, 114, 111, 114, 32]⟩ : ByteArray).size = 14 := rfl
  have s1 : ¬ (14 + (Lib.itoa e).length > 9223372036854775807) := by omega
  go_enter Tryd.func30, Tryd.ntmps30
  go_wp2_with (go_at_call 36; refine (Tryd.strconv_Itoa e (by omega) (by omega) _ ht).mono ?_; rintro e2 w2 ⟨rfl, k, os, rfl⟩)
  go_ret
  exact ⟨rfl, below_grow (below_drewN (Below.refl _ _) _) (Nat.le_refl _) _⟩

theorem errNum (v : Value) (w : World) : (method 260 35 v "Error").run Tryd.prog w = .ok (30, v) w := by kernel_rfl
theorem errFlt (a : Option Addr) (w : World) : (method 260 29 (.pointer a) "Error").run Tryd.prog w = .ok (12, .pointer a) w := by kernel_rfl
theorem errLst (a : Option Addr) (w : World) : (method 260 33 (.pointer a) "Error").run Tryd.prog w = .ok (16, .pointer a) w := by kernel_rfl

def errFn : TypeId → FuncId
  | 29 => 12
  | 33 => 16
  | _ => 30
theorem isEmpty_ne (s : ByteArray) (h : s ≠ ⟨#[]⟩) : s.toList.isEmpty = false := by
  rw [Lib.toList_data]
  cases he : s.data.toList with
  | nil =>
    refine absurd ?_ h
    apply ByteArray.ext
    simpa using he
  | cons a l => rfl
/-- How an error value tells its text, in every world that is as w below its end. -/
def Tells (w : World) (x : Er) (v : Value) : Prop :=
  ∀ t u, v = .iface t u → (t = 29 ∨ t = 33 ∨ t = 35) ∧ (∀ w', (method 260 t u "Error").run Tryd.prog w' = .ok (errFn t, u) w') ∧ ∀ w', Below w.heap.size w w' → Tab w' → Calls Tryd.prog (errFn t) #[u] w' fun ex w2 => ex = .returned (.string x.text) ∧ Below w'.heap.size w' w2

set_option maxHeartbeats 2000000 in
/-- (*Fault).Error. -/
theorem faultError_any (op path : ByteArray) (x : Er) (b : Nat) (t : TypeId) (u : Value) (w : World) (hT : Tab w) (hr : w.rowIs b 39 3 (fltRow op path (.iface t u))) (hs : (Er.flt op path x).text.size ≤ 1000000000) (hx : Tells w x (.iface t u)) :
   Calls Tryd.prog 12 #[.pointer (some ⟨b, 0, none⟩)] w fun ex w' => ex = .returned (.string (Er.flt op path x).text) ∧ Below w.heap.size w w' := by
  have c0 : w.cell? ⟨b, 0, none⟩ = some (.string op) := hr.cell (i := 0) (by omega)
  have c1 : w.cell? ⟨b, 1, none⟩ = some (.string path) := hr.cell (i := 1) (by omega)
  have c2 : w.cell? ⟨b, 2, none⟩ = some (.iface t u) := hr.cell (i := 2) (by omega)
  obtain ⟨ht, hm, hc⟩ := hx t u rfl
  clear hx
  have hc := hc w (Below.refl _ _) hT
  rw [Er.text] at hs ⊢
  generalize x.text = T at hs hc ⊢
  unfold head at hs ⊢
  by_cases hp : path = ⟨#[]⟩
  · rw [if_pos hp] at hs ⊢
    subst hp
    simp only [ByteArray.size_append] at hs
    have z2 : (⟨#[58, 32]⟩ : ByteArray).size = 2 := rfl
    have s1 : ¬ (op.size + 2 > 9223372036854775807) := by omega
    have s2 : ¬ (op.size + 2 + T.size > 9223372036854775807) := by omega
    rcases ht with rfl | rfl | rfl
    all_goals
      simp only [errFn] at hm hc
      go_enter Tryd.func12, Tryd.ntmps12
      go_wp2_with (refine hc.mono ?_; rintro e2 w2 ⟨rfl, hb⟩)
      go_ret
      exact ⟨rfl, hb⟩
  · rw [if_neg hp] at hs ⊢
    have hp2 := isEmpty_ne path hp
    simp only [ByteArray.size_append] at hs
    have z2 : (⟨#[58, 32]⟩ : ByteArray).size = 2 := rfl
    have z1 : (⟨#[32]⟩ : ByteArray).size = 1 := rfl
    have s0 : ¬ (1 + path.size > 9223372036854775807) := by omega
    have s1 : ¬ (op.size + (1 + path.size) > 9223372036854775807) := by omega
    have s2 : ¬ (op.size + (1 + path.size) + 2 > 9223372036854775807) := by omega
    have s3 : ¬ (op.size + (1 + path.size) + 2 + T.size > 9223372036854775807) := by omega
    rcases ht with rfl | rfl | rfl
    all_goals
      simp only [errFn] at hm hc
      go_enter Tryd.func12, Tryd.ntmps12
      go_wp2_with (refine hc.mono ?_; rintro e2 w2 ⟨rfl, hb⟩)
      go_ret
      exact ⟨rfl, hb⟩
end Go.Proofs.YtcodlhjedhaaaaaDoor
