import Derived.Test.YtmilbmgbpoekmaaDoorRows
import Derived.Test.YtmilbmgbpoekmaaDoorSpec
import Derived.WalkKit
import Derived.WalkSpells
import Derived.WalkLawsBesides
namespace Go.Proofs.YtmilbmgbpoekmaaDoor
open Go.RowKit

theorem mask31 : ∀ n : Nat, n < 32 → 0 < n → bits BinOp.and IntKind.u64 (IntKind.u64.wrap (-(n : Int))) 31 = ((32 - n : Nat) : Int) := by decide +kernel

set_option maxHeartbeats 400000 in
/-- math/bits.RotateLeft32(x, -n). -/
theorem rot_any (n : Nat) (h0 : 0 < n) (h1 : n < 32) (x k : Int) (w : World) (hk : k = -(n : Int)) :
    Calls Tryd.prog 29 #[.int .u32 x, .int .i64 k] w fun e w' => e = .returned (.int .u32 (Sha.rotr x n)) ∧ w = w' := by
  have hm : bits BinOp.and IntKind.u64 (IntKind.u64.wrap k) 31 = ((32 - n : Nat) : Int) := by rw [hk]; exact mask31 n h1 h0
  obtain ⟨m, hmn⟩ : ∃ m, m = 32 - n := ⟨_, rfl⟩
  rw [← hmn] at hm
  have b1 : m < 32 := by omega
  have b2 : 0 < m := by omega
  have hn : n = 32 - m := by omega
  have HN := hn
  subst hn
  clear hk hmn HN h0 h1
  go_enter Tryd.func29, Tryd.ntmps29
  go_wp2
  go_ret
  refine ⟨?_, rfl⟩
  unfold Sha.rotr
  rw [Sha.bits_or_comm, show 32 - (32 - m) = m by omega]
  rfl

set_option maxHeartbeats 400000 in
/-- veneerref01.turn(x, n). -/
theorem turn_any (n : Nat) (h0 : 0 < n) (h1 : n < 32) (x k : Int) (w : World) (hk : k = (n : Int)) :
    Calls Tryd.prog 23 #[.int .u32 x, .int .u64 k] w fun e w' => e = .returned (.int .u32 (Sha.rotr x n)) ∧ w = w' := by
  subst hk
  go_enter Tryd.func23, Tryd.ntmps23
  go_wp2
  go_ret
  refine ⟨?_, rfl⟩
  simp [Sha.rotr]
theorem rot_k (x k : Int) (w : World) (h : -32 < k ∧ k < 0) :
    Calls Tryd.prog 29 #[.int .u32 x, .int .i64 k] w fun e w' => e = .returned (.int .u32 (Sha.rotr x (-k).toNat)) ∧ w = w' :=
  rot_any (-k).toNat (by omega) (by omega) x k w (by omega)
theorem turn_k (x k : Int) (w : World) (h : 0 < k ∧ k < 32) :
    Calls Tryd.prog 23 #[.int .u32 x, .int .u64 k] w fun e w' => e = .returned (.int .u32 (Sha.rotr x k.toNat)) ∧ w = w' :=
  turn_any k.toNat (by omega) (by omega) x k w (by omega)
end Go.Proofs.YtmilbmgbpoekmaaDoor
