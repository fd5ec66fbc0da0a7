/-
  way.
-/
import Derived.Test.YtcodlhjedhaaaaaDoorF9
namespace Go.Proofs.YtcodlhjedhaaaaaDoor
open Go.RowKit
set_option maxRecDepth 100000

/-- The faults on the way. -/
def Er.way : Er → List (ByteArray × ByteArray)
  | .none => []
  | .num _ => []
  | .flt op path x => (op, path) :: x.way
  | .lst [] => []
  | .lst (x :: _) => x.way
theorem way_size : ∀ x : Er, 2 * x.way.length ≤ x.text.size
  | .none => by simp [Er.way]
  | .num _ => by simp [Er.way]
  | .flt op path x => by
    have ih := way_size x
    rw [Er.way, Er.text]
    have : (⟨#[58, 32]⟩ : ByteArray).size = 2 := rfl
    simp only [ByteArray.size_append, List.length_cons]
    omega
  | .lst [] => by simp [Er.way]
  | .lst (x :: l) => by
    have ih := way_size x
    have := size_kid (x :: l) 0 x rfl
    rw [Er.way]
    omega
/-- Blocks of faults with these operations and paths. -/
def Fs (w : World) (bs : List Nat) (L : List (ByteArray × ByteArray)) : Prop := bs.length = L.length ∧ ∀ (i : Nat) b q, bs[i]? = some b → L[i]? = some q → b < w.heap.size ∧ ∃ u, w.rowIs b 39 3 (fltRow q.1 q.2 u)
theorem Fs.nil (w : World) : Fs w [] [] := ⟨rfl, fun i b q h => by simp at h⟩
theorem Fs.snoc {w : World} {bs : List Nat} {L : List (ByteArray × ByteArray)} (h : Fs w bs L) {b : Nat} {op path : ByteArray} {u : Value} (hr : w.rowIs b 39 3 (fltRow op path u)) : Fs w (bs ++ [b]) (L ++ [(op, path)]) := by
  refine ⟨by simp [h.1], fun i b' q hb hq => ?_⟩
  by_cases hi : i < bs.length
  · rw [List.getElem?_append_left hi] at hb
    rw [List.getElem?_append_left (by rw [← h.1]; exact hi)] at hq
    exact h.2 i b' q hb hq
  · rw [List.getElem?_append_right (by omega)] at hb
    rw [List.getElem?_append_right (by rw [← h.1]; omega), ← h.1] at hq
    have : i - bs.length = 0 := by
      have := (List.getElem?_eq_some_iff.1 hb).1
      simp at this
      omega
    rw [this] at hb hq
    simp at hb hq
    subst hb hq
    exact ⟨hr.lt, u, hr⟩
theorem info29 : (Tryd.prog.info? 29).map (fun i => (i.zero, i.size, i.bytes)) = some (some (.pointer none), 1, 8) := by kernel_rfl
def ptrs (bs : List Nat) : List Value := bs.map fun b => .pointer (some ⟨b, 0, none⟩)
end Go.Proofs.YtcodlhjedhaaaaaDoor
