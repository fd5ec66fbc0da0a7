/-
  The reference's Texts, of the same texts.
-/
import Derived.Test.YtcodlhjedhaaaaaDoorF13
namespace Go.Proofs.YtcodlhjedhaaaaaDoor
open Go.RowKit
set_option maxRecDepth 100000

set_option maxHeartbeats 4000000 in
/-- Texts: the same. -/
theorem texts_same (b1 b2 : Nat) (L : List ByteArray) (v1 v2 : Value) (w : World) (hn : L.length ≤ 1000000000) (h1 : w.ownsRow b1 9 1 v1 L.length (L.map .string)) (h2 : w.ownsRow b2 9 1 v2 L.length (L.map .string)) :
    Calls Tryd.prog 21 #[v1, v2] w fun ex w' => ex = .returned (.bool true) ∧ Below w.heap.size w w' := by
  obtain ⟨a1, c1, rfl, hc1, hm1, hx1⟩ := own1_any h1
  obtain ⟨a2, c2, rfl, hc2, hm2, hx2⟩ := own1_any h2
  have H1 := Lib.hid hx1
  have H2 := Lib.hid hx2
  unfold maxLen at hm1 hm2
  clear h1 h2 hx1 hx2
  go_enter Tryd.func21, Tryd.ntmps21
  go_wp2_with fail
  go_loopw [5] (fun i wr => ∃ k : Nat, k ≤ L.length ∧ i = .int .i64 k ∧ Below w.heap.size w wr) (fun i _ => L.length - (intOf i).toNat)
  case atStart => exact ⟨0, by omega, rfl, Below.refl _ _⟩
  case round =>
    obtain ⟨k, hk, rfl, hb⟩ := hrel
    by_cases hlt2 : k < L.length
    · obtain ⟨s, hs⟩ : ∃ s, L[k]? = some s := ⟨_, List.getElem?_eq_getElem hlt2⟩
      obtain ⟨g1, rfl, _, hg1, e1⟩ := H1.out k (.string s) (by simp [hs])
      obtain ⟨g2, rfl, _, hg2, e2⟩ := H2.out k (.string s) (by simp [hs])
      have d1 := (hb.cell (p := ⟨g1, k, none⟩) hg1).trans e1
      have d2 := (hb.cell (p := ⟨g2, k, none⟩) hg2).trans e2
      clear hs e1 e2
      go_wp2_with fail
      go_quiet (fail)
      go_wp2_with fail
      go_roundw
      case rel => exact ⟨k + 1, by omega, by go_num, below_drewN hb _⟩
      case measure => simp [intOf]; omega
    · obtain rfl : k = L.length := by omega
      go_wp2_with fail
      go_ret
      exact ⟨rfl, hb⟩
end Go.Proofs.YtcodlhjedhaaaaaDoor
