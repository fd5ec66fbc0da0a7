/-
  THE LAWS' FIRST WORD (awake): the digest of "abc" is the known one.
-/
import Derived.Test.YtmilbmgbpoekmaaDoorT9
import Derived.Test.YtmilbmgbpoekmaaDoorT8
import Derived.Lib.SlBytesConst
namespace Go.Proofs.YtmilbmgbpoekmaaDoor
open Go.RowKit
set_option maxRecDepth 100000

theorem abc_sum : Sha.sum [97, 98, 99] = [186, 120, 22, 191, 143, 1, 207, 234, 65, 65, 64, 222, 93, 174, 34, 35, 176, 3, 97, 163, 150, 23, 122, 156, 180, 16, 255, 97, 242, 0, 21, 173] := by decide +kernel
theorem abc_hex : strOfNums (hexL (Sha.sum [97, 98, 99])) = ⟨#[98, 97, 55, 56, 49, 54, 98, 102, 56, 102, 48, 49, 99, 102, 101, 97, 52, 49, 52, 49, 52, 48, 100, 101, 53, 100, 97, 101, 50, 50, 50, 51, 98, 48, 48, 51, 54, 49, 97, 51, 57, 54, 49, 55, 55, 97, 57, 99, 98, 52, 49, 48, 102, 102, 54, 49, 102, 50, 48, 48, 49, 53, 97, 100]⟩ := by
  rw [abc_sum]
  rfl
theorem abc_len : (Sha.sum [97, 98, 99]).length = 32 := by rw [abc_sum]; rfl
theorem abc_byte : ∀ j, 0 ≤ (Sha.sum [97, 98, 99]).getD j 0 ∧ (Sha.sum [97, 98, 99]).getD j 0 < 256 := by
  have h : ∀ x ∈ Sha.sum [97, 98, 99], 0 ≤ x ∧ x < 256 := by rw [abc_sum]; decide
  intro j
  rw [List.getD_eq_getElem?_getD]
  cases e : (Sha.sum [97, 98, 99])[j]? with
  | none => simp
  | some x => exact h x (List.mem_of_getElem? e)
theorem abc_at (w : World) : BytesAt (fun b => b < (w.alloc (.cells #[.int .u8 97, .int .u8 98, .int .u8 99] 5 (3, 4))).heap.size) (w.alloc (.cells #[.int .u8 97, .int .u8 98, .int .u8 99] 5 (3, 4))) (some ⟨w.heap.size, 0, none⟩) 3 [97, 98, 99] :=
  ⟨by simp, by simp, fun b' o s e => by
    cases e
    refine ⟨rfl, by simp, fun j hj => ?_⟩
    have hbk : (w.alloc (.cells #[.int .u8 97, .int .u8 98, .int .u8 99] 5 (3, 4))).heap[w.heap.size]? = some (.cells #[.int .u8 97, .int .u8 98, .int .u8 99] 5 (3, 4)) := Go.Deep.blk_alloc_new _ _
    rw [cell_of_row _ w.heap.size _ _ 5 (3, 4) hbk]
    match j, hj with
    | 0, _ => rfl
    | 1, _ => rfl
    | 2, _ => rfl
    | n + 3, h => simp at h; omega, fun j => by
    match j with
    | 0 => simp
    | 1 => simp
    | 2 => simp
    | n + 3 => simp⟩

/-- The table of the round constants. -/
def TabK (w : World) : Prop := ∀ k, k < 64 → w.cell? ⟨0, k, none⟩ = some (.int .u32 (Sha.KL.getD k 0))
theorem TabK.below {w w' : World} (h : TabK w) (h0 : 0 < w.heap.size) (hb : Below w.heap.size w w') : TabK w' := fun k hk =>
  (World.cell?_of_block (w := w) (a := ⟨0, k, none⟩) (hb.block 0 h0)).trans (h k hk)

set_option maxHeartbeats 1000000 in
/-- veneerlaw01.awake(). -/
theorem awake_any (w : World) (h0 : 0 < w.heap.size) (hT : TabK w) :
    Calls Tryd.prog 9 #[] w fun e w' => e = .returned (.bool true) ∧ Below w.heap.size w w' := by
  have HT := Lib.hid hT
  clear hT
  go_enter Tryd.func9, Tryd.ntmps9
  have hcv := Lib.run_convert_bytes_const (P := Tryd.prog) w 22 5 #[.int .u8 97, .int .u8 98, .int .u8 99] 3 3 Tryd.underlying22 Tryd.underlying5
  go_wp2_with fail
  go_at_call 10
  refine (sum_any (some ⟨w.heap.size, 0, none⟩) 3 [97, 98, 99] _ (abc_at w) (by decide) (by simp) ?_).mono ?_
  · exact TabK.below HT.out h0 ((Below.refl _ _).alloc (Nat.le_refl _) _)
  rintro e w1 ⟨rfl, hb1⟩
  obtain ⟨cs, hcs⟩ : ∃ cs, cs = (u8s (Sha.sum [97, 98, 99])).toArray := ⟨_, rfl⟩
  rw [← hcs]
  have HCS := Lib.hid hcs
  clear hcs
  go_wp2_with fail
  go_at_call 14
  rw [HCS.out]
  refine (hex_any _ abc_len abc_byte _).mono ?_
  rintro e w2 ⟨rfl, hb2⟩
  rw [abc_hex]
  go_wp2_with fail
  go_ret
  exact ⟨rfl, ((Below.refl _ _).alloc (Nat.le_refl _) _).trans ((hb1.mono (by simp)).trans (hb2.mono (Nat.le_trans (by simp) hb1.size)))⟩
end Go.Proofs.YtmilbmgbpoekmaaDoor
