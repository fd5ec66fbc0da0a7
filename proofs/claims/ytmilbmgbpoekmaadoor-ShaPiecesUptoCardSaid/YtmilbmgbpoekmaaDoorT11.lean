/-
  TWO DIGESTS COMPARED; the law ShaSums' walk.
-/
import Derived.Test.YtmilbmgbpoekmaaDoorT10
import Derived.ChangeKeysEq
namespace Go.Proofs.YtmilbmgbpoekmaaDoor
open Go.RowKit
set_option maxRecDepth 100000

theorem eqGuard25 : Tryd.prog.eqGuardType Tryd.prog.depth 25 = false := by kernel_rfl
theorem plain5 : Tryd.prog.plainKey 5 = true := by kernel_rfl
theorem cells5 : Tryd.prog.cellsOf 5 = 1 := by kernel_rfl
theorem eqItems_u8 (d : Nat) (l m : List Int) (w : World) : ∀ is : List Nat, (∀ i ∈ is, i < l.length ∧ i < m.length) →
    (Op.eqItems (d + 1) 5 1 (u8s l).toArray (u8s m).toArray is).run Tryd.prog w = .ok (is.all fun i => l.getD i 0 == m.getD i 0) w
  | [], _ => by simp [Op.eqItems]
  | i :: is, h => by
    obtain ⟨h1, h2⟩ := h i (by simp)
    have p1 := run_part_plain (P := Tryd.prog) w plain5 (xs := (u8s l).toArray) (off := i * 1) (v := .int .u8 (l.getD i 0)) (by rw [Nat.mul_one]; simpa using u8s_get l i h1)
    have p2 := run_part_plain (P := Tryd.prog) w plain5 (xs := (u8s m).toArray) (off := i * 1) (v := .int .u8 (m.getD i 0)) (by rw [Nat.mul_one]; simpa using u8s_get m i h2)
    have p3 := run_equalIn_int (P := Tryd.prog) w d 5 .u8 .u8 (l.getD i 0) (m.getD i 0) Tryd.underlying5
    simp only [Op.eqItems, Sem.run_bind, p1, p2, p3, Result.andThen_ok, List.all_cons]
    cases e : (l.getD i 0 == m.getD i 0)
    · simp
    · simp only [Bool.not_true, Bool.false_eq_true, if_false, Bool.true_and]
      exact eqItems_u8 d l m w is (fun j hj => h j (by simp [hj]))
theorem all_range_eq (l m : List Int) (n : Nat) (hl : l.length = n) (hm : m.length = n) : ((List.range n).all fun i => l.getD i 0 == m.getD i 0) = (l == m) := by
  rw [Bool.eq_iff_iff]
  simp only [List.all_eq_true, List.mem_range, beq_iff_eq]
  constructor
  · intro h
    apply List.ext_getElem?
    intro i
    by_cases hi : i < n
    · have := h i hi
      rw [List.getD_eq_getElem?_getD, List.getD_eq_getElem?_getD, List.getElem?_eq_getElem (by omega), List.getElem?_eq_getElem (by omega)] at this
      rw [List.getElem?_eq_getElem (by omega), List.getElem?_eq_getElem (by omega)]
      simpa using this
    · rw [List.getElem?_eq_none (by omega), List.getElem?_eq_none (by omega)]
  · rintro rfl i _
    rfl
theorem run_equalIn_25 (d : Nat) (l m : List Int) (hl : l.length = 32) (hm : m.length = 32) (w : World) :
    (Op.equalIn (d + 2) 25 (.agg (u8s l).toArray) (.agg (u8s m).toArray)).run Tryd.prog w = .ok (l == m) w := by
  have hinfo : (Tryd.prog.info? 5).map (fun i => (i.zero, i.size, i.bytes)) = some (some (.int .u8 0), 1, 1) := by kernel_rfl
  obtain ⟨i, hi, _⟩ := info_parts hinfo
  rw [run_equalIn_array w (d + 1) _ _ Tryd.underlying25 hi, cells5, eqItems_u8 d l m w _ (fun i hi => by have := List.mem_range.1 hi; omega), all_range_eq l m 32 hl hm]

set_option maxHeartbeats 1000000 in
/-- veneerlaw01.ShaSums(data). -/
theorem shaSums_walk (a : Option Addr) (cap : Nat) (l : List Int) (w : World) (hB : BytesAt (fun b => b < w.heap.size) w a cap l) (hcap : cap ≤ 140737488351232) (h0 : 0 < w.heap.size) (hT : TabK w) :
    Calls Tryd.prog 3 #[.slice a l.length cap] w fun e w' => e = .returned (.bool true) ∧ Below w.heap.size w w' := by
  have HT := Lib.hid hT
  clear hT
  have hg := eqGuard25
  go_enter Tryd.func3, Tryd.ntmps3
  go_wp2_with fail
  go_at_call 9
  refine (awake_any w h0 HT.out).mono ?_
  rintro e w1 ⟨rfl, hb1⟩
  go_wp2_with fail
  go_at_call 10
  refine (sum_any a cap l w1 (hB.to (fun b h => Nat.lt_of_lt_of_le h hb1.size) (fun b h => hb1.block b h)) (by omega) (Nat.lt_of_lt_of_le h0 hb1.size) (TabK.below HT.out h0 hb1)).mono ?_
  rintro e w2 ⟨rfl, hb2⟩
  have hb12 := hb1.trans (hb2.mono hb1.size)
  obtain ⟨cs, hcs⟩ : ∃ cs, cs = (u8s (Sha.sum l)).toArray := ⟨_, rfl⟩
  rw [← hcs]
  go_wp2_with fail
  go_at_call 11
  refine (ref_any a cap l w2 (hB.to (fun b h => Nat.lt_of_lt_of_le h hb12.size) (fun b h => hb12.block b h)) hcap).mono ?_
  rintro e w3 ⟨rfl, hb3⟩
  have hb13 := hb12.trans (hb3.mono hb12.size)
  rw [← hcs]
  have heq : (Op.equalIn 10000 25 (.agg cs) (.agg cs)).run Tryd.prog w3 = .ok true w3 := by
    rw [hcs, run_equalIn_25 9998 _ _ (Sha.length_sum l) (Sha.length_sum l)]
    simp
  clear hcs
  go_wp2_with fail
  go_ret
  exact ⟨rfl, hb13⟩
end Go.Proofs.YtmilbmgbpoekmaaDoor
