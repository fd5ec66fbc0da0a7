/-
  The reference's Way.
-/
import Derived.Test.YtcodlhjedhaaaaaDoorF12
import Derived.OwnWalk
namespace Go.Proofs.YtcodlhjedhaaaaaDoor
open Go.RowKit
set_option maxRecDepth 100000

theorem RefAt.one {I : Nat → Prop} {w : World} {x : Er} {f : Nat → Value} (h : RefAt I w x f) (j : Nat) : (f j).oneCell' = true := by
  cases h <;> (unfold refc; split <;> rfl)
theorem pathOf_snoc (L : List (ByteArray × ByteArray)) (op path : ByteArray) : pathOf (L ++ [(op, path)]) = if path = ⟨#[]⟩ then pathOf L else path := by
  simp [pathOf, List.foldl_append]

set_option maxHeartbeats 8000000 in
/-- The reference's Way. -/
theorem rway_any (I : Nat → Prop) (x : Er) (f : Nat → Value) (w : World) (h : RefAt I w x f) (hs : x.text.size ≤ 1000000000) :
    Calls Tryd.prog 18 #[.agg (rowArr 5 f)] w fun ex w' => ∃ v', ex = .returned (.tuple #[.int .i64 x.code, .string (pathOf x.way), v']) ∧ w'.ownsRow w.heap.size 9 1 v' x.way.length (x.way.map fun q => .string q.1) ∧ Below w.heap.size w w' := by
  have HS := Lib.hid (way_size x)
  have HS2 := Lib.hid hs
  have k1 : Below w.heap.size w (w.alloc (.cells (rowArr 5 f) 37)) := (Below.refl _ _).alloc (Nat.le_refl _) _
  have HR0 := Lib.hid (show (w.alloc (.cells (rowArr 5 f) 37)).rowIs w.heap.size 37 5 f from ⟨_, Go.Deep.blk_alloc_new _ _, size_rowArr 5 f, get_rowArr 5 f⟩)
  have HREL := Lib.hid (show ∃ (y : Er) (f' : Nat → Value) (pre : List (ByteArray × ByteArray)), y.sz ≤ x.sz ∧ RefAt (fun b => b < w.heap.size) w y f' ∧ pre ++ y.way = x.way ∧ y.code = x.code ∧ pre = [] ∧ f' = f from
    ⟨x, f, [], Nat.le_refl _, h.any _ (fun b _ hb => hb), rfl, rfl, rfl, rfl⟩)
  have HK := Lib.hid k1
  clear hs h k1
  rw [rowArr5] at *
  go_enter Tryd.func18, Tryd.ntmps18
  go_wp2
  go_loopg [5, 6] x.sz (fun k p o wr => ∃ (y : Er) (f' : Nat → Value) (pre : List (ByteArray × ByteArray)), y.sz ≤ k ∧ RefAt (fun b => b < w.heap.size) w y f' ∧ pre ++ y.way = x.way ∧ y.code = x.code ∧ p = .string (pathOf pre) ∧ wr.rowIs w.heap.size 37 5 f' ∧ wr.ownsRow (w.heap.size + 1) 9 1 o pre.length (pre.map fun q => Value.string q.1) ∧ Below w.heap.size w wr)
  case atStart =>
    obtain ⟨y, f', pre, h1, h2, h3, h4, rfl, rfl⟩ := HREL.out
    exact ⟨y, f', [], h1, h2, h3, h4, rfl, HR0.out, World.ownsRow_nil _ _ _ _, HK.out⟩
  case round =>
    obtain ⟨y, f', pre, hy1, hy2, hy3, hy4, rfl, hrow, hown, hb⟩ := hrel
    have HB := Lib.hid hb
    have HO := Lib.hid hown
    have HROW := Lib.hid hrow
    have c0 := hrow.cell (i := 0) (by omega)
    have c1 := hrow.cell (i := 1) (by omega)
    have c2 := hrow.cell (i := 2) (by omega)
    have c3 := hrow.cell (i := 3) (by omega)
    have c4 := hrow.cell (i := 4) (by omega)
    cases hy2 with
    | none =>
      rw [Er.way, List.append_nil] at hy3
      rw [Er.code] at hy4
      simp only [refc] at c0 c1 c2 c3 c4
      have HY3 := Lib.hid hy3
      have HY4 := Lib.hid hy4
      clear hy3 hy4
      go_wp2
      go_ret3
      exact ⟨_, by rw [← HY3.out, ← HY4.out]; rfl, by rw [← HY3.out]; exact ownsRow_base (Nat.le_succ _) hown, hb⟩
    | num e h0 h1 =>
      rw [Er.way, List.append_nil] at hy3
      rw [Er.code] at hy4
      simp only [refc] at c0 c1 c2 c3 c4
      have HY3 := Lib.hid hy3
      have HY4 := Lib.hid hy4
      clear hy3 hy4
      go_wp2
      go_ret3
      exact ⟨_, by rw [← HY3.out, ← HY4.out]; rfl, by rw [← HY3.out]; exact ownsRow_base (Nat.le_succ _) hown, hb⟩
    | flt op path z g cap f2 hz hI hg hcap hc hu =>
      simp only [refc] at c0 c1 c2 c3 c4
      rw [Er.way] at hy3
      rw [Er.code] at hy4
      have hlen : pre.length ≤ 500000000 := by
        have h1 := HS.out
        have h2 := HS2.out
        have h3 := congrArg List.length hy3
        simp at h3
        omega
      have HU := Lib.hid hu
      have HC := Lib.hid hc
      have HONE := Lib.hid hu.one
      have hsz := size_in_lt op path z
      obtain ⟨gk', rfl⟩ : ∃ m, gk = m + 1 := ⟨gk - 1, by have := sz_pos (Er.flt op path z); omega⟩
      have HP := Lib.hid (pathOf_snoc pre op path)
      clear hu hc hown hb
      by_cases hp : path = ⟨#[]⟩
      · rw [if_pos hp] at HP
        rw [hp] at c3
        go_wp2_with (first
          | (refine wpList_append_src rfl (.tmp 18) (.tmp 21) 45 rfl (w.heap.size + 1) 9 1 16 _ Tryd.underlying45 info9 rfl (by omega) _ _ _ rfl (ownsRow_keep HO.out (fun j hj => Go.Deep.blk_alloc_lt _ _ _ (World.ownsRow.lt HO.out j hj).2)) _ 1 [.string op] rfl (Src.of_block (Go.Deep.blk_alloc_new wr _) rfl) (by simp [Value.oneCell']) (by unfold maxLen; omega) (by omega) (by have := HROW.out.lt; rw [Go.Deep.nblk_alloc]; omega) ?_; intro v3 w3 hown3 hgr3 _
             have hb3 : Below w.heap.size w w3 := (HB.out.alloc HB.out.size _).grown hgr3 (HB.out.alloc HB.out.size _).size (fun j hj => by have := (World.ownsRow.lt HO.out j hj).1; omega)
             have hrow3 : w3.rowIs w.heap.size 37 5 (refc 2 0 op path (.slice (some ⟨g, 0, none⟩) 1 cap)) := (HROW.out.alloc _).of_block (hgr3.block w.heap.size (HROW.out.alloc _).lt (by intro e; have := World.ownsRow.lt HO.out _ (by first | exact e | exact e.symm); omega))
             have c3' : w3.cell? ⟨w.heap.size, 3, none⟩ = some (.string ⟨#[]⟩) := (hrow3.cell (i := 3) (by omega)).trans (by rw [hp]; rfl)
             have c4' : w3.cell? ⟨w.heap.size, 4, none⟩ = some (.slice (some ⟨g, 0, none⟩) 1 cap) := hrow3.cell (i := 4) (by omega)
             have HO3 := Lib.hid hown3
             have HR3 := Lib.hid hrow3
             have HB3 := Lib.hid hb3
             clear hown3 hgr3 hrow3 hb3)
          | (refine wpList_load_part rfl 37 (.tmp 30) rfl g 0 rfl 5 f2 (fun j hj => by rw [Nat.zero_add]; exact (HB3.out.cell (p := ⟨g, j, none⟩) hg).trans (HC.out j hj)) _ Tryd.underlying37 rfl sz37 ?_; intro cs hcs; obtain rfl := hcs.out)
          | (refine wpList_store_abs rfl 37 (.tmp 1) (.tmp 31) rfl w.heap.size rfl (rowArr 5 f2) rfl 37 5 f2 _ HR3.out rfl sz37 (fun j hj => HONE.out j) ?_; intro w4 hrow4 hgr4 hsz4)
          | fail)
        go_roundg gk'
        case measure => omega
        case rel => exact ⟨z, f2, pre ++ [(op, path)], by omega, HU.out, by rw [List.append_assoc]; exact hy3, hy4, by rw [HP.out], hrow4, ownsRow_keep (by rw [List.length_append, List.map_append]; exact HO3.out) (fun j hj => hgr4.block j (World.ownsRow.lt HO3.out j hj).2 (by intro e; have := (World.ownsRow.lt HO3.out j hj).1; simp at e; omega)), HB3.out.trans (below_of_grown hgr4 (Nat.le_refl _) HB3.out.size)⟩
      · rw [if_neg hp] at HP
        have hp2 := isEmpty_ne path hp
        go_wp2_with (first
          | (refine wpList_append_src rfl (.tmp 18) (.tmp 21) 45 rfl (w.heap.size + 1) 9 1 16 _ Tryd.underlying45 info9 rfl (by omega) _ _ _ rfl (ownsRow_keep HO.out (fun j hj => Go.Deep.blk_alloc_lt _ _ _ (World.ownsRow.lt HO.out j hj).2)) _ 1 [.string op] rfl (Src.of_block (Go.Deep.blk_alloc_new wr _) rfl) (by simp [Value.oneCell']) (by unfold maxLen; omega) (by omega) (by have := HROW.out.lt; rw [Go.Deep.nblk_alloc]; omega) ?_; intro v3 w3 hown3 hgr3 _
             have hb3 : Below w.heap.size w w3 := (HB.out.alloc HB.out.size _).grown hgr3 (HB.out.alloc HB.out.size _).size (fun j hj => by have := (World.ownsRow.lt HO.out j hj).1; omega)
             have hrow3 : w3.rowIs w.heap.size 37 5 (refc 2 0 op path (.slice (some ⟨g, 0, none⟩) 1 cap)) := (HROW.out.alloc _).of_block (hgr3.block w.heap.size (HROW.out.alloc _).lt (by intro e; have := World.ownsRow.lt HO.out _ (by first | exact e | exact e.symm); omega))
             have c3' : w3.cell? ⟨w.heap.size, 3, none⟩ = some (.string path) := hrow3.cell (i := 3) (by omega)
             have c4' : w3.cell? ⟨w.heap.size, 4, none⟩ = some (.slice (some ⟨g, 0, none⟩) 1 cap) := hrow3.cell (i := 4) (by omega)
             have HO3 := Lib.hid hown3
             have HR3 := Lib.hid hrow3
             have HB3 := Lib.hid hb3
             clear hown3 hgr3 hrow3 hb3)
          | (refine wpList_load_part rfl 37 (.tmp 30) rfl g 0 rfl 5 f2 (fun j hj => by rw [Nat.zero_add]; exact (HB3.out.cell (p := ⟨g, j, none⟩) hg).trans (HC.out j hj)) _ Tryd.underlying37 rfl sz37 ?_; intro cs hcs; obtain rfl := hcs.out)
          | (refine wpList_store_abs rfl 37 (.tmp 1) (.tmp 31) rfl w.heap.size rfl (rowArr 5 f2) rfl 37 5 f2 _ HR3.out rfl sz37 (fun j hj => HONE.out j) ?_; intro w4 hrow4 hgr4 hsz4)
          | fail)
        go_roundg gk'
        case measure => omega
        case rel => exact ⟨z, f2, pre ++ [(op, path)], by omega, HU.out, by rw [List.append_assoc]; exact hy3, hy4, by rw [HP.out], hrow4, ownsRow_keep (by rw [List.length_append, List.map_append]; exact HO3.out) (fun j hj => hgr4.block j (World.ownsRow.lt HO3.out j hj).2 (by intro e; have := (World.ownsRow.lt HO3.out j hj).1; simp at e; omega)), HB3.out.trans (below_of_grown hgr4 (Nat.le_refl _) HB3.out.size)⟩
    | lst l g n cap fs hl h2 hcap hmax hI hg hc hx hu =>
      simp only [refc] at c0 c1 c2 c3 c4
      obtain ⟨z, l', rfl⟩ : ∃ z l', l = z :: l' := by
        cases l with
        | nil => simp at hl; omega
        | cons z l' => exact ⟨z, l', rfl⟩
      rw [Er.way] at hy3
      rw [Er.code] at hy4
      have hu0 := hu 0 z rfl
      have HU := Lib.hid hu0
      have HC := Lib.hid hc
      have HONE := Lib.hid hu0.one
      have hsz : z.sz < (Er.lst (z :: l')).sz := size_kid_lt (i := 0) rfl
      obtain ⟨gk', rfl⟩ : ∃ m, gk = m + 1 := ⟨gk - 1, by have := sz_pos (Er.lst (z :: l')); omega⟩
      have h0n : 0 < n := by omega
      have h0n' : (0 : Int) < (n : Int) := by omega
      clear hu hu0 hc hown hb hx hl
      go_wp2_with (first
        | (refine wpList_load_part rfl 37 (.tmp 30) rfl g 0 rfl 5 (fs 0) (fun j hj => (HB.out.cell (p := ⟨g, 0 + j, none⟩) hg).trans (by have := HC.out 0 j h0n hj; simpa using this)) _ Tryd.underlying37 rfl sz37 ?_; intro cs hcs; obtain rfl := hcs.out)
        | (refine wpList_store_abs rfl 37 (.tmp 1) (.tmp 31) rfl w.heap.size rfl (rowArr 5 (fs 0)) rfl 37 5 (fs 0) _ HROW.out rfl sz37 (fun j hj => HONE.out j) ?_; intro w4 hrow4 hgr4 hsz4)
        | fail)
      go_roundg gk'
      case measure => omega
      case rel => exact ⟨z, fs 0, pre, by omega, HU.out, hy3, hy4, rfl, hrow4, ownsRow_keep HO.out (fun j hj => hgr4.block j (World.ownsRow.lt HO.out j hj).2 (by intro e; have := (World.ownsRow.lt HO.out j hj).1; simp at e; omega)), HB.out.trans (below_of_grown hgr4 (Nat.le_refl _) HB.out.size)⟩
end Go.Proofs.YtcodlhjedhaaaaaDoor
