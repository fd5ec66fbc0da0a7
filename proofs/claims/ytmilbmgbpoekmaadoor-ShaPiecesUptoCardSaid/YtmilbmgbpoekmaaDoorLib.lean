/-
  SMALL LEMMAS ON WORLDS: a row behind draws; 'below' behind draws; a row's cells out of a literal block.
-/
import Derived.WalkKit
import Derived.Deep.OwnRows
import Derived.Deep.Draws
import Derived.Deep.QuietTactic
import Derived.BigQuiet
namespace Go.Proofs.YtmilbmgbpoekmaaDoor
open Go.RowKit

theorem below_drewN {B : Nat} {a w : World} (h : Below B a w) (n : Nat) : Below B a (w.drewN n) := ⟨h.os, h.tape, h.output, h.size, h.block⟩
theorem rowIs_drewN {w : World} {b : Nat} {t : TypeId} {n : Nat} {f : Nat → Value} (h : w.rowIs b t n f) (k : Nat) : (w.drewN k).rowIs b t n f := h
theorem rowIs_below {B : Nat} {w w' : World} {b : Nat} {t : TypeId} {n : Nat} {f : Nat → Value} (h : w.rowIs b t n f) (hb : Below B w w') (hB : b < B) : w'.rowIs b t n f :=
  h.of_block (hb.block b hB)
theorem grown_drewN {a w : World} {row : Option Nat} (h : a.grownBy w row) (n : Nat) : a.grownBy (w.drewN n) row := ⟨h.os, h.tape, h.output, h.size, h.block⟩
theorem grown_drew {a w : World} {row : Option Nat} (h : a.grownBy w row) : a.grownBy w.drew row := ⟨h.os, h.tape, h.output, h.size, h.block⟩
theorem grown_of_below {a w : World} {B : Nat} (hB : a.heap.size ≤ B) (h : Below B a w) (row : Option Nat) : a.grownBy w row := ⟨h.os, h.tape, h.output, h.size, fun i hi _ => h.block i (by omega)⟩
theorem grown_setCell {a w : World} {g : Nat} (h : a.grownBy w (some g)) {p : Addr} (hp : p.block = g ∨ a.heap.size ≤ p.block) (u : Value) : a.grownBy (w.setCell p u) (some g) :=
  ⟨h.os, h.tape, h.output, by simpa [World.setCell] using h.size, fun i hi hne => (Below.heap_setCell w p u i (by
    rintro rfl
    rcases hp with hp | hp
    · exact hne (by rw [hp])
    · omega)).trans (h.block i hi hne)⟩
theorem grown_alloc {a w : World} {row : Option Nat} (h : a.grownBy w row) (o : Obj) : a.grownBy (w.alloc o) row :=
  ⟨h.os, h.tape, h.output, Nat.le_trans h.size (by simp), fun i hi hne => (Below.heap_alloc w o i (Nat.lt_of_lt_of_le hi h.size)).trans (h.block i hi hne)⟩
theorem grown_trans {a b c : World} {row : Option Nat} (h : a.grownBy b row) (k : b.grownBy c row) : a.grownBy c row :=
  ⟨k.os.trans h.os, k.tape.trans h.tape, k.output.trans h.output, Nat.le_trans h.size k.size, fun i hi hne => (k.block i (Nat.lt_of_lt_of_le hi h.size) hne).trans (h.block i hi hne)⟩
theorem grown_refl (a : World) (row : Option Nat) : a.grownBy a row := ⟨rfl, rfl, rfl, Nat.le_refl _, fun _ _ _ => rfl⟩
/-- What is written into one own block only, seen from below it. -/
theorem below_of_grown {B : Nat} {a w : World} {g : Nat} (h : a.grownBy w (some g)) (hB : B ≤ g) (hs : B ≤ a.heap.size) : Below B a w :=
  ⟨h.os, h.tape, h.output, h.size, fun k hk => h.block k (by omega) (by intro e; cases e; omega)⟩
theorem grown_cell {a w : World} {g : Nat} (h : a.grownBy w (some g)) {p : Addr} (hp : p.block < a.heap.size) (hne : p.block ≠ g) : w.cell? p = a.cell? p :=
  World.cell?_of_block (w := a) (h.block p.block hp (by intro e; cases e; exact hne rfl))
theorem rowIs_grown {w w' : World} {g b : Nat} {t : TypeId} {n : Nat} {f : Nat → Value} (h : w.rowIs b t n f) (hb : w.grownBy w' (some g)) (hne : b ≠ g) : w'.rowIs b t n f :=
  h.of_block (hb.block b h.lt (by intro e; cases e; exact hne rfl))
/-- A row out of a literal block. -/
theorem rowIs_lit (w : World) (l : List Value) (t : TypeId) (n : Nat) (f : Nat → Value) (h : l = (List.range n).map f) : (w.alloc (.cells l.toArray t)).rowIs w.heap.size t n f := by
  have hn : l.length = n := by rw [h]; simp
  refine ⟨l.toArray, Go.Deep.blk_alloc_new _ _, by simpa using hn, fun i hi => ?_⟩
  subst h
  simp [hi]
/-- A callee that leaves the world alone, met in a quiet region: the first one, and one behind others. -/
theorem quiet_l {P : Program} {f : FuncId} {args : Array Value} {w : World} {n : Nat} {v : Value}
    (h : Calls P f args (w.drewN n) fun e w' => e = .returned v ∧ w.drewN n = w') : Calls P f args (w.drewN n) fun e w'' => e = .returned v ∧ ∃ m, w'' = w.drewN m :=
  h.mono fun _ _ ⟨he, hm⟩ => ⟨he, n, hm.symm⟩
theorem quiet_al {P : Program} {f : FuncId} {args : Array Value} {w : World} {a n : Nat} {v : Value}
    (h : Calls P f args (w.drewN (a + n)) fun e w' => e = .returned v ∧ w.drewN (a + n) = w') :
    Calls P f args (w.drewN (a + n)) fun e w'' => e = .returned v ∧ ∃ m, w'' = (w.drewN a).drewN m :=
  h.mono fun _ _ ⟨he, hm⟩ => ⟨he, n, by rw [← hm, World.drewN_drewN]⟩
theorem quiet_al2 {P : Program} {f : FuncId} {args : Array Value} {w : World} {a n : Nat} {v : Value}
    (h : Calls P f args (w.drewN (a + n)) fun e w' => e = .returned v ∧ w.drewN (a + n) = w') :
    Calls P f args (w.drewN (a + n)) fun e w'' => e = .returned v ∧ ∃ m, w'' = w.drewN (a + m) :=
  h.mono fun _ _ ⟨he, hm⟩ => ⟨he, n, hm.symm⟩
theorem rowIs_set8 {w : World} {m : Nat} {t : TypeId} {f g : Nat → Value} {v0 v1 v2 v3 v4 v5 v6 v7 : Value} (h : w.rowIs m t 8 f)
    (e0 : v0 = g 0) (e1 : v1 = g 1) (e2 : v2 = g 2) (e3 : v3 = g 3) (e4 : v4 = g 4) (e5 : v5 = g 5) (e6 : v6 = g 6) (e7 : v7 = g 7) :
    ((((((((w.setCell ⟨m, 0, none⟩ v0).setCell ⟨m, 1, none⟩ v1).setCell ⟨m, 2, none⟩ v2).setCell ⟨m, 3, none⟩ v3).setCell ⟨m, 4, none⟩ v4).setCell ⟨m, 5, none⟩ v5).setCell ⟨m, 6, none⟩ v6).setCell ⟨m, 7, none⟩ v7).rowIs m t 8 g := by
  refine ((((((((h.set 0 v0).set 1 v1).set 2 v2).set 3 v3).set 4 v4).set 5 v5).set 6 v6).set 7 v7).congr (fun j hj => ?_)
  match j, hj with
  | 0, _ => exact e0
  | 1, _ => exact e1
  | 2, _ => exact e2
  | 3, _ => exact e3
  | 4, _ => exact e4
  | 5, _ => exact e5
  | 6, _ => exact e6
  | 7, _ => exact e7
theorem below_set8 {B : Nat} {a w : World} {m : Nat} {v0 v1 v2 v3 v4 v5 v6 v7 : Value} (h : Below B a w) (hB : B ≤ m) :
    Below B a ((((((((w.setCell ⟨m, 0, none⟩ v0).setCell ⟨m, 1, none⟩ v1).setCell ⟨m, 2, none⟩ v2).setCell ⟨m, 3, none⟩ v3).setCell ⟨m, 4, none⟩ v4).setCell ⟨m, 5, none⟩ v5).setCell ⟨m, 6, none⟩ v6).setCell ⟨m, 7, none⟩ v7) :=
  (((((((h.setCell (p := ⟨m, 0, none⟩) hB v0).setCell (p := ⟨m, 1, none⟩) hB v1).setCell (p := ⟨m, 2, none⟩) hB v2).setCell (p := ⟨m, 3, none⟩) hB v3).setCell (p := ⟨m, 4, none⟩) hB v4).setCell (p := ⟨m, 5, none⟩) hB v5).setCell (p := ⟨m, 6, none⟩) hB v6).setCell (p := ⟨m, 7, none⟩) hB v7
theorem blk_new2 (w : World) (A B : Obj) : ((w.alloc A).alloc B).heap[w.heap.size + 1]? = some B := by
  have := Go.Deep.blk_alloc_new (w.alloc A) B
  rwa [Go.Deep.nblk_alloc] at this
theorem rowIs_new2 (w : World) (A : Obj) (t : TypeId) (n : Nat) (l : List Value) (f : Nat → Value) (h : l = (List.range n).map f) : ((w.alloc A).alloc (.cells l.toArray t)).rowIs (w.heap.size + 1) t n f := by
  have := rowIs_lit (w.alloc A) l t n f h
  rwa [Go.Deep.nblk_alloc] at this
theorem u32_max : IntKind.u32.max = 4294967295 := by decide
end Go.Proofs.YtmilbmgbpoekmaaDoor
