/-
  THE STATES OF THE TWO POSTS IN MEMORY, and what a call may touch.
-/
import Derived.Test.YtocpneliofjabaaMap
namespace Go.Proofs.Ytocpneliofjabaa
open Go.RowKit
set_option maxRecDepth 100000

/-- All blocks of w outside S are as they were. -/
structure Kept (S : Nat → Prop) (w w' : World) : Prop where
  os : w'.os = w.os
  tape : w'.tape = w.tape
  output : w'.output = w.output
  size : w.heap.size ≤ w'.heap.size
  block : ∀ i, i < w.heap.size → ¬ S i → w'.heap[i]? = w.heap[i]?
theorem Kept.refl (S : Nat → Prop) (w : World) : Kept S w w := ⟨rfl, rfl, rfl, Nat.le_refl _, fun _ _ _ => rfl⟩
theorem Kept.mono {S T : Nat → Prop} {w w' : World} (h : Kept S w w') (hs : ∀ i, i < w.heap.size → S i → T i) : Kept T w w' :=
  ⟨h.os, h.tape, h.output, h.size, fun i hi hn => h.block i hi (fun hS => hn (hs i hi hS))⟩
theorem Kept.trans {S T : Nat → Prop} {a b c : World} (h : Kept S a b) (k : Kept T b c) (hT : ∀ i, i < a.heap.size → T i → S i) : Kept S a c :=
  ⟨k.os.trans h.os, k.tape.trans h.tape, k.output.trans h.output, Nat.le_trans h.size k.size, fun i hi hn => (k.block i (Nat.lt_of_lt_of_le hi h.size) (fun hTi => hn (hT i hi hTi))).trans (h.block i hi hn)⟩
theorem Kept.of_below {S : Nat → Prop} {w w' : World} (h : Below w.heap.size w w') : Kept S w w' := ⟨h.os, h.tape, h.output, h.size, fun i hi _ => h.block i hi⟩
theorem Kept.of_grown {S : Nat → Prop} {w w' : World} {row : Option Nat} (h : w.grownBy w' row) (hr : ∀ k, row = some k → S k) : Kept S w w' :=
  ⟨h.os, h.tape, h.output, h.size, fun i hi hn => h.block i hi (fun e => hn (hr i e.symm))⟩
theorem Kept.drewN {S : Nat → Prop} {w w' : World} (h : Kept S w w') (n : Nat) : Kept S w (w'.drewN n) := ⟨h.os, h.tape, h.output, h.size, h.block⟩
theorem Kept.drew {S : Nat → Prop} {w w' : World} (h : Kept S w w') : Kept S w w'.drew := ⟨h.os, h.tape, h.output, h.size, h.block⟩
theorem Kept.below {S : Nat → Prop} {w w' : World} {B : Nat} (h : Kept S w w') (hS : ∀ i, S i → B ≤ i) (hB : B ≤ w.heap.size) : Below B w w' :=
  ⟨h.os, h.tape, h.output, h.size, fun i hi => h.block i (by omega) (fun hs => by have := hS i hs; omega)⟩
theorem Kept.setCell {S : Nat → Prop} {w w' : World} (h : Kept S w w') {p : Addr} (hp : p.block < w.heap.size → S p.block) (u : Value) : Kept S w (w'.setCell p u) :=
  ⟨h.os, h.tape, h.output, by simpa [World.setCell] using h.size, fun i hi hn => (Below.heap_setCell w' p u i (fun e => hn (e ▸ hp (e ▸ hi)))).trans (h.block i hi hn)⟩
theorem Kept.alloc {S : Nat → Prop} {w w' : World} (h : Kept S w w') (o : Obj) : Kept S w (w'.alloc o) :=
  ⟨h.os, h.tape, h.output, Nat.le_trans h.size (by simp), fun i hi hn => (Below.heap_alloc w' o i (Nat.lt_of_lt_of_le hi h.size)).trans (h.block i hi hn)⟩

/-- A packet. -/
structure Pk where
  id : Int
  fr : Int
  to : Int
  body : ByteArray
def pkv (x : Pk) : List Value := [.int .i64 x.id, .int .i64 x.fr, .int .i64 x.to, .string x.body]
def flat (L : List Pk) : List Value := L.flatMap pkv
theorem length_flat : ∀ L : List Pk, (flat L).length = L.length * 4
  | [] => rfl
  | x :: L => by
    have ih := length_flat L
    unfold flat at ih ⊢
    rw [List.flatMap_cons, List.length_append, ih]
    simp [pkv]
    omega
theorem flat_append (A B : List Pk) : flat (A ++ B) = flat A ++ flat B := by simp [flat]
theorem flat_get : ∀ (L : List Pk) (i j : Nat) (x : Pk), L[i]? = some x → j < 4 → (flat L)[4 * i + j]? = (pkv x)[j]?
  | [], i, j, x, h, _ => by simp at h
  | y :: L, 0, j, x, h, hj => by
    obtain rfl : y = x := by simpa using h
    show (pkv y ++ flat L)[4 * 0 + j]? = _
    rw [Nat.mul_zero, Nat.zero_add, List.getElem?_append_left (by simp [pkv]; omega)]
  | y :: L, i + 1, j, x, h, hj => by
    have ih := flat_get L i j x (by simpa using h) hj
    show (pkv y ++ flat L)[4 * (i + 1) + j]? = _
    rw [List.getElem?_append_right (by simp [pkv]; omega)]
    rw [show 4 * (i + 1) + j - (pkv y).length = 4 * i + j by simp [pkv]; omega]
    exact ih

/-- The value owns the packets, from block 'base' on. -/
def PkOwn (base : Nat) (w : World) (v : Value) (L : List Pk) : Prop := w.ownsRow base 49 4 v L.length (flat L)
theorem PkOwn.keep {base : Nat} {w w' : World} {v : Value} {L : List Pk} (h : PkOwn base w v L) (hb : ∀ k, v.ownBlock = some k → w'.heap[k]? = w.heap[k]?) : PkOwn base w' v L := by
  obtain ⟨h1, h2⟩ := h
  refine ⟨h1, ?_⟩
  rcases h2 with h2 | ⟨g, cap, cur, rfl, hg, hh, r⟩
  · exact .inl h2
  · exact .inr ⟨g, cap, cur, rfl, hg, by rw [hb g rfl]; exact hh, r⟩
theorem PkOwn.lt {base : Nat} {w : World} {v : Value} {L : List Pk} (h : PkOwn base w v L) : ∀ k, v.ownBlock = some k → base ≤ k ∧ k < w.heap.size := World.ownsRow.lt h
/-- A packet that is there, cell by cell. -/
theorem PkOwn.at {base : Nat} {w : World} {v : Value} {L : List Pk} (h : PkOwn base w v L) (hL : 0 < L.length) :
    ∃ g cap, v = .slice (some ⟨g, 0, none⟩) L.length cap ∧ base ≤ g ∧ g < w.heap.size ∧ L.length ≤ cap ∧ cap ≤ maxLen ∧
      ∀ i x, L[i]? = some x → w.cell? ⟨g, i * 4, none⟩ = some (.int .i64 x.id) ∧ w.cell? ⟨g, i * 4 + 1, none⟩ = some (.int .i64 x.fr) ∧ w.cell? ⟨g, i * 4 + 2, none⟩ = some (.int .i64 x.to) ∧ w.cell? ⟨g, i * 4 + 3, none⟩ = some (.string x.body) := by
  obtain ⟨h1, h2⟩ := h
  rcases h2 with ⟨_, h2⟩ | ⟨g, cap, cur, rfl, hg, hh, hc, hmx, hsz, htk⟩
  · omega
  · refine ⟨g, cap, rfl, hg, (Array.getElem?_eq_some_iff.1 hh).1, hc, hmx, fun i x hx => ?_⟩
    have hi : i < L.length := (List.getElem?_eq_some_iff.1 hx).1
    have key : ∀ j, j < 4 → w.cell? ⟨g, i * 4 + j, none⟩ = (pkv x)[j]? := fun j hj => by
      rw [cell_of_row w g (i * 4 + j) cur 49 (0, 0) hh, ← flat_get L i j x hx hj, Nat.mul_comm 4 i, ← htk, List.getElem?_take, if_pos (by omega)]
      simp
    exact ⟨key 0 (by omega), key 1 (by omega), key 2 (by omega), key 3 (by omega)⟩
end Go.Proofs.Ytocpneliofjabaa
