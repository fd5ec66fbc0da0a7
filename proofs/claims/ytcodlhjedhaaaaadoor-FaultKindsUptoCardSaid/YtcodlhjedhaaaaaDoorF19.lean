/-
  The piles in memory: the program's errors in a row of the call's own; the reference's.
-/
import Derived.Test.YtcodlhjedhaaaaaDoorF18
namespace Go.Proofs.YtcodlhjedhaaaaaDoor
open Go.RowKit
set_option maxRecDepth 100000

def In1 (I : Nat → Prop) (w : World) (l : List Er) (m : List Value) : Prop := ∀ (j : Nat) x, l[j]? = some x → ∃ u, m[j]? = some u ∧ ErAt I w x u
theorem In1.nil (I : Nat → Prop) (w : World) : In1 I w [] [] := fun j x h => by simp at h
theorem In1.keep {I J : Nat → Prop} {w w' : World} {l : List Er} {m : List Value} (h : In1 I w l m) (hs : w.heap.size ≤ w'.heap.size) (hb : ∀ b, I b → b < w.heap.size → J b ∧ w'.heap[b]? = w.heap[b]?) : In1 J w' l m :=
  fun j x hj => by
    obtain ⟨u, h1, h2⟩ := h j x hj
    exact ⟨u, h1, h2.keep hs hb⟩
theorem In1.take {I : Nat → Prop} {w : World} {l : List Er} {m : List Value} (h : In1 I w l m) (k : Nat) : In1 I w (l.take k) (m.take k) := fun j x hj => by
  rw [List.getElem?_take] at hj
  split at hj
  · obtain ⟨u, h1, h2⟩ := h j x hj
    exact ⟨u, by rw [List.getElem?_take, if_pos (by omega)]; exact h1, h2⟩
  · cases hj
theorem In1.drop {I : Nat → Prop} {w : World} {l : List Er} {m : List Value} (h : In1 I w l m) (k : Nat) : In1 I w (l.drop k) (m.drop k) := fun j x hj => by
  rw [List.getElem?_drop] at hj
  obtain ⟨u, h1, h2⟩ := h (k + j) x hj
  exact ⟨u, by rw [List.getElem?_drop]; exact h1, h2⟩
/-- Blocks that are the call's own, but not the row's. -/
def Ap (w0 : World) (v : Value) (b : Nat) : Prop := w0.heap.size ≤ b ∧ v.ownBlock ≠ some b
/-- The program's pile. -/
def MadeR (w0 : World) (p : List Er) (v : Value) (wr : World) : Prop := ∃ us, wr.ownsRow w0.heap.size 32 1 v p.length us ∧ In1 (Ap w0 v) wr p us ∧ Below w0.heap.size w0 wr
theorem MadeR.nil (w0 : World) : MadeR w0 [] (.slice none 0 0) w0 := ⟨[], World.ownsRow_nil _ _ _ _, In1.nil _ _, Below.refl _ _⟩
theorem MadeR.under {w0 : World} {p : List Er} {v : Value} {wr w' : World} (h : MadeR w0 p v wr) (hb : Below wr.heap.size wr w') : MadeR w0 p v w' := by
  obtain ⟨us, h1, h2, h3⟩ := h
  exact ⟨us, ownsRow_under h1 hb, h2.keep hb.size (fun b hI hlt => ⟨hI, hb.block b hlt⟩), h3.trans (hb.mono h3.size)⟩
/-- One more, by an append to the row itself. -/
theorem MadeR.push {w0 w2 w3 : World} {p : List Er} {v v3 u : Value} {x : Er} {us : List Value} {J : Nat → Prop} {o : Obj} (hin : In1 (Ap w0 v) w2 p us) (hb0 : Below w0.heap.size w0 w2) (hown : w2.ownsRow w0.heap.size 32 1 v p.length us)
    (hx : ErAt J w2 x u) (hJ : ∀ b, J b → b < w2.heap.size → Ap w0 v b)
    (hown3 : w3.ownsRow w0.heap.size 32 1 v3 (p.length + 1) (us ++ [u])) (hgr : (w2.alloc o).grownBy w3 v.ownBlock) (hat : v3.ownBlock = v.ownBlock ∨ v3.ownBlock = some (w2.alloc o).heap.size) : MadeR w0 (p ++ [x]) v3 w3 := by
  have hlen : p.length = us.length := by have := hown.1; omega
  have hk : ∀ b, Ap w0 v b → b < w2.heap.size → Ap w0 v3 b ∧ w3.heap[b]? = w2.heap[b]? := fun b hb hlt => by
    refine ⟨⟨hb.1, ?_⟩, ?_⟩
    · rcases hat with e | e
      · rw [e]; exact hb.2
      · rw [e, Go.Deep.nblk_alloc]
        intro h
        simp at h
        omega
    · rw [hgr.block b (by rw [Go.Deep.nblk_alloc]; omega) (fun e => hb.2 e.symm)]
      exact Go.Deep.blk_alloc_lt _ _ _ hlt
  have hs : w2.heap.size ≤ w3.heap.size := by have := hgr.size; rw [Go.Deep.nblk_alloc] at this; omega
  refine ⟨us ++ [u], by rw [List.length_append]; exact hown3, snoc_get hlen (hin.keep hs hk) (hx.keep hs (fun b hb hlt => hk b (hJ b hb hlt) hlt)), ?_⟩
  exact (hb0.alloc hb0.size o).grown hgr (hb0.alloc hb0.size o).size (fun j hj => (World.ownsRow.lt hown j hj).1)
/-- A row anew. -/
theorem MadeR.anew {w0 w2 w3 : World} {q : List Er} {v3 u : Value} {x : Er} {us : List Value} {I J : Nat → Prop} {n : Nat} (hin : In1 I w2 q us) (hb0 : Below w0.heap.size w0 w2) (hn : n = q.length + 1) (hus : us.length = q.length)
    (hx : ErAt J w2 x u) (hI : ∀ b, I b → b < w2.heap.size → w0.heap.size ≤ b) (hJ : ∀ b, J b → b < w2.heap.size → w0.heap.size ≤ b)
    (hown3 : w3.ownsRow w2.heap.size 32 1 v3 n (us ++ [u])) (hb : Below w2.heap.size w2 w3) : MadeR w0 (q ++ [x]) v3 w3 := by
  have hk : ∀ K : Nat → Prop, (∀ b, K b → b < w2.heap.size → w0.heap.size ≤ b) → ∀ b, K b → b < w2.heap.size → Ap w0 v3 b ∧ w3.heap[b]? = w2.heap[b]? := fun K hK b hb' hlt =>
    ⟨⟨hK b hb' hlt, fun e => by have := (World.ownsRow.lt hown3 b e).1; omega⟩, hb.block b hlt⟩
  refine ⟨us ++ [u], ?_, snoc_get hus.symm (hin.keep hb.size (hk I hI)) (hx.keep hb.size (hk J hJ)), hb0.trans (hb.mono hb0.size)⟩
  rw [List.length_append]
  subst hn
  exact ownsRow_base hb0.size hown3
/-- The last one wrapped. -/
theorem MadeR.last {w0 w2 : World} {p : List Er} {u : Value} {x : Er} {us : List Value} {J : Nat → Prop} {g cap n : Nat} (hin : In1 (Ap w0 (.slice (some ⟨g, 0, none⟩) (n + 1) cap)) w2 p us) (hb0 : Below w0.heap.size w0 w2) (hn : p.length = n + 1)
    (hown : w2.ownsRow w0.heap.size 32 1 (.slice (some ⟨g, 0, none⟩) (n + 1) cap) (n + 1) us) (hx : ErAt J w2 x u) (hJ : ∀ b, J b → b < w2.heap.size → Ap w0 (.slice (some ⟨g, 0, none⟩) (n + 1) cap) b) :
    MadeR w0 (p.take (p.length - 1) ++ [x]) (.slice (some ⟨g, 0, none⟩) (n + 1) cap) (w2.setCell ⟨g, n, none⟩ u) := by
  have hlen : us.length = n + 1 := by have := hown.1; omega
  have hg := World.ownsRow.lt hown g rfl
  have hk : ∀ b, Ap w0 (.slice (some ⟨g, 0, none⟩) (n + 1) cap) b → b < w2.heap.size → Ap w0 (.slice (some ⟨g, 0, none⟩) (n + 1) cap) b ∧ (w2.setCell ⟨g, n, none⟩ u).heap[b]? = w2.heap[b]? := fun b hb hlt =>
    ⟨hb, Below.heap_setCell _ _ _ _ (fun e => hb.2 (by rw [e]; rfl))⟩
  have hs : w2.heap.size ≤ (w2.setCell ⟨g, n, none⟩ u).heap.size := by simp [World.setCell]
  have hst := (World.ownsRow.stored hown n u).1
  have hset : us.set n u = us.take n ++ [u] := by
    apply List.ext_getElem?
    intro i
    rw [List.getElem?_set, List.getElem?_append, List.length_take, Nat.min_eq_left (by omega)]
    by_cases h1 : i < n
    · rw [if_neg (by omega), if_pos h1, List.getElem?_take, if_pos h1]
    · rw [if_neg h1]
      by_cases h2 : i = n
      · subst h2
        rw [if_pos rfl, if_pos (by omega)]
        simp
      · rw [if_neg (by omega), List.getElem?_eq_none (by omega), List.getElem?_eq_none (by simp; omega)]
  rw [hset] at hst
  refine ⟨us.take n ++ [u], ?_, ?_, hb0.setCell hg.1 _⟩
  · rw [List.length_append, List.length_take, hn]
    simpa using hst
  · rw [hn]
    have := (hin.take n).keep hs hk
    exact snoc_get (by rw [List.length_take, List.length_take]; omega) this (hx.keep hs (fun b hb hlt => hk b (hJ b hb hlt) hlt))
/-! ### The steps of the plain pile -/
theorem step0 (p : List Er) (s : St) (h : s.k = 0) : stepEr p s = p ++ [newEr s.op s.path (errno s.code)] := by simp [stepEr, h]
theorem step1n (s : St) (h : s.k = 1) : stepEr [] s = [.none] := by unfold stepEr; rw [h]; rfl
theorem step1 (p : List Er) (s : St) (h : s.k = 1) (hp : p ≠ []) : stepEr p s = p.take (p.length - 1) ++ [wrapEr s.op (lastEr p)] := by unfold stepEr; rw [h]; simp [hp]
theorem step2 (p : List Er) (s : St) (h : s.k = 2) : stepEr p s = p.take (s.cut p.length) ++ [allEr (p.drop (s.cut p.length))] := by simp [stepEr, h]
theorem step3 (p : List Er) (s : St) (h : s.k = 3) : stepEr p s = p ++ [numEr (errno s.code)] := by simp [stepEr, h]
theorem step4 (p : List Er) (s : St) (h : s.k = 4) : stepEr p s = p ++ [.none] := by simp [stepEr, h]
theorem last_get (p : List Er) (n : Nat) (h : p.length = n + 1) : p[n]? = some (lastEr p) := by
  have hp : p ≠ [] := by intro e; rw [e] at h; simp at h
  obtain ⟨q, x, rfl⟩ : ∃ q x, p = q ++ [x] := ⟨p.dropLast, p.getLast hp, (List.dropLast_concat_getLast hp).symm⟩
  obtain rfl : q.length = n := by simpa using h
  simp [lastEr]
/-- An empty row of the call's own. -/
theorem own_empty {w' : World} {b B : Nat} {e : TypeId} {size : Nat} (hb : B ≤ b) (h : w'.heap[b]? = some (.cells #[] e (0, 0))) : w'.ownsRow B e size (.slice (some ⟨b, 0, none⟩) 0 0) 0 [] :=
  ⟨by simp, .inr ⟨b, 0, #[], rfl, hb, h, Nat.le_refl _, by unfold maxLen; omega, by simp, by simp⟩⟩
end Go.Proofs.YtcodlhjedhaaaaaDoor
