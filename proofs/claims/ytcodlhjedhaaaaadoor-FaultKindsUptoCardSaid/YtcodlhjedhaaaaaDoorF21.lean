/-
  The reference's pile in memory.
-/
import Derived.Test.YtcodlhjedhaaaaaDoorF20
namespace Go.Proofs.YtcodlhjedhaaaaaDoor
open Go.RowKit
set_option maxRecDepth 100000

/-- The reference's pile. -/
def MakeR (w0 : World) (p : List Er) (v : Value) (wr : World) : Prop := ∃ us, wr.ownsRow w0.heap.size 37 5 v p.length us ∧ In5 (Ap w0 v) wr p us ∧ Below w0.heap.size w0 wr
theorem MakeR.nil (w0 : World) : MakeR w0 [] (.slice none 0 0) w0 := ⟨[], World.ownsRow_nil _ _ _ _, In5.nil _ _, Below.refl _ _⟩
theorem MakeR.under {w0 : World} {p : List Er} {v : Value} {wr w' : World} (h : MakeR w0 p v wr) (hb : Below wr.heap.size wr w') : MakeR w0 p v w' := by
  obtain ⟨us, h1, h2, h3⟩ := h
  exact ⟨us, ownsRow_under h1 hb, h2.keep hb.size (fun b hI hlt => ⟨hI, hb.block b hlt⟩), h3.trans (hb.mono h3.size)⟩
theorem MakeR.push {w0 w2 w3 : World} {p : List Er} {v v3 : Value} {x : Er} {f : Nat → Value} {us : List Value} {J : Nat → Prop} {o : Obj} (hin : In5 (Ap w0 v) w2 p us) (hb0 : Below w0.heap.size w0 w2) (hown : w2.ownsRow w0.heap.size 37 5 v p.length us)
    (hx : RefAt J w2 x f) (hJ : ∀ b, J b → b < w2.heap.size → Ap w0 v b)
    (hown3 : w3.ownsRow w0.heap.size 37 5 v3 (p.length + 1) (us ++ row5 f)) (hgr : (w2.alloc o).grownBy w3 v.ownBlock) (hat : v3.ownBlock = v.ownBlock ∨ v3.ownBlock = some (w2.alloc o).heap.size) : MakeR w0 (p ++ [x]) v3 w3 := by
  have hk : ∀ b, Ap w0 v b → b < w2.heap.size → Ap w0 v3 b ∧ w3.heap[b]? = w2.heap[b]? := fun b hb hlt => by
    refine ⟨⟨hb.1, ?_⟩, ?_⟩
    · rcases hat with e | e
      · rw [e]; exact hb.2
      · rw [e, Go.Deep.nblk_alloc]
        intro h
        simp at h
        omega
    · rw [hgr.block b (by rw [Go.Deep.nblk_alloc]; omega) (fun e => hb.2 e.symm)]
      exact Go.Deep.blk_alloc_lt _ _ _ hlt
  have hs : w2.heap.size ≤ w3.heap.size := by have := hgr.size; rw [Go.Deep.nblk_alloc] at this; omega
  refine ⟨us ++ row5 f, by rw [List.length_append]; exact hown3, (hin.keep hs hk).snoc (hx.keep hs (fun b hb hlt => hk b (hJ b hb hlt) hlt)), ?_⟩
  exact (hb0.alloc hb0.size o).grown hgr (hb0.alloc hb0.size o).size (fun j hj => (World.ownsRow.lt hown j hj).1)
theorem MakeR.anew {w0 w2 w3 : World} {q : List Er} {v3 : Value} {x : Er} {f : Nat → Value} {us : List Value} {I J : Nat → Prop} {n : Nat} (hin : In5 I w2 q us) (hb0 : Below w0.heap.size w0 w2) (hn : n = q.length + 1)
    (hx : RefAt J w2 x f) (hI : ∀ b, I b → b < w2.heap.size → w0.heap.size ≤ b) (hJ : ∀ b, J b → b < w2.heap.size → w0.heap.size ≤ b)
    (hown3 : w3.ownsRow w2.heap.size 37 5 v3 n (us ++ row5 f)) (hb : Below w2.heap.size w2 w3) : MakeR w0 (q ++ [x]) v3 w3 := by
  have hk : ∀ K : Nat → Prop, (∀ b, K b → b < w2.heap.size → w0.heap.size ≤ b) → ∀ b, K b → b < w2.heap.size → Ap w0 v3 b ∧ w3.heap[b]? = w2.heap[b]? := fun K hK b hb' hlt =>
    ⟨⟨hK b hb' hlt, fun e => by have := (World.ownsRow.lt hown3 b e).1; omega⟩, hb.block b hlt⟩
  refine ⟨us ++ row5 f, ?_, (hin.keep hb.size (hk I hI)).snoc (hx.keep hb.size (hk J hJ)), hb0.trans (hb.mono hb0.size)⟩
  rw [List.length_append]
  subst hn
  exact ownsRow_base hb0.size hown3
theorem set5 (us : List Value) (n : Nat) (f : Nat → Value) (h : us.length = (n + 1) * 5) :
    ((((us.set (n * 5) (f 0)).set (n * 5 + 1) (f 1)).set (n * 5 + 2) (f 2)).set (n * 5 + 3) (f 3)).set (n * 5 + 4) (f 4) = us.take (n * 5) ++ row5 f := by
  apply List.ext_getElem?
  intro i
  simp only [List.getElem?_set, List.length_set]
  rw [List.getElem?_append, List.length_take, Nat.min_eq_left (by omega)]
  by_cases h1 : i < n * 5
  · rw [if_neg (by omega), if_neg (by omega), if_neg (by omega), if_neg (by omega), if_neg (by omega), if_pos h1, List.getElem?_take, if_pos h1]
  · rw [if_neg h1]
    by_cases h2 : i < n * 5 + 5
    · obtain ⟨q, rfl⟩ : ∃ q, i = n * 5 + q := ⟨i - n * 5, by omega⟩
      rw [show n * 5 + q - n * 5 = q by omega, row5_get f q (by omega)]
      have hq : q < 5 := by omega
      match q, hq with
      | 0, _ => rw [if_neg (by omega), if_neg (by omega), if_neg (by omega), if_neg (by omega), if_pos (by omega), if_pos (by omega)]
      | 1, _ => rw [if_neg (by omega), if_neg (by omega), if_neg (by omega), if_pos rfl, if_pos (by omega)]
      | 2, _ => rw [if_neg (by omega), if_neg (by omega), if_pos rfl, if_pos (by omega)]
      | 3, _ => rw [if_neg (by omega), if_pos rfl, if_pos (by omega)]
      | 4, _ => rw [if_pos rfl, if_pos (by omega)]
    · rw [if_neg (by omega), if_neg (by omega), if_neg (by omega), if_neg (by omega), if_neg (by omega), List.getElem?_eq_none (by omega), List.getElem?_eq_none (by simp [row5]; omega)]
/-- Five cells stored to the last place. -/
def sets5 (w : World) (g n : Nat) (f : Nat → Value) : World :=
  ((((w.setCell ⟨g, n * 5, none⟩ (f 0)).setCell ⟨g, n * 5 + 1, none⟩ (f 1)).setCell ⟨g, n * 5 + 2, none⟩ (f 2)).setCell ⟨g, n * 5 + 3, none⟩ (f 3)).setCell ⟨g, n * 5 + 4, none⟩ (f 4)
theorem sets5_own {w : World} {base g cap n : Nat} {us : List Value} (h : w.ownsRow base 37 5 (.slice (some ⟨g, 0, none⟩) (n + 1) cap) (n + 1) us) (f : Nat → Value) : (sets5 w g n f).ownsRow base 37 5 (.slice (some ⟨g, 0, none⟩) (n + 1) cap) (n + 1) (us.take (n * 5) ++ row5 f) := by
  have h1 := (World.ownsRow.stored h (n * 5) (f 0)).1
  have h2 := (World.ownsRow.stored h1 (n * 5 + 1) (f 1)).1
  have h3 := (World.ownsRow.stored h2 (n * 5 + 2) (f 2)).1
  have h4 := (World.ownsRow.stored h3 (n * 5 + 3) (f 3)).1
  have h5 := (World.ownsRow.stored h4 (n * 5 + 4) (f 4)).1
  rw [set5 us n f (by have := h.1; omega)] at h5
  exact h5
theorem sets5_block (w : World) (g n : Nat) (f : Nat → Value) (b : Nat) (hb : b ≠ g) : (sets5 w g n f).heap[b]? = w.heap[b]? := by
  unfold sets5
  rw [Below.heap_setCell _ _ _ _ hb, Below.heap_setCell _ _ _ _ hb, Below.heap_setCell _ _ _ _ hb, Below.heap_setCell _ _ _ _ hb, Below.heap_setCell _ _ _ _ hb]
theorem sets5_size (w : World) (g n : Nat) (f : Nat → Value) : (sets5 w g n f).heap.size = w.heap.size := by simp [sets5, World.setCell]
theorem sets5_alloc (w : World) (o : Obj) (g n : Nat) (f : Nat → Value) (hg : g < w.heap.size) : sets5 (w.alloc o) g n f = (sets5 w g n f).alloc o := by
  unfold sets5
  rw [World.setCell_alloc_past _ _ _ _ (by simpa [World.setCell] using hg), World.setCell_alloc_past _ _ _ _ (by simpa [World.setCell] using hg), World.setCell_alloc_past _ _ _ _ (by simpa [World.setCell] using hg), World.setCell_alloc_past _ _ _ _ (by simpa [World.setCell] using hg), World.setCell_alloc_past _ _ _ _ (by simpa [World.setCell] using hg)]
theorem MakeR.last {w0 w2 : World} {p : List Er} {f : Nat → Value} {x : Er} {us : List Value} {J : Nat → Prop} {g cap n : Nat} (hin : In5 (Ap w0 (.slice (some ⟨g, 0, none⟩) (n + 1) cap)) w2 p us) (hb0 : Below w0.heap.size w0 w2) (hn : p.length = n + 1)
    (hown : w2.ownsRow w0.heap.size 37 5 (.slice (some ⟨g, 0, none⟩) (n + 1) cap) (n + 1) us) (hx : RefAt J w2 x f) (hJ : ∀ b, J b → b < w2.heap.size → Ap w0 (.slice (some ⟨g, 0, none⟩) (n + 1) cap) b) :
    MakeR w0 (p.take (p.length - 1) ++ [x]) (.slice (some ⟨g, 0, none⟩) (n + 1) cap) (sets5 w2 g n f) := by
  have hg := World.ownsRow.lt hown g rfl
  have hk : ∀ b, Ap w0 (.slice (some ⟨g, 0, none⟩) (n + 1) cap) b → b < w2.heap.size → Ap w0 (.slice (some ⟨g, 0, none⟩) (n + 1) cap) b ∧ (sets5 w2 g n f).heap[b]? = w2.heap[b]? := fun b hb hlt =>
    ⟨hb, sets5_block _ _ _ _ _ (fun e => hb.2 (by rw [e]; rfl))⟩
  have hs : w2.heap.size ≤ (sets5 w2 g n f).heap.size := by rw [sets5_size]; exact Nat.le_refl _
  refine ⟨us.take (n * 5) ++ row5 f, ?_, ?_, ?_⟩
  · rw [List.length_append, List.length_take, hn]
    simpa using sets5_own hown f
  · rw [hn]
    exact ((hin.take n (by omega)).keep hs hk).snoc (hx.keep hs (fun b hb hlt => hk b (hJ b hb hlt) hlt))
  · unfold sets5
    exact ((((hb0.setCell hg.1 _).setCell hg.1 _).setCell hg.1 _).setCell hg.1 _).setCell hg.1 _
/-- The last one wrapped: its kid in a new block. -/
theorem MakeR.wrapped {w0 wr w1 : World} {p : List Er} {f : Nat → Value} {x : Er} {us : List Value} {g cap n : Nat} {op : ByteArray} (hin : In5 (Ap w0 (.slice (some ⟨g, 0, none⟩) (n + 1) cap)) w1 p us) (hb0 : Below w0.heap.size w0 w1) (hn : p.length = n + 1) (hb1 : Below wr.heap.size wr w1)
    (hown : w1.ownsRow w0.heap.size 37 5 (.slice (some ⟨g, 0, none⟩) (n + 1) cap) (n + 1) us) (hx : RefAt (Ap w0 (.slice (some ⟨g, 0, none⟩) (n + 1) cap)) wr x f) (hne : x ≠ .none) (o : Obj) (ho : o = .cells #[f 0, f 1, f 2, f 3, f 4] 37) :
    MakeR w0 (p.take (p.length - 1) ++ [.flt op ⟨#[]⟩ x]) (.slice (some ⟨g, 0, none⟩) (n + 1) cap) ((sets5 w1 g n (refc 2 0 op ⟨#[]⟩ (.slice (some ⟨w1.heap.size, 0, none⟩) 1 1))).alloc o).drew := by
  have hg := World.ownsRow.lt hown g rfl
  subst ho
  have hba : Below w1.heap.size w1 (w1.alloc (.cells #[f 0, f 1, f 2, f 3, f 4] 37)) := (Below.refl _ _).alloc (Nat.le_refl _) _
  have hrow : (w1.alloc (.cells #[f 0, f 1, f 2, f 3, f 4] 37)).rowIs w1.heap.size 37 5 f := rowIs_lit w1 [f 0, f 1, f 2, f 3, f 4] 37 5 f rfl
  have h1 : RefAt (fun b => Ap w0 (.slice (some ⟨g, 0, none⟩) (n + 1) cap) b ∨ w1.heap.size ≤ b) (w1.alloc (.cells #[f 0, f 1, f 2, f 3, f 4] 37)) x f :=
    (hx.under hb1).keep hba.size (fun b hI hlt => ⟨.inl hI, hba.block b hlt⟩)
  have h2 : RefAt (fun b => Ap w0 (.slice (some ⟨g, 0, none⟩) (n + 1) cap) b ∨ w1.heap.size ≤ b) (w1.alloc (.cells #[f 0, f 1, f 2, f 3, f 4] 37)) (.flt op ⟨#[]⟩ x) _ :=
    .flt op ⟨#[]⟩ x w1.heap.size 1 f hne (.inr (Nat.le_refl _)) hrow.lt (Nat.le_refl _) (fun j hj => hrow.cell (i := j) hj) h1
  have h3 := MakeR.last (hin.keep (J := Ap w0 (.slice (some ⟨g, 0, none⟩) (n + 1) cap)) hba.size (fun b hI hlt => ⟨hI, hba.block b hlt⟩)) (hb0.trans (hba.mono hb0.size)) hn (ownsRow_under hown hba) h2 (fun b hb hlt => hb.elim (fun h => h) (fun h => ⟨Nat.le_trans hb0.size h, fun e => by simp [Value.ownBlock] at e; omega⟩))
  rw [sets5_alloc _ _ _ _ _ hg.2] at h3
  exact h3.under ((Below.refl _ _).drew)
theorem take_last (p : List Er) (n : Nat) (h : p.length = n + 1) : p.take (p.length - 1) ++ [lastEr p] = p := by
  have hp : p ≠ [] := by intro e; rw [e] at h; simp at h
  rw [← drop_last p hp, List.take_append_drop]
theorem in5_one {I : Nat → Prop} {w : World} {l : List Er} {m : List Value} (h : In5 I w l m) : ∀ u ∈ m, u.oneCell' = true := fun u hu => by
  obtain ⟨i, hi⟩ := List.mem_iff_getElem?.1 hu
  have hlt := (List.getElem?_eq_some_iff.1 hi).1
  have hl := h.1
  obtain ⟨x, hx⟩ : ∃ x, l[i / 5]? = some x := ⟨_, List.getElem?_eq_getElem (by omega)⟩
  obtain ⟨f, h1, h2⟩ := h.2 _ x hx
  have h3 := h1 (i % 5) (by omega)
  rw [show i / 5 * 5 + i % 5 = i by omega, hi] at h3
  cases h3
  exact h2.one _
theorem src_slice {w : World} {base : Nat} {e : TypeId} {size : Nat} {n : Nat} {xs : List Value} {a : Option Addr} {cap c : Nat} (h : w.ownsRow base e size (.slice a n cap) n xs) (hc : c ≤ n) : Src w size (.slice a c cap) c (xs.take (c * size)) := by
  obtain ⟨_, rfl, h2⟩ := src_to h hc
  exact h2
theorem Tryd.under27e : Tryd.prog.underlying 27 = some (.slice (Tryd.prog.elem 27)) := by kernel_rfl
theorem sz37e : (Tryd.prog.info? (Tryd.prog.elem 27)).map (·.size) = some 5 := by kernel_rfl
end Go.Proofs.YtcodlhjedhaaaaaDoor
