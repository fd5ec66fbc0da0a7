/-
  THE TWO POSTS AS DATA: they stay alike (plain); boxes beside two structures.
-/
import Derived.Test.YtocpneliofjabaaL1
namespace Go.Proofs.Ytocpneliofjabaa
open Go.RowKit
set_option maxRecDepth 100000

structure Rel (s : Pst) (r : Rst) : Prop where
  most : s.most = r.most
  last : s.last = r.ever
  L : s.L = r.L
  bl : ∀ a b, s.bl a b = r.bl a b
theorem Rel.full {s : Pst} {r : Rst} (h : Rel s r) (hf : s.Fine) : s.full = r.full := by
  unfold Pst.full Rst.full
  have := hf.room
  rw [← h.most, ← h.L]
  rw [Bool.eq_iff_iff]
  simp
  omega
theorem Rel.addN {s : Pst} {r : Rst} (h : Rel s r) (hf : s.Fine) : s.addN = r.addN := by
  unfold Pst.addN Rst.addN
  rw [h.full hf, h.last]
theorem Rel.add {s : Pst} {r : Rst} (h : Rel s r) (hf : s.Fine) (x : Pk) : Rel (s.add x) (r.add x) := by
  unfold Pst.add Rst.add
  rw [h.full hf]
  split
  · exact h
  · exact ⟨h.most, by show s.last + 1 = r.ever + 1; rw [h.last], by show s.L ++ _ = r.L ++ _; rw [h.L, h.last], h.bl⟩
theorem Rel.sendN {s : Pst} {r : Rst} (h : Rel s r) (hf : s.Fine) (f t : Int) : s.sendN f t = r.sendN f t := by
  unfold Pst.sendN Rst.sendN
  rw [h.bl, h.addN hf]
theorem Rel.send {s : Pst} {r : Rst} (h : Rel s r) (hf : s.Fine) (f t : Int) (b : ByteArray) : Rel (s.send f t b) (r.send f t b) := by
  unfold Pst.send Rst.send
  rw [h.bl]
  split
  · exact h
  · exact h.add hf _
theorem Rel.at {s : Pst} {r : Rst} (h : Rel s r) (id : Int) : s.at id = r.at id := by unfold Pst.at Rst.at; rw [h.L]
theorem Rel.cut {s : Pst} {r : Rst} (h : Rel s r) (i : Nat) : Rel (s.cut i) (r.cut i) := ⟨h.most, h.last, by show rmv i s.L = rmv i r.L; rw [h.L], h.bl⟩
theorem Rel.takes {s : Pst} {r : Rst} (h : Rel s r) (id : Int) : s.takes id = r.takes id := by
  unfold Pst.takes Rst.takes
  rw [h.L, h.at]
  cases r.at id
  · rfl
  · simp only [h.bl]
theorem Rel.takeX {s : Pst} {r : Rst} (h : Rel s r) (id : Int) : s.takeX id = r.takeX id := by unfold Pst.takeX Rst.takeX; rw [h.takes, h.at]
theorem Rel.take {s : Pst} {r : Rst} (h : Rel s r) (id : Int) : Rel (s.take id) (r.take id) := by
  unfold Pst.take Rst.take
  rw [h.takes, h.L]
  split
  · exact h.cut _
  · exact h
theorem Rel.dropN {s : Pst} {r : Rst} (h : Rel s r) (id : Int) : s.dropN id = r.dropN id := by unfold Pst.dropN Rst.dropN; rw [h.L]
theorem Rel.drop {s : Pst} {r : Rst} (h : Rel s r) (id : Int) : Rel (s.drop id) (r.drop id) := by
  unfold Pst.drop Rst.drop
  rw [h.L]
  split
  · exact h
  · exact h.cut _
theorem Rel.dblN {s : Pst} {r : Rst} (h : Rel s r) (hf : s.Fine) (id : Int) : s.dblN id = r.dblN id := by unfold Pst.dblN Rst.dblN; rw [h.L, h.addN hf]
theorem Rel.dbl {s : Pst} {r : Rst} (h : Rel s r) (hf : s.Fine) (id : Int) : Rel (s.dbl id) (r.dbl id) := by
  unfold Pst.dbl Rst.dbl
  rw [h.L, h.at]
  split
  · exact h
  · cases r.at id
    · exact h
    · exact h.add hf _
theorem pair_eq (x y a b : Int) : (min x y == min a b && max x y == max a b) = ((x == a && y == b) || (x == b && y == a)) := by
  rw [Bool.eq_iff_iff]
  simp
  omega
theorem any_keep (M : List (Int × Int)) (a b x y : Int) : (M.filter (keepQ a b)).any (fun p => p.1 == x && p.2 == y) = (M.any (fun p => p.1 == x && p.2 == y) && !((x == a && y == b) || (x == b && y == a))) := by
  rw [Bool.eq_iff_iff]
  simp only [List.any_eq_true, List.mem_filter, Bool.and_eq_true, beq_iff_eq, Bool.not_eq_true', Bool.or_eq_false_iff, keepQ]
  constructor
  · rintro ⟨p, ⟨hp, h1, h2⟩, rfl, rfl⟩
    exact ⟨⟨p, hp, rfl, rfl⟩, h1, h2⟩
  · rintro ⟨⟨p, hp, rfl, rfl⟩, h1, h2⟩
    exact ⟨p, ⟨hp, h1, h2⟩, rfl, rfl⟩
theorem Rel.fre {s : Pst} {r : Rst} (h : Rel s r) (a b : Int) : Rel (s.fre a b) (r.fre a b) := by
  refine ⟨h.most, h.last, h.L, fun x y => ?_⟩
  show (s.D (min x y) (max x y) && !(min x y == min a b && max x y == max a b)) = (r.M.filter (keepQ a b)).any (fun p => p.1 == x && p.2 == y)
  have := h.bl x y
  unfold Pst.bl Rst.bl at this
  rw [pair_eq, any_keep, this]
theorem Rel.blk {s : Pst} {r : Rst} (h : Rel s r) (a b : Int) : Rel (s.blk a b) (r.blk a b) := by
  unfold Pst.blk Rst.blk
  by_cases hab : a = b
  · rw [if_pos hab, if_pos hab]
    exact h
  · rw [if_neg hab, if_neg hab]
    refine ⟨h.most, h.last, h.L, fun x y => ?_⟩
    show (s.D (min x y) (max x y) || (min x y == min a b && max x y == max a b)) = (r.M.filter (keepQ a b) ++ [(a, b), (b, a)]).any (fun p => p.1 == x && p.2 == y)
    have := h.bl x y
    unfold Pst.bl Rst.bl at this
    rw [pair_eq, List.any_append, any_keep, this]
    have e : [(a, b), (b, a)].any (fun p => p.1 == x && p.2 == y) = ((x == a && y == b) || (x == b && y == a)) := by
      rw [Bool.eq_iff_iff]
      simp
      omega
    rw [e]
    cases r.M.any (fun p => p.1 == x && p.2 == y) <;> cases ((x == a && y == b) || (x == b && y == a)) <;> rfl

/-- A call of a script. -/
structure Dc where
  k : Nat
  a : Int
  b : Int
  n : Int
  body : ByteArray
def Pst.doo (s : Pst) (d : Dc) : Pst := if d.k = 0 then s.send d.a d.b d.body else if d.k = 1 then s.take d.n else if d.k = 2 then s.drop d.n else if d.k = 3 then s.dbl d.n else if d.k = 4 then s.blk d.a d.b else s.fre d.a d.b
def Rst.doo (r : Rst) (d : Dc) : Rst := if d.k = 0 then r.send d.a d.b d.body else if d.k = 1 then r.take d.n else if d.k = 2 then r.drop d.n else if d.k = 3 then r.dbl d.n else if d.k = 4 then r.blk d.a d.b else r.fre d.a d.b
theorem Rel.doo {s : Pst} {r : Rst} (h : Rel s r) (hf : s.Fine) (d : Dc) : Rel (s.doo d) (r.doo d) := by
  unfold Pst.doo Rst.doo
  split
  · exact h.send hf _ _ _
  split
  · exact h.take _
  split
  · exact h.drop _
  split
  · exact h.dbl hf _
  split
  · exact h.blk _ _
  · exact h.fre _ _
theorem Pst.add_last (s : Pst) (x : Pk) : (s.add x).last ≤ s.last + 1 ∧ s.last ≤ (s.add x).last := by
  unfold Pst.add
  split
  · omega
  · show s.last + 1 ≤ s.last + 1 ∧ s.last ≤ s.last + 1
    omega
theorem Pst.doo_last (s : Pst) (d : Dc) : (s.doo d).last ≤ s.last + 1 := by
  unfold Pst.doo
  split
  · unfold Pst.send
    split
    · omega
    · exact (s.add_last _).1
  split
  · unfold Pst.take
    split
    · show s.last ≤ _; omega
    · omega
  split
  · unfold Pst.drop
    split
    · omega
    · show s.last ≤ _; omega
  split
  · unfold Pst.dbl
    split
    · omega
    · split
      · exact (s.add_last _).1
      · omega
  split
  · unfold Pst.blk
    split
    · omega
    · show s.last ≤ _; omega
  · show s.last ≤ _; omega
theorem Rst.doo_M (r : Rst) (d : Dc) : (r.doo d).M.length ≤ r.M.length + 2 := by
  have hf : ∀ a b, (r.M.filter (keepQ a b)).length ≤ r.M.length := fun a b => List.length_filter_le _ _
  have ha : ∀ x, (r.add x).M = r.M := fun x => by unfold Rst.add; split <;> rfl
  unfold Rst.doo
  split
  · unfold Rst.send
    split
    · omega
    · rw [ha]; omega
  split
  · unfold Rst.take
    split
    · show r.M.length ≤ _; omega
    · omega
  split
  · unfold Rst.drop
    split
    · omega
    · show r.M.length ≤ _; omega
  split
  · unfold Rst.dbl
    split
    · omega
    · split
      · rw [ha]; omega
      · omega
  split
  · unfold Rst.blk
    split
    · omega
    · show (r.M.filter _ ++ _).length ≤ _
      rw [List.length_append]
      have := hf d.a d.b
      simp
      omega
  · show (r.M.filter _).length ≤ _
    have := hf d.a d.b
    omega

/-- A box beside two structures. -/
theorem Two.boxed {A1 A2 : (Nat → Prop) → World → Prop} {U : Nat → Prop} {w0 w : World} (H1 : Held A1) (H2 : Held A2) (h : Two A1 A2 U w0 w) (o : Obj) :
    ∃ V : Nat → Prop, Two A1 A2 V (w.alloc o) (w.alloc o) ∧ ¬ V w.heap.size ∧ (∀ i, V i → i < w.heap.size) ∧ ∀ A1' A2' w', Two A1' A2' V (w.alloc o) w' → Two A1' A2' U w0 w' := by
  obtain ⟨S, T, h1, h2, h3, h4, h5⟩ := id h
  have hS := H1.lt S w h1
  have hT := H2.lt T w h2
  refine ⟨fun i => S i ∨ T i, Two.start (H1.keep S w _ h1 (fun i hi => Go.Deep.blk_alloc_lt _ _ _ (hS i hi)) (by simp)) (H2.keep T w _ h2 (fun i hi => Go.Deep.blk_alloc_lt _ _ _ (hT i hi)) (by simp)) h3, ?_, ?_, ?_⟩
  · rintro (h | h)
    · have := hS _ h; omega
    · have := hT _ h; omega
  · rintro i (h | h)
    · exact hS i h
    · exact hT i h
  · rintro A1' A2' w' ⟨S', T', g1, g2, g3, g4, g5⟩
    refine ⟨S', T', g1, g2, g3, fun i hi => ?_, ((h5.alloc o).trans g5 (fun i hi h => ?_))⟩
    · rcases g4 i hi with h | h
      · exact h4 i h
      · simp at h
        have := h5.size
        exact .inr (by omega)
    · rcases h4 i h with h | h
      · exact h
      · omega
theorem Two.drew {A1 A2 : (Nat → Prop) → World → Prop} {U : Nat → Prop} {w0 w : World} (H1 : Held A1) (H2 : Held A2) (h : Two A1 A2 U w0 w) : Two A1 A2 U w0 w.drew := Two.below H1 H2 h (Below.refl _ _).drew
theorem Two.n1 {A2 : (Nat → Prop) → World → Prop} {U : Nat → Prop} {w0 w : World} {P n n' : Nat} {s : Pst} (h : Two (PA P n s) A2 U w0 w) (hn : n ≤ n') : Two (PA P n' s) A2 U w0 w := by
  obtain ⟨S, T, ⟨v, m, h1, h2, h3, h4⟩, hr⟩ := h
  exact ⟨S, T, ⟨v, m, h1, h2, h3.mono hn, h4⟩, hr⟩
end Go.Proofs.Ytocpneliofjabaa
