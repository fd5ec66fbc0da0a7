/-
  THE LAW PostBlocks: its packets as data (plain); the numbers that were given, in memory.
-/
import Derived.Test.YtocpneliofjabaaO3
namespace Go.Proofs.Ytocpneliofjabaa
open Go.RowKit
set_option maxRecDepth 100000

section
variable (F T : Nat → Int) (Bd : Nat → ByteArray)
def bpk (j : Nat) : Pk := ⟨(j : Int) + 1, F j, T j, Bd j⟩
def bL (k : Nat) : List Pk := (List.range k).map (bpk F T Bd)
def bS (k : Nat) : Pst := ⟨128, k, bL F T Bd k, fun _ _ => false⟩
theorem length_bL (k : Nat) : (bL F T Bd k).length = k := by simp [bL]
theorem bL_succ (k : Nat) : bL F T Bd (k + 1) = bL F T Bd k ++ [bpk F T Bd k] := by simp [bL, List.range_succ]
theorem bL_get (k i : Nat) (h : i < k) : (bL F T Bd k)[i]? = some (bpk F T Bd i) := by simp [bL, h]
theorem bS_send (k : Nat) (hk : k < 60) : (bS F T Bd k).send (F k) (T k) (Bd k) = bS F T Bd (k + 1) ∧ (bS F T Bd k).sendN (F k) (T k) = (k : Int) + 1 := by
  have hf : (bS F T Bd k).full = false := by
    show decide ((128 : Int) ≤ ((bL F T Bd k).length : Int)) = false
    rw [length_bL]
    simp
    omega
  have hb : (bS F T Bd k).bl (F k) (T k) = false := rfl
  constructor
  · unfold Pst.send Pst.add
    rw [hf, hb]
    show (bS F T Bd k).push _ = _
    unfold Pst.push bS
    rw [bL_succ]
    congr 1
  · unfold Pst.sendN Pst.addN
    rw [hf, hb]
    rfl
end
/-- Are two of the packets' ends the two that are blocked? -/
def stuckB (a b x y : Int) : Bool := !(a == b) && ((x == a && y == b) || (x == b && y == a))
theorem blk_bl (s : Pst) (hs : ∀ x y, s.bl x y = false) (a b x y : Int) : (s.blk a b).bl x y = stuckB a b x y := by
  unfold stuckB Pst.blk
  by_cases h : a = b
  · rw [if_pos h, hs]
    simp [h]
  · rw [if_neg h]
    show (s.D (min x y) (max x y) || (min x y == min a b && max x y == max a b)) = _
    have h1 := hs x y
    unfold Pst.bl at h1
    rw [h1, pair_eq]
    have : (a == b) = false := by simpa using h
    rw [this]
    rfl
theorem fre_bl (s : Pst) (hs : ∀ x y, s.bl x y = false) (a b x y : Int) : ((s.blk a b).fre b a).bl x y = false := by
  show ((s.blk a b).D (min x y) (max x y) && !(min x y == min b a && max x y == max b a)) = false
  have h1 := blk_bl s hs a b x y
  unfold Pst.bl at h1
  rw [h1, pair_eq]
  unfold stuckB
  cases (x == a && y == b) <;> cases (x == b && y == a) <;> cases (a == b) <;> rfl
/-- What is left, behind so many takes. -/
def leftS (s : Pst) (i : Nat) : Pst := ⟨s.most, s.last, s.L.drop i, s.D⟩
theorem leftS_take (F T : Nat → Int) (Bd : Nat → ByteArray) (s : Pst) (N : Nat) (hL : s.L = bL F T Bd N) (hs : ∀ x y, s.bl x y = false) (i : Nat) (hi : i < N) :
    (leftS s i).takes ((i : Int) + 1) = true ∧ (leftS s i).takeX ((i : Int) + 1) = bpk F T Bd i ∧ (leftS s i).take ((i : Int) + 1) = leftS s (i + 1) := by
  have h0 : (leftS s i).L[0]? = some (bpk F T Bd i) := by
    show (s.L.drop i)[0]? = _
    rw [hL, List.getElem?_drop, Nat.add_zero]
    exact bL_get F T Bd N i hi
  have hf : fndI ((i : Int) + 1) (leftS s i).L = (0 : Nat) := fndI_at h0 rfl (fun j y hj => by omega)
  obtain ⟨e1, e2⟩ := Pst.take_some hf h0
  have hb : (leftS s i).bl (bpk F T Bd i).fr (bpk F T Bd i).to = false := hs _ _
  rw [hb] at e1
  refine ⟨e1, ?_, ?_⟩
  · unfold Pst.takeX
    rw [e1, e2]
    rfl
  · unfold Pst.take
    rw [e1, hf]
    show (leftS s i).cut 0 = _
    unfold Pst.cut leftS rmv
    simp [List.drop_drop]

/-! ### The numbers, in memory -/
def nums (k : Nat) : List Value := (List.range k).map (fun j : Nat => Value.int .i64 ((j : Int) + 1))
theorem nums_succ (k : Nat) : nums (k + 1) = nums k ++ [.int .i64 ((k : Int) + 1)] := by simp [nums, List.range_succ]
theorem nums_get (k i : Nat) (h : i < k) : (nums k)[i]? = some (.int .i64 ((i : Int) + 1)) := by simp [nums, h]
def IA (v : Value) (k : Nat) (S : Nat → Prop) (w : World) : Prop := w.ownsRow 0 3 1 v k (nums k) ∧ (∀ g, v.ownBlock = some g → S g) ∧ ∀ i, S i → i < w.heap.size
theorem held_IA (v : Value) (k : Nat) : Held (IA v k) := by
  refine ⟨?_, fun S w h => h.2.2⟩
  rintro S w w' ⟨⟨h1, h2⟩, h3, h4⟩ hk hs
  refine ⟨⟨h1, ?_⟩, h3, fun i hi => Nat.lt_of_lt_of_le (h4 i hi) hs⟩
  rcases h2 with h2 | ⟨g, cap, cur, rfl, hg, hh, r⟩
  · exact .inl h2
  · exact .inr ⟨g, cap, cur, rfl, hg, by rw [hk g (h3 g rfl)]; exact hh, r⟩
theorem info3' : (Try.prog.info? 3).map (fun i => (i.zero, i.size, i.bytes)) = some (some (.int .i64 0), 1, 8) := by kernel_rfl
/-- A number more, as a step of a region. -/
theorem step_append_num {A1 : (Nat → Prop) → World → Prop} {U : Nat → Prop} {w0 w3 w : World} {ops : Array Oper} {o : Oper} {a : Act} {K : Act → World → Prop} {Q : Exit → Act → World → Prop} {E : Prop} (hgd : o.guard = none) (s x : Operand)
    (ho : o.op = .call { callee := .builtin .append, args := #[s, x], argTypes := #[44, 44] }) (v : Value) (k : Nat) (hs : a.eval s = v) (H1 : Held A1) (hT : Two A1 (IA v k) U w0 w3) (hk : k ≤ 1000000)
    (hx : a.eval x = .slice (some ⟨w3.heap.size, 0, none⟩) 1 1) (hw : w = w3.alloc (.cells #[.int .i64 ((k : Int) + 1)] 3))
    (h : ∀ v' w', Two A1 (IA v' (k + 1)) U w0 w' → K (a.put o.dst v') w') :
    if Region.wanted o (yielded ops a.tmps) = true then Oper.wp Try.prog o a w K Q else E := by
  have hwt : Region.wanted o (yielded ops a.tmps) = true := by simp [Region.wanted, hgd]
  rw [if_pos hwt]
  subst hw
  have hTw := Two.below H1 (held_IA v k) hT ((Below.refl _ _).alloc (Nat.le_refl _) (.cells #[.int .i64 ((k : Int) + 1)] 3))
  have hown : (w3.alloc (.cells #[.int .i64 ((k : Int) + 1)] 3)).ownsRow 0 3 1 v k (nums k) := by obtain ⟨S, T, _, h1, _⟩ := hTw; exact h1.1
  refine wp_append_src s x 44 ho 0 3 1 8 _ Try.underlying44 info3' rfl (by omega) v k (nums k) hs hown _ 1 [.int .i64 ((k : Int) + 1)] hx (Src.of_block (Go.Deep.blk_alloc_new w3 _) rfl) (by intro u hu; simp at hu; subst hu; rfl) (by unfold maxLen; omega) (by omega) (Nat.zero_le _) (fun v' w' g1 g2 g3 => h v' w' ?_)
  refine hTw.step2 H1 (held_IA v k) (fun S hp => ?_)
  obtain ⟨p1, p2, p3⟩ := hp
  refine ⟨Kept.of_grown g2 p2, by rw [nums_succ]; exact g1, fun g hg => ?_, Gr.lt p3 g2.size⟩
  rcases g3 with e | e
  · exact .inl (p2 g (e ▸ hg))
  · rw [hg] at e
    have := (World.ownsRow.lt g1 g hg).2
    exact .inr ⟨by simpa using Nat.le_of_eq (Option.some.inj e).symm, this⟩
end Go.Proofs.Ytocpneliofjabaa
