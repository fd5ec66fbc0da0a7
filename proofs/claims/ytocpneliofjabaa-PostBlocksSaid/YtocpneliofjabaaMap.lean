/-
  THE MAP OF BLOCKED PAIRS: what the block is good for, as a relation on pairs; looked up, written, struck.
-/
import Derived.Test.YtocpneliofjabaaLib
import Derived.Maps.OwnSet
import Derived.Maps.Views
import Derived.DeepKeys4
namespace Go.Proofs.Ytocpneliofjabaa
open Go.RowKit
set_option maxRecDepth 100000

theorem laidOut : laidOutB Try.prog = true := by kernel_rfl
theorem law65 : WideMaps.KeyLaw Try.prog 65 := deep_law_laid laidOut (m := 85) (by decide) (of_decide_eq_true (by kernel_rfl)) (by kernel_rfl) (by kernel_rfl)
theorem keyed65 : Maps.Keyed Try.prog 65 := Maps.Keyed.of_law law65

/-- A pair's key. -/
def pv (a b : Int) : Value := .agg #[.int .i64 a, .int .i64 b]
def i64r (a : Int) : Prop := -9223372036854775808 ≤ a ∧ a ≤ 9223372036854775807
theorem cells65 : Try.prog.cellsOf 65 = 2 := by kernel_rfl
theorem cells3 : Try.prog.cellsOf 3 = 1 := by kernel_rfl
theorem keyType65 : Try.prog.keyType 65 = true := by kernel_rfl
theorem lits3 (d : Nat) (x : Int) (h : i64r x) : Try.prog.keyLits (d + 1) 3 [.int .i64 x] = some [.int .i64 x] := by
  have hw : (Lit.int .i64 x).wf = true := WalkArith.wf_i64 h
  simp [Program.keyLits, Try.underlying3, hw]
theorem key_pv (a b : Int) (ha : i64r a) (hb : i64r b) : ∃ kl, keyOf Try.prog 65 (pv a b) = some kl := by
  have hf : (pv a b).formed Try.prog 65 = true := by simp [pv, Value.formed, Try.underlying65, cells65]
  have h1 := lits3 85 a ha
  have h2 := lits3 85 b hb
  have hsz : Try.prog.types.size + 1 = 85 + 1 + 1 := by kernel_rfl
  refine ⟨.string (keyBytes [.int .i64 a, .int .i64 b]), ?_⟩
  have hl : Try.prog.keyLits (85 + 1 + 1) 65 [.int .i64 a, .int .i64 b] = some [.int .i64 a, .int .i64 b] := by
    unfold Program.keyLits
    simp only [Try.underlying65]
    rw [if_pos (by rw [cells65]; rfl)]
    simp [cells3, List.range_succ, h1, h2]
  unfold keyOf
  simp only [Try.underlying65, keyType65, hf, Bool.and_self, if_true, hsz]
  show (Try.prog.keyLits (85 + 1 + 1) 65 [.int .i64 a, .int .i64 b]).map _ = _
  rw [hl]
  rfl

/-! ### A map of pairs -/
/-- The block b is a map of at most n entries, in which just the pairs of Q stand (with 1). -/
def MapQ (w : World) (b n : Nat) (Q : Int → Int → Bool) : Prop :=
  ∃ D : DataW Unit, w.ownsMap Try.prog 65 (plainElem Try.prog 3) b n D ∧ ∀ x y kl, keyOf Try.prog 65 (pv x y) = some kl → D.atKey kl (.lit (.int .i64 0)) = .lit (.int .i64 (if Q x y then 1 else 0))
theorem MapQ.lt {w : World} {b n : Nat} {Q : Int → Int → Bool} (h : MapQ w b n Q) : b < w.heap.size := let ⟨_, h1, _⟩ := h; h1.lt
theorem MapQ.kept {w w' : World} {b n : Nat} {Q : Int → Int → Bool} (h : MapQ w b n Q) (e : w'.heap[b]? = w.heap[b]?) : MapQ w' b n Q := by
  obtain ⟨D, ⟨es, c, h1, h2⟩, h3⟩ := h
  exact ⟨D, ⟨es, c, e.trans h1, h2⟩, h3⟩
theorem MapQ.mono {w : World} {b n n' : Nat} {Q : Int → Int → Bool} (h : MapQ w b n Q) (hn : n ≤ n') : MapQ w b n' Q := let ⟨D, h1, h2⟩ := h; ⟨D, h1.mono hn, h2⟩
theorem mapQ_made (w : World) : MapQ (w.alloc (.map #[] 0)) w.heap.size 0 (fun _ _ => false) :=
  ⟨.map [], World.ownsMap_made w _ _ _, fun _ _ _ _ => rfl⟩
theorem zero3 (w : World) : (zeroValue 3).run Try.prog w = .ok (.int .i64 0) w := by kernel_rfl
theorem MapQ.look {w : World} {b n : Nat} {Q : Int → Int → Bool} (h : MapQ w b n Q) (x y : Int) (hx : i64r x) (hy : i64r y) :
    (Instr.lookup 56 (.map (some b)) (pv x y) false).run Try.prog w = .ok (.int .i64 (if Q x y then 1 else 0)) w := by
  obtain ⟨D, h1, h2⟩ := h
  obtain ⟨kl, hk⟩ := key_pv x y hx hy
  obtain ⟨c, hrun, hat, _⟩ := h1.lookup_int keyed65 Try.underlying56 Try.underlying3 (zero3 w) hk
  rw [hrun]
  have h3 := h2 x y kl hk
  rw [hat] at h3
  injection h3 with h3
  injection h3 with _ h3
  rw [h3]
theorem pv_inj {a b x y : Int} (h : pv a b = pv x y) : a = x ∧ b = y := by
  injection h with h
  simpa using h
theorem MapQ.store {w : World} {b n : Nat} {Q : Int → Int → Bool} (h : MapQ w b n Q) (x y : Int) (hx : i64r x) (hy : i64r y) (hn : n < maxLen) :
    ∃ w', (Instr.mapUpdate 56 (.map (some b)) (pv x y) (.int .i64 1)).run Try.prog w = .ok () w' ∧ MapQ w' b (n + 1) (fun u v => Q u v || (u == x && v == y)) ∧ w.grownBy w' (some b) := by
  obtain ⟨D, h1, h2⟩ := h
  obtain ⟨kl, hk⟩ := key_pv x y hx hy
  obtain ⟨w', hrun, h3, h4⟩ := h1.update keyed65 Try.underlying56 hn hk (plainElem_int Try.underlying3 (a := 1) (by decide))
  refine ⟨w', hrun, ⟨_, h3, fun u v k2 hk2 => ?_⟩, h4⟩
  by_cases e : u = x ∧ v = y
  · obtain ⟨rfl, rfl⟩ := e
    obtain rfl : kl = k2 := Option.some.inj (hk.symm.trans hk2)
    rw [Maps.atKey_put_same h1.isMap (keyed65.key hk)]
    simp
  · have hne : k2 ≠ kl := fun h => e (pv_inj (keyed65.inj hk2 (h ▸ hk)))
    rw [Maps.atKey_put_other hne, h2 u v k2 hk2]
    have : (u == x && v == y) = false := by
      rw [Bool.and_eq_false_iff, beq_eq_false_iff_ne, beq_eq_false_iff_ne]
      by_cases h5 : u = x
      · exact .inr (fun h6 => e ⟨h5, h6⟩)
      · exact .inl h5
    simp only [this, Bool.or_false]
theorem MapQ.drop {w : World} {b n : Nat} {Q : Int → Int → Bool} (h : MapQ w b n Q) (x y : Int) (hx : i64r x) (hy : i64r y) (ty : TypeId) :
    ∃ w', (Builtin.delete_ #[56, 65] ty #[.map (some b), pv x y]).run Try.prog w = .ok (.tuple #[]) w' ∧ MapQ w' b n (fun u v => Q u v && !(u == x && v == y)) ∧ w.grownBy w' (some b) := by
  obtain ⟨D, h1, h2⟩ := h
  obtain ⟨kl, hk⟩ := key_pv x y hx hy
  obtain ⟨w', hrun, h3, h4⟩ := h1.drop keyed65 Try.underlying56 hk ty
  refine ⟨w', hrun, ⟨_, h3, fun u v k2 hk2 => ?_⟩, h4.grown⟩
  by_cases e : u = x ∧ v = y
  · obtain ⟨rfl, rfl⟩ := e
    obtain rfl : kl = k2 := Option.some.inj (hk.symm.trans hk2)
    rw [Maps.atKey_del_same]
    simp
  · have hne : k2 ≠ kl := fun h => e (pv_inj (keyed65.inj hk2 (h ▸ hk)))
    rw [Maps.atKey_del_other hne, h2 u v k2 hk2]
    have : (u == x && v == y) = false := by
      rw [Bool.and_eq_false_iff, beq_eq_false_iff_ne, beq_eq_false_iff_ne]
      by_cases h5 : u = x
      · exact .inr (fun h6 => e ⟨h5, h6⟩)
      · exact .inl h5
    simp only [this, Bool.not_false, Bool.and_true]
end Go.Proofs.Ytocpneliofjabaa
