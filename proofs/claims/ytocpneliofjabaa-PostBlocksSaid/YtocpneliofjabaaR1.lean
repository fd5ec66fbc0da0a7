/-
  THE REFERENCE's POST: its state; Blocked, find, First.
-/
import Derived.Test.YtocpneliofjabaaP6
import Derived.ChangeKeysEq
namespace Go.Proofs.Ytocpneliofjabaa
open Go.RowKit
set_option maxRecDepth 100000

structure Rst where
  most : Int
  ever : Int
  L : List Pk
  M : List (Int × Int)
def Rst.bl (r : Rst) (a b : Int) : Bool := r.M.any (fun p => p.1 == a && p.2 == b)
def Rst.st (r : Rst) : Pst := ⟨r.most, r.ever, r.L, r.bl⟩
/-- The reference's post lies at R, in the blocks of S. -/
def RefSt (S : Nat → Prop) (w : World) (R : Nat) (r : Rst) : Prop :=
  ∃ v u, w.rowIs R 32 4 (r4 (.int .i64 r.most) (.int .i64 r.ever) v u) ∧ PkOwn 0 w v r.L ∧ PrOwn 0 w u r.M ∧ S R ∧ (∀ g, v.ownBlock = some g → S g ∧ g ≠ R ∧ u.ownBlock ≠ some g) ∧ (∀ g, u.ownBlock = some g → S g ∧ g ≠ R) ∧ (∀ i, S i → i < w.heap.size) ∧ r.st.Fine ∧ r.M.length ≤ 1000000
theorem RefSt.keep {S : Nat → Prop} {w w' : World} {R : Nat} {r : Rst} (h : RefSt S w R r) (hk : ∀ i, S i → w'.heap[i]? = w.heap[i]?) (hs : w.heap.size ≤ w'.heap.size) : RefSt S w' R r := by
  obtain ⟨v, u, h1, h2, h3, h4, h5, h6, h7, h8⟩ := h
  exact ⟨v, u, h1.of_block (hk R h4), h2.keep (fun k hv => hk k (h5 k hv).1), h3.keep (fun k hv => hk k (h6 k hv).1), h4, h5, h6, fun i hi => Nat.lt_of_lt_of_le (h7 i hi) hs, h8⟩
theorem RefSt.lt {S : Nat → Prop} {w : World} {R : Nat} {r : Rst} (h : RefSt S w R r) : ∀ i, S i → i < w.heap.size := let ⟨_, _, _, _, _, _, _, _, h7, _⟩ := h; h7
theorem RefSt.fine {S : Nat → Prop} {w : World} {R : Nat} {r : Rst} (h : RefSt S w R r) : r.st.Fine := let ⟨_, _, _, _, _, _, _, _, _, h8, _⟩ := h; h8
theorem RefSt.below {S : Nat → Prop} {w w' : World} {R : Nat} {r : Rst} (h : RefSt S w R r) (hb : Below w.heap.size w w') : RefSt S w' R r := h.keep (fun i hi => hb.block i (h.lt i hi)) hb.size
theorem RefSt.mono {S T : Nat → Prop} {w : World} {R : Nat} {r : Rst} (h : RefSt S w R r) (hST : ∀ i, S i → T i) (hT : ∀ i, T i → i < w.heap.size) : RefSt T w R r := by
  obtain ⟨v, u, h1, h2, h3, h4, h5, h6, h7, h8⟩ := h
  exact ⟨v, u, h1, h2, h3, hST _ h4, fun g hg => ⟨hST _ (h5 g hg).1, (h5 g hg).2⟩, fun g hg => ⟨hST _ (h6 g hg).1, (h6 g hg).2⟩, hT, h8⟩
theorem Kept.gr_ref {S : Nat → Prop} {w w' : World} {R : Nat} {r : Rst} (hp : RefSt S w R r) (hb : Below w.heap.size w w') : Kept S w w' ∧ RefSt (Gr S w w') w' R r :=
  ⟨Kept.of_below hb, (hp.below hb).mono (fun _ hi => .inl hi) (Gr.lt hp.lt hb.size)⟩

theorem plain3 : Try.prog.plainKey 3 = true := by kernel_rfl
theorem info3 : (Try.prog.info? 3).map (fun i => (i.zero, i.size, i.bytes)) = some (some (.int .i64 0), 1, 8) := by kernel_rfl
/-- Two pairs compared. -/
theorem run_equalIn_65 (d : Nat) (a b x y : Int) (w : World) : (Op.equalIn (d + 2) 65 (.agg #[.int .i64 a, .int .i64 b]) (.agg #[.int .i64 x, .int .i64 y])).run Try.prog w = .ok (a == x && b == y) w := by
  obtain ⟨i, hi, _⟩ := info_parts info3
  rw [run_equalIn_array w (d + 1) _ _ Try.underlying65 hi, cells3]
  have p1 := run_part_plain (P := Try.prog) w plain3 (xs := #[.int .i64 a, .int .i64 b]) (off := 0 * 1) (v := .int .i64 a) rfl
  have p2 := run_part_plain (P := Try.prog) w plain3 (xs := #[.int .i64 x, .int .i64 y]) (off := 0 * 1) (v := .int .i64 x) rfl
  have p3 := run_part_plain (P := Try.prog) w plain3 (xs := #[.int .i64 a, .int .i64 b]) (off := 1 * 1) (v := .int .i64 b) rfl
  have p4 := run_part_plain (P := Try.prog) w plain3 (xs := #[.int .i64 x, .int .i64 y]) (off := 1 * 1) (v := .int .i64 y) rfl
  have q1 := run_equalIn_int (P := Try.prog) w d 3 .i64 .i64 a x Try.underlying3
  have q2 := run_equalIn_int (P := Try.prog) w d 3 .i64 .i64 b y Try.underlying3
  have e : List.range 2 = [0, 1] := rfl
  rw [e]
  simp only [Op.eqItems, Sem.run_bind, p1, p2, q1, Result.andThen_ok]
  cases h : (a == x)
  · simp
  · simp only [Bool.not_true, Bool.false_eq_true, if_false, Sem.run_bind, p3, p4, q2, Result.andThen_ok, Bool.true_and]
    cases h2 : (b == y) <;> simp

set_option maxHeartbeats 4000000 in
/-- r.Blocked(a, b). -/
theorem rblocked_any (S : Nat → Prop) (R : Nat) (r : Rst) (a b : Int) (w : World) (hp : RefSt S w R r) :
    Calls Try.prog 27 #[.pointer (some ⟨R, 0, none⟩), .int .i64 a, .int .i64 b] w fun e w' => e = .returned (.bool (r.bl a b)) ∧ w = w' := by
  obtain ⟨v, u, h1, h2, h3, h4, h5, h6, h7, h8, h9⟩ := hp
  obtain ⟨ad, cap, rfl, hc1, hc2, hc3⟩ := h3.shape
  have c3 : w.cell? ⟨R, 3, none⟩ = some (.slice ad r.M.length cap) := h1.cell (by omega)
  have HC := Lib.hid hc3
  unfold maxLen at hc2
  clear h1 h2 h3 h4 h5 h6 h7 h8 hc3
  go_enter Try.func27, Try.ntmps27
  go_wp2_with fail
  go_loop [7] (fun i => ∃ k : Nat, k ≤ r.M.length ∧ i = .int .i64 k ∧ Hid (∀ (j : Nat) (y : Int × Int), j < k → r.M[j]? = some y → (y.1 == a && y.2 == b) = false)) (fun i => r.M.length - (intOf i).toNat)
  case atStart => exact ⟨0, by omega, rfl, Lib.hid (fun j y hj => by omega)⟩
  case round =>
    obtain ⟨k, hk, rfl, hno⟩ := hrel
    by_cases hlt2 : k < r.M.length
    · obtain ⟨x, hx⟩ : ∃ x, r.M[k]? = some x := ⟨_, List.getElem?_eq_getElem hlt2⟩
      obtain ⟨g, rfl, _, _, hg, d0, d1⟩ := HC.out k x hx
      have HX := Lib.hid hx
      have heq := run_equalIn_65 9998 x.1 x.2 a b w
      cases hq : (x.1 == a && x.2 == b)
      · rw [hq] at heq
        have hno2 : Hid (∀ (j : Nat) (y : Int × Int), j < k + 1 → r.M[j]? = some y → (y.1 == a && y.2 == b) = false) := Lib.hid (fun j y hj hy => by
          by_cases e : j = k
          · subst e
            rw [HX.out] at hy
            cases hy
            exact hq
          · exact hno.out j y (by omega) hy)
        clear hx hq hno
        go_wp2_with fail
        go_round
        case rel => exact ⟨k + 1, by omega, by go_num, hno2⟩
        case measure => simp [intOf]; omega
      · rw [hq] at heq
        have hf : Hid (r.bl a b = true) := Lib.hid (by
          unfold Rst.bl
          rw [List.any_eq_true]
          exact ⟨x, List.mem_of_getElem? hx, hq⟩)
        clear hx hq
        go_wp2_with fail
        go_ret
        exact ⟨by rw [hf.out]; rfl, rfl⟩
    · have hf : Hid (r.bl a b = false) := Lib.hid (by
        unfold Rst.bl
        rw [List.any_eq_false]
        intro x hx
        obtain ⟨j, hj, rfl⟩ := List.getElem_of_mem hx
        simpa using hno.out j _ (by omega) (List.getElem?_eq_getElem hj))
      go_wp2_with fail
      go_ret
      exact ⟨by rw [hf.out]; rfl, rfl⟩
end Go.Proofs.Ytocpneliofjabaa
