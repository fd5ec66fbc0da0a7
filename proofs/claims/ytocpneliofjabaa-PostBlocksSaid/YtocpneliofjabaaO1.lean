/-
  WHAT IS ON ITS WAY BY THE ANSWERS ALONE (veneerlaw21.way): at, without, began.
-/
import Derived.Test.YtocpneliofjabaaL5
namespace Go.Proofs.Ytocpneliofjabaa
open Go.RowKit
set_option maxRecDepth 100000

def r2 (a b : Value) (j : Nat) : Value := if j = 0 then a else b
theorem r2_set0 (a b u : Value) (j : Nat) : (if j = 0 then u else r2 a b j) = r2 u b j := by
  match j with
  | 0 => rfl
  | k + 1 => simp [r2]
theorem r2_set1 (a b u : Value) (j : Nat) (hj : j < 2) : (if j = 1 then u else r2 a b j) = r2 a u j := by
  match j, hj with
  | 0, _ => rfl
  | 1, _ => rfl
/-- The way lies at B, in the blocks of S. -/
def WaySt (S : Nat → Prop) (w : World) (B : Nat) (L : List Pk) (last : Int) : Prop :=
  ∃ v, w.rowIs B 42 2 (r2 v (.int .i64 last)) ∧ PkOwn 0 w v L ∧ S B ∧ (∀ g, v.ownBlock = some g → S g ∧ g ≠ B) ∧ (∀ i, S i → i < w.heap.size) ∧ L.length ≤ 256
theorem WaySt.keep {S : Nat → Prop} {w w' : World} {B : Nat} {L : List Pk} {last : Int} (h : WaySt S w B L last) (hk : ∀ i, S i → w'.heap[i]? = w.heap[i]?) (hs : w.heap.size ≤ w'.heap.size) : WaySt S w' B L last := by
  obtain ⟨v, h1, h2, h3, h4, h5, h6⟩ := h
  exact ⟨v, h1.of_block (hk B h3), h2.keep (fun k hv => hk k (h4 k hv).1), h3, h4, fun i hi => Nat.lt_of_lt_of_le (h5 i hi) hs, h6⟩
theorem WaySt.lt {S : Nat → Prop} {w : World} {B : Nat} {L : List Pk} {last : Int} (h : WaySt S w B L last) : ∀ i, S i → i < w.heap.size := let ⟨_, _, _, _, _, h5, _⟩ := h; h5
def WA (B : Nat) (L : List Pk) (last : Int) (S : Nat → Prop) (w : World) : Prop := WaySt S w B L last
theorem held_WA (B : Nat) (L : List Pk) (last : Int) : Held (WA B L last) := ⟨fun _ _ _ h hk hs => h.keep hk hs, fun _ _ h => h.lt⟩
theorem WaySt.below {S : Nat → Prop} {w w' : World} {B : Nat} {L : List Pk} {last : Int} (h : WaySt S w B L last) (hb : Below w.heap.size w w') : WaySt S w' B L last := h.keep (fun i hi => hb.block i (h.lt i hi)) hb.size
theorem WaySt.gr {S : Nat → Prop} {w w' : World} {B : Nat} {L : List Pk} {last : Int} (h : WaySt S w B L last) (hb : Below w.heap.size w w') : Kept S w w' ∧ WaySt (Gr S w w') w' B L last := by
  obtain ⟨v, h1, h2, h3, h4, h5, h6⟩ := h.below hb
  exact ⟨Kept.of_below hb, v, h1, h2, .inl h3, fun g hg => ⟨.inl (h4 g hg).1, (h4 g hg).2⟩, Gr.lt h.lt hb.size, h6⟩
/-- Behind a new list, and its store. -/
theorem way_stored {S : Nat → Prop} {w W w3 : World} {B : Nat} {L M : List Pk} {last : Int} {v v3 : Value} {X : Nat} (hrow : W.rowIs B 42 2 (r2 v (.int .i64 last))) (hk : Kept S w W) (hX : w.heap.size ≤ X)
    (hgr : Below X W w3) (ho3 : PkOwn X w3 v3 M) (h4 : S B) (h7 : ∀ i, S i → i < w.heap.size) (hM : M.length ≤ 256) :
    Kept S w (w3.setCell ⟨B, 0, none⟩ v3) ∧ WaySt (Gr S w (w3.setCell ⟨B, 0, none⟩ v3)) (w3.setCell ⟨B, 0, none⟩ v3) B M last := by
  have hk3 : Kept S w w3 := hk.trans (⟨hgr.os, hgr.tape, hgr.output, hgr.size, fun i hi hn => hgr.block i (by simpa using hn)⟩ : Kept (fun i => ¬ i < X) W w3) (fun i hi h => absurd (Nat.lt_of_lt_of_le hi hX) h)
  have hrow3 := hrow.of_block (hgr.block B (Nat.lt_of_lt_of_le (h7 B h4) hX))
  have hv3 : ∀ g, v3.ownBlock = some g → w.heap.size ≤ g ∧ g < w3.heap.size := fun g hg => ⟨Nat.le_trans hX (ho3.lt g hg).1, (ho3.lt g hg).2⟩
  have hsz : (w3.setCell ⟨B, 0, none⟩ v3).heap.size = w3.heap.size := by simp [World.setCell]
  have hBl := h7 B h4
  refine ⟨hk3.setCell (fun _ => h4) _, v3, ?_, ?_, .inl h4, ?_, ?_, hM⟩
  · exact (hrow3.set 0 _).congr (fun i _ => r2_set0 _ _ _ i)
  · have h := ho3.keep (w' := w3.setCell ⟨B, 0, none⟩ v3) (fun k hk => Below.heap_setCell _ _ _ _ (by have := hv3 k hk; show k ≠ B; omega))
    exact own_low h
  · intro g hg
    have := hv3 g hg
    exact ⟨.inr ⟨this.1, by rw [hsz]; exact this.2⟩, by omega⟩
  · exact Gr.lt h7 (by rw [hsz]; exact hk3.size)
theorem way_last {S : Nat → Prop} {w w3 : World} {B : Nat} {L : List Pk} {last z : Int} (h : Kept S w w3 ∧ WaySt (Gr S w w3) w3 B L last) (h4 : S B) : Kept S w (w3.setCell ⟨B, 1, none⟩ (.int .i64 z)) ∧ WaySt (Gr S w (w3.setCell ⟨B, 1, none⟩ (.int .i64 z))) (w3.setCell ⟨B, 1, none⟩ (.int .i64 z)) B L z := by
  obtain ⟨hk, v, h1, h2, h3, g4, g5, g6⟩ := h
  have hsz : (w3.setCell ⟨B, 1, none⟩ (.int .i64 z)).heap.size = w3.heap.size := by simp [World.setCell]
  have hgr : ∀ i, Gr S w w3 i → Gr S w (w3.setCell ⟨B, 1, none⟩ (.int .i64 z)) i := fun i hi => hi.imp _root_.id (fun ⟨a, b⟩ => ⟨a, by rw [hsz]; exact b⟩)
  refine ⟨hk.setCell (fun _ => h4) _, v, (h1.set 1 _).congr (fun i hi => r2_set1 _ _ _ i hi), h2.keep (fun k hk => Below.heap_setCell _ _ _ _ (g4 k hk).2), .inl h4, fun g hg => ⟨hgr g (g4 g hg).1, (g4 g hg).2⟩, fun i hi => ?_, g6⟩
  rw [hsz]
  exact g5 i (hi.imp _root_.id (fun ⟨a, b⟩ => ⟨a, by rw [hsz] at b; exact b⟩))

set_option maxHeartbeats 4000000 in
/-- at(l, id). -/
theorem at_any (v : Value) (L : List Pk) (id : Int) (w : World) (hv : PkOwn 0 w v L) (hL : L.length ≤ 1000000) :
    Calls Try.prog 29 #[v, .int .i64 id] w fun e w' => e = .returned (.int .i64 (fndI id L)) ∧ w = w' := by
  obtain ⟨ad, cap, rfl, hc1, hc2, hc3⟩ := hv.shape
  have HC := Lib.hid hc3
  unfold maxLen at hc2
  clear hv hc3
  go_enter Try.func29, Try.ntmps29
  go_wp2_with fail
  go_loop [5] (fun i => ∃ k : Nat, k ≤ L.length ∧ i = .int .i64 k ∧ Hid (∀ (j : Nat) (y : Pk), j < k → L[j]? = some y → y.id ≠ id)) (fun i => L.length - (intOf i).toNat)
  case atStart => exact ⟨0, by omega, rfl, Lib.hid (fun j y hj => by omega)⟩
  case round =>
    obtain ⟨k, hk, rfl, hno⟩ := hrel
    by_cases hlt2 : k < L.length
    · obtain ⟨x, hx⟩ : ∃ x, L[k]? = some x := ⟨_, List.getElem?_eq_getElem hlt2⟩
      obtain ⟨g, rfl, _, _, hg, d0, d1, d2, d3⟩ := HC.out k x hx
      have HX := Lib.hid hx
      cases hq : (x.id == id)
      · have hno2 : Hid (∀ (j : Nat) (y : Pk), j < k + 1 → L[j]? = some y → y.id ≠ id) := Lib.hid (fun j y hj hy => by
          by_cases e : j = k
          · subst e
            rw [HX.out] at hy
            cases hy
            simpa using hq
          · exact hno.out j y (by omega) hy)
        clear hx hno d1 d2 d3
        go_wp2_with fail
        go_round
        case rel => exact ⟨k + 1, by omega, by go_num, hno2⟩
        case measure => simp [intOf]; omega
      · have hf : Hid (fndI id L = k) := Lib.hid (fndI_at hx (by simpa using hq) hno.out)
        clear hx d1 d2 d3
        go_wp2_with fail
        go_ret
        exact ⟨by rw [hf.out]; rfl, rfl⟩
    · have hf : Hid (fndI id L = -1) := Lib.hid (fndI_none (fun j y hy => hno.out j y (by have := (List.getElem?_eq_some_iff.1 hy).1; omega) hy))
      go_wp2_with fail
      go_ret
      exact ⟨by rw [hf.out]; rfl, rfl⟩

set_option maxHeartbeats 4000000 in
theorem without_any (v : Value) (L : List Pk) (i : Nat) (w : World) (hv : PkOwn 0 w v L) (hL : L.length ≤ 256) (hi : i < L.length) :
    Calls Try.prog 31 #[v, .int .i64 (i : Int)] w fun e w' => ∃ v', e = .returned v' ∧ PkOwn w.heap.size w' v' (rmv i L) ∧ Below w.heap.size w w' := by
  obtain ⟨x, hx⟩ : ∃ x, L[i]? = some x := ⟨_, List.getElem?_eq_getElem hi⟩
  obtain ⟨ad, cap, rfl, hc1, hc2, hc3⟩ := hv.shape
  obtain ⟨g, rfl, _⟩ := hc3 i x hx
  obtain ⟨m, hm⟩ : ∃ m, L.length = i + 1 + m := ⟨L.length - (i + 1), by omega⟩
  have HV := Lib.hid hv
  have HM := Lib.hid hm
  have HIL := Lib.hid (show i ≤ L.length by omega)
  have hfit : ([] : List Pk).length + (L.take i).length ≤ 3000000 := by simp; omega
  have hfit2 : ([] ++ L.take i).length + (L.drop (i + 1)).length ≤ 3000000 := by simp; omega
  have HF1 := Lib.hid hfit
  have HF2 := Lib.hid hfit2
  unfold maxLen at hc2
  rw [hm] at hc1 hL ⊢
  have hi0 : (0 : Int) ≤ (i : Int) := by omega
  have hi1 : (i : Int) ≤ (cap : Int) := by omega
  have hi2 : (0 : Int) ≤ (i : Int) + 1 := by omega
  have hi3 : (i : Int) + 1 ≤ (i : Int) + 1 + (m : Int) := by omega
  have hown : PkOwn w.heap.size (w.alloc (.cells #[] 49)) (.slice (some ⟨w.heap.size, 0, none⟩) 0 0) [] := own_empty (Nat.le_refl _) (Go.Deep.blk_alloc_new _ _)
  have HO := Lib.hid hown
  clear hv hc3 hx hm hi hfit hfit2 hown
  by_cases hcap : cap = i + 1
  · obtain rfl : m = 0 := by omega
    subst hcap
    go_enter Try.func31, Try.ntmps31
    go_wp2_with (first
      | (refine wpList_append_pk rfl (.tmp 6) (.tmp 9) rfl w.heap.size _ [] rfl HO.out _ (L.take i) rfl (src_take (pk_below HV.out (by exact (Below.refl _ w).alloc (Nat.le_refl _) _)) HIL.out _) HF1.out (by simp) ?_; intro v3 w3 hown3 hgr3 _
         have hB3 : Below w.heap.size w w3 := ((Below.refl _ w).alloc (Nat.le_refl _) _).trans (below_of_grown hgr3 (Nat.le_refl _) (by simp))
         clear hgr3)
      | (refine wpList_append_pk rfl (.tmp 11) (.tmp 15) rfl w.heap.size v3 ([] ++ L.take i) rfl hown3 _ (L.drop (i + 1)) rfl (src_drop0 HM.out _ _) HF2.out hB3.size ?_; intro v4 w4 hown4 hgr4 _)
      | fail)
    go_ret
    exact ⟨_, rfl, hown4, hB3.grown hgr4 hB3.size (fun k hk => (hown3.lt k hk).1)⟩
  · have hne : ¬ cap = i + 1 := hcap
    go_enter Try.func31, Try.ntmps31
    go_wp2_with (first
      | (refine wpList_append_pk rfl (.tmp 6) (.tmp 9) rfl w.heap.size _ [] rfl HO.out _ (L.take i) rfl (src_take (pk_below HV.out (by exact (Below.refl _ w).alloc (Nat.le_refl _) _)) HIL.out _) HF1.out (by simp) ?_; intro v3 w3 hown3 hgr3 _
         have hB3 : Below w.heap.size w w3 := ((Below.refl _ w).alloc (Nat.le_refl _) _).trans (below_of_grown hgr3 (Nat.le_refl _) (by simp))
         clear hgr3)
      | (refine wpList_append_pk rfl (.tmp 11) (.tmp 15) rfl w.heap.size v3 ([] ++ L.take i) rfl hown3 _ (L.drop (i + 1)) rfl (src_drop (pk_below HV.out hB3) HM.out _) HF2.out hB3.size ?_; intro v4 w4 hown4 hgr4 _)
      | fail)
    go_ret
    exact ⟨_, rfl, hown4, hB3.grown hgr4 hB3.size (fun k hk => (hown3.lt k hk).1)⟩
end Go.Proofs.Ytocpneliofjabaa
