/-
  FINDING A PACKET by its number; the packets as a list of their own.
-/
import Derived.Test.YtocpneliofjabaaAp
import Derived.WalkSpells
import Derived.Deep.LoopGhost
namespace Go.Proofs.Ytocpneliofjabaa
open Go.RowKit
set_option maxRecDepth 100000

/-- The place of a packet. -/
def fndI (id : Int) (L : List Pk) : Int := if L.findIdx (fun x => x.id == id) < L.length then (L.findIdx (fun x => x.id == id) : Int) else -1
theorem fndI_at {id : Int} {L : List Pk} {k : Nat} {x : Pk} (hx : L[k]? = some x) (he : x.id = id) (hno : ∀ (j : Nat) (y : Pk), j < k → L[j]? = some y → y.id ≠ id) : fndI id L = k := by
  obtain ⟨hk, hx⟩ := List.getElem?_eq_some_iff.1 hx
  have : L.findIdx (fun x => x.id == id) = k := (List.findIdx_eq hk).2 ⟨by simp [hx, he], fun j hj => by
    have := hno j L[j] hj (List.getElem?_eq_getElem (by omega))
    simpa using this⟩
  unfold fndI
  rw [this, if_pos hk]
theorem fndI_none {id : Int} {L : List Pk} (hno : ∀ (j : Nat) (y : Pk), L[j]? = some y → y.id ≠ id) : fndI id L = -1 := by
  unfold fndI
  rw [if_neg]
  rw [List.findIdx_lt_length]
  rintro ⟨x, hx, he⟩
  obtain ⟨j, hj, rfl⟩ := List.getElem_of_mem hx
  exact hno j _ (List.getElem?_eq_getElem hj) (by simpa using he)
theorem fndI_cases (id : Int) (L : List Pk) : (fndI id L = -1 ∧ ∀ x ∈ L, x.id ≠ id) ∨ ∃ (i : Nat) (x : Pk), fndI id L = i ∧ L[i]? = some x ∧ x.id = id := by
  by_cases h : L.findIdx (fun x => x.id == id) < L.length
  · refine .inr ⟨L.findIdx (fun x => x.id == id), L[L.findIdx (fun x => x.id == id)], by unfold fndI; rw [if_pos h], List.getElem?_eq_getElem h, ?_⟩
    have := List.findIdx_getElem (w := h)
    simpa using this
  · refine .inl ⟨by unfold fndI; rw [if_neg h], fun x hx he => h ?_⟩
    rw [List.findIdx_lt_length]
    exact ⟨x, hx, by simpa using he⟩

set_option maxHeartbeats 1000000 in
/-- find's own question at a packet. -/
theorem ask_any (x : Pk) (c : Nat) (id : Int) (w : World) (hc : w.cell? ⟨c, 0, none⟩ = some (.int .i64 id)) :
    Calls Try.prog 39 #[pka x, .pointer (some ⟨c, 0, none⟩)] w fun e w' => e = .returned (.bool (x.id == id)) ∧ Below w.heap.size w w' := by
  have hlt : c < w.heap.size := World.block_lt_of_cell? w ⟨c, 0, none⟩ hc
  unfold pka
  go_enter Try.func39, Try.ntmps39
  go_wp2_with fail
  go_ret
  exact ⟨rfl, (Below.refl _ _).alloc (Nat.le_refl _) _⟩

set_option maxHeartbeats 4000000 in
theorem index_any (v : Value) (L : List Pk) (c : Nat) (id : Int) (w : World) (hv : PkOwn 0 w v L) (hL : L.length ≤ 1000000) (hc : w.cell? ⟨c, 0, none⟩ = some (.int .i64 id)) :
    Calls Try.prog 38 #[v, .func (.func 39) #[] #[.pointer (some ⟨c, 0, none⟩)]] w fun e w' => e = .returned (.int .i64 (fndI id L)) ∧ Below w.heap.size w w' := by
  obtain ⟨a, cap, rfl, hcap, hmax, hcell⟩ := hv.shape
  have hlt : c < w.heap.size := World.block_lt_of_cell? w ⟨c, 0, none⟩ hc
  have HC := Lib.hid hcell
  have HI := Lib.hid hc
  unfold maxLen at hmax
  clear hv hcell hc
  go_enter Try.func38, Try.ntmps38
  go_wp2_with fail
  go_loopw [8] (fun i wr => ∃ k : Nat, k ≤ L.length ∧ i = .int .i64 k ∧ Hid (∀ (j : Nat) (y : Pk), j < k → L[j]? = some y → y.id ≠ id) ∧ Below w.heap.size w wr) (fun i _ => L.length - (intOf i).toNat)
  case atStart => exact ⟨0, by omega, rfl, Lib.hid (fun j y hj => by omega), Below.refl _ _⟩
  case round =>
    obtain ⟨k, hk, rfl, hno, hb⟩ := hrel
    by_cases hlt2 : k < L.length
    · obtain ⟨x, hx⟩ : ∃ x, L[k]? = some x := ⟨_, List.getElem?_eq_getElem hlt2⟩
      obtain ⟨g, rfl, _, _, hg, c0, c1, c2, c3⟩ := HC.out k x hx
      have HX := Lib.hid hx
      have d0 : wr.cell? ⟨g, k * 4, none⟩ = some (.int .i64 x.id) := (hb.cell (p := ⟨g, k * 4, none⟩) hg).trans c0
      have d1 : wr.cell? ⟨g, k * 4 + 1, none⟩ = some (.int .i64 x.fr) := (hb.cell (p := ⟨g, k * 4 + 1, none⟩) hg).trans c1
      have d2 : wr.cell? ⟨g, k * 4 + 2, none⟩ = some (.int .i64 x.to) := (hb.cell (p := ⟨g, k * 4 + 2, none⟩) hg).trans c2
      have d3 : wr.cell? ⟨g, k * 4 + 3, none⟩ = some (.string x.body) := (hb.cell (p := ⟨g, k * 4 + 3, none⟩) hg).trans c3
      have di : wr.cell? ⟨c, 0, none⟩ = some (.int .i64 id) := (hb.cell (p := ⟨c, 0, none⟩) hlt).trans HI.out
      clear hx c0 c1 c2 c3
      go_wp2_with fail
      refine (ask_any x c id wr di).mono ?_
      rintro e w1 ⟨rfl, hb1⟩
      have hb2 := hb.trans (hb1.mono hb.size)
      by_cases he : x.id = id
      · have hq : (x.id == id) = true := by simpa using he
        have hf := Lib.hid (fndI_at HX.out he hno.out)
        clear he d0 d1 d2 d3 di
        rw [hq]
        go_wp2_with fail
        go_ret
        exact ⟨by rw [hf.out]; rfl, hb2⟩
      · have hq : (x.id == id) = false := by simpa using he
        have hno2 : Hid (∀ (j : Nat) (y : Pk), j < k + 1 → L[j]? = some y → y.id ≠ id) := Lib.hid (fun j y hj hy => by
          by_cases e : j = k
          · subst e
            rw [HX.out] at hy
            cases hy
            exact he
          · exact hno.out j y (by omega) hy)
        clear he d0 d1 d2 d3 di hno
        rw [hq]
        go_wp2_with fail
        go_roundw
        case rel => exact ⟨k + 1, by omega, by go_num, hno2, hb2⟩
        case measure => simp [intOf]; omega
    · have hf : Hid (fndI id L = -1) := Lib.hid (fndI_none (fun j y hy => hno.out j y (by have := (List.getElem?_eq_some_iff.1 hy).1; omega) hy))
      go_wp2_with fail
      go_ret
      exact ⟨by rw [hf.out]; rfl, hb⟩
set_option maxHeartbeats 1000000 in
/-- p.find(id). -/
theorem find_any (S : Nat → Prop) (P n : Nat) (s : Pst) (id : Int) (w : World) (hp : PostSt S w P n s) :
    Calls Try.prog 34 #[.pointer (some ⟨P, 0, none⟩), .int .i64 id] w fun e w' => e = .returned (.int .i64 (fndI id s.L)) ∧ Below w.heap.size w w' := by
  obtain ⟨v, m, h1, h2, h3, h4, h5, h6, h7, h8, h9⟩ := hp
  have hP := h8 P h4
  have hc : w.cell? ⟨P, 2, none⟩ = some v := h1.cell (by omega)
  have hL : s.L.length ≤ 1000000 := by have := h9.room; have := h9.m2; omega
  go_enter Try.func34, Try.ntmps34
  go_wp2_with fail
  refine (index_any v s.L w.heap.size id _ (h2.keep (fun k hk => Go.Deep.blk_alloc_lt _ _ _ (h8 k (h6 k hk).1))) hL ?_).mono ?_
  · rw [cell_of_row _ w.heap.size 0 _ 3 (0, 0) (Go.Deep.blk_alloc_new _ _)]; rfl
  rintro e w' ⟨rfl, hb⟩
  go_wp2_with fail
  go_ret
  exact ⟨rfl, ((Below.refl _ _).alloc (Nat.le_refl _) _).trans (hb.mono (by simp))⟩
theorem find_nil (id : Int) (w : World) : Calls Try.prog 34 #[.pointer none, .int .i64 id] w fun e w' => e = .returned (.int .i64 (-1)) ∧ Below w.heap.size w w' := by
  go_enter Try.func34, Try.ntmps34
  go_wp2_with fail
  go_ret
  exact ⟨rfl, (Below.refl _ _).alloc (Nat.le_refl _) _⟩
set_option maxHeartbeats 4000000 in
/-- slices.Clone at packets. -/
theorem clone_any (v : Value) (L : List Pk) (w : World) (hv : PkOwn 0 w v L) (hL : L.length ≤ 1000000) :
    Calls Try.prog 28 #[v] w fun e w' => ∃ v', e = .returned v' ∧ PkOwn w.heap.size w' v' L ∧ Below w.heap.size w w' := by
  have hs := Src.of_own hv
  rcases hv.2 with ⟨rfl, h0⟩ | ⟨g, cap, cur, rfl, hg, hh, r⟩
  · obtain rfl : L = [] := List.eq_nil_of_length_eq_zero h0
    clear hv hs
    have hq := fun (w : World) (a : Option Addr) (n c : Nat) => Lib.run_eql_slice_nil (P := Try.prog) w 29 49 a n c 0 0 Try.underlying29
    go_enter Try.func28, Try.ntmps28
    go_wp2_with fail
    go_ret
    exact ⟨_, rfl, World.ownsRow_nil _ _ _ _, Below.refl _ _⟩
  · have hlt : g < w.heap.size := (Array.getElem?_eq_some_iff.1 hh).1
    have hs2 : ∀ o, Src (w.alloc o) 4 (.slice (some ⟨g, 0, none⟩) L.length cap) L.length (flat L) := fun o => hs.keep (fun a ha => by cases ha; exact Go.Deep.blk_alloc_lt _ _ _ hlt)
    have hown : PkOwn w.heap.size (w.alloc (.cells #[] 49)) (.slice (some ⟨w.heap.size, 0, none⟩) 0 0) [] := World.ownsRow_lit w #[] 0 (Nat.le_refl _) (by unfold maxLen; omega) rfl
    have HS := Lib.hid hs2
    have HO := Lib.hid hown
    clear hv hs hh r hs2 hown
    have hq := fun (w : World) (a : Option Addr) (n c : Nat) => Lib.run_eql_slice_nil (P := Try.prog) w 29 49 a n c 0 0 Try.underlying29
    go_enter Try.func28, Try.ntmps28
    go_wp2_with (first
      | (refine wpList_append_pk rfl (.tmp 5) (.tmp 6) rfl w.heap.size _ [] rfl HO.out _ L rfl (HS.out _) (by simp; omega) (by simp) ?_; intro v2 w2 hv2 hg2 _)
      | fail)
    go_ret
    exact ⟨_, rfl, hv2, ((Below.refl _ _).alloc (Nat.le_refl _) _).trans (below_of_grown hg2 (Nat.le_refl _) (by simp))⟩
set_option maxHeartbeats 1000000 in
/-- p.List(). -/
theorem list_any (S : Nat → Prop) (P n : Nat) (s : Pst) (w : World) (hp : PostSt S w P n s) :
    Calls Try.prog 12 #[.pointer (some ⟨P, 0, none⟩)] w fun e w' => ∃ v', e = .returned v' ∧ PkOwn w.heap.size w' v' s.L ∧ Below w.heap.size w w' := by
  obtain ⟨v, m, h1, h2, h3, h4, h5, h6, h7, h8, h9⟩ := hp
  have hP := h8 P h4
  have hc : w.cell? ⟨P, 2, none⟩ = some v := h1.cell (by omega)
  have hL : s.L.length ≤ 1000000 := by have := h9.room; have := h9.m2; omega
  go_enter Try.func12, Try.ntmps12
  go_wp2_with fail
  refine (clone_any v s.L w h2 hL).mono ?_
  rintro e w' ⟨v', rfl, hv, hb⟩
  go_wp2_with fail
  go_ret
  exact ⟨_, rfl, hv, hb⟩
theorem list_nil (w : World) : Calls Try.prog 12 #[.pointer none] w fun e w' => e = .returned (.slice none 0 0) ∧ w = w' := by
  go_enter Try.func12, Try.ntmps12
  go_wp2_with fail
  go_ret
  exact ⟨rfl, rfl⟩
end Go.Proofs.Ytocpneliofjabaa
