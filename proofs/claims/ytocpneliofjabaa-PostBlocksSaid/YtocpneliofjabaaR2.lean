/-
  THE REFERENCE's find, First; two lists of packets compared.
-/
import Derived.Test.YtocpneliofjabaaR1
import Derived.Laws.StructEq
namespace Go.Proofs.Ytocpneliofjabaa
open Go.RowKit
set_option maxRecDepth 100000

set_option maxHeartbeats 4000000 in
/-- r.find(id). -/
theorem rfind_any (S : Nat → Prop) (R : Nat) (r : Rst) (id : Int) (w : World) (hp : RefSt S w R r) :
    Calls Try.prog 37 #[.pointer (some ⟨R, 0, none⟩), .int .i64 id] w fun e w' => e = .returned (.int .i64 (fndI id r.L)) ∧ w = w' := by
  obtain ⟨v, u, h1, h2, h3, h4, h5, h6, h7, h8, h9⟩ := hp
  obtain ⟨ad, cap, rfl, hc1, hc2, hc3⟩ := h2.shape
  have c2 : w.cell? ⟨R, 2, none⟩ = some (.slice ad r.L.length cap) := h1.cell (by omega)
  have hLb : r.L.length ≤ 256 := by have := h8.room; have := h8.m2; simp only [Rst.st] at *; omega
  have HC := Lib.hid hc3
  unfold maxLen at hc2
  clear h1 h2 h3 h4 h5 h6 h7 h8 hc3
  go_enter Try.func37, Try.ntmps37
  go_wp2_with fail
  go_loop [5] (fun i => ∃ k : Nat, k ≤ r.L.length ∧ i = .int .i64 k ∧ Hid (∀ (j : Nat) (y : Pk), j < k → r.L[j]? = some y → y.id ≠ id)) (fun i => r.L.length - (intOf i).toNat)
  case atStart => exact ⟨0, by omega, rfl, Lib.hid (fun j y hj => by omega)⟩
  case round =>
    obtain ⟨k, hk, rfl, hno⟩ := hrel
    by_cases hlt2 : k < r.L.length
    · obtain ⟨x, hx⟩ : ∃ x, r.L[k]? = some x := ⟨_, List.getElem?_eq_getElem hlt2⟩
      obtain ⟨g, rfl, _, _, hg, d0, d1, d2, d3⟩ := HC.out k x hx
      have HX := Lib.hid hx
      cases hq : (x.id == id)
      · have hno2 : Hid (∀ (j : Nat) (y : Pk), j < k + 1 → r.L[j]? = some y → y.id ≠ id) := Lib.hid (fun j y hj hy => by
          by_cases e : j = k
          · subst e
            rw [HX.out] at hy
            cases hy
            simpa using hq
          · exact hno.out j y (by omega) hy)
        clear hx hno d1 d2 d3
        go_wp2_with fail
        go_round
        case rel => exact ⟨k + 1, by omega, by go_num, hno2⟩
        case measure => simp [intOf]; omega
      · have hf : Hid (fndI id r.L = k) := Lib.hid (fndI_at hx (by simpa using hq) hno.out)
        clear hx d1 d2 d3
        go_wp2_with fail
        go_ret
        exact ⟨by rw [hf.out]; rfl, rfl⟩
    · have hf : Hid (fndI id r.L = -1) := Lib.hid (fndI_none (fun j y hy => hno.out j y (by have := (List.getElem?_eq_some_iff.1 hy).1; omega) hy))
      go_wp2_with fail
      go_ret
      exact ⟨by rw [hf.out]; rfl, rfl⟩

def Rst.first (r : Rst) : Int := fstI (fun x => r.bl x.fr x.to) r.L
set_option maxHeartbeats 4000000 in
/-- r.First(). -/
theorem rfirst_any (S : Nat → Prop) (R : Nat) (r : Rst) (w : World) (hp : RefSt S w R r) :
    Calls Try.prog 10 #[.pointer (some ⟨R, 0, none⟩)] w fun e w' => e = .returned (.int .i64 r.first) ∧ Below w.heap.size w w' := by
  have HP := Lib.hid hp
  obtain ⟨v, u, h1, h2, h3, h4, h5, h6, h7, h8, h9⟩ := hp
  obtain ⟨ad, cap, rfl, hc1, hc2, hc3⟩ := h2.shape
  have c2 : w.cell? ⟨R, 2, none⟩ = some (.slice ad r.L.length cap) := h1.cell (by omega)
  have hLb : r.L.length ≤ 256 := by have := h8.room; have := h8.m2; simp only [Rst.st] at *; omega
  have hR := h7 R h4
  have HC := Lib.hid hc3
  have HC2 := Lib.hid c2
  unfold maxLen at hc2
  clear h1 h2 h3 h4 h5 h6 h7 h8 hc3 c2
  go_enter Try.func10, Try.ntmps10
  go_wp2_with fail
  go_loopw [3] (fun i wr => ∃ k : Nat, k ≤ r.L.length ∧ i = .int .i64 k ∧ Hid (∀ (j : Nat) (y : Pk), j < k → r.L[j]? = some y → r.bl y.fr y.to = true) ∧ Below w.heap.size w wr) (fun i _ => r.L.length - (intOf i).toNat)
  case atStart => exact ⟨0, by omega, rfl, Lib.hid (fun j y hj => by omega), Below.refl _ _⟩
  case round =>
    obtain ⟨k, hk, rfl, hno, hb⟩ := hrel
    have c2 : wr.cell? ⟨R, 2, none⟩ = some (.slice ad r.L.length cap) := (hb.cell (p := ⟨R, 2, none⟩) hR).trans HC2.out
    by_cases hlt2 : k < r.L.length
    · obtain ⟨x, hx⟩ : ∃ x, r.L[k]? = some x := ⟨_, List.getElem?_eq_getElem hlt2⟩
      obtain ⟨g, rfl, _, _, hg, d0, d1, d2, d3⟩ := HC.out k x hx
      have HX := Lib.hid hx
      have hbx : ∀ e : Ext wr.heap.size wr, Below w.heap.size w e.x := fun e => hb.trans (e.h.mono hb.size)
      have HBX := Lib.hid hbx
      have e2 : ∀ e : Ext wr.heap.size wr, e.x.cell? ⟨R, 2, none⟩ = some (.slice (some ⟨g, 0, none⟩) r.L.length cap) := fun e => ((hbx e).cell (p := ⟨R, 2, none⟩) hR).trans HC2.out
      have e3 : ∀ e : Ext wr.heap.size wr, e.x.cell? ⟨g, k * 4 + 1, none⟩ = some (.int .i64 x.fr) := fun e => ((hbx e).cell (p := ⟨g, _, none⟩) hg).trans d1
      have e4 : ∀ e : Ext wr.heap.size wr, e.x.cell? ⟨g, k * 4 + 2, none⟩ = some (.int .i64 x.to) := fun e => ((hbx e).cell (p := ⟨g, _, none⟩) hg).trans d2
      have hk1 : (0 : Int) ≤ (k : Int) := by omega
      have hk2 : (k : Int) < (r.L.length : Int) := by omega
      have HD0 := Lib.hid d0
      clear hx d0 d1 d2 d3 hbx
      cases hq : r.bl x.fr x.to
      · have hbl := fun (w1 : World) (hb : Below w.heap.size w w1) => hq ▸ rblocked_any S R r x.fr x.to w1 (HP.out.below hb)
        have HBL := Lib.hid hbl
        have hf := Lib.hid (fstI_at (q := fun x => r.bl x.fr x.to) HX.out hq hno.out)
        clear hbl hq
        go_wp2_with fail
        refine wp_region_below wr.heap.size (by kernel_rfl) (by kernel_rfl) ?_
        repeat (go_big_quiet_step ((go_at_call 27; rename_i e; exact below_call_same e (HBL.out _ (HBX.out e)))))
        refine wpQuiet_nil ?_
        intro w2 hb2
        have hb3 := hb.trans (hb2.mono hb.size)
        have c3 : w2.cell? ⟨R, 2, none⟩ = some (.slice (some ⟨g, 0, none⟩) r.L.length cap) := (hb3.cell (p := ⟨R, 2, none⟩) hR).trans HC2.out
        have d0 : w2.cell? ⟨g, k * 4, none⟩ = some (.int .i64 x.id) := (hb3.cell (p := ⟨g, _, none⟩) hg).trans HD0.out
        clear e2 e3 e4 hb2
        go_wp2_with fail
        go_ret
        exact ⟨by rw [Rst.first, hf.out]; rfl, hb3⟩
      · have hbl := fun (w1 : World) (hb : Below w.heap.size w w1) => hq ▸ rblocked_any S R r x.fr x.to w1 (HP.out.below hb)
        have HBL := Lib.hid hbl
        have hno2 : Hid (∀ (j : Nat) (y : Pk), j < k + 1 → r.L[j]? = some y → r.bl y.fr y.to = true) := Lib.hid (fun j y hj hy => by
          by_cases e : j = k
          · subst e
            rw [HX.out] at hy
            cases hy
            exact hq
          · exact hno.out j y (by omega) hy)
        clear hbl hq hno
        go_wp2_with fail
        refine wp_region_below wr.heap.size (by kernel_rfl) (by kernel_rfl) ?_
        repeat (go_big_quiet_step ((go_at_call 27; rename_i e; exact below_call_same e (HBL.out _ (HBX.out e)))))
        refine wpQuiet_nil ?_
        intro w2 hb2
        have hb3 := hb.trans (hb2.mono hb.size)
        clear e2 e3 e4 hb2
        go_wp2_with fail
        go_roundw
        case rel => exact ⟨k + 1, by omega, by go_num, hno2, hb3⟩
        case measure => simp [intOf]; omega
    · have hf : Hid (fstI (fun x => r.bl x.fr x.to) r.L = 0) := Lib.hid (fstI_none (fun j y hy => hno.out j y (by have := (List.getElem?_eq_some_iff.1 hy).1; omega) hy))
      go_wp2_with fail
      go_ret
      exact ⟨by rw [Rst.first, hf.out]; rfl, hb⟩
set_option maxHeartbeats 4000000 in
/-- Packets(a, b) of two equal lists. -/
theorem packets_same (v1 v2 : Value) (L : List Pk) (w : World) (h1 : PkOwn 0 w v1 L) (h2 : PkOwn 0 w v2 L) (hLb : L.length ≤ 1000000) :
    Calls Try.prog 11 #[v1, v2] w fun e w' => e = .returned (.bool true) ∧ Below w.heap.size w w' := by
  obtain ⟨a1, cap1, rfl, hc1, hc2, hc3⟩ := h1.shape
  obtain ⟨a2, cap2, rfl, hd1, hd2, hd3⟩ := h2.shape
  have HC := Lib.hid hc3
  have HD := Lib.hid hd3
  unfold maxLen at hc2 hd2
  clear h1 h2 hc3 hd3
  go_enter Try.func11, Try.ntmps11
  go_wp2_with fail
  go_loopw [5] (fun i wr => ∃ k : Nat, k ≤ L.length ∧ i = .int .i64 k ∧ Below w.heap.size w wr) (fun i _ => L.length - (intOf i).toNat)
  case atStart => exact ⟨0, by omega, rfl, Below.refl _ _⟩
  case round =>
    obtain ⟨k, hk, rfl, hb⟩ := hrel
    by_cases hlt2 : k < L.length
    · obtain ⟨x, hx⟩ : ∃ x, L[k]? = some x := ⟨_, List.getElem?_eq_getElem hlt2⟩
      obtain ⟨g, rfl, _, _, hg, d0, d1, d2, d3⟩ := HC.out k x hx
      obtain ⟨g', rfl, _, _, hg', e0, e1, e2, e3⟩ := HD.out k x hx
      have d0 := (hb.cell (p := ⟨g, k * 4, none⟩) hg).trans d0
      have d1 := (hb.cell (p := ⟨g, k * 4 + 1, none⟩) hg).trans d1
      have d2 := (hb.cell (p := ⟨g, k * 4 + 2, none⟩) hg).trans d2
      have d3 := (hb.cell (p := ⟨g, k * 4 + 3, none⟩) hg).trans d3
      have e0 := (hb.cell (p := ⟨g', k * 4, none⟩) hg').trans e0
      have e1 := (hb.cell (p := ⟨g', k * 4 + 1, none⟩) hg').trans e1
      have e2 := (hb.cell (p := ⟨g', k * 4 + 2, none⟩) hg').trans e2
      have e3 := (hb.cell (p := ⟨g', k * 4 + 3, none⟩) hg').trans e3
      have hk1 : (0 : Int) ≤ (k : Int) := by omega
      have hk2 : (k : Int) < (L.length : Int) := by omega
      clear hx
      go_wp2_with fail
      go_quiet (fail)
      go_wp2_with fail
      go_roundw
      case rel => exact ⟨k + 1, by omega, by go_num, below_drewN hb _⟩
      case measure => simp [intOf]; omega
    · go_wp2_with fail
      go_ret
      exact ⟨rfl, hb⟩
end Go.Proofs.Ytocpneliofjabaa
