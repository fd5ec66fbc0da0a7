/-
  listed.
-/
import Derived.Test.YtcodlhjedhaaaaaDoorF24
namespace Go.Proofs.YtcodlhjedhaaaaaDoor
open Go.RowKit
set_option maxRecDepth 100000

/-- Two errors that tell one text, in every world that is as w below its end. -/
structure Kid (w : World) (u : Value) (f : Nat → Value) (T : ByteArray) : Prop where
  text : ∀ wx, Below w.heap.size w wx → Calls Tryd.prog 14 #[u] wx fun ex w' => ex = .returned (.string T) ∧ Below wx.heap.size wx w'
  rtext : ∀ wx, Below w.heap.size w wx → Calls Tryd.prog 13 #[.agg (rowArr 5 f)] wx fun ex w' => ex = .returned (.string T) ∧ Below wx.heap.size wx w'
theorem kid_of {I J : Nat → Prop} {w : World} {x : Er} {u : Value} {f : Nat → Value} (hE : ErAt I w x u) (hR : RefAt J w x f) (hT : Tab w) (hs : x.text.size ≤ 1000000000) : Kid w u f x.text :=
  ⟨fun _ hb => text_any (hE.under hb) (hT.under hb) hs, fun wx hb => rtext_all hR hs wx hb (hT.under hb)⟩

theorem Kid.under {w w' : World} {u : Value} {f : Nat → Value} {T : ByteArray} (h : Kid w u f T) (hb : Below w.heap.size w w') : Kid w' u f T :=
  ⟨fun wx hx => h.text wx (hb.trans (hx.mono hb.size)), fun wx hx => h.rtext wx (hb.trans (hx.mono hb.size))⟩

set_option maxHeartbeats 16000000 in
/-- listed. -/
theorem listed_any (b g n cap : Nat) (us : Nat → Value) (g2 cap2 : Nat) (fs : Nat → Nat → Value) (T : Nat → ByteArray) (w : World) (h2 : 2 ≤ n) (hmax : n ≤ 1000000) (hg : g < w.heap.size) (hg2 : g2 < w.heap.size)
    (hr : w.rowIs b 66 1 (fun _ => .slice (some ⟨g, 0, none⟩) n cap)) (hc : ∀ i, i < n → w.cell? ⟨g, i, none⟩ = some (us i)) (ho : ∀ i, i < n → (us i).oneCell' = true)
    (hc2 : ∀ i j, i < n → j < 5 → w.cell? ⟨g2, i * 5 + j, none⟩ = some (fs i j)) (hk : ∀ i, i < n → Kid w (us i) (fs i) (T i)) :
    Calls Tryd.prog 17 #[.pointer (some ⟨b, 0, none⟩), .slice (some ⟨g2, 0, none⟩) n cap2] w fun ex w' => ex = .returned (.bool true) ∧ Below w.heap.size w w' := by
  have HR := Lib.hid hr
  have HC := Lib.hid hc
  have HO := Lib.hid ho
  have HC2 := Lib.hid hc2
  have HK := Lib.hid hk
  clear hr hc ho hc2 hk
  go_enter Tryd.func17, Tryd.ntmps17
  go_wp2_with fail
  go_loopw [5] (fun i wr => ∃ k : Nat, k ≤ 2 ∧ i = .int .i64 k ∧ Below w.heap.size w wr) (fun i _ => 2 - (intOf i).toNat)
  case atStart => exact ⟨0, by omega, rfl, Below.refl _ _⟩
  case round =>
    obtain ⟨r, hr, rfl, hb⟩ := hrel
    by_cases hr2 : r < 2
    · have hcall := lunwrap_any b g n cap us wr hmax (HR.out.of_block (hb.block b HR.out.lt)) (fun i hi => (hb.cell (p := ⟨g, i, none⟩) hg).trans (HC.out i hi)) HO.out
      have HB := Lib.hid hb
      obtain ⟨W0, hW0⟩ : ∃ W0, W0 = wr := ⟨_, rfl⟩
      subst hW0
      clear hb
      go_wp2_with (first
        | (go_at_call 32; refine hcall.mono ?_; rintro e2 w2 ⟨v2, rfl, hown, hb2⟩
           obtain ⟨g6, cap6, rfl, hg6, _, hc6, hm6, _⟩ := own1_shape hown (by omega)
           have HO6 := Lib.hid hown
           have HB2 := Lib.hid hb2
           clear hcall hown hb2)
        | fail)
      go_loopw [7] (fun i ws => ∃ (k : Nat) (vals : List Value), k ≤ n ∧ i = .int .i64 k ∧ ws.ownsRow W0.heap.size 32 1 (.slice (some ⟨g6, 0, none⟩) n cap6) n vals ∧ (∀ j, k ≤ j → j < n → vals[j]? = some (us j)) ∧ Below W0.heap.size W0 ws) (fun i _ => n - (intOf i).toNat)
      case atStart =>
        refine ⟨0, (List.range n).map us, by omega, rfl, HO6.out, fun j _ hj => ?_, HB2.out⟩
        simp [hj]
      case round =>
        obtain ⟨k, vals, hk, rfl, hown, hvals, hb⟩ := hrel
        by_cases hlt2 : k < n
        · obtain ⟨W1, hW1⟩ : ∃ W1, W1 = wr := ⟨_, rfl⟩
          subst hW1
          have hg6l : g6 < W1.heap.size := (World.ownsRow.lt hown g6 rfl).2
          have e1 : W1.cell? ⟨g6, k, none⟩ = some (us k) := by
            obtain ⟨_, _, h1, _, _, h3⟩ := ownS_any hown
            cases h1
            obtain ⟨g', h4, _, _, h5⟩ := h3 k (us k) (hvals k (Nat.le_refl _) hlt2)
            cases h4
            exact h5
          have hbw := HB.out.trans (hb.mono HB.out.size)
          have hkid := (HK.out k hlt2).under hbw
          have hD := fun j (hj : j < 5) => (hbw.cell (p := ⟨g2, k * 5 + j, none⟩) hg2).trans (HC2.out k j hlt2 hj)
          have HD := Lib.hid hD
          have HKID := Lib.hid hkid
          have HOWN := Lib.hid hown
          have HV := Lib.hid hvals
          have HB1 := Lib.hid hb
          generalize us k = u at *
          generalize fs k = f at *
          generalize T k = tx at *
          have E1 := fun (e : Ext W1.heap.size W1) => (e.h.cell (p := ⟨g6, k, none⟩) hg6l).trans e1
          have HL : Hid (∀ wx : World, (∃ e : Ext W1.heap.size W1, wx = e.x) → ∀ j, j < 5 → wx.cell? ⟨g2, k * 5 + j, none⟩ = some (f j)) := Lib.hid (fun wx ⟨e, he⟩ j hj => he ▸ (e.h.cell (p := ⟨g2, k * 5 + j, none⟩) (Nat.lt_of_lt_of_le hg2 hbw.size)).trans (HD.out j hj))
          clear hown hvals hb hbw hkid hD
          go_wp2_with fail
          refine wp_region_below W1.heap.size (by kernel_rfl) (by kernel_rfl) ?_
          repeat (first
            | go_big_quiet_skip
            | (go_big_quiet_want
               first
               | (refine quiet_load37 (.tmp 32) rfl g2 (k * 5) rfl f HL.out ?_; simp only [Act.put, List.setIfInBounds_toArray, List.set_cons_succ, List.set_cons_zero]; go_big_quiet_on)
               | (go_big_quiet_op; first | go_big_quiet_on | (apply Exists.intro; refine ⟨fun e => ?_, ?_⟩; (first | (go_at_call 14; exact below_call (Nat.le_refl _) e (HKID.out.text e.x e.h)) | (go_at_call 13; exact below_call (Nat.le_refl _) e (HKID.out.rtext e.x e.h))); go_big_quiet_on))))
          refine wpQuiet_nil ?_
          intro w11 hb11
          have e11 := (hb11.cell (p := ⟨g6, k, none⟩) hg6l).trans e1
          have HO11 := Lib.hid (ownsRow_under HOWN.out hb11)
          have HB11 := Lib.hid (HB1.out.trans (hb11.mono HB1.out.size))
          have f11 : w11.frozen? ⟨g6, k, none⟩ = false := World.ownsRow.frozenAt HO11.out k
          clear E1 e1 hb11
          go_wp2_with fail
          go_roundw
          case rel =>
            refine ⟨k + 1, vals.set k .nilIface, by omega, by go_num, (World.ownsRow.stored HO11.out k .nilIface).1, fun j hj hjn => ?_, HB11.out.setCell (World.ownsRow.lt HO11.out g6 rfl).1 _⟩
            rw [List.getElem?_set, if_neg (by omega)]
            exact HV.out j (by omega) hjn
          case measure => simp [intOf]; omega
        · obtain rfl : k = n := by omega
          have HB1 := Lib.hid (HB.out.trans (hb.mono HB.out.size))
          clear hvals hown hb
          go_wp2_with fail
          go_roundw
          case rel => exact ⟨r + 1, by omega, by go_num, HB1.out⟩
          case measure => simp [intOf]; omega
    · obtain rfl : r = 2 := by omega
      go_wp2_with fail
      go_ret
      exact ⟨rfl, hb⟩
end Go.Proofs.YtcodlhjedhaaaaaDoor
