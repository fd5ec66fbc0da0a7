/-
  FaultKinds, walked.
-/
import Derived.Test.YtcodlhjedhaaaaaDoorF26
namespace Go.Proofs.YtcodlhjedhaaaaaDoor
open Go.RowKit
set_option maxRecDepth 100000

/-- What FaultKinds asks of one error. -/
inductive Kind3 (w : World) (u : Value) (f : Nat → Value) : Prop where
  | none (hu : u = .nilIface) (hf : f 0 = .int .i64 0)
  | num (e : Int) (hu : u = .iface 35 (.int .i64 e)) (hf : f 0 = .int .i64 1)
  | flt (b g3 cap3 : Nat) (op path : ByteArray) (u' : Value) (f' : Nat → Value) (T T' : ByteArray) (hu : u = .iface 29 (.pointer (some ⟨b, 0, none⟩))) (hf : f = refc 2 0 op path (.slice (some ⟨g3, 0, none⟩) 1 cap3))
      (hb : b < w.heap.size) (hr : w.rowIs b 39 3 (fltRow op path u')) (hg3 : g3 < w.heap.size) (hc3 : ∀ j, j < 5 → w.cell? ⟨g3, j, none⟩ = some (f' j))
      (error : ∀ wx, Below w.heap.size w wx → Calls Tryd.prog 12 #[.pointer (some ⟨b, 0, none⟩)] wx fun ex w' => ex = .returned (.string T) ∧ Below wx.heap.size wx w')
      (rtext : ∀ wx, Below w.heap.size w wx → Calls Tryd.prog 13 #[.agg (rowArr 5 f)] wx fun ex w' => ex = .returned (.string T) ∧ Below wx.heap.size wx w')
      (unwrap : ∀ wx, Below w.heap.size w wx → Calls Tryd.prog 15 #[.pointer (some ⟨b, 0, none⟩)] wx fun ex w' => ex = .returned u' ∧ wx = w')
      (kid : Kid w u' f' T')
  | lst (b g3 n cap3 : Nat) (T : ByteArray) (hu : u = .iface 33 (.pointer (some ⟨b, 0, none⟩))) (hf : f = refc 3 0 ⟨#[]⟩ ⟨#[]⟩ (.slice (some ⟨g3, 0, none⟩) n cap3))
      (error : ∀ wx, Below w.heap.size w wx → Calls Tryd.prog 16 #[.pointer (some ⟨b, 0, none⟩)] wx fun ex w' => ex = .returned (.string T) ∧ Below wx.heap.size wx w')
      (rtext : ∀ wx, Below w.heap.size w wx → Calls Tryd.prog 13 #[.agg (rowArr 5 f)] wx fun ex w' => ex = .returned (.string T) ∧ Below wx.heap.size wx w')
      (listed : ∀ wx, Below w.heap.size w wx → Calls Tryd.prog 17 #[.pointer (some ⟨b, 0, none⟩), .slice (some ⟨g3, 0, none⟩) n cap3] wx fun ex w' => ex = .returned (.bool true) ∧ Below wx.heap.size wx w')
theorem kind3_of {I J : Nat → Prop} {w : World} {x : Er} {u : Value} {f : Nat → Value} (hE : ErAt I w x u) (hR : RefAt J w x f) (hT : Tab w) (hs : x.text.size ≤ 1000000000) : Kind3 w u f := by
  have hE' := hE
  have hR' := hR
  cases hE with
  | none => cases hR; exact .none rfl rfl
  | num e h0 h1 => cases hR; exact .num e rfl rfl
  | flt op path z b u' hz hI hr hu =>
    cases hR with
    | flt _ _ _ g3 cap3 f' _ _ hg3 hcap hc3 hf =>
      refine .flt b g3 cap3 op path u' f' _ z.text rfl rfl hr.lt hr hg3 hc3 (fun wx hb => ?_) (fun wx hb => rtext_all hR' hs wx hb (hT.under hb)) (fun wx hb => funwrap_any b op path u' wx (hr.of_block (hb.block b hr.lt)))
        (kid_of hu hf hT (Nat.le_trans (size_inner op path z) hs))
      exact (tells_all hE' hT hs 29 _ rfl).2.2 wx hb (hT.under hb)
  | lst l b g n cap us hl h2 hcap hmax hI hIg hg hr hc hx hu =>
    cases hR with
    | lst _ g3 n' cap3 fs hl' _ hcap' _ hI3 hg3 hc3 _ hf =>
      obtain rfl : n' = n := hl'.symm.trans hl
      refine .lst b g3 n' cap3 _ rfl rfl (fun wx hb => ?_) (fun wx hb => rtext_all hR' hs wx hb (hT.under hb)) (fun wx hb => ?_)
      · exact (tells_all hE' hT hs 33 _ rfl).2.2 wx hb (hT.under hb)
      · have hget : ∀ i, i < n' → ∃ z, l[i]? = some z := fun i hi => ⟨_, List.getElem?_eq_getElem (by omega)⟩
        refine listed_any b g n' cap us g3 cap3 fs (fun i => ((l[i]?).getD .none).text) wx h2 hmax (Nat.lt_of_lt_of_le hg hb.size) (Nat.lt_of_lt_of_le hg3 hb.size) (hr.of_block (hb.block b hr.lt))
          (fun i hi => (hb.cell (p := ⟨g, i, none⟩) hg).trans (hc i hi)) (fun i hi => ?_) (fun i j hi hj => (hb.cell (p := ⟨g3, i * 5 + j, none⟩) hg3).trans (hc3 i j hi hj)) (fun i hi => ?_)
        · obtain ⟨z, hz⟩ := hget i hi
          exact (hu i z hz).oneCell
        · obtain ⟨z, hz⟩ := hget i hi
          simp only [hz, Option.getD_some]
          exact (kid_of (hu i z hz) (hf i z hz) hT (Nat.le_trans (size_kid l i z hz) hs)).under hb
theorem asTN_29 (xT : TypeId) (w : World) : (Instr.typeAssert .nilIface xT 29 true).run Tryd.prog w = .ok (.tuple #[.pointer none, .bool false]) w := by kernel_rfl
theorem asTN_33 (xT : TypeId) (w : World) : (Instr.typeAssert .nilIface xT 33 true).run Tryd.prog w = .ok (.tuple #[.pointer none, .bool false]) w := by kernel_rfl
theorem asT35_29 (e : Int) (xT : TypeId) (w : World) : (Instr.typeAssert (.iface 35 (.int .i64 e)) xT 29 true).run Tryd.prog w = .ok (.tuple #[.pointer none, .bool false]) w := by kernel_rfl
theorem asT35_33 (e : Int) (xT : TypeId) (w : World) : (Instr.typeAssert (.iface 35 (.int .i64 e)) xT 33 true).run Tryd.prog w = .ok (.tuple #[.pointer none, .bool false]) w := by kernel_rfl
theorem asT29_29 (p : Option Addr) (xT : TypeId) (w : World) : (Instr.typeAssert (.iface 29 (.pointer p)) xT 29 true).run Tryd.prog w = .ok (.tuple #[.pointer p, .bool true]) w := by kernel_rfl
theorem asT29_33 (p : Option Addr) (xT : TypeId) (w : World) : (Instr.typeAssert (.iface 29 (.pointer p)) xT 33 true).run Tryd.prog w = .ok (.tuple #[.pointer none, .bool false]) w := by kernel_rfl
theorem asT33_29 (p : Option Addr) (xT : TypeId) (w : World) : (Instr.typeAssert (.iface 33 (.pointer p)) xT 29 true).run Tryd.prog w = .ok (.tuple #[.pointer none, .bool false]) w := by kernel_rfl
theorem asT33_33 (p : Option Addr) (xT : TypeId) (w : World) : (Instr.typeAssert (.iface 33 (.pointer p)) xT 33 true).run Tryd.prog w = .ok (.tuple #[.pointer p, .bool true]) w := by kernel_rfl

set_option maxHeartbeats 16000000 in
/-- FaultKinds. -/
theorem kinds_walk (ss : List St) (a : Option Addr) (cap : Nat) (w : World) (hT : Tab w) (hY : ETy w) (hS : StepsAt w a ss) (hl : ss.length ≤ 1048576) (hw : weight ss ≤ 1000000000) :
    Calls Tryd.prog 3 #[.slice a ss.length cap] w fun e w' => e = .returned (.bool true) ∧ Below w.heap.size w w' := by
  have HT := Lib.hid hT
  have HY := Lib.hid hY
  have HS := Lib.hid hS
  have HW := Lib.hid hw
  clear hT hY hS hw
  by_cases hlg : (weight ss : Int) > 100000
  · have hd : decide ((weight ss : Int) > 100000) = true := decide_eq_true hlg
    have hlong := fun (w1 : World) (hb : Below w.heap.size w w1) => hd ▸ long_any ss a cap w1 (HS.out.under hb) hl HW.out
    have HLG := Lib.hid hlong
    clear hd hlong hlg
    go_enter Tryd.func3, Tryd.ntmps3
    go_wp2_with (first
      | (go_at_call 8; refine (awake_any w HT.out HY.out).mono ?_; rintro e1 w1 ⟨rfl, hb1⟩
         have HB1 := Lib.hid hb1
         clear hb1)
      | (go_at_call 9; refine (HLG.out w1 HB1.out).mono ?_; rintro e2 w2 ⟨rfl, hb2⟩
         have HB2 := Lib.hid (HB1.out.trans (hb2.mono HB1.out.size))
         clear hb2)
      | fail)
    go_ret
    exact ⟨rfl, HB2.out⟩
  · have hd : decide ((weight ss : Int) > 100000) = false := decide_eq_false hlg
    have hlong := fun (w1 : World) (hb : Below w.heap.size w w1) => hd ▸ long_any ss a cap w1 (HS.out.under hb) hl HW.out
    have HLG := Lib.hid hlong
    have HSM := Lib.hid (pile_small ss (by omega))
    have hpl : (pile (ss.take 40)).length ≤ 40 := Nat.le_trans (pile_length _) (List.length_take_le _ _)
    clear hd hlong hlg
    go_enter Tryd.func3, Tryd.ntmps3
    go_wp2_with (first
      | (go_at_call 8; refine (awake_any w HT.out HY.out).mono ?_; rintro e1 w1 ⟨rfl, hb1⟩
         have HB1 := Lib.hid hb1
         clear hb1)
      | (go_at_call 9; refine (HLG.out w1 HB1.out).mono ?_; rintro e2 w2 ⟨rfl, hb2⟩
         have HB2 := Lib.hid (HB1.out.trans (hb2.mono HB1.out.size))
         clear hb2)
      | (go_at_call 10; refine (made_any ss a cap w2 (HS.out.under HB2.out) hl).mono ?_; rintro e3 w3 ⟨v3, rfl, hm3⟩
         have HM3 := Lib.hid hm3
         have HB3 := Lib.hid (show Below w.heap.size w w3 from by obtain ⟨_, _, _, h⟩ := hm3; exact HB2.out.trans (h.mono HB2.out.size))
         clear hm3)
      | (go_at_call 11; refine (make_any ss a cap w3 (HS.out.under HB3.out) hl).mono ?_; rintro e4 w4 ⟨v4, rfl, hm4⟩
         have HB4 := Lib.hid (show Below w.heap.size w w4 from by obtain ⟨_, _, _, h⟩ := hm4; exact HB3.out.trans (h.mono HB3.out.size))
         obtain ⟨a1, c1, a2, c2, rfl, rfl, hps⟩ := piles_of HM3.out hm4
         have HPS := Lib.hid hps
         clear hm4 hps)
      | fail)
    generalize pile (ss.take 40) = p at *
    go_loopw [5] (fun i wr => ∃ k : Nat, k ≤ p.length ∧ i = .int .i64 k ∧ Below w4.heap.size w4 wr) (fun i _ => p.length - (intOf i).toNat)
    case atStart => exact ⟨0, by omega, rfl, Below.refl _ _⟩
    case round =>
      obtain ⟨k, hk, rfl, hb⟩ := hrel
      by_cases hlt2 : k < p.length
      · obtain ⟨x, hx⟩ : ∃ x, p[k]? = some x := ⟨_, List.getElem?_eq_getElem hlt2⟩
        obtain ⟨g1, g2, u, f, rfl, rfl, hg1, hg2, e1, hd, hE, hR⟩ := HPS.out.cells k x hx
        have hki := kind3_of hE hR (HT.out.under HB4.out) (HSM.out k x hx)
        have HD := Lib.hid (fun (wx : World) (hbx : Below w4.heap.size w4 wx) j (hj : j < 5) => (hbx.cell (p := ⟨g2, k * 5 + j, none⟩) hg2).trans (hd j hj))
        have q1 := (hb.cell (p := ⟨g1, k, none⟩) hg1).trans e1
        have q0 : wr.cell? ⟨g2, k * 5, none⟩ = some (f 0) := HD.out wr hb 0 (by omega)
        have HB := Lib.hid hb
        have t1 := asTN_29
        have t2 := asTN_33
        have t3 := asT35_29
        have t4 := asT35_33
        have t5 := asT29_29
        have t6 := asT29_33
        have t7 := asT33_29
        have t8 := asT33_33
        clear hx e1 hd hE hR hb
        cases hki with
        | none hu hf =>
          subst hu
          rw [hf] at q0
          clear hf
          go_wp2_with fail
          go_quiet (fail)
          go_wp2_with fail
          go_quiet (fail)
          go_wp2_with fail
          go_roundw
          case rel => exact ⟨k + 1, by omega, by go_num, below_drewN HB.out _⟩
          case measure => simp [intOf]; omega
        | num e hu hf =>
          subst hu
          rw [hf] at q0
          clear hf
          go_wp2_with fail
          go_quiet (fail)
          go_wp2_with fail
          go_quiet (fail)
          go_wp2_with fail
          go_roundw
          case rel => exact ⟨k + 1, by omega, by go_num, below_drewN HB.out _⟩
          case measure => simp [intOf]; omega
        | flt b g3 cap3 op path u' f' T T' hu hf hbl hr hg3 hc3 error rtext unwrap kid =>
          subst hu
          have HEX := Lib.hid (fun (e : Ext wr.heap.size wr) => HB.out.trans (e.h.mono HB.out.size))
          have x0 := fun (e : Ext wr.heap.size wr) => (rowIs_below hr (HEX.out e) hbl).cell (i := 0) (by omega)
          have x1 := fun (e : Ext wr.heap.size wr) => (rowIs_below hr (HEX.out e) hbl).cell (i := 1) (by omega)
          have y2 : ∀ (e : Ext wr.heap.size wr), e.x.cell? ⟨g2, k * 5 + 2, none⟩ = some (.string op) := fun e => (HD.out e.x (HEX.out e) 2 (by omega)).trans (by rw [hf]; rfl)
          have y3 : ∀ (e : Ext wr.heap.size wr), e.x.cell? ⟨g2, k * 5 + 3, none⟩ = some (.string path) := fun e => (HD.out e.x (HEX.out e) 3 (by omega)).trans (by rw [hf]; rfl)
          have y4 : ∀ (e : Ext wr.heap.size wr), e.x.cell? ⟨g2, k * 5 + 4, none⟩ = some (.slice (some ⟨g3, 0, none⟩) 1 cap3) := fun e => (HD.out e.x (HEX.out e) 4 (by omega)).trans (by rw [hf]; rfl)
          have q0' : wr.cell? ⟨g2, k * 5, none⟩ = some (.int .i64 2) := q0.trans (by rw [hf]; rfl)
          have HL : Hid (∀ wx : World, (∃ e : Ext wr.heap.size wr, wx = e.x) → ∀ j, j < 5 → wx.cell? ⟨g2, k * 5 + j, none⟩ = some (f j)) := Lib.hid (fun wx ⟨e, he⟩ => he ▸ HD.out e.x (HEX.out e))
          have HL3 : Hid (∀ wx : World, (∃ e : Ext wr.heap.size wr, wx = e.x) → ∀ j, j < 5 → wx.cell? ⟨g3, 0 + j, none⟩ = some (f' j)) := Lib.hid (fun wx ⟨e, he⟩ j hj => he ▸ (by rw [Nat.zero_add]; exact ((HEX.out e).cell (p := ⟨g3, j, none⟩) hg3).trans (hc3 j hj)))
          have HER := Lib.hid error
          have HRT := Lib.hid rtext
          have HUN := Lib.hid unwrap
          have HKD := Lib.hid kid
          simp only [fltRow] at x0 x1
          clear hf hr hg3 hc3 error rtext unwrap kid q0
          go_wp2_with fail
          refine wp_region_below wr.heap.size (by kernel_rfl) (by kernel_rfl) ?_
          repeat (first
            | go_big_quiet_skip
            | (go_big_quiet_want
               first
               | (refine quiet_load37 (.tmp 91) rfl g2 (k * 5) rfl f HL.out ?_; simp only [Act.put, List.setIfInBounds_toArray, List.set_cons_succ, List.set_cons_zero]; go_big_quiet_on)
               | (refine quiet_load37 (.tmp 105) rfl g3 0 rfl f' HL3.out ?_; simp only [Act.put, List.setIfInBounds_toArray, List.set_cons_succ, List.set_cons_zero]; go_big_quiet_on)
               | (go_big_quiet_op; first | go_big_quiet_on | (apply Exists.intro; refine ⟨fun e => ?_, ?_⟩; (first
                  | (go_at_call 12; exact below_call (Nat.le_refl _) e (HER.out e.x (HEX.out e)))
                  | (go_at_call 13; (with_reducible exact below_call (Nat.le_refl _) e (HRT.out e.x (HEX.out e))))
                  | (go_at_call 13; (with_reducible exact below_call (Nat.le_refl _) e (HKD.out.rtext e.x (HEX.out e))))
                  | (go_at_call 15; exact below_call_same e (HUN.out e.x (HEX.out e)))
                  | (go_at_call 14; exact below_call (Nat.le_refl _) e (HKD.out.text e.x (HEX.out e)))); go_big_quiet_on))))
          refine wpQuiet_nil ?_
          intro w11 hb11
          have HB11 := Lib.hid (HB.out.trans (hb11.mono HB.out.size))
          clear x0 x1 y2 y3 y4 hb11 q0' q1
          go_wp2_with fail
          go_quiet (fail)
          go_wp2_with fail
          go_roundw
          case rel => exact ⟨k + 1, by omega, by go_num, below_drewN HB11.out _⟩
          case measure => simp [intOf]; omega
        | lst b g3 n cap3 T hu hf error rtext listed =>
          subst hu
          have q0' : wr.cell? ⟨g2, k * 5, none⟩ = some (.int .i64 3) := q0.trans (by rw [hf]; rfl)
          have HF := Lib.hid hf
          have HER := Lib.hid error
          have HRT := Lib.hid rtext
          have HLI := Lib.hid listed
          clear hf error rtext listed q0
          go_wp2_with fail
          go_quiet (fail)
          have HB5 := Lib.hid (below_drewN HB.out nq)
          clear q0' q1
          generalize wr.drewN nq = w5 at *
          have HEX := Lib.hid (fun (e : Ext w5.heap.size w5) => HB5.out.trans (e.h.mono HB5.out.size))
          have y4 : ∀ (e : Ext w5.heap.size w5), e.x.cell? ⟨g2, k * 5 + 4, none⟩ = some (.slice (some ⟨g3, 0, none⟩) n cap3) := fun e => (HD.out e.x (HEX.out e) 4 (by omega)).trans (by rw [HF.out]; rfl)
          have HL : Hid (∀ wx : World, (∃ e : Ext w5.heap.size w5, wx = e.x) → ∀ j, j < 5 → wx.cell? ⟨g2, k * 5 + j, none⟩ = some (f j)) := Lib.hid (fun wx ⟨e, he⟩ => he ▸ HD.out e.x (HEX.out e))
          go_wp2_with fail
          refine wp_region_below w5.heap.size (by kernel_rfl) (by kernel_rfl) ?_
          repeat (first
            | go_big_quiet_skip
            | (go_big_quiet_want
               first
               | (refine quiet_load37 (.tmp 120) rfl g2 (k * 5) rfl f HL.out ?_; simp only [Act.put, List.setIfInBounds_toArray, List.set_cons_succ, List.set_cons_zero]; go_big_quiet_on)
               | (go_big_quiet_op; first | go_big_quiet_on | (apply Exists.intro; refine ⟨fun e => ?_, ?_⟩; (first
                  | (go_at_call 16; exact below_call (Nat.le_refl _) e (HER.out e.x (HEX.out e)))
                  | (go_at_call 13; exact below_call (Nat.le_refl _) e (HRT.out e.x (HEX.out e)))
                  | (go_at_call 17; exact below_call (Nat.le_refl _) e (HLI.out e.x (HEX.out e)))); go_big_quiet_on))))
          refine wpQuiet_nil ?_
          intro w11 hb11
          have HB11 := Lib.hid (HB5.out.trans (hb11.mono HB5.out.size))
          clear y4 hb11
          go_wp2_with fail
          go_roundw
          case rel => exact ⟨k + 1, by omega, by go_num, HB11.out⟩
          case measure => simp [intOf]; omega
      · obtain rfl : k = p.length := by omega
        go_wp2_with fail
        go_ret
        exact ⟨rfl, HB4.out.trans (hb.mono HB4.out.size)⟩
end Go.Proofs.YtcodlhjedhaaaaaDoor
