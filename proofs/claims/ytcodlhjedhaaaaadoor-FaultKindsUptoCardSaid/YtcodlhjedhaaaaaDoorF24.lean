/-
  FaultTells, walked.
-/
import Derived.Test.YtcodlhjedhaaaaaDoorF22
import Derived.Test.YtcodlhjedhaaaaaDoorF23
import Derived.Test.YtcodlhjedhaaaaaDoorF14
namespace Go.Proofs.YtcodlhjedhaaaaaDoor
open Go.RowKit
set_option maxRecDepth 100000

/-- What one error of the two piles answers, in every world that is as w below its end. -/
structure Elem (w : World) (u : Value) (f : Nat → Value) (cd : Int) (pt T : ByteArray) (L : List ByteArray) : Prop where
  way : ∀ wx, Below w.heap.size w wx → Calls Tryd.prog 18 #[.agg (rowArr 5 f)] wx fun ex w' => ∃ v', ex = .returned (.tuple #[.int .i64 cd, .string pt, v']) ∧ w'.ownsRow wx.heap.size 9 1 v' L.length (L.map .string) ∧ Below wx.heap.size wx w'
  code : ∀ wx, Below w.heap.size w wx → Calls Tryd.prog 19 #[u] wx fun ex w' => ex = .returned (.int .i64 cd) ∧ Below wx.heap.size wx w'
  path : ∀ wx, Below w.heap.size w wx → Calls Tryd.prog 20 #[u] wx fun ex w' => ex = .returned (.string pt) ∧ Below wx.heap.size wx w'
  trace : ∀ wx, Below w.heap.size w wx → Calls Tryd.prog 22 #[u] wx fun ex w' => ∃ v', ex = .returned v' ∧ w'.ownsRow wx.heap.size 9 1 v' L.length (L.map .string) ∧ Below wx.heap.size wx w'
  text : ∀ wx, Below w.heap.size w wx → Calls Tryd.prog 14 #[u] wx fun ex w' => ex = .returned (.string T) ∧ Below wx.heap.size wx w'
  rtext : ∀ wx, Below w.heap.size w wx → Calls Tryd.prog 13 #[.agg (rowArr 5 f)] wx fun ex w' => ex = .returned (.string T) ∧ Below wx.heap.size wx w'
  len : L.length ≤ 1000000000
theorem elem_of {I J : Nat → Prop} {w : World} {x : Er} {u : Value} {f : Nat → Value} (hE : ErAt I w x u) (hR : RefAt J w x f) (hT : Tab w) (hY : ETy w) (hs : x.text.size ≤ 1000000000) : Elem w u f x.code (pathOf x.way) x.text (x.way.map Prod.fst) := by
  have e : (x.way.map Prod.fst).map Value.string = x.way.map fun q => Value.string q.1 := by simp
  refine ⟨fun wx hb => ?_, fun wx hb => code_any _ _ _ _ (hY.under hb) (hE.under hb), fun wx hb => path_any _ _ _ _ (hY.under hb) (hE.under hb) hs, fun wx hb => ?_, fun wx hb => text_any (hE.under hb) (hT.under hb) hs, fun wx hb => rtext_all hR hs wx hb (hT.under hb), ?_⟩
  · rw [e, List.length_map]
    exact rway_any _ _ _ _ (hR.under hb) hs
  · rw [e, List.length_map]
    exact trace_any _ _ _ _ (hY.under hb) (hE.under hb) hs
  · have := way_size x
    rw [List.length_map]
    omega
/-- Five cells loaded by value, as one step of a quiet walk. -/
theorem quiet_load37 {o : Oper} {a : Act} {C : World → Prop} {K : Act → Prop} (x : Operand) (ho : o.op = .load 37 x) (g p : Nat) (hx : a.eval x = .pointer (some ⟨g, p, none⟩)) (f : Nat → Value)
    (h : ∀ w, C w → ∀ j, j < 5 → w.cell? ⟨g, p + j, none⟩ = some (f j)) (hk : K (a.put o.dst (.agg (rowArr 5 f)))) : o.quiet Tryd.prog a C K := by
  refine ⟨.agg (rowArr 5 f), fun w hw => ?_, hk⟩
  unfold Oper.quietAt execOp
  have hr : w.rangeAt g p ((List.range 5).map f) := fun j v hv => by
    have hj : j < 5 := by simpa using (List.getElem?_eq_some_iff.1 hv).1
    rw [h w hw j hj, ← hv]
    simp [hj]
  have := run_loadVar_mid (P := Tryd.prog) w g p 37 ((List.range 5).map f) _ hr Tryd.underlying37 rfl (by simpa using sz37)
  simp only [ho, hx, Instr.loadAt, Instr.sureAddr, Sem.run_bind, Sem.run_pure, Result.andThen_ok, this]
  exact ⟨rfl, rfl⟩
/-- The two piles, as the laws go through them. -/
structure Piles (w : World) (p : List Er) (a1 a2 : Option Addr) : Prop where
  cells : ∀ (i : Nat) x, p[i]? = some x → ∃ g1 g2 u f, a1 = some ⟨g1, 0, none⟩ ∧ a2 = some ⟨g2, 0, none⟩ ∧ g1 < w.heap.size ∧ g2 < w.heap.size ∧ w.cell? ⟨g1, i, none⟩ = some u ∧ (∀ j, j < 5 → w.cell? ⟨g2, i * 5 + j, none⟩ = some (f j)) ∧
    ErAt (fun _ => True) w x u ∧ RefAt (fun _ => True) w x f
theorem piles_of {w1 w2 w3 : World} {p : List Er} {v1 v2 : Value} (h1 : MadeR w1 p v1 w2) (h2 : MakeR w2 p v2 w3) : ∃ a1 c1 a2 c2, v1 = .slice a1 p.length c1 ∧ v2 = .slice a2 p.length c2 ∧ Piles w3 p a1 a2 := by
  have h3 : Below w2.heap.size w2 w3 := by obtain ⟨_, _, _, h⟩ := h2; exact h
  obtain ⟨us1, ho1, hi1, _⟩ := h1.under h3
  obtain ⟨us2, ho2, hi2, _⟩ := h2
  obtain ⟨a1, c1, rfl, _, _, hc1⟩ := ownS_any ho1
  obtain ⟨a2, c2, rfl, _, _, hc2⟩ := ownS_any ho2
  refine ⟨a1, c1, a2, c2, rfl, rfl, ⟨fun i x hx => ?_⟩⟩
  obtain ⟨u, hu1, hu2⟩ := hi1 i x hx
  obtain ⟨f, hf1, hf2⟩ := hi2.2 i x hx
  obtain ⟨g1, rfl, _, hg1, e1⟩ := hc1 i u hu1
  obtain ⟨g2, rfl, _, hg2, _⟩ := hc2 (i * 5 + 0) (f 0) (hf1 0 (by omega))
  refine ⟨g1, g2, u, f, rfl, rfl, hg1, hg2, e1, fun j hj => ?_, hu2.any _ (fun _ _ _ => trivial), hf2.any _ (fun _ _ _ => trivial)⟩
  obtain ⟨g', hg', _, _, e'⟩ := hc2 (i * 5 + j) (f j) (hf1 j hj)
  cases hg'
  exact e'
theorem pile_small (ss : List St) (hw : weight ss ≤ 1000000) (i : Nat) (x : Er) (h : (pile (ss.take 40))[i]? = some x) : x.text.size ≤ 1000000000 := by
  have h1 := heft_get _ i x h
  have h2 := heft_pile (ss.take 40)
  have h3 := weight_take ss 40
  have h4 : (ss.take 40).length ≤ 40 := List.length_take_le _ _
  omega

theorem shapes {I J : Nat → Prop} {w : World} {x : Er} {u : Value} {f : Nat → Value} (hE : ErAt I w x u) (hR : RefAt J w x f) : (u = .nilIface ∧ f 0 = .int .i64 0) ∨ ∃ (t : TypeId) (u' : Value) (kk : Int), u = .iface t u' ∧ f 0 = .int .i64 kk ∧ (kk == 0) = false := by
  obtain ⟨h1, h2⟩ := refAt_kind hR
  by_cases hx : x = .none
  · exact .inl ⟨hE.nil.2 hx, h1 hx⟩
  · obtain ⟨t, u', rfl⟩ := hE.iface hx
    obtain ⟨kk, h3, h4⟩ := h2 hx
    exact .inr ⟨t, u', kk, rfl, h3, by simpa using h4⟩
set_option maxHeartbeats 16000000 in
/-- FaultTells. -/
theorem tells_walk (ss : List St) (a : Option Addr) (cap : Nat) (w : World) (hT : Tab w) (hY : ETy w) (hS : StepsAt w a ss) (hl : ss.length ≤ 1048576) (hw : weight ss ≤ 1000000000) :
    Calls Tryd.prog 4 #[.slice a ss.length cap] w fun e w' => e = .returned (.bool true) ∧ Below w.heap.size w w' := by
  have HT := Lib.hid hT
  have HY := Lib.hid hY
  have HS := Lib.hid hS
  have HW := Lib.hid hw
  clear hT hY hS hw
  by_cases hlg : (weight ss : Int) > 100000
  · have hd : decide ((weight ss : Int) > 100000) = true := decide_eq_true hlg
    have hlong := fun (w1 : World) (hb : Below w.heap.size w w1) => hd ▸ long_any ss a cap w1 (HS.out.under hb) hl HW.out
    have HLG := Lib.hid hlong
    clear hd hlong hlg
    go_enter Tryd.func4, Tryd.ntmps4
    go_wp2_with (first
      | (go_at_call 8; refine (awake_any w HT.out HY.out).mono ?_; rintro e1 w1 ⟨rfl, hb1⟩
         have HB1 := Lib.hid hb1
         clear hb1)
      | (go_at_call 9; refine (HLG.out w1 HB1.out).mono ?_; rintro e2 w2 ⟨rfl, hb2⟩
         have HB2 := Lib.hid (HB1.out.trans (hb2.mono HB1.out.size))
         clear hb2)
      | fail)
    go_ret
    exact ⟨rfl, HB2.out⟩
  · have hd : decide ((weight ss : Int) > 100000) = false := decide_eq_false hlg
    have hlong := fun (w1 : World) (hb : Below w.heap.size w w1) => hd ▸ long_any ss a cap w1 (HS.out.under hb) hl HW.out
    have HLG := Lib.hid hlong
    have HSM := Lib.hid (pile_small ss (by omega))
    have hpl : (pile (ss.take 40)).length ≤ 40 := Nat.le_trans (pile_length _) (List.length_take_le _ _)
    clear hd hlong hlg
    go_enter Tryd.func4, Tryd.ntmps4
    go_wp2_with (first
      | (go_at_call 8; refine (awake_any w HT.out HY.out).mono ?_; rintro e1 w1 ⟨rfl, hb1⟩
         have HB1 := Lib.hid hb1
         clear hb1)
      | (go_at_call 9; refine (HLG.out w1 HB1.out).mono ?_; rintro e2 w2 ⟨rfl, hb2⟩
         have HB2 := Lib.hid (HB1.out.trans (hb2.mono HB1.out.size))
         clear hb2)
      | (go_at_call 10; refine (made_any ss a cap w2 (HS.out.under HB2.out) hl).mono ?_; rintro e3 w3 ⟨v3, rfl, hm3⟩
         have HM3 := Lib.hid hm3
         have HB3 := Lib.hid (show Below w.heap.size w w3 from by obtain ⟨_, _, _, h⟩ := hm3; exact HB2.out.trans (h.mono HB2.out.size))
         clear hm3)
      | (go_at_call 11; refine (make_any ss a cap w3 (HS.out.under HB3.out) hl).mono ?_; rintro e4 w4 ⟨v4, rfl, hm4⟩
         have HB4 := Lib.hid (show Below w.heap.size w w4 from by obtain ⟨_, _, _, h⟩ := hm4; exact HB3.out.trans (h.mono HB3.out.size))
         obtain ⟨a1, c1, a2, c2, rfl, rfl, hps⟩ := piles_of HM3.out hm4
         have HPS := Lib.hid hps
         clear hm4 hps)
      | fail)
    generalize pile (ss.take 40) = p at *
    go_loopw [5] (fun i wr => ∃ k : Nat, k ≤ p.length ∧ i = .int .i64 k ∧ Below w4.heap.size w4 wr) (fun i _ => p.length - (intOf i).toNat)
    case atStart => exact ⟨0, by omega, rfl, Below.refl _ _⟩
    case round =>
      obtain ⟨k, hk, rfl, hb⟩ := hrel
      by_cases hlt2 : k < p.length
      · obtain ⟨x, hx⟩ : ∃ x, p[k]? = some x := ⟨_, List.getElem?_eq_getElem hlt2⟩
        obtain ⟨g1, g2, u, f, rfl, rfl, hg1, hg2, e1, hd, hE, hR⟩ := HPS.out.cells k x hx
        have hel := elem_of hE hR (HT.out.under HB4.out) (HY.out.under HB4.out) (HSM.out k x hx)
        have hsh := shapes hE hR
        have HD := Lib.hid (fun (wx : World) (hbx : Below w4.heap.size w4 wx) j (hj : j < 5) => (hbx.cell (p := ⟨g2, k * 5 + j, none⟩) hg2).trans (hd j hj))
        have H1 := Lib.hid (fun (wx : World) (hbx : Below w4.heap.size w4 wx) => (hbx.cell (p := ⟨g1, k, none⟩) hg1).trans e1)
        generalize x.code = cd at hel
        generalize pathOf x.way = pt at hel
        generalize x.text = T at hel
        generalize x.way.map Prod.fst = L at hel
        have HEL := Lib.hid hel
        have HB := Lib.hid hb
        have q1 := H1.out wr hb
        have q0 : wr.cell? ⟨g2, k * 5, none⟩ = some (f 0) := HD.out wr hb 0 (by omega)
        clear hx e1 hd hE hR hel hb
        rcases hsh with ⟨rfl, hf0⟩ | ⟨t, u', kk, rfl, hf0, hkk0⟩
        all_goals
          rw [hf0] at q0
          clear hf0
          go_wp2_with fail
          go_quiet (fail)
          have HB5 := Lib.hid (below_drewN HB.out nq)
          clear q1 q0
          generalize wr.drewN nq = w5 at *
          have q5 := H1.out w5 HB5.out
          go_wp2_with (first
            | (refine wpList_load_part rfl 37 (.tmp 38) rfl g2 (k * 5) rfl 5 f (HD.out w5 HB5.out) _ Tryd.underlying37 rfl sz37 ?_; intro cs hcs; obtain rfl := hcs.out)
            | (go_at_call 18; refine (HEL.out.way w5 HB5.out).mono ?_; rintro e6 w6 ⟨v6, rfl, ho6, hb6⟩
               have HO6 := Lib.hid ho6
               have HB6 := Lib.hid (HB5.out.trans (hb6.mono HB5.out.size))
               have q6 := H1.out w6 HB6.out
               clear ho6 hb6)
            | (go_at_call 19; refine (HEL.out.code w6 HB6.out).mono ?_; rintro e7 w7 ⟨rfl, hb7⟩
               have HO7 := Lib.hid (ownsRow_under HO6.out hb7)
               have HB7 := Lib.hid (HB6.out.trans (hb7.mono HB6.out.size))
               have q7 := H1.out w7 HB7.out
               clear hb7)
            | (go_at_call 20; refine (HEL.out.path w7 HB7.out).mono ?_; rintro e8 w8 ⟨rfl, hb8⟩
               have HO8 := Lib.hid (ownsRow_under HO7.out hb8)
               have HB8 := Lib.hid (HB7.out.trans (hb8.mono HB7.out.size))
               have q8 := H1.out w8 HB8.out
               clear hb8)
            | (go_at_call 22; refine (HEL.out.trace w8 HB8.out).mono ?_; rintro e9 w9 ⟨v9, rfl, ho9, hb9⟩
               have HO9 := Lib.hid ho9
               have HP9 := Lib.hid (ownsRow_under HO8.out hb9)
               have HB9 := Lib.hid (HB8.out.trans (hb9.mono HB8.out.size))
               clear ho9 hb9)
            | (go_at_call 21; refine (texts_same _ _ L v9 v6 w9 HEL.out.len HO9.out HP9.out).mono ?_; rintro e10 w10 ⟨rfl, hb10⟩
               have HB10 := Lib.hid (HB9.out.trans (hb10.mono HB9.out.size))
               clear hb10)
            | fail)
          have HEX := Lib.hid (fun (e : Ext w10.heap.size w10) => HB10.out.trans (e.h.mono HB10.out.size))
          have E1 := fun (e : Ext w10.heap.size w10) => H1.out e.x (HEX.out e)
          have HL : Hid (∀ wx : World, (∃ e : Ext w10.heap.size w10, wx = e.x) → ∀ j, j < 5 → wx.cell? ⟨g2, k * 5 + j, none⟩ = some (f j)) := Lib.hid (fun wx ⟨e, he⟩ => he ▸ HD.out e.x (HEX.out e))
          clear q5 q6 q7 q8
          refine wp_region_below w10.heap.size (by kernel_rfl) (by kernel_rfl) ?_
          repeat (first
            | go_big_quiet_skip
            | (go_big_quiet_want
               first
               | (refine quiet_load37 (.tmp 77) rfl g2 (k * 5) rfl f HL.out ?_; simp only [Act.put, List.setIfInBounds_toArray, List.set_cons_succ, List.set_cons_zero]; go_big_quiet_on)
               | (go_big_quiet_op; first | go_big_quiet_on | (apply Exists.intro; refine ⟨fun e => ?_, ?_⟩; (first | (go_at_call 14; exact below_call (Nat.le_refl _) e (HEL.out.text e.x (HEX.out e))) | (go_at_call 13; exact below_call (Nat.le_refl _) e (HEL.out.rtext e.x (HEX.out e)))); go_big_quiet_on))))
          refine wpQuiet_nil ?_
          intro w11 hb11
          have HB11 := Lib.hid (HB10.out.trans (hb11.mono HB10.out.size))
          clear E1 hb11
          go_wp2_with fail
          go_roundw
          case rel => exact ⟨k + 1, by omega, by go_num, HB11.out⟩
          case measure => simp [intOf]; omega
      · obtain rfl : k = p.length := by omega
        go_wp2_with fail
        go_ret
        exact ⟨rfl, HB4.out.trans (hb.mono HB4.out.size)⟩
end Go.Proofs.YtcodlhjedhaaaaaDoor
