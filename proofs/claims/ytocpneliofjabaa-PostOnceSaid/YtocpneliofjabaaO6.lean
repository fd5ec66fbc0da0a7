/-
  THE LAW PostOnce' walk.
-/
import Derived.Test.YtocpneliofjabaaO5
namespace Go.Proofs.Ytocpneliofjabaa
open Go.RowKit
set_option maxRecDepth 100000

theorem doo_most (s : Pst) (d : Dc) : (s.doo d).most = s.most := by
  have ha : ∀ x, (s.add x).most = s.most := fun x => by unfold Pst.add; split <;> rfl
  unfold Pst.doo
  split
  · unfold Pst.send
    split
    · rfl
    · exact ha _
  split
  · unfold Pst.take
    split <;> rfl
  split
  · unfold Pst.drop
    split <;> rfl
  split
  · unfold Pst.dbl
    split
    · rfl
    · split
      · exact ha _
      · rfl
  split
  · unfold Pst.blk
    split <;> rfl
  · rfl
theorem way_start (w : World) : WaySt (fun i => i = w.heap.size) (w.alloc (.cells #[.slice none 0 0, .int .i64 0] 42)) w.heap.size [] 0 :=
  ⟨.slice none 0 0, rowIs_lit w [.slice none 0 0, .int .i64 0] 42 2 _ rfl, World.ownsRow_nil _ _ _ _, rfl, by simp [Value.ownBlock], fun i hi => by simp; omega, by simp⟩
set_option maxHeartbeats 4000000 in
theorem once_no (m : Int) (h : m < 1 ∨ 256 < m) (A : Option Addr) (len cap : Nat) (w : World) :
    Calls Try.prog 4 #[.int .i64 m, .slice A len cap] w fun e w' => e = .returned (.bool true) ∧ Below w.heap.size w w' := by
  rcases h with h | h
  · go_enter Try.func4, Try.ntmps4
    go_wp2_with fail
    refine (awake_any w).mono ?_
    rintro e w1 ⟨rfl, hb1⟩
    go_wp2_with fail
    go_ret
    exact ⟨rfl, hb1⟩
  · have h2 : ¬ m < 1 := by omega
    go_enter Try.func4, Try.ntmps4
    go_wp2_with fail
    refine (awake_any w).mono ?_
    rintro e w1 ⟨rfl, hb1⟩
    go_wp2_with fail
    go_ret
    exact ⟨rfl, hb1⟩
set_option maxHeartbeats 4000000 in
/-- veneerlaw21.PostOnce(most, script). -/
theorem once_yes (m : Int) (h1 : 1 ≤ m) (h2 : m ≤ 256) (A : Option Addr) (len cap : Nat) (hlen : len ≤ 9223372036854775807) (w : World) (hS : ScAt w A len) :
    Calls Try.prog 4 #[.int .i64 m, .slice A len cap] w fun e w' => e = .returned (.bool true) ∧ Below w.heap.size w w' := by
  have HS := Lib.hid hS
  clear hS
  go_enter Try.func4, Try.ntmps4
  go_wp2_with fail
  refine (awake_any w).mono ?_
  rintro e w1 ⟨rfl, hb1⟩
  go_wp2_with fail
  refine (new_any m h1 h2 w1).mono ?_
  rintro e w2 ⟨rfl, hp2, hb2, hs2⟩
  obtain ⟨P, hP⟩ : ∃ P, P = w1.heap.size + 1 := ⟨_, rfl⟩
  rw [← hP] at hp2 ⊢
  have HP := Lib.hid hP
  have HB12 := Lib.hid (hb1.trans (hb2.mono hb1.size))
  have HW1 := Lib.hid hb1.size
  have HP2 := Lib.hid hp2
  clear hP hp2 hb1 hb2 hs2
  go_wp2_with fail
  obtain ⟨W0, hW0⟩ : ∃ W0, W0 = w2.alloc (.cells #[.slice none 0 0, .int .i64 0] 42) := ⟨_, rfl⟩
  obtain ⟨R, hR⟩ : ∃ R, R = w2.heap.size := ⟨_, rfl⟩
  have hT : Two (PA P 0 (pst0 m)) (WA R [] 0) (fun i => w.heap.size ≤ i) w W0 := by
    have hb := HB12.out
    have hl := HP2.out.lt
    have hw1 := HW1.out
    have hpp := HP.out
    refine ⟨_, fun i => i = R, PostSt.below HP2.out ?_, ?_, ?_, ?_, ?_⟩
    · rw [hW0]; exact (Below.refl _ _).alloc (Nat.le_refl _) _
    · show WaySt _ _ _ _ _
      rw [hR, hW0]; exact way_start w2
    · rintro i hi rfl
      have := hl _ hi
      omega
    · rintro i (hi | rfl)
      · exact .inl (by rcases hi with rfl | rfl <;> omega)
      · exact .inl (by have := hb.size; omega)
    · exact Kept.of_below (by rw [hW0]; exact hb.alloc hb.size _)
  rw [← hW0, ← hR]
  clear hW0 hR HP HW1 HP2 HB12
  go_loopw [8] (fun i wr => ∃ (k n : Nat) (s : Pst), k ≤ len ∧ k ≤ 200 ∧ i = .int .i64 k ∧ Two (PA P n s) (WA R s.L s.last) (fun i => w.heap.size ≤ i) w wr ∧ s.most = m ∧ s.last ≤ k ∧ n ≤ k) (fun i _ => 200 - (intOf i).toNat)
  case atStart => exact ⟨0, 0, pst0 m, by omega, by omega, rfl, hT, rfl, by show (0 : Int) ≤ _; omega, Nat.le_refl _⟩
  case round =>
    clear hT
    obtain ⟨k, n, s, hk, hk2, rfl, hT, hmost, hl, hn⟩ := hrel
    by_cases hlt : k < len ∧ k < 200
    · obtain ⟨g1, g2⟩ := hlt
      obtain ⟨b, o, K, d, rfl, hbw, hd, c0, c1, c2, c3, c4⟩ := HS.out k g1
      have hbl := hT.kept.below (fun i h => h) (Nat.le_refl w.heap.size)
      have e0 := (hbl.drew.cell (p := ⟨b, o + k * 5, none⟩) hbw).trans c0
      have e1 := (hbl.drew.cell (p := ⟨b, o + k * 5 + 1, none⟩) hbw).trans c1
      have e2 := (hbl.drew.cell (p := ⟨b, o + k * 5 + 2, none⟩) hbw).trans c2
      have e3 := (hbl.drew.cell (p := ⟨b, o + k * 5 + 3, none⟩) hbw).trans c3
      have e4 := (hbl.drew.cell (p := ⟨b, o + k * 5 + 4, none⟩) hbw).trans c4
      have hT0 := hT.drew (held_PA _ _ _) (held_WA _ _ _)
      have hfine : s.Fine := by obtain ⟨S, _, h1, _⟩ := hT; exact PostSt.fine h1
      have hk0 : (0 : Int) ≤ (k : Int) := by omega
      have hk1 : (k : Int) < (len : Int) := by omega
      have HD := Lib.hid hd
      have HFI := Lib.hid hfine
      have HMOST := Lib.hid (show (s.doo d).most = m by rw [doo_most, hmost])
      have HL := Lib.hid (show (s.doo d).last ≤ (k : Int) + 1 by have := s.doo_last d; omega)
      clear c0 c1 c2 c3 c4 hbl hT hd hfine hmost
      go_wp2_with fail
      go_region_with ((first
        | (go_at_call 13; refine (call_any P R n s _ w _ K d HD.out hT0 HFI.out (by omega) (by omega)).mono ?_; rintro e w3 ⟨rfl, h3⟩
           have hf3 : (s.doo d).Fine := by obtain ⟨S, _, h1, _⟩ := h3; exact PostSt.fine h1
           have hroom : ((s.doo d).L.length : Int) ≤ m := by have h1 := hf3.room; rw [HMOST.out] at h1; exact h1
           have hdec : decide (m < ((s.doo d).L.length : Int)) = false := by simp; exact hroom
           obtain ⟨v, hv, _, hvo, hvl, hL256⟩ := way_list h3
           have hv4 := fun w4 (hb : Below w3.heap.size w3 w4) => (hb.cell (p := ⟨R, 0, none⟩) hvl).trans hv
           have HV4 := Lib.hid hv4
           have HVO := Lib.hid hvo
           have HL2 := Lib.hid hL256
           obtain ⟨av, capv, rfl, _, _, _⟩ := hvo.shape
           clear hv4 hvo hf3 hL256)
        | (go_at_call 12; refine (h3.quiet1 (Φ := fun e w' => ∃ v', e = .returned v' ∧ PkOwn w3.heap.size w' v' (s.doo d).L ∧ Below w3.heap.size w3 w') (held_PA _ _ _) (held_WA _ _ _) (fun S hp => (list_any S P _ _ _ hp).mono (fun e w' ⟨v', a, b, c⟩ => ⟨⟨v', a, b, c⟩, c⟩))).mono ?_; rintro e w6 ⟨⟨v', rfl, hl6, hb6⟩, h6⟩
           have hv7 := HV4.out w6 hb6)
        | (go_at_call 11; refine (packets_same v' _ (s.doo d).L w6 (own_low hl6) (PkOwn.keep HVO.out (fun k hk => hb6.block k (HVO.out.lt k hk).2)) ?_).mono ?_
           · exact Nat.le_trans HL2.out (by omega)
           rintro e w7 ⟨rfl, hb7⟩
           have HT7 := Lib.hid (Two.below (held_PA _ _ _) (held_WA _ _ _) h6 hb7)
           clear hb7)))
      all_goals
        clear h3 h6 e0 e1 e2 e3 e4 hT0 hv
        go_wp2_with fail
        go_roundw
        case rel => exact ⟨k + 1, n + 1, _, by omega, by omega, by go_num, HT7.out, HMOST.out, HL.out, by omega⟩
        case measure => simp [intOf]; omega
    · go_wp2_with fail
      all_goals
        go_ret
        exact ⟨rfl, Two.from_below hT (Nat.le_refl _)⟩
/-- veneerlaw21.PostOnce(most, script). -/
theorem once_walk (m : Int) (A : Option Addr) (len cap : Nat) (hlen : len ≤ 9223372036854775807) (w : World) (hS : ScAt w A len) :
    Calls Try.prog 4 #[.int .i64 m, .slice A len cap] w fun e w' => e = .returned (.bool true) ∧ Below w.heap.size w w' := by
  by_cases h : 1 ≤ m ∧ m ≤ 256
  · exact once_yes m h.1 h.2 A len cap hlen w hS
  · exact once_no m (by omega) A len cap w
end Go.Proofs.Ytocpneliofjabaa
