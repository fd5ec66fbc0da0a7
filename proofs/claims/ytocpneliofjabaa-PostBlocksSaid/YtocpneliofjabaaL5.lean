/-
  THE LAW PostPlays' walk.
-/
import Derived.Test.YtocpneliofjabaaL4
namespace Go.Proofs.Ytocpneliofjabaa
open Go.RowKit
set_option maxRecDepth 100000

/-- A script in memory. -/
def ScAt (w : World) (A : Option Addr) (len : Nat) : Prop :=
  ∀ i, i < len → ∃ b o K d, A = some ⟨b, o, none⟩ ∧ b < w.heap.size ∧ DcOf K d ∧ w.cell? ⟨b, o + i * 5, none⟩ = some (.int .i64 K) ∧ w.cell? ⟨b, o + i * 5 + 1, none⟩ = some (.int .i64 d.a) ∧ w.cell? ⟨b, o + i * 5 + 2, none⟩ = some (.int .i64 d.b) ∧ w.cell? ⟨b, o + i * 5 + 3, none⟩ = some (.int .i64 d.n) ∧ w.cell? ⟨b, o + i * 5 + 4, none⟩ = some (.string d.body)
theorem Rel.first {s : Pst} {r : Rst} (h : Rel s r) : s.first = r.first := by
  unfold Pst.first Rst.first
  rw [h.L]
  congr 1
  funext x
  exact h.bl _ _
theorem length_doo (s : Pst) (d : Dc) : (s.doo d).L.length ≤ s.L.length + 1 := by
  have ha : ∀ x, (s.add x).L.length ≤ s.L.length + 1 := fun x => by
    unfold Pst.add
    split
    · omega
    · show (s.L ++ [_]).length ≤ _
      simp
  have hc : ∀ i, (s.cut i).L.length ≤ s.L.length := fun i => by
    show (rmv i s.L).length ≤ _
    unfold rmv
    simp
    omega
  unfold Pst.doo
  split
  · unfold Pst.send
    split
    · omega
    · exact ha _
  split
  · unfold Pst.take
    split
    · have := hc (fndI d.n s.L).toNat; omega
    · omega
  split
  · unfold Pst.drop
    split
    · omega
    · have := hc (fndI d.n s.L).toNat; omega
  split
  · unfold Pst.dbl
    split
    · omega
    · split
      · exact ha _
      · omega
  split
  · unfold Pst.blk
    split
    · omega
    · show s.L.length ≤ _; omega
  · show s.L.length ≤ _; omega
theorem own_low {base : Nat} {w : World} {v : Value} {L : List Pk} (h : PkOwn base w v L) : PkOwn 0 w v L := ⟨h.1, h.2.imp _root_.id (fun ⟨g, cap, cur, a, _, b⟩ => ⟨g, cap, cur, a, Nat.zero_le _, b⟩)⟩
/-- The reference's packets, as they lie. -/
theorem ref_list {A1 : (Nat → Prop) → World → Prop} {U : Nat → Prop} {w0 w : World} {R : Nat} {r : Rst} (h : Two A1 (RA R r) U w0 w) : ∃ v, w.cell? ⟨R, 2, none⟩ = some v ∧ PkOwn 0 w v r.L ∧ R < w.heap.size := by
  obtain ⟨S, T, _, ⟨v, u, h1, h2, _⟩, _⟩ := h
  exact ⟨v, h1.cell (by omega), h2, h1.lt⟩
set_option maxHeartbeats 4000000 in
/-- veneerlaw21.PostPlays(most, script), where most is none. -/
theorem plays_no (m : Int) (h : m < 1 ∨ 256 < m) (A : Option Addr) (len cap : Nat) (w : World) :
    Calls Try.prog 3 #[.int .i64 m, .slice A len cap] w fun e w' => e = .returned (.bool true) ∧ Below w.heap.size w w' := by
  have HN := Lib.hid (fun w => new_no m h w)
  rcases h with h | h
  · go_enter Try.func3, Try.ntmps3
    go_wp2_with fail
    refine (awake_any w).mono ?_
    rintro e w1 ⟨rfl, hb1⟩
    go_wp2_with fail
    refine (HN.out _).mono ?_
    rintro e w2 ⟨rfl, rfl⟩
    go_wp2_with fail
    go_ret
    exact ⟨rfl, hb1⟩
  · have h2 : ¬ m < 1 := by omega
    go_enter Try.func3, Try.ntmps3
    go_wp2_with fail
    refine (awake_any w).mono ?_
    rintro e w1 ⟨rfl, hb1⟩
    go_wp2_with fail
    refine (HN.out _).mono ?_
    rintro e w2 ⟨rfl, rfl⟩
    go_wp2_with fail
    go_ret
    exact ⟨rfl, hb1⟩
def rst0 (m : Int) : Rst := ⟨m, 0, [], []⟩
theorem rel0 (m : Int) : Rel (pst0 m) (rst0 m) := ⟨rfl, rfl, rfl, fun _ _ => rfl⟩
theorem ref_start (m : Int) (h1 : 1 ≤ m) (h2 : m ≤ 256) (w : World) : RefSt (fun i => i = w.heap.size) (w.alloc (.cells #[.int .i64 m, .int .i64 0, .slice none 0 0, .slice none 0 0] 32)) w.heap.size (rst0 m) :=
  ⟨.slice none 0 0, .slice none 0 0, rowIs_lit w [.int .i64 m, .int .i64 0, .slice none 0 0, .slice none 0 0] 32 4 _ rfl, World.ownsRow_nil _ _ _ _, World.ownsRow_nil _ _ _ _, rfl, by simp [Value.ownBlock], by simp [Value.ownBlock], fun i hi => by simp; omega,
    ⟨h1, h2, Int.le_refl _, by show (0 : Int) ≤ 1000000; omega, Int.le_refl _, by show (0 : Int) ≤ m; omega, by intro x hx; cases hx⟩, by simp [rst0]⟩
set_option maxHeartbeats 4000000 in
/-- veneerlaw21.PostPlays(most, script). -/
theorem plays_yes (m : Int) (h1 : 1 ≤ m) (h2 : m ≤ 256) (A : Option Addr) (len cap : Nat) (hlen : len ≤ 9223372036854775807) (w : World) (hS : ScAt w A len) :
    Calls Try.prog 3 #[.int .i64 m, .slice A len cap] w fun e w' => e = .returned (.bool true) ∧ Below w.heap.size w w' := by
  have HS := Lib.hid hS
  clear hS
  go_enter Try.func3, Try.ntmps3
  go_wp2_with fail
  refine (awake_any w).mono ?_
  rintro e w1 ⟨rfl, hb1⟩
  go_wp2_with fail
  refine (new_any m h1 h2 w1).mono ?_
  rintro e w2 ⟨rfl, hp2, hb2, hs2⟩
  obtain ⟨P, hP⟩ : ∃ P, P = w1.heap.size + 1 := ⟨_, rfl⟩
  rw [← hP] at hp2 ⊢
  have HP := Lib.hid hP
  have HB12 := Lib.hid (hb1.trans (hb2.mono hb1.size))
  have HW1 := Lib.hid hb1.size
  have HP2 := Lib.hid hp2
  clear hP hp2 hb1 hb2 hs2
  go_wp2_with fail
  obtain ⟨W0, hW0⟩ : ∃ W0, W0 = w2.alloc (.cells #[.int .i64 m, .int .i64 0, .slice none 0 0, .slice none 0 0] 32) := ⟨_, rfl⟩
  obtain ⟨R, hR⟩ : ∃ R, R = w2.heap.size := ⟨_, rfl⟩
  have hT : Two (PA P 0 (pst0 m)) (RA R (rst0 m)) (fun i => w.heap.size ≤ i) w W0 := by
    have hb := HB12.out
    have hl := HP2.out.lt
    have hw1 := HW1.out
    have hpp := HP.out
    refine ⟨_, fun i => i = R, PostSt.below HP2.out ?_, ?_, ?_, ?_, ?_⟩
    · rw [hW0]; exact (Below.refl _ _).alloc (Nat.le_refl _) _
    · show RefSt _ _ _ _
      rw [hR, hW0]; exact ref_start m h1 h2 w2
    · rintro i hi rfl
      have := hl _ hi
      omega
    · rintro i (hi | rfl)
      · exact .inl (by rcases hi with rfl | rfl <;> omega)
      · exact .inl (by have := hb.size; omega)
    · exact Kept.of_below (by rw [hW0]; exact hb.alloc hb.size _)
  rw [← hW0, ← hR]
  clear hW0 hR HP HW1 HP2 HB12
  go_loopw [8] (fun i wr => ∃ (k n : Nat) (s : Pst) (r : Rst), k ≤ len ∧ k ≤ 200 ∧ i = .int .i64 k ∧ Two (PA P n s) (RA R r) (fun i => w.heap.size ≤ i) w wr ∧ Rel s r ∧ s.last ≤ k ∧ n ≤ k ∧ r.M.length ≤ 2 * k) (fun i _ => 200 - (intOf i).toNat)
  case atStart => exact ⟨0, 0, _, _, by omega, by omega, rfl, hT, rel0 m, by show (0 : Int) ≤ _; omega, Nat.le_refl _, by simp [rst0]⟩
  case round =>
    clear hT
    obtain ⟨k, n, s, r, hk, hk2, rfl, hT, hrel, hl, hn, hM⟩ := hrel
    by_cases hlt : k < len ∧ k < 200
    · obtain ⟨g1, g2⟩ := hlt
      obtain ⟨b, o, K, d, rfl, hbw, hd, c0, c1, c2, c3, c4⟩ := HS.out k g1
      have hbl := hT.kept.below (fun i h => h) (Nat.le_refl w.heap.size)
      have e0 := (hbl.drew.cell (p := ⟨b, o + k * 5, none⟩) hbw).trans c0
      have e1 := (hbl.drew.cell (p := ⟨b, o + k * 5 + 1, none⟩) hbw).trans c1
      have e2 := (hbl.drew.cell (p := ⟨b, o + k * 5 + 2, none⟩) hbw).trans c2
      have e3 := (hbl.drew.cell (p := ⟨b, o + k * 5 + 3, none⟩) hbw).trans c3
      have e4 := (hbl.drew.cell (p := ⟨b, o + k * 5 + 4, none⟩) hbw).trans c4
      have hT0 := hT.drew (held_PA _ _ _) (held_RA _ _)
      have hfine : s.Fine := by obtain ⟨S, _, h1, _⟩ := hT; exact PostSt.fine h1
      have hk0 : (0 : Int) ≤ (k : Int) := by omega
      have hk1 : (k : Int) < (len : Int) := by omega
      have HREL := Lib.hid hrel
      have hrel2 := hrel.doo hfine d
      have HREL2 := Lib.hid hrel2
      have HFST := Lib.hid hrel2.first
      have HLEN : Hid ((s.doo d).L.length ≤ 1000000) := Lib.hid (by
        have h1 := length_doo s d
        have h2 := hfine.room
        have h3 := hfine.m2
        omega)
      have HD := Lib.hid hd
      have HL := Lib.hid (show (s.doo d).last ≤ (k : Int) + 1 by have := s.doo_last d; omega)
      have HM := Lib.hid (show (r.doo d).M.length ≤ 2 * (k + 1) by have := r.doo_M d; omega)
      clear c0 c1 c2 c3 c4 hbl hT hrel hd hrel2 hfine
      go_wp2_with fail
      go_region_with ((first
        | (go_at_call 8; refine (do_any P R n s r _ w _ K d HD.out hT0 HREL.out (by omega) (by omega) (by omega)).mono ?_; rintro e w3 ⟨rfl, h3⟩)
        | (go_at_call 9; refine (h3.quiet1 (held_PA _ _ _) (held_RA _ _) (fun S hp => first_any S P _ _ _ hp)).mono ?_; rintro e w4 ⟨rfl, h4⟩)
        | (go_at_call 10; refine (h4.swap.quiet1 (held_RA _ _) (held_PA _ _ _) (fun S hp => rfirst_any S R _ _ hp)).mono ?_; rintro e w5 ⟨rfl, h5⟩
           rw [← HFST.out]
           obtain ⟨v, hv, hvo, hvl⟩ := ref_list h5.swap
           have hv6 := fun w6 (hb : Below w5.heap.size w5 w6) => (hb.cell (p := ⟨R, 2, none⟩) hvl).trans hv
           have HV6 := Lib.hid hv6
           clear hv6)
        | (go_at_call 12; refine (h5.swap.quiet1 (Φ := fun e w' => ∃ v', e = .returned v' ∧ PkOwn w5.heap.size w' v' (s.doo d).L ∧ Below w5.heap.size w5 w') (held_PA _ _ _) (held_RA _ _) (fun S hp => (list_any S P _ _ _ hp).mono (fun e w' ⟨v', a, b, c⟩ => ⟨⟨v', a, b, c⟩, c⟩))).mono ?_; rintro e w6 ⟨⟨v', rfl, hl6, hb6⟩, h6⟩
           have hv7 := HV6.out w6 hb6)
        | (go_at_call 11; refine (packets_same v' v (s.doo d).L w6 (own_low hl6) (by rw [HREL2.out.L]; exact PkOwn.keep hvo (fun k hk => hb6.block k (hvo.lt k hk).2)) ?_).mono ?_
           · exact HLEN.out
           rintro e w7 ⟨rfl, hb7⟩
           have HT7 := Lib.hid (Two.below (held_PA _ _ _) (held_RA _ _) h6 hb7)
           clear hb7)))
      all_goals
        clear h3 h4 h5 h6 e0 e1 e2 e3 e4 hT0
        go_wp2_with fail
        go_roundw
        case rel => exact ⟨k + 1, n + 1, _, _, by omega, by omega, by go_num, HT7.out, HREL2.out, HL.out, by omega, HM.out⟩
        case measure => simp [intOf]; omega
    · go_wp2_with fail
      all_goals
        go_ret
        exact ⟨rfl, Two.from_below hT (Nat.le_refl _)⟩
/-- veneerlaw21.PostPlays(most, script). -/
theorem plays_walk (m : Int) (A : Option Addr) (len cap : Nat) (hlen : len ≤ 9223372036854775807) (w : World) (hS : ScAt w A len) :
    Calls Try.prog 3 #[.int .i64 m, .slice A len cap] w fun e w' => e = .returned (.bool true) ∧ Below w.heap.size w w' := by
  by_cases h : 1 ≤ m ∧ m ≤ 256
  · exact plays_yes m h.1 h.2 A len cap hlen w hS
  · exact plays_no m (by omega) A len cap w
end Go.Proofs.Ytocpneliofjabaa
