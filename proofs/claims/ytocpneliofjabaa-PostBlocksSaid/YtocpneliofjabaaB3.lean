/-
  THE LAW PostBlocks' walk, where the two are not one.
-/
import Derived.Test.YtocpneliofjabaaB2
namespace Go.Proofs.Ytocpneliofjabaa
open Go.RowKit
set_option maxRecDepth 100000

set_option maxHeartbeats 8000000 in
/-- veneerlaw21.PostBlocks(a, b, froms, bodies), the two are not one. -/
theorem blocks_other (a b : Int) (hab : a ≠ b) (ha : i64r a) (hb : i64r b) (A1 A2 : Option Addr) (n1 c1 n2 c2 : Nat) (F : Nat → Int) (Bd : Nat → ByteArray) (hn1 : n1 ≤ 9223372036854775807) (hn2 : n2 ≤ 9223372036854775807) (w : World)
    (hF : InsAt w A1 n1 (fun i => .int .i64 (F i))) (hFi : ∀ i, i < n1 → i64r (F i)) (hB : InsAt w A2 n2 (fun i => .string (Bd i))) :
    Calls Try.prog 5 #[.int .i64 a, .int .i64 b, .slice A1 n1 c1, .slice A2 n2 c2] w fun e w' => e = .returned (.bool true) ∧ Below w.heap.size w w' := by
  have HAB := Lib.hid hab
  have HF := Lib.hid hF
  have HFI := Lib.hid hFi
  have HB := Lib.hid hB
  have HA := Lib.hid ha
  have HBB := Lib.hid hb
  have i128 : Hid ((1 : Int) ≤ 128 ∧ (128 : Int) ≤ 256) := Lib.hid (by omega)
  clear hab hF hFi hB ha hb
  go_enter Try.func5, Try.ntmps5
  go_wp2_with fail
  refine (awake_any w).mono ?_
  rintro e w1 ⟨rfl, hb1⟩
  go_wp2_with fail
  refine (new_any 128 i128.out.1 i128.out.2 w1).mono ?_
  rintro e w2 ⟨rfl, hp2, hb2, hs2⟩
  obtain ⟨P, hP⟩ : ∃ P, P = w1.heap.size + 1 := ⟨_, rfl⟩
  rw [← hP] at hp2 ⊢
  have hT : Two (PA P 0 (bS F (toOf a b F) Bd 0)) (IA (.slice none 0 0) 0) (fun i => w.heap.size ≤ i) w w2 := by
    have hb := hb1.trans (hb2.mono hb1.size)
    have hw1 := hb1.size
    refine ⟨_, fun _ => False, hp2, ⟨World.ownsRow_nil _ _ _ _, by simp [Value.ownBlock], fun i hi => hi.elim⟩, fun _ _ h => h, ?_, Kept.of_below hb⟩
    rintro i (hi | hi)
    · exact .inl (by rcases hi with rfl | rfl <;> omega)
    · exact hi.elim
  clear hP hp2 hb1 hb2 hs2
  go_wp2_with fail
  go_loopw [11, 12] (fun ids i wr => ∃ k : Nat, k ≤ n1 ∧ k ≤ n2 ∧ k ≤ 60 ∧ i = .int .i64 k ∧ Two (PA P 0 (bS F (toOf a b F) Bd k)) (IA ids k) (fun i => w.heap.size ≤ i) w wr) (fun _ i _ => 60 - (intOf i).toNat)
  case atStart => exact ⟨0, by omega, by omega, by omega, rfl, hT⟩
  case round =>
    clear hT
    obtain ⟨k, hk1, hk2, hk3, rfl, hT⟩ := hrel
    by_cases hlt : k < n1 ∧ k < n2 ∧ k < 60
    · obtain ⟨g1, g2, g3⟩ := hlt
      obtain ⟨b1, o1, rfl, hl1, d1⟩ := HF.out k g1
      obtain ⟨b2, o2, rfl, hl2, d2⟩ := HB.out k g2
      have d1 : w.cell? ⟨b1, o1 + k, none⟩ = some (.int .i64 (F k)) := d1
      have d2 : w.cell? ⟨b2, o2 + k, none⟩ = some (.string (Bd k)) := d2
      have hbl := hT.kept.below (fun i h => h) (Nat.le_refl w.heap.size)
      have e1 := (hbl.cell (p := ⟨b1, o1 + k, none⟩) hl1).trans d1
      have hfr := HFI.out k g1
      have HSND := Lib.hid (bS_send F (toOf a b F) Bd k g3)
      have HCEL : Hid (∀ (A1' A2' : (Nat → Prop) → World → Prop) (w' : World), Two A1' A2' (fun i => w.heap.size ≤ i) w w' → w'.cell? ⟨b1, o1 + k, none⟩ = some (.int .i64 (F k)) ∧ w'.cell? ⟨b2, o2 + k, none⟩ = some (.string (Bd k))) := Lib.hid (fun A1' A2' w' h => by
        have hb := h.kept.below (fun i h => h) (Nat.le_refl w.heap.size)
        exact ⟨(hb.cell (p := ⟨b1, o1 + k, none⟩) hl1).trans d1, (hb.cell (p := ⟨b2, o2 + k, none⟩) hl2).trans d2⟩)
      have HFR := Lib.hid hfr
      have hk0 : (0 : Int) ≤ (k : Int) := by omega
      have hk4 : (k : Int) < (n1 : Int) := by omega
      have hk5 : (k : Int) < (n2 : Int) := by omega
      obtain ⟨f, hf⟩ : ∃ f, f = F k := ⟨_, rfl⟩
      obtain ⟨t, ht⟩ : ∃ t, t = toOf a b F k := ⟨_, rfl⟩
      have HTO : Hid (i64r t) := Lib.hid (by rw [ht]; unfold toOf; split; · exact HBB.out
                                             · exact HA.out)
      rw [← hf] at e1 HCEL HSND HFR
      rw [← ht] at HSND
      have hsend : ∀ S w', PostSt S w' P 0 (bS F (toOf a b F) Bd k) → Calls Try.prog 14 #[.pointer (some ⟨P, 0, none⟩), .int .i64 f, .int .i64 t, .string (Bd k)] w' fun e w'' => e = .returned (.int .i64 ((k : Int) + 1)) ∧ Kept S w' w'' ∧ PostSt (Gr S w' w'') w'' P 0 (bS F (toOf a b F) Bd (k + 1)) := fun S w' hp => by
        have h := send_any S P 0 _ f t (Bd k) HFR.out HTO.out _ hp (by show (k : Int) < 1000000; omega)
        rw [HSND.out.1, HSND.out.2] at h
        exact h
      have HSD := Lib.hid hsend
      clear hsend
      have htv : ((f == a) = true ∧ b = t) ∨ ((f == a) = false ∧ a = t) := by
        rw [ht, hf]
        unfold toOf
        by_cases h : F k = a
        · exact .inl ⟨by simpa using h, (if_pos h).symm⟩
        · exact .inr ⟨by simpa using h, (if_neg h).symm⟩
      clear hf ht d1 d2 hbl hfr
      rcases htv with ⟨hq, rfl⟩ | ⟨hq, rfl⟩
      all_goals
        go_wp2_with fail
        have hT0 := hT.drew (held_PA _ _ _) (held_IA _ _)
        clear hT hq e1
        go_region_held3 (fun w' => w'.cell? ⟨b1, o1 + k, none⟩ = some (.int .i64 f) ∧ w'.cell? ⟨b2, o2 + k, none⟩ = some (.string (Bd k)))
          (first
            | with_reducible exact HCEL.out _ _ _ h4
            | with_reducible exact HCEL.out _ _ _ h3
            | with_reducible exact HCEL.out _ _ _ hT0
            | with_reducible exact HCEL.out _ _ _ (Two.below (held_PA _ _ _) (held_IA _ _) h3 ((Below.refl _ _).alloc (Nat.le_refl _) _))
            | go_keep)
          (first
            | (go_at_call 14; refine (hT0.first (A1' := PA P 0 (bS F (toOf a b F) Bd (k + 1))) (held_IA _ _) (held_PA _ _ _) (fun S hp => HSD.out S _ hp)).mono ?_; rintro e w3 ⟨rfl, h3⟩)
            | (refine step_append_num rfl (.tmp 55) (.tmp 67) (by rfl) _ k (by rfl) (held_PA _ _ _) h3 (by omega) (by rfl) (by rfl) ?_; intro v4 w4 h4))
        have H4 := Lib.hid h4
        clear h3 h4 hT0
        go_wp2_with fail
        go_roundw
        case rel => exact ⟨k + 1, by omega, by omega, by omega, by go_num, H4.out⟩
        case measure => simp [intOf]; omega
    · have hc : ¬ k < n1 ∨ (k < n1 ∧ ¬ k < n2) ∨ (k < n1 ∧ k < n2 ∧ ¬ k < 60) := by omega
      have hs0 : ∀ x y, (bS F (toOf a b F) Bd k).bl x y = false := fun _ _ => rfl
      have hsB : ∀ x y, ((bS F (toOf a b F) Bd k).blk a b).bl x y = stuckB a b x y := blk_bl _ hs0 a b
      have hsF : ∀ x y, (((bS F (toOf a b F) Bd k).blk a b).fre b a).bl x y = false := fre_bl _ hs0 a b
      have hLB : ((bS F (toOf a b F) Bd k).blk a b).L = bL F (toOf a b F) Bd k := by unfold Pst.blk; split <;> rfl
      have hlB : ((bS F (toOf a b F) Bd k).blk a b).last = (k : Int) := by unfold Pst.blk; split <;> rfl
      obtain ⟨s0, hs0e⟩ : ∃ s0, s0 = bS F (toOf a b F) Bd k := ⟨_, rfl⟩
      obtain ⟨sB, hsBe⟩ : ∃ sB, sB = (bS F (toOf a b F) Bd k).blk a b := ⟨_, rfl⟩
      obtain ⟨sF, hsFe⟩ : ∃ sF, sF = ((bS F (toOf a b F) Bd k).blk a b).fre b a := ⟨_, rfl⟩
      have hLF : sF.L = bL F (toOf a b F) Bd k := by rw [hsFe, ← hLB]; rfl
      have HBLK := Lib.hid (show s0.blk a b = sB by rw [hs0e, hsBe])
      have HFRE := Lib.hid (show sB.fre b a = sF by rw [hsBe, hsFe])
      rw [← hsBe] at hsB hLB hlB
      rw [← hsFe] at hsF
      rw [← hs0e] at hT
      have HSB := Lib.hid hsB
      have HSF := Lib.hid hsF
      have HLB := Lib.hid hLB
      have HLF := Lib.hid hLF
      have HlB := Lib.hid hlB
      have HK3 := Lib.hid hk3
      have HLEN := Lib.hid (length_bL F (toOf a b F) Bd k)
      clear hs0 hsB hsF hLB hlB hs0e hsBe hsFe hLF
      rcases hc with h1 | ⟨h1, h2⟩ | ⟨h1, h2, h3⟩
      all_goals
        go_wp2_with fail
        refine (hT.first (A1' := PA P 1 sB) (held_IA _ _) (held_PA _ _ _) (fun S hp => by have h := block_any S P 0 s0 a b HA.out HBB.out _ hp (by omega); rw [HBLK.out] at h; exact h)).mono ?_
        rintro e w3 ⟨rfl, h3T⟩
        obtain ⟨ai, ci, rfl, _, _⟩ := h3T.ids
        clear hT
        go_wp2_with fail
        refine (h3T.quiet1 (Φ := fun e w' => ∃ v', e = .returned v' ∧ PkOwn w3.heap.size w' v' sB.L) (held_PA _ _ _) (held_IA _ _) (fun S hp => (list_any S P _ _ _ hp).mono (fun e w' ⟨v', a, b, c⟩ => ⟨⟨v', a, b⟩, c⟩))).mono ?_
        rintro e w4 ⟨⟨v', rfl, hl4⟩, h4T⟩
        obtain ⟨a4, cap4, hv4, _, _, _⟩ := hl4.shape
        rw [HLB.out, HLEN.out] at hv4
        subst hv4
        clear hl4 h3T
        go_wp2_with fail
        go_loopw [14] (fun i wr => ∃ j : Nat, j ≤ k ∧ i = .int .i64 j ∧ Two (PA P 1 sB) (IA (.slice ai k ci) k) (fun i => w.heap.size ≤ i) w wr) (fun i _ => k - (intOf i).toNat)
        case atStart => exact ⟨0, by omega, rfl, h4T⟩
        case round =>
          clear h4T
          obtain ⟨j, hj, rfl, hT⟩ := hrel
          by_cases hlt2 : j < k
          · have hx := bL_get F (toOf a b F) Bd k j hlt2
            obtain ⟨fr, hfr⟩ : ∃ fr, fr = F j := ⟨_, rfl⟩
            obtain ⟨to, hto⟩ : ∃ to, to = toOf a b F j := ⟨_, rfl⟩
            have hxe : bpk F (toOf a b F) Bd j = ⟨(j : Int) + 1, fr, to, Bd j⟩ := by rw [hfr, hto]; rfl
            rw [hxe] at hx
            have IF : Hid (i64r fr) := Lib.hid (by rw [hfr]; exact HFI.out j (by omega))
            have IT : Hid (i64r to) := Lib.hid (by rw [hto]; unfold toOf; split; · exact HBB.out
                                                   · exact HA.out)
            have HTO := Lib.hid hto
            have HFRR := Lib.hid hfr
            have HX := Lib.hid hx
            clear hx hxe hfr hto
            go_wp2_with fail
            refine (hT.quiet1 (Φ := fun e w' => ∃ v', e = .returned v' ∧ PkOwn 0 w' v' sB.L) (held_PA _ _ _) (held_IA _ _) (fun S hp => (list_any S P _ _ _ hp).mono (fun e w' ⟨v', a, b, c⟩ => ⟨⟨v', a, own_low b⟩, c⟩))).mono ?_
            rintro e w5 ⟨⟨v5, rfl, hl5⟩, h5T⟩
            rw [HLB.out] at hl5
            obtain ⟨a5, cap5, rfl, c1, c2, c3⟩ := hl5.shape
            rw [HLEN.out] at c1 ⊢
            obtain ⟨g, rfl, _, _, hgl, x0, x1, x2, x3⟩ := c3 j _ HX.out
            have H5T := Lib.hid h5T
            unfold maxLen at c2
            clear hl5 c3 hT h5T
            have t1 : (a == b) = false := by simpa using HAB.out
            have t2 : (a != b) = true := by simpa using HAB.out
            have t3 : (b == a) = false := by simpa using (fun h : b = a => HAB.out h.symm)
            have htv : (a = fr ∧ b = to) ∨ ((fr == a) = false ∧ b = fr ∧ a = to) ∨ ((fr == a) = false ∧ (fr == b) = false ∧ a = to) := by
              rw [HTO.out, HFRR.out]
              unfold toOf
              by_cases h : F j = a
              · exact .inl ⟨h.symm, (if_pos h).symm⟩
              · by_cases h2 : F j = b
                · exact .inr (.inl ⟨by simpa using h, h2.symm, (if_neg h).symm⟩)
                · exact .inr (.inr ⟨by simpa using h, by simpa using h2, (if_neg h).symm⟩)
            rcases htv with ⟨rfl, rfl⟩ | ⟨_, rfl, rfl⟩ | ⟨t4, t5, rfl⟩
            · have hq : Hid (sB.bl a b = true) := Lib.hid (by rw [HSB.out]; unfold stuckB; rw [t1]; simp)
              have HSD : Hid (∀ S w', PostSt S w' P 1 sB → Calls Try.prog 14 #[.pointer (some ⟨P, 0, none⟩), .int .i64 a, .int .i64 b, .string ⟨#[110, 111]⟩] w' fun e w'' => e = .returned (.int .i64 0) ∧ Kept S w' w'' ∧ PostSt (Gr S w' w'') w'' P 1 sB) := Lib.hid (fun S w' hp => by
                have h := send_any S P 1 sB a b ⟨#[110, 111]⟩ HA.out HBB.out w' hp (by rw [HlB.out]; have := HK3.out; omega)
                unfold Pst.sendN Pst.send at h
                rw [hq.out, if_pos rfl, if_pos rfl] at h
                exact h)
              go_wp2_with fail
              have h6T := Two.below (held_PA _ _ _) (held_IA _ _) H5T.out ((Below.refl _ _).alloc (Nat.le_refl _) (.cells #[.int .i64 ((j : Int) + 1), .int .i64 a, .int .i64 b, .string (Bd j)] 49))
              have hrow6 : PkRow (w5.alloc (.cells #[.int .i64 ((j : Int) + 1), .int .i64 a, .int .i64 b, .string (Bd j)] 49)) w5.heap.size ⟨(j : Int) + 1, a, b, Bd j⟩ := rowIs_lit w5 [.int .i64 ((j : Int) + 1), .int .i64 a, .int .i64 b, .string (Bd j)] 49 4 _ rfl
              refine (h6T.quiet1 (Φ := fun e w' => e = .returned (.bool (sB.bl a b)) ∧ Below (w5.alloc (.cells #[.int .i64 ((j : Int) + 1), .int .i64 a, .int .i64 b, .string (Bd j)] 49)).heap.size (w5.alloc (.cells #[.int .i64 ((j : Int) + 1), .int .i64 a, .int .i64 b, .string (Bd j)] 49)) w') (held_PA _ _ _) (held_IA _ _) (fun S hp => (blocked_any S P 1 sB a b HA.out HBB.out _ hp).mono (fun e w' ⟨p, q⟩ => ⟨⟨p, q⟩, q⟩))).mono ?_
              rintro e w7 ⟨⟨rfl, hb7⟩, h7T⟩
              rw [hq.out]
              have hrow7 : PkRow w7 w5.heap.size ⟨(j : Int) + 1, a, b, Bd j⟩ := rowIs_below hrow6 hb7 (by simp)
              have r1 : w7.cell? ⟨w5.heap.size, 1, none⟩ = some (.int .i64 a) := hrow7.cell (by omega)
              have r2 : w7.cell? ⟨w5.heap.size, 2, none⟩ = some (.int .i64 b) := hrow7.cell (by omega)
              clear h6T hrow6 hrow7 hb7
              go_wp2_with fail
              refine (h7T.first (A1' := PA P 1 sB) (held_IA _ _) (held_PA _ _ _) (fun S hp => HSD.out S _ hp)).mono ?_
              rintro e w8 ⟨rfl, h8T⟩
              clear h7T r1 r2
              go_wp2_with fail
              go_roundw
              case rel => exact ⟨j + 1, by omega, by go_num, h8T⟩
              case measure => simp [intOf]; omega
            · have hq : Hid (sB.bl b a = true) := Lib.hid (by rw [HSB.out]; unfold stuckB; rw [t1]; simp)
              have HSD : Hid (∀ S w', PostSt S w' P 1 sB → Calls Try.prog 14 #[.pointer (some ⟨P, 0, none⟩), .int .i64 b, .int .i64 a, .string ⟨#[110, 111]⟩] w' fun e w'' => e = .returned (.int .i64 0) ∧ Kept S w' w'' ∧ PostSt (Gr S w' w'') w'' P 1 sB) := Lib.hid (fun S w' hp => by
                have h := send_any S P 1 sB b a ⟨#[110, 111]⟩ HBB.out HA.out w' hp (by rw [HlB.out]; have := HK3.out; omega)
                unfold Pst.sendN Pst.send at h
                rw [hq.out, if_pos rfl, if_pos rfl] at h
                exact h)
              go_wp2_with fail
              have h6T := Two.below (held_PA _ _ _) (held_IA _ _) H5T.out ((Below.refl _ _).alloc (Nat.le_refl _) (.cells #[.int .i64 ((j : Int) + 1), .int .i64 b, .int .i64 a, .string (Bd j)] 49))
              have hrow6 : PkRow (w5.alloc (.cells #[.int .i64 ((j : Int) + 1), .int .i64 b, .int .i64 a, .string (Bd j)] 49)) w5.heap.size ⟨(j : Int) + 1, b, a, Bd j⟩ := rowIs_lit w5 [.int .i64 ((j : Int) + 1), .int .i64 b, .int .i64 a, .string (Bd j)] 49 4 _ rfl
              refine (h6T.quiet1 (Φ := fun e w' => e = .returned (.bool (sB.bl b a)) ∧ Below (w5.alloc (.cells #[.int .i64 ((j : Int) + 1), .int .i64 b, .int .i64 a, .string (Bd j)] 49)).heap.size (w5.alloc (.cells #[.int .i64 ((j : Int) + 1), .int .i64 b, .int .i64 a, .string (Bd j)] 49)) w') (held_PA _ _ _) (held_IA _ _) (fun S hp => (blocked_any S P 1 sB b a HBB.out HA.out _ hp).mono (fun e w' ⟨p, q⟩ => ⟨⟨p, q⟩, q⟩))).mono ?_
              rintro e w7 ⟨⟨rfl, hb7⟩, h7T⟩
              rw [hq.out]
              have hrow7 : PkRow w7 w5.heap.size ⟨(j : Int) + 1, b, a, Bd j⟩ := rowIs_below hrow6 hb7 (by simp)
              have r1 : w7.cell? ⟨w5.heap.size, 1, none⟩ = some (.int .i64 b) := hrow7.cell (by omega)
              have r2 : w7.cell? ⟨w5.heap.size, 2, none⟩ = some (.int .i64 a) := hrow7.cell (by omega)
              clear h6T hrow6 hrow7 hb7
              go_wp2_with fail
              refine (h7T.first (A1' := PA P 1 sB) (held_IA _ _) (held_PA _ _ _) (fun S hp => HSD.out S _ hp)).mono ?_
              rintro e w8 ⟨rfl, h8T⟩
              clear h7T r1 r2
              go_wp2_with fail
              go_roundw
              case rel => exact ⟨j + 1, by omega, by go_num, h8T⟩
              case measure => simp [intOf]; omega
            · have hq : Hid (sB.bl fr a = false) := Lib.hid (by rw [HSB.out]; unfold stuckB; rw [t1, t4, t5]; simp)
              go_wp2_with fail
              have h6T := Two.below (held_PA _ _ _) (held_IA _ _) H5T.out ((Below.refl _ _).alloc (Nat.le_refl _) (.cells #[.int .i64 ((j : Int) + 1), .int .i64 fr, .int .i64 a, .string (Bd j)] 49))
              refine (h6T.quiet1 (held_PA _ _ _) (held_IA _ _) (fun S hp => blocked_any S P 1 sB fr a IF.out HA.out _ hp)).mono ?_
              rintro e w7 ⟨rfl, h7T⟩
              rw [hq.out]
              clear h6T
              go_wp2_with fail
              go_roundw
              case rel => exact ⟨j + 1, by omega, by go_num, h7T⟩
              case measure => simp [intOf]; omega
          · obtain rfl : j = k := by omega
            have t1 : (a == b) = false := by simpa using HAB.out
            have t2 : (a != b) = true := by simpa using HAB.out
            have hq1 : Hid (sB.bl a b = true) := Lib.hid (by rw [HSB.out]; unfold stuckB; rw [t1]; simp)
            have hq2 : Hid (sB.bl b a = true) := Lib.hid (by rw [HSB.out]; unfold stuckB; rw [t1]; simp)
            have hq3 : Hid (sB.bl a a = false) := Lib.hid (by rw [HSB.out]; unfold stuckB; rw [t1]; simp)
            go_wp2_with fail
            refine (hT.quiet1 (held_PA _ _ _) (held_IA _ _) (fun S hp => blocked_any S P 1 sB a b HA.out HBB.out _ hp)).mono ?_
            rintro e w5 ⟨rfl, h5T⟩
            rw [hq1.out]
            clear hT
            go_wp2_with fail
            refine (h5T.quiet1 (held_PA _ _ _) (held_IA _ _) (fun S hp => blocked_any S P 1 sB b a HBB.out HA.out _ hp)).mono ?_
            rintro e w6 ⟨rfl, h6T⟩
            rw [hq2.out]
            clear h5T
            go_wp2_with fail
            refine (h6T.quiet1 (held_PA _ _ _) (held_IA _ _) (fun S hp => blocked_any S P 1 sB a a HA.out HA.out _ hp)).mono ?_
            rintro e w5 ⟨rfl, h5T⟩
            rw [hq3.out]
            clear h6T t1 t2
            go_wp2_with fail
            refine (h5T.first (A1' := PA P 1 sF) (held_IA _ _) (held_PA _ _ _) (fun S hp => by have h := free_any S P 1 sB b a HBB.out HA.out _ hp (by omega); rw [HFRE.out] at h; exact h)).mono ?_
            rintro e w6 ⟨rfl, h6T⟩
            clear h5T
            go_wp2_with fail
            have h6T0 : Two (PA P 1 (leftS sF 0)) (IA (.slice ai j ci) j) (fun i => w.heap.size ≤ i) w w6 := by rw [leftS_zero]; exact h6T
            clear h6T
            obtain ⟨N, hN⟩ : ∃ N, N = j := ⟨_, rfl⟩
            go_loopw [17] (fun i wr => ∃ m : Nat, m ≤ j ∧ i = .int .i64 m ∧ Two (PA P 1 (leftS sF m)) (IA (.slice ai j ci) j) (fun i => w.heap.size ≤ i) w wr) (fun i _ => j - (intOf i).toNat)
            case atStart => exact ⟨0, by omega, rfl, h6T0⟩
            case round =>
              clear h6T0
              obtain ⟨m, hm, rfl, hT⟩ := hrel
              by_cases hlt3 : m < j
              · obtain ⟨b1, o1, rfl, hl1, d1⟩ := HF.out m (by omega)
                obtain ⟨b2, o2, rfl, hl2, d2⟩ := HB.out m (by omega)
                have d1 : w.cell? ⟨b1, o1 + m, none⟩ = some (.int .i64 (F m)) := d1
                have d2 : w.cell? ⟨b2, o2 + m, none⟩ = some (.string (Bd m)) := d2
                have hTK := leftS_take F (toOf a b F) Bd sF j HLF.out HSF.out m hlt3
                obtain ⟨fr, hfr⟩ : ∃ fr, fr = F m := ⟨_, rfl⟩
                obtain ⟨to, hto⟩ : ∃ to, to = toOf a b F m := ⟨_, rfl⟩
                obtain ⟨bd, hbd⟩ : ∃ bd, bd = Bd m := ⟨_, rfl⟩
                have hxe : bpk F (toOf a b F) Bd m = ⟨(m : Int) + 1, fr, to, bd⟩ := by rw [hfr, hto, hbd]; rfl
                rw [hxe] at hTK
                rw [← hfr] at d1
                rw [← hbd] at d2
                have HTK := Lib.hid hTK
                have D1 := Lib.hid d1
                have D2 := Lib.hid d2
                obtain ⟨ai', ci', hids, _, hic⟩ := hT.ids
                obtain ⟨e1, e2⟩ : ai = ai' ∧ ci = ci' := by injection hids with h1 h2 h3; exact ⟨h1, h3⟩
                obtain ⟨gi, hgi, hci⟩ := hic m hlt3
                rw [← e1] at hgi
                subst hgi
                have hm0 : (0 : Int) ≤ (m : Int) := by omega
                have hm1 : (m : Int) < (n1 : Int) := by omega
                have hm2 : (m : Int) < (n2 : Int) := by omega
                clear hTK hxe hfr hto hbd d1 d2 hic hids e1 e2
                go_wp2_with fail
                refine (hT.first (A1' := PA P 1 (leftS sF (m + 1))) (held_IA _ _) (held_PA _ _ _) (fun S hp => by have h := take_any S P 1 (leftS sF m) ((m : Int) + 1) _ hp; rw [HTK.out.1, HTK.out.2.1, HTK.out.2.2] at h; exact h)).mono ?_
                rintro e w7 ⟨rfl, h7T⟩
                unfold pka
                clear hT hci
                go_wp2_with fail
                obtain ⟨W, hW⟩ : ∃ W, W = w7.alloc (.cells #[.int .i64 ((m : Int) + 1), .int .i64 fr, .int .i64 to, .string bd] 49) := ⟨_, rfl⟩
                have hTW : Two (PA P 1 (leftS sF (m + 1))) (IA (.slice (some ⟨gi, 0, none⟩) j ci) j) (fun i => w.heap.size ≤ i) w W := by rw [hW]; exact Two.below (held_PA _ _ _) (held_IA _ _) h7T ((Below.refl _ _).alloc (Nat.le_refl _) _)
                have hrow : PkRow W w7.heap.size ⟨(m : Int) + 1, fr, to, bd⟩ := by rw [hW]; exact rowIs_lit w7 [.int .i64 ((m : Int) + 1), .int .i64 fr, .int .i64 to, .string bd] 49 4 _ rfl
                obtain ⟨X, hX⟩ : ∃ X, X = w7.heap.size := ⟨_, rfl⟩
                rw [← hW, ← hX]
                rw [← hX] at hrow
                have hbl := hTW.kept.below (fun i h => h) (Nat.le_refl w.heap.size)
                have r1 : W.cell? ⟨X, 1, none⟩ = some (.int .i64 fr) := hrow.cell (by omega)
                have r3 : W.cell? ⟨X, 3, none⟩ = some (.string bd) := hrow.cell (by omega)
                have q1 : W.cell? ⟨b1, o1 + m, none⟩ = some (.int .i64 fr) := (hbl.cell (p := ⟨b1, o1 + m, none⟩) hl1).trans D1.out
                have q2 : W.cell? ⟨b2, o2 + m, none⟩ = some (.string bd) := (hbl.cell (p := ⟨b2, o2 + m, none⟩) hl2).trans D2.out
                clear hW hX hrow hbl h7T
                go_quiet (fail)
                clear r1 r3 q1 q2
                have H8 := Lib.hid (Two.below (held_PA _ _ _) (held_IA _ _) hTW (below_drewN (Below.refl _ _) nq))
                clear hTW
                go_wp2_with fail
                go_roundw
                case rel => exact ⟨m + 1, by omega, by go_num, H8.out⟩
                case measure => simp [intOf]; omega
              · obtain rfl : m = j := by omega
                have hnil : (leftS sF m).L = [] := by show sF.L.drop m = []; rw [HLF.out]; exact List.drop_of_length_le (by rw [HLEN.out]; exact Nat.le_refl _)
                have hfst : (leftS sF m).first = 0 := by unfold Pst.first fstI; rw [hnil]; rfl
                have HNIL := Lib.hid hnil
                have HFST := Lib.hid hfst
                clear hnil hfst
                obtain ⟨X0, hX0⟩ : ∃ X0, X0 = pk0 := ⟨_, rfl⟩
                have HX0 := Lib.hid hX0
                clear hX0
                go_wp2_with fail
                refine (block_nil a b _).mono ?_
                rintro e w7 ⟨rfl, rfl⟩
                go_wp2_with fail
                refine (free_nil a b _).mono ?_
                rintro e w7 ⟨rfl, rfl⟩
                go_wp2_with fail
                refine (take_nil 1 _).mono ?_
                rintro e w7 ⟨rfl, hb7⟩
                rw [← HX0.out]
                have h7T := Two.below (held_PA _ _ _) (held_IA _ _) (Two.below (held_PA _ _ _) (held_IA _ _) hT hb7) ((Below.refl _ _).alloc (Nat.le_refl _) (.cells #[.int .i64 X0.id, .int .i64 X0.fr, .int .i64 X0.to, .string X0.body] 49))
                clear hb7 hT
                unfold pka
                go_wp2_with fail
                refine (h7T.quiet1 (Φ := fun e w' => ∃ v', e = .returned v' ∧ PkOwn 0 w' v' (leftS sF m).L) (held_PA _ _ _) (held_IA _ _) (fun S hp => (list_any S P _ _ _ hp).mono (fun e w' ⟨v', a, b, c⟩ => ⟨⟨v', a, own_low b⟩, c⟩))).mono ?_
                rintro e w8 ⟨⟨v8, rfl, hl8⟩, h8T⟩
                rw [HNIL.out] at hl8
                obtain ⟨a8, cap8, rfl, _, _, _⟩ := hl8.shape
                clear hl8 h7T
                go_wp2_with fail
                refine (h8T.quiet1 (held_PA _ _ _) (held_IA _ _) (fun S hp => first_any S P _ _ _ hp)).mono ?_
                rintro e w9 ⟨rfl, h9T⟩
                rw [HFST.out]
                clear h8T
                go_wp2_with fail
                refine (send_nil a b _ _).mono ?_
                rintro e w10 ⟨rfl, rfl⟩
                go_wp2_with fail
                refine (drop_nil 1 _).mono ?_
                rintro e w11 ⟨rfl, hb11⟩
                have h11T := Two.below (held_PA _ _ _) (held_IA _ _) h9T hb11
                clear h9T hb11
                go_wp2_with fail
                refine (double_nil 1 _).mono ?_
                rintro e w12 ⟨rfl, hb12⟩
                have h12T := Two.below (held_PA _ _ _) (held_IA _ _) h11T hb12
                clear h11T hb12
                go_wp2_with fail
                refine (blocked_nil a b _).mono ?_
                rintro e w13 ⟨rfl, hb13⟩
                have h13T := Two.below (held_PA _ _ _) (held_IA _ _) h12T hb13
                clear h12T hb13
                go_wp2_with fail
                refine (list_nil _).mono ?_
                rintro e w14 ⟨rfl, rfl⟩
                go_wp2_with fail
                refine (first_nil _).mono ?_
                rintro e w14 ⟨rfl, rfl⟩
                go_wp2_with fail
                go_ret
                exact ⟨rfl, Two.from_below h13T (Nat.le_refl _)⟩
/-- veneerlaw21.PostBlocks(a, b, froms, bodies). -/
theorem blocks_walk (a b : Int) (ha : i64r a) (hb : i64r b) (A1 A2 : Option Addr) (n1 c1 n2 c2 : Nat) (F : Nat → Int) (Bd : Nat → ByteArray) (hn1 : n1 ≤ 9223372036854775807) (hn2 : n2 ≤ 9223372036854775807) (w : World)
    (hF : InsAt w A1 n1 (fun i => .int .i64 (F i))) (hFi : ∀ i, i < n1 → i64r (F i)) (hB : InsAt w A2 n2 (fun i => .string (Bd i))) :
    Calls Try.prog 5 #[.int .i64 a, .int .i64 b, .slice A1 n1 c1, .slice A2 n2 c2] w fun e w' => e = .returned (.bool true) ∧ Below w.heap.size w w' := by
  by_cases h : a = b
  · exact blocks_same a b h ha hb A1 A2 n1 c1 n2 c2 F Bd hn1 hn2 w hF hFi hB
  · exact blocks_other a b h ha hb A1 A2 n1 c1 n2 c2 F Bd hn1 hn2 w hF hFi hB
end Go.Proofs.Ytocpneliofjabaa
