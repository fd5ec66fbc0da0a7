/-
  THE REFERENCE: Drop, Take.
-/
import Derived.Test.YtocpneliofjabaaR4
import Derived.IntWalk
namespace Go.Proofs.Ytocpneliofjabaa
open Go.RowKit
set_option maxRecDepth 100000

set_option maxHeartbeats 4000000 in
/-- r.Drop(id), there is one, and more of the row behind it. -/
theorem rdrop_more (S : Nat → Prop) (R : Nat) (r : Rst) (id : Int) (w : World) (hp : RefSt S w R r) (i m : Nat) (hfd : fndI id r.L = i) (hm : r.L.length = i + 1 + m)
    (g cap : Nat) (u : Value) (hrow : w.rowIs R 32 4 (r4 (.int .i64 r.most) (.int .i64 r.ever) (.slice (some ⟨g, 0, none⟩) r.L.length cap) u)) (ho : PkOwn 0 w (.slice (some ⟨g, 0, none⟩) r.L.length cap) r.L)
    (hmu : PrOwn 0 w u r.M) (h4 : S R) (h6 : ∀ g, u.ownBlock = some g → S g ∧ g ≠ R) (hLb : r.L.length ≤ 256) (hcap : i + 1 < cap) (hM : r.M.length ≤ 1000000) :
    Calls Try.prog 23 #[.pointer (some ⟨R, 0, none⟩), .int .i64 id] w fun e w' => e = .returned (.bool true) ∧ Kept S w w' ∧ RefSt (Gr S w w') w' R (r.cut i) := by
  have HFI := Lib.hid (Rst.cut_fine hp.fine (i := i) (by omega))
  have hf := rfind_any S R r id w hp
  rw [hfd] at hf
  have H7 := Lib.hid hp.lt
  have HRW := Lib.hid (hp.lt R h4)
  have hRW := hp.lt R h4
  have HM := Lib.hid hm
  have HROW := Lib.hid hrow
  have HO := Lib.hid ho
  have HMU := Lib.hid hmu
  have H6 := Lib.hid h6
  have d2 : w.cell? ⟨R, 2, none⟩ = some (.slice (some ⟨g, 0, none⟩) (i + 1 + m) cap) := by
    have h := hrow.cell (i := 2) (by omega)
    rw [hm] at h
    exact h
  have D2 := Lib.hid d2
  have HR2 := Lib.hid (hrow.frozen 2)
  rw [hm] at hLb
  have hi0 : (0 : Int) ≤ (i : Int) := by omega
  have hi1 : (i : Int) ≤ (cap : Int) := by omega
  have hi2 : (0 : Int) ≤ (i : Int) + 1 := by omega
  have hi3 : (i : Int) + 1 ≤ (i : Int) + 1 + (m : Int) := by omega
  have hne : ¬ cap = i + 1 := by omega
  have hic : i ≤ cap := by omega
  have hfit : ([] : List Pk).length + (r.L.take i).length ≤ 3000000 := by simp; omega
  have hfit2 : ([] ++ r.L.take i).length + (r.L.drop (i + 1)).length ≤ 3000000 := by simp; omega
  have HIL := Lib.hid (show i ≤ r.L.length by omega)
  have HF1 := Lib.hid hfit
  have HF2 := Lib.hid hfit2
  clear hp hfd hm hrow ho hmu h6 hfit hfit2
  go_enter Try.func23, Try.ntmps23
  go_wp2_with fail
  refine hf.mono ?_
  rintro e w1 ⟨rfl, rfl⟩
  clear hf
  go_wp2_with fail
  have hwr : IntKind.i64.wrap ((i : Int) + 1) = (i : Int) + 1 := IntWalk.i64_in _ (by omega)
  have htn : ((i : Int) + 1).toNat = i + 1 := by omega
  go_region_law ((first
      | (refine step_append_pk rfl (.tmp 12) (.tmp 18) (by rfl) w.heap.size _ [] (by rfl) (own_empty (by first | exact Nat.le_refl _ | exact Nat.le_succ _) (by exact Go.Deep.blk_alloc_new w _)) _ (r.L.take i) (by rfl) (src_take (pk_below HO.out (by exact ((Below.refl _ w).alloc (Nat.le_refl _) _).drew)) HIL.out _) HF1.out (by simp) ?_
         intro v3 w3 hown3 hgr3 hat3
         have hB3 : Below w.heap.size w w3 := (((Below.refl _ w).alloc (Nat.le_refl _) _).drew).trans (below_of_grown hgr3 (Nat.le_refl _) (by simp))
         have x2 : w3.cell? ⟨R, 2, none⟩ = some (.slice (some ⟨g, 0, none⟩) (i + 1 + m) cap) := (hB3.cell (p := ⟨R, 2, none⟩) hRW).trans D2.out)
      | (refine step_append_pk rfl (.tmp 19) (.tmp 26) (by rfl) w.heap.size v3 ([] ++ r.L.take i) (by rfl) hown3 _ (r.L.drop (i + 1)) (by rfl) (src_drop (pk_below HO.out hB3) HM.out _) HF2.out hB3.size ?_
         intro v4 w4 hown4 hgr4 hat4
         have hB4 : Below w.heap.size w w4 := hB3.grown hgr4 hB3.size (fun k hk => (hown3.lt k hk).1)
         have e4 : w4.cell? ⟨R, 2, none⟩ = some (.slice (some ⟨g, 0, none⟩) (i + 1 + m) cap) := (hB4.cell (p := ⟨R, 2, none⟩) hRW).trans D2.out
         have f4 : w4.frozen? ⟨R, 2, none⟩ = false := (hB4.frozen (p := ⟨R, 2, none⟩) hRW).trans HR2.out
         have hown5 : PkOwn w.heap.size w4 v4 (r.cut i).L := hown4
         have HF4 := Lib.hid (ref_stored (r := r.cut i) HROW.out (Kept.refl S w) (Nat.le_refl _) hB4 hown5 HMU.out h4 H6.out H7.out HFI.out hM)
         obtain ⟨a4, cap4, rfl, _, _, _⟩ := hown5.shape
         obtain ⟨q, hq⟩ : ∃ q, q = (r.cut i).L.length := ⟨_, rfl⟩
         rw [← hq] at HF4 ⊢
         clear hown4 hown5 hgr4 hat4 hq)))
  all_goals
    clear hwr htn
    go_wp2_with fail
    go_ret
    exact ⟨rfl, HF4.out⟩
set_option maxHeartbeats 4000000 in
/-- r.Drop(id), there is one, the row's end is its end. -/
theorem rdrop_last (S : Nat → Prop) (R : Nat) (r : Rst) (id : Int) (w : World) (hp : RefSt S w R r) (i : Nat) (hfd : fndI id r.L = i) (hm : r.L.length = i + 1)
    (g : Nat) (u : Value) (hrow : w.rowIs R 32 4 (r4 (.int .i64 r.most) (.int .i64 r.ever) (.slice (some ⟨g, 0, none⟩) r.L.length (i + 1)) u)) (ho : PkOwn 0 w (.slice (some ⟨g, 0, none⟩) r.L.length (i + 1)) r.L)
    (hmu : PrOwn 0 w u r.M) (h4 : S R) (h6 : ∀ g, u.ownBlock = some g → S g ∧ g ≠ R) (hLb : r.L.length ≤ 256) (hM : r.M.length ≤ 1000000) :
    Calls Try.prog 23 #[.pointer (some ⟨R, 0, none⟩), .int .i64 id] w fun e w' => e = .returned (.bool true) ∧ Kept S w w' ∧ RefSt (Gr S w w') w' R (r.cut i) := by
  have HFI := Lib.hid (Rst.cut_fine hp.fine (i := i) (by omega))
  have hf := rfind_any S R r id w hp
  rw [hfd] at hf
  have H7 := Lib.hid hp.lt
  have HRW := Lib.hid (hp.lt R h4)
  have hRW := hp.lt R h4
  have HM := Lib.hid hm
  have HROW := Lib.hid hrow
  have HO := Lib.hid ho
  have HMU := Lib.hid hmu
  have H6 := Lib.hid h6
  have d2 : w.cell? ⟨R, 2, none⟩ = some (.slice (some ⟨g, 0, none⟩) (i + 1) (i + 1)) := by
    have h := hrow.cell (i := 2) (by omega)
    rw [hm] at h
    exact h
  have D2 := Lib.hid d2
  have HR2 := Lib.hid (hrow.frozen 2)
  rw [hm] at hLb
  have hi0 : (0 : Int) ≤ (i : Int) := by omega
  have hi1 : (i : Int) ≤ (i : Int) + 1 := by omega
  have hi2 : (0 : Int) ≤ (i : Int) + 1 := by omega
  have hfit : ([] : List Pk).length + (r.L.take i).length ≤ 3000000 := by simp; omega
  have hfit2 : ([] ++ r.L.take i).length + (r.L.drop (i + 1)).length ≤ 3000000 := by simp; omega
  have HIL := Lib.hid (show i ≤ r.L.length by omega)
  have HF1 := Lib.hid hfit
  have HF2 := Lib.hid hfit2
  clear hp hfd hm hrow ho hmu h6 hfit hfit2
  go_enter Try.func23, Try.ntmps23
  go_wp2_with fail
  refine hf.mono ?_
  rintro e w1 ⟨rfl, rfl⟩
  clear hf
  go_wp2_with fail
  have hwr : IntKind.i64.wrap ((i : Int) + 1) = (i : Int) + 1 := IntWalk.i64_in _ (by omega)
  have htn : ((i : Int) + 1).toNat = i + 1 := by omega
  go_region_law ((first
      | (refine step_append_pk rfl (.tmp 12) (.tmp 18) (by rfl) w.heap.size _ [] (by rfl) (own_empty (by first | exact Nat.le_refl _ | exact Nat.le_succ _) (by exact Go.Deep.blk_alloc_new w _)) _ (r.L.take i) (by rfl) (src_take (pk_below HO.out (by exact ((Below.refl _ w).alloc (Nat.le_refl _) _).drew)) HIL.out _) HF1.out (by simp) ?_
         intro v3 w3 hown3 hgr3 hat3
         have hB3 : Below w.heap.size w w3 := (((Below.refl _ w).alloc (Nat.le_refl _) _).drew).trans (below_of_grown hgr3 (Nat.le_refl _) (by simp))
         have x2 : w3.cell? ⟨R, 2, none⟩ = some (.slice (some ⟨g, 0, none⟩) (i + 1) (i + 1)) := (hB3.cell (p := ⟨R, 2, none⟩) hRW).trans D2.out)
      | (refine step_append_pk rfl (.tmp 19) (.tmp 26) (by rfl) w.heap.size v3 ([] ++ r.L.take i) (by rfl) hown3 _ (r.L.drop (i + 1)) (by rfl) (src_drop0 HM.out _ _) HF2.out hB3.size ?_
         intro v4 w4 hown4 hgr4 hat4
         have hB4 : Below w.heap.size w w4 := hB3.grown hgr4 hB3.size (fun k hk => (hown3.lt k hk).1)
         have e4 : w4.cell? ⟨R, 2, none⟩ = some (.slice (some ⟨g, 0, none⟩) (i + 1) (i + 1)) := (hB4.cell (p := ⟨R, 2, none⟩) hRW).trans D2.out
         have f4 : w4.frozen? ⟨R, 2, none⟩ = false := (hB4.frozen (p := ⟨R, 2, none⟩) hRW).trans HR2.out
         have hown5 : PkOwn w.heap.size w4 v4 (r.cut i).L := hown4
         have HF4 := Lib.hid (ref_stored (r := r.cut i) HROW.out (Kept.refl S w) (Nat.le_refl _) hB4 hown5 HMU.out h4 H6.out H7.out HFI.out hM)
         obtain ⟨a4, cap4, rfl, _, _, _⟩ := hown5.shape
         obtain ⟨q, hq⟩ : ∃ q, q = (r.cut i).L.length := ⟨_, rfl⟩
         rw [← hq] at HF4 ⊢
         clear hown4 hown5 hgr4 hat4 hq)))
  all_goals
    clear hwr htn
    go_wp2_with fail
    go_ret
    exact ⟨rfl, HF4.out⟩
theorem rdrop_any (S : Nat → Prop) (R : Nat) (r : Rst) (id : Int) (w : World) (hp : RefSt S w R r) :
    Calls Try.prog 23 #[.pointer (some ⟨R, 0, none⟩), .int .i64 id] w fun e w' => e = .returned (.bool (r.dropN id)) ∧ Kept S w w' ∧ RefSt (Gr S w w') w' R (r.drop id) := by
  unfold Rst.drop Rst.dropN
  rcases fndI_cases id r.L with ⟨h1, h2⟩ | ⟨i, x, h1, hx, h2⟩
  · have hf := rfind_any S R r id w hp
    rw [h1] at hf ⊢
    have HP := Lib.hid hp
    clear hp h1 h2
    go_enter Try.func23, Try.ntmps23
    go_wp2_with fail
    refine hf.mono ?_
    rintro e w1 ⟨rfl, rfl⟩
    go_wp2_with fail
    go_ret
    exact ⟨rfl, Kept.gr_ref HP.out (Below.refl _ _)⟩
  · have hi : i < r.L.length := (List.getElem?_eq_some_iff.1 hx).1
    obtain ⟨v, u, g1, g2, g3, g4, g5, g6, g7, g8, g9⟩ := _root_.id hp
    obtain ⟨a, cap, rfl, hc1, hc2, hc3⟩ := g2.shape
    obtain ⟨g, rfl, _⟩ := hc3 i x hx
    have hLb : r.L.length ≤ 256 := by have := g8.room; have := g8.m2; simp only [Rst.st] at *; omega
    unfold maxLen at hc2
    rw [h1, if_neg (by omega), Int.toNat_natCast, show decide (0 ≤ (i : Int)) = true by simp]
    by_cases hcap : cap = i + 1
    · subst hcap
      exact rdrop_last S R r id w hp i h1 (by omega) g u g1 g2 g3 g4 g6 hLb g9
    · exact rdrop_more S R r id w hp i (r.L.length - (i + 1)) h1 (by omega) g cap u g1 g2 g3 g4 g6 hLb (by omega) g9
end Go.Proofs.Ytocpneliofjabaa
