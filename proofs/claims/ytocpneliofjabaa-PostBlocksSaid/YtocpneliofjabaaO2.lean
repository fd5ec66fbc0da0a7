/-
  A NUMBER WAS GIVEN (veneerlaw21.way.began).
-/
import Derived.Test.YtocpneliofjabaaO1
namespace Go.Proofs.Ytocpneliofjabaa
open Go.RowKit
set_option maxRecDepth 100000

set_option maxHeartbeats 4000000 in
/-- w.began(0, x). -/
theorem began_zero (S : Nat → Prop) (B : Nat) (L : List Pk) (last : Int) (x : Pk) (w : World) (hp : WaySt S w B L last) :
    Calls Try.prog 30 #[.pointer (some ⟨B, 0, none⟩), .int .i64 0, pka x] w fun e w' => e = .returned (.bool true) ∧ Kept S w w' ∧ WaySt (Gr S w w') w' B L last := by
  have HP := Lib.hid hp
  clear hp
  unfold pka
  go_enter Try.func30, Try.ntmps30
  go_wp2_with fail
  go_ret
  exact ⟨rfl, HP.out.gr ((Below.refl _ _).alloc (Nat.le_refl _) _)⟩
set_option maxHeartbeats 4000000 in
/-- w.began(n, x), the next number. -/
theorem began_next (S : Nat → Prop) (B : Nat) (L : List Pk) (last : Int) (x : Pk) (w : World) (hp : WaySt S w B L last) (hl0 : 0 ≤ last) (hl : last < 1000000) (hM : L.length < 256) :
    Calls Try.prog 30 #[.pointer (some ⟨B, 0, none⟩), .int .i64 (last + 1), pka x] w fun e w' => e = .returned (.bool true) ∧ Kept S w w' ∧ WaySt (Gr S w w') w' B (L ++ [⟨last + 1, x.fr, x.to, x.body⟩]) (last + 1) := by
  obtain ⟨v, h1, h2, h4, h5, h7, h8⟩ := hp
  have hB := h7 B h4
  have hz : ((last + 1 : Int) == 0) = false := by simp; omega
  have H7 := Lib.hid h7
  have HV := Lib.hid h2
  have H1 := Lib.hid h1
  have hvl : ∀ g, v.ownBlock = some g → g < w.heap.size := fun g hg => h7 g (h5 g hg).1
  have HVL := Lib.hid hvl
  have HLEN : Hid ((L ++ [(⟨last + 1, x.fr, x.to, x.body⟩ : Pk)]).length ≤ 256) := Lib.hid (by simp; omega)
  clear h1 h2 h5 h7 hvl
  unfold pka
  go_enter Try.func30, Try.ntmps30
  go_wp2_with fail
  obtain ⟨W, hW⟩ : ∃ W, W = w.alloc (.cells #[.int .i64 (last + 1), .int .i64 x.fr, .int .i64 x.to, .string x.body] 49) := ⟨_, rfl⟩
  rw [← hW]
  have hrow : W.rowIs B 42 2 (r2 v (.int .i64 last)) := by rw [hW]; exact World.rowIs.alloc H1.out _
  have hbox : W.rowIs w.heap.size 49 4 (r4 (.int .i64 (last + 1)) (.int .i64 x.fr) (.int .i64 x.to) (.string x.body)) := by
    rw [hW]
    exact rowIs_lit w [.int .i64 (last + 1), .int .i64 x.fr, .int .i64 x.to, .string x.body] 49 4 _ rfl
  have hkept : Kept S w W := by rw [hW]; exact (Kept.refl S w).alloc _
  have hsz : W.heap.size = w.heap.size + 1 := by rw [hW]; simp
  have ho : PkOwn 0 W v L := HV.out.keep (fun k hk => by rw [hW]; exact Go.Deep.blk_alloc_lt w _ k (HVL.out k hk))
  clear hW
  have hRW : B < W.heap.size := by omega
  have d2 : W.cell? ⟨B, 0, none⟩ = some v := hrow.cell (by omega)
  have b0 : W.cell? ⟨w.heap.size, 0, none⟩ = some (.int .i64 (last + 1)) := hbox.cell (by omega)
  have b1 : W.cell? ⟨w.heap.size, 1, none⟩ = some (.int .i64 x.fr) := hbox.cell (by omega)
  have b2 : W.cell? ⟨w.heap.size, 2, none⟩ = some (.int .i64 x.to) := hbox.cell (by omega)
  have b3 : W.cell? ⟨w.heap.size, 3, none⟩ = some (.string x.body) := hbox.cell (by omega)
  have l1 : W.cell? ⟨B, 1, none⟩ = some (.int .i64 last) := hrow.cell (by omega)
  have HROW := Lib.hid hrow
  have HBOX := Lib.hid hbox
  have HO := Lib.hid ho
  have HK := Lib.hid hkept
  have hWw : w.heap.size < W.heap.size := by omega
  have hWl : w.heap.size ≤ W.heap.size := by omega
  have HR2 := Lib.hid (HROW.out.frozen 0)
  have HR3 := Lib.hid (HROW.out.frozen 1)
  have D2 := Lib.hid d2
  have L1 := Lib.hid l1
  have hfit : ([] : List Pk).length + L.length ≤ 3000000 := by simp; omega
  have hfit2 : ([] ++ L).length + [(⟨last + 1, x.fr, x.to, x.body⟩ : Pk)].length ≤ 3000000 := by simp; omega
  clear hrow hbox ho hkept hsz l1
  go_region_law ((first
      | (refine step_append_pk rfl (.tmp 12) (.tmp 16) (by rfl) W.heap.size _ [] (by rfl) (own_empty (by first | exact Nat.le_refl _ | exact Nat.le_succ _) (by first | exact Go.Deep.blk_alloc_new W _ | exact (Go.Deep.blk_alloc_lt (W.alloc _) _ _ (by simp)).trans (Go.Deep.blk_alloc_new W _) | exact blk_new2 W _ _)) v L (by rfl) (Src.of_own (pk_below HO.out (by first | exact ((Below.refl _ W).alloc (Nat.le_refl _) _).drew | exact (((Below.refl _ W).alloc (Nat.le_refl _) _).alloc (by simp) _).drew))) hfit (by first | (simp; done) | (simp; omega)) ?_
         intro v3 w3 hown3 hgr3 hat3
         have hB3 : Below W.heap.size W w3 := by
           first
             | exact (((Below.refl _ W).alloc (Nat.le_refl _) _).drew).trans (below_of_grown hgr3 (by first | exact Nat.le_refl _ | exact Nat.le_succ _) (by first | (simp; done) | (simp; omega)))
             | exact ((((Below.refl _ W).alloc (Nat.le_refl _) _).alloc (by simp) _).drew).trans (below_of_grown hgr3 (by first | exact Nat.le_refl _ | exact Nat.le_succ _) (by first | (simp; done) | (simp; omega)))
         have x2 : w3.cell? ⟨B, 0, none⟩ = some v := (hB3.cell (p := ⟨B, 0, none⟩) hRW).trans d2
         have y0 : w3.cell? ⟨w.heap.size, 0, none⟩ = some (.int .i64 (last + 1)) := (hB3.cell (p := ⟨w.heap.size, 0, none⟩) hWw).trans b0
         have y1 : w3.cell? ⟨w.heap.size, 1, none⟩ = some (.int .i64 x.fr) := (hB3.cell (p := ⟨w.heap.size, 1, none⟩) hWw).trans b1
         have y2 : w3.cell? ⟨w.heap.size, 2, none⟩ = some (.int .i64 x.to) := (hB3.cell (p := ⟨w.heap.size, 2, none⟩) hWw).trans b2
         have y3 : w3.cell? ⟨w.heap.size, 3, none⟩ = some (.string x.body) := (hB3.cell (p := ⟨w.heap.size, 3, none⟩) hWw).trans b3)
      | (refine step_append_pk rfl (.tmp 17) (.tmp 19) (by rfl) W.heap.size v3 ([] ++ L) (by rfl) (by first | exact hown3 | exact hown3.keep (fun k hk => Go.Deep.blk_alloc_lt _ _ _ (hown3.lt k hk).2)) _ [⟨last + 1, x.fr, x.to, x.body⟩] (by rfl) (by first | exact Src.of_block (Go.Deep.blk_alloc_new w3 _) rfl | exact Src.of_block ((hgr3.block _ (by simp) (by simp [Value.ownBlock])).trans (blk_new2 W _ _)) rfl | exact Src.of_block ((hgr3.block _ (by first | (simp; done) | (simp; omega)) (by simp [Value.ownBlock])).trans ((Go.Deep.blk_alloc_lt (W.alloc _) _ _ (by simp)).trans (Go.Deep.blk_alloc_new W _))) rfl) hfit2 (by first | exact hB3.size | exact (hB3.alloc hB3.size _).size) ?_
         intro v4 w4 hown4 hgr4 hat4
         have hB4 : Below W.heap.size W w4 := by
           first
             | exact hB3.grown hgr4 hB3.size (fun k hk => (hown3.lt k hk).1)
             | exact (hB3.alloc hB3.size _).grown hgr4 (hB3.alloc hB3.size _).size (fun k hk => (hown3.lt k hk).1)
         have e4 : w4.cell? ⟨B, 0, none⟩ = some v := (hB4.cell (p := ⟨B, 0, none⟩) hRW).trans D2.out
         have g4 : w4.cell? ⟨B, 1, none⟩ = some (.int .i64 last) := (hB4.cell (p := ⟨B, 1, none⟩) hRW).trans L1.out
         have f4 : w4.frozen? ⟨B, 0, none⟩ = false := (hB4.frozen (p := ⟨B, 0, none⟩) hRW).trans HR2.out
         have f5 : w4.frozen? ⟨B, 1, none⟩ = false := (hB4.frozen (p := ⟨B, 1, none⟩) hRW).trans HR3.out
         have HF4 := Lib.hid (way_last (z := last + 1) (way_stored (L := L) HROW.out HK.out hWl hB4 hown4 h4 H7.out HLEN.out) h4)
         obtain ⟨a4, cap4, rfl, _, _, _⟩ := hown4.shape)))
  all_goals
    clear hgr3 hat3 hgr4 hat4 hown3 hown4
    go_wp2_with fail
    go_ret
    refine ⟨rfl, ?_⟩
    have h := HF4.out
    simp only [List.nil_append, List.length_append, List.length_singleton] at h
    exact h
end Go.Proofs.Ytocpneliofjabaa
