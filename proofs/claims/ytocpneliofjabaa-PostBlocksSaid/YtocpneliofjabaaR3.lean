/-
  THE REFERENCE: a packet begins its way: add, Send, Double.
-/
import Derived.Test.YtocpneliofjabaaR2
import Derived.Deep.RegionHeld3
namespace Go.Proofs.Ytocpneliofjabaa
open Go.RowKit
set_option maxRecDepth 100000

def Rst.full (r : Rst) : Bool := (r.L.length : Int) == r.most
def Rst.push (r : Rst) (x : Pk) : Rst := ⟨r.most, r.ever + 1, r.L ++ [⟨r.ever + 1, x.fr, x.to, x.body⟩], r.M⟩
def Rst.add (r : Rst) (x : Pk) : Rst := if r.full then r else r.push x
def Rst.addN (r : Rst) : Int := if r.full then 0 else r.ever + 1
theorem Rst.push_fine {r : Rst} (h : r.st.Fine) (hl : r.ever < 1000000) (hf : r.full = false) (x : Pk) (hx : i64r x.fr ∧ i64r x.to) : (r.push x).st.Fine := by
  have hf2 : r.st.full = false := by
    unfold Rst.full at hf
    have h2 : (r.L.length : Int) ≤ r.most := h.room
    have h3 : ¬ (r.L.length : Int) = r.most := by simpa using hf
    show decide (r.most ≤ (r.L.length : Int)) = false
    simp
    omega
  have := Pst.push_fine h hl hf2 x hx
  obtain ⟨h1, h2, h3, h4, h5, h6, h7⟩ := this
  exact ⟨h1, h2, h3, h4, h5, h6, h7⟩
/-- Behind a new list of packets, and its store. -/
theorem ref_stored {S : Nat → Prop} {w W w3 : World} {R : Nat} {r : Rst} {v u v3 : Value} {B : Nat} (hrow : W.rowIs R 32 4 (r4 (.int .i64 r.most) (.int .i64 r.ever) v u)) (hk : Kept S w W) (hB : w.heap.size ≤ B)
    (hgr : Below B W w3) (ho3 : PkOwn B w3 v3 r.L) (hm : PrOwn 0 W u r.M)
    (h4 : S R) (h6 : ∀ g, u.ownBlock = some g → S g ∧ g ≠ R) (h7 : ∀ i, S i → i < w.heap.size) (hf : r.st.Fine) (hM : r.M.length ≤ 1000000) :
    Kept S w (w3.setCell ⟨R, 2, none⟩ v3) ∧ RefSt (Gr S w (w3.setCell ⟨R, 2, none⟩ v3)) (w3.setCell ⟨R, 2, none⟩ v3) R r := by
  have hk3 : Kept S w w3 := hk.trans (⟨hgr.os, hgr.tape, hgr.output, hgr.size, fun i hi hn => hgr.block i (by simpa using hn)⟩ : Kept (fun i => ¬ i < B) W w3) (fun i hi h => absurd (Nat.lt_of_lt_of_le hi hB) h)
  have hblk : ∀ i, S i → w3.heap[i]? = W.heap[i]? := fun i hi => hgr.block i (Nat.lt_of_lt_of_le (h7 i hi) hB)
  have hrow3 := hrow.of_block (hblk R h4)
  have hv3 : ∀ g, v3.ownBlock = some g → w.heap.size ≤ g ∧ g < w3.heap.size := fun g hg => ⟨Nat.le_trans hB (ho3.lt g hg).1, (ho3.lt g hg).2⟩
  have hsz : (w3.setCell ⟨R, 2, none⟩ v3).heap.size = w3.heap.size := by simp [World.setCell]
  have hRl := h7 R h4
  refine ⟨hk3.setCell (fun _ => h4) _, v3, u, ?_, ?_, ?_, .inl h4, ?_, ?_, ?_, hf, hM⟩
  · exact (hrow3.set 2 _).congr (fun i _ => r4_set2 _ _ _ _ _ i)
  · have h := ho3.keep (w' := w3.setCell ⟨R, 2, none⟩ v3) (fun k hk => Below.heap_setCell _ _ _ _ (by have := hv3 k hk; show k ≠ R; omega))
    exact ⟨h.1, h.2.imp id (fun ⟨g, cap, cur, a, _, b⟩ => ⟨g, cap, cur, a, Nat.zero_le _, b⟩)⟩
  · exact hm.keep (fun k hk => (Below.heap_setCell _ _ _ _ (h6 k hk).2).trans (hblk k (h6 k hk).1))
  · intro g hg
    have := hv3 g hg
    exact ⟨.inr ⟨this.1, by rw [hsz]; exact this.2⟩, by omega, fun e => by have := h7 g (h6 g e).1; omega⟩
  · exact fun g hg => ⟨.inl (h6 g hg).1, (h6 g hg).2⟩
  · exact Gr.lt h7 (by rw [hsz]; exact hk3.size)
theorem ref_then {S : Nat → Prop} {w w1 w2 : World} {R : Nat} {r' : Rst} (h1 : Below w.heap.size w w1) (hS : ∀ i, S i → i < w.heap.size) (h2 : Kept S w1 w2 ∧ RefSt (Gr S w1 w2) w2 R r') : Kept S w w2 ∧ RefSt (Gr S w w2) w2 R r' :=
  ⟨(Kept.of_below h1).trans h2.1 (fun _ _ h => h), h2.2.mono (fun i hi => by
    rcases hi with hi | ⟨a, b⟩
    · exact .inl hi
    · exact .inr ⟨Nat.le_trans h1.size a, b⟩) (Gr.lt hS (Nat.le_trans h1.size h2.1.size))⟩

set_option maxHeartbeats 4000000 in
/-- r.add(x): no room. -/
theorem radd_full (S : Nat → Prop) (R : Nat) (r : Rst) (x : Pk) (w : World) (hp : RefSt S w R r) (hf : r.full = true) :
    Calls Try.prog 36 #[.pointer (some ⟨R, 0, none⟩), pka x] w fun e w' => e = .returned (.int .i64 0) ∧ Below w.heap.size w w' := by
  obtain ⟨v, u, h1, h2, h3, h4, h5, h6, h7, h8, h9⟩ := hp
  have hR := h7 R h4
  obtain ⟨a, cap, rfl, hc1, hc2, _⟩ := h2.shape
  have c2 : w.cell? ⟨R, 2, none⟩ = some (.slice a r.L.length cap) := h1.cell (by omega)
  have c0 : w.cell? ⟨R, 0, none⟩ = some (.int .i64 r.most) := h1.cell (by omega)
  have hf2 : ((r.L.length : Int) == r.most) = true := hf
  clear h1 h2 h3 h4 h5 h6 h7 h8 h9 hf hc1 hc2
  unfold pka
  go_enter Try.func36, Try.ntmps36
  go_wp2_with fail
  go_quiet (fail)
  go_wp2_with fail
  go_ret
  exact ⟨rfl, below_drewN ((Below.refl _ _).alloc (Nat.le_refl _) _) _⟩
theorem own_empty {w' : World} {b B : Nat} (hb : B ≤ b) (h : w'.heap[b]? = some (.cells #[] 49 (0, 0))) : PkOwn B w' (.slice (some ⟨b, 0, none⟩) 0 0) [] :=
  ⟨rfl, .inr ⟨b, 0, #[], rfl, hb, h, Nat.le_refl _, by unfold maxLen; omega, rfl, rfl⟩⟩
theorem pk_below {W w' : World} {v : Value} {L : List Pk} (ho : PkOwn 0 W v L) (hb : Below W.heap.size W w') : PkOwn 0 w' v L := ho.keep (fun k hk => hb.block k (ho.lt k hk).2)
set_option maxHeartbeats 4000000 in
/-- r.add(x): room. -/
theorem radd_room (S : Nat → Prop) (R : Nat) (r : Rst) (x : Pk) (hx : i64r x.fr ∧ i64r x.to) (w : World) (hp : RefSt S w R r) (hl : r.ever < 1000000) (hf : r.full = false) :
    Calls Try.prog 36 #[.pointer (some ⟨R, 0, none⟩), pka x] w fun e w' => e = .returned (.int .i64 (r.ever + 1)) ∧ Kept S w w' ∧ RefSt (Gr S w w') w' R (r.push x) := by
  have hfine := Rst.push_fine hp.fine hl hf x hx
  obtain ⟨v, u, h1, h2, h3, h4, h5, h6, h7, h8, h9⟩ := hp
  have hR := h7 R h4
  obtain ⟨a, cap, rfl, hc1, hc2, _⟩ := h2.shape
  have c2 : w.cell? ⟨R, 2, none⟩ = some (.slice a r.L.length cap) := h1.cell (by omega)
  have c0 : w.cell? ⟨R, 0, none⟩ = some (.int .i64 r.most) := h1.cell (by omega)
  have c1 : w.cell? ⟨R, 1, none⟩ = some (.int .i64 r.ever) := h1.cell (by omega)
  have f1 := h1.frozen 1
  have f2 := h1.frozen 2
  have hf2 : ((r.L.length : Int) == r.most) = false := hf
  have hl0 : 0 ≤ r.ever := h8.l0
  have HFI := Lib.hid hfine
  have H1 := Lib.hid h1
  have H2 := Lib.hid h2
  have H3 := Lib.hid h3
  have H5 := Lib.hid h5
  have H6 := Lib.hid h6
  have H7 := Lib.hid h7
  have hLb : r.L.length ≤ 256 := by have := h8.room; have := h8.m2; simp only [Rst.st] at *; omega
  clear h1 h2 h3 h5 h6 h7 h8 hf hfine
  unfold pka
  go_enter Try.func36, Try.ntmps36
  go_wp2_with fail
  go_quiet (fail)
  go_wp2_with fail
  obtain ⟨v, hv⟩ : ∃ v, v = Value.slice a r.L.length cap := ⟨_, rfl⟩
  have h2' : PkOwn 0 w v r.L := hv ▸ H2.out
  have h1' : w.rowIs R 32 4 (r4 (.int .i64 r.most) (.int .i64 r.ever) v u) := by rw [hv]; exact H1.out
  have hvS : ∀ g, v.ownBlock = some g → S g ∧ g ≠ R ∧ u.ownBlock ≠ some g := hv ▸ H5.out
  rw [← hv]
  clear H1 H2 H5 hv hc1 hc2 c0 c1 c2 f1 f2 hf2
  have hvl : ∀ g, v.ownBlock = some g → g < w.heap.size := fun g hg => H7.out g (hvS g hg).1
  obtain ⟨W, hW⟩ : ∃ W, W = (((w.alloc (.cells #[.int .i64 x.id, .int .i64 x.fr, .int .i64 x.to, .string x.body] 49)).drewN nq).setCell ⟨R, 1, none⟩ (.int .i64 (r.ever + 1))).setCell ⟨w.heap.size, 0, none⟩ (.int .i64 (r.ever + 1)) := ⟨_, rfl⟩
  have hrow : W.rowIs R 32 4 (r4 (.int .i64 r.most) (.int .i64 (r.ever + 1)) v u) := by
    rw [hW]
    exact (((rowIs_drewN (h1'.alloc _) nq).set 1 _).setOther (by show R ≠ w.heap.size; omega) _).congr (fun i hi => r4_set1 _ _ _ _ _ i)
  have hbox : W.rowIs w.heap.size 49 4 (r4 (.int .i64 (r.ever + 1)) (.int .i64 x.fr) (.int .i64 x.to) (.string x.body)) := by
    rw [hW]
    exact (((rowIs_drewN (rowIs_lit w [.int .i64 x.id, .int .i64 x.fr, .int .i64 x.to, .string x.body] 49 4 (r4 (.int .i64 x.id) (.int .i64 x.fr) (.int .i64 x.to) (.string x.body)) rfl) nq).setOther (a := ⟨R, 1, none⟩) (by show w.heap.size ≠ R; omega) _).set 0 _).congr (fun i hi => r4_set0 _ _ _ _ _ i)
  have hkept : Kept S w W := by
    rw [hW]
    exact ((((Kept.refl S w).alloc _).drewN nq).setCell (fun _ => h4) _).setCell (fun h => absurd h (Nat.lt_irrefl _)) _
  have hsz : W.heap.size = w.heap.size + 1 := by rw [hW]; simp [World.setCell]
  have hblk : ∀ i, i < w.heap.size → i ≠ R → W.heap[i]? = w.heap[i]? := fun i hi hne => by
    rw [hW, Below.heap_setCell _ _ _ _ (by show i ≠ w.heap.size; omega), Below.heap_setCell _ _ _ _ hne]
    exact Go.Deep.blk_alloc_lt w _ i hi
  rw [← hW]
  clear hW
  have ho : PkOwn 0 W v r.L := h2'.keep (fun k hk => hblk k (hvl k hk) (hvS k hk).2.1)
  have hm : PrOwn 0 W u r.M := H3.out.keep (fun k hk => hblk k (H7.out k (H6.out k hk).1) (H6.out k hk).2)
  clear hblk h2' h1'
  have hRW : R < W.heap.size := by omega
  have d2 : W.cell? ⟨R, 2, none⟩ = some v := hrow.cell (by omega)
  have b0 : W.cell? ⟨w.heap.size, 0, none⟩ = some (.int .i64 (r.ever + 1)) := hbox.cell (by omega)
  have b1 : W.cell? ⟨w.heap.size, 1, none⟩ = some (.int .i64 x.fr) := hbox.cell (by omega)
  have b2 : W.cell? ⟨w.heap.size, 2, none⟩ = some (.int .i64 x.to) := hbox.cell (by omega)
  have b3 : W.cell? ⟨w.heap.size, 3, none⟩ = some (.string x.body) := hbox.cell (by omega)
  have HROW := Lib.hid hrow
  have HBOX := Lib.hid hbox
  have HO := Lib.hid ho
  have HM := Lib.hid hm
  have HK := Lib.hid hkept
  have hvW : ∀ g, v.ownBlock = some g → g < W.heap.size := fun g hg => by have := hvl g hg; omega
  have HVW := Lib.hid hvW
  have hWw : w.heap.size < W.heap.size := by omega
  have hWl : w.heap.size ≤ W.heap.size := by omega
  have HR2 := Lib.hid (HROW.out.frozen 2)
  have D2 := Lib.hid d2
  have B0 := Lib.hid b0
  have hfit : ([] : List Pk).length + r.L.length ≤ 3000000 := by simp; omega
  have hfit2 : ([] ++ r.L).length + [(⟨r.ever + 1, x.fr, x.to, x.body⟩ : Pk)].length ≤ 3000000 := by simp; omega
  clear hrow hbox ho hm hkept hvl hvS hvW hsz
  go_region_law ((first
      | (refine step_append_pk rfl (.tmp 28) (.tmp 32) (by rfl) W.heap.size _ [] (by rfl) (own_empty (by first | exact Nat.le_refl _ | exact Nat.le_succ _) (by first | exact Go.Deep.blk_alloc_new W _ | exact (Go.Deep.blk_alloc_lt (W.alloc _) _ _ (by simp)).trans (Go.Deep.blk_alloc_new W _) | exact blk_new2 W _ _)) v r.L (by rfl) (Src.of_own (pk_below HO.out (by first | exact ((Below.refl _ W).alloc (Nat.le_refl _) _).drew | exact (((Below.refl _ W).alloc (Nat.le_refl _) _).alloc (by simp) _).drew))) hfit (by first | (simp; done) | (simp; omega)) ?_
         intro v3 w3 hown3 hgr3 hat3
         have hB3 : Below W.heap.size W w3 := by
           first
             | exact (((Below.refl _ W).alloc (Nat.le_refl _) _).drew).trans (below_of_grown hgr3 (by first | exact Nat.le_refl _ | exact Nat.le_succ _) (by first | (simp; done) | (simp; omega)))
             | exact ((((Below.refl _ W).alloc (Nat.le_refl _) _).alloc (by simp) _).drew).trans (below_of_grown hgr3 (by first | exact Nat.le_refl _ | exact Nat.le_succ _) (by first | (simp; done) | (simp; omega)))
         have x2 : w3.cell? ⟨R, 2, none⟩ = some v := (hB3.cell (p := ⟨R, 2, none⟩) hRW).trans d2
         have y0 : w3.cell? ⟨w.heap.size, 0, none⟩ = some (.int .i64 (r.ever + 1)) := (hB3.cell (p := ⟨w.heap.size, 0, none⟩) hWw).trans b0
         have y1 : w3.cell? ⟨w.heap.size, 1, none⟩ = some (.int .i64 x.fr) := (hB3.cell (p := ⟨w.heap.size, 1, none⟩) hWw).trans b1
         have y2 : w3.cell? ⟨w.heap.size, 2, none⟩ = some (.int .i64 x.to) := (hB3.cell (p := ⟨w.heap.size, 2, none⟩) hWw).trans b2
         have y3 : w3.cell? ⟨w.heap.size, 3, none⟩ = some (.string x.body) := (hB3.cell (p := ⟨w.heap.size, 3, none⟩) hWw).trans b3)
      | (refine step_append_pk rfl (.tmp 33) (.tmp 35) (by rfl) W.heap.size v3 ([] ++ r.L) (by rfl) (by first | exact hown3 | exact hown3.keep (fun k hk => Go.Deep.blk_alloc_lt _ _ _ (hown3.lt k hk).2)) _ [⟨r.ever + 1, x.fr, x.to, x.body⟩] (by rfl) (by first | exact Src.of_block (Go.Deep.blk_alloc_new w3 _) rfl | exact Src.of_block ((hgr3.block _ (by simp) (by simp [Value.ownBlock])).trans (blk_new2 W _ _)) rfl | exact Src.of_block ((hgr3.block _ (by first | (simp; done) | (simp; omega)) (by simp [Value.ownBlock])).trans ((Go.Deep.blk_alloc_lt (W.alloc _) _ _ (by simp)).trans (Go.Deep.blk_alloc_new W _))) rfl) hfit2 (by first | exact hB3.size | exact (hB3.alloc hB3.size _).size) ?_
         intro v4 w4 hown4 hgr4 hat4
         have hB4 : Below W.heap.size W w4 := by
           first
             | exact hB3.grown hgr4 hB3.size (fun k hk => (hown3.lt k hk).1)
             | exact (hB3.alloc hB3.size _).grown hgr4 (hB3.alloc hB3.size _).size (fun k hk => (hown3.lt k hk).1)
         have e4 : w4.cell? ⟨R, 2, none⟩ = some v := (hB4.cell (p := ⟨R, 2, none⟩) hRW).trans D2.out
         have g4 : w4.cell? ⟨w.heap.size, 0, none⟩ = some (.int .i64 (r.ever + 1)) := (hB4.cell (p := ⟨w.heap.size, 0, none⟩) hWw).trans B0.out
         have f4 : w4.frozen? ⟨R, 2, none⟩ = false := (hB4.frozen (p := ⟨R, 2, none⟩) hRW).trans HR2.out
         have hRw : R ≠ w.heap.size := by omega
         have HF4 := Lib.hid (ref_stored (r := r.push x) HROW.out HK.out hWl hB4 hown4 HM.out h4 H6.out H7.out HFI.out h9)
         obtain ⟨a4, cap4, rfl, _, _, _⟩ := hown4.shape)))
  all_goals
    clear hgr3 hat3 hgr4 hat4 hown3 hown4
    go_wp2_with fail
    go_ret
    refine ⟨rfl, ?_⟩
    have h := HF4.out
    simp only [List.nil_append, List.length_append, List.length_singleton] at h
    exact h
end Go.Proofs.Ytocpneliofjabaa
