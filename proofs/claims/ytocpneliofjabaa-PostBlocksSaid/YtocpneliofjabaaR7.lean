/-
  THE REFERENCE: Free, Block.
-/
import Derived.Test.YtocpneliofjabaaR6
namespace Go.Proofs.Ytocpneliofjabaa
open Go.RowKit
set_option maxRecDepth 100000

def keepQ (a b : Int) (p : Int × Int) : Bool := !(p.1 == a && p.2 == b) && !(p.1 == b && p.2 == a)
def Rst.fre (r : Rst) (a b : Int) : Rst := ⟨r.most, r.ever, r.L, r.M.filter (keepQ a b)⟩
def Rst.blk (r : Rst) (a b : Int) : Rst := if a = b then r else ⟨r.most, r.ever, r.L, r.M.filter (keepQ a b) ++ [(a, b), (b, a)]⟩
theorem filt_succ (M : List (Int × Int)) (q : Int × Int → Bool) (k : Nat) (x : Int × Int) (hx : M[k]? = some x) : (M.take (k + 1)).filter q = (M.take k).filter q ++ if q x then [x] else [] := by
  rw [List.take_add_one, hx, List.filter_append]
  congr 1
  simp [List.filter_cons]
/-- Behind a new list of pairs, and its store. -/
theorem ref_pairs {S : Nat → Prop} {w w3 : World} {R : Nat} {r : Rst} {v u v3 : Value} {M : List (Int × Int)} (hrow : w.rowIs R 32 4 (r4 (.int .i64 r.most) (.int .i64 r.ever) v u)) (hp : PkOwn 0 w v r.L)
    (hgr : Below w.heap.size w w3) (ho3 : PrOwn w.heap.size w3 v3 M) (h4 : S R) (h5 : ∀ g, v.ownBlock = some g → S g ∧ g ≠ R) (h7 : ∀ i, S i → i < w.heap.size) (hf : r.st.Fine) (hM : M.length ≤ 1000000) :
    Kept S w (w3.setCell ⟨R, 3, none⟩ v3) ∧ RefSt (Gr S w (w3.setCell ⟨R, 3, none⟩ v3)) (w3.setCell ⟨R, 3, none⟩ v3) R ⟨r.most, r.ever, r.L, M⟩ := by
  have hk3 : Kept S w w3 := Kept.of_below hgr
  have hrow3 := hrow.of_block (hgr.block R (h7 R h4))
  have hv3 : ∀ g, v3.ownBlock = some g → w.heap.size ≤ g ∧ g < w3.heap.size := fun g hg => World.ownsRow.lt ho3 g hg
  have hsz : (w3.setCell ⟨R, 3, none⟩ v3).heap.size = w3.heap.size := by simp [World.setCell]
  have hRl := h7 R h4
  refine ⟨hk3.setCell (fun _ => h4) _, v, v3, ?_, ?_, ?_, .inl h4, ?_, ?_, ?_, ⟨hf.m1, hf.m2, hf.l0, hf.l1, hf.len, hf.room, hf.pk⟩, hM⟩
  · exact (hrow3.set 3 _).congr (fun i hi => r4_set3 _ _ _ _ _ i hi)
  · exact hp.keep (fun k hk => (Below.heap_setCell _ _ _ _ (h5 k hk).2).trans (hgr.block k (h7 k (h5 k hk).1)))
  · have h := PrOwn.keep (w' := w3.setCell ⟨R, 3, none⟩ v3) ho3 (fun k hk => Below.heap_setCell _ _ _ _ (by have := hv3 k hk; show k ≠ R; omega))
    exact ⟨h.1, h.2.imp id (fun ⟨g, cap, cur, a, _, b⟩ => ⟨g, cap, cur, a, Nat.zero_le _, b⟩)⟩
  · intro g hg
    exact ⟨.inl (h5 g hg).1, (h5 g hg).2, fun e => by have := hv3 g e; have := h7 g (h5 g hg).1; omega⟩
  · intro g hg
    have := hv3 g hg
    exact ⟨.inr ⟨this.1, by rw [hsz]; exact this.2⟩, by omega⟩
  · exact Gr.lt h7 (by rw [hsz]; exact hk3.size)

set_option maxHeartbeats 4000000 in
/-- r.Free(a, b). -/
theorem rfree_any (S : Nat → Prop) (R : Nat) (r : Rst) (a b : Int) (w : World) (hp : RefSt S w R r) :
    Calls Try.prog 26 #[.pointer (some ⟨R, 0, none⟩), .int .i64 a, .int .i64 b] w fun e w' => e = .returned (.tuple #[]) ∧ Kept S w w' ∧ RefSt (Gr S w w') w' R (r.fre a b) := by
  obtain ⟨v, u, h1, h2, h3, h4, h5, h6, h7, h8, h9⟩ := hp
  have HEND := Lib.hid (fun (w3 : World) (v3 : Value) (M : List (Int × Int)) hgr ho hM => ref_pairs (w3 := w3) (v3 := v3) (M := M) h1 h2 hgr ho h4 (fun g hg => ⟨(h5 g hg).1, (h5 g hg).2.1⟩) h7 h8 hM)
  obtain ⟨ad, cap, rfl, hc1, hc2, hc3⟩ := h3.shape
  have c3 : w.cell? ⟨R, 3, none⟩ = some (.slice ad r.M.length cap) := h1.cell (by omega)
  have hR := h7 R h4
  have HF3 := Lib.hid (h1.frozen 3)
  have HC3 := Lib.hid c3
  have HC := Lib.hid hc3
  have H9 := Lib.hid h9
  have heq := fun (a b x y : Int) (w : World) => run_equalIn_65 9998 a b x y w
  have HEQ := Lib.hid heq
  unfold maxLen at hc2
  clear h1 h2 h3 h4 h5 h6 h7 h8 h9 hc3 c3 heq
  go_enter Try.func26, Try.ntmps26
  go_wp2_with fail
  go_loopw [6, 7] (fun o i wr => ∃ k : Nat, k ≤ r.M.length ∧ i = .int .i64 k ∧ PrOwn w.heap.size wr o ((r.M.take k).filter (keepQ a b)) ∧ Below w.heap.size w wr) (fun _ i _ => r.M.length - (intOf i).toNat)
  case atStart => exact ⟨0, by omega, rfl, World.ownsRow_nil _ _ _ _, Below.refl _ _⟩
  case round =>
    obtain ⟨k, hk, rfl, hown, hb⟩ := hrel
    have c3 : wr.cell? ⟨R, 3, none⟩ = some (.slice ad r.M.length cap) := (hb.cell (p := ⟨R, 3, none⟩) hR).trans HC3.out
    by_cases hlt2 : k < r.M.length
    · obtain ⟨x, hx⟩ : ∃ x, r.M[k]? = some x := ⟨_, List.getElem?_eq_getElem hlt2⟩
      obtain ⟨g, rfl, _, _, hg, d0, d1⟩ := HC.out k x hx
      have e0 := (hb.cell (p := ⟨g, k * 2, none⟩) hg).trans d0
      have e1 := (hb.cell (p := ⟨g, k * 2 + 1, none⟩) hg).trans d1
      have hfs := filt_succ r.M (keepQ a b) k x hx
      have HFS := Lib.hid hfs
      have hle : ((r.M.take k).filter (keepQ a b)).length ≤ 1000000 := by
        have h := List.length_filter_le (keepQ a b) (r.M.take k)
        have h2 : (r.M.take k).length ≤ r.M.length := by simp; omega
        have := H9.out
        omega
      have HLE := Lib.hid hle
      clear hx d0 d1 hfs hle
      have q1 := HEQ.out x.1 x.2 a b wr
      have q2 := HEQ.out x.1 x.2 b a wr
      cases hq1 : (x.1 == a && x.2 == b)
      · cases hq2 : (x.1 == b && x.2 == a)
        · rw [hq1] at q1
          rw [hq2] at q2
          have hkq : Hid (keepQ a b x = true) := Lib.hid (by unfold keepQ; rw [hq1, hq2]; rfl)
          have hfit : ((r.M.take k).filter (keepQ a b)).length + [x].length ≤ 3000000 := by have := HLE.out; simp; omega
          have HFIT := Lib.hid hfit
          clear hq1 hq2 hfit
          go_wp2_with (first
            | (refine wpList_append_pr rfl (.tmp 41) (.tmp 49) rfl w.heap.size _ _ rfl (PrOwn.keep hown (fun j hj => Go.Deep.blk_alloc_lt _ _ _ (World.ownsRow.lt hown j hj).2)) _ [x] rfl (Src.of_block (Go.Deep.blk_alloc_new wr _) rfl) HFIT.out (by exact (hb.alloc hb.size _).size) ?_; intro v3 w3 hown3 hgr3 _
               have hb3 : Below w.heap.size w w3 := (hb.alloc hb.size _).grown hgr3 (hb.alloc hb.size _).size (fun j hj => (World.ownsRow.lt hown j hj).1)
               have HO3 := Lib.hid hown3
               clear hown3 hgr3)
            | fail)
          go_roundw
          case rel => exact ⟨k + 1, by omega, by go_num, by rw [HFS.out, hkq.out]; exact HO3.out, hb3⟩
          case measure => simp [intOf]; omega
        · rw [hq1] at q1
          rw [hq2] at q2
          have hkq : Hid (keepQ a b x = false) := Lib.hid (by unfold keepQ; rw [hq1, hq2]; rfl)
          clear hq1 hq2
          go_wp2_with fail
          go_roundw
          case rel => exact ⟨k + 1, by omega, by go_num, by rw [HFS.out, hkq.out]; simpa using hown, hb⟩
          case measure => simp [intOf]; omega
      · rw [hq1] at q1
        have hkq : Hid (keepQ a b x = false) := Lib.hid (by unfold keepQ; rw [hq1]; rfl)
        clear hq1
        go_wp2_with fail
        go_roundw
        case rel => exact ⟨k + 1, by omega, by go_num, by rw [HFS.out, hkq.out]; simpa using hown, hb⟩
        case measure => simp [intOf]; omega
    · obtain rfl : k = r.M.length := by omega
      rw [List.take_length] at hown
      have hle : (r.M.filter (keepQ a b)).length ≤ 1000000 := Nat.le_trans (List.length_filter_le _ _) H9.out
      have HE := Lib.hid (HEND.out wr _ _ hb hown hle)
      have f3 : wr.frozen? ⟨R, 3, none⟩ = false := (hb.frozen (p := ⟨R, 3, none⟩) hR).trans HF3.out
      obtain ⟨a3, cap3, rfl, _, _, _⟩ := hown.shape
      clear hown hle
      go_wp2_with fail
      go_end0
      exact ⟨rfl, HE.out⟩
/-- Behind pairs that were appended, and the store. -/
theorem ref_paired {S : Nat → Prop} {w w3 : World} {R : Nat} {r : Rst} {v u v3 : Value} {M : List (Int × Int)} {o : Obj} (hrow : w.rowIs R 32 4 (r4 (.int .i64 r.most) (.int .i64 r.ever) v u)) (hp : PkOwn 0 w v r.L)
    (hgr : (w.alloc o).grownBy w3 u.ownBlock) (hat : v3.ownBlock = u.ownBlock ∨ v3.ownBlock = some (w.alloc o).heap.size) (ho3 : PrOwn 0 w3 v3 M) (h4 : S R) (h5 : ∀ g, v.ownBlock = some g → S g ∧ g ≠ R ∧ u.ownBlock ≠ some g) (h6 : ∀ g, u.ownBlock = some g → S g ∧ g ≠ R)
    (h7 : ∀ i, S i → i < w.heap.size) (hf : r.st.Fine) (hM : M.length ≤ 1000000) :
    Kept S w (w3.setCell ⟨R, 3, none⟩ v3) ∧ RefSt (Gr S w (w3.setCell ⟨R, 3, none⟩ v3)) (w3.setCell ⟨R, 3, none⟩ v3) R ⟨r.most, r.ever, r.L, M⟩ := by
  have hk3 : Kept S w w3 := ((Kept.refl S w).alloc o).trans (Kept.of_grown (S := S) hgr (fun i hi => (h6 i hi).1)) (fun _ _ h => h)
  have hblk : ∀ i, S i → (u.ownBlock ≠ some i) → w3.heap[i]? = w.heap[i]? := fun i hi hne => by
    have hi2 := h7 i hi
    exact (hgr.block i (by simp; omega) (fun e => hne e.symm)).trans (Go.Deep.blk_alloc_lt w o i hi2)
  have hrow3 := hrow.of_block (hblk R h4 (fun e => (h6 R e).2 rfl))
  have hv3 : ∀ g, v3.ownBlock = some g → g ≠ R ∧ g < w3.heap.size ∧ (S g ∨ w.heap.size ≤ g) ∧ v.ownBlock ≠ some g := fun g hg => by
    have hlt := (World.ownsRow.lt ho3 g hg).2
    have hRl := h7 R h4
    rcases hat with e | e
    · have := h6 g (e ▸ hg)
      exact ⟨this.2, hlt, .inl this.1, fun e2 => (h5 g e2).2.2 (e ▸ hg)⟩
    · have e2 : g = w.heap.size + 1 := by rw [hg] at e; simpa using e
      exact ⟨by omega, hlt, .inr (by omega), fun e3 => by have := h7 g (h5 g e3).1; omega⟩
  have hsz : (w3.setCell ⟨R, 3, none⟩ v3).heap.size = w3.heap.size := by simp [World.setCell]
  refine ⟨hk3.setCell (fun _ => h4) _, v, v3, ?_, ?_, ?_, .inl h4, ?_, ?_, ?_, ⟨hf.m1, hf.m2, hf.l0, hf.l1, hf.len, hf.room, hf.pk⟩, hM⟩
  · exact (hrow3.set 3 _).congr (fun i hi => r4_set3 _ _ _ _ _ i hi)
  · exact hp.keep (fun k hk => (Below.heap_setCell _ _ _ _ (h5 k hk).2.1).trans (hblk k (h5 k hk).1 (h5 k hk).2.2))
  · exact PrOwn.keep ho3 (fun k hk => Below.heap_setCell _ _ _ _ (hv3 k hk).1)
  · exact fun g hg => ⟨.inl (h5 g hg).1, (h5 g hg).2.1, fun e => (hv3 g e).2.2.2 hg⟩
  · intro g hg
    obtain ⟨a1, a2, a3, _⟩ := hv3 g hg
    exact ⟨a3.imp _root_.id (fun h => ⟨h, by rw [hsz]; exact a2⟩), a1⟩
  · exact Gr.lt h7 (by rw [hsz]; exact hk3.size)
set_option maxHeartbeats 4000000 in
/-- r.Block(a, b). -/
theorem rblock_any (S : Nat → Prop) (R : Nat) (r : Rst) (a b : Int) (w : World) (hp : RefSt S w R r) (hM : r.M.length ≤ 900000) :
    Calls Try.prog 25 #[.pointer (some ⟨R, 0, none⟩), .int .i64 a, .int .i64 b] w fun e w' => e = .returned (.tuple #[]) ∧ Kept S w w' ∧ RefSt (Gr S w w') w' R (r.blk a b) := by
  unfold Rst.blk
  by_cases hab : a = b
  · subst hab
    rw [if_pos rfl]
    have HP := Lib.hid hp
    clear hp
    go_enter Try.func25, Try.ntmps25
    go_wp2_with fail
    go_end0
    exact ⟨rfl, Kept.gr_ref HP.out (Below.refl _ _)⟩
  · rw [if_neg hab]
    have hne : (a == b) = false := by simpa using hab
    have hne2 : (a != b) = true := by simpa using hab
    have HFR := Lib.hid (rfree_any S R r a b w hp)
    have HSW := Lib.hid hp.lt
    have hlen : Hid ((r.M.filter (keepQ a b)).length ≤ 900000) := Lib.hid (Nat.le_trans (List.length_filter_le _ _) hM)
    clear hp hab
    go_enter Try.func25, Try.ntmps25
    go_wp2_with fail
    refine HFR.out.mono ?_
    rintro e w1 ⟨rfl, hk1, hr1⟩
    have HK1 := Lib.hid hk1
    obtain ⟨v, u, h1, h2, h3, h4, h5, h6, h7, h8, h9⟩ := hr1
    have c3 : w1.cell? ⟨R, 3, none⟩ = some u := h1.cell (by omega)
    have hR := h7 R h4
    have H1 := Lib.hid h1
    have H2 := Lib.hid h2
    have H3 : Hid (PrOwn 0 w1 u (r.M.filter (keepQ a b))) := Lib.hid h3
    have H5 := Lib.hid h5
    have H6 := Lib.hid h6
    have H7 := Lib.hid h7
    have H8 := Lib.hid h8
    have hfit : (r.M.filter (keepQ a b)).length + [(a, b), (b, a)].length ≤ 3000000 := by have := hlen.out; simp; omega
    have HFIT := Lib.hid hfit
    clear hk1 h1 h2 h3 h5 h6 h7 h8 h9 hfit HFR
    go_wp2_with (first
      | (refine wpList_append_pr rfl (.tmp 17) (.tmp 24) rfl 0 u _ rfl (PrOwn.keep H3.out (fun j hj => Go.Deep.blk_alloc_lt _ _ _ (World.ownsRow.lt H3.out j hj).2)) _ [(a, b), (b, a)] rfl (Src.of_block (Go.Deep.blk_alloc_new w1 _) rfl) HFIT.out (Nat.zero_le _) ?_; intro v3 w3 hown3 hgr3 hat3
         have hrow3 := H1.out.of_block ((hgr3.block R (by simp; omega) (fun e => (H6.out R e.symm).2 rfl)).trans (Go.Deep.blk_alloc_lt w1 _ R hR))
         have e3 : w3.cell? ⟨R, 3, none⟩ = some u := hrow3.cell (by omega)
         have f3 := hrow3.frozen 3
         have hM3 : (r.M.filter (keepQ a b) ++ [(a, b), (b, a)]).length ≤ 1000000 := by rw [List.length_append]; have := hlen.out; simp only [List.length_cons, List.length_nil]; omega
         have HE := Lib.hid (ref_paired (r := r.fre a b) H1.out H2.out hgr3 hat3 hown3 h4 H5.out H6.out H7.out H8.out hM3)
         obtain ⟨a3, cap3, rfl, _, _, _⟩ := PrOwn.shape hown3
         obtain ⟨q, hq⟩ : ∃ q, q = (r.M.filter (keepQ a b) ++ [(a, b), (b, a)]).length := ⟨_, rfl⟩
         rw [← hq] at HE ⊢
         clear hrow3 hown3 hgr3 hat3 hM3 hq)
      | fail)
    go_end0
    refine ⟨rfl, ?_, ?_⟩
    · exact HK1.out.trans HE.out.1 (fun i hi h => by
        rcases h with h | ⟨h, _⟩
        · exact h
        · omega)
    · have hk := HK1.out.trans HE.out.1 (fun i hi h => by
        rcases h with h | ⟨h, _⟩
        · exact h
        · omega)
      refine HE.out.2.mono (fun i hi => ?_) (Gr.lt HSW.out hk.size)
      have hsz := HE.out.1.size
      rcases hi with (hi | ⟨h1, h2⟩) | ⟨h1, h2⟩
      · exact .inl hi
      · exact .inr ⟨h1, Nat.lt_of_lt_of_le h2 hsz⟩
      · exact .inr ⟨Nat.le_trans HK1.out.size h1, h2⟩
end Go.Proofs.Ytocpneliofjabaa
