/-
  THE REFERENCE: Take, Free, Block.
-/
import Derived.Test.YtocpneliofjabaaR5
namespace Go.Proofs.Ytocpneliofjabaa
open Go.RowKit
set_option maxRecDepth 100000

def Rst.takes (r : Rst) (id : Int) : Bool := decide (0 ≤ fndI id r.L) && match r.at id with | some x => !r.bl x.fr x.to | none => false
def Rst.take (r : Rst) (id : Int) : Rst := if r.takes id then r.cut (fndI id r.L).toNat else r
def Rst.takeX (r : Rst) (id : Int) : Pk := if r.takes id then (r.at id).getD pk0 else pk0
theorem Rst.take_no {r : Rst} {id : Int} (h : fndI id r.L = -1) : r.takes id = false := by unfold Rst.takes; rw [h]; rfl
theorem Rst.take_some {r : Rst} {id : Int} {i : Nat} {x : Pk} (h : fndI id r.L = i) (hx : r.L[i]? = some x) : r.takes id = !r.bl x.fr x.to ∧ r.at id = some x := by
  have e : r.at id = some x := by unfold Rst.at; rw [h, Int.toNat_natCast, hx]
  refine ⟨?_, e⟩
  unfold Rst.takes
  rw [e, h]
  simp

set_option maxHeartbeats 4000000 in
/-- r.Take(id): there is none. -/
theorem rtake_none (S : Nat → Prop) (R : Nat) (r : Rst) (id : Int) (w : World) (hp : RefSt S w R r) (hf : fndI id r.L = -1) :
    Calls Try.prog 22 #[.pointer (some ⟨R, 0, none⟩), .int .i64 id] w fun e w' => e = .returned (.tuple #[pka pk0, .bool false]) ∧ Below w.heap.size w w' := by
  have hfi := fun w1 (hb : Below w.heap.size w w1) => hf ▸ rfind_any S R r id w1 (hp.below hb)
  have HFI := Lib.hid hfi
  clear hp hf hfi
  go_enter Try.func22, Try.ntmps22
  go_wp2_with fail
  refine (HFI.out _ ((Below.refl _ _).alloc (Nat.le_refl _) _)).mono ?_
  rintro e w1 ⟨rfl, hw1⟩
  have hg : PkRow w1 w.heap.size pk0 := by rw [← hw1]; exact rowIs_lit w [.int .i64 0, .int .i64 0, .int .i64 0, .string ⟨#[]⟩] 49 4 _ rfl
  have hbw : Below w.heap.size w w1 := by rw [← hw1]; exact (Below.refl _ _).alloc (Nat.le_refl _) _
  clear hw1
  go_wp2_with fail
  refine wp_region_below w1.heap.size (by kernel_rfl) (by kernel_rfl) ?_
  repeat (go_big_quiet_step (fail))
  refine wpQuiet_nil ?_
  intro w2 hb2
  have HG2 := Lib.hid (rowIs_below hg hb2 hg.lt)
  have hbw2 := hbw.trans (hb2.mono hbw.size)
  clear hg hbw hb2
  go_wp2_with (first
    | (refine wpList_store_abs rfl 49 (.tmp 4) (.tmp 33) rfl w.heap.size rfl #[.int .i64 0, .int .i64 0, .int .i64 0, .string ⟨#[]⟩] rfl 49 4 _ _ HG2.out (pka_arr pk0) sz49 (r4_one pk0) ?_; intro w3 hg3 hgr3 _)
    | fail)
  exact bodyPost_ret (results_row2 (g := w.heap.size) rfl rfl rfl (pkRow_block hg3) Try.underlying49 rfl sz49) rfl ⟨rfl, hbw2.trans (below_of_grown hgr3 (Nat.le_refl _) hbw2.size)⟩
set_option maxHeartbeats 4000000 in
/-- r.Take(id): its pair is blocked. -/
theorem rtake_blocked (S : Nat → Prop) (R : Nat) (r : Rst) (id : Int) (w : World) (hp : RefSt S w R r) (i : Nat) (x : Pk) (hf : fndI id r.L = i) (hx : r.L[i]? = some x) (hq : r.bl x.fr x.to = true) :
    Calls Try.prog 22 #[.pointer (some ⟨R, 0, none⟩), .int .i64 id] w fun e w' => e = .returned (.tuple #[pka pk0, .bool false]) ∧ Below w.heap.size w w' := by
  have hfi := fun w1 (hb : Below w.heap.size w w1) => hf ▸ rfind_any S R r id w1 (hp.below hb)
  have HFI := Lib.hid hfi
  have HP := Lib.hid hp
  have HX := Lib.hid hx
  have hi : i < r.L.length := (List.getElem?_eq_some_iff.1 hx).1
  have hi0 : decide ((i : Int) < 0) = false := by simp
  have hi1 : (0 : Int) ≤ (i : Int) := by omega
  have hi2 : (i : Int) < (r.L.length : Int) := by omega
  have hbl := fun w1 (hb : Below w.heap.size w w1) => hq ▸ rblocked_any S R r x.fr x.to w1 (hp.below hb)
  have HBL := Lib.hid hbl
  clear hp hf hfi hx hq hbl
  go_enter Try.func22, Try.ntmps22
  go_wp2_with fail
  refine (HFI.out _ ((Below.refl _ _).alloc (Nat.le_refl _) _)).mono ?_
  rintro e w1 ⟨rfl, hw1⟩
  have hg : PkRow w1 w.heap.size pk0 := by rw [← hw1]; exact rowIs_lit w [.int .i64 0, .int .i64 0, .int .i64 0, .string ⟨#[]⟩] 49 4 _ rfl
  have hbw : Below w.heap.size w w1 := by rw [← hw1]; exact (Below.refl _ _).alloc (Nat.le_refl _) _
  clear hw1
  have hp1 := HP.out.below hbw
  obtain ⟨v, u, h1, h2, h3, h4, h5, h6, h7, h8, h9⟩ := hp1
  have hLb : r.L.length ≤ 256 := by have := h8.room; have := h8.m2; simp only [Rst.st] at *; omega
  obtain ⟨a, cap, rfl, hc1, hc2, hc3⟩ := h2.shape
  obtain ⟨g, rfl, _, _, hgl, d0, d1, d2, d3⟩ := hc3 i x HX.out
  have hc : ∀ e : Ext w1.heap.size w1, e.x.cell? ⟨R, 2, none⟩ = some (.slice (some ⟨g, 0, none⟩) r.L.length cap) := fun e => (e.h.cell (p := ⟨R, 2, none⟩) (h7 R h4)).trans (h1.cell (by omega))
  have hc4 : ∀ e : Ext w1.heap.size w1, e.x.cell? ⟨g, i * 4 + 1, none⟩ = some (.int .i64 x.fr) := fun e => (e.h.cell (p := ⟨g, _, none⟩) hgl).trans d1
  have hc5 : ∀ e : Ext w1.heap.size w1, e.x.cell? ⟨g, i * 4 + 2, none⟩ = some (.int .i64 x.to) := fun e => (e.h.cell (p := ⟨g, _, none⟩) hgl).trans d2
  have hbx : ∀ e : Ext w1.heap.size w1, Below w.heap.size w e.x := fun e => hbw.trans (e.h.mono hbw.size)
  have HBX := Lib.hid hbx
  unfold maxLen at hc2
  clear h1 h2 h3 h4 h5 h6 h7 h8 h9 d0 d1 d2 d3 hc3 hbx
  go_wp2_with fail
  refine wp_region_below w1.heap.size (by kernel_rfl) (by kernel_rfl) ?_
  repeat (go_big_quiet_step ((go_at_call 27; rename_i e; exact below_call_same e (HBL.out _ (HBX.out e)))))
  refine wpQuiet_nil ?_
  intro w2 hb2
  have HG2 := Lib.hid (rowIs_below hg hb2 hg.lt)
  have hbw2 := hbw.trans (hb2.mono hbw.size)
  clear hg hbw hb2 hc hc4 hc5
  go_wp2_with (first
    | (refine wpList_store_abs rfl 49 (.tmp 4) (.tmp 33) rfl w.heap.size rfl #[.int .i64 0, .int .i64 0, .int .i64 0, .string ⟨#[]⟩] rfl 49 4 _ _ HG2.out (pka_arr pk0) sz49 (r4_one pk0) ?_; intro w3 hg3 hgr3 _)
    | fail)
  exact bodyPost_ret (results_row2 (g := w.heap.size) rfl rfl rfl (pkRow_block hg3) Try.underlying49 rfl sz49) rfl ⟨rfl, hbw2.trans (below_of_grown hgr3 (Nat.le_refl _) hbw2.size)⟩
set_option maxHeartbeats 4000000 in
/-- r.Take(id): it may be taken. -/
theorem rtake_free (S : Nat → Prop) (R : Nat) (r : Rst) (id : Int) (w : World) (hp : RefSt S w R r) (i : Nat) (x : Pk) (hf : fndI id r.L = i) (hx : r.L[i]? = some x) (hq : r.bl x.fr x.to = false) :
    Calls Try.prog 22 #[.pointer (some ⟨R, 0, none⟩), .int .i64 id] w fun e w' => e = .returned (.tuple #[pka x, .bool true]) ∧ Kept S w w' ∧ RefSt (Gr S w w') w' R (r.cut i) := by
  have hfi := fun w1 (hb : Below w.heap.size w w1) => hf ▸ rfind_any S R r id w1 (hp.below hb)
  have HFI := Lib.hid hfi
  have hdr := fun w1 (hb : Below w.heap.size w w1) => rdrop_any S R r id w1 (hp.below hb)
  unfold Rst.dropN Rst.drop at hdr
  rw [hf] at hdr
  rw [if_neg (by omega), Int.toNat_natCast, show decide (0 ≤ (i : Int)) = true by simp] at hdr
  have HDR := Lib.hid hdr
  have HP := Lib.hid hp
  have HX := Lib.hid hx
  have hi : i < r.L.length := (List.getElem?_eq_some_iff.1 hx).1
  have hi0 : decide ((i : Int) < 0) = false := by simp
  have hi1 : (0 : Int) ≤ (i : Int) := by omega
  have hi2 : (i : Int) < (r.L.length : Int) := by omega
  have hbl := fun w1 (hb : Below w.heap.size w w1) => hq ▸ rblocked_any S R r x.fr x.to w1 (hp.below hb)
  have HBL := Lib.hid hbl
  clear hp hf hfi hx hq hbl hdr
  go_enter Try.func22, Try.ntmps22
  go_wp2_with fail
  refine (HFI.out _ ((Below.refl _ _).alloc (Nat.le_refl _) _)).mono ?_
  rintro e w1 ⟨rfl, hw1⟩
  have hg : PkRow w1 w.heap.size pk0 := by rw [← hw1]; exact rowIs_lit w [.int .i64 0, .int .i64 0, .int .i64 0, .string ⟨#[]⟩] 49 4 _ rfl
  have hbw : Below w.heap.size w w1 := by rw [← hw1]; exact (Below.refl _ _).alloc (Nat.le_refl _) _
  clear hw1
  have hp1 := HP.out.below hbw
  obtain ⟨v, u, h1, h2, h3, h4, h5, h6, h7, h8, h9⟩ := hp1
  have hLb : r.L.length ≤ 256 := by have := h8.room; have := h8.m2; simp only [Rst.st] at *; omega
  obtain ⟨a, cap, rfl, hc1, hc2, hc3⟩ := h2.shape
  obtain ⟨g, rfl, _, _, hgl, d0, d1, d2, d3⟩ := hc3 i x HX.out
  have hc : ∀ e : Ext w1.heap.size w1, e.x.cell? ⟨R, 2, none⟩ = some (.slice (some ⟨g, 0, none⟩) r.L.length cap) := fun e => (e.h.cell (p := ⟨R, 2, none⟩) (h7 R h4)).trans (h1.cell (by omega))
  have hc4 : ∀ e : Ext w1.heap.size w1, e.x.cell? ⟨g, i * 4 + 1, none⟩ = some (.int .i64 x.fr) := fun e => (e.h.cell (p := ⟨g, _, none⟩) hgl).trans d1
  have hc5 : ∀ e : Ext w1.heap.size w1, e.x.cell? ⟨g, i * 4 + 2, none⟩ = some (.int .i64 x.to) := fun e => (e.h.cell (p := ⟨g, _, none⟩) hgl).trans d2
  have hbx : ∀ e : Ext w1.heap.size w1, Below w.heap.size w e.x := fun e => hbw.trans (e.h.mono hbw.size)
  have HBX := Lib.hid hbx
  have hSw : ∀ k, S k → k < w.heap.size := HP.out.lt
  have HSW := Lib.hid hSw
  unfold maxLen at hc2
  clear h1 h2 h3 h4 h5 h6 h7 h8 h9 d0 d1 d2 d3 hc3 hbx hSw
  go_wp2_with fail
  refine wp_region_below w1.heap.size (by kernel_rfl) (by kernel_rfl) ?_
  repeat (go_big_quiet_step ((go_at_call 27; rename_i e; exact below_call_same e (HBL.out _ (HBX.out e)))))
  refine wpQuiet_nil ?_
  intro w2 hb2
  have hg2 : PkRow w2 w.heap.size pk0 := rowIs_below hg hb2 hg.lt
  have hbw2 := hbw.trans (hb2.mono hbw.size)
  clear hg hbw hb2 hc hc4 hc5 hc1 hc2 HBX
  have hp2 := HP.out.below hbw2
  obtain ⟨v, u, h1, h2, h3, h4, h5, h6, h7, h8, h9⟩ := hp2
  obtain ⟨a, cap, rfl, hc1, hc2, hc3⟩ := h2.shape
  obtain ⟨g, rfl, _, _, hgl, d0, d1, d2, d3⟩ := hc3 i x HX.out
  have c2 : w2.cell? ⟨R, 2, none⟩ = some (.slice (some ⟨g, 0, none⟩) r.L.length cap) := h1.cell (by omega)
  unfold maxLen at hc2
  clear h1 h2 h3 h4 h5 h6 h7 h8 h9 hc3
  go_wp2_with fail
  obtain ⟨W, hW⟩ : ∃ W, W = w2.alloc (.cells #[.int .i64 x.id, .int .i64 x.fr, .int .i64 x.to, .string x.body] 49) := ⟨_, rfl⟩
  have hbW : Below w.heap.size w W := by rw [hW]; exact hbw2.alloc hbw2.size _
  obtain ⟨T, hT⟩ : ∃ T, T = w2.heap.size := ⟨_, rfl⟩
  have hgT : PkRow W T x := by rw [hW, hT]; exact rowIs_lit w2 [.int .i64 x.id, .int .i64 x.fr, .int .i64 x.to, .string x.body] 49 4 _ rfl
  have hgW : PkRow W w.heap.size pk0 := by rw [hW]; exact World.rowIs.alloc hg2 _
  have hTne : w.heap.size < T := by rw [hT]; exact hg2.lt
  rw [← hW, ← hT]
  clear hW hT d0 d1 d2 d3 c2 hg2 hbw2 hc1 hc2 hgl
  refine (HDR.out W hbW).mono ?_
  rintro e w3 ⟨rfl, hk, hr⟩
  have HT4 : Hid (PkRow w3 T x) := Lib.hid (hgT.of_block (hk.block T hgT.lt (fun e => by have := HSW.out T e; omega)))
  have HW4 : Hid (PkRow w3 w.heap.size pk0) := Lib.hid (hgW.of_block (hk.block _ hgW.lt (fun e => by have := HSW.out _ e; omega)))
  have HK := Lib.hid hk
  have HR := Lib.hid hr
  have hWT : w.heap.size < W.heap.size := hgW.lt
  clear hgT hgW hk hr
  go_wp2_with (first
    | (refine wpList_load_abs rfl 49 (.tmp 7) rfl T rfl 49 4 _ HT4.out _ Try.underlying49 rfl sz49 ?_; intro ds hds)
    | (refine wpList_store_abs rfl 49 (.tmp 4) (.tmp 44) rfl w.heap.size rfl ds rfl 49 4 _ _ HW4.out (hds.out.trans rfl) sz49 (r4_one x) ?_; intro w5 hg5 hgr5 _)
    | fail)
  refine bodyPost_ret (results_row2 (g := w.heap.size) rfl rfl rfl (pkRow_block hg5) Try.underlying49 rfl sz49) rfl ⟨rfl, ?_⟩
  have hk5 : Kept S w w5 := ((Kept.of_below hbW).trans HK.out (fun _ _ h => h)).trans (Kept.of_grown (S := fun i => i = w.heap.size) hgr5 (fun k hk => by cases hk; rfl)) (fun i hi e => by omega)
  refine ⟨hk5, (HR.out.keep (fun k hk => hgr5.block k (HR.out.lt k hk) (fun e => ?_)) hgr5.size).mono (fun i hi => ?_) (Gr.lt HSW.out hk5.size)⟩
  · cases e
    rcases hk with hk | ⟨hk, _⟩
    · have := HSW.out _ hk; omega
    · omega
  · rcases hi with hi | ⟨h1, h2⟩
    · exact .inl hi
    · exact .inr ⟨Nat.le_trans hbW.size h1, Nat.lt_of_lt_of_le h2 hgr5.size⟩
/-- r.Take(id). -/
theorem rtake_any (S : Nat → Prop) (R : Nat) (r : Rst) (id : Int) (w : World) (hp : RefSt S w R r) :
    Calls Try.prog 22 #[.pointer (some ⟨R, 0, none⟩), .int .i64 id] w fun e w' => e = .returned (.tuple #[pka (r.takeX id), .bool (r.takes id)]) ∧ Kept S w w' ∧ RefSt (Gr S w w') w' R (r.take id) := by
  unfold Rst.take Rst.takeX
  rcases fndI_cases id r.L with ⟨h1, h2⟩ | ⟨i, x, h1, hx, h2⟩
  · rw [Rst.take_no h1]
    exact (rtake_none S R r id w hp h1).mono fun e w' ⟨he, hb⟩ => ⟨he, Kept.gr_ref hp hb⟩
  · obtain ⟨e1, e2⟩ := Rst.take_some h1 hx
    rw [e1, e2]
    cases hq : r.bl x.fr x.to
    · rw [h1, Int.toNat_natCast]
      exact rtake_free S R r id w hp i x h1 hx hq
    · exact (rtake_blocked S R r id w hp i x h1 hx hq).mono fun e w' ⟨he, hb⟩ => ⟨he, Kept.gr_ref hp hb⟩
end Go.Proofs.Ytocpneliofjabaa
