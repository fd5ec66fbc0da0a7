/-
  Take, Drop, Block, Free, First.
-/
import Derived.Test.YtocpneliofjabaaP4
namespace Go.Proofs.Ytocpneliofjabaa
open Go.RowKit
set_option maxRecDepth 100000

def Pst.cut (s : Pst) (i : Nat) : Pst := ⟨s.most, s.last, rmv i s.L, s.D⟩
theorem mem_rmv {i : Nat} {L : List Pk} {x : Pk} (h : x ∈ rmv i L) : x ∈ L := by
  rcases List.mem_append.1 h with h | h
  · exact List.mem_of_mem_take h
  · exact List.mem_of_mem_drop h
theorem length_rmv {i : Nat} {L : List Pk} (h : i < L.length) : (rmv i L).length = L.length - 1 := by simp [rmv]; omega
theorem Pst.cut_fine {s : Pst} (h : s.Fine) {i : Nat} (hi : i < s.L.length) : (s.cut i).Fine := by
  obtain ⟨h1, h2, h3, h4, h5, h6, h7⟩ := h
  have hl := length_rmv hi
  exact ⟨h1, h2, h3, h4, by show ((rmv i s.L).length : Int) ≤ s.last; omega, by show ((rmv i s.L).length : Int) ≤ s.most; omega, fun x hx => h7 x (mem_rmv hx)⟩
/-- Behind a packet's striking, and the store of what is left. -/
theorem post_cut {S : Nat → Prop} {w w3 : World} {P n m : Nat} {s : Pst} {v v3 : Value} (hrow : w.rowIs P 58 4 (r4 (.int .i64 s.most) (.int .i64 s.last) v (.map (some m))))
    (hgr : w.grownBy w3 v.ownBlock) (hat : v3.ownBlock = v.ownBlock) (ho3 : PkOwn 0 w3 v3 s.L) (hm : MapQ w m n s.D)
    (h4 : S P) (h5 : S m) (h7 : P ≠ m) (h8 : ∀ i, S i → i < w.heap.size) (hvS : ∀ g, v.ownBlock = some g → S g ∧ g ≠ P ∧ g ≠ m) (hf : s.Fine) :
    Kept S w (w3.setCell ⟨P, 2, none⟩ v3) ∧ PostSt S (w3.setCell ⟨P, 2, none⟩ v3) P n s := by
  have hk3 : Kept S w w3 := Kept.of_grown hgr (fun i hi => (hvS i hi).1)
  have hblk : ∀ i, S i → (v.ownBlock ≠ some i) → w3.heap[i]? = w.heap[i]? := fun i hi hne => hgr.block i (h8 i hi) (fun e => hne e.symm)
  have hrow3 : w3.rowIs P 58 4 (r4 (.int .i64 s.most) (.int .i64 s.last) v (.map (some m))) := hrow.of_block (hblk P h4 (fun e => (hvS P e).2.1 rfl))
  have hm3 : MapQ w3 m n s.D := hm.kept (hblk m h5 (fun e => (hvS m e).2.2 rfl))
  have hsz : (w3.setCell ⟨P, 2, none⟩ v3).heap.size = w3.heap.size := by simp [World.setCell]
  rw [← hat] at hvS
  refine ⟨hk3.setCell (fun _ => h4) _, v3, m, ?_, ?_, ?_, h4, h5, hvS, h7, ?_, hf⟩
  · exact (hrow3.set 2 _).congr (fun i _ => r4_set2 _ _ _ _ _ i)
  · exact ho3.keep (fun k hk => Below.heap_setCell _ _ _ _ (hvS k hk).2.1)
  · exact hm3.kept (Below.heap_setCell _ _ _ _ (Ne.symm h7))
  · exact fun i hi => Nat.lt_of_lt_of_le (h8 i hi) (by rw [hsz]; exact hk3.size)
theorem post_same {S : Nat → Prop} {w w' : World} {P n : Nat} {s : Pst} (hS : ∀ i, S i → i < w.heap.size) (h : Kept S w w' ∧ PostSt S w' P n s) : Kept S w w' ∧ PostSt (Gr S w w') w' P n s :=
  ⟨h.1, h.2.mono (fun _ hi => .inl hi) (Gr.lt hS h.1.size)⟩
def Pst.drop (s : Pst) (id : Int) : Pst := if fndI id s.L < 0 then s else s.cut (fndI id s.L).toNat
def Pst.dropN (s : Pst) (id : Int) : Bool := decide (0 ≤ fndI id s.L)
set_option maxHeartbeats 4000000 in
/-- p.Drop(id). -/
theorem drop_any (S : Nat → Prop) (P n : Nat) (s : Pst) (id : Int) (w : World) (hp : PostSt S w P n s) :
    Calls Try.prog 19 #[.pointer (some ⟨P, 0, none⟩), .int .i64 id] w fun e w' => e = .returned (.bool (s.dropN id)) ∧ Kept S w w' ∧ PostSt (Gr S w w') w' P n (s.drop id) := by
  unfold Pst.drop Pst.dropN
  have HP := Lib.hid hp
  have hf := find_any S P n s id w hp
  rcases fndI_cases id s.L with ⟨h1, h2⟩ | ⟨i, x, h1, hx, h2⟩
  · rw [h1] at hf ⊢
    clear hp h1 h2
    go_enter Try.func19, Try.ntmps19
    go_wp2_with fail
    refine hf.mono ?_
    rintro e w1 ⟨rfl, hb1⟩
    go_wp2_with fail
    go_ret
    exact ⟨rfl, Kept.gr_post HP.out hb1⟩
  · rw [h1] at hf ⊢
    rw [if_neg (by omega), Int.toNat_natCast]
    have hd : decide (0 ≤ (i : Int)) = true := by simp
    rw [hd]
    have hi : i < s.L.length := (List.getElem?_eq_some_iff.1 hx).1
    have HX := Lib.hid hx
    clear hp h1 h2 hx hd
    go_enter Try.func19, Try.ntmps19
    go_wp2_with fail
    refine hf.mono ?_
    rintro e w1 ⟨rfl, hb1⟩
    have hp1 := HP.out.below hb1
    obtain ⟨v, m, h1, h2, h3, h4, h5, h6, h7, h8, h9⟩ := hp1
    have c2 : w1.cell? ⟨P, 2, none⟩ = some v := h1.cell (by omega)
    have hLb : s.L.length ≤ 256 := by have := h9.room; have := h9.m2; omega
    have H1 := Lib.hid h1
    have H2 := Lib.hid h2
    have H3 := Lib.hid h3
    have H6 := Lib.hid h6
    have H8 := Lib.hid h8
    have H9 := Lib.hid h9
    clear h1 h2 h3 h6 h8 h9 hf
    go_wp2_with fail
    refine (del_any v s.L i w1 H2.out (by omega) hi).mono ?_
    rintro e w2 ⟨v2, rfl, hat, ho2, hgr⟩
    have hrow2 := H1.out.of_block (hgr.block P (H8.out P h4) (fun e => (H6.out P e.symm).2.1 rfl))
    have e2 : w2.cell? ⟨P, 2, none⟩ = some v := hrow2.cell (by omega)
    have f2 := hrow2.frozen 2
    have HF := Lib.hid (post_then hb1 HP.out.lt (post_same H8.out (post_cut (s := s.cut i) H1.out hgr hat ho2 H3.out h4 h5 h7 H8.out H6.out (Pst.cut_fine H9.out hi))))
    obtain ⟨a2, cap2, rfl, _, _, _⟩ := ho2.shape
    obtain ⟨q, hq⟩ : ∃ q, q = (rmv i s.L).length := ⟨_, rfl⟩
    rw [← hq] at HF ⊢
    clear hat ho2 hgr hrow2 hq
    go_wp2_with fail
    go_ret
    exact ⟨rfl, HF.out⟩
theorem drop_nil (id : Int) (w : World) : Calls Try.prog 19 #[.pointer none, .int .i64 id] w fun e w' => e = .returned (.bool false) ∧ Below w.heap.size w w' := by
  go_enter Try.func19, Try.ntmps19
  go_wp2_with fail
  refine (find_nil id w).mono ?_
  rintro e w1 ⟨rfl, hb1⟩
  go_wp2_with fail
  go_ret
  exact ⟨rfl, hb1⟩

def pk0 : Pk := ⟨0, 0, 0, ⟨#[]⟩⟩
/-- May the packet of a number be taken? -/
def Pst.takes (s : Pst) (id : Int) : Bool := decide (0 ≤ fndI id s.L) && match s.at id with | some x => !s.bl x.fr x.to | none => false
def Pst.take (s : Pst) (id : Int) : Pst := if s.takes id then s.cut (fndI id s.L).toNat else s
def Pst.takeX (s : Pst) (id : Int) : Pk := if s.takes id then (s.at id).getD pk0 else pk0
theorem Pst.take_no {s : Pst} {id : Int} (h : fndI id s.L = -1) : s.takes id = false := by unfold Pst.takes; rw [h]; rfl
theorem Pst.take_some {s : Pst} {id : Int} {i : Nat} {x : Pk} (h : fndI id s.L = i) (hx : s.L[i]? = some x) : s.takes id = !s.bl x.fr x.to ∧ s.at id = some x := by
  have e : s.at id = some x := by unfold Pst.at; rw [h, Int.toNat_natCast, hx]
  refine ⟨?_, e⟩
  unfold Pst.takes
  rw [e, h]
  simp

theorem r4_one (x : Pk) : ∀ j, j < 4 → (r4 (.int .i64 x.id) (.int .i64 x.fr) (.int .i64 x.to) (.string x.body) j).oneCell' = true := fun j hj => by
  match j, hj with
  | 0, _ => rfl
  | 1, _ => rfl
  | 2, _ => rfl
  | 3, _ => rfl
/-- A packet in a row of its own. -/
def PkRow (w : World) (b : Nat) (x : Pk) : Prop := w.rowIs b 49 4 (r4 (.int .i64 x.id) (.int .i64 x.fr) (.int .i64 x.to) (.string x.body))
theorem pka_arr (x : Pk) : (#[.int .i64 x.id, .int .i64 x.fr, .int .i64 x.to, .string x.body] : Array Value) = rowArr 4 (r4 (.int .i64 x.id) (.int .i64 x.fr) (.int .i64 x.to) (.string x.body)) := rfl
theorem pkRow_block {w : World} {b : Nat} {x : Pk} (h : PkRow w b x) : w.heap[b]? = some (.cells #[.int .i64 x.id, .int .i64 x.fr, .int .i64 x.to, .string x.body] 49 (0, 0)) := by
  rw [pka_arr]; exact rowIs_block h

set_option maxHeartbeats 4000000 in
/-- p.Take(id): there is none. -/
theorem take_none (S : Nat → Prop) (P n : Nat) (s : Pst) (id : Int) (w : World) (hp : PostSt S w P n s) (hf : fndI id s.L = -1) :
    Calls Try.prog 18 #[.pointer (some ⟨P, 0, none⟩), .int .i64 id] w fun e w' => e = .returned (.tuple #[pka pk0, .bool false]) ∧ Below w.heap.size w w' := by
  have hfi := fun w1 (hb : Below w.heap.size w w1) => hf ▸ find_any S P n s id w1 (hp.below hb)
  have HFI := Lib.hid hfi
  clear hp hf hfi
  go_enter Try.func18, Try.ntmps18
  go_wp2_with fail
  refine (HFI.out _ ((Below.refl _ _).alloc (Nat.le_refl _) _)).mono ?_
  rintro e w1 ⟨rfl, hb1⟩
  have hg : PkRow w1 w.heap.size pk0 := rowIs_below (rowIs_lit w [.int .i64 0, .int .i64 0, .int .i64 0, .string ⟨#[]⟩] 49 4 _ rfl) hb1 (by simp)
  have hbw : Below w.heap.size w w1 := ((Below.refl _ _).alloc (Nat.le_refl _) _).trans (hb1.mono (by simp))
  clear hb1
  go_wp2_with fail
  refine wp_region_below w1.heap.size (by kernel_rfl) (by kernel_rfl) ?_
  repeat (go_big_quiet_step (fail))
  refine wpQuiet_nil ?_
  intro w2 hb2
  have HG2 := Lib.hid (rowIs_below hg hb2 hg.lt)
  have hbw2 := hbw.trans (hb2.mono hbw.size)
  clear hg hbw hb2
  go_wp2_with (first
    | (refine wpList_store_abs rfl 49 (.tmp 4) (.tmp 33) rfl w.heap.size rfl #[.int .i64 0, .int .i64 0, .int .i64 0, .string ⟨#[]⟩] rfl 49 4 _ _ HG2.out (pka_arr pk0) sz49 (r4_one pk0) ?_; intro w3 hg3 hgr3 _)
    | fail)
  exact bodyPost_ret (results_row2 (g := w.heap.size) rfl rfl rfl (pkRow_block hg3) Try.underlying49 rfl sz49) rfl ⟨rfl, hbw2.trans (below_of_grown hgr3 (Nat.le_refl _) hbw2.size)⟩
set_option maxHeartbeats 4000000 in
/-- p.Take(id): its pair is blocked. -/
theorem take_blocked (S : Nat → Prop) (P n : Nat) (s : Pst) (id : Int) (w : World) (hp : PostSt S w P n s) (i : Nat) (x : Pk) (hf : fndI id s.L = i) (hx : s.L[i]? = some x) (hq : s.bl x.fr x.to = true) :
    Calls Try.prog 18 #[.pointer (some ⟨P, 0, none⟩), .int .i64 id] w fun e w' => e = .returned (.tuple #[pka pk0, .bool false]) ∧ Below w.heap.size w w' := by
  have hfi := fun w1 (hb : Below w.heap.size w w1) => hf ▸ find_any S P n s id w1 (hp.below hb)
  have HFI := Lib.hid hfi
  have HP := Lib.hid hp
  have HX := Lib.hid hx
  have hi : i < s.L.length := (List.getElem?_eq_some_iff.1 hx).1
  have hi0 : decide ((i : Int) < 0) = false := by simp
  have hi1 : (0 : Int) ≤ (i : Int) := by omega
  have hi2 : (i : Int) < (s.L.length : Int) := by omega
  have hpk := hp.fine.pk x (List.mem_of_getElem? hx)
  have hbl := fun w1 (hb : Below w.heap.size w w1) => hq ▸ blocked_any S P n s x.fr x.to hpk.2.1 hpk.2.2 w1 (hp.below hb)
  have HBL := Lib.hid hbl
  clear hp hf hfi hx hpk hq hbl
  go_enter Try.func18, Try.ntmps18
  go_wp2_with fail
  refine (HFI.out _ ((Below.refl _ _).alloc (Nat.le_refl _) _)).mono ?_
  rintro e w1 ⟨rfl, hb1⟩
  have hg : PkRow w1 w.heap.size pk0 := rowIs_below (rowIs_lit w [.int .i64 0, .int .i64 0, .int .i64 0, .string ⟨#[]⟩] 49 4 _ rfl) hb1 (by simp)
  have hbw : Below w.heap.size w w1 := ((Below.refl _ _).alloc (Nat.le_refl _) _).trans (hb1.mono (by simp))
  have hp1 := HP.out.below hbw
  obtain ⟨v, m, h1, h2, h3, h4, h5, h6, h7, h8, h9⟩ := hp1
  have hLb : s.L.length ≤ 256 := by have := h9.room; have := h9.m2; omega
  obtain ⟨a, cap, rfl, hc1, hc2, hc3⟩ := h2.shape
  obtain ⟨g, rfl, _, _, hgl, d0, d1, d2, d3⟩ := hc3 i x HX.out
  have hc : ∀ e : Ext w1.heap.size w1, e.x.cell? ⟨P, 2, none⟩ = some (.slice (some ⟨g, 0, none⟩) s.L.length cap) := fun e => (e.h.cell (p := ⟨P, 2, none⟩) (h8 P h4)).trans (h1.cell (by omega))
  have hc4 : ∀ e : Ext w1.heap.size w1, e.x.cell? ⟨g, i * 4 + 1, none⟩ = some (.int .i64 x.fr) := fun e => (e.h.cell (p := ⟨g, _, none⟩) hgl).trans d1
  have hc5 : ∀ e : Ext w1.heap.size w1, e.x.cell? ⟨g, i * 4 + 2, none⟩ = some (.int .i64 x.to) := fun e => (e.h.cell (p := ⟨g, _, none⟩) hgl).trans d2
  have hbx : ∀ e : Ext w1.heap.size w1, Below w.heap.size w e.x := fun e => hbw.trans (e.h.mono hbw.size)
  have HBX := Lib.hid hbx
  unfold maxLen at hc2
  clear hb1 h1 h2 h3 h5 h6 h7 h8 h9 d0 d1 d2 d3 hc3 hbx
  go_wp2_with fail
  refine wp_region_below w1.heap.size (by kernel_rfl) (by kernel_rfl) ?_
  repeat (go_big_quiet_step ((go_at_call 16; rename_i e; exact below_call (Nat.le_refl _) e (HBL.out _ (HBX.out e)))))
  refine wpQuiet_nil ?_
  intro w2 hb2
  have HG2 := Lib.hid (rowIs_below hg hb2 hg.lt)
  have hbw2 := hbw.trans (hb2.mono hbw.size)
  clear hg hbw hb2 hc hc4 hc5
  go_wp2_with (first
    | (refine wpList_store_abs rfl 49 (.tmp 4) (.tmp 33) rfl w.heap.size rfl #[.int .i64 0, .int .i64 0, .int .i64 0, .string ⟨#[]⟩] rfl 49 4 _ _ HG2.out (pka_arr pk0) sz49 (r4_one pk0) ?_; intro w3 hg3 hgr3 _)
    | fail)
  exact bodyPost_ret (results_row2 (g := w.heap.size) rfl rfl rfl (pkRow_block hg3) Try.underlying49 rfl sz49) rfl ⟨rfl, hbw2.trans (below_of_grown hgr3 (Nat.le_refl _) hbw2.size)⟩
set_option maxHeartbeats 4000000 in
/-- p.Take(id): it may be taken. -/
theorem take_free (S : Nat → Prop) (P n : Nat) (s : Pst) (id : Int) (w : World) (hp : PostSt S w P n s) (i : Nat) (x : Pk) (hf : fndI id s.L = i) (hx : s.L[i]? = some x) (hq : s.bl x.fr x.to = false) :
    Calls Try.prog 18 #[.pointer (some ⟨P, 0, none⟩), .int .i64 id] w fun e w' => e = .returned (.tuple #[pka x, .bool true]) ∧ Kept S w w' ∧ PostSt (Gr S w w') w' P n (s.cut i) := by
  have hfi := fun w1 (hb : Below w.heap.size w w1) => hf ▸ find_any S P n s id w1 (hp.below hb)
  have HFI := Lib.hid hfi
  have HP := Lib.hid hp
  have HX := Lib.hid hx
  have hi : i < s.L.length := (List.getElem?_eq_some_iff.1 hx).1
  have hi0 : decide ((i : Int) < 0) = false := by simp
  have hi1 : (0 : Int) ≤ (i : Int) := by omega
  have hi2 : (i : Int) < (s.L.length : Int) := by omega
  have hpk := hp.fine.pk x (List.mem_of_getElem? hx)
  have hbl := fun w1 (hb : Below w.heap.size w w1) => hq ▸ blocked_any S P n s x.fr x.to hpk.2.1 hpk.2.2 w1 (hp.below hb)
  have HBL := Lib.hid hbl
  clear hp hf hfi hx hpk hq hbl
  go_enter Try.func18, Try.ntmps18
  go_wp2_with fail
  refine (HFI.out _ ((Below.refl _ _).alloc (Nat.le_refl _) _)).mono ?_
  rintro e w1 ⟨rfl, hb1⟩
  have hg : PkRow w1 w.heap.size pk0 := rowIs_below (rowIs_lit w [.int .i64 0, .int .i64 0, .int .i64 0, .string ⟨#[]⟩] 49 4 _ rfl) hb1 (by simp)
  have hbw : Below w.heap.size w w1 := ((Below.refl _ _).alloc (Nat.le_refl _) _).trans (hb1.mono (by simp))
  have hp1 := HP.out.below hbw
  obtain ⟨v, m, h1, h2, h3, h4, h5, h6, h7, h8, h9⟩ := hp1
  have hLb : s.L.length ≤ 256 := by have := h9.room; have := h9.m2; omega
  obtain ⟨a, cap, rfl, hc1, hc2, hc3⟩ := h2.shape
  obtain ⟨g, rfl, _, _, hgl, d0, d1, d2, d3⟩ := hc3 i x HX.out
  have hc : ∀ e : Ext w1.heap.size w1, e.x.cell? ⟨P, 2, none⟩ = some (.slice (some ⟨g, 0, none⟩) s.L.length cap) := fun e => (e.h.cell (p := ⟨P, 2, none⟩) (h8 P h4)).trans (h1.cell (by omega))
  have hc4 : ∀ e : Ext w1.heap.size w1, e.x.cell? ⟨g, i * 4 + 1, none⟩ = some (.int .i64 x.fr) := fun e => (e.h.cell (p := ⟨g, _, none⟩) hgl).trans d1
  have hc5 : ∀ e : Ext w1.heap.size w1, e.x.cell? ⟨g, i * 4 + 2, none⟩ = some (.int .i64 x.to) := fun e => (e.h.cell (p := ⟨g, _, none⟩) hgl).trans d2
  have hbx : ∀ e : Ext w1.heap.size w1, Below w.heap.size w e.x := fun e => hbw.trans (e.h.mono hbw.size)
  have HBX := Lib.hid hbx
  unfold maxLen at hc2
  clear hb1 h1 h2 h3 h4 h5 h6 h7 h8 h9 d0 d1 d2 d3 hc3 hbx
  go_wp2_with fail
  refine wp_region_below w1.heap.size (by kernel_rfl) (by kernel_rfl) ?_
  repeat (go_big_quiet_step ((go_at_call 16; rename_i e; exact below_call (Nat.le_refl _) e (HBL.out _ (HBX.out e)))))
  refine wpQuiet_nil ?_
  intro w2 hb2
  have hg2 : PkRow w2 w.heap.size pk0 := rowIs_below hg hb2 hg.lt
  have hbw2 := hbw.trans (hb2.mono hbw.size)
  clear hg hbw hb2 hc hc4 hc5 hc1 hc2 HBX
  have hp2 := HP.out.below hbw2
  obtain ⟨v, m, h1, h2, h3, h4, h5, h6, h7, h8, h9⟩ := hp2
  obtain ⟨a, cap, rfl, hc1, hc2, hc3⟩ := h2.shape
  obtain ⟨g, rfl, _, _, hgl, d0, d1, d2, d3⟩ := hc3 i x HX.out
  have c2 : w2.cell? ⟨P, 2, none⟩ = some (.slice (some ⟨g, 0, none⟩) s.L.length cap) := h1.cell (by omega)
  have hPl := h8 P h4
  unfold maxLen at hc2
  have H1 := Lib.hid h1
  have H2 := Lib.hid h2
  have H3 := Lib.hid h3
  have H6 := Lib.hid h6
  have H8 := Lib.hid h8
  have H9 := Lib.hid h9
  clear h1 h2 h3 h6 h8 h9 hc3
  go_wp2_with fail
  obtain ⟨W, hW⟩ : ∃ W, W = w2.alloc (.cells #[.int .i64 x.id, .int .i64 x.fr, .int .i64 x.to, .string x.body] 49) := ⟨_, rfl⟩
  have hbW : Below w.heap.size w W := by rw [hW]; exact hbw2.alloc hbw2.size _
  obtain ⟨T, hT⟩ : ∃ T, T = w2.heap.size := ⟨_, rfl⟩
  have hgT : PkRow W T x := by rw [hW, hT]; exact rowIs_lit w2 [.int .i64 x.id, .int .i64 x.fr, .int .i64 x.to, .string x.body] 49 4 _ rfl
  have hgW : PkRow W w.heap.size pk0 := by rw [hW]; exact World.rowIs.alloc hg2 _
  have hTne : w.heap.size < T := by rw [hT]; exact hg2.lt
  have hbk : ∀ k, S k → W.heap[k]? = w2.heap[k]? := fun k hk => by rw [hW]; exact Go.Deep.blk_alloc_lt _ _ _ (H8.out k hk)
  have hSz : ∀ k, S k → k < W.heap.size := fun k hk => by rw [hW]; simp; have := H8.out k hk; omega
  have hSw : ∀ k, S k → k < w.heap.size := HP.out.lt
  rw [← hW, ← hT]
  clear hW hT d0 d1 d2 d3 c2 hg2 hbw2 hc1 hc2 hgl hPl H8
  obtain ⟨v, hv⟩ : ∃ v, v = Value.slice (some ⟨g, 0, none⟩) s.L.length cap := ⟨_, rfl⟩
  rw [← hv]
  have hv6 : ∀ k, v.ownBlock = some k → S k ∧ k ≠ P ∧ k ≠ m := hv ▸ H6.out
  have hr : W.rowIs P 58 4 (r4 (.int .i64 s.most) (.int .i64 s.last) v (.map (some m))) := by rw [hv]; exact H1.out.of_block (hbk P h4)
  have ho : PkOwn 0 W v s.L := PkOwn.keep (hv ▸ H2.out) (fun k hk => hbk k (hv6 k hk).1)
  have hm : MapQ W m n s.D := H3.out.kept (hbk m h5)
  have HBK := Lib.hid hbk
  clear hv hbk H1 H2 H3 H6
  refine (del_any v s.L i W ho (by omega) hi).mono ?_
  rintro e w3 ⟨v3, rfl, hat, ho3, hgr⟩
  have hrow3 := hr.of_block (hgr.block P (hSz P h4) (fun e => (hv6 P e.symm).2.1 rfl))
  have e2 : w3.cell? ⟨P, 2, none⟩ = some v := hrow3.cell (by omega)
  have f2 := hrow3.frozen 2
  have hkp := post_cut (s := s.cut i) hr hgr hat ho3 hm h4 h5 h7 hSz hv6 (Pst.cut_fine H9.out hi)
  have hgT3 : PkRow w3 T x := hgT.of_block (hgr.block T hgT.lt (fun e => by have := hSw T (hv6 T e.symm).1; omega))
  have hgW3 : PkRow w3 w.heap.size pk0 := hgW.of_block (hgr.block _ hgW.lt (fun e => by have := hSw _ (hv6 _ e.symm).1; omega))
  have hPT : P ≠ T := by have := hSw P h4; omega
  have hPw : P ≠ w.heap.size := by have := hSw P h4; omega
  obtain ⟨a3, cap3, rfl, _, _, _⟩ := ho3.shape
  obtain ⟨q, hq⟩ : ∃ q, q = (rmv i s.L).length := ⟨_, rfl⟩
  rw [← hq] at hkp ⊢
  have hgT4 : PkRow (w3.setCell ⟨P, 2, none⟩ (.slice a3 q cap3)) T x := World.rowIs.setOther hgT3 (by exact Ne.symm hPT) _
  have hgW4 : PkRow (w3.setCell ⟨P, 2, none⟩ (.slice a3 q cap3)) w.heap.size pk0 := World.rowIs.setOther hgW3 (by exact Ne.symm hPw) _
  have HKP := Lib.hid hkp
  have HT4 := Lib.hid hgT4
  have HW4 := Lib.hid hgW4
  clear hq ho3 hat hgr hrow3 hkp hgT3 hgW3 hgT4 hgW4 hr ho hm hgT hgW hPT hPw
  go_wp2_with (first
    | (refine wpList_load_abs rfl 49 (.tmp 7) rfl T rfl 49 4 _ HT4.out _ Try.underlying49 rfl sz49 ?_; intro ds hds)
    | (refine wpList_store_abs rfl 49 (.tmp 4) (.tmp 52) rfl w.heap.size rfl ds rfl 49 4 _ _ HW4.out (hds.out.trans rfl) sz49 (r4_one x) ?_; intro w5 hg5 hgr5 _)
    | fail)
  refine bodyPost_ret (results_row2 (g := w.heap.size) rfl rfl rfl (pkRow_block hg5) Try.underlying49 rfl sz49) rfl ⟨rfl, ?_⟩
  have hk5 : Kept S w w5 := ((Kept.of_below hbW).trans HKP.out.1 (fun _ _ h => h)).trans (Kept.of_grown (S := fun i => i = w.heap.size) hgr5 (fun k hk => by cases hk; rfl)) (fun i hi e => by omega)
  exact ⟨hk5, (HKP.out.2.keep (fun k hk => hgr5.block k (HKP.out.2.lt k hk) (fun e => by cases e; have := hSw _ hk; omega)) hgr5.size).mono (fun _ h => .inl h) (Gr.lt hSw hk5.size)⟩
/-- p.Take(id). -/
theorem take_any (S : Nat → Prop) (P n : Nat) (s : Pst) (id : Int) (w : World) (hp : PostSt S w P n s) :
    Calls Try.prog 18 #[.pointer (some ⟨P, 0, none⟩), .int .i64 id] w fun e w' => e = .returned (.tuple #[pka (s.takeX id), .bool (s.takes id)]) ∧ Kept S w w' ∧ PostSt (Gr S w w') w' P n (s.take id) := by
  unfold Pst.take Pst.takeX
  rcases fndI_cases id s.L with ⟨h1, h2⟩ | ⟨i, x, h1, hx, h2⟩
  · rw [Pst.take_no h1]
    exact (take_none S P n s id w hp h1).mono fun e w' ⟨he, hb⟩ => ⟨he, Kept.gr_post hp hb⟩
  · obtain ⟨e1, e2⟩ := Pst.take_some h1 hx
    rw [e1, e2]
    cases hq : s.bl x.fr x.to
    · rw [h1, Int.toNat_natCast]
      exact take_free S P n s id w hp i x h1 hx hq
    · exact (take_blocked S P n s id w hp i x h1 hx hq).mono fun e w' ⟨he, hb⟩ => ⟨he, Kept.gr_post hp hb⟩
theorem take_nil (id : Int) (w : World) : Calls Try.prog 18 #[.pointer none, .int .i64 id] w fun e w' => e = .returned (.tuple #[pka pk0, .bool false]) ∧ Below w.heap.size w w' := by
  have HFI := Lib.hid (fun w1 => find_nil id w1)
  go_enter Try.func18, Try.ntmps18
  go_wp2_with fail
  refine (HFI.out _).mono ?_
  rintro e w1 ⟨rfl, hb1⟩
  have hg : PkRow w1 w.heap.size pk0 := rowIs_below (rowIs_lit w [.int .i64 0, .int .i64 0, .int .i64 0, .string ⟨#[]⟩] 49 4 _ rfl) hb1 (by simp)
  have hbw : Below w.heap.size w w1 := ((Below.refl _ _).alloc (Nat.le_refl _) _).trans (hb1.mono (by simp))
  clear hb1
  go_wp2_with fail
  refine wp_region_below w1.heap.size (by kernel_rfl) (by kernel_rfl) ?_
  repeat (go_big_quiet_step (fail))
  refine wpQuiet_nil ?_
  intro w2 hb2
  have HG2 := Lib.hid (rowIs_below hg hb2 hg.lt)
  have hbw2 := hbw.trans (hb2.mono hbw.size)
  clear hg hbw hb2
  go_wp2_with (first
    | (refine wpList_store_abs rfl 49 (.tmp 4) (.tmp 33) rfl w.heap.size rfl #[.int .i64 0, .int .i64 0, .int .i64 0, .string ⟨#[]⟩] rfl 49 4 _ _ HG2.out (pka_arr pk0) sz49 (r4_one pk0) ?_; intro w3 hg3 hgr3 _)
    | fail)
  exact bodyPost_ret (results_row2 (g := w.heap.size) rfl rfl rfl (pkRow_block hg3) Try.underlying49 rfl sz49) rfl ⟨rfl, hbw2.trans (below_of_grown hgr3 (Nat.le_refl _) hbw2.size)⟩
end Go.Proofs.Ytocpneliofjabaa
