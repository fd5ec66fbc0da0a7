/-
  A PACKET BEGINS ITS WAY: add, Send, Double.
-/
import Derived.Test.YtocpneliofjabaaP2
namespace Go.Proofs.Ytocpneliofjabaa
open Go.RowKit
set_option maxRecDepth 100000

def Pst.full (s : Pst) : Bool := decide (s.most ≤ (s.L.length : Int))
def Pst.push (s : Pst) (x : Pk) : Pst := ⟨s.most, s.last + 1, s.L ++ [⟨s.last + 1, x.fr, x.to, x.body⟩], s.D⟩
def Pst.add (s : Pst) (x : Pk) : Pst := if s.full then s else s.push x
def Pst.addN (s : Pst) : Int := if s.full then 0 else s.last + 1
/-- The blocks of S, and those that are new. -/
def Gr (S : Nat → Prop) (w w' : World) (i : Nat) : Prop := S i ∨ (w.heap.size ≤ i ∧ i < w'.heap.size)
theorem Gr.lt {S : Nat → Prop} {w w' : World} (hS : ∀ i, S i → i < w.heap.size) (h : w.heap.size ≤ w'.heap.size) : ∀ i, Gr S w w' i → i < w'.heap.size := fun i hi => by
  rcases hi with hi | hi
  · have := hS i hi; omega
  · exact hi.2
theorem Pst.push_fine {s : Pst} (h : s.Fine) (hl : s.last < 1000000) (hf : s.full = false) (x : Pk) (hx : i64r x.fr ∧ i64r x.to) : (s.push x).Fine := by
  obtain ⟨h1, h2, h3, h4, h5, h6, h7⟩ := h
  have hf2 : (s.L.length : Int) < s.most := by
    unfold Pst.full at hf
    simp at hf
    omega
  refine ⟨h1, h2, ?_, ?_, ?_, ?_, ?_⟩
  · show 0 ≤ s.last + 1; omega
  · show s.last + 1 ≤ 1000000; omega
  · show ((s.L ++ [_]).length : Int) ≤ s.last + 1; simp; omega
  · show ((s.L ++ [_]).length : Int) ≤ s.most; simp; omega
  · intro y hy
    rcases List.mem_append.1 hy with hy | hy
    · exact h7 y hy
    · simp at hy
      subst hy
      exact ⟨by unfold i64r; simp; omega, hx⟩

set_option maxHeartbeats 4000000 in
/-- p.add(x): no room. -/
theorem add_full (S : Nat → Prop) (P n : Nat) (s : Pst) (x : Pk) (w : World) (hp : PostSt S w P n s) (hf : s.full = true) :
    Calls Try.prog 32 #[.pointer (some ⟨P, 0, none⟩), pka x] w fun e w' => e = .returned (.int .i64 0) ∧ Below w.heap.size w w' := by
  obtain ⟨v, m, h1, h2, h3, h4, h5, h6, h7, h8, h9⟩ := hp
  have hP := h8 P h4
  obtain ⟨a, cap, rfl, hc1, hc2, _⟩ := h2.shape
  have c2 : w.cell? ⟨P, 2, none⟩ = some (.slice a s.L.length cap) := h1.cell (by omega)
  have c0 : w.cell? ⟨P, 0, none⟩ = some (.int .i64 s.most) := h1.cell (by omega)
  have hf2 : decide (s.most ≤ (s.L.length : Int)) = true := hf
  clear h1 h2 h3 h4 h5 h6 h7 h8 h9 hf hc1 hc2
  unfold pka
  go_enter Try.func32, Try.ntmps32
  go_wp2_with fail
  go_quiet (fail)
  go_wp2_with fail
  go_ret
  exact ⟨rfl, below_drewN ((Below.refl _ _).alloc (Nat.le_refl _) _) _⟩
theorem r4_set0 (a b c d u : Value) (j : Nat) : (if j = 0 then u else r4 a b c d j) = r4 u b c d j := by
  match j with
  | 0 => rfl
  | k + 1 => simp [r4]
theorem r4_set1 (a b c d u : Value) (j : Nat) : (if j = 1 then u else r4 a b c d j) = r4 a u c d j := by
  match j with
  | 0 => rfl
  | 1 => rfl
  | k + 2 => simp [r4]
theorem r4_set2 (a b c d u : Value) (j : Nat) : (if j = 2 then u else r4 a b c d j) = r4 a b u d j := by
  match j with
  | 0 => rfl
  | 1 => rfl
  | 2 => rfl
  | k + 3 => simp [r4]
theorem r4_set3 (a b c d u : Value) (j : Nat) (hj : j < 4) : (if j = 3 then u else r4 a b c d j) = r4 a b c u j := by
  match j, hj with
  | 0, _ => rfl
  | 1, _ => rfl
  | 2, _ => rfl
  | 3, _ => rfl
theorem pk_later {base : Nat} {w w' : World} {v : Value} {L : List Pk} {o : Obj} (h : PkOwn base w v L) (hW : w' = w.drew.alloc o) : PkOwn base w' v L := by
  subst hW
  exact h.keep (fun k hk => Go.Deep.blk_alloc_lt w.drew o k (h.lt k hk).2)
theorem src_new {w w' : World} {size m b : Nat} {t : TypeId} {cs : List Value} (hl : cs.length = m * size) (hb : b = w.heap.size) (hW : w' = w.drew.alloc (.cells cs.toArray t)) : Src w' size (.slice (some ⟨b, 0, none⟩) m m) m cs := by
  subst hW
  subst hb
  exact Src.of_block (Go.Deep.blk_alloc_new w.drew _) hl
theorem rowIs_drew_alloc {w w' : World} {b : Nat} {t : TypeId} {n : Nat} {f : Nat → Value} {o : Obj} (h : w.rowIs b t n f) (hW : w' = w.drew.alloc o) : w'.rowIs b t n f := by
  subst hW
  exact h.drew.alloc o

theorem Kept.app {S : Nat → Prop} {w W w3 : World} {o : Obj} {row : Option Nat} (hk : Kept S w W) (hg : (W.drew.alloc o).grownBy w3 row) (hr : ∀ i, row = some i → S i) : Kept S w w3 :=
  ((hk.drew).alloc o).trans (Kept.of_grown (S := S) hg hr) (fun _ _ h => h)
theorem kept_to {S : Nat → Prop} {w w' : World} (hk : Kept S w w') {b : Nat} (h : b < w.heap.size) : b < w'.heap.size := Nat.lt_of_lt_of_le h hk.size
/-- Behind an append to the packets, and its store. -/
theorem post_appended {S : Nat → Prop} {w W w3 : World} {P n m : Nat} {s : Pst} {v v3 : Value} {o : Obj} (hrow : W.rowIs P 58 4 (r4 (.int .i64 s.most) (.int .i64 s.last) v (.map (some m)))) (hk : Kept S w W)
    (hgr : (W.drew.alloc o).grownBy w3 v.ownBlock) (hat : v3.ownBlock = v.ownBlock ∨ v3.ownBlock = some (W.drew.alloc o).heap.size) (ho3 : PkOwn 0 w3 v3 s.L) (hm : MapQ W m n s.D)
    (h4 : S P) (h5 : S m) (h7 : P ≠ m) (h8 : ∀ i, S i → i < w.heap.size) (hvS : ∀ g, v.ownBlock = some g → S g ∧ g ≠ P ∧ g ≠ m) (hf : s.Fine) :
    Kept S w (w3.setCell ⟨P, 2, none⟩ v3) ∧ PostSt (Gr S w (w3.setCell ⟨P, 2, none⟩ v3)) (w3.setCell ⟨P, 2, none⟩ v3) P n s := by
  have hk3 : Kept S w w3 := hk.app hgr (fun i hi => (hvS i hi).1)
  have hP := h8 P h4
  have hm' := h8 m h5
  have hblk : ∀ i, S i → (v.ownBlock ≠ some i) → w3.heap[i]? = W.heap[i]? := fun i hi hne => by
    have hi2 : i < W.heap.size := Nat.lt_of_lt_of_le (h8 i hi) hk.size
    exact (hgr.block i (by simp; omega) (fun e => hne e.symm)).trans (Go.Deep.blk_alloc_lt W.drew o i hi2)
  have hrow3 : w3.rowIs P 58 4 (r4 (.int .i64 s.most) (.int .i64 s.last) v (.map (some m))) := hrow.of_block (hblk P h4 (fun e => (hvS P e).2.1 rfl))
  have hm3 : MapQ w3 m n s.D := hm.kept (hblk m h5 (fun e => (hvS m e).2.2 rfl))
  have hv3 : ∀ g, v3.ownBlock = some g → g ≠ P ∧ g ≠ m ∧ g < w3.heap.size ∧ (S g ∨ w.heap.size ≤ g) := fun g hg => by
    have hlt := (ho3.lt g hg).2
    rcases hat with e | e
    · have := hvS g (e ▸ hg)
      exact ⟨this.2.1, this.2.2, hlt, .inl this.1⟩
    · have e2 : g = W.heap.size + 1 := by rw [hg] at e; simpa using e
      have := hk.size
      exact ⟨by omega, by omega, hlt, .inr (by omega)⟩
  have hsz : (w3.setCell ⟨P, 2, none⟩ v3).heap.size = w3.heap.size := by simp [World.setCell]
  refine ⟨hk3.setCell (fun _ => h4) _, v3, m, ?_, ?_, ?_, .inl h4, .inl h5, ?_, h7, ?_, hf⟩
  · exact (hrow3.set 2 _).congr (fun i _ => r4_set2 _ _ _ _ _ i)
  · exact ho3.keep (fun k hk => Below.heap_setCell _ _ _ _ (hv3 k hk).1)
  · exact hm3.kept (Below.heap_setCell _ _ _ _ (Ne.symm h7))
  · intro g hg
    obtain ⟨a1, a2, a3, a4⟩ := hv3 g hg
    exact ⟨a4.imp id (fun h => ⟨h, by rw [hsz]; exact a3⟩), a1, a2⟩
  · exact Gr.lt h8 (by rw [hsz]; exact hk3.size)

set_option maxHeartbeats 4000000 in
/-- p.add(x): room. -/
theorem add_room (S : Nat → Prop) (P n : Nat) (s : Pst) (x : Pk) (hx : i64r x.fr ∧ i64r x.to) (w : World) (hp : PostSt S w P n s) (hl : s.last < 1000000) (hf : s.full = false) :
    Calls Try.prog 32 #[.pointer (some ⟨P, 0, none⟩), pka x] w fun e w' => e = .returned (.int .i64 (s.last + 1)) ∧ Kept S w w' ∧ PostSt (Gr S w w') w' P n (s.push x) := by
  have hfine := Pst.push_fine hp.fine hl hf x hx
  obtain ⟨v, m, h1, h2, h3, h4, h5, h6, h7, h8, h9⟩ := hp
  have hP := h8 P h4
  obtain ⟨a, cap, rfl, hc1, hc2, _⟩ := h2.shape
  have c2 : w.cell? ⟨P, 2, none⟩ = some (.slice a s.L.length cap) := h1.cell (by omega)
  have c0 : w.cell? ⟨P, 0, none⟩ = some (.int .i64 s.most) := h1.cell (by omega)
  have c1 : w.cell? ⟨P, 1, none⟩ = some (.int .i64 s.last) := h1.cell (by omega)
  have f1 := h1.frozen 1
  have f2 := h1.frozen 2
  have hf2 : decide (s.most ≤ (s.L.length : Int)) = false := hf
  have hl0 := h9.l0
  have HFI := Lib.hid hfine
  have H1 := Lib.hid h1
  have H2 := Lib.hid h2
  have H3 := Lib.hid h3
  have H6 := Lib.hid h6
  have H8 := Lib.hid h8
  have H9 := Lib.hid h9
  clear h1 h2 h3 h6 h8 h9 hf hfine
  unfold pka
  go_enter Try.func32, Try.ntmps32
  go_wp2_with fail
  go_quiet (fail)
  go_wp2_with fail
  obtain ⟨v, hv⟩ : ∃ v, v = Value.slice a s.L.length cap := ⟨_, rfl⟩
  have h2' : PkOwn 0 w v s.L := hv ▸ H2.out
  have h1' : w.rowIs P 58 4 (r4 (.int .i64 s.most) (.int .i64 s.last) v (.map (some m))) := by rw [hv]; exact H1.out
  have hvS : ∀ g, v.ownBlock = some g → S g ∧ g ≠ P ∧ g ≠ m := hv ▸ H6.out
  rw [← hv]
  rw [← hv] at c2
  clear H1 H2 H6 hv hc1 hc2 c0 c1 c2 f1 f2 hf2
  have hvl : ∀ g, v.ownBlock = some g → g < w.heap.size := fun g hg => H8.out g (hvS g hg).1
  obtain ⟨W, hW⟩ : ∃ W, W = (((w.alloc (.cells #[.int .i64 x.id, .int .i64 x.fr, .int .i64 x.to, .string x.body] 49)).drewN nq).setCell ⟨P, 1, none⟩ (.int .i64 (s.last + 1))).setCell ⟨w.heap.size, 0, none⟩ (.int .i64 (s.last + 1)) := ⟨_, rfl⟩
  have hrow : W.rowIs P 58 4 (r4 (.int .i64 s.most) (.int .i64 (s.last + 1)) v (.map (some m))) := by
    rw [hW]
    refine (((rowIs_drewN (h1'.alloc _) nq).set 1 _).setOther (by show P ≠ w.heap.size; omega) _).congr (fun i hi => r4_set1 _ _ _ _ _ i)
  have hbox : W.rowIs w.heap.size 49 4 (r4 (.int .i64 (s.last + 1)) (.int .i64 x.fr) (.int .i64 x.to) (.string x.body)) := by
    rw [hW]
    refine (((rowIs_drewN (rowIs_lit w [.int .i64 x.id, .int .i64 x.fr, .int .i64 x.to, .string x.body] 49 4 (r4 (.int .i64 x.id) (.int .i64 x.fr) (.int .i64 x.to) (.string x.body)) rfl) nq).setOther (a := ⟨P, 1, none⟩) (by show w.heap.size ≠ P; omega) _).set 0 _).congr (fun i hi => r4_set0 _ _ _ _ _ i)
  have hkept : Kept S w W := by
    rw [hW]
    exact ((((Kept.refl S w).alloc _).drewN nq).setCell (fun _ => h4) _).setCell (fun h => absurd h (Nat.lt_irrefl _)) _
  have hsz : W.heap.size = w.heap.size + 1 := by rw [hW]; simp [World.setCell]
  have hblk : ∀ i, i < w.heap.size → i ≠ P → W.heap[i]? = w.heap[i]? := fun i hi hne => by
    rw [hW, Below.heap_setCell _ _ _ _ (by show i ≠ w.heap.size; omega), Below.heap_setCell _ _ _ _ hne]
    exact Go.Deep.blk_alloc_lt w _ i hi
  rw [← hW]
  clear hW
  have ho : PkOwn 0 W v s.L := h2'.keep (fun k hk => hblk k (hvl k hk) (hvS k hk).2.1)
  have hm : MapQ W m n s.D := H3.out.kept (hblk m (H8.out m h5) (Ne.symm h7))
  clear hblk h2' h1'
  have hPW : P < W.heap.size := by omega
  have d2 : W.cell? ⟨P, 2, none⟩ = some v := hrow.cell (by omega)
  have b0 : W.cell? ⟨w.heap.size, 0, none⟩ = some (.int .i64 (s.last + 1)) := hbox.cell (by omega)
  have b1 : W.cell? ⟨w.heap.size, 1, none⟩ = some (.int .i64 x.fr) := hbox.cell (by omega)
  have b2 : W.cell? ⟨w.heap.size, 2, none⟩ = some (.int .i64 x.to) := hbox.cell (by omega)
  have b3 : W.cell? ⟨w.heap.size, 3, none⟩ = some (.string x.body) := hbox.cell (by omega)
  have fz := hrow.frozen 2
  have HROW := Lib.hid hrow
  have HBOX := Lib.hid hbox
  have HBW : Hid (w.heap.size < W.heap.size) := Lib.hid (by omega)
  have HFZ := Lib.hid fz
  have HD2 := Lib.hid d2
  have hfit : s.L.length + [(⟨s.last + 1, x.fr, x.to, x.body⟩ : Pk)].length ≤ 3000000 := by have := H9.out.room; have := H9.out.m2; simp; omega
  clear hrow hbox hsz
  go_region_law ((refine step_append_pk rfl (.tmp 31) (.tmp 33) rfl 0 _ s.L rfl (pk_later ho rfl) _ [⟨s.last + 1, x.fr, x.to, x.body⟩] rfl (src_new rfl rfl rfl) hfit (Nat.zero_le _) ?_; intro v3 w3 hown3 hgr3 hat3
                  have hrow3 := (rowIs_drew_alloc HROW.out rfl).of_block (hgr3.block P (by simp; exact Nat.lt_succ_of_lt hPW) (fun e => (hvS P e.symm).2.1 rfl))
                  have e3 : w3.cell? ⟨P, 2, none⟩ = some v := hrow3.cell (by omega)
                  have f3 := hrow3.frozen 2
                  have hbx3 := (rowIs_drew_alloc HBOX.out rfl).of_block (hgr3.block w.heap.size (by simp; exact Nat.lt_succ_of_lt HBW.out) (fun e => Nat.lt_irrefl _ (hvl _ e.symm)))
                  have b3 : w3.cell? ⟨w.heap.size, 0, none⟩ = some (.int .i64 (s.last + 1)) := hbx3.cell (by omega)
                  have HF3 := Lib.hid (post_appended (s := s.push x) HROW.out hkept hgr3 hat3 hown3 hm h4 h5 h7 H8.out hvS HFI.out)
                  obtain ⟨a3, cap3, rfl, _, _, _⟩ := hown3.shape
                  clear hrow3 hbx3 hown3 hgr3 hat3))
  all_goals
    go_wp2_with fail
    go_ret
    exact ⟨rfl, by have h := HF3.out; simp only [List.length_append, List.length_singleton] at h; exact h⟩
theorem Kept.gr_post {S : Nat → Prop} {w w' : World} {P n : Nat} {s : Pst} (hp : PostSt S w P n s) (hb : Below w.heap.size w w') : Kept S w w' ∧ PostSt (Gr S w w') w' P n s :=
  ⟨Kept.of_below hb, (hp.below hb).mono (fun _ hi => .inl hi) (Gr.lt hp.lt hb.size)⟩
/-- p.add(x). -/
theorem add_any (S : Nat → Prop) (P n : Nat) (s : Pst) (x : Pk) (hx : i64r x.fr ∧ i64r x.to) (w : World) (hp : PostSt S w P n s) (hl : s.last < 1000000) :
    Calls Try.prog 32 #[.pointer (some ⟨P, 0, none⟩), pka x] w fun e w' => e = .returned (.int .i64 s.addN) ∧ Kept S w w' ∧ PostSt (Gr S w w') w' P n (s.add x) := by
  unfold Pst.add Pst.addN
  cases hf : s.full
  · exact add_room S P n s x hx w hp hl hf
  · exact (add_full S P n s x w hp hf).mono fun e w' ⟨he, hb⟩ => ⟨he, Kept.gr_post hp hb⟩
/-- From a later world on. -/
theorem post_then {S : Nat → Prop} {w w1 w2 : World} {P n : Nat} {s' : Pst} (h1 : Below w.heap.size w w1) (hS : ∀ i, S i → i < w.heap.size) (h2 : Kept S w1 w2 ∧ PostSt (Gr S w1 w2) w2 P n s') : Kept S w w2 ∧ PostSt (Gr S w w2) w2 P n s' :=
  ⟨(Kept.of_below h1).trans h2.1 (fun _ _ h => h), h2.2.mono (fun i hi => by
    rcases hi with hi | ⟨a, b⟩
    · exact .inl hi
    · exact .inr ⟨Nat.le_trans h1.size a, b⟩) (Gr.lt hS (Nat.le_trans h1.size h2.1.size))⟩

def Pst.send (s : Pst) (f t : Int) (b : ByteArray) : Pst := if s.bl f t then s else s.add ⟨0, f, t, b⟩
def Pst.sendN (s : Pst) (f t : Int) : Int := if s.bl f t then 0 else s.addN
set_option maxHeartbeats 4000000 in
/-- p.Send(from, to, body). -/
theorem send_any (S : Nat → Prop) (P n : Nat) (s : Pst) (f t : Int) (b : ByteArray) (hf : i64r f) (ht : i64r t) (w : World) (hp : PostSt S w P n s) (hl : s.last < 1000000) :
    Calls Try.prog 14 #[.pointer (some ⟨P, 0, none⟩), .int .i64 f, .int .i64 t, .string b] w fun e w' => e = .returned (.int .i64 (s.sendN f t)) ∧ Kept S w w' ∧ PostSt (Gr S w w') w' P n (s.send f t b) := by
  unfold Pst.send Pst.sendN
  have HP := Lib.hid hp
  clear hp
  cases hq : s.bl f t
  · have HQ := Lib.hid hq
    clear hq
    go_enter Try.func14, Try.ntmps14
    go_wp2_with fail
    refine (blocked_any S P n s f t hf ht w HP.out).mono ?_
    rintro e w1 ⟨rfl, hb1⟩
    rw [HQ.out]
    go_wp2_with fail
    refine (add_any S P n s ⟨0, f, t, b⟩ ⟨hf, ht⟩ w1 (HP.out.below hb1) hl).mono ?_
    rintro e w2 ⟨rfl, h2⟩
    have H2 := Lib.hid (post_then hb1 HP.out.lt h2)
    clear h2 hb1
    go_wp2_with fail
    go_ret
    exact ⟨rfl, H2.out⟩
  · have HQ := Lib.hid hq
    clear hq
    go_enter Try.func14, Try.ntmps14
    go_wp2_with fail
    refine (blocked_any S P n s f t hf ht w HP.out).mono ?_
    rintro e w1 ⟨rfl, hb1⟩
    rw [HQ.out]
    go_wp2_with fail
    go_ret
    exact ⟨rfl, Kept.gr_post HP.out hb1⟩
theorem send_nil (f t : Int) (b : ByteArray) (w : World) : Calls Try.prog 14 #[.pointer none, .int .i64 f, .int .i64 t, .string b] w fun e w' => e = .returned (.int .i64 0) ∧ w = w' := by
  go_enter Try.func14, Try.ntmps14
  go_wp2_with fail
  go_ret
  exact ⟨rfl, rfl⟩

/-- The packet of a number. -/
def Pst.at (s : Pst) (id : Int) : Option Pk := s.L[(fndI id s.L).toNat]?
def Pst.dbl (s : Pst) (id : Int) : Pst := if fndI id s.L < 0 then s else match s.at id with | some x => s.add x | none => s
def Pst.dblN (s : Pst) (id : Int) : Int := if fndI id s.L < 0 then 0 else s.addN
set_option maxHeartbeats 4000000 in
/-- p.Double(id). -/
theorem double_any (S : Nat → Prop) (P n : Nat) (s : Pst) (id : Int) (w : World) (hp : PostSt S w P n s) (hl : s.last < 1000000) :
    Calls Try.prog 20 #[.pointer (some ⟨P, 0, none⟩), .int .i64 id] w fun e w' => e = .returned (.int .i64 (s.dblN id)) ∧ Kept S w w' ∧ PostSt (Gr S w w') w' P n (s.dbl id) := by
  unfold Pst.dbl Pst.dblN Pst.at
  have HP := Lib.hid hp
  have hf := find_any S P n s id w hp
  rcases fndI_cases id s.L with ⟨h1, h2⟩ | ⟨i, x, h1, hx, h2⟩
  · rw [h1] at hf ⊢
    clear hp h1 h2
    go_enter Try.func20, Try.ntmps20
    go_wp2_with fail
    refine hf.mono ?_
    rintro e w1 ⟨rfl, hb1⟩
    go_wp2_with fail
    go_ret
    exact ⟨rfl, Kept.gr_post HP.out hb1⟩
  · rw [h1] at hf ⊢
    rw [if_neg (by omega), if_neg (by omega), Int.toNat_natCast, hx]
    have hi : i < s.L.length := (List.getElem?_eq_some_iff.1 hx).1
    have HX := Lib.hid hx
    clear hp h1 h2 hx
    go_enter Try.func20, Try.ntmps20
    go_wp2_with fail
    refine hf.mono ?_
    rintro e w1 ⟨rfl, hb1⟩
    have hp1 := HP.out.below hb1
    have HP1 := Lib.hid hp1
    obtain ⟨v, m, h1, h2, h3, h4, h5, h6, h7, h8, h9⟩ := hp1
    obtain ⟨a, cap, rfl, hc1, hc2, hc3⟩ := h2.shape
    obtain ⟨g, rfl, _, _, hg, d0, d1, d2, d3⟩ := hc3 i x HX.out
    have c2 : w1.cell? ⟨P, 2, none⟩ = some (.slice (some ⟨g, 0, none⟩) s.L.length cap) := h1.cell (by omega)
    have hLb : s.L.length ≤ 256 := by have := h9.room; have := h9.m2; omega
    have hpk := h9.pk x (List.mem_of_getElem? HX.out)
    clear h1 h2 h3 h4 h5 h6 h7 h8 h9 hc3 hf
    unfold maxLen at hc2
    go_wp2_with fail
    refine (add_any S P n s x hpk.2 w1 HP1.out hl).mono ?_
    rintro e w2 ⟨rfl, h2⟩
    have H2 := Lib.hid (post_then hb1 HP.out.lt h2)
    clear h2 hb1
    go_wp2_with fail
    go_ret
    exact ⟨rfl, H2.out⟩
theorem double_nil (id : Int) (w : World) : Calls Try.prog 20 #[.pointer none, .int .i64 id] w fun e w' => e = .returned (.int .i64 0) ∧ Below w.heap.size w w' := by
  go_enter Try.func20, Try.ntmps20
  go_wp2_with fail
  refine (find_nil id w).mono ?_
  rintro e w1 ⟨rfl, hb1⟩
  go_wp2_with fail
  go_ret
  exact ⟨rfl, hb1⟩
end Go.Proofs.Ytocpneliofjabaa
