/-
  Block, Free, First.
-/
import Derived.Test.YtocpneliofjabaaP5
import Derived.Deep.RegionWith
namespace Go.Proofs.Ytocpneliofjabaa
open Go.RowKit
set_option maxRecDepth 100000

def Pst.blk (s : Pst) (a b : Int) : Pst := if a = b then s else ⟨s.most, s.last, s.L, fun u v => s.D u v || (u == min a b && v == max a b)⟩
def Pst.fre (s : Pst) (a b : Int) : Pst := ⟨s.most, s.last, s.L, fun u v => s.D u v && !(u == min a b && v == max a b)⟩
/-- Behind a write to the map. -/
theorem post_map {S : Nat → Prop} {w w1 w2 : World} {P n' m : Nat} {s : Pst} {v : Value} {D : Int → Int → Bool} (h1 : w.rowIs P 58 4 (r4 (.int .i64 s.most) (.int .i64 s.last) v (.map (some m)))) (h2 : PkOwn 0 w v s.L)
    (h4 : S P) (h5 : S m) (h6 : ∀ g, v.ownBlock = some g → S g ∧ g ≠ P ∧ g ≠ m) (h7 : P ≠ m) (h8 : ∀ i, S i → i < w.heap.size) (h9 : s.Fine)
    (hb : Below w.heap.size w w1) (hgr : w1.grownBy w2 (some m)) (hm : MapQ w2 m n' D) : Kept S w w2 ∧ PostSt (Gr S w w2) w2 P n' ⟨s.most, s.last, s.L, D⟩ := by
  have hk : Kept S w w2 := (Kept.of_below hb).trans (Kept.of_grown (S := S) hgr (fun k hk => by cases hk; exact h5)) (fun _ _ h => h)
  have hblk : ∀ i, S i → i ≠ m → w2.heap[i]? = w.heap[i]? := fun i hi hne => (hgr.block i (Nat.lt_of_lt_of_le (h8 i hi) hb.size) (fun e => hne (by cases e; rfl))).trans (hb.block i (h8 i hi))
  exact ⟨hk, v, m, h1.of_block (hblk P h4 h7), h2.keep (fun k hk => hblk k (h6 k hk).1 (h6 k hk).2.2), hm, .inl h4, .inl h5, fun g hg => ⟨.inl (h6 g hg).1, (h6 g hg).2⟩, h7, Gr.lt h8 hk.size, ⟨h9.m1, h9.m2, h9.l0, h9.l1, h9.len, h9.room, h9.pk⟩⟩

theorem map_step {S : Nat → Prop} {w w1 : World} {P n m : Nat} {s : Pst} {v : Value} (a b : Int) (ha : i64r a) (hb : i64r b) (hn : n ≤ 1000000) (h1 : w.rowIs P 58 4 (r4 (.int .i64 s.most) (.int .i64 s.last) v (.map (some m)))) (h2 : PkOwn 0 w v s.L) (h3 : MapQ w m n s.D)
    (h4 : S P) (h5 : S m) (h6 : ∀ g, v.ownBlock = some g → S g ∧ g ≠ P ∧ g ≠ m) (h7 : P ≠ m) (h8 : ∀ i, S i → i < w.heap.size) (h9 : s.Fine) (hb1 : Below w.drew.heap.size w.drew w1) :
    w1.cell? ⟨P, 3, none⟩ = some (.map (some m)) ∧
    (∃ w2, (Instr.mapUpdate 56 (.map (some m)) (pv (min a b) (max a b)) (.int .i64 1)).run Try.prog w1 = .ok () w2 ∧ Kept S w w2 ∧ PostSt (Gr S w w2) w2 P (n + 1) ⟨s.most, s.last, s.L, fun u v => s.D u v || (u == min a b && v == max a b)⟩) ∧
    (∃ w2, (∀ ty, (Builtin.delete_ #[56, 65] ty #[.map (some m), pv (min a b) (max a b)]).run Try.prog w1 = .ok (.tuple #[]) w2) ∧ Kept S w w2 ∧ PostSt (Gr S w w2) w2 P n ⟨s.most, s.last, s.L, fun u v => s.D u v && !(u == min a b && v == max a b)⟩) := by
  have hb0 : Below w.heap.size w w1 := ⟨hb1.os, hb1.tape, hb1.output, hb1.size, hb1.block⟩
  have hm1 : MapQ w1 m n s.D := h3.kept (hb0.block m (h8 m h5))
  refine ⟨(hb0.cell (p := ⟨P, 3, none⟩) (h8 P h4)).trans (h1.cell (by omega)), ?_, ?_⟩
  · obtain ⟨w2, hrun, hq2, hgr2⟩ := hm1.store _ _ (i64r_min ha hb) (i64r_max ha hb) (Nat.lt_of_le_of_lt hn (by unfold maxLen; omega))
    exact ⟨w2, hrun, post_map h1 h2 h4 h5 h6 h7 h8 h9 hb0 hgr2 hq2⟩
  · obtain ⟨w2, hrun, hq2, hgr2⟩ := hm1.drop _ _ (i64r_min ha hb) (i64r_max ha hb) 0
    exact ⟨w2, fun ty => hrun, post_map h1 h2 h4 h5 h6 h7 h8 h9 hb0 hgr2 hq2⟩

set_option maxHeartbeats 4000000 in
/-- p.Block(a, b). -/
theorem block_any (S : Nat → Prop) (P n : Nat) (s : Pst) (a b : Int) (ha : i64r a) (hb : i64r b) (w : World) (hp : PostSt S w P n s) (hn : n ≤ 1000000) :
    Calls Try.prog 15 #[.pointer (some ⟨P, 0, none⟩), .int .i64 a, .int .i64 b] w fun e w' => e = .returned (.tuple #[]) ∧ Kept S w w' ∧ PostSt (Gr S w w') w' P (n + 1) (s.blk a b) := by
  unfold Pst.blk
  by_cases hab : a = b
  · subst hab
    rw [if_pos rfl]
    have HP := Lib.hid hp
    clear hp
    go_enter Try.func15, Try.ntmps15
    go_wp2_with fail
    go_end0
    refine ⟨rfl, Kept.refl _ _, ?_⟩
    obtain ⟨v, m, h1, h2, h3, h4, h5, h6, h7, h8, h9⟩ := HP.out
    exact ⟨v, m, h1, h2, h3.mono (by omega), .inl h4, .inl h5, fun g hg => ⟨.inl (h6 g hg).1, (h6 g hg).2⟩, h7, Gr.lt h8 (Nat.le_refl _), h9⟩
  · rw [if_neg hab]
    have hne : (a == b) = false := by simpa using hab
    have hne2 : (a != b) = true := by simpa using hab
    obtain ⟨v, m, h1, h2, h3, h4, h5, h6, h7, h8, h9⟩ := hp
    have c3 : w.drew.cell? ⟨P, 3, none⟩ = some (.map (some m)) := h1.cell (by omega)
    have HC := Lib.hid c3
    have H1 := Lib.hid h1
    have H2 := Lib.hid h2
    have H3 := Lib.hid h3
    have H6 := Lib.hid h6
    have H8 := Lib.hid h8
    have H9 := Lib.hid h9
    have HA := Lib.hid ha
    have HB := Lib.hid hb
    have HN := Lib.hid hn
    clear h1 h2 h3 h6 h8 h9 hab ha hb hn
    go_enter Try.func15, Try.ntmps15
    go_wp2_with fail
    go_region_with ((go_at_call 33; refine (pair_any _ _ _).mono ?_; rintro e w1 ⟨rfl, hb1⟩
                     obtain ⟨hc1, ⟨w2, hrun, hF⟩, _⟩ := map_step a b HA.out HB.out HN.out H1.out H2.out H3.out h4 h5 H6.out h7 H8.out H9.out hb1
                     have HF := Lib.hid hF
                     clear hb1 hF))
    all_goals
      go_wp2_with fail
      go_end0
      exact ⟨rfl, HF.out⟩
theorem block_nil (a b : Int) (w : World) : Calls Try.prog 15 #[.pointer none, .int .i64 a, .int .i64 b] w fun e w' => e = .returned (.tuple #[]) ∧ w = w' := by
  go_enter Try.func15, Try.ntmps15
  go_wp2_with fail
  go_end0
  exact ⟨rfl, rfl⟩
set_option maxHeartbeats 4000000 in
/-- p.Free(a, b). -/
theorem free_any (S : Nat → Prop) (P n : Nat) (s : Pst) (a b : Int) (ha : i64r a) (hb : i64r b) (w : World) (hp : PostSt S w P n s) (hn : n ≤ 1000000) :
    Calls Try.prog 17 #[.pointer (some ⟨P, 0, none⟩), .int .i64 a, .int .i64 b] w fun e w' => e = .returned (.tuple #[]) ∧ Kept S w w' ∧ PostSt (Gr S w w') w' P n (s.fre a b) := by
  unfold Pst.fre
  obtain ⟨v, m, h1, h2, h3, h4, h5, h6, h7, h8, h9⟩ := hp
  have c3 : w.drew.cell? ⟨P, 3, none⟩ = some (.map (some m)) := h1.cell (by omega)
  have HC := Lib.hid c3
  have H1 := Lib.hid h1
  have H2 := Lib.hid h2
  have H3 := Lib.hid h3
  have H6 := Lib.hid h6
  have H8 := Lib.hid h8
  have H9 := Lib.hid h9
  have HA := Lib.hid ha
  have HB := Lib.hid hb
  have HN := Lib.hid hn
  clear h1 h2 h3 h6 h8 h9 ha hb hn
  go_enter Try.func17, Try.ntmps17
  go_wp2_with fail
  go_region_with ((go_at_call 33; refine (pair_any _ _ _).mono ?_; rintro e w1 ⟨rfl, hb1⟩
                   obtain ⟨hc1, _, ⟨w2, hrun, hF⟩⟩ := map_step a b HA.out HB.out HN.out H1.out H2.out H3.out h4 h5 H6.out h7 H8.out H9.out hb1
                   have HF := Lib.hid hF
                   clear hb1 hF))
  all_goals
    go_wp2_with fail
    go_end0
    exact ⟨rfl, HF.out⟩
theorem free_nil (a b : Int) (w : World) : Calls Try.prog 17 #[.pointer none, .int .i64 a, .int .i64 b] w fun e w' => e = .returned (.tuple #[]) ∧ w = w' := by
  go_enter Try.func17, Try.ntmps17
  go_wp2_with fail
  go_end0
  exact ⟨rfl, rfl⟩

/-- The number of the first packet whose pair isn't blocked. -/
def fstI (q : Pk → Bool) (L : List Pk) : Int := match L.find? (fun x => !q x) with | some x => x.id | none => 0
theorem fstI_at {q : Pk → Bool} {L : List Pk} {k : Nat} {x : Pk} (hx : L[k]? = some x) (hq : q x = false) (hno : ∀ (j : Nat) (y : Pk), j < k → L[j]? = some y → q y = true) : fstI q L = x.id := by
  unfold fstI
  have : L.find? (fun x => !q x) = some x := by
    rw [List.find?_eq_some_iff_getElem]
    obtain ⟨hk, e⟩ := List.getElem?_eq_some_iff.1 hx
    refine ⟨by simp [hq], k, hk, e, fun j hj => ?_⟩
    have := hno j L[j] hj (List.getElem?_eq_getElem (by omega))
    simp [this]
  rw [this]
theorem fstI_none {q : Pk → Bool} {L : List Pk} (hno : ∀ (j : Nat) (y : Pk), L[j]? = some y → q y = true) : fstI q L = 0 := by
  unfold fstI
  have : L.find? (fun x => !q x) = none := by
    rw [List.find?_eq_none]
    intro x hx
    obtain ⟨j, hj, rfl⟩ := List.getElem_of_mem hx
    simp [hno j _ (List.getElem?_eq_getElem hj)]
  rw [this]
def Pst.first (s : Pst) : Int := fstI (fun x => s.bl x.fr x.to) s.L

set_option maxHeartbeats 4000000 in
/-- p.First(). -/
theorem first_any (S : Nat → Prop) (P n : Nat) (s : Pst) (w : World) (hp : PostSt S w P n s) :
    Calls Try.prog 9 #[.pointer (some ⟨P, 0, none⟩)] w fun e w' => e = .returned (.int .i64 s.first) ∧ Below w.heap.size w w' := by
  have HP := Lib.hid hp
  obtain ⟨v, m, h1, h2, h3, h4, h5, h6, h7, h8, h9⟩ := hp
  have hLb : s.L.length ≤ 256 := by have := h9.room; have := h9.m2; omega
  obtain ⟨a, cap, rfl, hc1, hc2, hc3⟩ := h2.shape
  have c2 : w.cell? ⟨P, 2, none⟩ = some (.slice a s.L.length cap) := h1.cell (by omega)
  have HC := Lib.hid hc3
  have hpk := h9.pk
  have HPK := Lib.hid hpk
  unfold maxLen at hc2
  clear h1 h2 h3 h4 h5 h6 h7 h8 h9 hc3 hpk
  go_enter Try.func9, Try.ntmps9
  go_wp2_with fail
  go_loopw [12] (fun i wr => ∃ k : Nat, k ≤ s.L.length ∧ i = .int .i64 k ∧ Hid (∀ (j : Nat) (y : Pk), j < k → s.L[j]? = some y → s.bl y.fr y.to = true) ∧ Below w.heap.size w wr) (fun i _ => s.L.length - (intOf i).toNat)
  case atStart => exact ⟨0, by omega, rfl, Lib.hid (fun j y hj => by omega), Below.refl _ _⟩
  case round =>
    obtain ⟨k, hk, rfl, hno, hb⟩ := hrel
    by_cases hlt2 : k < s.L.length
    · obtain ⟨x, hx⟩ : ∃ x, s.L[k]? = some x := ⟨_, List.getElem?_eq_getElem hlt2⟩
      obtain ⟨g, rfl, _, _, hg, d0, d1, d2, d3⟩ := HC.out k x hx
      have HX := Lib.hid hx
      have e0 : wr.cell? ⟨g, k * 4, none⟩ = some (.int .i64 x.id) := (hb.cell (p := ⟨g, k * 4, none⟩) hg).trans d0
      have e1 : wr.cell? ⟨g, k * 4 + 1, none⟩ = some (.int .i64 x.fr) := (hb.cell (p := ⟨g, k * 4 + 1, none⟩) hg).trans d1
      have e2 : wr.cell? ⟨g, k * 4 + 2, none⟩ = some (.int .i64 x.to) := (hb.cell (p := ⟨g, k * 4 + 2, none⟩) hg).trans d2
      have e3 : wr.cell? ⟨g, k * 4 + 3, none⟩ = some (.string x.body) := (hb.cell (p := ⟨g, k * 4 + 3, none⟩) hg).trans d3
      have hxp := HPK.out x (List.mem_of_getElem? hx)
      have HXP := Lib.hid hxp
      clear hx d0 d1 d2 d3 hxp c2
      go_wp2_with fail
      have hb' : Below w.heap.size w (wr.alloc (.cells #[.int .i64 x.id, .int .i64 x.fr, .int .i64 x.to, .string x.body] 49)) := hb.alloc hb.size _
      have hrow : PkRow (wr.alloc (.cells #[.int .i64 x.id, .int .i64 x.fr, .int .i64 x.to, .string x.body] 49)) wr.heap.size x := rowIs_lit wr [.int .i64 x.id, .int .i64 x.fr, .int .i64 x.to, .string x.body] 49 4 _ rfl
      refine (blocked_any S P n s x.fr x.to HXP.out.2.1 HXP.out.2.2 _ (HP.out.below hb')).mono ?_
      rintro e w1 ⟨rfl, hb1⟩
      have hb2 := hb'.trans (hb1.mono hb'.size)
      have hrow1 : PkRow w1 wr.heap.size x := rowIs_below hrow hb1 (by simp)
      have r0 : w1.cell? ⟨wr.heap.size, 0, none⟩ = some (.int .i64 x.id) := hrow1.cell (by omega)
      clear hb' hrow hrow1 hb1 e0 e1 e2 e3
      cases hq : s.bl x.fr x.to
      · have hf := Lib.hid (fstI_at (q := fun x => s.bl x.fr x.to) HX.out hq hno.out)
        clear hq
        go_wp2_with fail
        go_ret
        exact ⟨by rw [Pst.first, hf.out]; rfl, hb2⟩
      · have hno2 : Hid (∀ (j : Nat) (y : Pk), j < k + 1 → s.L[j]? = some y → s.bl y.fr y.to = true) := Lib.hid (fun j y hj hy => by
          by_cases e : j = k
          · subst e
            rw [HX.out] at hy
            cases hy
            exact hq
          · exact hno.out j y (by omega) hy)
        clear hno hq r0
        go_wp2_with fail
        go_roundw
        case rel => exact ⟨k + 1, by omega, by go_num, hno2, hb2⟩
        case measure => simp [intOf]; omega
    · have hf : Hid (fstI (fun x => s.bl x.fr x.to) s.L = 0) := Lib.hid (fstI_none (fun j y hy => hno.out j y (by have := (List.getElem?_eq_some_iff.1 hy).1; omega) hy))
      go_wp2_with fail
      go_ret
      exact ⟨by rw [Pst.first, hf.out]; rfl, hb⟩
theorem first_nil (w : World) : Calls Try.prog 9 #[.pointer none] w fun e w' => e = .returned (.int .i64 0) ∧ w = w' := by
  go_enter Try.func9, Try.ntmps9
  go_wp2_with fail
  go_ret
  exact ⟨rfl, rfl⟩
end Go.Proofs.Ytocpneliofjabaa
