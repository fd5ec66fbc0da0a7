import Derived.Test.YtmilbmgbpoekmaaDoorT6
import Derived.Deep.RegionHeld3
import Derived.Laws.AppendOwnNone
namespace Go.Proofs.YtmilbmgbpoekmaaDoor
open Go.RowKit
set_option maxRecDepth 100000

theorem Tryd.sz48 : (Tryd.prog.info? 48).map (·.size) = some 64 := by kernel_rfl

set_option maxHeartbeats 1000000 in
/-- veneerref01.constant(t). -/
theorem constant_any (t : Nat) (x : Int) (w : World) (hx : x = (t : Int)) (ht : t < 64) :
    Calls Tryd.prog 24 #[.int .i64 x] w fun e w' => e = .returned (.int .u32 (Sha.KL.getD t 0)) ∧ Below w.heap.size w w' := by
  subst hx
  go_enter Tryd.func24, Tryd.ntmps24
  go_wp2_with (first
    | (refine wpList_store_abs rfl 48 (.tmp 3) (.tmp 4) rfl w.heap.size rfl _ rfl 48 64 (fun j => .int .u32 (Sha.KL.getD j 0)) (fun _ => .int .u32 0) (rowIs_lit w _ 48 64 _ rfl) rfl Tryd.sz48 (fun j _ => rfl) ?_; intro w2 hr hg hs; have c := hr.cell (i := t) ht)
    | fail)
  go_ret
  exact ⟨rfl, ((Below.refl _ _).alloc (Nat.le_refl _) _).trans (below_of_grown hg (Nat.le_refl _) (by simp))⟩

/-- A new array: behind it the world is a variable. -/
theorem wpList_alloc_abs {P : Program} {ops : Array Oper} {rest : List Oper} {op : Oper} {a : Act} {w : World} {Q : Exit → Act → World → Prop} (hgd : op.guard = none) (ty : TypeId) (ho : op.op = .alloc ty)
    (z : Value) (hz : (zeroValue ty).run P w = .ok z w) (n : Nat) (f : Nat → Value) (hc : z.cells = rowArr n f)
    (h : ∀ w' b, Hid (b = w.heap.size) → w'.rowIs b ty n f → RowKit.Below b w w' → b < w'.heap.size → wpList P ops Q rest (a.put op.dst (.pointer (some ⟨b, 0, none⟩))) w') : wpList P ops Q (op :: rest) a w := by
  refine wpList_plain hgd fun K hK => ?_
  have hr : (Instr.alloc ty true (.tuple #[])).run P w = .ok (.pointer (some ⟨w.heap.size, 0, none⟩)) (w.alloc (.cells (rowArr n f) ty)) := by
    simp only [Instr.alloc, Sem.run_bind, hz, Result.andThen_ok, newVar, hc]
    rfl
  unfold Oper.wp execOp
  simp only [ho, Sem.run_bind, hr, Result.andThen_ok]
  refine hK _ _ (h _ _ (show _ = _ from rfl) ⟨_, Go.Deep.blk_alloc_new _ _, size_rowArr n f, get_rowArr n f⟩ ((Below.refl _ _).alloc (Nat.le_refl _) _) (by simp))

/-! ### Bytes that the call itself gathers -/
/-- The value owns the bytes m, from block 'base' on. -/
def OwnB (base : Nat) (w : World) (v : Value) (m : List Int) : Prop := w.ownsRow base 5 1 v m.length (u8s m)
theorem OwnB.keep {base : Nat} {w w' : World} {v : Value} {m : List Int} (h : OwnB base w v m) (hb : ∀ k, v.ownBlock = some k → w'.heap[k]? = w.heap[k]?) : OwnB base w' v m := by
  obtain ⟨h1, h2⟩ := h
  refine ⟨h1, ?_⟩
  rcases h2 with h2 | ⟨g, cap, cur, rfl, hg, hh, r⟩
  · exact .inl h2
  · exact .inr ⟨g, cap, cur, rfl, hg, by rw [hb g rfl]; exact hh, r⟩
theorem OwnB.alloc {base : Nat} {w : World} {v : Value} {m : List Int} (h : OwnB base w v m) (o : Obj) : OwnB base (w.alloc o) v m := World.ownsRow.alloc h o
/-- Bytes that are there lie in a row of the call's own. -/
theorem OwnB.at {base : Nat} {w : World} {v : Value} {m : List Int} (h : OwnB base w v m) (hm : 0 < m.length) :
    ∃ g cap, v = .slice (some ⟨g, 0, none⟩) m.length cap ∧ base ≤ g ∧ g < w.heap.size ∧ m.length ≤ cap ∧ cap ≤ maxLen ∧ ∀ j, j < m.length → w.cell? ⟨g, j, none⟩ = some (.int .u8 (m.getD j 0)) := by
  obtain ⟨h1, h2⟩ := h
  rcases h2 with ⟨_, h2⟩ | ⟨g, cap, cur, rfl, hg, hh, hc, hmx, hsz, htk⟩
  · omega
  · refine ⟨g, cap, rfl, hg, (Array.getElem?_eq_some_iff.1 hh).1, hc, hmx, fun j hj => ?_⟩
    rw [cell_of_row w g j cur 5 (0, 0) hh]
    have e := u8s_get m j hj
    rw [← htk, Nat.mul_one, List.getElem?_take, if_pos hj] at e
    simpa using e
theorem bytesAt_news {ok : Nat → Prop} {w : World} {b o cap : Nat} {l : List Int} (h : BytesAt ok w (some ⟨b, o, none⟩) cap l) : ∀ j u, (u8s l)[j]? = some u → w.cell? ((⟨b, o, none⟩ : Addr).add j) = some u := by
  intro j u hu
  have hj : j < l.length := by have := (List.getElem?_eq_some_iff.1 hu).1; rwa [length_u8s] at this
  rw [Addr.add_mid, (h.some_ b o none rfl).2.2 j hj, ← hu, u8s_get l j hj]
/-- append(m, l...), m the call's own, l whatever bytes that lie there (nil too). -/
theorem wpList_append_bytes {ops : Array Oper} {rest : List Oper} {o : Oper} {a : Act} {w : World} {Q : Exit → Act → World → Prop} (hgd : o.guard = none) (s x : Operand)
    (ho : o.op = .call { callee := .builtin .append, args := #[s, x], argTypes := #[22, 22] }) (base : Nat) (v : Value) (m : List Int) (hs : a.eval s = v) (hown : OwnB base w v m)
    (ok : Nat → Prop) (sa : Option Addr) (len scap : Nat) (l : List Int) (hx : a.eval x = .slice sa len scap) (hl : l.length = len) (hB : BytesAt ok w sa scap l)
    (hfit : m.length + l.length ≤ 140737488355328) (hbase : base ≤ w.heap.size)
    (h : ∀ v' w', OwnB base w' v' (m ++ l) → w.grownBy w' v.ownBlock → wpList Tryd.prog ops Q rest (a.put o.dst v') w') : wpList Tryd.prog ops Q (o :: rest) a w := by
  have hinfo : (Tryd.prog.info? 5).map (fun i => (i.zero, i.size, i.bytes)) = some (some (.int .u8 0), 1, 1) := by kernel_rfl
  obtain ⟨i, hi, hz, hz1, hz2⟩ := info_parts hinfo
  cases sa with
  | none =>
    have h0 := hB.none_ rfl
    have h1 := hB.fits
    obtain rfl : l = [] := List.eq_nil_of_length_eq_zero (by omega)
    subst h0
    subst hl
    refine wpList_append_own_none hgd s x 22 ho base 5 i 1 Tryd.underlying22 hi v m.length (u8s m) hs hown hx ?_
    rw [List.append_nil] at h
    exact h v w hown (World.grownBy.refl _ _)
  | some ad =>
    obtain ⟨b, off, sp⟩ := ad
    obtain ⟨rfl, _, _⟩ := hB.some_ b off sp rfl
    subst hl
    refine wpList_append_own _ hgd s x 22 ho base 5 i (.int .u8 0) 1 1 Tryd.underlying22 hi hz hz1 hz2 rfl (by decide) v m.length (u8s m) hs hown ⟨b, off, none⟩ l.length scap (u8s l) hx (by rw [length_u8s, Nat.mul_one]) (bytesAt_news hB) (u8s_one l)
      (by unfold maxLen; omega) (by omega) hbase (fun v' w' h1 h2 _ => h v' w' ?_ h2)
    unfold OwnB
    rw [List.length_append]
    simpa [u8s] using h1

end Go.Proofs.YtmilbmgbpoekmaaDoor
