/-
  SMALL LEMMAS: a slice of bytes that reads as a list; a copy into a known row; the cells of a sha.Hash.
-/
import Derived.Test.YtmilbmgbpoekmaaDoorLib
import Derived.Test.YtmilbmgbpoekmaaDoorSpec
import Derived.Laws.CopyOwn
import Derived.Laws.Append
import Derived.Deep.MidRow
namespace Go.Proofs.YtmilbmgbpoekmaaDoor
open Go.RowKit

def u8s (l : List Int) : List Value := l.map (Value.int .u8)
theorem length_u8s (l : List Int) : (u8s l).length = l.length := by simp [u8s]
theorem u8s_one (l : List Int) : ∀ v ∈ u8s l, v.oneCell' = true := ints_oneCell .u8 l
theorem u8s_get (l : List Int) (j : Nat) (h : j < l.length) : (u8s l)[j]? = some (.int .u8 (l.getD j 0)) := by
  simp [u8s, List.getD_eq_getElem?_getD, h]

/-- The slice of bytes at 'a', of capacity 'cap', reads as 'l'; its block is one of 'ok'. -/
structure BytesAt (ok : Nat → Prop) (w : World) (a : Option Addr) (cap : Nat) (l : List Int) : Prop where
  fits : l.length ≤ cap
  none_ : a = none → cap = 0
  some_ : ∀ b o s, a = some ⟨b, o, s⟩ → s = none ∧ ok b ∧ ∀ j, j < l.length → w.cell? ⟨b, o + j, none⟩ = some (.int .u8 (l.getD j 0))
  byte : ∀ j, 0 ≤ l.getD j 0 ∧ l.getD j 0 < 256

theorem BytesAt.to {ok ok' : Nat → Prop} {w w' : World} {a : Option Addr} {cap : Nat} {l : List Int} (h : BytesAt ok w a cap l) (hok : ∀ b, ok b → ok' b) (hb : ∀ b, ok b → w'.heap[b]? = w.heap[b]?) : BytesAt ok' w' a cap l :=
  ⟨h.fits, h.none_, fun b o s e => by
    obtain ⟨h1, h2, h3⟩ := h.some_ b o s e
    exact ⟨h1, hok b h2, fun j hj => (World.cell?_of_block (w := w) (a := ⟨b, o + j, none⟩) (hb b h2)).trans (h3 j hj)⟩, h.byte⟩
theorem BytesAt.keep {ok : Nat → Prop} {w w' : World} {a : Option Addr} {cap : Nat} {l : List Int} (h : BytesAt ok w a cap l) (hb : ∀ b, ok b → w'.heap[b]? = w.heap[b]?) : BytesAt ok w' a cap l := h.to (fun _ h => h) hb

/-- Bytes that are there lie at an address. -/
theorem BytesAt.addr {ok : Nat → Prop} {w : World} {a : Option Addr} {cap : Nat} {l : List Int} (h : BytesAt ok w a cap l) (hl : 0 < l.length) :
    ∃ b o, a = some ⟨b, o, none⟩ ∧ ok b ∧ ∀ j, j < l.length → w.cell? ⟨b, o + j, none⟩ = some (.int .u8 (l.getD j 0)) := by
  cases a with
  | none => have := h.none_ rfl; have := h.fits; omega
  | some ad =>
    obtain ⟨b, o, s⟩ := ad
    obtain ⟨rfl, h2, h3⟩ := h.some_ b o s rfl
    exact ⟨b, o, rfl, h2, h3⟩
theorem BytesAt.drop {ok : Nat → Prop} {w : World} {b o cap : Nat} {l : List Int} (h : BytesAt ok w (some ⟨b, o, none⟩) cap l) (k : Nat) (hk : k ≤ l.length) :
    ∃ a', (if cap = k then some (⟨b, o, none⟩ : Addr) else some ⟨b, o + k, none⟩) = a' ∧ BytesAt ok w a' (cap - k) (l.drop k) := by
  obtain ⟨_, h2, h3⟩ := h.some_ b o none rfl
  have hf := h.fits
  have hby : ∀ j, 0 ≤ (l.drop k).getD j 0 ∧ (l.drop k).getD j 0 < 256 := fun j => by rw [Sha.getD_drop]; exact h.byte _
  by_cases e : cap = k
  · refine ⟨_, if_pos e, by simp; omega, by simp, fun b' o' s' he => ?_, hby⟩
    cases he
    exact ⟨rfl, h2, fun j hj => by simp at hj; omega⟩
  · refine ⟨_, if_neg e, by simp; omega, by simp, fun b' o' s' he => ?_, hby⟩
    cases he
    refine ⟨rfl, h2, fun j hj => ?_⟩
    simp at hj
    rw [Sha.getD_drop, Nat.add_assoc]
    exact h3 (k + j) (by omega)

/-! ### A copy into a row that is known whole, as one step of a region that draws its order -/
theorem setRow_grown (w : World) (g : Nat) (cs : Array Value) : w.grownBy (w.setRow g cs) (some g) :=
  ⟨rfl, rfl, rfl, by simp [World.setRow], fun k _ hne => setRow_other w g k cs (by intro e; exact hne (by rw [e]))⟩
theorem splice_get {α : Type} (L : List α) (off : Nat) (cs : List α) (h : off + cs.length ≤ L.length) (j : Nat) :
    (splice L off cs)[j]? = if off ≤ j ∧ j < off + cs.length then cs[j - off]? else L[j]? := by
  unfold splice
  rw [List.getElem?_append, List.length_take, Nat.min_eq_left (by omega)]
  by_cases h1 : j < off
  · rw [if_pos h1, if_neg (by omega), List.getElem?_take, if_pos h1]
  · rw [if_neg h1, List.getElem?_append]
    by_cases h2 : j < off + cs.length
    · rw [if_pos (by omega), if_pos ⟨by omega, h2⟩]
    · rw [if_neg (by omega), if_neg (by omega), List.getElem?_drop]
      congr 1
      omega
theorem rowIs_splice {w : World} {g : Nat} {t : TypeId} {cur : List Value} {n off : Nat} {cs : List Value} {f : Nat → Value} (hg : w.heap[g]? = some (.cells cur.toArray t (0, 0))) (hn : cur.length = n)
    (hfit : off + cs.length ≤ n) (hf : ∀ j, j < n → (if off ≤ j ∧ j < off + cs.length then cs[j - off]? else cur[j]?) = some (f j)) :
    (w.setRow g (splice cur off cs).toArray).rowIs g t n f := by
  refine ⟨(splice cur off cs).toArray, setRow_heap w g _ _ t _ hg, by simp [length_splice cur off cs (by omega), hn], fun j hj => ?_⟩
  simp only [List.getElem?_toArray]
  rw [splice_get cur off cs (by omega) j]
  exact hf j hj
theorem step_copy_row {P : Program} {ops : Array Oper} {o : Oper} {a : Act} {w : World} {K : Act → World → Prop} {Q : Exit → Act → World → Prop} {E : Prop} (hgd : o.guard = none) (d s : Operand) (dT sT : TypeId)
    (ho : o.op = .call { callee := .builtin .copy, args := #[d, s], argTypes := #[dT, sT] }) (elem : TypeId) (hu : P.underlying dT = some (.slice elem)) (hsz : (P.info? elem).map (·.size) = some 1)
    (dp sp : Option Addr) (dLen dCap sLen sCap : Nat) (hd : a.eval d = .slice dp dLen dCap) (hs : a.eval s = .slice sp sLen sCap)
    (g off : Nat) (cur : List Value) (t : TypeId) (hg : w.heap[g]? = some (.cells cur.toArray t (0, 0))) (cs : List Value) (hn : cs.length = Nat.min sLen dLen)
    (hpos : 0 < cs.length → dp = some ⟨g, off, none⟩ ∧ ∃ ad, sp = some ad ∧ ∀ j v, cs[j]? = some v → w.cell? (ad.add j) = some v)
    (hfit : off + cs.length ≤ cur.length) (h1 : ∀ v ∈ cs, v.oneCell' = true)
    (h : K (a.put o.dst (goInt cs.length)) (w.setRow g (splice cur off cs).toArray)) :
    if Region.wanted o (yielded ops a.tmps) = true then Oper.wp P o a w K Q else E := by
  have hw : Region.wanted o (yielded ops a.tmps) = true := by simp [Region.wanted, hgd]
  rw [if_pos hw]
  by_cases h0 : cs.length = 0
  · obtain rfl : cs = [] := List.eq_nil_of_length_eq_zero h0
    have hrun := run_copy_none (P := P) w dT sT o.type elem dp sp dLen dCap sLen sCap hu hsz (by simpa using hn.symm)
    have e : splice cur off [] = cur := by simp [splice]
    rw [e, setRow_self w g _ t _ hg] at h
    unfold Oper.wp
    simp [execOp, ho, resolve, invoke, builtin, hd, hs, hrun, Result.andThen]
    exact h
  · obtain ⟨rfl, ad, rfl, hsrc⟩ := hpos (by omega)
    have hrun := run_copy_row (P := P) w dT sT o.type elem g off dLen dCap ad sLen sCap cur.toArray t cs hu hsz hg hn hsrc (by simpa using hfit) h1
    unfold Oper.wp
    simp [execOp, ho, resolve, invoke, builtin, hd, hs, hrun, Result.andThen]
    show K (a.put o.dst (goInt cs.length)) _
    simpa [splice] using h

/-! ### A whole row stored, loaded, handed back -/
theorem wpList_store_row {P : Program} {ops : Array Oper} {rest : List Oper} {op : Oper} {a : Act} {w : World} {Q : Exit → Act → World → Prop} (hgd : op.guard = none) (ty : TypeId) (x y : Operand) (ho : op.op = .store ty x y)
    (g : Nat) (hx : a.eval x = .pointer (some ⟨g, 0, none⟩)) (c' : Array Value) (hy : a.eval y = .agg c') (t : TypeId) (c : Array Value) (hg : w.heap[g]? = some (.cells c t (0, 0)))
    (hi : (P.info? ty).map (·.size) = some c'.size) (hs : c.size = c'.size) (h1 : c'.all (·.oneCell') = true)
    (h : wpList P ops Q rest (a.put op.dst undef) (w.setRow g c')) : wpList P ops Q (op :: rest) a w := by
  refine wpList_plain hgd fun K hK => ?_
  unfold Oper.wp execOp
  have hr := run_storeVar_row (P := P) w g t ty c c' hg hi hs h1
  simp only [ho, hx, hy, Instr.storeAt, Instr.sureAddr, Sem.run_bind, Sem.run_pure, Result.andThen_ok, hr]
  exact hK _ _ h
theorem rowIs_setRow {w : World} {g : Nat} {t : TypeId} {c c' : Array Value} {n : Nat} {f : Nat → Value} (hg : w.heap[g]? = some (.cells c t (0, 0))) (hn : c'.size = n) (hf : ∀ j, j < n → c'[j]? = some (f j)) : (w.setRow g c').rowIs g t n f :=
  ⟨c', setRow_heap w g c c' t _ hg, hn, hf⟩
/-- A row's cells as an array. -/
def rowArr (n : Nat) (f : Nat → Value) : Array Value := ((List.range n).map f).toArray
theorem size_rowArr (n : Nat) (f : Nat → Value) : (rowArr n f).size = n := by simp [rowArr]
theorem get_rowArr (n : Nat) (f : Nat → Value) (j : Nat) (h : j < n) : (rowArr n f)[j]? = some (f j) := by simp [rowArr, h]
theorem rowIs_block {w : World} {g : Nat} {t : TypeId} {n : Nat} {f : Nat → Value} (h : w.rowIs g t n f) : w.heap[g]? = some (.cells (rowArr n f) t (0, 0)) := by
  obtain ⟨c, hb, hn, hc⟩ := h
  have : c = rowArr n f := by
    apply Array.ext_getElem?
    intro i
    by_cases hi : i < n
    · rw [hc i hi, get_rowArr n f i hi]
    · rw [Array.getElem?_eq_none (by omega), Array.getElem?_eq_none (by rw [size_rowArr]; omega)]
  rw [hb, this]
theorem rowArr_one (n : Nat) (f : Nat → Value) (h : ∀ j, j < n → (f j).oneCell' = true) : (rowArr n f).all (·.oneCell') = true := by
  refine Array.all_eq_true_iff_forall_mem.2 (fun v hv => ?_)
  simp [rowArr] at hv
  obtain ⟨j, hj, rfl⟩ := hv
  exact h j hj
theorem rowArr_congr (n : Nat) (f g : Nat → Value) (h : ∀ j, j < n → f j = g j) : rowArr n f = rowArr n g := by
  unfold rowArr
  congr 1
  exact List.map_congr_left (fun j hj => h j (List.mem_range.1 hj))
/-- A whole row stored: behind it the world is a variable. -/
theorem wpList_store_abs {P : Program} {ops : Array Oper} {rest : List Oper} {op : Oper} {a : Act} {w : World} {Q : Exit → Act → World → Prop} (hgd : op.guard = none) (ty : TypeId) (x y : Operand) (ho : op.op = .store ty x y)
    (g : Nat) (hx : a.eval x = .pointer (some ⟨g, 0, none⟩)) (c' : Array Value) (hy : a.eval y = .agg c') (t : TypeId) (n : Nat) (f f' : Nat → Value) (hg : w.rowIs g t n f')
    (hc : c' = rowArr n f) (hi : (P.info? ty).map (·.size) = some n) (h1 : ∀ j, j < n → (f j).oneCell' = true)
    (h : ∀ w', w'.rowIs g t n f → w.grownBy w' (some g) → w'.heap.size = w.heap.size → wpList P ops Q rest (a.put op.dst undef) w') : wpList P ops Q (op :: rest) a w := by
  obtain ⟨c, hb, hn, _⟩ := hg
  subst hc
  refine wpList_store_row hgd ty x y ho g hx _ hy t c hb (by rw [size_rowArr]; exact hi) (by rw [size_rowArr]; exact hn) (rowArr_one n f h1) ?_
  exact h _ (rowIs_setRow hb (size_rowArr n f) (get_rowArr n f)) (setRow_grown _ _ _) (by simp [World.setRow])
/-- A whole row loaded. -/
theorem wpList_load_abs {P : Program} {ops : Array Oper} {rest : List Oper} {op : Oper} {a : Act} {w : World} {Q : Exit → Act → World → Prop} (hgd : op.guard = none) (ty : TypeId) (x : Operand) (ho : op.op = .load ty x)
    (g : Nat) (hx : a.eval x = .pointer (some ⟨g, 0, none⟩)) (t : TypeId) (n : Nat) (f : Nat → Value) (hg : w.rowIs g t n f) (d : TypeDesc) (hu : P.underlying ty = some d)
    (hd : (match d with | .struct _ | .array _ _ => true | _ => false) = true) (hi : (P.info? ty).map (·.size) = some n)
    (h : ∀ cs, Hid (cs = rowArr n f) → wpList P ops Q rest (a.put op.dst (.agg cs)) w) : wpList P ops Q (op :: rest) a w :=
  wpList_load_row hgd ty x ho g hx t _ (0, 0) d (rowIs_block hg) hu hd (by rw [size_rowArr]; exact hi) (h _ (show _ = _ from rfl))
/-- A result that lies in a row of its own. -/
theorem results_row {P : Program} {fn : Func} {p : Tmp} {ty : TypeId} {tmps : Array Value} {w : World} {g : Nat} {t : TypeId} {cs : Array Value} {fr : Nat × Nat} {d : TypeDesc} (h : fn.results = #[.cell p ty]) (hp : tmps.getD p undef = .pointer (some ⟨g, 0, none⟩))
    (hg : w.heap[g]? = some (.cells cs t fr)) (hu : P.underlying ty = some d) (hd : (match d with | .struct _ | .array _ _ => true | _ => false) = true) (hi : (P.info? ty).map (·.size) = some cs.size) :
    (results fn tmps).run P w = .ok (.agg cs) w := by
  have hr := run_loadVar_row (P := P) w g t ty cs fr d hg hu hd hi
  rw [Array.getD_eq_getD_getElem?] at hp
  simp only [results, h]
  simp [hp, asAddr, hr]

/-- 'a[i]' of an array of numbers by value. -/
theorem run_index_arr {P : Program} (t e : TypeId) (n : Nat) (k k' : IntKind) (cs : Array Value) (i : Nat) (v : Value) (h : P.underlying t = some (.array n e)) (he : P.underlying e = some (.int k')) (hs : (P.info? e).map (·.size) = some 1)
    (hi : i < n) (hv : cs[i]? = some v) (w : World) : (Instr.index t (.agg cs) (.int k (i : Int))).run P w = .ok v w := by
  cases hq : P.info? e with
  | none => simp [hq] at hs
  | some j =>
    have hs1 : j.size = 1 := by simpa [hq] using hs
    simp [Instr.index, run_underlying h, asIntOf, part, isAgg, run_underlying he, sizeOf, typeInfo, hq, hs1, hv, hi]
/-- A row's cells from a place on, loaded by value. -/
theorem wpList_load_part {P : Program} {ops : Array Oper} {rest : List Oper} {op : Oper} {a : Act} {w : World} {Q : Exit → Act → World → Prop} (hgd : op.guard = none) (ty : TypeId) (x : Operand) (ho : op.op = .load ty x)
    (b o : Nat) (hx : a.eval x = .pointer (some ⟨b, o, none⟩)) (n : Nat) (f : Nat → Value) (hc : ∀ j, j < n → w.cell? ⟨b, o + j, none⟩ = some (f j)) (d : TypeDesc) (hu : P.underlying ty = some d) (hd : d.isRow = true) (hi : (P.info? ty).map (·.size) = some n)
    (h : ∀ cs, Hid (cs = rowArr n f) → wpList P ops Q rest (a.put op.dst (.agg cs)) w) : wpList P ops Q (op :: rest) a w :=
  wpList_load_mid hgd ty x ho b o hx ((List.range n).map f) d (fun j v hv => by
    have hj : j < n := by simpa using (List.getElem?_eq_some_iff.1 hv).1
    rw [hc j hj, ← hv]
    simp [hj]) hu hd (by simpa using hi) (h _ (show _ = _ from rfl))

/-! ### The cells of a sha.Hash -/
def hc (st : Sha.St) (rest : Nat → Int) (used n : Int) : Nat → Value := fun i =>
  if i < 8 then .int .u32 (st.get i) else if i < 72 then .int .u8 (rest (i - 8)) else if i = 72 then .int .i64 used else .int .i64 n
def HashIs (w : World) (hb : Nat) (st : Sha.St) (buf : List Int) (n : Nat) : Prop :=
  ∃ rest : Nat → Int, w.rowIs hb 54 74 (hc st rest buf.length n) ∧ (∀ i, i < buf.length → rest i = buf.getD i 0) ∧ (∀ i, 0 ≤ rest i ∧ rest i < 256) ∧ buf.length < 64
theorem HashIs.lt {w : World} {hb n : Nat} {st : Sha.St} {buf : List Int} (h : HashIs w hb st buf n) : hb < w.heap.size := let ⟨_, h1, _⟩ := h; h1.lt
theorem HashIs.of_block {w w' : World} {hb n : Nat} {st : Sha.St} {buf : List Int} (h : HashIs w hb st buf n) (e : w'.heap[hb]? = w.heap[hb]?) : HashIs w' hb st buf n :=
  let ⟨r, h1, h2⟩ := h; ⟨r, h1.of_block e, h2⟩
end Go.Proofs.YtmilbmgbpoekmaaDoor
