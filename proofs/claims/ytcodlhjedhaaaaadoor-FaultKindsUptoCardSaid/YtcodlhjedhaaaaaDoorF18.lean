/-
  Slices of a row that the call owns, as sources.
-/
import Derived.Test.YtcodlhjedhaaaaaDoorF17
namespace Go.Proofs.YtcodlhjedhaaaaaDoor
open Go.RowKit
set_option maxRecDepth 100000

section
variable {P : Program}
theorem run_sizeOf_of {e : TypeId} {size : Nat} (hs : (P.info? e).map (·.size) = some size) (w : World) : (sizeOf e).run P w = .ok size w := by
  cases hi : P.info? e with
  | none => simp [hi] at hs
  | some i =>
    have : i.size = size := by simpa [hi] using hs
    simp [sizeOf, typeInfo, hi, this]
theorem run_slice_from (w : World) (t : TypeId) (size : Nat) (ht : P.underlying t = some (.slice (P.elem t))) (hs : (P.info? (P.elem t)).map (·.size) = some size) (a : Option Addr) (len cap c : Nat) (hc : c ≤ len) :
    (Instr.sliceAt t (.slice a len cap) (some (.int .i64 c)) none none).run P w = .ok (.slice (if cap = c then a else a.map (·.add (c * size))) (len - c) (cap - c)) w := by
  rw [run_sliceAt_slice (w := w) t _ _ _ _ ht, run_slice_l (w := w) t a len cap ht .i64 (c : Int) (by omega) (by omega), run_sizeOf_of hs]
  simp [sliced]
theorem run_slice_to (w : World) (t : TypeId) (size : Nat) (ht : P.underlying t = some (.slice (P.elem t))) (hs : (P.info? (P.elem t)).map (·.size) = some size) (a : Option Addr) (len cap c : Nat) (hc : c ≤ len) (hcap : len ≤ cap) :
    (Instr.sliceAt t (.slice a len cap) none (some (.int .i64 c)) none).run P w = .ok (.slice a c cap) w := by
  rw [run_sliceAt_slice (w := w) t _ _ _ _ ht, run_slice_h (w := w) t a len cap ht .i64 (c : Int) (by omega) (by omega), run_sizeOf_of hs]
  cases a <;> simp [sliced, Addr.add]
theorem ownsRow_slice {w : World} {base : Nat} {e : TypeId} {size : Nat} {v : Value} {n : Nat} {xs : List Value} (h : w.ownsRow base e size v n xs) : ∃ a cap, v = .slice a n cap ∧ n ≤ cap := by
  obtain ⟨a, cap, rfl, h1, _⟩ := ownS_any h
  exact ⟨a, cap, rfl, h1⟩
theorem src_from {w : World} {base : Nat} {e : TypeId} {size : Nat} {n : Nat} {xs : List Value} {a : Option Addr} {cap c : Nat} (h : w.ownsRow base e size (.slice a n cap) n xs) (hc : c ≤ n) :
    Src w size (.slice (if cap = c then a else a.map (·.add (c * size))) (n - c) (cap - c)) (n - c) (xs.drop (c * size)) := by
  have hcells := @World.ownsRow.cells w base e size _ n xs h
  obtain ⟨h1, h2⟩ := h
  refine ⟨by rw [List.length_drop, h1, Nat.sub_mul], ?_⟩
  rcases h2 with ⟨h2, rfl⟩ | ⟨g, cap', cur, h2, hg, hh, h3, h4, _⟩
  · cases h2
    exact .inl ⟨by simp, by omega⟩
  · cases h2
    have hcl := hcells rfl
    by_cases hcc : cap = c
    · rw [if_pos hcc]
      refine .inr ⟨_, _, rfl, fun j u hu => ?_⟩
      have : xs.drop (c * size) = [] := List.drop_eq_nil_of_le (by rw [h1]; exact Nat.mul_le_mul_right _ (by omega))
      rw [this] at hu
      simp at hu
    · rw [if_neg hcc]
      refine .inr ⟨_, _, rfl, fun j u hu => ?_⟩
      rw [List.getElem?_drop] at hu
      have := hcl _ u hu
      rw [← this]
      show w.cell? ((Addr.add ⟨g, 0, none⟩ (c * size)).add j) = _
      rw [Addr.add_mid, Addr.add_mid, Addr.add_mid, Nat.add_assoc]
theorem src_to {w : World} {base : Nat} {e : TypeId} {size : Nat} {n : Nat} {xs : List Value} {a : Option Addr} {cap c : Nat} (h : w.ownsRow base e size (.slice a n cap) n xs) (hc : c ≤ n) :
    ∃ cap', cap' = cap ∧ Src w size (.slice a c cap') c (xs.take (c * size)) := by
  have hcells := @World.ownsRow.cells w base e size _ n xs h
  obtain ⟨h1, h2⟩ := h
  refine ⟨cap, rfl, by rw [List.length_take, h1]; exact Nat.min_eq_left (Nat.mul_le_mul_right _ hc), ?_⟩
  rcases h2 with ⟨h2, rfl⟩ | ⟨g, cap', cur, h2, hg, hh, h3, h4, _⟩
  · cases h2
    obtain rfl : c = 0 := by omega
    exact .inl ⟨rfl, rfl⟩
  · cases h2
    refine .inr ⟨_, _, rfl, fun j u hu => ?_⟩
    rw [List.getElem?_take] at hu
    split at hu
    · exact hcells rfl _ u hu
    · cases hu
/-- v[c:]. -/
theorem wpList_slice_from {ops : Array Oper} {rest : List Oper} {o : Oper} {ac : Act} {w : World} {Q : Exit → Act → World → Prop} (hgd : o.guard = none) (x lo : Operand) (t : TypeId) (ho : o.op = .slice t x (some lo) none none)
    (base : Nat) (e : TypeId) (size : Nat) (ht : P.underlying t = some (.slice (P.elem t))) (hs : (P.info? (P.elem t)).map (·.size) = some size) (v : Value) (n : Nat) (xs : List Value) (hx : ac.eval x = v) (hown : w.ownsRow base e size v n xs)
    (c : Nat) (hlo : ac.eval lo = .int .i64 c) (hc : c ≤ n) (h : ∀ y, Src w size y (n - c) (xs.drop (c * size)) → wpList P ops Q rest (ac.put o.dst y) w) : wpList P ops Q (o :: rest) ac w := by
  refine wpList_plain hgd fun K hK => ?_
  obtain ⟨a, cap, rfl, hcap⟩ := ownsRow_slice hown
  have hr := run_slice_from (P := P) w t size ht hs a n cap c hc
  unfold Oper.wp execOp
  simp only [ho, hx, hlo, Option.map_some, Option.map_none, Sem.run_bind, hr, Result.andThen_ok, Sem.run_pure]
  exact hK _ _ (h _ (src_from hown hc))
/-- v[:c]. -/
theorem wpList_slice_to {ops : Array Oper} {rest : List Oper} {o : Oper} {ac : Act} {w : World} {Q : Exit → Act → World → Prop} (hgd : o.guard = none) (x hi : Operand) (t : TypeId) (ho : o.op = .slice t x none (some hi) none)
    (base : Nat) (e : TypeId) (size : Nat) (ht : P.underlying t = some (.slice (P.elem t))) (hs : (P.info? (P.elem t)).map (·.size) = some size) (v : Value) (n : Nat) (xs : List Value) (hx : ac.eval x = v) (hown : w.ownsRow base e size v n xs)
    (c : Nat) (hhi : ac.eval hi = .int .i64 c) (hc : c ≤ n) (h : ∀ y, Src w size y c (xs.take (c * size)) → wpList P ops Q rest (ac.put o.dst y) w) : wpList P ops Q (o :: rest) ac w := by
  refine wpList_plain hgd fun K hK => ?_
  obtain ⟨a, cap, rfl, hcap⟩ := ownsRow_slice hown
  have hr := run_slice_to (P := P) w t size ht hs a n cap c hc hcap
  obtain ⟨_, rfl, hsrc⟩ := src_to hown hc
  unfold Oper.wp execOp
  simp only [ho, hx, hhi, Option.map_some, Option.map_none, Sem.run_bind, hr, Result.andThen_ok, Sem.run_pure]
  exact hK _ _ (h _ hsrc)
end

/-- fault.All of a source. -/
theorem all_src (I : Nat → Prop) (xs : List Er) (m : List Value) (v : Value) (w : World) (hn : xs.length ≤ 1000000) (hs : Src w 1 v xs.length m) (hx : ∀ (i : Nat) x, xs[i]? = some x → ∃ u, m[i]? = some u ∧ ErAt I w x u) :
    Calls Tryd.prog 28 #[v] w fun ex w' => ∃ u, ex = .returned u ∧ ErAt (fun b => I b ∨ w.heap.size ≤ b) w' (allEr xs) u ∧ Below w.heap.size w w' := by
  obtain ⟨h1, h2⟩ := hs
  obtain ⟨us, hus⟩ : ∃ us : Nat → Value, ∀ (i : Nat) x, xs[i]? = some x → m[i]? = some (us i) ∧ ErAt I w x (us i) := by
    refine (Classical.skolem (p := fun (i : Nat) (u : Value) => ∀ x, xs[i]? = some x → m[i]? = some u ∧ ErAt I w x u)).1 (fun i => ?_)
    cases hi : xs[i]? with
    | none => exact ⟨.nilIface, fun x hx => by cases hx⟩
    | some y =>
      obtain ⟨u, h3, h4⟩ := hx i y hi
      exact ⟨u, fun x hx => by cases hx; exact ⟨h3, h4⟩⟩
  rcases h2 with ⟨rfl, h0⟩ | ⟨ad, c, rfl, hc⟩
  · have := all_any I xs us none 0 w hn (fun i hi => by omega) (fun i x hix => (hus i x hix).2)
    rw [h0] at this
    exact this
  · refine all_any I xs us (some ad) c w hn (fun i hi => ?_) (fun i x hix => (hus i x hix).2)
    obtain ⟨z, hz⟩ : ∃ z, xs[i]? = some z := ⟨_, List.getElem?_eq_getElem hi⟩
    have hcell := hc i _ (hus i z hz).1
    obtain ⟨b, o, s⟩ := ad
    obtain ⟨z0, hz0⟩ : ∃ z, xs[0]? = some z := ⟨_, List.getElem?_eq_getElem (by omega)⟩
    have hsn : s = none := by simpa [Addr.add] using World.cell?_spot (hc 0 _ (hus 0 z0 hz0).1)
    subst hsn
    rw [Addr.add_mid] at hcell
    exact ⟨b, o, rfl, cell_block_lt hcell, hcell⟩

/-! ### The steps as they lie -/
def StepsAt (w : World) (a : Option Addr) (ss : List St) : Prop := ∀ (i : Nat) s, ss[i]? = some s → ∃ b o, a = some ⟨b, o, none⟩ ∧ b < w.heap.size ∧ ∀ j, j < 5 → w.cell? ⟨b, o + i * 5 + j, none⟩ = some (s.row j)
theorem StepsAt.under {w w' : World} {a : Option Addr} {ss : List St} (h : StepsAt w a ss) (hb : Below w.heap.size w w') : StepsAt w' a ss := fun i s hs => by
  obtain ⟨b, o, h1, h2, h3⟩ := h i s hs
  exact ⟨b, o, h1, Nat.lt_of_lt_of_le h2 hb.size, fun j hj => (hb.cell (p := ⟨b, o + i * 5 + j, none⟩) h2).trans (h3 j hj)⟩
theorem St.one (s : St) (j : Nat) : (s.row j).oneCell' = true := by unfold St.row; split <;> rfl
theorem sz62 : (Tryd.prog.info? 62).map (·.size) = some 5 := by kernel_rfl
theorem kind_rem (s : St) : (IntKind.u64.wrap s.kind).tmod 5 = (s.k : Int) := by
  have e1 : IntKind.u64.wrap s.kind = s.kind % 18446744073709551616 := by simp [IntKind.wrap, IntKind.bits, IntKind.signed]
  rw [e1, Int.tmod_eq_emod_of_nonneg (by omega)]
  unfold St.k
  omega
theorem k_lt (s : St) : s.k < 5 := by unfold St.k; omega
theorem cut_rem (s : St) (l : Nat) (hl : l ≤ 1000) : (IntKind.u64.wrap s.n).tmod ((l : Int) + 1) = ((l - s.cut l : Nat) : Int) := by
  have e1 : IntKind.u64.wrap s.n = s.n % 18446744073709551616 := by simp [IntKind.wrap, IntKind.bits, IntKind.signed]
  rw [e1, Int.tmod_eq_emod_of_nonneg (by omega)]
  unfold St.cut
  have h1 : 0 ≤ (s.n % 18446744073709551616) % ((l : Int) + 1) := Int.emod_nonneg _ (by omega)
  have h2 : (s.n % 18446744073709551616) % ((l : Int) + 1) < (l : Int) + 1 := Int.emod_lt_of_pos _ (by omega)
  omega
end Go.Proofs.YtcodlhjedhaaaaaDoor
