/-
  The reference's All.
-/
import Derived.Test.YtcodlhjedhaaaaaDoorF15
namespace Go.Proofs.YtcodlhjedhaaaaaDoor
open Go.RowKit
set_option maxRecDepth 100000

/-- What such a slice is, empty or not, whatever an element's size. -/
theorem ownS_any {base : Nat} {e : TypeId} {size : Nat} {w : World} {v : Value} {n : Nat} {xs : List Value} (h : w.ownsRow base e size v n xs) :
    ∃ a cap, v = .slice a n cap ∧ n ≤ cap ∧ cap ≤ maxLen ∧ ∀ i u, xs[i]? = some u → ∃ g, a = some ⟨g, 0, none⟩ ∧ base ≤ g ∧ g < w.heap.size ∧ w.cell? ⟨g, i, none⟩ = some u := by
  have hc := @World.ownsRow.cells w base e size v n xs h
  obtain ⟨h1, h2⟩ := h
  rcases h2 with ⟨rfl, rfl⟩ | ⟨g, cap, cur, rfl, hg, hh, h3, h4, _⟩
  · have : xs = [] := List.eq_nil_of_length_eq_zero (by omega)
    subst this
    exact ⟨none, 0, rfl, by omega, by unfold maxLen; omega, fun i u hu => by simp at hu⟩
  · refine ⟨_, cap, rfl, h3, h4, fun i u hu => ⟨g, rfl, hg, (Array.getElem?_eq_some_iff.1 hh).1, ?_⟩⟩
    have := hc rfl i u hu
    rwa [Addr.add_mid, Nat.zero_add] at this
theorem info37 : (Tryd.prog.info? 37).map (fun i => (i.zero, i.size, i.bytes)) = some (some (.agg #[.int .i64 0, .int .i64 0, .string ⟨#[]⟩, .string ⟨#[]⟩, .slice none 0 0]), 5, 72) := by kernel_rfl
def row5 (f : Nat → Value) : List Value := [f 0, f 1, f 2, f 3, f 4]
theorem row5_get (f : Nat → Value) (q : Nat) (h : q < 5) : (row5 f)[q]? = some (f q) := by
  match q with
  | 0 => rfl
  | 1 => rfl
  | 2 => rfl
  | 3 => rfl
  | 4 => rfl
  | q + 5 => omega
theorem row5_one (f : Nat → Value) (h : ∀ j, (f j).oneCell' = true) : ∀ u ∈ row5 f, u.oneCell' = true := by
  intro u hu
  simp [row5] at hu
  rcases hu with rfl | rfl | rfl | rfl | rfl <;> exact h _
/-- Trees in a row, five cells each. -/
def In5 (I : Nat → Prop) (w : World) (l : List Er) (m : List Value) : Prop := m.length = l.length * 5 ∧ ∀ (j : Nat) x, l[j]? = some x → ∃ f : Nat → Value, (∀ q, q < 5 → m[j * 5 + q]? = some (f q)) ∧ RefAt I w x f
theorem In5.nil (I : Nat → Prop) (w : World) : In5 I w [] [] := ⟨rfl, fun j x h => by simp at h⟩
theorem In5.snoc {I : Nat → Prop} {w : World} {l : List Er} {m : List Value} {x : Er} {f : Nat → Value} (h : In5 I w l m) (hx : RefAt I w x f) : In5 I w (l ++ [x]) (m ++ row5 f) := by
  refine ⟨by rw [List.length_append, List.length_append, h.1]; simp [row5]; omega, fun j y hj => ?_⟩
  by_cases hi : j < l.length
  · rw [List.getElem?_append_left hi] at hj
    obtain ⟨f', h1, h2⟩ := h.2 j y hj
    exact ⟨f', fun q hq => by rw [List.getElem?_append_left (by rw [h.1]; omega)]; exact h1 q hq, h2⟩
  · rw [List.getElem?_append_right (by omega)] at hj
    have h0 : j - l.length = 0 := by
      have := (List.getElem?_eq_some_iff.1 hj).1
      simp at this
      omega
    rw [h0] at hj
    obtain rfl : x = y := by simpa using hj
    obtain rfl : j = l.length := by omega
    refine ⟨f, fun q hq => ?_, hx⟩
    rw [List.getElem?_append_right (by rw [h.1]; omega), h.1, show l.length * 5 + q - l.length * 5 = q by omega]
    exact row5_get f q hq
theorem In5.keep {I J : Nat → Prop} {w w' : World} {l : List Er} {m : List Value} (h : In5 I w l m) (hs : w.heap.size ≤ w'.heap.size) (hb : ∀ b, I b → b < w.heap.size → J b ∧ w'.heap[b]? = w.heap[b]?) : In5 J w' l m :=
  ⟨h.1, fun j x hj => by
    obtain ⟨f, h1, h2⟩ := h.2 j x hj
    exact ⟨f, h1, h2.keep hs hb⟩⟩
theorem In5.take {I : Nat → Prop} {w : World} {l : List Er} {m : List Value} (h : In5 I w l m) (k : Nat) (hk : k ≤ l.length) : In5 I w (l.take k) (m.take (k * 5)) := by
  refine ⟨by rw [List.length_take, List.length_take, h.1]; omega, fun j x hj => ?_⟩
  rw [List.getElem?_take] at hj
  split at hj
  · obtain ⟨f, h1, h2⟩ := h.2 j x hj
    exact ⟨f, fun q hq => by rw [List.getElem?_take, if_pos (by omega)]; exact h1 q hq, h2⟩
  · cases hj
theorem In5.drop {I : Nat → Prop} {w : World} {l : List Er} {m : List Value} (h : In5 I w l m) (k : Nat) (hk : k ≤ l.length) : In5 I w (l.drop k) (m.drop (k * 5)) := by
  refine ⟨by rw [List.length_drop, List.length_drop, h.1]; omega, fun j x hj => ?_⟩
  rw [List.getElem?_drop] at hj
  obtain ⟨f, h1, h2⟩ := h.2 (k + j) x hj
  exact ⟨f, fun q hq => by rw [List.getElem?_drop, show k * 5 + (j * 5 + q) = (k + j) * 5 + q by omega]; exact h1 q hq, h2⟩

theorem In5.fun_of {I : Nat → Prop} {w : World} {l : List Er} {m : List Value} (h : In5 I w l m) : ∃ fs : Nat → Nat → Value, ∀ (i : Nat) x, l[i]? = some x → (∀ q, q < 5 → m[i * 5 + q]? = some (fs i q)) ∧ RefAt I w x (fs i) := by
  refine (Classical.skolem (p := fun (i : Nat) (f : Nat → Value) => ∀ x, l[i]? = some x → (∀ q, q < 5 → m[i * 5 + q]? = some (f q)) ∧ RefAt I w x f)).1 (fun i => ?_)
  cases hi : l[i]? with
  | none => exact ⟨fun _ => .nilIface, fun x hx => by cases hx⟩
  | some y =>
    obtain ⟨f, h1, h2⟩ := h.2 i y hi
    exact ⟨f, fun x hx => by cases hx; exact ⟨h1, h2⟩⟩
def z5 : Nat → Value := refc 0 0 ⟨#[]⟩ ⟨#[]⟩ (.slice none 0 0)
/-- Behind k of the trees. -/
def RAllR (I : Nat → Prop) (xs : List Er) (w : World) (k : Nat) (s : Value) (wr : World) : Prop :=
  ∃ vals, wr.rowIs w.heap.size 37 5 z5 ∧ wr.ownsRow (w.heap.size + 1) 37 5 s (somes (xs.take k)).length vals ∧ In5 I w (somes (xs.take k)) vals ∧ Below w.heap.size w wr
theorem refAt_kind {I : Nat → Prop} {w : World} {x : Er} {f : Nat → Value} (h : RefAt I w x f) : (x = .none → f 0 = .int .i64 0) ∧ (x ≠ .none → ∃ k : Int, f 0 = .int .i64 k ∧ k ≠ 0) := by
  cases h
  · exact ⟨fun _ => rfl, fun h => absurd rfl h⟩
  · exact ⟨(fun h => by cases h), fun _ => ⟨1, rfl, by omega⟩⟩
  · exact ⟨(fun h => by cases h), fun _ => ⟨2, rfl, by omega⟩⟩
  · exact ⟨(fun h => by cases h), fun _ => ⟨3, rfl, by omega⟩⟩

set_option maxHeartbeats 8000000 in
/-- The reference's All. -/
theorem rall_any (I : Nat → Prop) (xs : List Er) (v : Value) (base : Nat) (m : List Value) (w : World) (hn : xs.length ≤ 1000000) (hown : w.ownsRow base 37 5 v xs.length m) (hx : In5 I w xs m) :
    Calls Tryd.prog 29 #[v] w fun ex w' => ∃ f, ex = .returned (.agg (rowArr 5 f)) ∧ RefAt (fun b => I b ∨ w.heap.size ≤ b) w' (allEr xs) f ∧ Below w.heap.size w w' := by
  obtain ⟨a, cap, rfl, _, _, hc⟩ := ownS_any hown
  have HC := Lib.hid hc
  have HX := Lib.hid hx
  have k1 : Below w.heap.size w (w.alloc (.cells #[.int .i64 0, .int .i64 0, .string ⟨#[]⟩, .string ⟨#[]⟩, .slice none 0 0] 37)) := (Below.refl _ _).alloc (Nat.le_refl _) _
  have HR0 : Hid (RAllR I xs w 0 (.slice none 0 0) (w.alloc (.cells #[.int .i64 0, .int .i64 0, .string ⟨#[]⟩, .string ⟨#[]⟩, .slice none 0 0] 37))) := Lib.hid ⟨[], rowIs_lit w [.int .i64 0, .int .i64 0, .string ⟨#[]⟩, .string ⟨#[]⟩, .slice none 0 0] 37 5 z5 rfl, World.ownsRow_nil _ _ _ _, In5.nil _ _, k1⟩
  clear hc hx k1 hown
  go_enter Tryd.func29, Tryd.ntmps29
  go_wp2_with fail
  go_loopw [3, 4] (fun s i wr => ∃ k : Nat, k ≤ xs.length ∧ i = .int .i64 k ∧ RAllR I xs w k s wr) (fun _ i _ => xs.length - (intOf i).toNat)
  case atStart => exact ⟨0, by omega, rfl, HR0.out⟩
  case round =>
    obtain ⟨k, hk, rfl, vals, hrow, hown, hvals, hb⟩ := hrel
    by_cases hlt2 : k < xs.length
    · obtain ⟨x, hxk⟩ : ∃ x, xs[k]? = some x := ⟨_, List.getElem?_eq_getElem hlt2⟩
      obtain ⟨f, hf1, hf2⟩ := HX.out.2 k x hxk
      obtain ⟨g, rfl, _, hg, _⟩ := HC.out (k * 5 + 0) (f 0) (hf1 0 (by omega))
      have hcell : ∀ q, q < 5 → wr.cell? ⟨g, k * 5 + q, none⟩ = some (f q) := fun q hq => by
        obtain ⟨g', hg', _, _, e'⟩ := HC.out (k * 5 + q) (f q) (hf1 q hq)
        cases hg'
        exact (hb.cell (p := ⟨g, k * 5 + q, none⟩) hg).trans e'
      have e0 : wr.cell? ⟨g, k * 5, none⟩ = some (f 0) := hcell 0 (by omega)
      have HCELL := Lib.hid hcell
      have HS := Lib.hid (somes_take xs k x hxk)
      have HV := Lib.hid hvals
      have hle : (somes (xs.take k)).length ≤ k := Nat.le_trans (somes_le _) (List.length_take_le _ _)
      have HROW := Lib.hid hrow
      have HB := Lib.hid hb
      obtain ⟨hk1, hk2⟩ := refAt_kind hf2
      clear hxk hvals hrow hb hf1 hcell
      by_cases hxn : x = .none
      · rw [hk1 hxn] at e0
        rw [if_pos ((isN_iff x).2 hxn), List.append_nil] at HS
        clear hk1 hk2 hxn hf2
        go_wp2_with fail
        go_roundw
        case rel => exact ⟨k + 1, by omega, by go_num, vals, HROW.out, by rw [HS.out]; exact hown, by rw [HS.out]; exact HV.out, HB.out⟩
        case measure => simp [intOf]; omega
      · obtain ⟨kk, hkk, hkk0⟩ := hk2 hxn
        rw [hkk] at e0
        rw [if_neg (fun e => hxn ((isN_iff x).1 e))] at HS
        have HF2 := Lib.hid hf2
        clear hk1 hk2 hkk hf2
        go_wp2_with (first
          | (refine wpList_load_part rfl 37 (.tmp 20) rfl g (k * 5) rfl 5 f HCELL.out _ Tryd.underlying37 rfl sz37 ?_; intro cs hcs; obtain rfl := hcs.out; rw [rowArr5])
          | (refine wpList_append_src rfl (.tmp 17) (.tmp 22) 27 rfl (w.heap.size + 1) 37 5 72 _ Tryd.underlying27 info37 rfl (by omega) _ _ _ rfl (ownsRow_keep hown (fun j hj => Go.Deep.blk_alloc_lt _ _ _ (World.ownsRow.lt hown j hj).2)) _ 1 (row5 f) rfl (Src.of_block (Go.Deep.blk_alloc_new wr _) rfl) (row5_one f HF2.out.one) (by unfold maxLen; omega) (by omega) (by have := HROW.out.lt; rw [Go.Deep.nblk_alloc]; omega) ?_; intro v3 w3 hown3 hgr3 _
             have hb3 : Below w.heap.size w w3 := (HB.out.alloc HB.out.size _).grown hgr3 (HB.out.alloc HB.out.size _).size (fun j hj => by have := (World.ownsRow.lt hown j hj).1; omega)
             have hrow3 : w3.rowIs w.heap.size 37 5 z5 := (HROW.out.alloc _).of_block (hgr3.block w.heap.size (HROW.out.alloc _).lt (by intro e; have := World.ownsRow.lt hown _ (by first | exact e | exact e.symm); omega))
             have HO3 := Lib.hid hown3
             have HR3 := Lib.hid hrow3
             have HB3 := Lib.hid hb3
             clear hown3 hgr3 hrow3 hb3)
          | fail)
        go_roundw
        case rel =>
          refine ⟨k + 1, by omega, by go_num, vals ++ row5 f, HR3.out, ?_, ?_, HB3.out⟩
          · rw [HS.out, List.length_append]
            exact HO3.out
          · rw [HS.out]
            exact HV.out.snoc HF2.out
        case measure => simp [intOf]; omega
    · obtain rfl : k = xs.length := by omega
      rw [List.take_length] at hown hvals
      obtain ⟨a2, cap2, rfl, hc1, hc2, hc3⟩ := ownS_any hown
      have HB := Lib.hid hb
      have HV := Lib.hid hvals
      have HROW := Lib.hid hrow
      have HC3 := Lib.hid hc3
      have HALL := Lib.hid (show allEr xs = oneEr (somes xs) from rfl)
      have HNE := Lib.hid (somes_ne xs)
      have hle := somes_le xs
      generalize somes xs = L at *
      clear hb hvals hrow hc3 hown
      match L with
      | [] =>
        go_wp2_with (first
          | (refine wpList_store_abs rfl 37 (.tmp 2) (.tmp 27) rfl w.heap.size rfl (rowArr 5 z5) rfl 37 5 z5 _ HROW.out rfl sz37 (fun j hj => (RefAt.none (I := I) (w := w)).one j) ?_; intro w4 hrow4 hgr4 hsz4)
          | fail)
        refine bodyPost_ret (results_row (g := w.heap.size) rfl rfl (rowIs_block hrow4) Tryd.underlying37 rfl (by rw [size_rowArr]; exact sz37)) rfl ?_
        exact ⟨z5, rfl, by rw [HALL.out]; exact .none, HB.out.trans (below_of_grown hgr4 (Nat.le_refl _) HB.out.size)⟩
      | [x] =>
        obtain ⟨f, hf1, hf2⟩ := HV.out.2 0 x rfl
        obtain ⟨g, rfl, hg0, hg, _⟩ := HC3.out 0 (f 0) (hf1 0 (by omega))
        have hcell : ∀ q, q < 5 → wr.cell? ⟨g, 0 + q, none⟩ = some (f q) := fun q hq => by
          obtain ⟨g', hg', _, _, e'⟩ := HC3.out (0 * 5 + q) (f q) (hf1 q hq)
          cases hg'
          simpa using e'
        have HCELL := Lib.hid hcell
        clear hcell hf1
        go_wp2_with (first
          | (refine wpList_load_part rfl 37 (.tmp 32) rfl g 0 rfl 5 f HCELL.out _ Tryd.underlying37 rfl sz37 ?_; intro cs hcs; obtain rfl := hcs.out)
          | (refine wpList_store_abs rfl 37 (.tmp 2) (.tmp 33) rfl w.heap.size rfl (rowArr 5 f) rfl 37 5 f _ HROW.out rfl sz37 (fun j hj => hf2.one j) ?_; intro w4 hrow4 hgr4 hsz4)
          | fail)
        refine bodyPost_ret (results_row (g := w.heap.size) rfl rfl (rowIs_block hrow4) Tryd.underlying37 rfl (by rw [size_rowArr]; exact sz37)) rfl ?_
        have hb4 := HB.out.trans (below_of_grown hgr4 (Nat.le_refl _) HB.out.size)
        exact ⟨f, rfl, by rw [HALL.out]; exact hf2.keep hb4.size (fun b hI hlt => ⟨.inl hI, hb4.block b hlt⟩), hb4⟩
      | x :: y :: l =>
        obtain ⟨f, hf1, hf2⟩ := HV.out.2 0 x rfl
        obtain ⟨g, rfl, hg0, hg, _⟩ := HC3.out 0 (f 0) (hf1 0 (by omega))
        have h2 : 2 ≤ (x :: y :: l).length := by simp
        have hr : ∀ j, (refc 3 0 ⟨#[]⟩ ⟨#[]⟩ (.slice (some ⟨g, 0, none⟩) (x :: y :: l).length cap2) j).oneCell' = true := fun j => by unfold refc; split <;> rfl
        clear hf1
        go_wp2_with (first
          | (refine wpList_store_abs rfl 37 (.tmp 2) (.tmp 35) rfl w.heap.size rfl (rowArr 5 (refc 3 0 ⟨#[]⟩ ⟨#[]⟩ (.slice (some ⟨g, 0, none⟩) (x :: y :: l).length cap2))) rfl 37 5 _ _ HROW.out rfl sz37 (fun j hj => hr j) ?_; intro w4 hrow4 hgr4 hsz4)
          | fail)
        refine bodyPost_ret (results_row (g := w.heap.size) rfl rfl (rowIs_block hrow4) Tryd.underlying37 rfl (by rw [size_rowArr]; exact sz37)) rfl ?_
        have hb4 := HB.out.trans (below_of_grown hgr4 (Nat.le_refl _) HB.out.size)
        refine ⟨_, rfl, ?_, hb4⟩
        rw [HALL.out]
        have hgw : w4.heap[g]? = wr.heap[g]? := hgr4.block g hg (by intro e; simp at e; omega)
        obtain ⟨fs, hfs⟩ := HV.out.fun_of
        refine .lst (x :: y :: l) g _ cap2 fs rfl h2 hc1 (by simp at hle ⊢; omega) (.inr (by omega)) (by omega) (fun i j hi hj => ?_) (fun i z hz => HNE.out i z hz) (fun i z hz => ?_)
        · obtain ⟨z, hz⟩ : ∃ z, (x :: y :: l)[i]? = some z := ⟨_, List.getElem?_eq_getElem hi⟩
          obtain ⟨g', hg', _, _, e'⟩ := HC3.out (i * 5 + j) (fs i j) ((hfs i z hz).1 j hj)
          cases hg'
          exact (World.cell?_of_block (w := wr) hgw).trans e'
        · exact (hfs i z hz).2.keep hb4.size (fun b hI hlt => ⟨.inl hI, hb4.block b hlt⟩)
end Go.Proofs.YtcodlhjedhaaaaaDoor
