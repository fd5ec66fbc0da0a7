/-
  fault.All.
-/
import Derived.Test.YtcodlhjedhaaaaaDoorF13
namespace Go.Proofs.YtcodlhjedhaaaaaDoor
open Go.RowKit
set_option maxRecDepth 100000

def Er.isN : Er → Bool
  | .none => true
  | _ => false
theorem isN_iff (x : Er) : x.isN = true ↔ x = .none := by cases x <;> simp [Er.isN]
def somes (l : List Er) : List Er := l.filter (fun x => !x.isN)
def oneEr : List Er → Er
  | [] => .none
  | [x] => x
  | l => .lst l
def allEr (l : List Er) : Er := oneEr (somes l)
theorem somes_take (l : List Er) (k : Nat) (x : Er) (h : l[k]? = some x) : somes (l.take (k + 1)) = somes (l.take k) ++ (if x.isN then [] else [x]) := by
  rw [List.take_add_one, h]
  unfold somes
  rw [List.filter_append]
  congr 1
  cases x <;> simp [Er.isN]
theorem somes_ne (l : List Er) (j : Nat) (x : Er) (h : (somes l)[j]? = some x) : x ≠ .none := by
  have := List.mem_of_getElem? h
  unfold somes at this
  rw [List.mem_filter] at this
  rintro rfl
  simp [Er.isN] at this
theorem somes_le (l : List Er) : (somes l).length ≤ l.length := List.length_filter_le _ _

/-- Behind k of the errors. -/
def AllR (I : Nat → Prop) (xs : List Er) (w : World) (k : Nat) (wr : World) : Prop :=
  ∃ s vals, wr.rowIs w.heap.size 66 1 (fun _ => s) ∧ wr.ownsRow (w.heap.size + 1) 32 1 s (somes (xs.take k)).length vals ∧ (∀ (j : Nat) x, (somes (xs.take k))[j]? = some x → ∃ u, vals[j]? = some u ∧ ErAt I w x u) ∧ Below w.heap.size w wr
theorem snoc_get {α β : Type} {l : List α} {m : List β} {a : α} {b : β} (hl : l.length = m.length) {P : α → β → Prop} (h : ∀ (j : Nat) x, l[j]? = some x → ∃ u, m[j]? = some u ∧ P x u) (hp : P a b) : ∀ (j : Nat) x, (l ++ [a])[j]? = some x → ∃ u, (m ++ [b])[j]? = some u ∧ P x u := by
  intro j x hj
  by_cases hi : j < l.length
  · rw [List.getElem?_append_left hi] at hj
    rw [List.getElem?_append_left (by omega)]
    exact h j x hj
  · rw [List.getElem?_append_right (by omega)] at hj
    have h0 : j - l.length = 0 := by
      have := (List.getElem?_eq_some_iff.1 hj).1
      simp at this
      omega
    rw [h0] at hj
    rw [List.getElem?_append_right (by omega), ← hl, h0]
    simp at hj ⊢
    exact hj ▸ hp

set_option maxHeartbeats 8000000 in
/-- fault.All. -/
theorem all_any (I : Nat → Prop) (xs : List Er) (us : Nat → Value) (a : Option Addr) (c : Nat) (w : World) (hn : xs.length ≤ 1000000)
    (hc : ∀ i, i < xs.length → ∃ b o, a = some ⟨b, o, none⟩ ∧ b < w.heap.size ∧ w.cell? ⟨b, o + i, none⟩ = some (us i))
    (hx : ∀ (i : Nat) x, xs[i]? = some x → ErAt I w x (us i)) :
    Calls Tryd.prog 28 #[.slice a xs.length c] w fun ex w' => ∃ v, ex = .returned v ∧ ErAt (fun b => I b ∨ w.heap.size ≤ b) w' (allEr xs) v ∧ Below w.heap.size w w' := by
  have HC := Lib.hid hc
  have HX := Lib.hid hx
  have k1 : Below w.heap.size w (w.alloc (.cells #[.slice none 0 0] 66)) := (Below.refl _ _).alloc (Nat.le_refl _) _
  have HR0 : Hid (AllR I xs w 0 (w.alloc (.cells #[.slice none 0 0] 66))) := Lib.hid ⟨.slice none 0 0, [], rowIs_lit w [.slice none 0 0] 66 1 _ rfl, World.ownsRow_nil _ _ _ _, fun j x h => by simp [somes] at h, k1⟩
  clear hc hx k1
  go_enter Tryd.func28, Tryd.ntmps28
  go_wp2_with fail
  go_loopw [10] (fun i wr => ∃ k : Nat, k ≤ xs.length ∧ i = .int .i64 k ∧ AllR I xs w k wr) (fun i _ => xs.length - (intOf i).toNat)
  case atStart => exact ⟨0, by omega, rfl, HR0.out⟩
  case round =>
    obtain ⟨k, hk, rfl, s, vals, hrow, hown, hvals, hb⟩ := hrel
    have c0 := hrow.cell (i := 0) (by omega)
    by_cases hlt2 : k < xs.length
    · obtain ⟨x, hxk⟩ : ∃ x, xs[k]? = some x := ⟨_, List.getElem?_eq_getElem hlt2⟩
      obtain ⟨b, o, rfl, hbl, e0⟩ := HC.out k hlt2
      have e1 := (hb.cell (p := ⟨b, o + k, none⟩) hbl).trans e0
      have herr := HX.out k x hxk
      have HS := Lib.hid (somes_take xs k x hxk)
      have HV := Lib.hid hvals
      have hle : (somes (xs.take k)).length ≤ k := Nat.le_trans (somes_le _) (List.length_take_le _ _)
      have HROW := Lib.hid hrow
      have HB := Lib.hid hb
      clear e0 hxk hvals hrow hb
      by_cases hxn : x = .none
      · subst hxn
        rw [if_pos ((isN_iff _).2 rfl), List.append_nil] at HS
        rw [herr.nil.2 rfl] at e1
        clear herr
        go_wp2_with fail
        go_roundw
        case rel => exact ⟨k + 1, by omega, by go_num, s, vals, HROW.out, by rw [HS.out]; exact hown, by rw [HS.out]; exact HV.out, HB.out⟩
        case measure => simp [intOf]; omega
      · rw [if_neg (fun e => hxn ((isN_iff x).1 e))] at HS
        obtain ⟨t, u, huk⟩ := herr.iface hxn
        rw [huk] at e1 herr
        have HE := Lib.hid herr
        have HF := Lib.hid (HROW.out.frozen 0)
        have hlen : (somes (xs.take k)).length = vals.length := by have := hown.1; omega
        have HLEN := Lib.hid hlen
        clear huk herr hlen
        go_wp2_with (first
          | (refine wpList_append_src rfl (.tmp 20) (.tmp 22) 25 rfl (w.heap.size + 1) 32 1 16 _ Tryd.underlying25 info32 rfl (by omega) _ _ _ rfl (ownsRow_keep hown (fun j hj => Go.Deep.blk_alloc_lt _ _ _ (World.ownsRow.lt hown j hj).2)) _ 1 [.iface t u] rfl (Src.of_block (Go.Deep.blk_alloc_new wr _) rfl) (by simp [Value.oneCell']) (by unfold maxLen; omega) (by omega) (by have := HROW.out.lt; rw [Go.Deep.nblk_alloc]; omega) ?_; intro v3 w3 hown3 hgr3 _
             obtain ⟨a3, cap3, rfl, hs1, hs2, _⟩ := own1_any hown3
             have hb3 : Below w.heap.size w w3 := (HB.out.alloc HB.out.size _).grown hgr3 (HB.out.alloc HB.out.size _).size (fun j hj => by have := (World.ownsRow.lt hown j hj).1; omega)
             have hrow3 : w3.rowIs w.heap.size 66 1 (fun _ => s) := (HROW.out.alloc _).of_block (hgr3.block w.heap.size (HROW.out.alloc _).lt (by intro e; have := World.ownsRow.lt hown _ (by first | exact e | exact e.symm); omega))
             have d0 := hrow3.cell (i := 0) (by omega)
             have d1 := hrow3.frozen 0
             have HO3 := Lib.hid hown3
             have HR3 := Lib.hid hrow3
             have HB3 := Lib.hid hb3
             clear hown3 hgr3 hrow3 hb3)
          | fail)
        go_roundw
        case rel =>
          refine ⟨k + 1, by omega, by go_num, .slice a3 ((somes (xs.take k)).length + 1) cap3, vals ++ [.iface t u], (HR3.out.set 0 _).congr (fun i hi => ?_), ?_, ?_, HB3.out.setCell (Nat.le_refl _) _⟩
          · obtain rfl : i = 0 := by omega
            rfl
          · rw [HS.out, List.length_append]
            exact ownsRow_keep HO3.out (fun j hj => Below.heap_setCell _ _ _ _ (by have := (World.ownsRow.lt HO3.out j hj).1; show j ≠ w.heap.size; omega))
          · rw [HS.out]
            exact snoc_get HLEN.out HV.out HE.out
        case measure => simp [intOf]; omega
    · obtain rfl : k = xs.length := by omega
      rw [List.take_length] at hown hvals
      obtain ⟨a2, cap, rfl, hc1, hc2, hc3⟩ := own1_any hown
      have HB := Lib.hid hb
      have HV := Lib.hid hvals
      have HROW := Lib.hid hrow
      have HC3 := Lib.hid hc3
      have HALL := Lib.hid (show allEr xs = oneEr (somes xs) from rfl)
      have HNE := Lib.hid (somes_ne xs)
      have hle := somes_le xs
      generalize somes xs = L at *
      clear hb hvals hrow hc3 hown
      match L with
      | [] =>
        go_wp2_with fail
        go_ret
        exact ⟨_, rfl, by rw [HALL.out]; exact .none, HB.out⟩
      | [x] =>
        obtain ⟨u, hu1, hu2⟩ := HV.out 0 x rfl
        obtain ⟨g, rfl, _, hg, e0⟩ := HC3.out 0 u hu1
        clear hu1
        go_wp2_with fail
        go_ret
        exact ⟨_, rfl, by rw [HALL.out]; exact hu2.keep HB.out.size (fun b hI hlt => ⟨.inl hI, HB.out.block b hlt⟩), HB.out⟩
      | x :: y :: l =>
        obtain ⟨u, hu1, hu2⟩ := HV.out 0 x rfl
        obtain ⟨g, rfl, hg0, hg, e0⟩ := HC3.out 0 u hu1
        have h2 : 2 ≤ (x :: y :: l).length := by simp
        have HL := Lib.hid (show (x :: y :: l).length = (x :: y :: l).length from rfl)
        simp only [List.length_cons] at c0 hle
        clear hu1 e0
        go_wp2_with fail
        go_ret
        refine ⟨_, rfl, ?_, HB.out⟩
        rw [HALL.out]
        refine .lst (x :: y :: l) w.heap.size g _ cap (fun i => (vals[i]?).getD .nilIface) rfl h2 hc1 (by simp at hle ⊢; omega) (.inr (Nat.le_refl _)) (.inr (by omega)) hg HROW.out (fun i hi => ?_) (fun i z hz => HNE.out i z hz) (fun i z hz => ?_)
        · obtain ⟨z, hz⟩ : ∃ z, (x :: y :: l)[i]? = some z := ⟨_, List.getElem?_eq_getElem hi⟩
          obtain ⟨u', hu3, _⟩ := HV.out i z hz
          obtain ⟨g', hg', _, _, e'⟩ := HC3.out i u' hu3
          cases hg'
          rw [hu3]
          exact e'
        · obtain ⟨u', hu3, hu4⟩ := HV.out i z hz
          simp only [hu3, Option.getD_some]
          exact hu4.keep HB.out.size (fun b hI hlt => ⟨.inl hI, HB.out.block b hlt⟩)
end Go.Proofs.YtcodlhjedhaaaaaDoor
