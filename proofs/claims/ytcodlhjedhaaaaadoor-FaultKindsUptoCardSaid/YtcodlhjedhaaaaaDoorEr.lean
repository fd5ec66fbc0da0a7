/-
  ERRORS AS TREES: their texts, and how they lie in memory: as the program's interface values (ErAt) and as the reference's cells (RefAt).
-/
import Derived.Test.YtcodlhjedhaaaaaDoorLib
import Derived.Lib.Join
import Derived.Lib.ItoaNum
import Derived.Lib.LaidTab
namespace Go.Proofs.YtcodlhjedhaaaaaDoor
open Go.RowKit
set_option maxRecDepth 100000

inductive Er where
  | none
  | num (e : Int)
  | flt (op path : ByteArray) (x : Er)
  | lst (l : List Er)

/-- Texts joined by '; '. -/
def joinT (xs : List ByteArray) : ByteArray := ⟨(Lib.join (xs.map (·.data.toList)) [59, 32]).toArray⟩
def numText (e : Int) : ByteArray := ⟨#[118, 101, 110, 101, 101, 114, 58, 32, 101, 114, 114, 111, 114, 32]⟩ ++ ⟨(Lib.itoa e).toArray⟩
def head (op path : ByteArray) : ByteArray := if path = ⟨#[]⟩ then op else op ++ (⟨#[32]⟩ ++ path)
mutual
def Er.text : Er → ByteArray
  | .none => ⟨#[]⟩
  | .num e => numText e
  | .flt op path x => head op path ++ ⟨#[58, 32]⟩ ++ x.text
  | .lst l => joinT (Er.texts l)
def Er.texts : List Er → List ByteArray
  | [] => []
  | x :: l => x.text :: Er.texts l
end
theorem texts_map : ∀ l : List Er, Er.texts l = l.map Er.text
  | [] => by simp [Er.texts]
  | x :: l => by simp [Er.texts, texts_map l]
theorem text_lst (l : List Er) : (Er.lst l).text = joinT (l.map Er.text) := by rw [Er.text, texts_map]

/-! ### Joined texts, one by one -/
theorem join_snoc (xs : List (List UInt8)) (x sep : List UInt8) (h : xs ≠ []) : Lib.join (xs ++ [x]) sep = Lib.join xs sep ++ sep ++ x := by
  unfold Lib.join
  induction xs with
  | nil => exact absurd rfl h
  | cons y ys ih =>
    cases ys with
    | nil => simp [List.intercalate]
    | cons z zs =>
      have := ih (by simp)
      simp only [List.cons_append, List.intercalate, List.intersperse, List.flatten_cons] at this ⊢
      rw [this]
      simp
theorem joinT_nil : joinT [] = ⟨#[]⟩ := by simp [joinT, Lib.join, List.intercalate]
theorem joinT_one (x : ByteArray) : joinT [x] = x := by
  unfold joinT Lib.join
  simp [List.intercalate]
theorem bytes_append (a b : List UInt8) : (⟨(a ++ b).toArray⟩ : ByteArray) = ⟨a.toArray⟩ ++ ⟨b.toArray⟩ := by
  apply ByteArray.ext
  simp
theorem joinT_snoc (xs : List ByteArray) (x : ByteArray) (h : xs ≠ []) : joinT (xs ++ [x]) = joinT xs ++ ⟨#[59, 32]⟩ ++ x := by
  unfold joinT
  rw [List.map_append, List.map_cons, List.map_nil, join_snoc _ _ _ (by simpa using h), bytes_append, bytes_append]
/-- One more in the reference's manner. -/
theorem joinT_take (xs : List ByteArray) (i : Nat) (x : ByteArray) (h : xs[i]? = some x) :
    joinT (xs.take (i + 1)) = (if 0 < i then joinT (xs.take i) ++ ⟨#[59, 32]⟩ else joinT (xs.take i)) ++ x := by
  have hi : i < xs.length := (List.getElem?_eq_some_iff.1 h).1
  rw [List.take_add_one, h]
  simp only [Option.toList]
  by_cases h0 : 0 < i
  · rw [if_pos h0, joinT_snoc _ _ (by
      intro e
      rw [List.take_eq_nil_iff] at e
      rcases e with e | e
      · omega
      · rw [e] at hi; simp at hi)]
  · obtain rfl : i = 0 := by omega
    rw [List.take_zero, List.nil_append, joinT_one, if_neg h0, joinT_nil]
    apply ByteArray.ext
    simp
theorem length_join (sep : List UInt8) : ∀ l : List (List UInt8), (Lib.join l sep).length + (if l = [] then 0 else sep.length) = (l.map (fun x => x.length + sep.length)).sum
  | [] => by simp [Lib.join, List.intercalate]
  | [x] => by simp [Lib.join, List.intercalate]
  | x :: y :: l => by
    have ih := length_join sep (y :: l)
    have e : Lib.join (x :: y :: l) sep = x ++ sep ++ Lib.join (y :: l) sep := by simp [Lib.join, List.intercalate]
    rw [e]
    simp only [reduceCtorEq, if_false, List.length_append, List.map_cons, List.sum_cons] at ih ⊢
    omega
theorem size_joinT (xs : List ByteArray) : (joinT xs).size + (if xs = [] then 0 else 2) = (xs.map (fun x => x.size + 2)).sum := by
  have h := length_join [59, 32] (xs.map (·.data.toList))
  have e : (joinT xs).size = (Lib.join (xs.map (·.data.toList)) [59, 32]).length := by simp [joinT, ByteArray.size]
  rw [e]
  simp only [List.map_eq_nil_iff, List.map_map] at h
  rw [show (xs.map (fun x => x.size + 2)) = xs.map ((fun x : List UInt8 => x.length + [59, 32].length) ∘ fun x : ByteArray => x.data.toList) by
    apply List.map_congr_left
    intro x _
    show x.data.size + 2 = x.data.toList.length + 2
    rw [Array.length_toList]]
  exact h

/-! ### In memory -/
def fltRow (op path : ByteArray) (u : Value) : Nat → Value
  | 0 => .string op
  | 1 => .string path
  | _ => u
def refc (k c : Int) (op path : ByteArray) (s : Value) : Nat → Value
  | 0 => .int .i64 k
  | 1 => .int .i64 c
  | 2 => .string op
  | 3 => .string path
  | _ => s
/-- The program's error: an interface value; all its blocks lie in I. -/
inductive ErAt (I : Nat → Prop) (w : World) : Er → Value → Prop
  | none : ErAt I w .none .nilIface
  | num (e : Int) (h0 : 0 < e) (h1 : e ≤ 300) : ErAt I w (.num e) (.iface 35 (.int .i64 e))
  | flt (op path : ByteArray) (x : Er) (b : Nat) (u : Value) (hx : x ≠ .none) (hI : I b) (hr : w.rowIs b 39 3 (fltRow op path u)) (h : ErAt I w x u) : ErAt I w (.flt op path x) (.iface 29 (.pointer (some ⟨b, 0, none⟩)))
  | lst (l : List Er) (b g n cap : Nat) (us : Nat → Value) (hl : l.length = n) (h2 : 2 ≤ n) (hcap : n ≤ cap) (hmax : n ≤ 1000000) (hI : I b) (hIg : I g) (hg : g < w.heap.size) (hr : w.rowIs b 66 1 (fun _ => .slice (some ⟨g, 0, none⟩) n cap))
      (hc : ∀ i, i < n → w.cell? ⟨g, i, none⟩ = some (us i)) (hx : ∀ (i : Nat) x, l[i]? = some x → x ≠ .none) (h : ∀ (i : Nat) x, l[i]? = some x → ErAt I w x (us i)) : ErAt I w (.lst l) (.iface 33 (.pointer (some ⟨b, 0, none⟩)))
/-- The reference's error: five cells. -/
inductive RefAt (I : Nat → Prop) (w : World) : Er → (Nat → Value) → Prop
  | none : RefAt I w .none (refc 0 0 ⟨#[]⟩ ⟨#[]⟩ (.slice none 0 0))
  | num (e : Int) (h0 : 0 < e) (h1 : e ≤ 300) : RefAt I w (.num e) (refc 1 e ⟨#[]⟩ ⟨#[]⟩ (.slice none 0 0))
  | flt (op path : ByteArray) (x : Er) (g cap : Nat) (f : Nat → Value) (hx : x ≠ .none) (hI : I g) (hg : g < w.heap.size) (hcap : 1 ≤ cap) (hc : ∀ j, j < 5 → w.cell? ⟨g, j, none⟩ = some (f j)) (h : RefAt I w x f) : RefAt I w (.flt op path x) (refc 2 0 op path (.slice (some ⟨g, 0, none⟩) 1 cap))
  | lst (l : List Er) (g n cap : Nat) (fs : Nat → Nat → Value) (hl : l.length = n) (h2 : 2 ≤ n) (hcap : n ≤ cap) (hmax : n ≤ 1000000) (hI : I g) (hg : g < w.heap.size) (hc : ∀ i j, i < n → j < 5 → w.cell? ⟨g, i * 5 + j, none⟩ = some (fs i j)) (hx : ∀ (i : Nat) x, l[i]? = some x → x ≠ .none)
      (h : ∀ (i : Nat) x, l[i]? = some x → RefAt I w x (fs i)) : RefAt I w (.lst l) (refc 3 0 ⟨#[]⟩ ⟨#[]⟩ (.slice (some ⟨g, 0, none⟩) n cap))

/-- What is not written to stays. -/
theorem ErAt.keep {I J : Nat → Prop} {w w' : World} {x : Er} {v : Value} (h : ErAt I w x v) (hs : w.heap.size ≤ w'.heap.size) (hb : ∀ b, I b → b < w.heap.size → J b ∧ w'.heap[b]? = w.heap[b]?) : ErAt J w' x v := by
  induction h with
  | none => exact .none
  | num e h0 h1 => exact .num e h0 h1
  | flt op path x b u hx hI hr _ ih => exact .flt op path x b u hx (hb b hI hr.lt).1 (hr.of_block (hb b hI hr.lt).2) ih
  | lst l b g n cap us hl h2 hcap hmax hI hIg hg hr hc hx _ ih =>
    exact .lst l b g n cap us hl h2 hcap hmax (hb b hI hr.lt).1 (hb g hIg hg).1 (by omega) (hr.of_block (hb b hI hr.lt).2) (fun i hi => (World.cell?_of_block (w := w) (hb g hIg hg).2).trans (hc i hi)) hx ih
theorem RefAt.keep {I J : Nat → Prop} {w w' : World} {x : Er} {f : Nat → Value} (h : RefAt I w x f) (hs : w.heap.size ≤ w'.heap.size) (hb : ∀ b, I b → b < w.heap.size → J b ∧ w'.heap[b]? = w.heap[b]?) : RefAt J w' x f := by
  induction h with
  | none => exact .none
  | num e h0 h1 => exact .num e h0 h1
  | flt op path x g cap f hx hI hg hcap hc _ ih => exact .flt op path x g cap f hx (hb g hI hg).1 (by omega) hcap (fun j hj => (World.cell?_of_block (w := w) (hb g hI hg).2).trans (hc j hj)) ih
  | lst l g n cap fs hl h2 hcap hmax hI hg hc hx _ ih =>
    exact .lst l g n cap fs hl h2 hcap hmax (hb g hI hg).1 (by omega) (fun i j hi hj => (World.cell?_of_block (w := w) (hb g hI hg).2).trans (hc i j hi hj)) hx ih
theorem ErAt.under {I : Nat → Prop} {w w' : World} {x : Er} {v : Value} (h : ErAt I w x v) (hb : Below w.heap.size w w') : ErAt I w' x v := h.keep hb.size (fun b hI hlt => ⟨hI, hb.block b hlt⟩)
theorem RefAt.under {I : Nat → Prop} {w w' : World} {x : Er} {f : Nat → Value} (h : RefAt I w x f) (hb : Below w.heap.size w w') : RefAt I w' x f := h.keep hb.size (fun b hI hlt => ⟨hI, hb.block b hlt⟩)
theorem ErAt.any {I : Nat → Prop} {w : World} {x : Er} {v : Value} (h : ErAt I w x v) (J : Nat → Prop) (hJ : ∀ b, I b → b < w.heap.size → J b) : ErAt J w x v := h.keep (Nat.le_refl _) (fun b hI hlt => ⟨hJ b hI hlt, rfl⟩)
theorem RefAt.any {I : Nat → Prop} {w : World} {x : Er} {f : Nat → Value} (h : RefAt I w x f) (J : Nat → Prop) (hJ : ∀ b, I b → b < w.heap.size → J b) : RefAt J w x f := h.keep (Nat.le_refl _) (fun b hI hlt => ⟨hJ b hI hlt, rfl⟩)
theorem ErAt.nil {I : Nat → Prop} {w : World} {x : Er} {v : Value} (h : ErAt I w x v) : v = .nilIface ↔ x = .none := by
  cases h <;> simp
/-- An interface value. -/
theorem ErAt.oneCell {I : Nat → Prop} {w : World} {x : Er} {v : Value} (h : ErAt I w x v) : v.oneCell' = true := by cases h <;> rfl

/-! ### Sizes of texts -/
theorem size_inner (op path : ByteArray) (x : Er) : x.text.size ≤ (Er.flt op path x).text.size := by
  rw [Er.text]
  simp only [ByteArray.size_append]
  omega
theorem sum_ge : ∀ (l : List Nat) (i n : Nat), l[i]? = some n → n ≤ l.sum
  | [], i, n, h => by simp at h
  | a :: l, 0, n, h => by
    obtain rfl : a = n := by simpa using h
    simp
  | a :: l, i + 1, n, h => by
    have := sum_ge l i n (by simpa using h)
    simp only [List.sum_cons]
    omega
theorem size_kid (l : List Er) (i : Nat) (x : Er) (h : l[i]? = some x) : x.text.size ≤ (Er.lst l).text.size := by
  have h1 := size_joinT (l.map Er.text)
  rw [text_lst]
  have h2 := sum_ge ((l.map Er.text).map (fun x => x.size + 2)) i (x.text.size + 2) (by simp [h])
  have : (if l.map Er.text = [] then 0 else 2) ≤ 2 := by split <;> omega
  omega
end Go.Proofs.YtcodlhjedhaaaaaDoor
