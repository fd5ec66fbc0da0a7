/-
  The pile, plain.
-/
import Derived.Test.YtcodlhjedhaaaaaDoorF16
namespace Go.Proofs.YtcodlhjedhaaaaaDoor
open Go.RowKit
set_option maxRecDepth 100000

/-- A step. -/
structure St where
  kind : Int
  op : ByteArray
  path : ByteArray
  code : Int
  n : Int
def St.row (s : St) : Nat → Value
  | 0 => .int .i64 s.kind
  | 1 => .string s.op
  | 2 => .string s.path
  | 3 => .int .i64 s.code
  | _ => .int .i64 s.n
def St.k (s : St) : Nat := ((s.kind % 18446744073709551616) % 5).toNat
/-- Where the last N begin. -/
def St.cut (s : St) (l : Nat) : Nat := l - ((s.n % 18446744073709551616) % ((l : Int) + 1)).toNat
def numEr (e : Int) : Er := if e = 0 then .none else .num e
def lastEr (p : List Er) : Er := (p.getLast?).getD .none
/-- One step on the pile. -/
def stepEr (p : List Er) (s : St) : List Er :=
  match s.k with
  | 0 => p ++ [newEr s.op s.path (errno s.code)]
  | 1 => if p = [] then [.none] else p.take (p.length - 1) ++ [wrapEr s.op (lastEr p)]
  | 2 => p.take (s.cut p.length) ++ [allEr (p.drop (s.cut p.length))]
  | 3 => p ++ [numEr (errno s.code)]
  | _ => p ++ [.none]
def pile (l : List St) : List Er := l.foldl stepEr []
theorem pile_nil : pile [] = [] := rfl
theorem pile_take (l : List St) (k : Nat) (s : St) (h : l[k]? = some s) : pile (l.take (k + 1)) = stepEr (pile (l.take k)) s := by
  rw [List.take_add_one, h]
  simp [pile, List.foldl_append]
theorem cut_le (s : St) (l : Nat) : s.cut l ≤ l := Nat.sub_le _ _
theorem step_length (p : List Er) (s : St) : (stepEr p s).length ≤ p.length + 1 := by
  unfold stepEr
  split
  · simp
  · split <;> simp
  · simp
    have := cut_le s p.length
    omega
  · simp
  · simp
/-- What a pile weighs. -/
def heft (p : List Er) : Nat := (p.map (fun x => x.text.size + 2)).sum
theorem heft_append (p q : List Er) : heft (p ++ q) = heft p + heft q := by simp [heft]
theorem heft_one (x : Er) : heft [x] = x.text.size + 2 := by simp [heft]
theorem heft_split (p : List Er) (k : Nat) : heft p = heft (p.take k) + heft (p.drop k) := by rw [← heft_append, List.take_append_drop]
theorem size_head (op path : ByteArray) : (head op path).size ≤ op.size + path.size + 1 := by
  unfold head
  split
  · omega
  · simp only [ByteArray.size_append]
    have : (⟨#[32]⟩ : ByteArray).size = 1 := rfl
    omega
theorem size_num (e : Int) (h0 : 0 ≤ e) (h1 : e ≤ 300) : (Er.num e).text.size ≤ 17 := by
  rw [Er.text, numText]
  simp only [ByteArray.size_append]
  have z : (⟨#[118, 101, 110, 101, 101, 114, 58, 32, 101, 114, 114, 111, 114, 32]⟩ : ByteArray).size = 14 := rfl
  have hl := itoa_le e h0 h1
  have z2 : (⟨(Lib.itoa e).toArray⟩ : ByteArray).size = (Lib.itoa e).length := by simp [ByteArray.size]
  omega
theorem size_new (op path : ByteArray) (e : Int) (h0 : 0 ≤ e) (h1 : e ≤ 300) : (newEr op path e).text.size ≤ op.size + path.size + 20 := by
  unfold newEr
  split
  · rw [Er.text]
    show 0 ≤ _
    omega
  · rw [Er.text]
    have a := size_head op path
    have b := size_num e h0 h1
    have z : (⟨#[58, 32]⟩ : ByteArray).size = 2 := rfl
    simp only [ByteArray.size_append]
    omega
theorem size_wrap (op : ByteArray) (x : Er) : (wrapEr op x).text.size ≤ x.text.size + op.size + 2 := by
  by_cases hx : x = .none
  · subst hx
    show (Er.text .none).size ≤ _
    omega
  · rw [wrapEr_of op x hx, Er.text]
    unfold head
    rw [if_pos rfl]
    have z : (⟨#[58, 32]⟩ : ByteArray).size = 2 := rfl
    simp only [ByteArray.size_append]
    omega
theorem heft_somes (l : List Er) : heft (somes l) ≤ heft l := by
  induction l with
  | nil => exact Nat.le_refl _
  | cons x l ih =>
    have h1 : heft (x :: l) = x.text.size + 2 + heft l := by simp [heft]
    unfold somes at ih ⊢
    rw [List.filter_cons]
    split
    · have h2 : heft (x :: l.filter (fun x => !x.isN)) = x.text.size + 2 + heft (l.filter (fun x => !x.isN)) := by simp [heft]
      omega
    · omega
theorem size_all (l : List Er) : (allEr l).text.size ≤ heft l := by
  refine Nat.le_trans ?_ (heft_somes l)
  unfold allEr
  generalize somes l = L
  match L with
  | [] =>
    show (Er.text .none).size ≤ _
    rw [Er.text]
    exact Nat.zero_le _
  | [x] =>
    show x.text.size ≤ _
    rw [heft_one]
    omega
  | x :: y :: l =>
    show (Er.lst (x :: y :: l)).text.size ≤ _
    have h := size_joinT ((x :: y :: l).map Er.text)
    rw [text_lst]
    have e : ((x :: y :: l).map Er.text).map (fun x => x.size + 2) = (x :: y :: l).map (fun x => x.text.size + 2) := by simp
    rw [e] at h
    unfold heft
    omega
theorem drop_last (p : List Er) (hp : p ≠ []) : p.drop (p.length - 1) = [lastEr p] := by
  obtain ⟨q, x, rfl⟩ : ∃ q x, p = q ++ [x] := ⟨p.dropLast, p.getLast hp, (List.dropLast_concat_getLast hp).symm⟩
  simp [lastEr]
theorem none_size : (Er.text .none).size = 0 := by rw [Er.text]; rfl
theorem heft_step (p : List Er) (s : St) : heft (stepEr p s) ≤ heft p + s.op.size + s.path.size + 40 := by
  obtain ⟨h0, h1⟩ := errno_le s.code
  unfold stepEr
  split
  · rw [heft_append, heft_one]
    have := size_new s.op s.path (errno s.code) h0 h1
    omega
  · split
    · rw [heft_one, none_size]
      omega
    · rename_i hp
      rw [heft_append, heft_one]
      have a := heft_split p (p.length - 1)
      have hd := drop_last p hp
      rw [hd, heft_one] at a
      have b := size_wrap s.op (lastEr p)
      omega
  · rw [heft_append, heft_one]
    have a := heft_split p (s.cut p.length)
    have b := size_all (p.drop (s.cut p.length))
    omega
  · rw [heft_append, heft_one]
    unfold numEr
    split
    · rw [none_size]; omega
    · have := size_num (errno s.code) h0 h1
      omega
  · rw [heft_append, heft_one, none_size]
    omega
def weight (l : List St) : Nat := (l.map (fun s => s.op.size + s.path.size + 1)).sum
theorem weight_snoc (l : List St) (s : St) : weight (l ++ [s]) = weight l + (s.op.size + s.path.size + 1) := by simp [weight]
theorem heft_pile (l : List St) : heft (pile l) ≤ weight l + 40 * l.length := by
  have key : ∀ (l : List St) (p : List Er), heft (l.foldl stepEr p) ≤ heft p + weight l + 40 * l.length := by
    intro l
    induction l with
    | nil => intro p; simp [weight]
    | cons s l ih =>
      intro p
      have h1 := ih (stepEr p s)
      have h2 := heft_step p s
      have h3 : weight (s :: l) = s.op.size + s.path.size + 1 + weight l := by simp [weight]
      simp only [List.foldl_cons, List.length_cons]
      omega
  have := key l []
  simp only [heft, List.map_nil, List.sum_nil] at this
  unfold pile
  unfold heft
  omega
theorem weight_take (l : List St) (k : Nat) : weight (l.take k) ≤ weight l := by
  unfold weight
  rw [List.map_take]
  exact sum_take_le _ _
theorem pile_length (l : List St) : (pile l).length ≤ l.length := by
  have key : ∀ (l : List St) (p : List Er), (l.foldl stepEr p).length ≤ p.length + l.length := by
    intro l
    induction l with
    | nil => intro p; simp
    | cons s l ih =>
      intro p
      have h1 := ih (stepEr p s)
      have h2 := step_length p s
      simp only [List.foldl_cons, List.length_cons]
      omega
  simpa [pile] using key l []
theorem heft_get (p : List Er) (i : Nat) (x : Er) (h : p[i]? = some x) : x.text.size ≤ heft p := by
  have := sum_ge (p.map (fun x => x.text.size + 2)) i (x.text.size + 2) (by simp [h])
  unfold heft
  omega
end Go.Proofs.YtcodlhjedhaaaaaDoor
