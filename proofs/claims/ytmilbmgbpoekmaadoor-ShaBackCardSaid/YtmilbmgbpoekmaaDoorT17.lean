/-
  THE CONTRACTS of bytes.IndexByte at the sixteen digits, of sha.Unhex, of the reference's Unhex and Hex.
-/
import Derived.Test.YtmilbmgbpoekmaaDoorT13
import Derived.Laws.Externs
import Derived.Lib.SlBytesConst
namespace Go.Proofs.YtmilbmgbpoekmaaDoor
open Go.RowKit
set_option maxRecDepth 100000

/-- A string's bytes as numbers. -/
def strL (s : ByteArray) : List Int := s.data.toList.map fun b => (b.toNat : Int)
theorem length_strL (s : ByteArray) : (strL s).length = s.size := by
  unfold strL
  rw [List.length_map, Array.length_toList]
  rfl
theorem byte_strL (s : ByteArray) (j : Nat) : 0 ≤ (strL s).getD j 0 ∧ (strL s).getD j 0 < 256 := by
  rw [List.getD_eq_getElem?_getD]
  cases e : (strL s)[j]? with
  | none => simp
  | some x =>
    simp only [strL, List.getElem?_map, Option.map_eq_some_iff] at e
    obtain ⟨b, _, rfl⟩ := e
    have := b.toNat_lt
    simp only [Option.getD_some]
    omega
theorem run_index_strL {P : Program} (t : TypeId) (h : P.underlying t = some .string) (s : ByteArray) (i : Nat) (hi : i < s.size) (W : World) :
    (Instr.index t (.string s) (.int .i64 (i : Int))).run P W = .ok (.int .u8 ((strL s).getD i 0)) W := by
  rw [run_index_string W t s .i64 i h, dif_pos ⟨by omega, by omega⟩]
  congr 2
  have hi' : i < s.data.toList.length := by rw [Array.length_toList]; exact hi
  simp only [strL, List.getD_eq_getElem?_getD, List.getElem?_map, List.getElem?_eq_getElem hi', Option.map_some, Option.getD_some]
  rfl

/-- A letter's digit; -1: none. -/
def dg (c : Int) : Int := if 48 ≤ c ∧ c ≤ 57 then c - 48 else if 97 ≤ c ∧ c ≤ 102 then c - 87 else -1
theorem dg_range (c : Int) : -1 ≤ dg c ∧ dg c < 16 := by
  unfold dg
  split
  · omega
  · split <;> omega
def hexdigs : List Int := [48, 49, 50, 51, 52, 53, 54, 55, 56, 57, 97, 98, 99, 100, 101, 102]
theorem dg_ix_all : ∀ n : Fin 256, Lib.indexByte (Lib.bytesOf hexdigs) (UInt8.ofNat n.val) = dg (n.val : Int) := by decide +kernel
theorem dg_ix (c : Int) (h : 0 ≤ c ∧ c < 256) : Lib.indexByte (Lib.bytesOf hexdigs) c.toNat.toUInt8 = dg c := by
  have h1 := dg_ix_all ⟨c.toNat, by omega⟩
  have e : ((c.toNat : Nat) : Int) = c := by omega
  rw [← e]
  exact h1

set_option maxHeartbeats 1000000 in
/-- bytes.IndexByte at the sixteen digits. -/
theorem ixb_any (b : Nat) (c : Int) (hc : 0 ≤ c ∧ c < 256) (w : World) (h : ∀ i, i < 16 → w.cell? ⟨b, 0 + i, none⟩ = some (.int .u8 (hexdigs.getD i 0))) :
    Calls Tryd.prog 27 #[.slice (some ⟨b, 0, none⟩) 16 16, .int .u8 c] w fun e w' => e = .returned (.int .i64 (dg c)) ∧ w = w' := by
  have hr := Lib.run_indexByteSlice (P := Tryd.prog) w b 0 16 16 hexdigs rfl h c
  rw [dg_ix c hc] at hr
  have HR := Lib.hid hr
  clear hr h
  go_enter Tryd.func27, Tryd.ntmps27
  go_wp2_with fail
  rw [run_callFunc_extern Tryd.func30 (by kernel_rfl) (by kernel_rfl) (by kernel_rfl) (e := Extern.BytealgIndexByte.indexByte) (by kernel_rfl), HR.out]
  simp only [Result.andThen]
  rw [Oper.upon_value]
  go_wp2_with fail
  go_ret
  exact ⟨rfl, rfl⟩

/-! ### What Unhex gives -/
def vd (S : List Int) (k : Nat) : Int := dg (S.getD k 0)
def unOk (S : List Int) : Prop := S.length = 64 ∧ ∀ k, k < 64 → 0 ≤ vd S k
def part (S : List Int) (i j : Nat) : Int := if 2 * j + 1 < i then 16 * vd S (2 * j) + vd S (2 * j + 1) else if 2 * j < i then vd S (2 * j) else 0
def unL (S : List Int) : List Int := (List.range 32).map fun j => part S 64 j
open Classical in
noncomputable def unR (S : List Int) : List Int := if unOk S then unL S else List.replicate 32 0
open Classical in
noncomputable def unE (S : List Int) : Int := if unOk S then 0 else 21
theorem length_unL (S : List Int) : (unL S).length = 32 := by simp [unL]
theorem length_unR (S : List Int) : (unR S).length = 32 := by
  unfold unR
  split
  · exact length_unL S
  · simp
theorem part_zero (S : List Int) (j : Nat) : part S 0 j = 0 := by unfold part; rw [if_neg (by omega), if_neg (by omega)]
theorem part_old (S : List Int) (i : Nat) (h : ∀ k, k < i → 0 ≤ vd S k) : 0 ≤ part S i (i / 2) ∧ part S i (i / 2) < 16 := by
  unfold part
  rw [if_neg (by omega)]
  split
  · exact ⟨h _ (by omega), (dg_range _).2⟩
  · omega
theorem part_next (S : List Int) (i : Nat) : part S (i + 1) (i / 2) = part S i (i / 2) * 16 + vd S i := by
  unfold part
  rw [if_neg (show ¬ 2 * (i / 2) + 1 < i by omega)]
  rcases Nat.mod_two_eq_zero_or_one i with h | h
  · rw [if_neg (by omega), if_pos (by omega), if_neg (by omega), show 2 * (i / 2) = i by omega]; omega
  · rw [if_pos (by omega), if_pos (by omega), show 2 * (i / 2) + 1 = i by omega]; omega
theorem part_else (S : List Int) (i j : Nat) (h : j ≠ i / 2) : part S (i + 1) j = part S i j := by
  unfold part
  by_cases h1 : 2 * j + 1 < i
  · rw [if_pos h1, if_pos (by omega)]
  · rw [if_neg h1, if_neg (by omega)]
    by_cases h2 : 2 * j < i
    · rw [if_pos h2, if_pos (by omega)]
    · rw [if_neg h2, if_neg (by omega)]
theorem or_nib_all : ∀ x : Fin 16, ∀ y : Fin 16, bits .or .u8 ((x.val : Int) * 16 % 256) (y.val : Int) = (x.val : Int) * 16 + (y.val : Int) := by decide +kernel
theorem or_nib (x y : Int) (hx : 0 ≤ x ∧ x < 16) (hy : 0 ≤ y ∧ y < 16) : bits .or .u8 (x * 16 % 256) y = x * 16 + y := by
  have h := or_nib_all ⟨x.toNat, by omega⟩ ⟨y.toNat, by omega⟩
  have e1 : ((x.toNat : Nat) : Int) = x := by omega
  have e2 : ((y.toNat : Nat) : Int) = y := by omega
  simp only [e1, e2] at h
  exact h
theorem unR_ok {S : List Int} (h : unOk S) : unR S = unL S ∧ unE S = 0 := by
  unfold unR unE; exact ⟨if_pos h, if_pos h⟩
theorem unR_no {S : List Int} (h : ¬ unOk S) : unR S = List.replicate 32 0 ∧ unE S = 21 := by
  unfold unR unE; exact ⟨if_neg h, if_neg h⟩
theorem zeros_rowArr : (u8s (List.replicate 32 0)).toArray = rowArr 32 (fun _ => .int .u8 0) := by kernel_rfl
theorem unL_rowArr (S : List Int) : (u8s (unL S)).toArray = rowArr 32 (fun j => .int .u8 (part S 64 j)) := by
  rw [u8s_rowArr _ 32 (length_unL S)]
  refine rowArr_congr 32 _ _ (fun j hj => ?_)
  simp [unL, List.getD_eq_getElem?_getD, hj]
/-- Two results, the first in a row of its own. -/
theorem results_row2 {P : Program} {fn : Func} {p q : Tmp} {ty : TypeId} {tmps : Array Value} {w : World} {g : Nat} {t : TypeId} {cs : Array Value} {fr : Nat × Nat} {d : TypeDesc} {v : Value} (h : fn.results = #[.cell p ty, .tmp q]) (hp : tmps.getD p undef = .pointer (some ⟨g, 0, none⟩)) (hq : tmps.getD q undef = v)
    (hg : w.heap[g]? = some (.cells cs t fr)) (hu : P.underlying ty = some d) (hd : (match d with | .struct _ | .array _ _ => true | _ => false) = true) (hi : (P.info? ty).map (·.size) = some cs.size) :
    (results fn tmps).run P w = .ok (.tuple #[.agg cs, v]) w := by
  have hr := run_loadVar_row (P := P) w g t ty cs fr d hg hu hd hi
  rw [Array.getD_eq_getD_getElem?] at hp hq
  simp only [results, h]
  simp [hp, hq, asAddr, hr]
end Go.Proofs.YtmilbmgbpoekmaaDoor
