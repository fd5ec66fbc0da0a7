/-
  The reference's Text.
-/
import Derived.Test.YtcodlhjedhaaaaaDoorF3
namespace Go.Proofs.YtcodlhjedhaaaaaDoor
open Go.RowKit
set_option maxRecDepth 100000

theorem rowArr5 (f : Nat → Value) : rowArr 5 f = #[f 0, f 1, f 2, f 3, f 4] := rfl
theorem sz37 : (Tryd.prog.info? 37).map (·.size) = some 5 := by kernel_rfl
theorem sum_take_le : ∀ (l : List Nat) (k : Nat), (l.take k).sum ≤ l.sum
  | [], k => by simp
  | a :: l, 0 => by simp
  | a :: l, k + 1 => by
    have := sum_take_le l k
    simp only [List.take_succ_cons, List.sum_cons]
    omega
theorem size_joinT_take (xs : List ByteArray) (k : Nat) : (joinT (xs.take k)).size ≤ (joinT xs).size + 2 := by
  have h1 := size_joinT (xs.take k)
  have h2 := size_joinT xs
  have h3 := sum_take_le (xs.map (fun x => x.size + 2)) k
  rw [← List.map_take] at h3
  have : (if xs = [] then 0 else 2) ≤ 2 := by split <;> omega
  omega

set_option maxHeartbeats 2000000 in
theorem rtext_none (w : World) : Calls Tryd.prog 13 #[.agg #[.int .i64 0, .int .i64 0, .string ⟨#[]⟩, .string ⟨#[]⟩, .slice none 0 0]] w fun ex w' => ex = .returned (.string Er.none.text) ∧ Below w.heap.size w w' := by
  rw [Er.text]
  go_enter Tryd.func13, Tryd.ntmps13
  go_wp2_with fail
  go_ret
  exact ⟨rfl, (Below.refl _ _).alloc (Nat.le_refl _) _⟩
set_option maxHeartbeats 2000000 in
theorem rtext_num (e : Int) (h0 : 0 < e) (h1 : e ≤ 300) (w : World) (hT : Tab w) : Calls Tryd.prog 13 #[.agg #[.int .i64 1, .int .i64 e, .string ⟨#[]⟩, .string ⟨#[]⟩, .slice none 0 0]] w fun ex w' => ex = .returned (.string (Er.num e).text) ∧ Below w.heap.size w w' := by
  rw [Er.text]
  have hb1 : Below w.heap.size w (w.alloc (.cells #[.int .i64 1, .int .i64 e, .string ⟨#[]⟩, .string ⟨#[]⟩, .slice none 0 0] 37)) := (Below.refl _ _).alloc (Nat.le_refl _) _
  go_enter Tryd.func13, Tryd.ntmps13
  go_wp2_with (go_at_call 30; refine (errnoError_any e (by omega) h1 _ (Tab.under hT hb1)).mono ?_; rintro e2 w2 ⟨rfl, hb⟩)
  go_ret
  exact ⟨rfl, hb1.trans (hb.mono hb1.size)⟩
set_option maxHeartbeats 4000000 in
theorem rtext_flt (op path : ByteArray) (x : Er) (g cap : Nat) (f : Nat → Value) (w : World) (hT : Tab w) (hg : g < w.heap.size) (hc : ∀ j, j < 5 → w.cell? ⟨g, j, none⟩ = some (f j)) (hs : (Er.flt op path x).text.size ≤ 1000000000)
    (hx : ∀ w', Below w.heap.size w w' → Tab w' → Calls Tryd.prog 13 #[.agg (rowArr 5 f)] w' fun ex w2 => ex = .returned (.string x.text) ∧ Below w'.heap.size w' w2) :
    Calls Tryd.prog 13 #[.agg #[.int .i64 2, .int .i64 0, .string op, .string path, .slice (some ⟨g, 0, none⟩) 1 cap]] w fun ex w' => ex = .returned (.string (Er.flt op path x).text) ∧ Below w.heap.size w w' := by
  have hb1 : Below w.heap.size w (w.alloc (.cells #[.int .i64 2, .int .i64 0, .string op, .string path, .slice (some ⟨g, 0, none⟩) 1 cap] 37)) := (Below.refl _ _).alloc (Nat.le_refl _) _
  have hcall := hx _ hb1 (Tab.under hT hb1)
  have hc2 : ∀ j, j < 5 → (w.alloc (.cells #[.int .i64 2, .int .i64 0, .string op, .string path, .slice (some ⟨g, 0, none⟩) 1 cap] 37)).cell? ⟨g, 0 + j, none⟩ = some (f j) := fun j hj => by
    rw [Nat.zero_add]
    exact (hb1.cell (p := ⟨g, j, none⟩) hg).trans (hc j hj)
  have HC2 := Lib.hid hc2
  clear hx hc hT hc2
  rw [Er.text] at hs ⊢
  generalize x.text = T at hs hcall ⊢
  unfold head at hs ⊢
  by_cases hp : path = ⟨#[]⟩
  · rw [if_pos hp] at hs ⊢
    subst hp
    simp only [ByteArray.size_append] at hs
    have z2 : (⟨#[58, 32]⟩ : ByteArray).size = 2 := rfl
    have s1 : ¬ (op.size + 2 > 9223372036854775807) := by omega
    have s2 : ¬ (op.size + 2 + T.size > 9223372036854775807) := by omega
    go_enter Tryd.func13, Tryd.ntmps13
    go_wp2_with (first
      | (refine wpList_load_part rfl 37 (.tmp 29) rfl g 0 rfl 5 f HC2.out _ Tryd.underlying37 rfl sz37 ?_; intro cs hcs; obtain rfl := hcs.out)
      | (go_at_call 13; refine hcall.mono ?_; rintro e2 w2 ⟨rfl, hb⟩)
      | fail)
    go_ret
    exact ⟨rfl, hb1.trans (hb.mono hb1.size)⟩
  · rw [if_neg hp] at hs ⊢
    have hp2 := isEmpty_ne path hp
    simp only [ByteArray.size_append] at hs
    have z2 : (⟨#[58, 32]⟩ : ByteArray).size = 2 := rfl
    have z1 : (⟨#[32]⟩ : ByteArray).size = 1 := rfl
    have s0 : ¬ (op.size + 1 > 9223372036854775807) := by omega
    have s1 : ¬ (op.size + 1 + path.size > 9223372036854775807) := by omega
    have s2 : ¬ (op.size + 1 + path.size + 2 > 9223372036854775807) := by omega
    have s3 : ¬ (op.size + 1 + path.size + 2 + T.size > 9223372036854775807) := by omega
    go_enter Tryd.func13, Tryd.ntmps13
    go_wp2_with (first
      | (refine wpList_load_part rfl 37 (.tmp 29) rfl g 0 rfl 5 f HC2.out _ Tryd.underlying37 rfl sz37 ?_; intro cs hcs; obtain rfl := hcs.out)
      | (go_at_call 13; refine hcall.mono ?_; rintro e2 w2 ⟨rfl, hb⟩)
      | fail)
    go_ret
    exact ⟨by rw [ByteArray.append_assoc (a := op)]; rfl, hb1.trans (hb.mono hb1.size)⟩
set_option maxHeartbeats 4000000 in
theorem rtext_lst (l : List Er) (g n cap : Nat) (fs : Nat → Nat → Value) (w : World) (hT : Tab w) (hl : l.length = n) (h2 : 2 ≤ n) (hmax : n ≤ 1000000) (hg : g < w.heap.size) (hc : ∀ i j, i < n → j < 5 → w.cell? ⟨g, i * 5 + j, none⟩ = some (fs i j)) (hs : (Er.lst l).text.size ≤ 1000000000)
    (hk : ∀ (i : Nat) x, l[i]? = some x → ∀ w', Below w.heap.size w w' → Tab w' → Calls Tryd.prog 13 #[.agg (rowArr 5 (fs i))] w' fun ex w2 => ex = .returned (.string x.text) ∧ Below w'.heap.size w' w2) :
    Calls Tryd.prog 13 #[.agg #[.int .i64 3, .int .i64 0, .string ⟨#[]⟩, .string ⟨#[]⟩, .slice (some ⟨g, 0, none⟩) n cap]] w fun ex w' => ex = .returned (.string (Er.lst l).text) ∧ Below w.heap.size w w' := by
  have hb1 : Below w.heap.size w (w.alloc (.cells #[.int .i64 3, .int .i64 0, .string ⟨#[]⟩, .string ⟨#[]⟩, .slice (some ⟨g, 0, none⟩) n cap] 37)) := (Below.refl _ _).alloc (Nat.le_refl _) _
  have HR := Lib.hid (rowIs_lit w [.int .i64 3, .int .i64 0, .string ⟨#[]⟩, .string ⟨#[]⟩, .slice (some ⟨g, 0, none⟩) n cap] 37 5 (refc 3 0 ⟨#[]⟩ ⟨#[]⟩ (.slice (some ⟨g, 0, none⟩) n cap)) rfl)
  have HC := Lib.hid hc
  have HK := Lib.hid hk
  have HL := Lib.hid hl
  have HT := Lib.hid hT
  have HS := Lib.hid hs
  rw [text_lst]
  clear hc hk hl hT hs
  go_enter Tryd.func13, Tryd.ntmps13
  go_wp2_with fail
  go_loopw [4, 5] (fun o i wr => ∃ k : Nat, k ≤ n ∧ i = .int .i64 k ∧ o = .string (joinT ((l.map Er.text).take k)) ∧ wr.rowIs w.heap.size 37 5 (refc 3 0 ⟨#[]⟩ ⟨#[]⟩ (.slice (some ⟨g, 0, none⟩) n cap)) ∧ Below w.heap.size w wr) (fun _ i _ => n - (intOf i).toNat)
  case atStart => exact ⟨0, by omega, rfl, by rw [List.take_zero, joinT_nil], HR.out, hb1⟩
  case round =>
    obtain ⟨k, hk, rfl, rfl, hrow, hb⟩ := hrel
    have c4 : wr.cell? ⟨w.heap.size, 4, none⟩ = some (.slice (some ⟨g, 0, none⟩) n cap) := hrow.cell (i := 4) (by omega)
    by_cases hlt2 : k < n
    · obtain ⟨x, hx⟩ : ∃ x, l[k]? = some x := ⟨_, List.getElem?_eq_getElem (by rw [HL.out]; exact hlt2)⟩
      have hcall := HK.out k x hx wr hb (Tab.under HT.out hb)
      have HKC := Lib.hid (fun j (hj : j < 5) => (hb.cell (p := ⟨g, k * 5 + j, none⟩) hg).trans (HC.out k j hlt2 hj))
      have hjt := joinT_take (l.map Er.text) k x.text (by simp [hx])
      have hsz1 := size_joinT_take (l.map Er.text) k
      have hsz2 := size_kid l k x hx
      have hsz3 := HS.out
      rw [text_lst] at hsz2 hsz3
      have HJ := Lib.hid hjt
      clear hx hjt
      have z2 : (⟨#[59, 32]⟩ : ByteArray).size = 2 := rfl
      generalize x.text = T at hcall hsz2 HJ
      generalize (l.map Er.text).take k = L1 at hsz1 HJ ⊢
      have s1 : ¬ ((joinT L1).size + 2 > 9223372036854775807) := by omega
      have s2 : ¬ ((joinT L1).size + 2 + T.size > 9223372036854775807) := by omega
      have s3 : ¬ ((joinT L1).size + T.size > 9223372036854775807) := by omega
      clear hsz1 hsz2 hsz3
      by_cases hk0 : 0 < k
      · rw [if_pos hk0] at HJ
        go_wp2_with (first
          | (refine wpList_load_part rfl 37 (.tmp 50) rfl g (k * 5) rfl 5 (fs k) HKC.out _ Tryd.underlying37 rfl sz37 ?_; intro cs hcs; obtain rfl := hcs.out)
          | (go_at_call 13; refine hcall.mono ?_; rintro e2 w2 ⟨rfl, hb2⟩)
          | fail)
        go_roundw
        case rel => exact ⟨k + 1, by omega, by go_num, by rw [HJ.out], rowIs_below hrow hb2 hrow.lt, hb.trans (hb2.mono hb.size)⟩
        case measure => simp [intOf]; omega
      · rw [if_neg hk0] at HJ
        obtain rfl : k = 0 := by omega
        go_wp2_with (first
          | (refine wpList_load_part rfl 37 (.tmp 50) rfl g (0 * 5) rfl 5 (fs 0) HKC.out _ Tryd.underlying37 rfl sz37 ?_; intro cs hcs; obtain rfl := hcs.out)
          | (go_at_call 13; refine hcall.mono ?_; rintro e2 w2 ⟨rfl, hb2⟩)
          | fail)
        go_roundw
        case rel => exact ⟨0 + 1, by omega, by go_num, by rw [HJ.out], rowIs_below hrow hb2 hrow.lt, hb.trans (hb2.mono hb.size)⟩
        case measure => simp [intOf]; omega
    · obtain rfl : k = n := by omega
      go_wp2_with fail
      go_ret
      exact ⟨by rw [List.take_of_length_le (by rw [List.length_map, HL.out]; omega)]; rfl, hb⟩

/-- The reference's Text. -/
theorem rtext_all {I : Nat → Prop} {w : World} {x : Er} {f : Nat → Value} (h : RefAt I w x f) (hs : x.text.size ≤ 1000000000) :
    ∀ w', Below w.heap.size w w' → Tab w' → Calls Tryd.prog 13 #[.agg (rowArr 5 f)] w' fun ex w2 => ex = .returned (.string x.text) ∧ Below w'.heap.size w' w2 := by
  induction h with
  | none => intro w' hb hT; exact rtext_none w'
  | num e h0 h1 => intro w' hb hT; exact rtext_num e h0 h1 w' hT
  | flt op path x g cap f hx hI hg hcap hc hu ih =>
    intro w' hb hT
    have ih := ih (Nat.le_trans (size_inner op path x) hs)
    exact rtext_flt op path x g cap f w' hT (Nat.lt_of_lt_of_le hg hb.size) (fun j hj => (hb.cell (p := ⟨g, j, none⟩) hg).trans (hc j hj)) hs (fun w2 hb2 hT2 => ih w2 (hb.trans (hb2.mono hb.size)) hT2)
  | lst l g n cap fs hl h2 hcap hmax hI hg hc hx hu ih =>
    intro w' hb hT
    exact rtext_lst l g n cap fs w' hT hl h2 hmax (Nat.lt_of_lt_of_le hg hb.size) (fun i j hi hj => (hb.cell (p := ⟨g, i * 5 + j, none⟩) hg).trans (hc i j hi hj)) hs (fun i x hix w2 hb2 hT2 => ih i x hix (Nat.le_trans (size_kid l i x hix) hs) w2 (hb.trans (hb2.mono hb.size)) hT2)
end Go.Proofs.YtcodlhjedhaaaaaDoor
