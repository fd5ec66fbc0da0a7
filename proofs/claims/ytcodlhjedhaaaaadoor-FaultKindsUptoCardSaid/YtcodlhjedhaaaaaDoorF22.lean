/-
  The reference's Make.
-/
import Derived.Test.YtcodlhjedhaaaaaDoorF21
namespace Go.Proofs.YtcodlhjedhaaaaaDoor
open Go.RowKit
set_option maxRecDepth 100000

set_option maxHeartbeats 32000000 in
/-- Make. -/
theorem make_any (ss : List St) (a : Option Addr) (cap : Nat) (w : World) (hS : StepsAt w a ss) (hl : ss.length ≤ 1048576) :
    Calls Tryd.prog 11 #[.slice a ss.length cap] w fun e w' => ∃ v, e = .returned v ∧ MakeR w (pile (ss.take 40)) v w' := by
  have HS := Lib.hid hS
  have HM0 := Lib.hid (MakeR.nil w)
  clear hS
  go_enter Tryd.func11, Tryd.ntmps11
  go_wp2_with fail
  go_loopw [3, 4] (fun v i wr => ∃ k : Nat, k ≤ ss.length ∧ k ≤ 40 ∧ i = .int .i64 k ∧ MakeR w (pile (ss.take k)) v wr) (fun _ i _ => 40 - (intOf i).toNat)
  case atStart => exact ⟨0, by omega, by omega, rfl, by rw [List.take_zero]; exact HM0.out⟩
  case round =>
    obtain ⟨k, hk, hk40, rfl, hm⟩ := hrel
    by_cases hlt2 : k < ss.length
    · by_cases hlt3 : k < 40
      · obtain ⟨s, hs⟩ : ∃ s, ss[k]? = some s := ⟨_, List.getElem?_eq_getElem hlt2⟩
        obtain ⟨b, o, rfl, hbl, hcell⟩ := HS.out k s hs
        have HP := Lib.hid (pile_take ss k s hs)
        have hpl : (pile (ss.take k)).length ≤ k := Nat.le_trans (pile_length _) (List.length_take_le _ _)
        obtain ⟨us, hown, hin, hb⟩ := hm
        obtain ⟨av, capv, rfl, hcv, _⟩ := ownS_any hown
        have HCELL := Lib.hid (fun j (hj : j < 5) => (hb.cell (p := ⟨b, o + k * 5 + j, none⟩) hbl).trans (hcell j hj))
        have HO := Lib.hid hown
        have HI := Lib.hid hin
        have HB := Lib.hid hb
        have hrem := kind_rem s
        have hklt := k_lt s
        obtain ⟨he0, he1⟩ := errno_le s.code
        obtain ⟨p, hp⟩ : ∃ p, p = pile (ss.take k) := ⟨_, rfl⟩
        rw [← hp] at hpl hcv HO HI HP ⊢
        clear hown hin hb hcell hs hp
        have hkk : s.k = 0 ∨ s.k = 1 ∨ s.k = 2 ∨ s.k = 3 ∨ s.k = 4 := by omega
        rcases hkk with hkk | hkk | hkk | hkk | hkk
        · -- New
          rw [hkk] at hrem
          have HKK := Lib.hid hkk
          clear hkk hklt
          by_cases he : errno s.code = 0
          · have HN : Hid (newEr s.op s.path (errno s.code) = .none) := Lib.hid (by rw [he]; rfl)
            go_wp2_with (first
          | (refine wpList_load_part rfl 62 (.tmp 24) rfl b (o + k * 5) rfl 5 s.row HCELL.out _ Tryd.underlying62 rfl sz62 ?_; intro cs hcs; obtain rfl := hcs.out)
          | (refine wpList_store_abs rfl 62 (.tmp 5) (.tmp 25) rfl wr.heap.size rfl (rowArr 5 s.row) rfl 62 5 s.row z62 (rowIs_lit wr [.int .i64 0, .string ⟨#[]⟩, .string ⟨#[]⟩, .int .i64 0, .int .i64 0] 62 5 z62 rfl) rfl sz62 (fun j hj => s.one j) ?_; intro w1 hrow1 hgr1 hsz1
             have hb1 : Below wr.heap.size wr w1 := ((Below.refl _ _).alloc (Nat.le_refl _) _).trans (below_of_grown hgr1 (Nat.le_refl _) (by simp))
             have c0 : w1.cell? ⟨wr.heap.size, 0, none⟩ = some (.int .i64 s.kind) := hrow1.cell (i := 0) (by omega)
             have c1 : w1.cell? ⟨wr.heap.size, 1, none⟩ = some (.string s.op) := hrow1.cell (i := 1) (by omega)
             have c2 : w1.cell? ⟨wr.heap.size, 2, none⟩ = some (.string s.path) := hrow1.cell (i := 2) (by omega)
             have c3 : w1.cell? ⟨wr.heap.size, 3, none⟩ = some (.int .i64 s.code) := hrow1.cell (i := 3) (by omega)
             have c4 : w1.cell? ⟨wr.heap.size, 4, none⟩ = some (.int .i64 s.n) := hrow1.cell (i := 4) (by omega)
             have hown1 := ownsRow_under HO.out hb1
             have hin1 : In5 (Ap w _) w1 _ us := HI.out.keep hb1.size (fun b hI hlt => ⟨hI, hb1.block b hlt⟩)
             have hb01 : Below w.heap.size w w1 := HB.out.trans (hb1.mono HB.out.size)
             have HB1 := Lib.hid hb1
             have HIN1 := Lib.hid hin1
             have HB01 := Lib.hid hb01
             have HR1 := Lib.hid hrow1
             clear hrow1 hgr1 hsz1 hb1 hin1 hb01)
          | (go_at_call 23; refine (errno_any _ _).mono ?_; rintro e2 w2 ⟨rfl, rfl⟩)
          | (refine wpList_store_abs rfl 37 (.tmp 11) (.tmp 89) rfl w1.heap.size rfl (rowArr 5 z5) rfl 37 5 z5 z5 (rowIs_lit w1 [.int .i64 0, .int .i64 0, .string ⟨#[]⟩, .string ⟨#[]⟩, .slice none 0 0] 37 5 z5 rfl) rfl sz37 (fun j hj => (RefAt.none (I := fun _ => False) (w := w1)).one j) ?_; intro w2 hrow2 hgr2 hsz2
             have hb2 : Below w1.heap.size w1 w2 := ((Below.refl _ _).alloc (Nat.le_refl _) _).trans (below_of_grown hgr2 (Nat.le_refl _) (by simp))
             have hlt1 : wr.heap.size < w1.heap.size := HR1.out.lt
             have b1 : w2.cell? ⟨wr.heap.size, 1, none⟩ = some (.string s.op) := (hb2.cell (p := ⟨wr.heap.size, 1, none⟩) hlt1).trans c1
             have b2 : w2.cell? ⟨wr.heap.size, 2, none⟩ = some (.string s.path) := (hb2.cell (p := ⟨wr.heap.size, 2, none⟩) hlt1).trans c2
             have HB2 := Lib.hid hb2
             have HR2 := Lib.hid hrow2
             clear hrow2 hgr2 hsz2 hb2)
          | (refine wpList_load_part rfl 37 (.tmp 11) rfl w1.heap.size 0 rfl 5 z5 (fun j hj => by rw [Nat.zero_add]; exact HR2.out.cell (i := j) hj) _ Tryd.underlying37 rfl sz37 ?_; intro cs hcs; obtain rfl := hcs.out; rw [rowArr5 z5])
          | (refine wpList_append_src rfl (.tmp 112) (.tmp 114) 27 rfl w.heap.size 37 5 72 _ Tryd.underlying27 info37 rfl (by omega) _ _ _ rfl (ownsRow_keep (ownsRow_under hown1 HB2.out) (fun j hj => Go.Deep.blk_alloc_lt _ _ _ (World.ownsRow.lt (ownsRow_under hown1 HB2.out) j hj).2)) _ 1 (row5 z5) rfl (Src.of_block (Go.Deep.blk_alloc_new w2 _) rfl) (row5_one _ (RefAt.one (RefAt.none (I := fun _ => False) (w := w2)))) (by unfold maxLen; omega) (by omega) ((HB01.out.trans (HB2.out.mono HB01.out.size)).alloc (HB01.out.trans (HB2.out.mono HB01.out.size)).size _).size ?_; intro v9 w9 hown9 hgr9 hat9
             have HM := Lib.hid (MakeR.push (HIN1.out.keep HB2.out.size (fun b hI hlt => ⟨hI, HB2.out.block b hlt⟩)) (HB01.out.trans (HB2.out.mono HB01.out.size)) (ownsRow_under hown1 HB2.out) (RefAt.none (I := fun _ => False) (w := w2)) (fun b hb hlt => hb.elim) hown9 hgr9 hat9)
             clear hown9 hgr9 hat9)
          | fail)
            go_roundw
            case rel => exact ⟨k + 1, by omega, by omega, by go_num, by rw [HP.out, step0 _ _ HKK.out, HN.out]; exact HM.out⟩
            case measure => simp [intOf]; omega
          · have HN : Hid (newEr s.op s.path (errno s.code) = .flt s.op s.path (.num (errno s.code))) := Lib.hid (by unfold newEr; rw [if_neg he])
            go_wp2_with (first
          | (refine wpList_load_part rfl 62 (.tmp 24) rfl b (o + k * 5) rfl 5 s.row HCELL.out _ Tryd.underlying62 rfl sz62 ?_; intro cs hcs; obtain rfl := hcs.out)
          | (refine wpList_store_abs rfl 62 (.tmp 5) (.tmp 25) rfl wr.heap.size rfl (rowArr 5 s.row) rfl 62 5 s.row z62 (rowIs_lit wr [.int .i64 0, .string ⟨#[]⟩, .string ⟨#[]⟩, .int .i64 0, .int .i64 0] 62 5 z62 rfl) rfl sz62 (fun j hj => s.one j) ?_; intro w1 hrow1 hgr1 hsz1
             have hb1 : Below wr.heap.size wr w1 := ((Below.refl _ _).alloc (Nat.le_refl _) _).trans (below_of_grown hgr1 (Nat.le_refl _) (by simp))
             have c0 : w1.cell? ⟨wr.heap.size, 0, none⟩ = some (.int .i64 s.kind) := hrow1.cell (i := 0) (by omega)
             have c1 : w1.cell? ⟨wr.heap.size, 1, none⟩ = some (.string s.op) := hrow1.cell (i := 1) (by omega)
             have c2 : w1.cell? ⟨wr.heap.size, 2, none⟩ = some (.string s.path) := hrow1.cell (i := 2) (by omega)
             have c3 : w1.cell? ⟨wr.heap.size, 3, none⟩ = some (.int .i64 s.code) := hrow1.cell (i := 3) (by omega)
             have c4 : w1.cell? ⟨wr.heap.size, 4, none⟩ = some (.int .i64 s.n) := hrow1.cell (i := 4) (by omega)
             have hown1 := ownsRow_under HO.out hb1
             have hin1 : In5 (Ap w _) w1 _ us := HI.out.keep hb1.size (fun b hI hlt => ⟨hI, hb1.block b hlt⟩)
             have hb01 : Below w.heap.size w w1 := HB.out.trans (hb1.mono HB.out.size)
             have HB1 := Lib.hid hb1
             have HIN1 := Lib.hid hin1
             have HB01 := Lib.hid hb01
             have HR1 := Lib.hid hrow1
             clear hrow1 hgr1 hsz1 hb1 hin1 hb01)
          | (go_at_call 23; refine (errno_any _ _).mono ?_; rintro e2 w2 ⟨rfl, rfl⟩)
          | (refine wpList_store_abs rfl 37 (.tmp 11) (.tmp 89) rfl w1.heap.size rfl (rowArr 5 z5) rfl 37 5 z5 z5 (rowIs_lit w1 [.int .i64 0, .int .i64 0, .string ⟨#[]⟩, .string ⟨#[]⟩, .slice none 0 0] 37 5 z5 rfl) rfl sz37 (fun j hj => (RefAt.none (I := fun _ => False) (w := w1)).one j) ?_; intro w2 hrow2 hgr2 hsz2
             have hb2 : Below w1.heap.size w1 w2 := ((Below.refl _ _).alloc (Nat.le_refl _) _).trans (below_of_grown hgr2 (Nat.le_refl _) (by simp))
             have hlt1 : wr.heap.size < w1.heap.size := HR1.out.lt
             have b1 : w2.cell? ⟨wr.heap.size, 1, none⟩ = some (.string s.op) := (hb2.cell (p := ⟨wr.heap.size, 1, none⟩) hlt1).trans c1
             have b2 : w2.cell? ⟨wr.heap.size, 2, none⟩ = some (.string s.path) := (hb2.cell (p := ⟨wr.heap.size, 2, none⟩) hlt1).trans c2
             have HB2 := Lib.hid hb2
             have HR2 := Lib.hid hrow2
             clear hrow2 hgr2 hsz2 hb2)
          | (refine wpList_store_abs rfl 37 (.tmp 11) (.tmp 103) rfl w1.heap.size rfl (rowArr 5 (refc 2 0 s.op s.path (.slice (some ⟨w2.heap.size, 0, none⟩) 1 1))) rfl 37 5 (refc 2 0 s.op s.path (.slice (some ⟨w2.heap.size, 0, none⟩) 1 1)) z5 (HR2.out.alloc _) rfl sz37 (fun j hj => by unfold refc; split <;> rfl) ?_; intro w3 hrow3 hgr3 hsz3
             have hb3 : Below w1.heap.size w1 w3 := (HB2.out.alloc HB2.out.size _).trans (below_of_grown hgr3 (Nat.le_refl _) (by have := HB2.out.size; simp; omega))
             have hg3 : ∀ j, j < 5 → w3.cell? ⟨w2.heap.size, j, none⟩ = some (refc 1 (errno s.code) ⟨#[]⟩ ⟨#[]⟩ (.slice none 0 0) j) := fun j hj =>
               ((rowIs_lit w2 [.int .i64 1, .int .i64 (errno s.code), .string ⟨#[]⟩, .string ⟨#[]⟩, .slice none 0 0] 37 5 (refc 1 (errno s.code) ⟨#[]⟩ ⟨#[]⟩ (.slice none 0 0)) rfl).of_block (hgr3.block w2.heap.size (by simp) (by have := HR2.out.lt; intro e; simp at e; omega))).cell (i := j) hj
             have HT := Lib.hid (show RefAt (fun b => w1.heap.size ≤ b) w3 (.flt s.op s.path (.num (errno s.code))) _ from .flt s.op s.path (.num (errno s.code)) w2.heap.size 1 _ (by simp) HB2.out.size (by rw [hsz3]; simp) (Nat.le_refl _) hg3 (.num (errno s.code) (by omega) he1))
             have HR3 := Lib.hid hrow3
             have HB3 := Lib.hid hb3
             clear hrow3 hgr3 hsz3 hb3 hg3)
          | (refine wpList_load_part rfl 37 (.tmp 11) rfl w1.heap.size 0 rfl 5 (refc 2 0 s.op s.path (.slice (some ⟨w2.heap.size, 0, none⟩) 1 1)) (fun j hj => by rw [Nat.zero_add]; exact HR3.out.cell (i := j) hj) _ Tryd.underlying37 rfl sz37 ?_; intro cs hcs; obtain rfl := hcs.out; rw [rowArr5 (refc 2 0 s.op s.path (.slice (some ⟨w2.heap.size, 0, none⟩) 1 1))])
          | (refine wpList_append_src rfl (.tmp 112) (.tmp 114) 27 rfl w.heap.size 37 5 72 _ Tryd.underlying27 info37 rfl (by omega) _ _ _ rfl (ownsRow_keep (ownsRow_under hown1 HB3.out) (fun j hj => Go.Deep.blk_alloc_lt _ _ _ (World.ownsRow.lt (ownsRow_under hown1 HB3.out) j hj).2)) _ 1 (row5 (refc 2 0 s.op s.path (.slice (some ⟨w2.heap.size, 0, none⟩) 1 1))) rfl (Src.of_block (Go.Deep.blk_alloc_new w3 _) rfl) (row5_one _ (RefAt.one HT.out)) (by unfold maxLen; omega) (by omega) ((HB01.out.trans (HB3.out.mono HB01.out.size)).alloc (HB01.out.trans (HB3.out.mono HB01.out.size)).size _).size ?_; intro v9 w9 hown9 hgr9 hat9
             have HM := Lib.hid (MakeR.push (HIN1.out.keep HB3.out.size (fun b hI hlt => ⟨hI, HB3.out.block b hlt⟩)) (HB01.out.trans (HB3.out.mono HB01.out.size)) (ownsRow_under hown1 HB3.out) HT.out (fun b hb hlt => ⟨Nat.le_trans HB01.out.size hb, fun e => by have := (World.ownsRow.lt hown1 b e).2; omega⟩) hown9 hgr9 hat9)
             clear hown9 hgr9 hat9)
          | fail)
            go_roundw
            case rel => exact ⟨k + 1, by omega, by omega, by go_num, by rw [HP.out, step0 _ _ HKK.out, HN.out]; exact HM.out⟩
            case measure => simp [intOf]; omega
        · -- Wrap
          rw [hkk] at hrem
          have HKK := Lib.hid hkk
          clear hkk hklt
          cases hpn : p.length with
          | zero =>
            obtain rfl : p = [] := List.eq_nil_of_length_eq_zero hpn
            clear hpn
            go_wp2_with (first
          | (refine wpList_load_part rfl 62 (.tmp 24) rfl b (o + k * 5) rfl 5 s.row HCELL.out _ Tryd.underlying62 rfl sz62 ?_; intro cs hcs; obtain rfl := hcs.out)
          | (refine wpList_store_abs rfl 62 (.tmp 5) (.tmp 25) rfl wr.heap.size rfl (rowArr 5 s.row) rfl 62 5 s.row z62 (rowIs_lit wr [.int .i64 0, .string ⟨#[]⟩, .string ⟨#[]⟩, .int .i64 0, .int .i64 0] 62 5 z62 rfl) rfl sz62 (fun j hj => s.one j) ?_; intro w1 hrow1 hgr1 hsz1
             have hb1 : Below wr.heap.size wr w1 := ((Below.refl _ _).alloc (Nat.le_refl _) _).trans (below_of_grown hgr1 (Nat.le_refl _) (by simp))
             have c0 : w1.cell? ⟨wr.heap.size, 0, none⟩ = some (.int .i64 s.kind) := hrow1.cell (i := 0) (by omega)
             have c1 : w1.cell? ⟨wr.heap.size, 1, none⟩ = some (.string s.op) := hrow1.cell (i := 1) (by omega)
             have c2 : w1.cell? ⟨wr.heap.size, 2, none⟩ = some (.string s.path) := hrow1.cell (i := 2) (by omega)
             have c3 : w1.cell? ⟨wr.heap.size, 3, none⟩ = some (.int .i64 s.code) := hrow1.cell (i := 3) (by omega)
             have c4 : w1.cell? ⟨wr.heap.size, 4, none⟩ = some (.int .i64 s.n) := hrow1.cell (i := 4) (by omega)
             have hown1 := ownsRow_under HO.out hb1
             have hin1 : In5 (Ap w _) w1 _ us := HI.out.keep hb1.size (fun b hI hlt => ⟨hI, hb1.block b hlt⟩)
             have hb01 : Below w.heap.size w w1 := HB.out.trans (hb1.mono HB.out.size)
             have HB1 := Lib.hid hb1
             have HIN1 := Lib.hid hin1
             have HB01 := Lib.hid hb01
             have HR1 := Lib.hid hrow1
             clear hrow1 hgr1 hsz1 hb1 hin1 hb01)
          | (go_at_call 23; refine (errno_any _ _).mono ?_; rintro e2 w2 ⟨rfl, rfl⟩)
          | (refine wpList_store_abs rfl 37 (.tmp 11) (.tmp 89) rfl w1.heap.size rfl (rowArr 5 z5) rfl 37 5 z5 z5 (rowIs_lit w1 [.int .i64 0, .int .i64 0, .string ⟨#[]⟩, .string ⟨#[]⟩, .slice none 0 0] 37 5 z5 rfl) rfl sz37 (fun j hj => (RefAt.none (I := fun _ => False) (w := w1)).one j) ?_; intro w2 hrow2 hgr2 hsz2
             have hb2 : Below w1.heap.size w1 w2 := ((Below.refl _ _).alloc (Nat.le_refl _) _).trans (below_of_grown hgr2 (Nat.le_refl _) (by simp))
             have hlt1 : wr.heap.size < w1.heap.size := HR1.out.lt
             have b1 : w2.cell? ⟨wr.heap.size, 1, none⟩ = some (.string s.op) := (hb2.cell (p := ⟨wr.heap.size, 1, none⟩) hlt1).trans c1
             have b2 : w2.cell? ⟨wr.heap.size, 2, none⟩ = some (.string s.path) := (hb2.cell (p := ⟨wr.heap.size, 2, none⟩) hlt1).trans c2
             have HB2 := Lib.hid hb2
             have HR2 := Lib.hid hrow2
             clear hrow2 hgr2 hsz2 hb2)
          | (refine wpList_load_part rfl 37 (.tmp 11) rfl w1.heap.size 0 rfl 5 z5 (fun j hj => by rw [Nat.zero_add]; exact HR2.out.cell (i := j) hj) _ Tryd.underlying37 rfl sz37 ?_; intro cs hcs; obtain rfl := hcs.out; rw [rowArr5 z5])
          | (refine wpList_append_src rfl (.tmp 112) (.tmp 114) 27 rfl w.heap.size 37 5 72 _ Tryd.underlying27 info37 rfl (by omega) _ _ _ rfl (ownsRow_keep (ownsRow_under hown1 HB2.out) (fun j hj => Go.Deep.blk_alloc_lt _ _ _ (World.ownsRow.lt (ownsRow_under hown1 HB2.out) j hj).2)) _ 1 (row5 z5) rfl (Src.of_block (Go.Deep.blk_alloc_new w2 _) rfl) (row5_one _ (RefAt.one (RefAt.none (I := fun _ => False) (w := w2)))) (by unfold maxLen; omega) (by omega) ((HB01.out.trans (HB2.out.mono HB01.out.size)).alloc (HB01.out.trans (HB2.out.mono HB01.out.size)).size _).size ?_; intro v9 w9 hown9 hgr9 hat9
             have HM := Lib.hid (MakeR.push (HIN1.out.keep HB2.out.size (fun b hI hlt => ⟨hI, HB2.out.block b hlt⟩)) (HB01.out.trans (HB2.out.mono HB01.out.size)) (ownsRow_under hown1 HB2.out) (RefAt.none (I := fun _ => False) (w := w2)) (fun b hb hlt => hb.elim) hown9 hgr9 hat9)
             clear hown9 hgr9 hat9)
          | fail)
            go_roundw
            case rel => exact ⟨k + 1, by omega, by omega, by go_num, by rw [HP.out, step1n _ HKK.out]; exact HM.out⟩
            case measure => simp [intOf]; omega
          | succ n =>
            have HPN := Lib.hid hpn
            rw [hpn] at hpl hcv HO HI
            clear hpn
            obtain ⟨g, hg⟩ : ∃ g, av = some ⟨g, 0, none⟩ := own_some HO.out
            subst hg
            have hpos : (0 : Int) < (n : Int) + 1 := by omega
            have hnn : (n : Int) < (n : Int) + 1 := by omega
            obtain ⟨f, hf1, hf2⟩ := HI.out.2 n _ (last_get p n HPN.out)
            have hcells : ∀ wx : World, wx.ownsRow w.heap.size 37 5 (.slice (some ⟨g, 0, none⟩) (n + 1) capv) (n + 1) us → ∀ q, q < 5 → wx.cell? ⟨g, n * 5 + q, none⟩ = some (f q) := fun wx hox q hq => by
              obtain ⟨_, _, h1, _, _, h2⟩ := ownS_any hox
              cases h1
              obtain ⟨g', h3, _, _, h4⟩ := h2 (n * 5 + q) (f q) (hf1 q hq)
              cases h3
              exact h4
            have HCS := Lib.hid hcells
            have HF2 := Lib.hid hf2
            obtain ⟨hk1, hk2⟩ := refAt_kind hf2
            clear hf1 hf2 hcells
            by_cases hln : lastEr p = .none
            · have hf0 := hk1 hln
              have HST : Hid (p.take (p.length - 1) ++ [wrapEr s.op (lastEr p)] = p) := Lib.hid (by rw [hln]; show p.take (p.length - 1) ++ [Er.none] = p; have := take_last p n HPN.out; rw [hln] at this; exact this)
              clear hk1 hk2 hln
              go_wp2_with (first
          | (refine wpList_load_part rfl 62 (.tmp 24) rfl b (o + k * 5) rfl 5 s.row HCELL.out _ Tryd.underlying62 rfl sz62 ?_; intro cs hcs; obtain rfl := hcs.out)
          | (refine wpList_store_abs rfl 62 (.tmp 5) (.tmp 25) rfl wr.heap.size rfl (rowArr 5 s.row) rfl 62 5 s.row z62 (rowIs_lit wr [.int .i64 0, .string ⟨#[]⟩, .string ⟨#[]⟩, .int .i64 0, .int .i64 0] 62 5 z62 rfl) rfl sz62 (fun j hj => s.one j) ?_; intro w1 hrow1 hgr1 hsz1
             have hb1 : Below wr.heap.size wr w1 := ((Below.refl _ _).alloc (Nat.le_refl _) _).trans (below_of_grown hgr1 (Nat.le_refl _) (by simp))
             have c0 : w1.cell? ⟨wr.heap.size, 0, none⟩ = some (.int .i64 s.kind) := hrow1.cell (i := 0) (by omega)
             have c1 : w1.cell? ⟨wr.heap.size, 1, none⟩ = some (.string s.op) := hrow1.cell (i := 1) (by omega)
             have c2 : w1.cell? ⟨wr.heap.size, 2, none⟩ = some (.string s.path) := hrow1.cell (i := 2) (by omega)
             have c3 : w1.cell? ⟨wr.heap.size, 3, none⟩ = some (.int .i64 s.code) := hrow1.cell (i := 3) (by omega)
             have c4 : w1.cell? ⟨wr.heap.size, 4, none⟩ = some (.int .i64 s.n) := hrow1.cell (i := 4) (by omega)
             have hown1 := ownsRow_under HO.out hb1
             have hin1 : In5 (Ap w _) w1 _ us := HI.out.keep hb1.size (fun b hI hlt => ⟨hI, hb1.block b hlt⟩)
             have hb01 : Below w.heap.size w w1 := HB.out.trans (hb1.mono HB.out.size)
             have HB1 := Lib.hid hb1
             have HIN1 := Lib.hid hin1
             have HB01 := Lib.hid hb01
             have HR1 := Lib.hid hrow1
             have e0 : w1.cell? ⟨g, n * 5, none⟩ = some (f 0) := HCS.out w1 hown1 0 (by omega)
             rw [hf0] at e0
             clear hrow1 hgr1 hsz1 hb1 hin1 hb01)
          | (go_at_call 23; refine (errno_any _ _).mono ?_; rintro e2 w2 ⟨rfl, rfl⟩)
          | fail)
              go_roundw
              case rel => exact ⟨k + 1, by omega, by omega, by go_num, by rw [HP.out, step1 _ _ HKK.out (by intro e; have := HPN.out; rw [e] at this; simp at this), HST.out]; exact ⟨us, by rw [HPN.out]; exact hown1, HIN1.out, HB01.out⟩⟩
              case measure => simp [intOf]; omega
            · obtain ⟨kk, hkk, hkk0⟩ := hk2 hln
              have HW : Hid (wrapEr s.op (lastEr p) = .flt s.op ⟨#[]⟩ (lastEr p)) := Lib.hid (wrapEr_of _ _ hln)
              have HLN := Lib.hid hln
              clear hk1 hk2 hln
              go_wp2_with (first
          | (refine wpList_load_part rfl 62 (.tmp 24) rfl b (o + k * 5) rfl 5 s.row HCELL.out _ Tryd.underlying62 rfl sz62 ?_; intro cs hcs; obtain rfl := hcs.out)
          | (refine wpList_store_abs rfl 62 (.tmp 5) (.tmp 25) rfl wr.heap.size rfl (rowArr 5 s.row) rfl 62 5 s.row z62 (rowIs_lit wr [.int .i64 0, .string ⟨#[]⟩, .string ⟨#[]⟩, .int .i64 0, .int .i64 0] 62 5 z62 rfl) rfl sz62 (fun j hj => s.one j) ?_; intro w1 hrow1 hgr1 hsz1
             have hb1 : Below wr.heap.size wr w1 := ((Below.refl _ _).alloc (Nat.le_refl _) _).trans (below_of_grown hgr1 (Nat.le_refl _) (by simp))
             have c0 : w1.cell? ⟨wr.heap.size, 0, none⟩ = some (.int .i64 s.kind) := hrow1.cell (i := 0) (by omega)
             have c1 : w1.cell? ⟨wr.heap.size, 1, none⟩ = some (.string s.op) := hrow1.cell (i := 1) (by omega)
             have c2 : w1.cell? ⟨wr.heap.size, 2, none⟩ = some (.string s.path) := hrow1.cell (i := 2) (by omega)
             have c3 : w1.cell? ⟨wr.heap.size, 3, none⟩ = some (.int .i64 s.code) := hrow1.cell (i := 3) (by omega)
             have c4 : w1.cell? ⟨wr.heap.size, 4, none⟩ = some (.int .i64 s.n) := hrow1.cell (i := 4) (by omega)
             have hown1 := ownsRow_under HO.out hb1
             have hin1 : In5 (Ap w _) w1 _ us := HI.out.keep hb1.size (fun b hI hlt => ⟨hI, hb1.block b hlt⟩)
             have hb01 : Below w.heap.size w w1 := HB.out.trans (hb1.mono HB.out.size)
             have HB1 := Lib.hid hb1
             have HIN1 := Lib.hid hin1
             have HB01 := Lib.hid hb01
             have HR1 := Lib.hid hrow1
             have e0 : w1.cell? ⟨g, n * 5, none⟩ = some (f 0) := HCS.out w1 hown1 0 (by omega)
             rw [hkk] at e0
             clear hrow1 hgr1 hsz1 hb1 hin1 hb01)
          | (go_at_call 23; refine (errno_any _ _).mono ?_; rintro e2 w2 ⟨rfl, rfl⟩)
          | fail)
              have e1 : w1.cell? ⟨g, n * 5 + 1, none⟩ = some (f 1) := HCS.out w1 hown1 1 (by omega)
              have e2 : w1.cell? ⟨g, n * 5 + 2, none⟩ = some (f 2) := HCS.out w1 hown1 2 (by omega)
              have e3 : w1.cell? ⟨g, n * 5 + 3, none⟩ = some (f 3) := HCS.out w1 hown1 3 (by omega)
              have e4 : w1.cell? ⟨g, n * 5 + 4, none⟩ = some (f 4) := HCS.out w1 hown1 4 (by omega)
              have f0 : w1.frozen? ⟨g, n * 5, none⟩ = false := World.ownsRow.frozenAt hown1 _
              have f1 : w1.frozen? ⟨g, n * 5 + 1, none⟩ = false := World.ownsRow.frozenAt hown1 _
              have f2 : w1.frozen? ⟨g, n * 5 + 2, none⟩ = false := World.ownsRow.frozenAt hown1 _
              have f3 : w1.frozen? ⟨g, n * 5 + 3, none⟩ = false := World.ownsRow.frozenAt hown1 _
              have f4 : w1.frozen? ⟨g, n * 5 + 4, none⟩ = false := World.ownsRow.frozenAt hown1 _
              have hgl : g < w1.heap.size := (World.ownsRow.lt hown1 g rfl).2
              have hlt1 : wr.heap.size < w1.heap.size := HR1.out.lt
              have HKK2 := Lib.hid hkk
              clear hkk hkk0
              have HM := Lib.hid (MakeR.wrapped (op := s.op) HIN1.out HB01.out HPN.out HB1.out hown1 HF2.out HLN.out (.cells #[.int .i64 kk, f 1, f 2, f 3, f 4] 37) (by rw [HKK2.out]))
              go_region_law (fail)
              all_goals
               go_wp2_with fail
               go_roundw
               case rel => exact ⟨k + 1, by omega, by omega, by go_num, by rw [HP.out, step1 _ _ HKK.out (by intro e; have := HPN.out; rw [e] at this; simp at this), HW.out]; exact HM.out⟩
               case measure => simp [intOf]; omega
        · -- All
          rw [hkk] at hrem
          have HKK := Lib.hid hkk
          clear hkk hklt
          have hq : (IntKind.u64.wrap s.n).tmod ((p.length : Int) + 1) = (p.length : Int) - (s.cut p.length : Nat) := by rw [cut_rem s p.length (by omega)]; have := cut_le s p.length; omega
          have hcl := cut_le s p.length
          generalize hcc : s.cut p.length = c at hq hcl
          have HCC := Lib.hid hcc
          clear hcc
          have hcl' : (c : Int) ≤ (p.length : Int) := by omega
          have hsub : (p.length : Int) - ((p.length : Int) - (c : Int)) = (c : Int) := by omega
          have HONE := Lib.hid (in5_one HI.out)
          go_wp2_with (first
          | (refine wpList_load_part rfl 62 (.tmp 24) rfl b (o + k * 5) rfl 5 s.row HCELL.out _ Tryd.underlying62 rfl sz62 ?_; intro cs hcs; obtain rfl := hcs.out)
          | (refine wpList_store_abs rfl 62 (.tmp 5) (.tmp 25) rfl wr.heap.size rfl (rowArr 5 s.row) rfl 62 5 s.row z62 (rowIs_lit wr [.int .i64 0, .string ⟨#[]⟩, .string ⟨#[]⟩, .int .i64 0, .int .i64 0] 62 5 z62 rfl) rfl sz62 (fun j hj => s.one j) ?_; intro w1 hrow1 hgr1 hsz1
             have hb1 : Below wr.heap.size wr w1 := ((Below.refl _ _).alloc (Nat.le_refl _) _).trans (below_of_grown hgr1 (Nat.le_refl _) (by simp))
             have c0 : w1.cell? ⟨wr.heap.size, 0, none⟩ = some (.int .i64 s.kind) := hrow1.cell (i := 0) (by omega)
             have c1 : w1.cell? ⟨wr.heap.size, 1, none⟩ = some (.string s.op) := hrow1.cell (i := 1) (by omega)
             have c2 : w1.cell? ⟨wr.heap.size, 2, none⟩ = some (.string s.path) := hrow1.cell (i := 2) (by omega)
             have c3 : w1.cell? ⟨wr.heap.size, 3, none⟩ = some (.int .i64 s.code) := hrow1.cell (i := 3) (by omega)
             have c4 : w1.cell? ⟨wr.heap.size, 4, none⟩ = some (.int .i64 s.n) := hrow1.cell (i := 4) (by omega)
             have hown1 := ownsRow_under HO.out hb1
             have hin1 : In5 (Ap w _) w1 _ us := HI.out.keep hb1.size (fun b hI hlt => ⟨hI, hb1.block b hlt⟩)
             have hb01 : Below w.heap.size w w1 := HB.out.trans (hb1.mono HB.out.size)
             have HB1 := Lib.hid hb1
             have HIN1 := Lib.hid hin1
             have HB01 := Lib.hid hb01
             have HR1 := Lib.hid hrow1
             clear hrow1 hgr1 hsz1 hb1 hin1 hb01)
          | (go_at_call 23; refine (errno_any _ _).mono ?_; rintro e2 w2 ⟨rfl, rfl⟩)
          | (refine wpList_slice_from rfl (.tmp 73) (.tmp 74) 27 rfl w.heap.size 37 5 Tryd.under27e sz37e _ _ _ rfl (ownsRow_keep hown1 (fun j hj => Go.Deep.blk_alloc_lt _ _ _ (World.ownsRow.lt hown1 j hj).2)) c rfl hcl ?_; intro y hy
             have HY := Lib.hid hy
             clear hy)
          | (refine wpList_append_src rfl (.tmp 72) (.tmp 75) 27 rfl w1.heap.size 37 5 72 _ Tryd.underlying27 info37 rfl (by omega) (.slice (some ⟨w1.heap.size, 0, none⟩) 0 0) 0 [] rfl (own_empty (Nat.le_refl _) (Go.Deep.blk_alloc_new w1 _)) _ (p.length - c) (us.drop (c * 5)) rfl HY.out (fun x hx => HONE.out x (List.mem_of_mem_drop hx)) (by unfold maxLen; omega) (by omega) (by simp) ?_; intro v3 w3 hown3 hgr3 hat3
             have hb3 : Below w1.heap.size w1 w3 := ((Below.refl _ _).alloc (Nat.le_refl _) _).grown hgr3 (by simp) (fun j hj => by simp [Value.ownBlock] at hj; omega)
             have HB3 := Lib.hid hb3
             have HO3 := Lib.hid hown3
             clear hown3 hgr3 hat3 hb3)
          | (go_at_call 29; refine (rall_any (Ap w (.slice av p.length capv)) (p.drop c) v3 w1.heap.size ([] ++ us.drop (c * 5)) w3 (by rw [List.length_drop]; omega) (by rw [List.length_drop]; have := HO3.out; rwa [Nat.zero_add] at this) (by rw [List.nil_append]; exact (HIN1.out.drop c hcl).keep HB3.out.size (fun b hI hlt => ⟨hI, HB3.out.block b hlt⟩))).mono ?_; rintro e2 w4 ⟨f, rfl, hf, hb4⟩
             have HB4 := Lib.hid (HB3.out.trans (hb4.mono HB3.out.size))
             have HF := Lib.hid (RefAt.any hf (fun b => w.heap.size ≤ b) (fun b hb hlt => hb.elim (fun h => h.1) (fun h => Nat.le_trans HB01.out.size (Nat.le_trans HB3.out.size h))))
             clear hb4 hf)
          | (refine wpList_store_abs rfl 37 (.tmp 9) (.tmp 77) rfl w4.heap.size rfl (rowArr 5 f) rfl 37 5 f z5 (rowIs_lit w4 [.int .i64 0, .int .i64 0, .string ⟨#[]⟩, .string ⟨#[]⟩, .slice none 0 0] 37 5 z5 rfl) rfl sz37 (fun j hj => HF.out.one j) ?_; intro W hrow5 hgr5 hsz5
             have hb45 : Below w4.heap.size w4 W := ((Below.refl _ _).alloc (Nat.le_refl _) _).trans (below_of_grown hgr5 (Nat.le_refl _) (by simp))
             have hb15 : Below w1.heap.size w1 W := HB4.out.trans (hb45.mono HB4.out.size)
             have HB45 := Lib.hid hb45
             have HB15 := Lib.hid hb15
             have HR5 := Lib.hid hrow5
             clear hrow5 hgr5 hsz5 hb45 hb15)
          | fail)
          have hXW : w4.heap.size < W.heap.size := HR5.out.lt
          have x0 : W.cell? ⟨w4.heap.size, 0, none⟩ = some (f 0) := HR5.out.cell (i := 0) (by omega)
          have x1 : W.cell? ⟨w4.heap.size, 1, none⟩ = some (f 1) := HR5.out.cell (i := 1) (by omega)
          have x2 : W.cell? ⟨w4.heap.size, 2, none⟩ = some (f 2) := HR5.out.cell (i := 2) (by omega)
          have x3 : W.cell? ⟨w4.heap.size, 3, none⟩ = some (f 3) := HR5.out.cell (i := 3) (by omega)
          have x4 : W.cell? ⟨w4.heap.size, 4, none⟩ = some (f 4) := HR5.out.cell (i := 4) (by omega)
          have hcapc : (c : Int) ≤ (capv : Int) := by omega
          have hc0 : (0 : Int) ≤ (c : Int) := by omega
          have SRC := Lib.hid (fun (wx : World) (hbx : Below W.heap.size W wx) => src_slice (ownsRow_under (ownsRow_under hown1 HB15.out) hbx) hcl)
          have HO1 := Lib.hid hown1
          clear hown1
          go_region_law ((first
             | (refine step_append_src rfl (.tmp 78) (.tmp 81) 27 (by rfl) W.heap.size 37 5 72 _ Tryd.underlying27 info37 rfl (by omega) _ 0 [] (by rfl) (own_empty (by first | exact Nat.le_refl _ | exact Nat.le_succ _) (by first | exact Go.Deep.blk_alloc_new W _ | exact (Go.Deep.blk_alloc_lt (W.alloc _) _ _ (by simp)).trans (Go.Deep.blk_alloc_new W _) | exact blk_new2 W _ _)) (.slice av c capv) c (us.take (c * 5)) (by rfl) (SRC.out _ (by first | exact ((Below.refl _ W).alloc (Nat.le_refl _) _).drew | exact (((Below.refl _ W).alloc (Nat.le_refl _) _).alloc (by simp) _).drew)) (fun x hx => HONE.out x (List.mem_of_mem_take hx)) (by unfold maxLen; omega) (by omega) (by first | (simp; done) | (simp; omega)) ?_
                intro v6 w6 hown6 hgr6 hat6
                have hB6 : Below W.heap.size W w6 := by
                  first
                    | exact (((Below.refl _ W).alloc (Nat.le_refl _) _).drew).trans (below_of_grown hgr6 (by first | exact Nat.le_refl _ | exact Nat.le_succ _) (by first | (simp; done) | (simp; omega)))
                    | exact ((((Below.refl _ W).alloc (Nat.le_refl _) _).alloc (by simp) _).drew).trans (below_of_grown hgr6 (by first | exact Nat.le_refl _ | exact Nat.le_succ _) (by first | (simp; done) | (simp; omega)))
                have y0 : w6.cell? ⟨w4.heap.size, 0, none⟩ = some (f 0) := (hB6.cell (p := ⟨w4.heap.size, 0, none⟩) hXW).trans x0
                have y1 : w6.cell? ⟨w4.heap.size, 1, none⟩ = some (f 1) := (hB6.cell (p := ⟨w4.heap.size, 1, none⟩) hXW).trans x1
                have y2 : w6.cell? ⟨w4.heap.size, 2, none⟩ = some (f 2) := (hB6.cell (p := ⟨w4.heap.size, 2, none⟩) hXW).trans x2
                have y3 : w6.cell? ⟨w4.heap.size, 3, none⟩ = some (f 3) := (hB6.cell (p := ⟨w4.heap.size, 3, none⟩) hXW).trans x3
                have y4 : w6.cell? ⟨w4.heap.size, 4, none⟩ = some (f 4) := (hB6.cell (p := ⟨w4.heap.size, 4, none⟩) hXW).trans x4)
             | (refine step_append_src rfl (.tmp 82) (.tmp 84) 27 (by rfl) W.heap.size 37 5 72 _ Tryd.underlying27 info37 rfl (by omega) v6 (0 + c) ([] ++ us.take (c * 5)) (by rfl) (by first | exact hown6 | exact ownsRow_keep hown6 (fun k hk => Go.Deep.blk_alloc_lt _ _ _ (World.ownsRow.lt hown6 k hk).2)) _ 1 (row5 f) (by rfl) (by first | exact Src.of_block (Go.Deep.blk_alloc_new w6 _) rfl | exact Src.of_block ((hgr6.block _ (by simp) (by simp [Value.ownBlock])).trans (blk_new2 W _ _)) rfl | exact Src.of_block ((hgr6.block _ (by first | (simp; done) | (simp; omega)) (by simp [Value.ownBlock])).trans ((Go.Deep.blk_alloc_lt (W.alloc _) _ _ (by simp)).trans (Go.Deep.blk_alloc_new W _))) rfl) (row5_one _ HF.out.one) (by unfold maxLen; omega) (by omega) (by first | exact hB6.size | exact (hB6.alloc hB6.size _).size) ?_
                intro v7 w7 hown7 hgr7 hat7
                have hB7 : Below W.heap.size W w7 := by
                  first
                    | exact hB6.grown hgr7 hB6.size (fun k hk => (World.ownsRow.lt hown6 k hk).1)
                    | exact (hB6.alloc hB6.size _).grown hgr7 (hB6.alloc hB6.size _).size (fun k hk => (World.ownsRow.lt hown6 k hk).1)
                have HM := Lib.hid (MakeR.anew (HIN1.out.keep (J := Ap w _) HB15.out.size (fun b hI hlt => ⟨hI, HB15.out.block b hlt⟩) |>.take c hcl) (HB01.out.trans (HB15.out.mono HB01.out.size)) (show 0 + c + 1 = (p.take c).length + 1 by rw [List.length_take]; omega) (HF.out.under HB45.out) (fun b hb hlt => hb.1) (fun b hb hlt => hb) hown7 hB7))))
          all_goals
           clear hgr6 hat6 hgr7 hat7 hown6 hown7
           go_wp2_with fail
           go_roundw
           case rel => exact ⟨k + 1, by omega, by omega, by go_num, by rw [HP.out, step2 _ _ HKK.out, HCC.out]; exact HM.out⟩
           case measure => simp [intOf]; omega
        · -- a bare number
          rw [hkk] at hrem
          have HKK := Lib.hid hkk
          clear hkk hklt
          by_cases he : errno s.code = 0
          · have HN : Hid (numEr (errno s.code) = .none) := Lib.hid (by rw [he]; rfl)
            go_wp2_with (first
          | (refine wpList_load_part rfl 62 (.tmp 24) rfl b (o + k * 5) rfl 5 s.row HCELL.out _ Tryd.underlying62 rfl sz62 ?_; intro cs hcs; obtain rfl := hcs.out)
          | (refine wpList_store_abs rfl 62 (.tmp 5) (.tmp 25) rfl wr.heap.size rfl (rowArr 5 s.row) rfl 62 5 s.row z62 (rowIs_lit wr [.int .i64 0, .string ⟨#[]⟩, .string ⟨#[]⟩, .int .i64 0, .int .i64 0] 62 5 z62 rfl) rfl sz62 (fun j hj => s.one j) ?_; intro w1 hrow1 hgr1 hsz1
             have hb1 : Below wr.heap.size wr w1 := ((Below.refl _ _).alloc (Nat.le_refl _) _).trans (below_of_grown hgr1 (Nat.le_refl _) (by simp))
             have c0 : w1.cell? ⟨wr.heap.size, 0, none⟩ = some (.int .i64 s.kind) := hrow1.cell (i := 0) (by omega)
             have c1 : w1.cell? ⟨wr.heap.size, 1, none⟩ = some (.string s.op) := hrow1.cell (i := 1) (by omega)
             have c2 : w1.cell? ⟨wr.heap.size, 2, none⟩ = some (.string s.path) := hrow1.cell (i := 2) (by omega)
             have c3 : w1.cell? ⟨wr.heap.size, 3, none⟩ = some (.int .i64 s.code) := hrow1.cell (i := 3) (by omega)
             have c4 : w1.cell? ⟨wr.heap.size, 4, none⟩ = some (.int .i64 s.n) := hrow1.cell (i := 4) (by omega)
             have hown1 := ownsRow_under HO.out hb1
             have hin1 : In5 (Ap w _) w1 _ us := HI.out.keep hb1.size (fun b hI hlt => ⟨hI, hb1.block b hlt⟩)
             have hb01 : Below w.heap.size w w1 := HB.out.trans (hb1.mono HB.out.size)
             have HB1 := Lib.hid hb1
             have HIN1 := Lib.hid hin1
             have HB01 := Lib.hid hb01
             have HR1 := Lib.hid hrow1
             clear hrow1 hgr1 hsz1 hb1 hin1 hb01)
          | (go_at_call 23; refine (errno_any _ _).mono ?_; rintro e2 w2 ⟨rfl, rfl⟩)
          | (refine wpList_store_abs rfl 37 (.tmp 11) (.tmp 89) rfl w1.heap.size rfl (rowArr 5 z5) rfl 37 5 z5 z5 (rowIs_lit w1 [.int .i64 0, .int .i64 0, .string ⟨#[]⟩, .string ⟨#[]⟩, .slice none 0 0] 37 5 z5 rfl) rfl sz37 (fun j hj => (RefAt.none (I := fun _ => False) (w := w1)).one j) ?_; intro w2 hrow2 hgr2 hsz2
             have hb2 : Below w1.heap.size w1 w2 := ((Below.refl _ _).alloc (Nat.le_refl _) _).trans (below_of_grown hgr2 (Nat.le_refl _) (by simp))
             have hlt1 : wr.heap.size < w1.heap.size := HR1.out.lt
             have b1 : w2.cell? ⟨wr.heap.size, 1, none⟩ = some (.string s.op) := (hb2.cell (p := ⟨wr.heap.size, 1, none⟩) hlt1).trans c1
             have b2 : w2.cell? ⟨wr.heap.size, 2, none⟩ = some (.string s.path) := (hb2.cell (p := ⟨wr.heap.size, 2, none⟩) hlt1).trans c2
             have HB2 := Lib.hid hb2
             have HR2 := Lib.hid hrow2
             clear hrow2 hgr2 hsz2 hb2)
          | (refine wpList_load_part rfl 37 (.tmp 11) rfl w1.heap.size 0 rfl 5 z5 (fun j hj => by rw [Nat.zero_add]; exact HR2.out.cell (i := j) hj) _ Tryd.underlying37 rfl sz37 ?_; intro cs hcs; obtain rfl := hcs.out; rw [rowArr5 z5])
          | (refine wpList_append_src rfl (.tmp 112) (.tmp 114) 27 rfl w.heap.size 37 5 72 _ Tryd.underlying27 info37 rfl (by omega) _ _ _ rfl (ownsRow_keep (ownsRow_under hown1 HB2.out) (fun j hj => Go.Deep.blk_alloc_lt _ _ _ (World.ownsRow.lt (ownsRow_under hown1 HB2.out) j hj).2)) _ 1 (row5 z5) rfl (Src.of_block (Go.Deep.blk_alloc_new w2 _) rfl) (row5_one _ (RefAt.one (RefAt.none (I := fun _ => False) (w := w2)))) (by unfold maxLen; omega) (by omega) ((HB01.out.trans (HB2.out.mono HB01.out.size)).alloc (HB01.out.trans (HB2.out.mono HB01.out.size)).size _).size ?_; intro v9 w9 hown9 hgr9 hat9
             have HM := Lib.hid (MakeR.push (HIN1.out.keep HB2.out.size (fun b hI hlt => ⟨hI, HB2.out.block b hlt⟩)) (HB01.out.trans (HB2.out.mono HB01.out.size)) (ownsRow_under hown1 HB2.out) (RefAt.none (I := fun _ => False) (w := w2)) (fun b hb hlt => hb.elim) hown9 hgr9 hat9)
             clear hown9 hgr9 hat9)
          | fail)
            go_roundw
            case rel => exact ⟨k + 1, by omega, by omega, by go_num, by rw [HP.out, step3 _ _ HKK.out, HN.out]; exact HM.out⟩
            case measure => simp [intOf]; omega
          · have HN : Hid (numEr (errno s.code) = .num (errno s.code)) := Lib.hid (by unfold numEr; rw [if_neg he])
            go_wp2_with (first
          | (refine wpList_load_part rfl 62 (.tmp 24) rfl b (o + k * 5) rfl 5 s.row HCELL.out _ Tryd.underlying62 rfl sz62 ?_; intro cs hcs; obtain rfl := hcs.out)
          | (refine wpList_store_abs rfl 62 (.tmp 5) (.tmp 25) rfl wr.heap.size rfl (rowArr 5 s.row) rfl 62 5 s.row z62 (rowIs_lit wr [.int .i64 0, .string ⟨#[]⟩, .string ⟨#[]⟩, .int .i64 0, .int .i64 0] 62 5 z62 rfl) rfl sz62 (fun j hj => s.one j) ?_; intro w1 hrow1 hgr1 hsz1
             have hb1 : Below wr.heap.size wr w1 := ((Below.refl _ _).alloc (Nat.le_refl _) _).trans (below_of_grown hgr1 (Nat.le_refl _) (by simp))
             have c0 : w1.cell? ⟨wr.heap.size, 0, none⟩ = some (.int .i64 s.kind) := hrow1.cell (i := 0) (by omega)
             have c1 : w1.cell? ⟨wr.heap.size, 1, none⟩ = some (.string s.op) := hrow1.cell (i := 1) (by omega)
             have c2 : w1.cell? ⟨wr.heap.size, 2, none⟩ = some (.string s.path) := hrow1.cell (i := 2) (by omega)
             have c3 : w1.cell? ⟨wr.heap.size, 3, none⟩ = some (.int .i64 s.code) := hrow1.cell (i := 3) (by omega)
             have c4 : w1.cell? ⟨wr.heap.size, 4, none⟩ = some (.int .i64 s.n) := hrow1.cell (i := 4) (by omega)
             have hown1 := ownsRow_under HO.out hb1
             have hin1 : In5 (Ap w _) w1 _ us := HI.out.keep hb1.size (fun b hI hlt => ⟨hI, hb1.block b hlt⟩)
             have hb01 : Below w.heap.size w w1 := HB.out.trans (hb1.mono HB.out.size)
             have HB1 := Lib.hid hb1
             have HIN1 := Lib.hid hin1
             have HB01 := Lib.hid hb01
             have HR1 := Lib.hid hrow1
             clear hrow1 hgr1 hsz1 hb1 hin1 hb01)
          | (go_at_call 23; refine (errno_any _ _).mono ?_; rintro e2 w2 ⟨rfl, rfl⟩)
          | (refine wpList_store_abs rfl 37 (.tmp 11) (.tmp 89) rfl w1.heap.size rfl (rowArr 5 z5) rfl 37 5 z5 z5 (rowIs_lit w1 [.int .i64 0, .int .i64 0, .string ⟨#[]⟩, .string ⟨#[]⟩, .slice none 0 0] 37 5 z5 rfl) rfl sz37 (fun j hj => (RefAt.none (I := fun _ => False) (w := w1)).one j) ?_; intro w2 hrow2 hgr2 hsz2
             have hb2 : Below w1.heap.size w1 w2 := ((Below.refl _ _).alloc (Nat.le_refl _) _).trans (below_of_grown hgr2 (Nat.le_refl _) (by simp))
             have hlt1 : wr.heap.size < w1.heap.size := HR1.out.lt
             have b1 : w2.cell? ⟨wr.heap.size, 1, none⟩ = some (.string s.op) := (hb2.cell (p := ⟨wr.heap.size, 1, none⟩) hlt1).trans c1
             have b2 : w2.cell? ⟨wr.heap.size, 2, none⟩ = some (.string s.path) := (hb2.cell (p := ⟨wr.heap.size, 2, none⟩) hlt1).trans c2
             have HB2 := Lib.hid hb2
             have HR2 := Lib.hid hrow2
             clear hrow2 hgr2 hsz2 hb2)
          | (refine wpList_store_abs rfl 37 (.tmp 11) (.tmp 111) rfl w1.heap.size rfl (rowArr 5 (refc 1 (errno s.code) ⟨#[]⟩ ⟨#[]⟩ (.slice none 0 0))) rfl 37 5 (refc 1 (errno s.code) ⟨#[]⟩ ⟨#[]⟩ (.slice none 0 0)) z5 HR2.out rfl sz37 (fun j hj => by unfold refc; split <;> rfl) ?_; intro w3 hrow3 hgr3 hsz3
             have hb3 : Below w1.heap.size w1 w3 := HB2.out.trans (below_of_grown hgr3 (Nat.le_refl _) HB2.out.size)
             have HR3 := Lib.hid hrow3
             have HB3 := Lib.hid hb3
             clear hrow3 hgr3 hsz3 hb3)
          | (refine wpList_load_part rfl 37 (.tmp 11) rfl w1.heap.size 0 rfl 5 (refc 1 (errno s.code) ⟨#[]⟩ ⟨#[]⟩ (.slice none 0 0)) (fun j hj => by rw [Nat.zero_add]; exact HR3.out.cell (i := j) hj) _ Tryd.underlying37 rfl sz37 ?_; intro cs hcs; obtain rfl := hcs.out; rw [rowArr5 (refc 1 (errno s.code) ⟨#[]⟩ ⟨#[]⟩ (.slice none 0 0))])
          | (refine wpList_append_src rfl (.tmp 112) (.tmp 114) 27 rfl w.heap.size 37 5 72 _ Tryd.underlying27 info37 rfl (by omega) _ _ _ rfl (ownsRow_keep (ownsRow_under hown1 HB3.out) (fun j hj => Go.Deep.blk_alloc_lt _ _ _ (World.ownsRow.lt (ownsRow_under hown1 HB3.out) j hj).2)) _ 1 (row5 (refc 1 (errno s.code) ⟨#[]⟩ ⟨#[]⟩ (.slice none 0 0))) rfl (Src.of_block (Go.Deep.blk_alloc_new w3 _) rfl) (row5_one _ (RefAt.one (RefAt.num (I := fun _ => False) (w := w3) (errno s.code) (by omega) he1))) (by unfold maxLen; omega) (by omega) ((HB01.out.trans (HB3.out.mono HB01.out.size)).alloc (HB01.out.trans (HB3.out.mono HB01.out.size)).size _).size ?_; intro v9 w9 hown9 hgr9 hat9
             have HM := Lib.hid (MakeR.push (HIN1.out.keep HB3.out.size (fun b hI hlt => ⟨hI, HB3.out.block b hlt⟩)) (HB01.out.trans (HB3.out.mono HB01.out.size)) (ownsRow_under hown1 HB3.out) (RefAt.num (I := fun _ => False) (w := w3) (errno s.code) (by omega) he1) (fun b hb hlt => hb.elim) hown9 hgr9 hat9)
             clear hown9 hgr9 hat9)
          | fail)
            go_roundw
            case rel => exact ⟨k + 1, by omega, by omega, by go_num, by rw [HP.out, step3 _ _ HKK.out, HN.out]; exact HM.out⟩
            case measure => simp [intOf]; omega
        · -- none
          rw [hkk] at hrem
          have HKK := Lib.hid hkk
          clear hkk hklt
          go_wp2_with (first
          | (refine wpList_load_part rfl 62 (.tmp 24) rfl b (o + k * 5) rfl 5 s.row HCELL.out _ Tryd.underlying62 rfl sz62 ?_; intro cs hcs; obtain rfl := hcs.out)
          | (refine wpList_store_abs rfl 62 (.tmp 5) (.tmp 25) rfl wr.heap.size rfl (rowArr 5 s.row) rfl 62 5 s.row z62 (rowIs_lit wr [.int .i64 0, .string ⟨#[]⟩, .string ⟨#[]⟩, .int .i64 0, .int .i64 0] 62 5 z62 rfl) rfl sz62 (fun j hj => s.one j) ?_; intro w1 hrow1 hgr1 hsz1
             have hb1 : Below wr.heap.size wr w1 := ((Below.refl _ _).alloc (Nat.le_refl _) _).trans (below_of_grown hgr1 (Nat.le_refl _) (by simp))
             have c0 : w1.cell? ⟨wr.heap.size, 0, none⟩ = some (.int .i64 s.kind) := hrow1.cell (i := 0) (by omega)
             have c1 : w1.cell? ⟨wr.heap.size, 1, none⟩ = some (.string s.op) := hrow1.cell (i := 1) (by omega)
             have c2 : w1.cell? ⟨wr.heap.size, 2, none⟩ = some (.string s.path) := hrow1.cell (i := 2) (by omega)
             have c3 : w1.cell? ⟨wr.heap.size, 3, none⟩ = some (.int .i64 s.code) := hrow1.cell (i := 3) (by omega)
             have c4 : w1.cell? ⟨wr.heap.size, 4, none⟩ = some (.int .i64 s.n) := hrow1.cell (i := 4) (by omega)
             have hown1 := ownsRow_under HO.out hb1
             have hin1 : In5 (Ap w _) w1 _ us := HI.out.keep hb1.size (fun b hI hlt => ⟨hI, hb1.block b hlt⟩)
             have hb01 : Below w.heap.size w w1 := HB.out.trans (hb1.mono HB.out.size)
             have HB1 := Lib.hid hb1
             have HIN1 := Lib.hid hin1
             have HB01 := Lib.hid hb01
             have HR1 := Lib.hid hrow1
             clear hrow1 hgr1 hsz1 hb1 hin1 hb01)
          | (go_at_call 23; refine (errno_any _ _).mono ?_; rintro e2 w2 ⟨rfl, rfl⟩)
          | (refine wpList_store_abs rfl 37 (.tmp 11) (.tmp 89) rfl w1.heap.size rfl (rowArr 5 z5) rfl 37 5 z5 z5 (rowIs_lit w1 [.int .i64 0, .int .i64 0, .string ⟨#[]⟩, .string ⟨#[]⟩, .slice none 0 0] 37 5 z5 rfl) rfl sz37 (fun j hj => (RefAt.none (I := fun _ => False) (w := w1)).one j) ?_; intro w2 hrow2 hgr2 hsz2
             have hb2 : Below w1.heap.size w1 w2 := ((Below.refl _ _).alloc (Nat.le_refl _) _).trans (below_of_grown hgr2 (Nat.le_refl _) (by simp))
             have hlt1 : wr.heap.size < w1.heap.size := HR1.out.lt
             have b1 : w2.cell? ⟨wr.heap.size, 1, none⟩ = some (.string s.op) := (hb2.cell (p := ⟨wr.heap.size, 1, none⟩) hlt1).trans c1
             have b2 : w2.cell? ⟨wr.heap.size, 2, none⟩ = some (.string s.path) := (hb2.cell (p := ⟨wr.heap.size, 2, none⟩) hlt1).trans c2
             have HB2 := Lib.hid hb2
             have HR2 := Lib.hid hrow2
             clear hrow2 hgr2 hsz2 hb2)
          | (refine wpList_load_part rfl 37 (.tmp 11) rfl w1.heap.size 0 rfl 5 z5 (fun j hj => by rw [Nat.zero_add]; exact HR2.out.cell (i := j) hj) _ Tryd.underlying37 rfl sz37 ?_; intro cs hcs; obtain rfl := hcs.out; rw [rowArr5 z5])
          | (refine wpList_append_src rfl (.tmp 112) (.tmp 114) 27 rfl w.heap.size 37 5 72 _ Tryd.underlying27 info37 rfl (by omega) _ _ _ rfl (ownsRow_keep (ownsRow_under hown1 HB2.out) (fun j hj => Go.Deep.blk_alloc_lt _ _ _ (World.ownsRow.lt (ownsRow_under hown1 HB2.out) j hj).2)) _ 1 (row5 z5) rfl (Src.of_block (Go.Deep.blk_alloc_new w2 _) rfl) (row5_one _ (RefAt.one (RefAt.none (I := fun _ => False) (w := w2)))) (by unfold maxLen; omega) (by omega) ((HB01.out.trans (HB2.out.mono HB01.out.size)).alloc (HB01.out.trans (HB2.out.mono HB01.out.size)).size _).size ?_; intro v9 w9 hown9 hgr9 hat9
             have HM := Lib.hid (MakeR.push (HIN1.out.keep HB2.out.size (fun b hI hlt => ⟨hI, HB2.out.block b hlt⟩)) (HB01.out.trans (HB2.out.mono HB01.out.size)) (ownsRow_under hown1 HB2.out) (RefAt.none (I := fun _ => False) (w := w2)) (fun b hb hlt => hb.elim) hown9 hgr9 hat9)
             clear hown9 hgr9 hat9)
          | fail)
          go_roundw
          case rel => exact ⟨k + 1, by omega, by omega, by go_num, by rw [HP.out, step4 _ _ HKK.out]; exact HM.out⟩
          case measure => simp [intOf]; omega
      · obtain rfl : k = 40 := by omega
        go_wp2_with fail
        go_ret
        exact ⟨_, rfl, hm⟩
    · obtain rfl : k = ss.length := by omega
      have HQ := Lib.hid (pile_40 ss ss.length (Nat.le_refl _) hk40 (.inl rfl))
      go_wp2_with fail
      go_ret
      exact ⟨_, rfl, by rw [← HQ.out]; exact hm⟩
end Go.Proofs.YtcodlhjedhaaaaaDoor
