/-
  made.
-/
import Derived.Test.YtcodlhjedhaaaaaDoorF19
namespace Go.Proofs.YtcodlhjedhaaaaaDoor
open Go.RowKit
set_option maxRecDepth 100000

theorem er_shape {I : Nat → Prop} {w : World} {x : Er} {v : Value} (h : ErAt I w x v) : v = .nilIface ∨ ∃ t u, v = .iface t u := by
  cases h
  · exact .inl rfl
  all_goals exact .inr ⟨_, _, rfl⟩
theorem own_some {w : World} {base : Nat} {e : TypeId} {size : Nat} {a : Option Addr} {n cap : Nat} {xs : List Value} (h : w.ownsRow base e size (.slice a (n + 1) cap) (n + 1) xs) : ∃ g, a = some ⟨g, 0, none⟩ := by
  rcases h.2 with ⟨_, h2⟩ | ⟨g, cap', cur, h2, _⟩
  · omega
  · cases h2
    exact ⟨g, rfl⟩
theorem Tryd.under25e : Tryd.prog.underlying 25 = some (.slice (Tryd.prog.elem 25)) := by kernel_rfl
theorem sz32e : (Tryd.prog.info? (Tryd.prog.elem 25)).map (·.size) = some 1 := by kernel_rfl
theorem in1_one {I : Nat → Prop} {w : World} {l : List Er} {m : List Value} (h : In1 I w l m) (hl : l.length = m.length) : ∀ u ∈ m, u.oneCell' = true := fun u hu => by
  obtain ⟨i, hi⟩ := List.mem_iff_getElem?.1 hu
  obtain ⟨x, hx⟩ : ∃ x, l[i]? = some x := ⟨_, List.getElem?_eq_getElem (by have := (List.getElem?_eq_some_iff.1 hi).1; omega)⟩
  obtain ⟨u', h1, h2⟩ := h i x hx
  rw [hi] at h1
  cases h1
  exact h2.oneCell
def z62 : Nat → Value
  | 0 => .int .i64 0
  | 1 => .string ⟨#[]⟩
  | 2 => .string ⟨#[]⟩
  | _ => .int .i64 0
theorem pile_40 (ss : List St) (k : Nat) (h : k ≤ ss.length) (h40 : k ≤ 40) (he : k = ss.length ∨ k = 40) : pile (ss.take k) = pile (ss.take 40) := by
  rcases he with rfl | rfl
  · rw [List.take_of_length_le (Nat.le_refl _), List.take_of_length_le h40]
  · rfl

set_option maxHeartbeats 16000000 in
/-- made. -/
theorem made_any (ss : List St) (a : Option Addr) (cap : Nat) (w : World) (hS : StepsAt w a ss) (hl : ss.length ≤ 1048576) :
    Calls Tryd.prog 10 #[.slice a ss.length cap] w fun e w' => ∃ v, e = .returned v ∧ MadeR w (pile (ss.take 40)) v w' := by
  have HS := Lib.hid hS
  have HM0 := Lib.hid (MadeR.nil w)
  clear hS
  go_enter Tryd.func10, Tryd.ntmps10
  go_wp2_with fail
  go_loopw [3, 4] (fun v i wr => ∃ k : Nat, k ≤ ss.length ∧ k ≤ 40 ∧ i = .int .i64 k ∧ MadeR w (pile (ss.take k)) v wr) (fun _ i _ => 40 - (intOf i).toNat)
  case atStart => exact ⟨0, by omega, by omega, rfl, by rw [List.take_zero]; exact HM0.out⟩
  case round =>
    obtain ⟨k, hk, hk40, rfl, hm⟩ := hrel
    by_cases hlt2 : k < ss.length
    · by_cases hlt3 : k < 40
      · obtain ⟨s, hs⟩ : ∃ s, ss[k]? = some s := ⟨_, List.getElem?_eq_getElem hlt2⟩
        obtain ⟨b, o, rfl, hbl, hcell⟩ := HS.out k s hs
        have HP := Lib.hid (pile_take ss k s hs)
        have hpl : (pile (ss.take k)).length ≤ k := Nat.le_trans (pile_length _) (List.length_take_le _ _)
        obtain ⟨us, hown, hin, hb⟩ := hm
        obtain ⟨av, capv, rfl, hcv, _⟩ := ownS_any hown
        have HCELL := Lib.hid (fun j (hj : j < 5) => (hb.cell (p := ⟨b, o + k * 5 + j, none⟩) hbl).trans (hcell j hj))
        have HO := Lib.hid hown
        have HI := Lib.hid hin
        have HB := Lib.hid hb
        have hrem := kind_rem s
        have hklt := k_lt s
        obtain ⟨he0, he1⟩ := errno_le s.code
        obtain ⟨p, hp⟩ : ∃ p, p = pile (ss.take k) := ⟨_, rfl⟩
        rw [← hp] at hpl hcv HO HI HP ⊢
        have hlen : p.length = us.length := by have := HO.out.1; omega
        have HLEN := Lib.hid hlen
        clear hown hin hb hcell hs hp hlen
        have hkk : s.k = 0 ∨ s.k = 1 ∨ s.k = 2 ∨ s.k = 3 ∨ s.k = 4 := by omega
        rcases hkk with hkk | hkk | hkk | hkk | hkk
        · -- New
          rw [hkk] at hrem
          have HKK := Lib.hid hkk
          clear hkk hklt
          go_wp2_with (first
          | (refine wpList_load_part rfl 62 (.tmp 22) rfl b (o + k * 5) rfl 5 s.row HCELL.out _ Tryd.underlying62 rfl sz62 ?_; intro cs hcs; obtain rfl := hcs.out)
          | (refine wpList_store_abs rfl 62 (.tmp 5) (.tmp 23) rfl wr.heap.size rfl (rowArr 5 s.row) rfl 62 5 s.row z62 (rowIs_lit wr [.int .i64 0, .string ⟨#[]⟩, .string ⟨#[]⟩, .int .i64 0, .int .i64 0] 62 5 z62 rfl) rfl sz62 (fun j hj => s.one j) ?_; intro w1 hrow1 hgr1 hsz1
             have hb1 : Below wr.heap.size wr w1 := ((Below.refl _ _).alloc (Nat.le_refl _) _).trans (below_of_grown hgr1 (Nat.le_refl _) (by simp))
             have c0 : w1.cell? ⟨wr.heap.size, 0, none⟩ = some (.int .i64 s.kind) := hrow1.cell (i := 0) (by omega)
             have c1 : w1.cell? ⟨wr.heap.size, 1, none⟩ = some (.string s.op) := hrow1.cell (i := 1) (by omega)
             have c2 : w1.cell? ⟨wr.heap.size, 2, none⟩ = some (.string s.path) := hrow1.cell (i := 2) (by omega)
             have c3 : w1.cell? ⟨wr.heap.size, 3, none⟩ = some (.int .i64 s.code) := hrow1.cell (i := 3) (by omega)
             have c4 : w1.cell? ⟨wr.heap.size, 4, none⟩ = some (.int .i64 s.n) := hrow1.cell (i := 4) (by omega)
             have hown1 := ownsRow_under HO.out hb1
             have hin1 : In1 (Ap w _) w1 _ us := HI.out.keep hb1.size (fun b hI hlt => ⟨hI, hb1.block b hlt⟩)
             have hb01 : Below w.heap.size w w1 := HB.out.trans (hb1.mono HB.out.size)
             have HB1 := Lib.hid hb1
             have HIN1 := Lib.hid hin1
             have HB01 := Lib.hid hb01
             clear hrow1 hgr1 hsz1 hb1 hin1 hb01)
          | (go_at_call 23; refine (errno_any _ _).mono ?_; rintro e2 w2 ⟨rfl, rfl⟩)
          | (go_at_call 27; refine (new_any _ _ _ he0 he1 _).mono ?_; rintro e2 w2 ⟨u, rfl, hu, hb2⟩
             have hown2 := ownsRow_under hown1 hb2
             have hin2 : In1 (Ap w _) w2 _ us := HIN1.out.keep hb2.size (fun b hI hlt => ⟨hI, hb2.block b hlt⟩)
             have hb02 : Below w.heap.size w w2 := HB01.out.trans (hb2.mono HB01.out.size)
             have HB2 := Lib.hid hb2
             have HIN2 := Lib.hid hin2
             have HB02 := Lib.hid hb02
             have HU := Lib.hid hu
             clear hb2 hin2 hb02
             rcases er_shape hu with rfl | ⟨t', u', rfl⟩ <;> clear hu)
          | (refine wpList_append_src rfl (.tmp 36) (.tmp 43) 25 rfl w.heap.size 32 1 16 _ Tryd.underlying25 info32 rfl (by omega) _ _ _ rfl (ownsRow_keep hown2 (fun j hj => Go.Deep.blk_alloc_lt _ _ _ (World.ownsRow.lt hown2 j hj).2)) _ 1 [_] rfl (Src.of_block (Go.Deep.blk_alloc_new w2 _) rfl) (by intro x hx; simp at hx; subst hx; exact HU.out.oneCell) (by unfold maxLen; omega) (by omega) (HB02.out.alloc HB02.out.size _).size ?_; intro v3 w3 hown3 hgr3 hat3
             have HM := Lib.hid (MadeR.push HIN2.out HB02.out hown2 HU.out (fun b hb hlt => ⟨Nat.le_trans HB01.out.size hb, fun e => by have := (World.ownsRow.lt hown1 b e).2; omega⟩) hown3 hgr3 hat3)
             clear hown3 hgr3 hat3)
          | fail)
          all_goals
           go_roundw
           case rel => exact ⟨k + 1, by omega, by omega, by go_num, by rw [HP.out, step0 _ _ HKK.out]; exact HM.out⟩
           case measure => simp [intOf]; omega
        · -- Wrap
          rw [hkk] at hrem
          have HKK := Lib.hid hkk
          clear hkk hklt
          cases hpn : p.length with
          | zero =>
            obtain rfl : p = [] := List.eq_nil_of_length_eq_zero hpn
            clear hpn
            go_wp2_with (first
          | (refine wpList_load_part rfl 62 (.tmp 22) rfl b (o + k * 5) rfl 5 s.row HCELL.out _ Tryd.underlying62 rfl sz62 ?_; intro cs hcs; obtain rfl := hcs.out)
          | (refine wpList_store_abs rfl 62 (.tmp 5) (.tmp 23) rfl wr.heap.size rfl (rowArr 5 s.row) rfl 62 5 s.row z62 (rowIs_lit wr [.int .i64 0, .string ⟨#[]⟩, .string ⟨#[]⟩, .int .i64 0, .int .i64 0] 62 5 z62 rfl) rfl sz62 (fun j hj => s.one j) ?_; intro w1 hrow1 hgr1 hsz1
             have hb1 : Below wr.heap.size wr w1 := ((Below.refl _ _).alloc (Nat.le_refl _) _).trans (below_of_grown hgr1 (Nat.le_refl _) (by simp))
             have c0 : w1.cell? ⟨wr.heap.size, 0, none⟩ = some (.int .i64 s.kind) := hrow1.cell (i := 0) (by omega)
             have c1 : w1.cell? ⟨wr.heap.size, 1, none⟩ = some (.string s.op) := hrow1.cell (i := 1) (by omega)
             have c2 : w1.cell? ⟨wr.heap.size, 2, none⟩ = some (.string s.path) := hrow1.cell (i := 2) (by omega)
             have c3 : w1.cell? ⟨wr.heap.size, 3, none⟩ = some (.int .i64 s.code) := hrow1.cell (i := 3) (by omega)
             have c4 : w1.cell? ⟨wr.heap.size, 4, none⟩ = some (.int .i64 s.n) := hrow1.cell (i := 4) (by omega)
             have hown1 := ownsRow_under HO.out hb1
             have hin1 : In1 (Ap w _) w1 _ us := HI.out.keep hb1.size (fun b hI hlt => ⟨hI, hb1.block b hlt⟩)
             have hb01 : Below w.heap.size w w1 := HB.out.trans (hb1.mono HB.out.size)
             have HB1 := Lib.hid hb1
             have HIN1 := Lib.hid hin1
             have HB01 := Lib.hid hb01
             clear hrow1 hgr1 hsz1 hb1 hin1 hb01)
          | (go_at_call 23; refine (errno_any _ _).mono ?_; rintro e2 w2 ⟨rfl, rfl⟩)
          | (go_at_call 26; refine (wrap_any (fun _ => False) _ .none _ w1 .none).mono ?_; rintro e2 w2 ⟨u, rfl, hu, hb2⟩
             obtain rfl := hu.nil.2 rfl
             have hown2 := ownsRow_under hown1 hb2
             have hin2 : In1 (Ap w _) w2 _ us := HIN1.out.keep hb2.size (fun b hI hlt => ⟨hI, hb2.block b hlt⟩)
             have hb02 : Below w.heap.size w w2 := HB01.out.trans (hb2.mono HB01.out.size)
             have HB2 := Lib.hid hb2
             have HIN2 := Lib.hid hin2
             have HB02 := Lib.hid hb02
             have HU := Lib.hid hu
             clear hb2 hin2 hb02 hu)
          | (refine wpList_append_src rfl (.tmp 52) (.tmp 56) 25 rfl w.heap.size 32 1 16 _ Tryd.underlying25 info32 rfl (by omega) _ _ _ rfl (ownsRow_keep hown2 (fun j hj => Go.Deep.blk_alloc_lt _ _ _ (World.ownsRow.lt hown2 j hj).2)) _ 1 [_] rfl (Src.of_block (Go.Deep.blk_alloc_new w2 _) rfl) (by intro x hx; simp at hx; subst hx; exact HU.out.oneCell) (by unfold maxLen; omega) (by omega) (HB02.out.alloc HB02.out.size _).size ?_; intro v3 w3 hown3 hgr3 hat3
             have HM := Lib.hid (MadeR.push HIN2.out HB02.out hown2 (ErAt.none (I := fun _ => False)) (fun b hb hlt => hb.elim) hown3 hgr3 hat3)
             clear hown3 hgr3 hat3)
          | fail)
            go_roundw
            case rel => exact ⟨k + 1, by omega, by omega, by go_num, by rw [HP.out, step1n _ HKK.out]; exact HM.out⟩
            case measure => simp [intOf]; omega
          | succ n =>
            have HPN := Lib.hid hpn
            rw [hpn] at hpl hcv HO HI HLEN
            clear hpn
            obtain ⟨g, hg⟩ : ∃ g, av = some ⟨g, 0, none⟩ := own_some HO.out
            subst hg
            have hpos : ¬ ((n : Int) < 0) := by omega
            go_wp2_with (first
          | (refine wpList_load_part rfl 62 (.tmp 22) rfl b (o + k * 5) rfl 5 s.row HCELL.out _ Tryd.underlying62 rfl sz62 ?_; intro cs hcs; obtain rfl := hcs.out)
          | (refine wpList_store_abs rfl 62 (.tmp 5) (.tmp 23) rfl wr.heap.size rfl (rowArr 5 s.row) rfl 62 5 s.row z62 (rowIs_lit wr [.int .i64 0, .string ⟨#[]⟩, .string ⟨#[]⟩, .int .i64 0, .int .i64 0] 62 5 z62 rfl) rfl sz62 (fun j hj => s.one j) ?_; intro w1 hrow1 hgr1 hsz1
             have hb1 : Below wr.heap.size wr w1 := ((Below.refl _ _).alloc (Nat.le_refl _) _).trans (below_of_grown hgr1 (Nat.le_refl _) (by simp))
             have c0 : w1.cell? ⟨wr.heap.size, 0, none⟩ = some (.int .i64 s.kind) := hrow1.cell (i := 0) (by omega)
             have c1 : w1.cell? ⟨wr.heap.size, 1, none⟩ = some (.string s.op) := hrow1.cell (i := 1) (by omega)
             have c2 : w1.cell? ⟨wr.heap.size, 2, none⟩ = some (.string s.path) := hrow1.cell (i := 2) (by omega)
             have c3 : w1.cell? ⟨wr.heap.size, 3, none⟩ = some (.int .i64 s.code) := hrow1.cell (i := 3) (by omega)
             have c4 : w1.cell? ⟨wr.heap.size, 4, none⟩ = some (.int .i64 s.n) := hrow1.cell (i := 4) (by omega)
             have hown1 := ownsRow_under HO.out hb1
             have hin1 : In1 (Ap w _) w1 _ us := HI.out.keep hb1.size (fun b hI hlt => ⟨hI, hb1.block b hlt⟩)
             have hb01 : Below w.heap.size w w1 := HB.out.trans (hb1.mono HB.out.size)
             have HB1 := Lib.hid hb1
             have HIN1 := Lib.hid hin1
             have HB01 := Lib.hid hb01
             clear hrow1 hgr1 hsz1 hb1 hin1 hb01)
          | (go_at_call 23; refine (errno_any _ _).mono ?_; rintro e2 w2 ⟨rfl, rfl⟩)
          | fail)
            obtain ⟨ul, hul, hel⟩ := HIN1.out n _ (last_get p n HPN.out)
            have e0 : w1.cell? ⟨g, n, none⟩ = some ul := by
              obtain ⟨_, _, h1, _, _, h2⟩ := ownS_any hown1
              cases h1
              obtain ⟨g', h3, _, _, h4⟩ := h2 n ul hul
              cases h3
              exact h4
            have HUL := Lib.hid hel
            clear hul hel
            have hnn : (n : Int) < (n : Int) + 1 := by omega
            by_cases hln : lastEr p = .none
            · have hwn : wrapEr s.op (lastEr p) = .none := by rw [hln]; rfl
              go_region_law ((first
            | (go_simp; go_at_call 26; refine (wrap_any (Ap w _) _ _ _ _ (HUL.out.under ((Below.refl _ _).drew))).mono ?_; rintro e2 w2 ⟨u, rfl, hu, hb2'⟩
               have hb2 : Below w1.heap.size w1 w2 := ((Below.refl _ _).drew).trans hb2'
               have hown2 := ownsRow_under hown1 hb2
               have hin2 : In1 (Ap w _) w2 _ us := HIN1.out.keep hb2.size (fun b hI hlt => ⟨hI, hb2.block b hlt⟩)
               have hb02 : Below w.heap.size w w2 := HB01.out.trans (hb2.mono HB01.out.size)
               have e2' : w2.cell? ⟨g, n, none⟩ = some ul := (hb2.cell (p := ⟨g, n, none⟩) (cell_block_lt e0)).trans e0
               have f2 : w2.frozen? ⟨g, n, none⟩ = false := World.ownsRow.frozenAt hown2 n
               have HM := Lib.hid (MadeR.last hin2 hb02 HPN.out hown2 hu (fun b hJ hlt => hJ.elim (fun h => h) (fun h => ⟨Nat.le_trans HB01.out.size h, fun e => by have := (World.ownsRow.lt hown1 b e).2; have : w1.drew.heap.size = w1.heap.size := rfl; omega⟩)))
               clear hb2 hb2' hin2 hb02
               obtain rfl := hu.nil.2 hwn
               clear hu hwn)))
              all_goals
               go_wp2_with fail
               go_roundw
               case rel => exact ⟨k + 1, by omega, by omega, by go_num, by rw [HP.out, step1 _ _ HKK.out (by intro e; have := HPN.out; rw [e] at this; simp at this)]; exact HM.out⟩
               case measure => simp [intOf]; omega
            · have hwn : wrapEr s.op (lastEr p) ≠ .none := by rw [wrapEr_of _ _ hln]; simp
              go_region_law ((first
            | (go_simp; go_at_call 26; refine (wrap_any (Ap w _) _ _ _ _ (HUL.out.under ((Below.refl _ _).drew))).mono ?_; rintro e2 w2 ⟨u, rfl, hu, hb2'⟩
               have hb2 : Below w1.heap.size w1 w2 := ((Below.refl _ _).drew).trans hb2'
               have hown2 := ownsRow_under hown1 hb2
               have hin2 : In1 (Ap w _) w2 _ us := HIN1.out.keep hb2.size (fun b hI hlt => ⟨hI, hb2.block b hlt⟩)
               have hb02 : Below w.heap.size w w2 := HB01.out.trans (hb2.mono HB01.out.size)
               have e2' : w2.cell? ⟨g, n, none⟩ = some ul := (hb2.cell (p := ⟨g, n, none⟩) (cell_block_lt e0)).trans e0
               have f2 : w2.frozen? ⟨g, n, none⟩ = false := World.ownsRow.frozenAt hown2 n
               have HM := Lib.hid (MadeR.last hin2 hb02 HPN.out hown2 hu (fun b hJ hlt => hJ.elim (fun h => h) (fun h => ⟨Nat.le_trans HB01.out.size h, fun e => by have := (World.ownsRow.lt hown1 b e).2; have : w1.drew.heap.size = w1.heap.size := rfl; omega⟩)))
               clear hb2 hb2' hin2 hb02
               obtain ⟨t', u', rfl⟩ := hu.iface hwn
               clear hu hwn)))
              all_goals
               go_wp2_with fail
               go_roundw
               case rel => exact ⟨k + 1, by omega, by omega, by go_num, by rw [HP.out, step1 _ _ HKK.out (by intro e; have := HPN.out; rw [e] at this; simp at this)]; exact HM.out⟩
               case measure => simp [intOf]; omega
        · -- All
          rw [hkk] at hrem
          have HKK := Lib.hid hkk
          clear hkk hklt
          have hq : (IntKind.u64.wrap s.n).tmod ((p.length : Int) + 1) = (p.length : Int) - (s.cut p.length : Nat) := by rw [cut_rem s p.length (by omega)]; have := cut_le s p.length; omega
          have hcl := cut_le s p.length
          generalize hcc : s.cut p.length = c at hq hcl
          have HCC := Lib.hid hcc
          clear hcc
          have HONE := Lib.hid (in1_one HI.out HLEN.out)
          have hcl' : (c : Int) ≤ (p.length : Int) := by omega
          go_wp2_with (first
          | (refine wpList_load_part rfl 62 (.tmp 22) rfl b (o + k * 5) rfl 5 s.row HCELL.out _ Tryd.underlying62 rfl sz62 ?_; intro cs hcs; obtain rfl := hcs.out)
          | (refine wpList_store_abs rfl 62 (.tmp 5) (.tmp 23) rfl wr.heap.size rfl (rowArr 5 s.row) rfl 62 5 s.row z62 (rowIs_lit wr [.int .i64 0, .string ⟨#[]⟩, .string ⟨#[]⟩, .int .i64 0, .int .i64 0] 62 5 z62 rfl) rfl sz62 (fun j hj => s.one j) ?_; intro w1 hrow1 hgr1 hsz1
             have hb1 : Below wr.heap.size wr w1 := ((Below.refl _ _).alloc (Nat.le_refl _) _).trans (below_of_grown hgr1 (Nat.le_refl _) (by simp))
             have c0 : w1.cell? ⟨wr.heap.size, 0, none⟩ = some (.int .i64 s.kind) := hrow1.cell (i := 0) (by omega)
             have c1 : w1.cell? ⟨wr.heap.size, 1, none⟩ = some (.string s.op) := hrow1.cell (i := 1) (by omega)
             have c2 : w1.cell? ⟨wr.heap.size, 2, none⟩ = some (.string s.path) := hrow1.cell (i := 2) (by omega)
             have c3 : w1.cell? ⟨wr.heap.size, 3, none⟩ = some (.int .i64 s.code) := hrow1.cell (i := 3) (by omega)
             have c4 : w1.cell? ⟨wr.heap.size, 4, none⟩ = some (.int .i64 s.n) := hrow1.cell (i := 4) (by omega)
             have hown1 := ownsRow_under HO.out hb1
             have hin1 : In1 (Ap w _) w1 _ us := HI.out.keep hb1.size (fun b hI hlt => ⟨hI, hb1.block b hlt⟩)
             have hb01 : Below w.heap.size w w1 := HB.out.trans (hb1.mono HB.out.size)
             have HB1 := Lib.hid hb1
             have HIN1 := Lib.hid hin1
             have HB01 := Lib.hid hb01
             clear hrow1 hgr1 hsz1 hb1 hin1 hb01)
          | (go_at_call 23; refine (errno_any _ _).mono ?_; rintro e2 w2 ⟨rfl, rfl⟩)
          | (refine wpList_slice_from rfl (.tmp 82) (.tmp 83) 25 rfl w.heap.size 32 1 Tryd.under25e sz32e _ _ _ rfl hown1 c (congrArg (Value.int .i64) (show (p.length : Int) - (p.length - (c : Int)) = c by omega)) hcl ?_; intro y hy
             have HY := Lib.hid hy
             clear hy)
          | (go_at_call 28; refine (all_src (Ap w _) (p.drop c) (us.drop (c * 1)) _ _ (by rw [List.length_drop]; omega) (by rw [List.length_drop]; exact HY.out) (by rw [Nat.mul_one]; exact HIN1.out.drop c)).mono ?_; rintro e2 w2 ⟨u, rfl, hu, hb2⟩
             have hown2 := ownsRow_under hown1 hb2
             have hin2 : In1 (Ap w _) w2 _ us := HIN1.out.keep hb2.size (fun b hI hlt => ⟨hI, hb2.block b hlt⟩)
             have hb02 : Below w.heap.size w w2 := HB01.out.trans (hb2.mono HB01.out.size)
             have HIN2 := Lib.hid (show In1 _ w2 (p.take c) (us.take (c * 1)) by rw [Nat.mul_one]; exact hin2.take c)
             have HB02 := Lib.hid hb02
             have HU := Lib.hid hu
             clear hb2 hin2 hb02
             rcases er_shape hu with rfl | ⟨t', u', rfl⟩ <;> clear hu)
          | (refine wpList_slice_to rfl (.tmp 87) (.tmp 88) 25 rfl w.heap.size 32 1 Tryd.under25e sz32e _ _ _ rfl (ownsRow_keep hown2 (fun j hj => Go.Deep.blk_alloc_lt _ _ _ (World.ownsRow.lt hown2 j hj).2)) c (congrArg (Value.int .i64) (show (p.length : Int) - (p.length - (c : Int)) = c by omega)) hcl ?_; intro y2 hy2
             have HY2 := Lib.hid hy2
             clear hy2)
          | (refine wpList_append_src rfl (.tmp 86) (.tmp 89) 25 rfl w2.heap.size 32 1 16 _ Tryd.underlying25 info32 rfl (by omega) (.slice (some ⟨w2.heap.size, 0, none⟩) 0 0) 0 [] rfl (own_empty (Nat.le_refl _) (Go.Deep.blk_alloc_new w2 _)) _ c (us.take (c * 1)) rfl HY2.out (fun x hx => HONE.out x (List.mem_of_mem_take hx)) (by unfold maxLen; omega) (by omega) (by simp) ?_; intro v3 w3 hown3 hgr3 hat3
             have hb3 : Below w2.heap.size w2 w3 := ((Below.refl _ _).alloc (Nat.le_refl _) _).grown hgr3 (by simp) (fun j hj => by simp [Value.ownBlock] at hj; omega)
             have HB3 := Lib.hid hb3
             have HO3 := Lib.hid hown3
             clear hown3 hgr3 hat3 hb3)
          | (refine wpList_append_src rfl (.tmp 90) (.tmp 92) 25 rfl w2.heap.size 32 1 16 _ Tryd.underlying25 info32 rfl (by omega) _ _ _ rfl (ownsRow_keep HO3.out (fun j hj => Go.Deep.blk_alloc_lt _ _ _ (World.ownsRow.lt HO3.out j hj).2)) _ 1 [_] rfl (Src.of_block (Go.Deep.blk_alloc_new w3 _) rfl) (by intro x hx; simp at hx; subst hx; exact HU.out.oneCell) (by unfold maxLen; omega) (by omega) (HB3.out.alloc HB3.out.size _).size ?_; intro v4 w4 hown4 hgr4 hat4
             have HM := Lib.hid (MadeR.anew HIN2.out HB02.out (show 0 + c + 1 = (p.take c).length + 1 by rw [List.length_take]; omega) (show (us.take (c * 1)).length = (p.take c).length by rw [List.length_take, List.length_take]; have := HLEN.out; omega) HU.out (fun b hb hlt => hb.1) (fun b hb hlt => hb.elim (fun h => h.1) (fun h => Nat.le_trans HB01.out.size h)) hown4 ((HB3.out.alloc HB3.out.size _).grown hgr4 (HB3.out.alloc HB3.out.size _).size (fun j hj => (World.ownsRow.lt HO3.out j hj).1)))
             clear hown4 hgr4 hat4)
          | fail)
          all_goals
           go_roundw
           case rel => exact ⟨k + 1, by omega, by omega, by go_num, by rw [HP.out, step2 _ _ HKK.out, HCC.out]; exact HM.out⟩
           case measure => simp [intOf]; omega
        · -- a bare number
          rw [hkk] at hrem
          have HKK := Lib.hid hkk
          clear hkk hklt
          by_cases he : errno s.code = 0
          · have HN : Hid (numEr (errno s.code) = .none) := Lib.hid (by rw [he]; rfl)
            go_wp2_with (first
          | (refine wpList_load_part rfl 62 (.tmp 22) rfl b (o + k * 5) rfl 5 s.row HCELL.out _ Tryd.underlying62 rfl sz62 ?_; intro cs hcs; obtain rfl := hcs.out)
          | (refine wpList_store_abs rfl 62 (.tmp 5) (.tmp 23) rfl wr.heap.size rfl (rowArr 5 s.row) rfl 62 5 s.row z62 (rowIs_lit wr [.int .i64 0, .string ⟨#[]⟩, .string ⟨#[]⟩, .int .i64 0, .int .i64 0] 62 5 z62 rfl) rfl sz62 (fun j hj => s.one j) ?_; intro w1 hrow1 hgr1 hsz1
             have hb1 : Below wr.heap.size wr w1 := ((Below.refl _ _).alloc (Nat.le_refl _) _).trans (below_of_grown hgr1 (Nat.le_refl _) (by simp))
             have c0 : w1.cell? ⟨wr.heap.size, 0, none⟩ = some (.int .i64 s.kind) := hrow1.cell (i := 0) (by omega)
             have c1 : w1.cell? ⟨wr.heap.size, 1, none⟩ = some (.string s.op) := hrow1.cell (i := 1) (by omega)
             have c2 : w1.cell? ⟨wr.heap.size, 2, none⟩ = some (.string s.path) := hrow1.cell (i := 2) (by omega)
             have c3 : w1.cell? ⟨wr.heap.size, 3, none⟩ = some (.int .i64 s.code) := hrow1.cell (i := 3) (by omega)
             have c4 : w1.cell? ⟨wr.heap.size, 4, none⟩ = some (.int .i64 s.n) := hrow1.cell (i := 4) (by omega)
             have hown1 := ownsRow_under HO.out hb1
             have hin1 : In1 (Ap w _) w1 _ us := HI.out.keep hb1.size (fun b hI hlt => ⟨hI, hb1.block b hlt⟩)
             have hb01 : Below w.heap.size w w1 := HB.out.trans (hb1.mono HB.out.size)
             have HB1 := Lib.hid hb1
             have HIN1 := Lib.hid hin1
             have HB01 := Lib.hid hb01
             clear hrow1 hgr1 hsz1 hb1 hin1 hb01)
          | (go_at_call 23; refine (errno_any _ _).mono ?_; rintro e2 w2 ⟨rfl, rfl⟩)
          | (refine wpList_append_src rfl (.tmp 98) (.tmp 99) 25 rfl w.heap.size 32 1 16 _ Tryd.underlying25 info32 rfl (by omega) _ _ _ rfl (ownsRow_keep hown1 (fun j hj => Go.Deep.blk_alloc_lt _ _ _ (World.ownsRow.lt hown1 j hj).2)) _ 1 [.nilIface] rfl (Src.of_block (Go.Deep.blk_alloc_new w1 _) rfl) (by simp [Value.oneCell']) (by unfold maxLen; omega) (by omega) (HB01.out.alloc HB01.out.size _).size ?_; intro v3 w3 hown3 hgr3 hat3
             have HM := Lib.hid (MadeR.push HIN1.out HB01.out hown1 (ErAt.none (I := fun _ => False)) (fun b hb hlt => hb.elim) hown3 hgr3 hat3)
             clear hown3 hgr3 hat3)
          | fail)
            go_roundw
            case rel => exact ⟨k + 1, by omega, by omega, by go_num, by rw [HP.out, step3 _ _ HKK.out, HN.out]; exact HM.out⟩
            case measure => simp [intOf]; omega
          · have HN : Hid (numEr (errno s.code) = .num (errno s.code)) := Lib.hid (by unfold numEr; rw [if_neg he])
            go_wp2_with (first
          | (refine wpList_load_part rfl 62 (.tmp 22) rfl b (o + k * 5) rfl 5 s.row HCELL.out _ Tryd.underlying62 rfl sz62 ?_; intro cs hcs; obtain rfl := hcs.out)
          | (refine wpList_store_abs rfl 62 (.tmp 5) (.tmp 23) rfl wr.heap.size rfl (rowArr 5 s.row) rfl 62 5 s.row z62 (rowIs_lit wr [.int .i64 0, .string ⟨#[]⟩, .string ⟨#[]⟩, .int .i64 0, .int .i64 0] 62 5 z62 rfl) rfl sz62 (fun j hj => s.one j) ?_; intro w1 hrow1 hgr1 hsz1
             have hb1 : Below wr.heap.size wr w1 := ((Below.refl _ _).alloc (Nat.le_refl _) _).trans (below_of_grown hgr1 (Nat.le_refl _) (by simp))
             have c0 : w1.cell? ⟨wr.heap.size, 0, none⟩ = some (.int .i64 s.kind) := hrow1.cell (i := 0) (by omega)
             have c1 : w1.cell? ⟨wr.heap.size, 1, none⟩ = some (.string s.op) := hrow1.cell (i := 1) (by omega)
             have c2 : w1.cell? ⟨wr.heap.size, 2, none⟩ = some (.string s.path) := hrow1.cell (i := 2) (by omega)
             have c3 : w1.cell? ⟨wr.heap.size, 3, none⟩ = some (.int .i64 s.code) := hrow1.cell (i := 3) (by omega)
             have c4 : w1.cell? ⟨wr.heap.size, 4, none⟩ = some (.int .i64 s.n) := hrow1.cell (i := 4) (by omega)
             have hown1 := ownsRow_under HO.out hb1
             have hin1 : In1 (Ap w _) w1 _ us := HI.out.keep hb1.size (fun b hI hlt => ⟨hI, hb1.block b hlt⟩)
             have hb01 : Below w.heap.size w w1 := HB.out.trans (hb1.mono HB.out.size)
             have HB1 := Lib.hid hb1
             have HIN1 := Lib.hid hin1
             have HB01 := Lib.hid hb01
             clear hrow1 hgr1 hsz1 hb1 hin1 hb01)
          | (go_at_call 23; refine (errno_any _ _).mono ?_; rintro e2 w2 ⟨rfl, rfl⟩)
          | (refine wpList_append_src rfl (.tmp 101) (.tmp 104) 25 rfl w.heap.size 32 1 16 _ Tryd.underlying25 info32 rfl (by omega) _ _ _ rfl (ownsRow_keep hown1 (fun j hj => Go.Deep.blk_alloc_lt _ _ _ (World.ownsRow.lt hown1 j hj).2)) _ 1 [.iface 35 (.int .i64 (errno s.code))] rfl (Src.of_block (Go.Deep.blk_alloc_new w1 _) rfl) (by simp [Value.oneCell']) (by unfold maxLen; omega) (by omega) (HB01.out.alloc HB01.out.size _).size ?_; intro v3 w3 hown3 hgr3 hat3
             have HM := Lib.hid (MadeR.push HIN1.out HB01.out hown1 (ErAt.num (I := fun _ => False) (errno s.code) (by omega) he1) (fun b hb hlt => hb.elim) hown3 hgr3 hat3)
             clear hown3 hgr3 hat3)
          | fail)
            go_roundw
            case rel => exact ⟨k + 1, by omega, by omega, by go_num, by rw [HP.out, step3 _ _ HKK.out, HN.out]; exact HM.out⟩
            case measure => simp [intOf]; omega
        · -- none
          rw [hkk] at hrem
          have HKK := Lib.hid hkk
          clear hkk hklt
          go_wp2_with (first
          | (refine wpList_load_part rfl 62 (.tmp 22) rfl b (o + k * 5) rfl 5 s.row HCELL.out _ Tryd.underlying62 rfl sz62 ?_; intro cs hcs; obtain rfl := hcs.out)
          | (refine wpList_store_abs rfl 62 (.tmp 5) (.tmp 23) rfl wr.heap.size rfl (rowArr 5 s.row) rfl 62 5 s.row z62 (rowIs_lit wr [.int .i64 0, .string ⟨#[]⟩, .string ⟨#[]⟩, .int .i64 0, .int .i64 0] 62 5 z62 rfl) rfl sz62 (fun j hj => s.one j) ?_; intro w1 hrow1 hgr1 hsz1
             have hb1 : Below wr.heap.size wr w1 := ((Below.refl _ _).alloc (Nat.le_refl _) _).trans (below_of_grown hgr1 (Nat.le_refl _) (by simp))
             have c0 : w1.cell? ⟨wr.heap.size, 0, none⟩ = some (.int .i64 s.kind) := hrow1.cell (i := 0) (by omega)
             have c1 : w1.cell? ⟨wr.heap.size, 1, none⟩ = some (.string s.op) := hrow1.cell (i := 1) (by omega)
             have c2 : w1.cell? ⟨wr.heap.size, 2, none⟩ = some (.string s.path) := hrow1.cell (i := 2) (by omega)
             have c3 : w1.cell? ⟨wr.heap.size, 3, none⟩ = some (.int .i64 s.code) := hrow1.cell (i := 3) (by omega)
             have c4 : w1.cell? ⟨wr.heap.size, 4, none⟩ = some (.int .i64 s.n) := hrow1.cell (i := 4) (by omega)
             have hown1 := ownsRow_under HO.out hb1
             have hin1 : In1 (Ap w _) w1 _ us := HI.out.keep hb1.size (fun b hI hlt => ⟨hI, hb1.block b hlt⟩)
             have hb01 : Below w.heap.size w w1 := HB.out.trans (hb1.mono HB.out.size)
             have HB1 := Lib.hid hb1
             have HIN1 := Lib.hid hin1
             have HB01 := Lib.hid hb01
             clear hrow1 hgr1 hsz1 hb1 hin1 hb01)
          | (go_at_call 23; refine (errno_any _ _).mono ?_; rintro e2 w2 ⟨rfl, rfl⟩)
          | (refine wpList_append_src rfl (.tmp 31) (.tmp 32) 25 rfl w.heap.size 32 1 16 _ Tryd.underlying25 info32 rfl (by omega) _ _ _ rfl (ownsRow_keep hown1 (fun j hj => Go.Deep.blk_alloc_lt _ _ _ (World.ownsRow.lt hown1 j hj).2)) _ 1 [.nilIface] rfl (Src.of_block (Go.Deep.blk_alloc_new w1 _) rfl) (by simp [Value.oneCell']) (by unfold maxLen; omega) (by omega) (HB01.out.alloc HB01.out.size _).size ?_; intro v3 w3 hown3 hgr3 hat3
             have HM := Lib.hid (MadeR.push HIN1.out HB01.out hown1 (ErAt.none (I := fun _ => False)) (fun b hb hlt => hb.elim) hown3 hgr3 hat3)
             clear hown3 hgr3 hat3)
          | fail)
          go_roundw
          case rel => exact ⟨k + 1, by omega, by omega, by go_num, by rw [HP.out, step4 _ _ HKK.out]; exact HM.out⟩
          case measure => simp [intOf]; omega
      · obtain rfl : k = 40 := by omega
        go_wp2_with fail
        go_ret
        exact ⟨_, rfl, hm⟩
    · obtain rfl : k = ss.length := by omega
      have HQ := Lib.hid (pile_40 ss ss.length (Nat.le_refl _) hk40 (.inl rfl))
      go_wp2_with fail
      go_ret
      exact ⟨_, rfl, by rw [← HQ.out]; exact hm⟩
end Go.Proofs.YtcodlhjedhaaaaaDoor
