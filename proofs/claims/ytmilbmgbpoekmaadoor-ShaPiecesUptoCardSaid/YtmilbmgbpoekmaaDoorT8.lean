import Derived.Test.YtmilbmgbpoekmaaDoorT7
import Derived.Test.YtmilbmgbpoekmaaDoorLib3
namespace Go.Proofs.YtmilbmgbpoekmaaDoor
open Go.RowKit
set_option maxRecDepth 100000

/-- The bytes so far, on the road of veneerref01.Sum: the slot holds them, nothing below has turned. -/
def MRel (w : World) (m : List Int) (v : Value) (wr : World) : Prop :=
  ∃ g cap, v = .slice (some ⟨g, 0, none⟩) m.length cap ∧ OwnB (w.heap.size + 1) wr (.slice (some ⟨g, 0, none⟩) m.length cap) m ∧ Below w.heap.size w wr ∧ wr.rowIs w.heap.size 25 32 (fun _ => .int .u8 0) ∧ w.heap.size < g ∧ g < wr.heap.size
/-- An append of one byte. -/
theorem mrel_push {w wr w' : World} {m l : List Int} {g cap : Nat} {v' : Value} {o : Obj} (hm : 0 < (m ++ l).length) (hb : Below w.heap.size w wr) (hr : wr.rowIs w.heap.size 25 32 (fun _ => .int .u8 0)) (hg : w.heap.size < g)
    (hown : OwnB (w.heap.size + 1) w' v' (m ++ l)) (hgr : (wr.alloc o).grownBy w' (Value.ownBlock (.slice (some ⟨g, 0, none⟩) m.length cap))) : MRel w (m ++ l) v' w' := by
  obtain ⟨g', cap', rfl, h1, h2, h3, h4, h5⟩ := hown.at hm
  have hgr' : (wr.alloc o).grownBy w' (some g) := hgr
  exact ⟨g', cap', rfl, hown, (hb.alloc hb.size _).trans (below_of_grown hgr' (by omega) (by have := hb.size; simp; omega)), rowIs_grown (hr.alloc _) hgr' (by omega), by omega, h2⟩

theorem zero48 (w : World) : (zeroValue 48).run Tryd.prog w = .ok (.agg (rowArr 64 fun _ => .int .u32 0)) w := by kernel_rfl
theorem zero25 (w : World) : (zeroValue 25).run Tryd.prog w = .ok (.agg (rowArr 32 fun _ => .int .u8 0)) w := by kernel_rfl
theorem zero47 (w : World) : (zeroValue 47).run Tryd.prog w = .ok (.agg (rowArr 8 fun _ => .int .u32 0)) w := by kernel_rfl

theorem pad_byte (l : List Int) (hl : ∀ j, 0 ≤ l.getD j 0 ∧ l.getD j 0 < 256) (j : Nat) : 0 ≤ (Sha.pad l).getD j 0 ∧ (Sha.pad l).getD j 0 < 256 := by
  have hmem : ∀ x ∈ Sha.pad l, 0 ≤ x ∧ x < 256 := by
    intro x hx
    simp only [Sha.pad, List.mem_append, List.mem_cons, List.mem_replicate] at hx
    rcases hx with hx | rfl | ⟨_, rfl⟩ | hx
    · obtain ⟨i, hi, rfl⟩ := List.getElem_of_mem hx
      have := hl i
      rwa [List.getD_eq_getElem?_getD, List.getElem?_eq_getElem hi] at this
    · exact ⟨by decide, by decide⟩
    · exact ⟨by decide, by decide⟩
    · obtain ⟨i, hi, rfl⟩ := List.getElem_of_mem hx
      have := sizeBytes_byte l.length i
      rwa [List.getD_eq_getElem?_getD, List.getElem?_eq_getElem hi] at this
  by_cases h : j < (Sha.pad l).length
  · rw [List.getD_eq_getElem?_getD, List.getElem?_eq_getElem h]
    exact hmem _ (List.getElem_mem h)
  · rw [List.getD_eq_getElem?_getD, List.getElem?_eq_none (by omega)]
    exact ⟨by decide, by decide⟩

set_option maxHeartbeats 4000000 in
/-- veneerref01.Sum(b). -/
theorem ref_len (a : Option Addr) (cap : Nat) (l : List Int) (w : World) (hB : BytesAt (fun b => b < w.heap.size) w a cap l) (hcap : l.length ≤ 140737488351232) :
    Calls Tryd.prog 11 #[.slice a l.length cap] w fun e w' => e = .returned (.agg (u8s (Sha.sum l)).toArray) ∧ Below w.heap.size w w' := by
  have hlc := hB.fits
  obtain ⟨L, hL⟩ : ∃ L, L = l.length := ⟨_, rfl⟩
  have HL := Lib.hid hL
  have hLc : L ≤ 140737488351232 := by omega
  rw [← hL]
  clear hL hlc
  go_enter Tryd.func11, Tryd.ntmps11
  go_wp2_with (first
    | (refine wpList_append_bytes rfl (.tmp 23) (.tmp 24) rfl (w.heap.size + 1) _ [] rfl ⟨rfl, .inr ⟨w.heap.size + 1, 0, #[], rfl, Nat.le_refl _, blk_new2 _ _ _, Nat.le_refl _, by unfold maxLen; omega, rfl, rfl⟩⟩ (fun b => b < w.heap.size) a L cap l rfl HL.out.symm (hB.keep (fun b hb => by rw [Go.Deep.blk_alloc_lt _ _ _ (by simp; omega), Go.Deep.blk_alloc_lt _ _ _ hb])) (by have := HL.out; simp; omega) (by simp) ?_; intro v1 w1 hown1 hgr1; have hB1 : Below (w.heap.size + 1) (w.alloc (Obj.cells #[.int .u8 0, .int .u8 0, .int .u8 0, .int .u8 0, .int .u8 0, .int .u8 0, .int .u8 0, .int .u8 0, .int .u8 0, .int .u8 0, .int .u8 0, .int .u8 0, .int .u8 0, .int .u8 0, .int .u8 0, .int .u8 0, .int .u8 0, .int .u8 0, .int .u8 0, .int .u8 0, .int .u8 0, .int .u8 0, .int .u8 0, .int .u8 0, .int .u8 0, .int .u8 0, .int .u8 0, .int .u8 0, .int .u8 0, .int .u8 0, .int .u8 0, .int .u8 0] 25)) w1 := ((Below.refl _ _).alloc (by simp) _).trans (below_of_grown (g := w.heap.size + 1) hgr1 (Nat.le_refl _) (by simp)))
    | (refine wpList_append_bytes rfl (.tmp 26) (.tmp 27) rfl (w.heap.size + 1) _ _ rfl (hown1.alloc _) (fun _ => True) _ 1 1 [128] rfl rfl (bytesAt_new w1 _ [128] trivial byte128) (by have := HL.out; simp; omega) (by have := hB1.size; simp at this ⊢; omega) ?_; intro v2 w2 hown2 hgr2)
    | fail)
  have hl1 := hown1.1
  have hB2 : Below (w.heap.size + 1) w1 w2 := ((Below.refl _ _).alloc (by have := hB1.size; simp at this; omega) _).grown hgr2 (by have := hB1.size; simp at this ⊢; omega) (fun k hk => (World.ownsRow.lt hown1 k hk).1)
  have hR2 : w2.rowIs w.heap.size 25 32 (fun _ => .int .u8 0) := rowIs_below (rowIs_below (rowIs_lit w _ 25 32 _ rfl) hB1 (by omega)) hB2 (by omega)
  have hBw2 : Below w.heap.size w w2 := (((Below.refl _ _).alloc (Nat.le_refl _) _).trans (hB1.mono (by omega))).trans (hB2.mono (by omega))
  have hM2 : MRel w (l ++ [128]) v2 w2 := by
    obtain ⟨g', cap', rfl, h1, h2, h3, h4, h5⟩ := OwnB.at (m := [] ++ l ++ [128]) hown2 (by simp)
    exact ⟨g', cap', rfl, hown2, hBw2, hR2, by omega, h2⟩
  clear hown1 hown2 hgr1 hgr2 hB1 hB2 hR2 hBw2 hl1
  generalize w1.heap.size = X1 at *
  go_loopg [3] (Sha.zcount L) (fun k v wr => ∃ i, i + k = Sha.zcount L ∧ MRel w (l ++ [128] ++ List.replicate i 0) v wr)
  case atStart => exact ⟨0, by omega, by simpa using hM2⟩
  case round =>
    clear hM2
    obtain ⟨i, hik, g, gcap, rfl, hown, hBel, hRr, hg1, hg2⟩ := hrel
    obtain ⟨m, hm⟩ : ∃ m, m = l ++ [128] ++ List.replicate i 0 := ⟨_, rfl⟩
    rw [← hm] at hown
    have hml : m.length = L + 1 + i := by rw [hm, HL.out]; simp only [List.length_append, List.length_cons, List.length_nil, List.length_replicate]
    obtain ⟨M, hM⟩ : ∃ M, M = m.length := ⟨_, rfl⟩
    rw [← hm, ← hM]
    rw [← hM] at hown
    have hMM : M = L + 1 + i := by omega
    have HM := Lib.hid (And.intro hM hm)
    have HMM := Lib.hid hMM
    have HIK := Lib.hid hik
    have hz1 := Sha.zcount_lt L
    have hz2 := Lib.hid (Sha.zcount_at L)
    have hz3 := Lib.hid (Sha.zcount_min L i)
    have hMb : M ≤ 140737488351232 + 65 := by omega
    by_cases hlt : i < Sha.zcount L
    · have hd : ((M : Int) % 64 != 56) = true := by
        have := hz3.out hlt
        rw [bne_iff_ne]
        omega
      clear hm hml hM hMM hik
      go_wp2_with (first
        | (refine wpList_append_bytes rfl (.tmp 33) (.tmp 34) rfl (w.heap.size + 1) _ m rfl (hown.alloc _) (fun _ => True) _ 1 1 [0] rfl rfl (bytesAt_new wr _ [0] trivial byte0) (by have := HM.out.1; have := HMM.out; simp; omega) (by have := hBel.size; simp; omega) ?_; intro v3 w3 hown3 hgr3)
        | fail)
      have hP : MRel w (l ++ [128] ++ List.replicate (i + 1) 0) v3 w3 := by
        have e1 : l ++ [128] ++ List.replicate (i + 1) 0 = m ++ [0] := by rw [HM.out.2, List.replicate_succ', List.append_assoc, List.append_assoc, List.append_assoc]
        rw [e1]
        exact mrel_push (by simp) hBel hRr hg1 hown3 (by have h := HM.out.1; rw [h] at hgr3; exact hgr3)
      clear hown3 hgr3
      go_roundg (gk - 1)
      case measure => have := HIK.out; omega
      case rel => exact ⟨i + 1, by have := HIK.out; omega, hP⟩
    · have hi : i = Sha.zcount L := by omega
      have hd : ((M : Int) % 64 != 56) = false := by
        have e2 := hz2.out
        rw [← hi] at e2
        have : (M : Int) % 64 = 56 := by omega
        rw [this]; rfl
      have HI := Lib.hid hi
      have hMRel : MRel w (m ++ (Sha.sizeBytes L).take 0) (.slice (some ⟨g, 0, none⟩) M gcap) wr := by
        have h := HM.out.1
        rw [h] at hown
        rw [List.take_zero, List.append_nil]
        exact ⟨g, gcap, by rw [h], hown, hBel, hRr, hg1, hg2⟩
      clear hi hik hm hml hM hMM hown hBel hRr hg1 hg2
      go_wp2_with fail
      go_loopw [3, 5] (fun v x wr => ∃ q : Nat, q ≤ 8 ∧ x = .int .i64 q ∧ MRel w (m ++ (Sha.sizeBytes L).take q) v wr) (fun _ x _ => 8 - (intOf x).toNat)
      case atStart => exact ⟨0, by omega, rfl, hMRel⟩
      case round =>
        clear hMRel
        obtain ⟨q, hq, rfl, hMRel⟩ := hrel
        by_cases hlt2 : q < 8
        · obtain ⟨g, gcap, rfl, hown, hBel, hRr, hg1, hg2⟩ := hMRel
          obtain ⟨m', hm'⟩ : ∃ m', m' = m ++ (Sha.sizeBytes L).take q := ⟨_, rfl⟩
          obtain ⟨M', hM'⟩ : ∃ M', M' = m'.length := ⟨_, rfl⟩
          rw [← hm', ← hM'] at hown
          rw [← hm', ← hM']
          have HM' := Lib.hid (And.intro hm' hM')
          have hMb' : M' ≤ 140737488351232 + 80 := by
            rw [hM', hm', List.length_append, List.length_take, Sha.length_sizeBytes]
            have := HM.out.1
            omega
          clear hm' hM'
          have hbyte : ∀ j, 0 ≤ ([(L : Int) * 8 / 2 ^ (56 - 8 * q) % 256] : List Int).getD j 0 ∧ ([(L : Int) * 8 / 2 ^ (56 - 8 * q) % 256] : List Int).getD j 0 < 256 := fun j => by
            cases j with
            | zero => simp only [List.getD_cons_zero]; omega
            | succ j => simp
          have HBY := Lib.hid hbyte
          clear hbyte
          go_wp2_with (first
            | (refine wpList_append_bytes rfl (.tmp 44) (.tmp 52) rfl (w.heap.size + 1) _ m' rfl (hown.alloc _) (fun _ => True) _ 1 1 [(L : Int) * 8 / 2 ^ (56 - 8 * q) % 256] rfl rfl (bytesAt_new wr _ [(L : Int) * 8 / 2 ^ (56 - 8 * q) % 256] trivial HBY.out) (by have := HM'.out.2; simp; omega) (by have := hBel.size; simp; omega) ?_; intro v3 w3 hown3 hgr3)
            | fail)
          have hP : MRel w (m ++ (Sha.sizeBytes L).take (q + 1)) v3 w3 := by
            have e1 : m ++ (Sha.sizeBytes L).take (q + 1) = m' ++ [(L : Int) * 8 / 2 ^ (56 - 8 * q) % 256] := by
              rw [HM'.out.1, List.append_assoc]
              congr 1
              rw [List.take_succ_eq_append_getElem (by rw [Sha.length_sizeBytes]; exact hlt2)]
              have := sizeBytes_get L q hlt2
              rw [← this]
              congr 1
              rw [List.getD_eq_getElem?_getD, List.getElem?_eq_getElem (by rw [Sha.length_sizeBytes]; exact hlt2)]
              rfl
            rw [e1]
            exact mrel_push (by simp) hBel hRr hg1 hown3 (by have h := HM'.out.2; rw [h] at hgr3; exact hgr3)
          clear hown3 hgr3
          go_roundw
          case rel => exact ⟨q + 1, by omega, by go_num, hP⟩
          case measure => simp [intOf]; omega
        · obtain ⟨g, gcap, rfl, hown, hBel, hRr, hg1, hg2⟩ := hMRel
          obtain ⟨P, hP⟩ : ∃ P, P = Sha.pad l := ⟨_, rfl⟩
          have e1 : m ++ (Sha.sizeBytes L).take q = P := by
            rw [hP, HM.out.2, HL.out, HI.out, HL.out, show q = 8 by omega, List.take_of_length_le (by rw [Sha.length_sizeBytes]; omega)]
            simp [Sha.pad]
          rw [e1] at hown ⊢
          obtain ⟨PL, hPL⟩ : ∃ PL, PL = P.length := ⟨_, rfl⟩
          rw [← hPL] at hown ⊢
          have HP := Lib.hid (And.intro hP hPL)
          have hPb : PL ≤ 140737488351232 + 80 := by
            rw [hPL, hP, Sha.length_pad, ← HL.out]; omega
          have hP64 : PL % 64 = 0 ∧ 0 < PL := by
            rw [hPL, hP, Sha.length_pad, ← HL.out]
            have := hz2.out
            omega
          have hcells : ∀ j, j < PL → wr.cell? ⟨g, j, none⟩ = some (.int .u8 (P.getD j 0)) := by
            obtain ⟨g', cap', e, _, _, _, _, h5⟩ := OwnB.at (m := P) hown (by omega)
            cases e
            rw [hPL]; exact h5
          have HCE := Lib.hid hcells
          have padb : Hid (∀ j, 0 ≤ P.getD j 0 ∧ P.getD j 0 < 256) := by
            intro j
            rw [hP]
            exact pad_byte l hB.byte j
          have HP64 := Lib.hid hP64
          clear e1 hown hP hPL hcells hP64
          go_wp2_with (first
            | (refine wpList_alloc_abs rfl 47 rfl _ (zero47 _) 8 (fun _ => .int .u32 0) rfl ?_; intro wa H hH hHa hBa hHl)
            | (refine wpList_store_abs rfl 47 (.tmp 6) (.tmp 54) rfl H rfl _ rfl 47 8 (fun j => .int .u32 ((Sha.absorb Sha.init P 0).get j)) _ hHa rfl Tryd.sz47 (fun j _ => rfl) ?_; intro wb hHb hGb hSb; clear hSb)
            | (refine wpList_alloc_abs rfl 48 rfl _ (zero48 _) 64 (fun _ => .int .u32 0) rfl ?_; intro wc W0 hW0 hWc hBc hWl)
            | fail)
          have hHW : H < W0 := by have := hHb.lt; have := hW0.out; omega
          have hH3 := rowIs_below hHb hBc hHW
          have hB3 : Below H wr wc := ((hBa.mono (Nat.le_refl _)).trans (below_of_grown hGb (Nat.le_refl _) (by omega))).trans (hBc.mono (by omega))
          have hgH : g < H := by have := hH.out; omega
          have hNH : w.heap.size < H := by have := hH.out; have := hBel.size; omega
          obtain ⟨wp, rfl⟩ : ∃ wp : World, wp = wr := ⟨_, rfl⟩
          clear hH hHa hBa hHl hHb hGb hBc hW0 hWl
          go_loopw [8] (fun x wr => ∃ A n : Nat, Hid (A = 64 * n) ∧ A ≤ PL ∧ x = .int .i64 A ∧ wr.rowIs H 47 8 (fun j => .int .u32 ((Sha.absorb Sha.init P n).get j)) ∧ (∃ gf : Nat → Int, wr.rowIs W0 48 64 (fun j => .int .u32 (gf j))) ∧ Below H wp wr) (fun x _ => PL - (intOf x).toNat)
          case atStart => exact ⟨0, 0, rfl, by omega, rfl, hH3, ⟨fun _ => 0, hWc⟩, hB3⟩
          case round =>
            clear hH3 hWc hB3
            obtain ⟨A, n, hA, hAP, rfl, hHr, ⟨gf, hWr⟩, hbel⟩ := hrel
            by_cases hlt3 : A < PL
            · have hA64 : A + 64 ≤ PL := by have := hA.out; have := HP64.out; omega
              go_wp2_with fail
              obtain ⟨wo, rfl⟩ : ∃ wo : World, wo = wr := ⟨_, rfl⟩
              have hWlt := hWr.lt
              go_loopw [9] (fun x wr => ∃ t : Nat, t ≤ 64 ∧ x = .int .i64 t ∧ (∃ gf : Nat → Int, wr.rowIs W0 48 64 (fun j => .int .u32 (if j < t then Sha.W (Sha.blk P A) j else gf j))) ∧ Below W0 wo wr) (fun x _ => 64 - (intOf x).toNat)
              case atStart => exact ⟨0, by omega, rfl, ⟨gf, hWr.congr (fun j _ => by rw [if_neg (by omega)])⟩, Below.refl _ _⟩
              case round =>
                clear hWr gf
                obtain ⟨t, ht, rfl, ⟨gf, hWr⟩, hbel2⟩ := hrel
                by_cases hlt4 : t < 64
                · by_cases hlt5 : t < 16
                  · have f0 := hWr.cell (i := t) hlt4
                    simp only [Nat.lt_irrefl, if_false] at f0
                    have f1 := hWr.frozen t
                    go_wp2_with fail
                    have hW5 : (wr.setCell ⟨W0, t, none⟩ (.int .u32 0)).rowIs W0 48 64 (fun j => .int .u32 (if j = t then Sha.pw (Sha.blk P A) t 0 else if j < t then Sha.W (Sha.blk P A) j else gf j)) := (hWr.set t _).congr (fun j _ => by by_cases e : j = t <;> simp [e, Sha.pw])
                    have hB5 : Below W0 wo (wr.setCell ⟨W0, t, none⟩ (.int .u32 0)) := hbel2.setCell (Nat.le_refl _) _
                    generalize wr.setCell ⟨W0, t, none⟩ (.int .u32 0) = w5 at *
                    go_loopw [10] (fun x wr => ∃ k : Nat, k ≤ 4 ∧ x = .int .i64 k ∧ wr.rowIs W0 48 64 (fun j => .int .u32 (if j = t then Sha.pw (Sha.blk P A) t k else if j < t then Sha.W (Sha.blk P A) j else gf j)) ∧ Below W0 wo wr) (fun x _ => 4 - (intOf x).toNat)
                    case atStart => exact ⟨0, by omega, rfl, hW5, hB5⟩
                    case round =>
                      clear hW5 hB5 f0 f1 hWr hbel2
                      obtain ⟨k, hk, rfl, hWr, hbel2⟩ := hrel
                      by_cases hlt6 : k < 4
                      · have f0 := hWr.cell (i := t) hlt4
                        simp only [if_true] at f0
                        have f1 := hWr.frozen t
                        have c0 : wr.cell? ⟨g, A + 4 * t + k, none⟩ = some (.int .u8 (P.getD (A + 4 * t + k) 0)) := by
                          rw [hbel2.cell (p := ⟨g, A + 4 * t + k, none⟩) (by show g < _; omega), hbel.cell (p := ⟨g, A + 4 * t + k, none⟩) (by exact hgH)]
                          exact HCE.out _ (by omega)
                        obtain ⟨bl, bh⟩ := padb.out (A + 4 * t + k)
                        obtain ⟨y, hy⟩ : ∃ y, y = P.getD (A + 4 * t + k) 0 := ⟨_, rfl⟩
                        rw [← hy] at c0 bl bh
                        have HY := Lib.hid hy
                        clear hy
                        go_wp2_with fail
                        go_region
                        go_wp2_with fail
                        go_roundw
                        case rel =>
                          refine ⟨k + 1, by omega, by go_num, ((hWr.set t _).drew).congr (fun j _ => ?_), (hbel2.setCell (Nat.le_refl _) _).drew⟩
                          by_cases e : j = t
                          · rw [if_pos e, if_pos e, Sha.pw, HY.out]
                            simp only [Sha.blk, Nat.add_assoc]
                          · rw [if_neg e, if_neg e, if_neg e]
                        case measure => simp [intOf]; omega
                      · have hW6 : wr.rowIs W0 48 64 (fun j => .int .u32 (if j < t + 1 then Sha.W (Sha.blk P A) j else gf j)) := hWr.congr (fun j _ => by
                          by_cases e : j = t
                          · rw [if_pos e, if_pos (by omega), e, show k = 4 by omega, Sha.pw_word (Sha.blk P A) (fun i => padb.out (A + i)) t, Sha.W_lo _ _ hlt5]
                          · rw [if_neg e]
                            by_cases e2 : j < t
                            · rw [if_pos e2, if_pos (by omega)]
                            · rw [if_neg e2, if_neg (by omega)])
                        clear hWr
                        go_wp2_with fail
                        go_roundw
                        case rel => exact ⟨t + 1, by omega, by go_num, ⟨gf, hW6⟩, hbel2⟩
                        case measure => simp [intOf]; omega
                  · have c2 := hWr.cell (i := t - 2) (by omega)
                    have c7 := hWr.cell (i := t - 7) (by omega)
                    have c15 := hWr.cell (i := t - 15) (by omega)
                    have c16 := hWr.cell (i := t - 16) (by omega)
                    simp only [show t - 2 < t by omega, show t - 7 < t by omega, show t - 15 < t by omega, show t - 16 < t by omega, if_true] at c2 c7 c15 c16
                    have f0 := hWr.cell (i := t) hlt4
                    simp only [Nat.lt_irrefl, if_false] at f0
                    have f1 := hWr.frozen t
                    go_wp2_with fail
                    refine wp_region_quiet_tail 29 (by kernel_rfl) (by kernel_rfl) ?_
                    simp only [List.take_succ_cons, List.take_zero, List.drop_succ_cons, List.drop_zero]
                    repeat (first | go_big_quiet_skip | (go_big_quiet_want; go_big_quiet_op; first | go_big_quiet_on | (apply Exists.intro; refine ⟨?_, ?_⟩; exact (turn_k _ _ _ (by decide)).mono fun _ _ ⟨a, b⟩ => ⟨a, b.symm⟩; go_big_quiet_on)))
                    refine wpQuiet_nil ?_
                    go_wp2_with fail
                    go_roundw
                    case rel =>
                      refine ⟨t + 1, by omega, by go_num, ⟨gf, ((hWr.set t _).drew).congr (fun j hj => ?_)⟩, (hbel2.setCell (Nat.le_refl _) _).drew⟩
                      by_cases e : j = t
                      · rw [if_pos e, if_pos (by omega), e, Sha.W_hi _ t (by omega) hlt4]
                        rfl
                      · rw [if_neg e]
                        by_cases e2 : j < t
                        · rw [if_pos e2, if_pos (by omega)]
                        · rw [if_neg e2, if_neg (by omega)]
                    case measure => simp [intOf]; omega
                · have hWf : wr.rowIs W0 48 64 (fun j => .int .u32 (Sha.W (Sha.blk P A) j)) := hWr.congr (fun j _ => by rw [if_pos (by omega)])
                  have hH2 := rowIs_below hHr hbel2 hHW
                  clear hWr hHr
                  obtain ⟨s, hs⟩ : ∃ s, s = Sha.absorb Sha.init P n := ⟨_, rfl⟩
                  rw [← hs] at hH2
                  have HS := Lib.hid hs
                  clear hs
                  obtain ⟨w6, rfl⟩ : ∃ w6 : World, w6 = wr := ⟨_, rfl⟩
                  go_wp2_with (first
                    | (refine wpList_load_abs rfl 47 (.tmp 6) rfl H rfl 47 8 _ hH2 _ Tryd.underlying47 rfl Tryd.sz47 ?_; intro cs hcs)
                    | (refine wpList_alloc_abs rfl 47 rfl _ (zero47 _) 8 (fun _ => .int .u32 0) rfl ?_; intro wd S0 hS0 hSd hBd hSl)
                    | (refine wpList_store_abs rfl 47 (.tmp 13) (.tmp 127) rfl S0 rfl cs rfl 47 8 _ _ hSd hcs.out Tryd.sz47 (fun j _ => rfl) ?_; intro wf hSf hGf hSz; clear hSz)
                    | fail)
                  have hWS : W0 < S0 := by have := hWf.lt; have := hS0.out; omega
                  have hBf : Below S0 w6 wf := (hBd.mono (Nat.le_refl _)).trans (below_of_grown hGf (Nat.le_refl _) (by omega))
                  have hWf2 := rowIs_below hWf hBf hWS
                  have hH3 := rowIs_below hH2 hBf (by omega)
                  have hbel6 : Below H wp wf := (hbel.trans (hbel2.mono (by omega))).trans (hBf.mono (by omega))
                  clear hSd hBd hSl hGf hS0 hWf hH2 hBf hbel2 hbel
                  go_loopw [14] (fun x wr => ∃ t : Nat, t ≤ 64 ∧ x = .int .i64 t ∧ wr.rowIs S0 47 8 (fun j => .int .u32 ((Sha.rounds (Sha.blk P A) s t).get j)) ∧ Below S0 wf wr) (fun x _ => 64 - (intOf x).toNat)
                  case atStart => exact ⟨0, by omega, rfl, hSf, Below.refl _ _⟩
                  case round =>
                    clear hSf
                    obtain ⟨t, ht, rfl, hS, hbel7⟩ := hrel
                    by_cases hlt7 : t < 64
                    · have cW : wr.cell? ⟨W0, t, none⟩ = some (.int .u32 (Sha.W (Sha.blk P A) t)) := by
                        rw [hbel7.cell (p := ⟨W0, t, none⟩) hWS]; exact hWf2.cell hlt7
                      obtain ⟨Wt, hWt⟩ : ∃ Wt, Wt = Sha.W (Sha.blk P A) t := ⟨_, rfl⟩
                      obtain ⟨R, hR⟩ : ∃ R, R = Sha.rounds (Sha.blk P A) s t := ⟨_, rfl⟩
                      rw [← hWt] at cW
                      rw [← hR] at hS
                      have HWt := Lib.hid hWt
                      have HR := Lib.hid hR
                      clear hWt hR
                      have s0 := hS.cell (i := 0) (by omega)
                      have s4 := hS.cell (i := 4) (by omega)
                      simp only [Sha.St.get] at s0 s4
                      have hSl := hS.lt
                      have hWl : W0 < wr.heap.size := by omega
                      have x5 : ∀ e : Ext wr.heap.size wr, e.x.cell? ⟨S0, 5, none⟩ = some (.int .u32 R.f) := fun e => (e.h.cell (p := ⟨S0, 5, none⟩) hSl).trans (hS.cell (by omega))
                      have x6 : ∀ e : Ext wr.heap.size wr, e.x.cell? ⟨S0, 6, none⟩ = some (.int .u32 R.g) := fun e => (e.h.cell (p := ⟨S0, 6, none⟩) hSl).trans (hS.cell (by omega))
                      have x7 : ∀ e : Ext wr.heap.size wr, e.x.cell? ⟨S0, 7, none⟩ = some (.int .u32 R.h) := fun e => (e.h.cell (p := ⟨S0, 7, none⟩) hSl).trans (hS.cell (by omega))
                      have xW : ∀ e : Ext wr.heap.size wr, e.x.cell? ⟨W0, t, none⟩ = some (.int .u32 Wt) := fun e => (e.h.cell (p := ⟨W0, t, none⟩) hWl).trans cW
                      go_wp2_with fail
                      refine wp_region_below wr.heap.size (by kernel_rfl) (by kernel_rfl) ?_
                      repeat (first | go_big_quiet_skip | (go_big_quiet_want; go_big_quiet_op; first | go_big_quiet_on | (apply Exists.intro; refine ⟨fun e => ?_, ?_⟩; (first | (go_at_call 23; exact below_call_same e (turn_k _ _ _ (by decide))) | (go_at_call 24; exact below_call (Nat.le_refl _) e (constant_any t _ _ rfl hlt7))); go_big_quiet_on)))
                      refine wpQuiet_nil ?_
                      intro w33 hb33
                      have hS33 := rowIs_below hS hb33 hSl
                      have hB33 : Below S0 wf w33 := hbel7.trans (hb33.mono (Nat.le_of_lt hSl))
                      have s1 := hS33.cell (i := 1) (by omega)
                      have s2 := hS33.cell (i := 2) (by omega)
                      simp only [Sha.St.get] at s1 s2
                      clear x5 x6 x7 xW s0 s4 hS hbel7 cW hb33 hSl hWl
                      go_wp2_with fail
                      go_quiet ((go_at_call 23; exact quiet_l (turn_k _ _ _ (by decide))))
                      go_wp2_with fail
                      have hS34 := rowIs_drewN hS33 nq
                      have hB34 := below_drewN hB33 nq
                      generalize w33.drewN nq = w34 at *
                      clear hS33 hB33 s1 s2
                      go_loopw [19] (fun x wr => ∃ k : Nat, k ≤ 7 ∧ x = .int .i64 k ∧ wr.rowIs S0 47 8 (fun j => .int .u32 (R.get (if k < j then j - 1 else j))) ∧ Below S0 wf wr) (fun x _ => (intOf x).toNat)
                      case atStart => exact ⟨7, by omega, rfl, hS34.congr (fun j _ => by rw [if_neg (by omega)]), hB34⟩
                      case round =>
                        clear hS34 hB34
                        obtain ⟨k, hk, rfl, hS, hB⟩ := hrel
                        by_cases hlt8 : 0 < k
                        · have c1 := hS.cell (i := k - 1) (by omega)
                          have c2 := hS.cell (i := k) (by omega)
                          simp only [show ¬ (k < k - 1) by omega, Nat.lt_irrefl, if_false] at c1 c2
                          have f1 := hS.frozen k
                          go_wp2_with fail
                          go_roundw
                          case rel =>
                            refine ⟨k - 1, by omega, by go_num, (hS.set k _).congr (fun j hj => ?_), hB.setCell (Nat.le_refl _) _⟩
                            by_cases e : j = k
                            · rw [if_pos e, e, if_pos (by omega)]
                            · rw [if_neg e]
                              by_cases e2 : k < j
                              · rw [if_pos e2, if_pos (by omega)]
                              · rw [if_neg e2, if_neg (by omega)]
                          case measure => simp [intOf]; omega
                        · have hS0' : wr.rowIs S0 47 8 (fun j => .int .u32 (R.get (j - 1))) := hS.congr (fun j _ => by
                            by_cases e : k < j
                            · rw [if_pos e]
                            · rw [if_neg e, show j - 1 = j by omega])
                          clear hS
                          have c4 := hS0'.cell (i := 4) (by omega)
                          have c0 := hS0'.cell (i := 0) (by omega)
                          simp only [Nat.reduceSub, Sha.St.get] at c4 c0
                          have f4 := hS0'.frozen 4
                          have f0 := hS0'.frozen 0
                          go_wp2_with fail
                          go_roundw
                          case rel =>
                            refine ⟨t + 1, by omega, by go_num, ((hS0'.set 4 _).set 0 _).congr (fun j hj => ?_), (hB.setCell (p := ⟨S0, 4, none⟩) (Nat.le_refl _) _).setCell (p := ⟨S0, 0, none⟩) (Nat.le_refl _) _⟩
                            rw [Sha.rounds, ← HR.out, ← HWt.out]
                            match j, hj with
                            | 0, _ => rfl
                            | 1, _ => rfl
                            | 2, _ => rfl
                            | 3, _ => rfl
                            | 4, _ => rfl
                            | 5, _ => rfl
                            | 6, _ => rfl
                            | 7, _ => rfl
                          case measure => simp [intOf]; omega
                    · have hS64 : wr.rowIs S0 47 8 (fun j => .int .u32 ((Sha.rounds (Sha.blk P A) s 64).get j)) := by
                        have e : t = 64 := by omega
                        rw [e] at hS
                        exact hS
                      have hH8 := rowIs_below hH3 hbel7 (by omega)
                      have hW8 := rowIs_below hWf2 hbel7 hWS
                      have hB8 : Below H wp wr := hbel6.trans (hbel7.mono (by omega))
                      clear hS hH3 hWf2 hbel6 hbel7
                      obtain ⟨w7, rfl⟩ : ∃ w7 : World, w7 = wr := ⟨_, rfl⟩
                      go_wp2_with fail
                      go_loopw [20] (fun x wr => ∃ j : Nat, j ≤ 8 ∧ x = .int .i64 j ∧ wr.rowIs H 47 8 (fun i => .int .u32 (if i < j then (Sha.compress s (Sha.blk P A)).get i else s.get i)) ∧ wr.rowIs S0 47 8 (fun j => .int .u32 ((Sha.rounds (Sha.blk P A) s 64).get j)) ∧ wr.rowIs W0 48 64 (fun j => .int .u32 (Sha.W (Sha.blk P A) j)) ∧ Below H wp wr) (fun x _ => 8 - (intOf x).toNat)
                      case atStart => exact ⟨0, by omega, rfl, hH8.congr (fun j _ => by rw [if_neg (by omega)]), hS64, hW8, hB8⟩
                      case round =>
                        clear hS64 hH8 hW8 hB8
                        obtain ⟨j, hj, rfl, hH, hS, hW, hB⟩ := hrel
                        by_cases hlt9 : j < 8
                        · have cH := hH.cell (i := j) hlt9
                          simp only [Nat.lt_irrefl, if_false] at cH
                          have cS := hS.cell (i := j) hlt9
                          have fH := hH.frozen j
                          have hne1 : S0 ≠ H := by omega
                          have hne2 : W0 ≠ H := by omega
                          go_wp2_with fail
                          go_region
                          go_wp2_with fail
                          go_roundw
                          case rel =>
                            refine ⟨j + 1, by omega, by go_num, ((hH.set j _).drew).congr (fun i hi => ?_), (hS.setOther (a := ⟨H, j, none⟩) hne1 _).drew, (hW.setOther (a := ⟨H, j, none⟩) hne2 _).drew, (hB.setCell (Nat.le_refl _) _).drew⟩
                            by_cases e : i = j
                            · rw [if_pos e, if_pos (by omega), e, Sha.compress, Sha.St.get_plus]
                              rfl
                            · rw [if_neg e]
                              by_cases e2 : i < j
                              · rw [if_pos e2, if_pos (by omega)]
                              · rw [if_neg e2, if_neg (by omega)]
                          case measure => simp [intOf]; omega
                        · have hHf : wr.rowIs H 47 8 (fun j => .int .u32 ((Sha.absorb Sha.init P (n + 1)).get j)) := hH.congr (fun i hi => by
                            rw [if_pos (by omega), Sha.absorb, ← HS.out, ← hA.out])
                          clear hH hS
                          go_wp2_with fail
                          go_roundw
                          case rel => exact ⟨A + 64, n + 1, by show _ = _; have := hA.out; omega, hA64, by go_num, hHf, ⟨_, hW⟩, hB⟩
                          case measure => simp [intOf]; omega
            · have hn : n = P.length / 64 := by have := hA.out; have := HP.out.2; omega
              have hHF : wr.rowIs H 47 8 (fun j => .int .u32 ((Sha.finSt Sha.init P).get j)) := by
                rw [Sha.finSt, ← hn]; exact hHr
              obtain ⟨F, hF⟩ : ∃ F, F = Sha.finSt Sha.init P := ⟨_, rfl⟩
              rw [← hF] at hHF
              have HF := Lib.hid hF
              have hBw : Below w.heap.size w wr := hBel.trans (hbel.mono (Nat.le_of_lt hNH))
              have hRw := rowIs_below hRr hbel hNH
              clear hF hn hHr hWr hbel gf
              go_wp2_with (first
                | (refine wpList_alloc_abs rfl 25 rfl _ (zero25 _) 32 (fun _ => .int .u8 0) rfl ?_; intro wd D hD hDd hBd hDl)
                | fail)
              have hDH : H < D := by have := hHF.lt; have := hD.out; omega
              have hHF2 := rowIs_below hHF hBd hDH
              have hRw2 := rowIs_below hRw hBd (by omega)
              have hBw2 : Below w.heap.size w wd := hBw.trans (hBd.mono (by omega))
              clear hHF hRw hBw hBd hDl hD
              go_loopw [22] (fun x wr => ∃ i : Nat, i ≤ 32 ∧ x = .int .i64 i ∧ wr.rowIs D 25 32 (fun j => .int .u8 (if j < i then Sha.digByte F j else 0)) ∧ wr.rowIs H 47 8 (fun j => .int .u32 (F.get j)) ∧ wr.rowIs w.heap.size 25 32 (fun _ => .int .u8 0) ∧ Below w.heap.size w wr) (fun x _ => 32 - (intOf x).toNat)
              case atStart => exact ⟨0, by omega, rfl, hDd.congr (fun j _ => by rw [if_neg (by omega)]), hHF2, hRw2, hBw2⟩
              case round =>
                clear hDd hHF2 hRw2 hBw2
                obtain ⟨i, hi, rfl, hDr, hHr, hRw, hBw⟩ := hrel
                by_cases hlt10 : i < 32
                · have cH := hHr.cell (i := i / 4) (by omega)
                  have cD := hDr.cell (i := i) hlt10
                  simp only [Nat.lt_irrefl, if_false] at cD
                  have fD := hDr.frozen i
                  go_wp2_with fail
                  have hne1 : H ≠ D := by omega
                  have hne2 : w.heap.size ≠ D := by omega
                  have hle : w.heap.size ≤ D := by omega
                  go_roundw
                  case rel =>
                    refine ⟨i + 1, by omega, by go_num, (hDr.set i _).congr (fun j hj => ?_), hHr.setOther (a := ⟨D, i, none⟩) hne1 _, hRw.setOther (a := ⟨D, i, none⟩) hne2 _, hBw.setCell (p := ⟨D, i, none⟩) hle _⟩
                    by_cases e : j = i
                    · rw [if_pos e, if_pos (by omega), e]; rfl
                    · rw [if_neg e]
                      by_cases e2 : j < i
                      · rw [if_pos e2, if_pos (by omega)]
                      · rw [if_neg e2, if_neg (by omega)]
                  case measure => simp [intOf]; omega
                · have hDf : wr.rowIs D 25 32 (fun j => .int .u8 (Sha.digByte F j)) := hDr.congr (fun j _ => by rw [if_pos (by omega)])
                  clear hDr hHr
                  go_wp2_with (first
                    | (refine wpList_load_abs rfl 25 (.tmp 21) rfl D rfl 25 32 _ hDf _ Tryd.underlying25 rfl Tryd.sz25 ?_; intro es hes)
                    | (refine wpList_store_abs rfl 25 (.tmp 2) (.tmp 238) rfl w.heap.size rfl es rfl 25 32 _ _ hRw hes.out Tryd.sz25 (fun j _ => rfl) ?_; intro w9 hR9 hg9 hs9; clear hs9)
                    | fail)
                  have hbk := rowIs_block hR9
                  refine bodyPost_ret (results_row (g := w.heap.size) rfl rfl hbk Tryd.underlying25 rfl (by rw [size_rowArr]; exact Tryd.sz25)) rfl ⟨?_, ?_⟩
                  · rw [Sha.sum, ← HP.out.1, ← HF.out, digest_arr]
                  · exact hBw.trans (below_of_grown hg9 (Nat.le_refl _) hBw.size)
theorem ref_any (a : Option Addr) (cap : Nat) (l : List Int) (w : World) (hB : BytesAt (fun b => b < w.heap.size) w a cap l) (hcap : cap ≤ 140737488351232) :
    Calls Tryd.prog 11 #[.slice a l.length cap] w fun e w' => e = .returned (.agg (u8s (Sha.sum l)).toArray) ∧ Below w.heap.size w w' :=
  ref_len a cap l w hB (by have := hB.fits; omega)
end Go.Proofs.YtmilbmgbpoekmaaDoor
