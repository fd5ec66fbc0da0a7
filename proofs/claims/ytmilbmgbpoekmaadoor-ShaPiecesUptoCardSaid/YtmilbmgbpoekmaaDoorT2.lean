import Derived.Test.YtmilbmgbpoekmaaDoorT1
import Derived.Test.YtmilbmgbpoekmaaDoorLib
import Derived.BigQuiet
import Derived.BigRegion
import Derived.Deep.OwnRows
import Derived.Deep.LoopGhost
import Derived.Deep.CutRange
import Derived.Lib.Hide
namespace Go.Proofs.YtmilbmgbpoekmaaDoor
open Go.RowKit
set_option maxRecDepth 100000

def U (x : Int) : Value := .int .u32 x

set_option maxHeartbeats 1000000 in
theorem mix_any (hb sb so sl sc : Nat) (b : Nat → Int) (s : Sha.St) (f : Nat → Value) (w : World) (hsl : 64 ≤ sl) (hsl2 : sl ≤ 1000000) (sb2 : sb < w.heap.size) (h00 : 0 < w.heap.size)
   (hcell : ∀ i, i < 64 → w.cell? ⟨sb, so + i, none⟩ = some (.int .u8 (b i)))  (hb8 : ∀ i, 0 ≤ b i ∧ b i < 256)
   (hrow : w.rowIs hb 54 74 f) (hst : ∀ i, i < 8 → f i = .int .u32 (s.get i)) (hT : ∀ k, k < 64 → w.cell? ⟨0, k, none⟩ = some (.int .u32 (Sha.KL.getD k 0))) :
    Calls Tryd.prog 26 #[.pointer (some ⟨hb, 0, none⟩), .slice (some ⟨sb, so, none⟩) sl sc] w fun e w' => e = .returned (.tuple #[]) ∧ w.grownBy w' (some hb) ∧ w'.rowIs hb 54 74 (fun j => if j < 8 then .int .u32 ((Sha.compress s b).get j) else f j) := by
  have HC := Lib.hid hcell
  have HB := Lib.hid hb8
  have HST := Lib.hid hst
  have HT := Lib.hid hT
  clear hcell hb8 hst hT
  have hb2 := hrow.lt
  have hmx := u32_max
  go_enter Tryd.func26, Tryd.ntmps26
  go_wp2_with fail
  go_loopw [18] (fun i wr => ∃ k : Nat, k ≤ 16 ∧ i = .int .i64 k ∧ wr.rowIs w.heap.size 48 64 (fun j => .int .u32 (if j < k then Sha.word b j else 0)) ∧ Below w.heap.size w wr) (fun i _ => 16 - (intOf i).toNat)
  case atStart =>
    refine ⟨0, by omega, rfl, ?_, ?_⟩
    · exact rowIs_lit w _ 48 64 _ rfl
    · exact (Below.refl _ _).alloc (Nat.le_refl _) _
  case round =>
    obtain ⟨k, hk, rfl, hroww, hbel⟩ := hrel
    by_cases hlt : k < 16
    · have c0 : wr.cell? ⟨sb, so + 4 * k, none⟩ = some (.int .u8 (b (4*k))) := (hbel.cell (p := ⟨sb, so + 4 * k, none⟩) sb2).trans (HC.out _ (by omega))
      have c1 : wr.cell? ⟨sb, so + (4 * k + 1), none⟩ = some (.int .u8 (b (4*k+1))) := (hbel.cell (p := ⟨sb, _, none⟩) sb2).trans (HC.out _ (by omega))
      have c2 : wr.cell? ⟨sb, so + (4 * k + 2), none⟩ = some (.int .u8 (b (4*k+2))) := (hbel.cell (p := ⟨sb, _, none⟩) sb2).trans (HC.out _ (by omega))
      have c3 : wr.cell? ⟨sb, so + (4 * k + 3), none⟩ = some (.int .u8 (b (4*k+3))) := (hbel.cell (p := ⟨sb, _, none⟩) sb2).trans (HC.out _ (by omega))
      have b0 := HB.out (4*k)
      have b1 := HB.out (4*k+1)
      have b2 := HB.out (4*k+2)
      have b3 := HB.out (4*k+3)
      have f0 := hroww.cell (i := k) (by omega)
      simp only [Nat.lt_irrefl, if_false] at f0
      have f1 := hroww.frozen k
      obtain ⟨b0l, b0h⟩ := b0
      obtain ⟨b1l, b1h⟩ := b1
      obtain ⟨b2l, b2h⟩ := b2
      obtain ⟨b3l, b3h⟩ := b3
      go_wp2_with fail
      go_region
      go_wp2_with fail
      go_roundw
      case rel =>
        refine ⟨k + 1, by omega, by go_num, ?_, ?_⟩
        · refine ((hroww.set k _).drew).congr (fun j hj => ?_)
          by_cases e : j = k
          · subst e
            rw [if_pos rfl, if_pos (by omega)]
            rfl
          · rw [if_neg e]
            by_cases e2 : j < k
            · rw [if_pos e2, if_pos (by omega)]
            · rw [if_neg e2, if_neg (by omega)]
        · exact (hbel.setCell (Nat.le_refl _) _).drew
      case measure => simp [intOf]; omega
    · have hrw2 : wr.rowIs w.heap.size 48 64 (fun j => .int .u32 (if j < 16 then Sha.W b j else 0)) := hroww.congr (fun j hj => by
        by_cases e : j < 16
        · rw [if_pos e, if_pos (by omega), Sha.W_lo b j e]
        · rw [if_neg e, if_neg (by omega)])
      clear hroww
      go_wp2_with fail
      obtain ⟨wo, rfl⟩ : ∃ wo : World, wo = wr := ⟨_, rfl⟩
      go_loopw [6] (fun i wr => ∃ k : Nat, 16 ≤ k ∧ k ≤ 64 ∧ i = .int .i64 k ∧ wr.rowIs w.heap.size 48 64 (fun j => .int .u32 (if j < k then Sha.W b j else 0)) ∧ Below w.heap.size w wr) (fun i _ => 64 - (intOf i).toNat)
      case atStart => exact ⟨16, by omega, by omega, rfl, hrw2, hbel⟩
      case round =>
        clear hrw2 hbel
        obtain ⟨k, hk16, hk, rfl, hroww, hbel⟩ := hrel
        by_cases hlt : k < 64
        · have c2 := hroww.cell (i := k - 2) (by omega)
          have c7 := hroww.cell (i := k - 7) (by omega)
          have c15 := hroww.cell (i := k - 15) (by omega)
          have c16 := hroww.cell (i := k - 16) (by omega)
          simp only [show k - 2 < k by omega, show k - 7 < k by omega, show k - 15 < k by omega, show k - 16 < k by omega, if_true] at c2 c7 c15 c16
          have f0 := hroww.cell (i := k) (by omega)
          simp only [Nat.lt_irrefl, if_false] at f0
          have f1 := hroww.frozen k
          go_wp2_with fail
          go_quiet (fail)
          go_wp2_with (first | (go_at_call 29; refine (rot_k _ _ _ (by decide)).mono ?_; rintro e w' ⟨rfl, rfl⟩) | fail)
          go_region
          go_wp2_with fail
          go_roundw
          case rel =>
            refine ⟨k + 1, by omega, by omega, by go_num, ?_, ?_⟩
            · refine (((rowIs_drewN hroww nq).set k _).drew).congr (fun j hj => ?_)
              by_cases e : j = k
              · subst e
                rw [if_pos rfl, if_pos (by omega), Sha.W_hi b j hk16 hlt]
                rfl
              · rw [if_neg e]
                by_cases e2 : j < k
                · rw [if_pos e2, if_pos (by omega)]
                · rw [if_neg e2, if_neg (by omega)]
            · exact ((below_drewN hbel nq).setCell (Nat.le_refl _) _).drew
          case measure => simp [intOf]; omega
        · have hW : wr.rowIs w.heap.size 48 64 (fun j => .int .u32 (Sha.W b j)) := hroww.congr (fun j hj => by rw [if_pos (by omega)])
          clear hroww
          have hh : ∀ j, j < 8 → wr.cell? ⟨hb, j, none⟩ = some (.int .u32 (s.get j)) := fun j hj => by
            rw [hbel.cell (p := ⟨hb, j, none⟩) hb2, hrow.cell (by omega), HST.out j hj]
          have h0 := hh 0 (by omega)
          have h1 := hh 1 (by omega)
          have h2 := hh 2 (by omega)
          have h3 := hh 3 (by omega)
          have h4 := hh 4 (by omega)
          have h5 := hh 5 (by omega)
          have h6 := hh 6 (by omega)
          have h7 := hh 7 (by omega)
          clear hh
          simp only [Sha.St.get] at h0 h1 h2 h3 h4 h5 h6 h7
          go_wp2_with fail
          have hs0 : (wr.alloc (Obj.cells #[.int .u32 s.a, .int .u32 s.b, .int .u32 s.c, .int .u32 s.d, .int .u32 s.e, .int .u32 s.f, .int .u32 s.g, .int .u32 s.h] 47)).rowIs wr.heap.size 47 8 (fun j => .int .u32 (s.get j)) := rowIs_lit wr _ 47 8 _ rfl
          have hsz : w.heap.size < wr.heap.size := hW.lt
          obtain ⟨wp, rfl⟩ : ∃ wp : World, wp = wr := ⟨_, rfl⟩
          go_loopw [104] (fun i wr => ∃ t : Nat, t ≤ 64 ∧ i = .int .i64 t ∧ wr.rowIs wp.heap.size 47 8 (fun j => .int .u32 ((Sha.rounds b s t).get j)) ∧ Below wp.heap.size wp wr) (fun i _ => 64 - (intOf i).toNat)
          case atStart => exact ⟨0, by omega, rfl, hs0, (Below.refl _ _).alloc (Nat.le_refl _) _⟩
          case round =>
            clear hs0
            obtain ⟨t, ht, rfl, hS, hbel2⟩ := hrel
            by_cases hlt2 : t < 64
            · have cK : wr.cell? ⟨0, t, none⟩ = some (.int .u32 (Sha.KL.getD t 0)) := by
                rw [hbel2.cell (p := ⟨0, t, none⟩) (by show 0 < _; omega), hbel.cell (p := ⟨0, t, none⟩) h00]
                exact HT.out t hlt2
              have cW : wr.cell? ⟨w.heap.size, t, none⟩ = some (.int .u32 (Sha.W b t)) := by
                rw [hbel2.cell (p := ⟨w.heap.size, t, none⟩) hsz]; exact hW.cell hlt2
              obtain ⟨Kt, hKt⟩ : ∃ Kt, Kt = Sha.KL.getD t 0 := ⟨_, rfl⟩
              obtain ⟨Wt, hWt⟩ : ∃ Wt, Wt = Sha.W b t := ⟨_, rfl⟩
              obtain ⟨R, hR⟩ : ∃ R, R = Sha.rounds b s t := ⟨_, rfl⟩
              rw [← hKt] at cK
              rw [← hWt] at cW
              rw [← hR] at hS
              have HKt := Lib.hid hKt
              have HWt := Lib.hid hWt
              have HR := Lib.hid hR
              clear hKt hWt hR
              have s0 := hS.cell (i := 0) (by omega)
              have s1 := hS.cell (i := 1) (by omega)
              have s2 := hS.cell (i := 2) (by omega)
              have s3 := hS.cell (i := 3) (by omega)
              have s4 := hS.cell (i := 4) (by omega)
              have s5 := hS.cell (i := 5) (by omega)
              have s6 := hS.cell (i := 6) (by omega)
              have s7 := hS.cell (i := 7) (by omega)
              have g0 := hS.frozen 0
              have g1 := hS.frozen 1
              have g2 := hS.frozen 2
              have g3 := hS.frozen 3
              have g4 := hS.frozen 4
              have g5 := hS.frozen 5
              have g6 := hS.frozen 6
              have g7 := hS.frozen 7
              simp only [Sha.St.get] at s0 s1 s2 s3 s4 s5 s6 s7
              clear h0 h1 h2 h3 h4 h5 h6 h7
              go_wp2_with fail
              go_quiet ((go_at_call 29; first | exact quiet_l (rot_k _ _ _ (by decide)) | exact quiet_al2 (rot_k _ _ _ (by decide)) | exact quiet_al (rot_k _ _ _ (by decide))))
              go_wp2_with fail
              obtain ⟨n1, rfl⟩ : ∃ n1, n1 = nq := ⟨_, rfl⟩
              go_quiet (fail)
              go_wp2_with fail
              obtain ⟨n2, rfl⟩ : ∃ n2, n2 = nq := ⟨_, rfl⟩
              go_quiet ((go_at_call 29; first | exact quiet_l (rot_k _ _ _ (by decide)) | exact quiet_al2 (rot_k _ _ _ (by decide)) | exact quiet_al (rot_k _ _ _ (by decide))))
              go_wp2_with fail
              go_roundw
              case rel =>
                refine ⟨t + 1, by omega, by go_num, ?_, below_set8 (below_drewN hbel2 _) (Nat.le_refl _)⟩
                refine rowIs_set8 (rowIs_drewN hS _) ?_ ?_ ?_ ?_ ?_ ?_ ?_ ?_ <;> simp only [Sha.rounds, Sha.round, Sha.St.get, ← HKt.out, ← HWt.out, ← HR.out] <;> rfl
              case measure => simp [intOf]; omega
            · have hS2 : wr.rowIs wp.heap.size 47 8 (fun j => .int .u32 ((Sha.rounds b s 64).get j)) := by
                have e : t = 64 := by omega
                rw [e] at hS
                exact hS
              clear hS
              have hH : wr.rowIs hb 54 74 f := rowIs_below (rowIs_below hrow hbel hb2) hbel2 (by omega)
              have hg : w.grownBy wr (some hb) := grown_of_below (Nat.le_refl _) (hbel.trans (hbel2.mono (by omega))) _
              have hne : hb ≠ wp.heap.size := by omega
              clear h0 h1 h2 h3 h4 h5 h6 h7
              go_wp2_with fail
              obtain ⟨wq, rfl⟩ : ∃ wq : World, wq = wr := ⟨_, rfl⟩
              go_loopw [194] (fun i wr => ∃ j : Nat, j ≤ 8 ∧ i = .int .i64 j ∧ wr.rowIs hb 54 74 (fun i => if i < j then .int .u32 ((Sha.compress s b).get i) else f i) ∧ wr.rowIs wp.heap.size 47 8 (fun j => .int .u32 ((Sha.rounds b s 64).get j)) ∧ w.grownBy wr (some hb)) (fun i _ => 8 - (intOf i).toNat)
              case atStart => exact ⟨0, by omega, rfl, hH.congr (fun j hj => by rw [if_neg (by omega)]), hS2, hg⟩
              case round =>
                clear hH hS2 hg
                obtain ⟨j, hj, rfl, hH, hS, hg⟩ := hrel
                by_cases hlt3 : j < 8
                · have cH := hH.cell (i := j) (by omega)
                  rw [if_neg (Nat.lt_irrefl _), HST.out j hlt3] at cH
                  have cS := hS.cell (i := j) hlt3
                  have fH := hH.frozen j
                  go_wp2_with fail
                  go_region
                  go_wp2_with fail
                  go_roundw
                  case rel =>
                    refine ⟨j + 1, by omega, by go_num, ?_, ?_, ?_⟩
                    · refine ((hH.set j _).drew).congr (fun i hi => ?_)
                      by_cases e : i = j
                      · subst e
                        rw [if_pos rfl, if_pos (by omega), Sha.compress, Sha.St.get_plus]
                        rfl
                      · rw [if_neg e]
                        by_cases e2 : i < j
                        · rw [if_pos e2, if_pos (by omega)]
                        · rw [if_neg e2, if_neg (by omega)]
                    · exact (hS.setOther (a := ⟨hb, j, none⟩) (by exact fun h => hne h.symm) _).drew
                    · exact grown_drew (grown_setCell hg (.inl rfl) _)
                  case measure => simp [intOf]; omega
                · go_wp2_with fail
                  go_end0
                  refine ⟨rfl, hg, ?_⟩
                  have e : j = 8 := by omega
                  rw [e] at hH
                  exact hH
end Go.Proofs.YtmilbmgbpoekmaaDoor
