/-
  THE CONTRACTS of bytes.Compare at two arrays of 32 bytes, of sha.Compare and of the reference's Compare.
-/
import Derived.Test.YtmilbmgbpoekmaaDoorT13
import Derived.Laws.Externs
namespace Go.Proofs.YtmilbmgbpoekmaaDoor
open Go.RowKit
set_option maxRecDepth 100000

theorem run_compare {P : Program} (w : World) (b1 b2 c1 c2 : Nat) (x y : List Int) (n : Nat) (hx : x.length = n) (hy : y.length = n)
    (h1 : ∀ i, i < n → w.cell? ⟨b1, 0 + i, none⟩ = some (.int .u8 (x.getD i 0))) (h2 : ∀ i, i < n → w.cell? ⟨b2, 0 + i, none⟩ = some (.int .u8 (y.getD i 0)))
    (bx : ∀ j, 0 ≤ x.getD j 0 ∧ x.getD j 0 < 256) (by_ : ∀ j, 0 ≤ y.getD j 0 ∧ y.getD j 0 < 256) :
    (Extern.BytealgCompare.compare #[.slice (some ⟨b1, 0, none⟩) n c1, .slice (some ⟨b2, 0, none⟩) n c2]).run P w = .ok (.int .i64 (lexCmp x y)) w := by
  have one : ∀ (b : Nat) (z : List Int), z.length = n → (∀ i, i < n → w.cell? ⟨b, 0 + i, none⟩ = some (.int .u8 (z.getD i 0))) →
      (Extern.Bytes.loadBytes ⟨b, 0, none⟩ n .empty).run P w = .ok ⟨(Lib.bytesOf z).toArray⟩ w := fun b z hz h => by
    have hl := Lib.run_loadBytesX (P := P) w z ⟨b, 0, none⟩ .empty (fun j v hj => by
      have hjl : j < z.length := (List.getElem?_eq_some_iff.1 hj).1
      have e : (⟨b, 0, none⟩ : Addr).add j = ⟨b, 0 + j, none⟩ := by unfold Addr.add; split <;> simp_all
      rw [e, h j (by omega), List.getD_eq_getElem?_getD, hj]
      rfl)
    rw [hz] at hl
    rw [hl]
    congr 1
    apply ByteArray.ext
    show (#[] : Array UInt8) ++ (Lib.bytesOf z).toArray = (Lib.bytesOf z).toArray
    simp
  change Sem.run P (do
    let a ← Extern.Bytes.bytesOf (.slice (some ⟨b1, 0, none⟩) n c1)
    let b ← Extern.Bytes.bytesOf (.slice (some ⟨b2, 0, none⟩) n c2)
    pure (goInt (Extern.BytealgCompare.cmp a b))) w = _
  simp only [Extern.Bytes.bytesOf, Sem.run_bind, Sem.run_pure, one b1 x hx h1, one b2 y hy h2, Result.andThen_ok, cmp_lex x y n hx hy bx by_]
  rfl

set_option maxHeartbeats 1000000 in
/-- bytes.Compare, at two rows of 32 bytes. -/
theorem bcmp_any (x y : List Int) (hx : x.length = 32) (hy : y.length = 32) (bx : ∀ j, 0 ≤ x.getD j 0 ∧ x.getD j 0 < 256) (by_ : ∀ j, 0 ≤ y.getD j 0 ∧ y.getD j 0 < 256) (b1 b2 : Nat) (w : World)
    (h1 : ∀ i, i < 32 → w.cell? ⟨b1, 0 + i, none⟩ = some (.int .u8 (x.getD i 0))) (h2 : ∀ i, i < 32 → w.cell? ⟨b2, 0 + i, none⟩ = some (.int .u8 (y.getD i 0))) :
    Calls Tryd.prog 25 #[.slice (some ⟨b1, 0, none⟩) 32 32, .slice (some ⟨b2, 0, none⟩) 32 32] w fun e w' => e = .returned (.int .i64 (lexCmp x y)) ∧ w = w' := by
  have hr := run_compare (P := Tryd.prog) w b1 b2 32 32 x y 32 hx hy h1 h2 bx by_
  have H1 := Lib.hid h1
  have H2 := Lib.hid h2
  have HR := Lib.hid hr
  clear h1 h2 bx by_ hr
  go_enter Tryd.func25, Tryd.ntmps25
  go_wp2_with fail
  rw [run_callFunc_extern Tryd.func28 (by kernel_rfl) (by kernel_rfl) (by kernel_rfl) (e := Extern.BytealgCompare.compare) (by kernel_rfl), HR.out]
  simp only [Result.andThen]
  rw [Oper.upon_value]
  go_wp2_with fail
  go_ret
  exact ⟨rfl, rfl⟩

set_option maxHeartbeats 1000000 in
/-- sha.Compare(x, y). -/
theorem cmp_any (x y : List Int) (hx : x.length = 32) (hy : y.length = 32) (bx : ∀ j, 0 ≤ x.getD j 0 ∧ x.getD j 0 < 256) (by_ : ∀ j, 0 ≤ y.getD j 0 ∧ y.getD j 0 < 256) (w : World) :
    Calls Tryd.prog 13 #[.agg (u8s x).toArray, .agg (u8s y).toArray] w fun e w' => e = .returned (.int .i64 (lexCmp x y)) ∧ Below w.heap.size w w' := by
  obtain ⟨cs, hcs⟩ : ∃ cs, cs = (u8s x).toArray := ⟨_, rfl⟩
  obtain ⟨ds, hds⟩ : ∃ ds, ds = (u8s y).toArray := ⟨_, rfl⟩
  rw [← hcs, ← hds]
  have HC := Lib.hid (hcs.trans (u8s_rowArr x 32 hx))
  have HD := Lib.hid (hds.trans (u8s_rowArr y 32 hy))
  clear hcs hds
  obtain ⟨W, hW⟩ : ∃ W, W = (w.alloc (.cells cs 25)).alloc (.cells ds 25) := ⟨_, rfl⟩
  have r1 : W.rowIs w.heap.size 25 32 (fun j => .int .u8 (x.getD j 0)) := by
    have h : (w.alloc (.cells cs 25)).rowIs w.heap.size 25 32 (fun j => .int .u8 (x.getD j 0)) := by
      rw [HC.out]; exact ⟨_, Go.Deep.blk_alloc_new _ _, size_rowArr _ _, get_rowArr _ _⟩
    rw [hW]
    exact h.alloc _
  have r2 : W.rowIs (w.heap.size + 1) 25 32 (fun j => .int .u8 (y.getD j 0)) := by
    have h : ((w.alloc (.cells cs 25)).alloc (.cells ds 25)).rowIs (w.alloc (.cells cs 25)).heap.size 25 32 (fun j => .int .u8 (y.getD j 0)) := by
      rw [HD.out]; exact ⟨_, Go.Deep.blk_alloc_new _ _, size_rowArr _ _, get_rowArr _ _⟩
    rw [Go.Deep.nblk_alloc] at h
    rw [hW]
    exact h
  have hbW : Below w.heap.size w W := by rw [hW]; exact ((Below.refl _ _).alloc (Nat.le_refl _) _).alloc (by simp) _
  have hal : Tryd.prog.arrayLen 25 = 32 := by kernel_rfl
  go_enter Tryd.func13, Tryd.ntmps13
  go_wp2_with fail
  rw [← hW]
  have HWW := Lib.hid hW
  clear hW
  go_quiet ((go_at_call 25; exact quiet_l (bcmp_any x y hx hy bx by_ w.heap.size (w.heap.size + 1) _ (fun i hi => by rw [Nat.zero_add]; exact r1.cell (i := i) hi) (fun i hi => by rw [Nat.zero_add]; exact r2.cell (i := i) hi))))
  go_wp2_with fail
  go_ret
  exact ⟨rfl, below_drewN hbW _⟩

set_option maxHeartbeats 2000000 in
/-- veneerref01.Compare(x, y). -/
theorem refcmp_any (x y : List Int) (hx : x.length = 32) (hy : y.length = 32) (bx : ∀ j, 0 ≤ x.getD j 0 ∧ x.getD j 0 < 256) (by_ : ∀ j, 0 ≤ y.getD j 0 ∧ y.getD j 0 < 256) (w : World) :
    Calls Tryd.prog 15 #[.agg (u8s x).toArray, .agg (u8s y).toArray] w fun e w' => e = .returned (.int .i64 (lexCmp x y)) ∧ Below w.heap.size w w' := by
  obtain ⟨cs, hcs⟩ : ∃ cs, cs = (u8s x).toArray := ⟨_, rfl⟩
  obtain ⟨ds, hds⟩ : ∃ ds, ds = (u8s y).toArray := ⟨_, rfl⟩
  rw [← hcs, ← hds]
  have HC := Lib.hid (hcs.trans (u8s_rowArr x 32 hx))
  have HD := Lib.hid (hds.trans (u8s_rowArr y 32 hy))
  clear hcs hds
  have BX := Lib.hid bx
  have BY := Lib.hid by_
  clear bx by_
  have R1 : Hid (((w.alloc (.cells cs 25)).alloc (.cells ds 25)).rowIs w.heap.size 25 32 (fun j => .int .u8 (x.getD j 0))) := Lib.hid (by
    have h : (w.alloc (.cells cs 25)).rowIs w.heap.size 25 32 (fun j => .int .u8 (x.getD j 0)) := by
      rw [HC.out]; exact ⟨_, Go.Deep.blk_alloc_new _ _, size_rowArr _ _, get_rowArr _ _⟩
    exact h.alloc _)
  have R2 : Hid (((w.alloc (.cells cs 25)).alloc (.cells ds 25)).rowIs (w.heap.size + 1) 25 32 (fun j => .int .u8 (y.getD j 0))) := Lib.hid (by
    have h : ((w.alloc (.cells cs 25)).alloc (.cells ds 25)).rowIs (w.alloc (.cells cs 25)).heap.size 25 32 (fun j => .int .u8 (y.getD j 0)) := by
      rw [HD.out]; exact ⟨_, Go.Deep.blk_alloc_new _ _, size_rowArr _ _, get_rowArr _ _⟩
    rw [Go.Deep.nblk_alloc] at h
    exact h)
  have HBW : Hid (Below w.heap.size w ((w.alloc (.cells cs 25)).alloc (.cells ds 25))) := Lib.hid (((Below.refl _ _).alloc (Nat.le_refl _) _).alloc (by simp) _)
  go_enter Tryd.func15, Tryd.ntmps15
  go_wp2_with fail
  go_loopw [5] (fun i wr => ∃ k : Nat, k ≤ 32 ∧ i = .int .i64 k ∧ (∀ j, j < k → x.getD j 0 = y.getD j 0) ∧ wr.rowIs w.heap.size 25 32 (fun j => .int .u8 (x.getD j 0)) ∧ wr.rowIs (w.heap.size + 1) 25 32 (fun j => .int .u8 (y.getD j 0)) ∧ Below w.heap.size w wr) (fun i _ => 32 - (intOf i).toNat)
  case atStart => exact ⟨0, by omega, rfl, fun j hj => by omega, R1.out, R2.out, HBW.out⟩
  case round =>
    clear R1 R2 HBW
    obtain ⟨k, hk, rfl, hall, hr1, hr2, hb⟩ := hrel
    have HALL := Lib.hid hall
    clear hall
    by_cases hlt : k < 32
    · obtain ⟨p, hp⟩ : ∃ p, p = x.getD k 0 := ⟨_, rfl⟩
      obtain ⟨q, hq⟩ : ∃ q, q = y.getD k 0 := ⟨_, rfl⟩
      have c1 := hr1.cell (i := k) hlt
      have c2 := hr2.cell (i := k) hlt
      rw [← hp] at c1
      rw [← hq] at c2
      have HP := Lib.hid hp
      have HQ := Lib.hid hq
      clear hp hq
      go_wp2_with fail
      by_cases h1 : p < q
      · go_quiet (fail)
        go_wp2_with fail
        go_ret
        refine ⟨?_, below_drewN hb _⟩
        rw [lexCmp_at x y k (by omega) (by omega) HALL.out (by rw [← HP.out, ← HQ.out]; omega), ← HP.out, ← HQ.out, if_pos h1]
        rfl
      · go_quiet (fail)
        go_wp2_with fail
        by_cases h2 : q < p
        · go_quiet (fail)
          go_wp2_with fail
          go_ret
          refine ⟨?_, by first | exact below_drewN hb _ | exact below_drewN (below_drewN hb _) _⟩
          rw [lexCmp_at x y k (by omega) (by omega) HALL.out (by rw [← HP.out, ← HQ.out]; omega), ← HP.out, ← HQ.out, if_neg (by omega)]
          rfl
        · go_quiet (fail)
          go_wp2_with fail
          go_roundw
          case rel =>
            refine ⟨k + 1, by omega, by go_num, fun j hj => ?_, rowIs_drewN hr1 _, rowIs_drewN hr2 _, below_drewN hb _⟩
            by_cases e : j = k
            · rw [e, ← HP.out, ← HQ.out]; omega
            · exact HALL.out j (by omega)
          case measure => simp [intOf]; omega
    · obtain rfl : k = 32 := by omega
      have e0 : lexCmp x y = 0 := by
        obtain rfl := eq_of_getD (xs := x) (ys := y) (by omega) (fun j hj => HALL.out j (by omega))
        exact lexCmp_self _
      go_wp2_with fail
      go_ret
      rw [e0]
      exact ⟨rfl, hb⟩
end Go.Proofs.YtmilbmgbpoekmaaDoor
