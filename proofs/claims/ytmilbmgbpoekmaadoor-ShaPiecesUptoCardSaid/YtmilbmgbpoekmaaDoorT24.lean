/-
  THE LAW ShaPieces' walk, for pieces of a bounded length together.
-/
import Derived.Test.YtmilbmgbpoekmaaDoorT23
namespace Go.Proofs.YtmilbmgbpoekmaaDoor
open Go.RowKit
set_option maxRecDepth 100000

/-- The first i pieces, one behind another. -/
def joined (Z : Nat → List Int) (i : Nat) : List Int := (List.range i).flatMap Z
theorem joined_succ (Z : Nat → List Int) (i : Nat) : joined Z (i + 1) = joined Z i ++ Z i := by
  simp [joined, List.range_succ]
theorem joined_le (Z : Nat → List Int) (i : Nat) : ∀ d, (joined Z i).length ≤ (joined Z (i + d)).length
  | 0 => Nat.le_refl _
  | d + 1 => by
    rw [← Nat.add_assoc, joined_succ, List.length_append]
    have := joined_le Z i d
    omega
theorem joined_byte (Z : Nat → List Int) : ∀ i, (∀ r, r < i → ∀ j, 0 ≤ (Z r).getD j 0 ∧ (Z r).getD j 0 < 256) → ∀ x ∈ joined Z i, 0 ≤ x ∧ x < 256
  | 0, _, x, hx => by simp [joined] at hx
  | i + 1, h, x, hx => by
    rw [joined_succ, List.mem_append] at hx
    rcases hx with hx | hx
    · exact joined_byte Z i (fun r hr => h r (by omega)) x hx
    · obtain ⟨j, hj, e⟩ := List.getElem_of_mem hx
      have := h i (by omega) j
      rw [List.getD_eq_getElem?_getD, List.getElem?_eq_getElem hj] at this
      simpa [e] using this
theorem getD_of_mem {xs : List Int} (h : ∀ x ∈ xs, 0 ≤ x ∧ x < 256) (j : Nat) : 0 ≤ xs.getD j 0 ∧ xs.getD j 0 < 256 := by
  rw [List.getD_eq_getElem?_getD]
  cases e : xs[j]? with
  | none => simp
  | some x => exact h x (List.mem_of_getElem? e)

set_option maxHeartbeats 4000000 in
/-- veneerlaw01.ShaPieces(pieces). -/
theorem shaPieces_walk (A : Option Addr) (len cap : Nat) (PA : Nat → Option Addr) (PL PC : Nat → Nat) (Z : Nat → List Int) (w : World) (hlen : len ≤ 9223372036854775807)
    (hout : ∀ r, r < len → ∃ b o, A = some ⟨b, o, none⟩ ∧ b < w.heap.size ∧ w.cell? ⟨b, o + r, none⟩ = some (.slice (PA r) (PL r) (PC r)))
    (hin : ∀ r, r < len → (Z r).length = PL r ∧ Piece w.heap.size w (PA r) (PC r) (Z r) ∧ PC r ≤ 9223372036854775807)
    (hsum : (joined Z len).length ≤ 1048576) (h0 : 0 < w.heap.size) (hT : TabK w) :
    Calls Tryd.prog 5 #[.slice A len cap] w fun e w' => e = .returned (.bool true) ∧ Below w.heap.size w w' := by
  have HT := Lib.hid hT
  have HOUT := Lib.hid hout
  have HIN := Lib.hid hin
  have HJB := Lib.hid (fun i (hi : i ≤ len) => getD_of_mem (joined_byte Z i (fun r hr => (hin r (by omega)).2.1.byte)))
  have HJL := Lib.hid (fun i (hi : i ≤ len) => Nat.le_trans (by have := joined_le Z i (len - i); rwa [show i + (len - i) = len by omega] at this) hsum : ∀ i, i ≤ len → (joined Z i).length ≤ 1048576)
  clear hT hout hin hsum
  have hg := eqGuard25
  have heq : ∀ (l : List Int) (cs : Array Value), cs = (u8s (Sha.sum l)).toArray → ∀ w, (Op.equalIn 10000 25 (.agg cs) (.agg cs)).run Tryd.prog w = .ok true w := fun l cs h w => by
    rw [h, run_equalIn_25 9998 _ _ (Sha.length_sum l) (Sha.length_sum l)]
    simp
  have HEQ := Lib.hid heq
  clear heq
  go_enter Tryd.func5, Tryd.ntmps5
  go_wp2_with fail
  go_at_call 9
  refine (awake_any w h0 HT.out).mono ?_
  rintro e w1 ⟨rfl, hb1⟩
  go_wp2_with fail
  go_at_call 16
  refine (new_any w1).mono ?_
  rintro e w2 ⟨rfl, hH2, hb2⟩
  obtain ⟨C, hC⟩ : ∃ C, C = w1.heap.size := ⟨_, rfl⟩
  rw [← hC] at hH2 hb2 ⊢
  have hC0 : w.heap.size ≤ C := by have := hb1.size; omega
  have hb12 : Below w.heap.size w w2 := hb1.trans (hb2.mono hC0)
  clear hb1 hb2 hC
  go_wp2_with fail
  go_at_call 17
  refine (len_any C 0 _ _ w2 hH2).mono ?_
  rintro e w3 ⟨rfl, rfl⟩
  have hH2' : HashIs w2 C (Sha.finSt Sha.init []) (Sha.finBuf []) ([] : List Int).length := hH2
  clear hH2
  go_wp2_with fail
  go_at_call 18
  refine (hashSum_any C [] w2 hH2' (by simp) (Nat.lt_of_lt_of_le h0 hb12.size) (TabK.below HT.out h0 hb12)).mono ?_
  rintro e w3 ⟨rfl, hb3⟩
  have hC2 := hH2'.lt
  have hH3 := hH2'.of_block (hb3.block C hC2)
  have hb13 := hb12.trans (hb3.mono hb12.size)
  have hC3 : C < w3.heap.size := Nat.lt_of_lt_of_le hC2 hb3.size
  clear hH2' hb3 hb12 hC2
  obtain ⟨cs, hcs⟩ : ∃ cs, cs = (u8s (Sha.sum [])).toArray := ⟨_, rfl⟩
  rw [← hcs]
  go_wp2_with fail
  go_at_call 11
  refine (refNil_any w3).mono ?_
  rintro e w4 ⟨rfl, hb4⟩
  have hH4 := hH3.of_block (hb4.block C hC3)
  have hb14 := hb13.trans (hb4.mono hb13.size)
  have hC4 : C < w4.heap.size := Nat.lt_of_lt_of_le hC3 hb4.size
  clear hH3 hb4 hb13 hC3
  rw [← hcs]
  have heq0 := HEQ.out [] cs hcs
  clear hcs
  go_wp2_with fail
  clear heq0
  go_loopw [4, 5] (fun v x wr => ∃ i : Nat, i ≤ len ∧ i ≤ 50 ∧ x = .int .i64 i ∧ OwnB (C + 1) wr v (joined Z i) ∧ HashIs wr C (Sha.finSt Sha.init (joined Z i)) (Sha.finBuf (joined Z i)) (joined Z i).length ∧ Below w.heap.size w wr) (fun _ x _ => 50 - (intOf x).toNat)
  case atStart => exact ⟨0, by omega, by omega, rfl, World.ownsRow_nil _ _ _ _, hH4, hb14⟩
  case round =>
    clear hH4 hb14 hC4
    obtain ⟨i, hi, hi50, rfl, hown, hH, hb⟩ := hrel
    by_cases hlt : i < len ∧ i < 50
    · obtain ⟨h1, h2⟩ := hlt
      obtain ⟨b, o, rfl, hbw, hcell⟩ := HOUT.out i h1
      obtain ⟨hzl, hP, hpc⟩ := HIN.out i h1
      have hjl := HJL.out i hi
      have hjl1 := HJL.out (i + 1) (by omega)
      have hjb1 := HJB.out (i + 1) (by omega)
      rw [joined_succ] at hjl1 hjb1
      have hll : PL i ≤ 1048576 := by rw [List.length_append] at hjl1; omega
      obtain ⟨m, hm⟩ : ∃ m, m = joined Z i := ⟨_, rfl⟩
      rw [← hm] at hown hH hjl hjl1 hjb1
      have HM := Lib.hid hm
      clear hm
      obtain ⟨z, hz⟩ : ∃ z, z = Z i := ⟨_, rfl⟩
      rw [← hz] at hzl hP hjl1 hjb1
      have HZ := Lib.hid hz
      clear hz
      obtain ⟨pa, hpa⟩ : ∃ pa, pa = PA i := ⟨_, rfl⟩
      obtain ⟨pl, hpl⟩ : ∃ pl, pl = PL i := ⟨_, rfl⟩
      obtain ⟨pc, hpc2⟩ : ∃ pc, pc = PC i := ⟨_, rfl⟩
      rw [← hpa, ← hpl, ← hpc2] at hcell
      rw [← hpl] at hzl hll
      rw [← hpa, ← hpc2] at hP
      rw [← hpc2] at hpc
      clear hpa hpl hpc2
      have HJB1 := Lib.hid hjb1
      have HJL1 := Lib.hid hjl1
      have HZL := Lib.hid hzl
      clear hjb1 hjl1 hzl
      have c1 : wr.cell? ⟨b, o + i, none⟩ = some (.slice pa pl pc) := (hb.cell (p := ⟨b, o + i, none⟩) hbw).trans hcell
      go_wp2_with fail
      go_at_call 19
      refine (write_piece w.heap.size C pa pc pl z m wr HZL.out hH (hP.keep (fun b hb' => hb.block b hb')) hb.size hC0 hpc (by omega) (by omega) (Nat.lt_of_lt_of_le h0 hb.size) (by omega) (TabK.below HT.out h0 hb)).mono ?_
      rintro e w5 ⟨rfl, hgr5, hH5⟩
      have hb5 : Below w.heap.size w w5 := hb.trans (below_of_grown hgr5 hC0 hb.size)
      have hown5 := hown.keep (w' := w5) (fun k hk => hgr5.block k (World.ownsRow.lt hown k hk).2 (by
        intro e
        have h := (World.ownsRow.lt hown k hk).1
        injection e with e
        omega))
      have c2 : w5.cell? ⟨b, o + i, none⟩ = some (.slice pa pl pc) := (hb5.cell (p := ⟨b, o + i, none⟩) hbw).trans hcell
      have hP5 : Piece w.heap.size w5 pa pc z := hP.keep (fun b hb' => hb5.block b hb')
      have hC5 := hH5.lt
      have hfit : m.length + z.length ≤ 140737488355328 := by have := HJL1.out; rw [List.length_append] at this; omega
      clear c1 hH hb hgr5 hown hP
      obtain ⟨T, hTT⟩ : ∃ T, T = m ++ z := ⟨_, rfl⟩
      rw [← hTT] at hH5
      go_wp2_with (first
        | (refine wpList_append_piece rfl (.tmp 38) (.tmp 42) rfl (C + 1) _ m rfl hown5 w.heap.size pa pl pc z rfl HZL.out hP5 hfit hC5 ?_; intro v6 w6 hown6 hgr6
           rw [← hTT] at hown6
           have hH6 := hH5.of_block (hgr6.block C hC5 (fun e => by have := (World.ownsRow.lt hown5 C e.symm).1; omega))
           have hb6 : Below w.heap.size w w6 := hb5.grown hgr6 hb5.size (fun k hk => Nat.le_trans hC0 (Nat.le_of_lt (World.ownsRow.lt hown5 k hk).1))
           have hC6 := hH6.lt
           have htb : ∀ j, 0 ≤ T.getD j 0 ∧ T.getD j 0 < 256 := by rw [hTT]; exact HJB1.out
           have htl : T.length ≤ 1048576 := by rw [hTT]; exact HJL1.out
           obtain ⟨ga, gcap, rfl, hBA, hgc⟩ := hown6.bytesAt htb
           have HTB := Lib.hid htb
           have HTT := Lib.hid hTT
           clear hgr6 hH5 hb5 hC5 hown5 c2 hP5 hfit htb hTT)
        | fail)
      go_at_call 17
      refine (len_any C T.length _ _ w6 hH6).mono ?_
      rintro e w7 ⟨rfl, rfl⟩
      go_wp2_with fail
      go_at_call 18
      have h06 := Nat.lt_of_lt_of_le h0 hb6.size
      refine (hashSum_any C T w6 hH6 (by omega) h06 (TabK.below HT.out h0 hb6)).mono ?_
      rintro e w7 ⟨rfl, hb67⟩
      obtain ⟨ds, hds⟩ : ∃ ds, ds = (u8s (Sha.sum T)).toArray := ⟨_, rfl⟩
      have heq1 := HEQ.out T ds hds
      have HDS := Lib.hid hds
      clear hds
      rw [← HDS.out]
      go_wp2_with fail
      go_at_call 11
      refine (ref_len ga gcap T w7 (hBA.to (fun b h => Nat.lt_of_lt_of_le h hb67.size) (fun b h => hb67.block b h)) (by omega)).mono ?_
      rintro e w8 ⟨rfl, hb78⟩
      have hb68 := hb67.trans (hb78.mono hb67.size)
      clear hb67 hb78
      rw [← HDS.out]
      go_wp2_with fail
      go_at_call 18
      have hb8 : Below w.heap.size w w8 := hb6.trans (hb68.mono hb6.size)
      refine (hashSum_any C T w8 (hH6.of_block (hb68.block C hC6)) (by omega) (Nat.lt_of_lt_of_le h06 hb68.size) (TabK.below HT.out h0 hb8)).mono ?_
      rintro e w9 ⟨rfl, hb89⟩
      have hb69 := hb68.trans (hb89.mono hb68.size)
      clear hb68 hb89 hb8
      rw [← HDS.out]
      go_wp2_with fail
      go_at_call 10
      have hb9 : Below w.heap.size w w9 := hb6.trans (hb69.mono hb6.size)
      refine (sum_len ga gcap T w9 (hBA.to (fun b h => Nat.lt_of_lt_of_le h hb69.size) (fun b h => hb69.block b h)) hgc (by omega) (Nat.lt_of_lt_of_le h06 hb69.size) (TabK.below HT.out h0 hb9)).mono ?_
      rintro e w10 ⟨rfl, hb910⟩
      have hb610 := hb69.trans (hb910.mono hb69.size)
      clear hb69 hb910 hb9
      rw [← HDS.out]
      go_wp2_with fail
      have hjn : joined Z (i + 1) = T := by rw [joined_succ, ← HM.out, ← HZ.out, ← HTT.out]
      refine ⟨⟨i + 1, by omega, by omega, by go_num, ?_, ?_, hb6.trans (hb610.mono hb6.size)⟩, by simp [intOf]; omega⟩
      · rw [hjn]
        exact hown6.keep (fun k hk => hb610.block k (World.ownsRow.lt hown6 k hk).2)
      · rw [hjn]
        exact hH6.of_block (hb610.block C hC6)
    · go_wp2_with fail
      all_goals
        go_ret
        exact ⟨rfl, hb⟩
end Go.Proofs.YtmilbmgbpoekmaaDoor
