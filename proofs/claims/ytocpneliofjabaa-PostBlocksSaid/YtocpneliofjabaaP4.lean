/-
  A PACKET IS STRUCK from a row: slices.Delete at packets.
-/
import Derived.Test.YtocpneliofjabaaP3
import Derived.Lib.SliceRun
namespace Go.Proofs.Ytocpneliofjabaa
open Go.RowKit
set_option maxRecDepth 100000

theorem zero49 (w : World) : (zeroValue 49).run Try.prog w = .ok (pka ⟨0, 0, 0, ⟨#[]⟩⟩) w := by kernel_rfl
theorem flat_drop : ∀ (L : List Pk) (i : Nat), (flat L).drop (i * 4) = flat (L.drop i)
  | L, 0 => by simp
  | [], i + 1 => by simp [flat]
  | x :: L, i + 1 => by
    rw [show (i + 1) * 4 = 4 + i * 4 by omega, ← List.drop_drop]
    exact flat_drop L i
theorem flat_take : ∀ (L : List Pk) (i : Nat), (flat L).take (i * 4) = flat (L.take i)
  | L, 0 => by simp [flat]
  | [], i + 1 => by simp [flat]
  | x :: L, i + 1 => by
    rw [show (i + 1) * 4 = 4 + i * 4 by omega]
    have : flat (x :: L) = pkv x ++ flat L := rfl
    rw [this, List.take_append, show (pkv x).length = 4 from rfl, show 4 + i * 4 - 4 = i * 4 by omega, flat_take L i, List.take_of_length_le (by simp [pkv])]
    rfl
/-- Without the packet at a place. -/
def rmv (i : Nat) (L : List Pk) : List Pk := L.take i ++ L.drop (i + 1)
/-- append within one row, as a step of a region that draws its order. -/
theorem step_append_row {w : World} {ops : Array Oper} {o : Oper} {a : Act} {K : Act → World → Prop} {Q : Exit → Act → World → Prop} {E : Prop} (hgd : o.guard = none) (s x : Operand)
    (ho : o.op = .call { callee := .builtin .append, args := #[s, x], argTypes := #[29, 29] }) (g sLen sCap : Nat) (hs : a.eval s = .slice (some ⟨g, 0, none⟩) sLen sCap) (cur : Array Value) (hg : w.heap[g]? = some (.cells cur 49 (0, 0)))
    (ad : Addr) (m c : Nat) (hx : a.eval x = .slice (some ad) m c) (news : List Value) (hl : news.length = m * 4) (hnews : ∀ j u, news[j]? = some u → w.cell? (ad.add j) = some u) (h1 : ∀ u ∈ news, u.oneCell' = true)
    (hroom : sLen + m ≤ sCap) (hfit : sLen * 4 + news.length ≤ cur.size)
    (h : ∀ w', w'.heap[g]? = some (.cells (cur.toList.take (sLen * 4) ++ news ++ cur.toList.drop (sLen * 4 + news.length)).toArray 49 (0, 0)) → w.grownBy w' (some g) → w'.heap.size = w.heap.size → K (a.put o.dst (.slice (some ⟨g, 0, none⟩) (sLen + m) sCap)) w') :
    if Region.wanted o (yielded ops a.tmps) = true then Oper.wp Try.prog o a w K Q else E := by
  have hw : Region.wanted o (yielded ops a.tmps) = true := by simp [Region.wanted, hgd]
  rw [if_pos hw]
  obtain ⟨i, hi, _, hz1, _⟩ := info_parts info49
  have hr := run_append_room (P := Try.prog) w 29 o.type 49 i Try.underlying29 hi g sLen sCap cur hg ad m c news (by rw [hz1]; exact hl) hnews h1 hroom (by rw [hz1]; exact hfit)
  rw [hz1] at hr
  unfold Oper.wp execOp
  simp only [ho, resolve, invoke, builtin, Sem.run_bind, Sem.run_pure, Result.andThen_ok, List.map_toArray, List.map_cons, List.map_nil, hs, hx, hr]
  exact h _ (setRow_heap w g cur _ 49 _ hg) (setRow_grown w g _) (by simp [World.setRow])
def zcells : List Value := [.int .i64 0, .int .i64 0, .int .i64 0, .string ⟨#[]⟩]
/-- clear at one packet. -/
theorem wpList_clear_pk {w : World} {ops : Array Oper} {rest : List Oper} {op : Oper} {a : Act} {Q : Exit → Act → World → Prop} (hgd : op.guard = none) (x : Operand)
    (ho : op.op = .call { callee := .builtin .clear, args := #[x], argTypes := #[29] }) (g o q c : Nat) (hx : a.eval x = .slice (some ⟨g, o, none⟩) q c) (hq : q = 1) (cur : Array Value) (hg : w.heap[g]? = some (.cells cur 49 (0, 0))) (hfit : o + 4 ≤ cur.size)
    (h : ∀ w', w'.heap[g]? = some (.cells (cur.toList.take o ++ zcells ++ cur.toList.drop (o + 4)).toArray 49 (0, 0)) → w.grownBy w' (some g) → w'.heap.size = w.heap.size → wpList Try.prog ops Q rest (a.put op.dst (.tuple #[])) w') : wpList Try.prog ops Q (op :: rest) a w := by
  refine wpList_plain hgd fun K hK => ?_
  subst hq
  have hz : (Builtin.zeroCells (Value.agg #[.int .i64 0, .int .i64 0, .int .i64 0, .string ⟨#[]⟩]).cells 1).toList = zcells := by kernel_rfl
  have hst := run_storeCells_at Try.prog g o 49 zcells 0 cur w hg (by simpa [zcells] using hfit) (by intro v hv; simp [zcells] at hv; rcases hv with rfl | rfl | rfl <;> rfl)
  simp only [Nat.add_zero] at hst
  have hr : (Builtin.clear_ #[29] op.type #[.slice (some ⟨g, o, none⟩) 1 c]).run Try.prog w = .ok (.tuple #[]) (w.setRow g (cur.toList.take o ++ zcells ++ cur.toList.drop (o + zcells.length)).toArray) := by
    simp [Builtin.clear_, run_underlying Try.underlying29, hst, hz, -List.append_assoc]
  unfold Oper.wp execOp
  simp only [ho, resolve, invoke, builtin, Sem.run_bind, Sem.run_pure, Result.andThen_ok, List.map_toArray, List.map_cons, List.map_nil, hx, hr]
  exact hK _ _ (h _ (setRow_heap w g cur _ 49 _ hg) (setRow_grown w g _) (by simp [World.setRow]))

theorem w_drew_grown {w w1 : World} {row : Option Nat} (h : w.drew.grownBy w1 row) : w.grownBy w1 row := ⟨h.os, h.tape, h.output, h.size, h.block⟩
theorem rmv_own {w2 : World} {g cap i m : Nat} {cur : Array Value} {L : List Pk} (hm : L.length = i + 1 + m) (hs : cur.size = cap * 4) (ht : cur.toList.take (L.length * 4) = flat L) (hc : L.length ≤ cap) (hmx : cap ≤ maxLen)
    (hw : w2.heap[g]? = some (.cells ((cur.toList.take (i * 4) ++ (flat L).drop ((i + 1) * 4) ++ cur.toList.drop (i * 4 + ((flat L).drop ((i + 1) * 4)).length)).toArray.toList.take ((i + m) * 4) ++ zcells ++ (cur.toList.take (i * 4) ++ (flat L).drop ((i + 1) * 4) ++ cur.toList.drop (i * 4 + ((flat L).drop ((i + 1) * 4)).length)).toArray.toList.drop ((i + m) * 4 + 4)).toArray 49 (0, 0))) :
    PkOwn 0 w2 (.slice (some ⟨g, 0, none⟩) (i + m) cap) (rmv i L) := by
  have hl : (rmv i L).length = i + m := by simp [rmv]; omega
  have hd : ((flat L).drop ((i + 1) * 4)).length = m * 4 := by rw [List.length_drop, length_flat]; omega
  have hct : (cur.toList.take (i * 4)) = (flat L).take (i * 4) := by rw [← ht, List.take_take, Nat.min_eq_left (by omega)]
  have hcl : (cur.toList.take (i * 4)).length = i * 4 := by rw [List.length_take, Array.length_toList]; omega
  have hfirst : (cur.toList.take (i * 4) ++ (flat L).drop ((i + 1) * 4) ++ cur.toList.drop (i * 4 + ((flat L).drop ((i + 1) * 4)).length)).take ((i + m) * 4) = flat (rmv i L) := by
    rw [List.take_append_of_le_length (by rw [List.length_append, hcl, hd]; omega), List.take_of_length_le (by rw [List.length_append, hcl, hd]; omega), hct, flat_take, flat_drop, rmv, flat_append]
  refine ⟨length_flat _, .inr ⟨g, cap, _, by rw [hl], Nat.zero_le _, hw, by omega, hmx, ?_, ?_⟩⟩
  · rw [List.size_toArray]
    simp only [List.length_append, List.length_take, List.length_drop, Array.length_toList, hd, hs, show zcells.length = 4 from rfl]
    omega
  · rw [hl]
    simp only [hfirst]
    rw [List.append_assoc, List.take_append_of_le_length (by rw [length_flat, hl]; omega), List.take_of_length_le (by rw [length_flat, hl]; omega)]

set_option maxHeartbeats 4000000 in
/-- slices.Delete(s, i, i + 1) at packets. -/
theorem del_any (v : Value) (L : List Pk) (i : Nat) (w : World) (hv : PkOwn 0 w v L) (hL : L.length ≤ 1000000) (hi : i < L.length) :
    Calls Try.prog 35 #[v, .int .i64 (i : Int), .int .i64 ((i : Int) + 1)] w fun e w' => ∃ v', e = .returned v' ∧ v'.ownBlock = v.ownBlock ∧ PkOwn 0 w' v' (rmv i L) ∧ w.grownBy w' v.ownBlock := by
  obtain ⟨h1, h2⟩ := hv
  rcases h2 with ⟨rfl, h0⟩ | ⟨g, cap, cur, rfl, _, hh, hc, hmx, hsz, htk⟩
  · omega
  · unfold maxLen at hmx
    have hhd : w.drew.heap[g]? = some (.cells cur 49 (0, 0)) := hh
    have HHD := Lib.hid hhd
    have HH := Lib.hid hh
    have HS := Lib.hid hsz
    have HT := Lib.hid htk
    have H1 := Lib.hid h1
    have hq : ((i : Int) == (i : Int) + 1) = false := by simp; omega
    have hn0 : ((flat L).drop ((i + 1) * 4)).length = (L.length - (i + 1)) * 4 := by rw [List.length_drop, length_flat]; omega
    have hn1 : ∀ u ∈ (flat L).drop ((i + 1) * 4), u.oneCell' = true := fun u hu => flat_one L u (List.mem_of_mem_drop hu)
    have hfit : i * 4 + ((flat L).drop ((i + 1) * 4)).length ≤ cur.size := by rw [hn0, hsz]; omega
    have HN0 := Lib.hid hn0
    have HN1 := Lib.hid hn1
    have HF := Lib.hid hfit
    clear hh hhd hsz htk h1 hn0 hn1 hfit
    obtain ⟨m, hm⟩ : ∃ m, L.length = i + 1 + m := ⟨L.length - (i + 1), by omega⟩
    have hmm : L.length - (i + 1) = m := by omega
    rw [hmm] at HN0
    rw [hm] at hc hL ⊢
    clear hi hmm
    have HM := Lib.hid hm
    clear hm
    by_cases hcap : cap = i + 1
    · obtain rfl : m = 0 := by omega
      subst hcap
      have hnews : ∀ j u, ((flat L).drop ((i + 1) * 4))[j]? = some u → w.drew.cell? ((⟨g, 0, none⟩ : Addr).add j) = some u := fun j u hu => by
        have := (List.getElem?_eq_some_iff.1 hu).1
        rw [HN0.out] at this
        omega
      have HNW := Lib.hid hnews
      clear hnews
      have hic : (i : Int) ≤ (i : Int) + 1 := by omega
      have hj1 : (0 : Int) ≤ (i : Int) + 1 := by omega
      go_enter Try.func35, Try.ntmps35
      go_wp2_with fail
      go_region_law ((refine step_append_row rfl (.tmp 22) (.tmp 25) (by rfl) g i (i + 1) (by rfl) cur HHD.out ⟨g, 0, none⟩ 0 0 (by rfl) _ HN0.out HNW.out HN1.out (by omega) HF.out ?_; intro w1 hw1 hgr1 hs1
                      have HW1 := Lib.hid hw1
                      have HG1 := Lib.hid hgr1
                      clear hw1 hgr1 hs1))
      all_goals
        go_wp2_with (first | (refine wpList_clear_pk rfl (.tmp 31) rfl g _ _ _ rfl (by omega) _ HW1.out (by rw [List.size_toArray]; simp only [List.length_append, List.length_take, List.length_drop, Array.length_toList, HN0.out, HS.out]; omega) ?_; intro w2 hw2 hgr2 _) | fail)
        go_ret
        refine ⟨_, rfl, rfl, rmv_own HM.out HS.out HT.out (by rw [HM.out]; exact hc) (by unfold maxLen; omega) hw2, ?_⟩
        exact grown_trans (w_drew_grown HG1.out) hgr2
    · have hcap2 : i + 1 < cap := by omega
      have hnews : ∀ j u, ((flat L).drop ((i + 1) * 4))[j]? = some u → w.drew.cell? ((⟨g, (i + 1) * 4, none⟩ : Addr).add j) = some u := fun j u hu => by
        rw [List.getElem?_drop] at hu
        have hadd : (⟨g, (i + 1) * 4, none⟩ : Addr).add j = ⟨g, (i + 1) * 4 + j, none⟩ := by unfold Addr.add; split <;> simp_all
        rw [hadd, cell_of_row w.drew g _ cur 49 (0, 0) HH.out, ← hu, ← HT.out, List.getElem?_take, if_pos (by
          have := (List.getElem?_eq_some_iff.1 hu).1
          rw [length_flat] at this
          exact this)]
        simp
      have HNW := Lib.hid hnews
      clear hnews
      have hic : i ≤ cap := by omega
      have hj1 : (0 : Int) ≤ (i : Int) + 1 := by omega
      have hj2 : (i : Int) + 1 ≤ (i : Int) + 1 + (m : Int) := by omega
      have hj3 : (i : Int) + (m : Int) ≤ (i : Int) + 1 + (m : Int) := by omega
      have hj4 : (0 : Int) ≤ (i : Int) + (m : Int) := by omega
      have hj5 : i + 1 + m - (i + m) = 1 := by omega
      go_enter Try.func35, Try.ntmps35
      go_wp2_with fail
      go_region_law ((refine step_append_row rfl (.tmp 22) (.tmp 25) (by rfl) g i cap (by rfl) cur HHD.out ⟨g, (i + 1) * 4, none⟩ m (cap - (i + 1)) (by rfl) _ HN0.out HNW.out HN1.out (by omega) HF.out ?_; intro w1 hw1 hgr1 hs1
                      have HW1 := Lib.hid hw1
                      have HG1 := Lib.hid hgr1
                      clear hw1 hgr1 hs1))
      all_goals
        go_wp2_with (first | (refine wpList_clear_pk rfl (.tmp 31) rfl g _ _ _ rfl (by omega) _ HW1.out (by rw [List.size_toArray]; simp only [List.length_append, List.length_take, List.length_drop, Array.length_toList, HN0.out, HS.out]; omega) ?_; intro w2 hw2 hgr2 _) | fail)
        go_ret
        refine ⟨_, rfl, rfl, rmv_own HM.out HS.out HT.out (by rw [HM.out]; exact hc) (by unfold maxLen; omega) hw2, ?_⟩
        exact grown_trans (w_drew_grown HG1.out) hgr2
end Go.Proofs.Ytocpneliofjabaa
