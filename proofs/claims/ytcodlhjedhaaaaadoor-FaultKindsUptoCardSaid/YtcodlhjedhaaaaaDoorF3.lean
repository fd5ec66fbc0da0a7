/-
  (*List).Error; all errors' texts; Text.
-/
import Derived.Test.YtcodlhjedhaaaaaDoorF2
namespace Go.Proofs.YtcodlhjedhaaaaaDoor
open Go.RowKit
set_option maxRecDepth 100000

theorem wpList_append_src {P : Program} {w : World} {ops : Array Oper} {rest : List Oper} {o : Oper} {a : Act} {Q : Exit → Act → World → Prop} (hgd : o.guard = none) (s x : Operand) (t : TypeId)
    (ho : o.op = .call { callee := .builtin .append, args := #[s, x], argTypes := #[t, t] }) (base : Nat) (e : TypeId) (size bytes : Nat) (z : Value) (ht : P.underlying t = some (.slice e)) (hinfo : (P.info? e).map (fun i => (i.zero, i.size, i.bytes)) = some (some z, size, bytes)) (hzs : z.cells.size = size) (hsz : 0 < size)
    (v : Value) (n : Nat) (xs : List Value) (hs : a.eval s = v) (hown : w.ownsRow base e size v n xs) (xv : Value) (m : Nat) (news : List Value) (hxv : a.eval x = xv) (hx : Src w size xv m news) (h1 : ∀ u ∈ news, u.oneCell' = true)
    (h63 : n + m ≤ maxLen) (hbytes : (n + m) * bytes ≤ 140737488355328) (hbase : base ≤ w.heap.size)
    (h : ∀ v' w', w'.ownsRow base e size v' (n + m) (xs ++ news) → w.grownBy w' v.ownBlock → (v'.ownBlock = v.ownBlock ∨ v'.ownBlock = some w.heap.size) → wpList P ops Q rest (a.put o.dst v') w') : wpList P ops Q (o :: rest) a w :=
  wpList_plain hgd fun K hK => wp_append_src s x t ho base e size bytes z ht hinfo hzs hsz v n xs hs hown xv m news hxv hx h1 h63 hbytes hbase (fun v' w' h2 h3 h4 => hK _ _ (h v' w' h2 h3 h4))
theorem step_append_src {P : Program} {w : World} {ops : Array Oper} {o : Oper} {a : Act} {K : Act → World → Prop} {Q : Exit → Act → World → Prop} {E : Prop} (hgd : o.guard = none) (s x : Operand) (t : TypeId)
    (ho : o.op = .call { callee := .builtin .append, args := #[s, x], argTypes := #[t, t] }) (base : Nat) (e : TypeId) (size bytes : Nat) (z : Value) (ht : P.underlying t = some (.slice e)) (hinfo : (P.info? e).map (fun i => (i.zero, i.size, i.bytes)) = some (some z, size, bytes)) (hzs : z.cells.size = size) (hsz : 0 < size)
    (v : Value) (n : Nat) (xs : List Value) (hs : a.eval s = v) (hown : w.ownsRow base e size v n xs) (xv : Value) (m : Nat) (news : List Value) (hxv : a.eval x = xv) (hx : Src w size xv m news) (h1 : ∀ u ∈ news, u.oneCell' = true)
    (h63 : n + m ≤ maxLen) (hbytes : (n + m) * bytes ≤ 140737488355328) (hbase : base ≤ w.heap.size)
    (h : ∀ v' w', w'.ownsRow base e size v' (n + m) (xs ++ news) → w.grownBy w' v.ownBlock → (v'.ownBlock = v.ownBlock ∨ v'.ownBlock = some w.heap.size) → K (a.put o.dst v') w') : if Region.wanted o (yielded ops a.tmps) = true then Oper.wp P o a w K Q else E := by
  have hw : Region.wanted o (yielded ops a.tmps) = true := by simp [Region.wanted, hgd]
  rw [if_pos hw]
  exact wp_append_src s x t ho base e size bytes z ht hinfo hzs hsz v n xs hs hown xv m news hxv hx h1 h63 hbytes hbase h
theorem ownsRow_keep {base : Nat} {e : TypeId} {size : Nat} {w w' : World} {v : Value} {n : Nat} {xs : List Value} (h : w.ownsRow base e size v n xs) (hb : ∀ k, v.ownBlock = some k → w'.heap[k]? = w.heap[k]?) : w'.ownsRow base e size v n xs := by
  obtain ⟨h1, h2⟩ := h
  refine ⟨h1, ?_⟩
  rcases h2 with h2 | ⟨g, cap, cur, rfl, hg, hh, r⟩
  · exact .inl h2
  · exact .inr ⟨g, cap, cur, rfl, hg, by rw [hb g rfl]; exact hh, r⟩
/-- A row of its own in a world that is as it was below its end. -/
theorem ownsRow_under {base : Nat} {e : TypeId} {size : Nat} {w w' : World} {v : Value} {n : Nat} {xs : List Value} (h : w.ownsRow base e size v n xs) (hb : Below w.heap.size w w') : w'.ownsRow base e size v n xs :=
  ownsRow_keep h (fun k hk => hb.block k (World.ownsRow.lt h k hk).2)
/-- What such a slice is, one cell an element. -/
theorem own1_shape {base : Nat} {e : TypeId} {w : World} {v : Value} {n : Nat} {xs : List Value} (h : w.ownsRow base e 1 v n xs) (h0 : 0 < n) :
    ∃ g cap, v = .slice (some ⟨g, 0, none⟩) n cap ∧ base ≤ g ∧ g < w.heap.size ∧ n ≤ cap ∧ cap ≤ maxLen ∧ ∀ i u, xs[i]? = some u → w.cell? ⟨g, i, none⟩ = some u := by
  have hc := @World.ownsRow.cells w base e 1 v n xs h
  obtain ⟨h1, h2⟩ := h
  rcases h2 with ⟨_, h2⟩ | ⟨g, cap, cur, rfl, hg, hh, h3, h4, h5, h6⟩
  · omega
  · refine ⟨g, cap, rfl, hg, (Array.getElem?_eq_some_iff.1 hh).1, h3, h4, fun i u hu => ?_⟩
    have := hc rfl i u hu
    rwa [Addr.add_mid, Nat.zero_add] at this

theorem info9 : (Tryd.prog.info? 9).map (fun i => (i.zero, i.size, i.bytes)) = some (some (.string ⟨#[]⟩), 1, 16) := by kernel_rfl
theorem take_snoc {α β : Type} (f : α → β) (l : List α) (k : Nat) (x : α) (h : l[k]? = some x) : (l.take (k + 1)).map f = (l.take k).map f ++ [f x] := by
  rw [List.take_add_one, h]
  simp

theorem gPow : Tryd.prog.globalNamed "internal/strconv.uint64pow10" = some 2 := by kernel_rfl
theorem Tab.pos {w : World} (h : Tab w) : 2 < w.heap.size := by
  have hc := World.var?_cell gPow h 0
  rcases Nat.lt_or_ge 2 w.heap.size with h1 | h1
  · exact h1
  · simp [World.cell?, Array.getElem?_eq_none h1, Lib.pow10Tab] at hc
theorem Tab.under {w w' : World} (h : Tab w) (hb : Below w.heap.size w w') : Tab w' :=
  (World.Since.var (B := w.heap.size) ⟨hb.os, hb.tape, hb.output, hb.size, hb.block⟩ gPow h.pos).trans h

set_option maxHeartbeats 4000000 in
/-- (*List).Error. -/
theorem listError_any (l : List Er) (b g n cap : Nat) (us : Nat → Value) (w : World) (hT : Tab w) (hl : l.length = n) (h2 : 2 ≤ n) (hcap : n ≤ cap) (hmax : n ≤ 1000000) (hg : g < w.heap.size) (hr : w.rowIs b 66 1 (fun _ => .slice (some ⟨g, 0, none⟩) n cap))
    (hc : ∀ i, i < n → w.cell? ⟨g, i, none⟩ = some (us i)) (hs : (Er.lst l).text.size ≤ 1000000000) (hk : ∀ (i : Nat) x, l[i]? = some x → (∃ t u, us i = .iface t u) ∧ Tells w x (us i)) :
    Calls Tryd.prog 16 #[.pointer (some ⟨b, 0, none⟩)] w fun ex w' => ex = .returned (.string (Er.lst l).text) ∧ Below w.heap.size w w' := by
  have c0 : w.cell? ⟨b, 0, none⟩ = some (.slice (some ⟨g, 0, none⟩) n cap) := hr.cell (i := 0) (by omega)
  have HC := Lib.hid hc
  have HK := Lib.hid hk
  have HL := Lib.hid hl
  have HT := Lib.hid hT
  have HS := Lib.hid hs
  rw [text_lst]
  clear hc hk hl hT hr hs
  go_enter Tryd.func16, Tryd.ntmps16
  go_wp2_with fail
  go_loopw [3, 11] (fun o i wr => ∃ k : Nat, k ≤ n ∧ i = .int .i64 k ∧ wr.ownsRow w.heap.size 9 1 o k ((l.take k).map (fun x => Value.string x.text)) ∧ Below w.heap.size w wr) (fun _ i _ => n - (intOf i).toNat)
  case atStart => exact ⟨0, by omega, rfl, World.ownsRow_nil _ _ _ _, Below.refl _ _⟩
  case round =>
    obtain ⟨k, hk, rfl, hown, hb⟩ := hrel
    by_cases hlt2 : k < n
    · obtain ⟨x, hx⟩ : ∃ x, l[k]? = some x := ⟨_, List.getElem?_eq_getElem (by rw [HL.out]; exact hlt2)⟩
      obtain ⟨⟨t, u, hu⟩, htell⟩ := HK.out k x hx
      obtain ⟨htt, hm, hcall⟩ := htell t u hu
      have hcall := hcall wr hb (Tab.under HT.out hb)
      have e0 : wr.cell? ⟨g, k, none⟩ = some (.iface t u) := (hb.cell (p := ⟨g, k, none⟩) hg).trans ((HC.out k hlt2).trans (by rw [hu]))
      have hts := take_snoc (fun x : Er => Value.string x.text) l k x hx
      have HTS := Lib.hid hts
      have HOWN := Lib.hid hown
      clear hx hu htell hts hown
      rcases htt with rfl | rfl | rfl
      all_goals
        simp only [errFn] at hm hcall
        go_wp2_with (first
          | (refine hcall.mono ?_; rintro e2 w2 ⟨rfl, hb2⟩
             have hb3 : Below w.heap.size w w2 := hb.trans (hb2.mono hb.size)
             have hown2 := ownsRow_under HOWN.out hb2
             clear hcall)
          | (refine wpList_append_src rfl (.tmp 15) (.tmp 18) 45 rfl w.heap.size 9 1 16 _ Tryd.underlying45 info9 rfl (by omega) _ _ _ rfl (ownsRow_keep hown2 (fun j hj => Go.Deep.blk_alloc_lt _ _ _ (World.ownsRow.lt hown2 j hj).2)) _ 1 [.string x.text] rfl (Src.of_block (Go.Deep.blk_alloc_new w2 _) rfl) (by simp [Value.oneCell']) (by unfold maxLen; omega) (by omega) (by exact (hb3.alloc hb3.size _).size) ?_; intro v3 w3 hown3 hgr3 _
             have hb4 : Below w.heap.size w w3 := (hb3.alloc hb3.size _).grown hgr3 (hb3.alloc hb3.size _).size (fun j hj => (World.ownsRow.lt hown2 j hj).1)
             have HO3 := Lib.hid hown3
             clear hown3 hgr3)
          | fail)
        go_roundw
        case rel => exact ⟨k + 1, by omega, by go_num, by rw [HTS.out]; exact HO3.out, hb4⟩
        case measure => simp [intOf]; omega
    · obtain rfl : k = n := by omega
      rw [List.take_of_length_le (by rw [HL.out]; omega)] at hown
      obtain ⟨g2, cap2, rfl, hg2, hg3, hc2, hc3, hcell⟩ := own1_shape hown (by omega)
      have hj := Tryd.strings_Join g2 0 cap2 (l.map Er.text) ⟨#[59, 32]⟩ wr (fun j y hy => by
        rw [Nat.zero_add]
        refine hcell j _ ?_
        simp only [List.getElem?_map, Option.map_eq_some_iff] at hy ⊢
        obtain ⟨a, ha, rfl⟩ := hy
        exact ⟨a, ha, rfl⟩) hg3 (by rw [List.length_map, HL.out]; omega) (by rw [List.length_map, HL.out]; exact hc2) (by
        have := HS.out
        rw [text_lst] at this
        simp only [joinT, ByteArray.size] at this
        simp at this ⊢
        omega)
      rw [List.length_map, HL.out] at hj
      go_wp2_with (refine hj.mono ?_; rintro e2 w2 ⟨rfl, hb2⟩)
      go_ret
      exact ⟨by unfold joinT; rw [List.map_map]; rfl, hb.trans (hb2.mono hb.size)⟩

/-- Every error tells its text. -/
theorem tells_all {I : Nat → Prop} {w : World} {x : Er} {v : Value} (h : ErAt I w x v) (hT : Tab w) (hs : x.text.size ≤ 1000000000) : Tells w x v := by
  induction h with
  | none => intro t u e; cases e
  | num e h0 h1 =>
    intro t u e
    cases e
    exact ⟨by simp, fun w' => errNum _ _, fun w' hb hT' => by rw [Er.text]; exact errnoError_any _ (by omega) h1 w' hT'⟩
  | flt op path x b u hx hI hr hu ih =>
    intro t u' e
    cases e
    refine ⟨by simp, fun w' => errFlt _ _, fun w' hb hT' => ?_⟩
    have ih := ih (Nat.le_trans (size_inner op path x) hs)
    cases u with
    | iface t u => exact faultError_any op path x b t u w' hT' (hr.of_block (hb.block b hr.lt)) hs (fun t2 u2 e2 => by
        obtain ⟨q1, q2, q3⟩ := ih t2 u2 e2
        exact ⟨q1, q2, fun w2 hb2 hT2 => q3 w2 (hb.trans (hb2.mono hb.size)) hT2⟩)
    | _ => cases hu <;> exact absurd rfl hx
  | lst l b g n cap us hl h2 hcap hmax hI hIg hg hr hc hx hu ih =>
    intro t u' e
    cases e
    refine ⟨by simp, fun w' => errLst _ _, fun w' hb hT' => ?_⟩
    refine listError_any l b g n cap us w' hT' hl h2 hcap hmax (Nat.lt_of_lt_of_le hg hb.size) (hr.of_block (hb.block b hr.lt)) (fun i hi => (hb.cell (p := ⟨g, i, none⟩) hg).trans (hc i hi)) hs (fun i x hix => ?_)
    have ih := ih i x hix (Nat.le_trans (size_kid l i x hix) hs)
    have hui := hu i x hix
    refine ⟨?_, fun t2 u2 e2 => ?_⟩
    · cases hq : us i with
      | iface t u => exact ⟨t, u, rfl⟩
      | _ => rw [hq] at hui; cases hui <;> exact absurd rfl (hx i _ hix)
    · obtain ⟨q1, q2, q3⟩ := ih t2 u2 e2
      exact ⟨q1, q2, fun w2 hb2 hT2 => q3 w2 (hb.trans (hb2.mono hb.size)) hT2⟩

set_option maxHeartbeats 2000000 in
/-- fault.Text. -/
theorem text_any {I : Nat → Prop} {w : World} {x : Er} {v : Value} (h : ErAt I w x v) (hT : Tab w) (hs : x.text.size ≤ 1000000000) :
    Calls Tryd.prog 14 #[v] w fun ex w' => ex = .returned (.string x.text) ∧ Below w.heap.size w w' := by
  by_cases hn : x = .none
  · subst hn
    cases h
    rw [Er.text]
    go_enter Tryd.func14, Tryd.ntmps14
    go_wp2_with fail
    go_ret
    exact ⟨rfl, Below.refl _ _⟩
  · have ht := tells_all h hT hs
    cases v with
    | iface t u =>
      obtain ⟨q1, q2, q3⟩ := ht t u rfl
      have q3 := q3 w (Below.refl _ _) hT
      clear ht h
      rcases q1 with rfl | rfl | rfl
      all_goals
        simp only [errFn] at q2 q3
        go_enter Tryd.func14, Tryd.ntmps14
        go_wp2_with (refine q3.mono ?_; rintro e2 w2 ⟨rfl, hb⟩)
        go_ret
        exact ⟨rfl, hb⟩
    | _ => cases h <;> exact absurd rfl hn
end Go.Proofs.YtcodlhjedhaaaaaDoor
