/-
  APPENDS of packets and of pairs, whatever the source: as laws for the walk.
-/
import Derived.Test.YtocpneliofjabaaP1
import Derived.Maps.AppendAt
import Derived.Laws.OwnMore
namespace Go.Proofs.Ytocpneliofjabaa
open Go.RowKit
set_option maxRecDepth 100000

/-- A packet by value. -/
def pka (x : Pk) : Value := .agg #[.int .i64 x.id, .int .i64 x.fr, .int .i64 x.to, .string x.body]
theorem sz49 : (Try.prog.info? 49).map (·.size) = some 4 := by kernel_rfl
theorem info49 : (Try.prog.info? 49).map (fun i => (i.zero, i.size, i.bytes)) = some (some (pka ⟨0, 0, 0, ⟨#[]⟩⟩), 4, 40) := by kernel_rfl
theorem info65 : (Try.prog.info? 65).map (fun i => (i.zero, i.size, i.bytes)) = some (some (pv 0 0), 2, 16) := by kernel_rfl
theorem flat_one (L : List Pk) : ∀ u ∈ flat L, u.oneCell' = true := by
  intro u hu
  obtain ⟨x, _, hx⟩ := List.mem_flatMap.1 hu
  simp [pkv] at hx
  rcases hx with rfl | rfl | rfl | rfl <;> rfl
theorem PkOwn.shape {base : Nat} {w : World} {v : Value} {L : List Pk} (h : PkOwn base w v L) :
    ∃ a cap, v = .slice a L.length cap ∧ L.length ≤ cap ∧ cap ≤ maxLen ∧ ∀ i x, L[i]? = some x → ∃ g, a = some ⟨g, 0, none⟩ ∧ v.ownBlock = some g ∧ base ≤ g ∧ g < w.heap.size ∧ w.cell? ⟨g, i * 4, none⟩ = some (.int .i64 x.id) ∧ w.cell? ⟨g, i * 4 + 1, none⟩ = some (.int .i64 x.fr) ∧ w.cell? ⟨g, i * 4 + 2, none⟩ = some (.int .i64 x.to) ∧ w.cell? ⟨g, i * 4 + 3, none⟩ = some (.string x.body) := by
  by_cases hL : 0 < L.length
  · obtain ⟨g, cap, rfl, hb, hg, hc1, hc2, hc⟩ := h.at hL
    exact ⟨some ⟨g, 0, none⟩, cap, rfl, hc1, hc2, fun i x hx => ⟨g, rfl, rfl, hb, hg, hc i x hx⟩⟩
  · obtain ⟨h1, h2⟩ := h
    have e0 : L.length = 0 := by omega
    rcases h2 with ⟨rfl, _⟩ | ⟨g, cap, cur, rfl, _, _, h3, h4, _⟩
    · exact ⟨none, 0, by rw [e0], by omega, by unfold maxLen; omega, fun i x hx => by have := (List.getElem?_eq_some_iff.1 hx).1; omega⟩
    · exact ⟨some ⟨g, 0, none⟩, cap, rfl, h3, h4, fun i x hx => by have := (List.getElem?_eq_some_iff.1 hx).1; omega⟩

/-! ### A source: so many elements, their cells in a row -/
def Src (w : World) (size : Nat) (x : Value) (m : Nat) (news : List Value) : Prop :=
  news.length = m * size ∧ ((x = .slice none 0 0 ∧ m = 0) ∨ ∃ ad c, x = .slice (some ad) m c ∧ ∀ j u, news[j]? = some u → w.cell? (ad.add j) = some u)
theorem Src.of_own {w : World} {base : Nat} {e : TypeId} {size : Nat} {v : Value} {n : Nat} {xs : List Value} (h : w.ownsRow base e size v n xs) : Src w size v n xs := by
  have hc := @World.ownsRow.cells w base e size v n xs h
  obtain ⟨h1, h2⟩ := h
  refine ⟨h1, ?_⟩
  rcases h2 with h2 | ⟨g, cap, cur, rfl, _⟩
  · exact .inl h2
  · exact .inr ⟨_, cap, rfl, hc rfl⟩
theorem Src.of_block {w : World} {size b m c : Nat} {cs : List Value} {t : TypeId} {fr : Nat × Nat} (hb : w.heap[b]? = some (.cells cs.toArray t fr)) (hl : cs.length = m * size) : Src w size (.slice (some ⟨b, 0, none⟩) m c) m cs :=
  ⟨hl, .inr ⟨_, _, rfl, fun j u hu => by
    have hadd : (⟨b, 0, none⟩ : Addr).add j = ⟨b, j, none⟩ := by unfold Addr.add; split <;> simp_all
    rw [hadd, cell_of_row w b j cs.toArray t fr hb]
    simpa using hu⟩⟩
theorem Src.nil {w : World} {size : Nat} : Src w size (.slice none 0 0) 0 [] := ⟨by simp, .inl ⟨rfl, rfl⟩⟩
theorem Src.keep {w w' : World} {size : Nat} {x : Value} {m : Nat} {news : List Value} (h : Src w size x m news) (hb : ∀ a, x.ownBlock = some a → w'.heap[a]? = w.heap[a]?) : Src w' size x m news := by
  obtain ⟨h1, h2⟩ := h
  refine ⟨h1, ?_⟩
  rcases h2 with h2 | ⟨ad, c, rfl, hc⟩
  · exact .inl h2
  · refine .inr ⟨ad, c, rfl, fun j u hu => ?_⟩
    rw [World.cell?_of_block (w := w) (by rw [show (ad.add j).block = ad.block by unfold Addr.add; split <;> rfl]; exact hb _ rfl)]
    exact hc j u hu

section
variable {P : Program}
theorem run_append_src (w : World) (base : Nat) (t ty e : TypeId) (size bytes : Nat) (z : Value) (ht : P.underlying t = some (.slice e)) (hinfo : (P.info? e).map (fun i => (i.zero, i.size, i.bytes)) = some (some z, size, bytes)) (hzs : z.cells.size = size) (hsz : 0 < size)
    (v : Value) (n : Nat) (xs : List Value) (hown : w.ownsRow base e size v n xs) (x : Value) (m : Nat) (news : List Value) (hx : Src w size x m news) (h1 : ∀ u ∈ news, u.oneCell' = true)
    (h63 : n + m ≤ maxLen) (hbytes : (n + m) * bytes ≤ 140737488355328) (hbase : base ≤ w.heap.size) :
    ∃ v' w', (Builtin.append_ #[t, t] ty #[v, x]).run P w = .ok v' w' ∧ w'.ownsRow base e size v' (n + m) (xs ++ news) ∧ w.grownBy w' v.ownBlock ∧ (v'.ownBlock = v.ownBlock ∨ v'.ownBlock = some w.heap.size) := by
  obtain ⟨i, hi, hz, hz1, hz2⟩ := info_parts hinfo
  obtain ⟨hl, hx⟩ := hx
  rcases hx with ⟨rfl, rfl⟩ | ⟨ad, c, rfl, hnews⟩
  · obtain rfl : news = [] := List.eq_nil_of_length_eq_zero (by simpa using hl)
    exact ⟨v, w, run_append_owned_none (w := w) base t ty e i size ht hi v n xs hown, by simpa using hown, ⟨rfl, rfl, rfl, Nat.le_refl _, fun _ _ _ => rfl⟩, .inl rfl⟩
  · obtain ⟨v', w', h2, h3, h4, _, h5⟩ := run_append_own_at (P := P) w base t ty e i z size bytes ht hi hz hz1 hz2 hzs hsz v n xs hown ad m c news hl hnews h1 h63 hbytes hbase
    exact ⟨v', w', h2, h3, h4, h5⟩
theorem wp_append_src {w : World} {o : Oper} {a : Act} {K : Act → World → Prop} {Q : Exit → Act → World → Prop} (s x : Operand) (t : TypeId)
    (ho : o.op = .call { callee := .builtin .append, args := #[s, x], argTypes := #[t, t] }) (base : Nat) (e : TypeId) (size bytes : Nat) (z : Value) (ht : P.underlying t = some (.slice e)) (hinfo : (P.info? e).map (fun i => (i.zero, i.size, i.bytes)) = some (some z, size, bytes)) (hzs : z.cells.size = size) (hsz : 0 < size)
    (v : Value) (n : Nat) (xs : List Value) (hs : a.eval s = v) (hown : w.ownsRow base e size v n xs) (xv : Value) (m : Nat) (news : List Value) (hxv : a.eval x = xv) (hx : Src w size xv m news) (h1 : ∀ u ∈ news, u.oneCell' = true)
    (h63 : n + m ≤ maxLen) (hbytes : (n + m) * bytes ≤ 140737488355328) (hbase : base ≤ w.heap.size)
    (h : ∀ v' w', w'.ownsRow base e size v' (n + m) (xs ++ news) → w.grownBy w' v.ownBlock → (v'.ownBlock = v.ownBlock ∨ v'.ownBlock = some w.heap.size) → K (a.put o.dst v') w') : o.wp P a w K Q := by
  obtain ⟨v', w', hr, h2, h3, h4⟩ := run_append_src (P := P) w base t o.type e size bytes z ht hinfo hzs hsz v n xs hown xv m news hx h1 h63 hbytes hbase
  unfold Oper.wp execOp
  simp only [ho, resolve, invoke, builtin, Sem.run_bind, Sem.run_pure, Result.andThen_ok, List.map_toArray, List.map_cons, List.map_nil, hs, hxv, hr]
  exact h v' w' h2 h3 h4
end

/-- append of packets. -/
theorem wpList_append_pk {w : World} {ops : Array Oper} {rest : List Oper} {o : Oper} {a : Act} {Q : Exit → Act → World → Prop} (hgd : o.guard = none) (s x : Operand)
    (ho : o.op = .call { callee := .builtin .append, args := #[s, x], argTypes := #[29, 29] }) (base : Nat) (v : Value) (L : List Pk) (hs : a.eval s = v) (hown : PkOwn base w v L) (xv : Value) (M : List Pk) (hxv : a.eval x = xv) (hx : Src w 4 xv M.length (flat M))
    (hfit : L.length + M.length ≤ 3000000) (hbase : base ≤ w.heap.size)
    (h : ∀ v' w', PkOwn base w' v' (L ++ M) → w.grownBy w' v.ownBlock → (v'.ownBlock = v.ownBlock ∨ v'.ownBlock = some w.heap.size) → wpList Try.prog ops Q rest (a.put o.dst v') w') : wpList Try.prog ops Q (o :: rest) a w := by
  refine wpList_plain hgd fun K hK => ?_
  refine wp_append_src s x 29 ho base 49 4 40 _ Try.underlying29 info49 rfl (by omega) v L.length (flat L) hs hown xv M.length (flat M) hxv hx (flat_one M) (by unfold maxLen; omega) (by omega) hbase (fun v' w' h1 h2 h3 => hK _ _ (h v' w' ?_ h2 h3))
  unfold PkOwn
  rw [List.length_append, flat_append]
  exact h1
theorem step_append_pk {w : World} {ops : Array Oper} {o : Oper} {a : Act} {K : Act → World → Prop} {Q : Exit → Act → World → Prop} {E : Prop} (hgd : o.guard = none) (s x : Operand)
    (ho : o.op = .call { callee := .builtin .append, args := #[s, x], argTypes := #[29, 29] }) (base : Nat) (v : Value) (L : List Pk) (hs : a.eval s = v) (hown : PkOwn base w v L) (xv : Value) (M : List Pk) (hxv : a.eval x = xv) (hx : Src w 4 xv M.length (flat M))
    (hfit : L.length + M.length ≤ 3000000) (hbase : base ≤ w.heap.size)
    (h : ∀ v' w', PkOwn base w' v' (L ++ M) → w.grownBy w' v.ownBlock → (v'.ownBlock = v.ownBlock ∨ v'.ownBlock = some w.heap.size) → K (a.put o.dst v') w') :
    if Region.wanted o (yielded ops a.tmps) = true then Oper.wp Try.prog o a w K Q else E := by
  have hw : Region.wanted o (yielded ops a.tmps) = true := by simp [Region.wanted, hgd]
  rw [if_pos hw]
  refine wp_append_src s x 29 ho base 49 4 40 _ Try.underlying29 info49 rfl (by omega) v L.length (flat L) hs hown xv M.length (flat M) hxv hx (flat_one M) (by unfold maxLen; omega) (by omega) hbase (fun v' w' h1 h2 h3 => h v' w' ?_ h2 h3)
  unfold PkOwn
  rw [List.length_append, flat_append]
  exact h1

/-! ### Pairs -/
def flat2 (L : List (Int × Int)) : List Value := L.flatMap (fun p => [.int .i64 p.1, .int .i64 p.2])
theorem length_flat2 : ∀ L : List (Int × Int), (flat2 L).length = L.length * 2
  | [] => rfl
  | x :: L => by
    have ih := length_flat2 L
    unfold flat2 at ih ⊢
    rw [List.flatMap_cons, List.length_append, ih]
    simp
    omega
theorem flat2_append (A B : List (Int × Int)) : flat2 (A ++ B) = flat2 A ++ flat2 B := by simp [flat2]
theorem flat2_one (L : List (Int × Int)) : ∀ u ∈ flat2 L, u.oneCell' = true := by
  intro u hu
  obtain ⟨x, _, hx⟩ := List.mem_flatMap.1 hu
  simp at hx
  rcases hx with rfl | rfl <;> rfl
theorem flat2_get : ∀ (L : List (Int × Int)) (i : Nat) (x : Int × Int), L[i]? = some x → (flat2 L)[i * 2]? = some (.int .i64 x.1) ∧ (flat2 L)[i * 2 + 1]? = some (.int .i64 x.2)
  | [], i, x, h => by simp at h
  | y :: L, 0, x, h => by
    obtain rfl : y = x := by simpa using h
    exact ⟨rfl, rfl⟩
  | y :: L, i + 1, x, h => by
    have ih := flat2_get L i x (by simpa using h)
    have e : flat2 (y :: L) = .int .i64 y.1 :: .int .i64 y.2 :: flat2 L := rfl
    rw [e, show (i + 1) * 2 = i * 2 + 1 + 1 by omega, show i * 2 + 1 + 1 + 1 = (i * 2 + 1) + 1 + 1 by omega]
    simp only [List.getElem?_cons_succ]
    exact ih
def PrOwn (base : Nat) (w : World) (v : Value) (L : List (Int × Int)) : Prop := w.ownsRow base 65 2 v L.length (flat2 L)
theorem PrOwn.keep {base : Nat} {w w' : World} {v : Value} {L : List (Int × Int)} (h : PrOwn base w v L) (hb : ∀ k, v.ownBlock = some k → w'.heap[k]? = w.heap[k]?) : PrOwn base w' v L := by
  obtain ⟨h1, h2⟩ := h
  refine ⟨h1, ?_⟩
  rcases h2 with h2 | ⟨g, cap, cur, rfl, hg, hh, r⟩
  · exact .inl h2
  · exact .inr ⟨g, cap, cur, rfl, hg, by rw [hb g rfl]; exact hh, r⟩
theorem PrOwn.shape {base : Nat} {w : World} {v : Value} {L : List (Int × Int)} (h : PrOwn base w v L) :
    ∃ a cap, v = .slice a L.length cap ∧ L.length ≤ cap ∧ cap ≤ maxLen ∧ ∀ i x, L[i]? = some x → ∃ g, a = some ⟨g, 0, none⟩ ∧ v.ownBlock = some g ∧ base ≤ g ∧ g < w.heap.size ∧ w.cell? ⟨g, i * 2, none⟩ = some (.int .i64 x.1) ∧ w.cell? ⟨g, i * 2 + 1, none⟩ = some (.int .i64 x.2) := by
  obtain ⟨h1, h2⟩ := h
  rcases h2 with ⟨rfl, h2⟩ | ⟨g, cap, cur, rfl, hg, hh, hc, hmx, hsz, htk⟩
  · exact ⟨none, 0, by rw [h2], by omega, by unfold maxLen; omega, fun i x hx => by have := (List.getElem?_eq_some_iff.1 hx).1; omega⟩
  · refine ⟨some ⟨g, 0, none⟩, cap, rfl, hc, hmx, fun i x hx => ⟨g, rfl, rfl, hg, (Array.getElem?_eq_some_iff.1 hh).1, ?_⟩⟩
    have hi : i < L.length := (List.getElem?_eq_some_iff.1 hx).1
    have key : ∀ j, j < 2 → w.cell? ⟨g, i * 2 + j, none⟩ = (flat2 L)[i * 2 + j]? := fun j hj => by
      rw [cell_of_row w g (i * 2 + j) cur 65 (0, 0) hh, ← htk, List.getElem?_take, if_pos (by omega)]
      simp
    exact ⟨(key 0 (by omega)).trans (flat2_get L i x hx).1, (key 1 (by omega)).trans (flat2_get L i x hx).2⟩
/-- append of pairs. -/
theorem wpList_append_pr {w : World} {ops : Array Oper} {rest : List Oper} {o : Oper} {a : Act} {Q : Exit → Act → World → Prop} (hgd : o.guard = none) (s x : Operand)
    (ho : o.op = .call { callee := .builtin .append, args := #[s, x], argTypes := #[30, 30] }) (base : Nat) (v : Value) (L : List (Int × Int)) (hs : a.eval s = v) (hown : PrOwn base w v L) (xv : Value) (M : List (Int × Int)) (hxv : a.eval x = xv) (hx : Src w 2 xv M.length (flat2 M))
    (hfit : L.length + M.length ≤ 3000000) (hbase : base ≤ w.heap.size)
    (h : ∀ v' w', PrOwn base w' v' (L ++ M) → w.grownBy w' v.ownBlock → (v'.ownBlock = v.ownBlock ∨ v'.ownBlock = some w.heap.size) → wpList Try.prog ops Q rest (a.put o.dst v') w') : wpList Try.prog ops Q (o :: rest) a w := by
  refine wpList_plain hgd fun K hK => ?_
  refine wp_append_src s x 30 ho base 65 2 16 _ Try.underlying30 info65 rfl (by omega) v L.length (flat2 L) hs hown xv M.length (flat2 M) hxv hx (flat2_one M) (by unfold maxLen; omega) (by omega) hbase (fun v' w' h1 h2 h3 => hK _ _ (h v' w' ?_ h2 h3))
  unfold PrOwn
  rw [List.length_append, flat2_append]
  exact h1
end Go.Proofs.Ytocpneliofjabaa
