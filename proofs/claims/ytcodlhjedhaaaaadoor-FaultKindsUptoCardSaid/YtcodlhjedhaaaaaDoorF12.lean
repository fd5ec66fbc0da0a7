/-
  Path; Trace.
-/
import Derived.Test.YtcodlhjedhaaaaaDoorF11
namespace Go.Proofs.YtcodlhjedhaaaaaDoor
open Go.RowKit
set_option maxRecDepth 100000

/-- The last path that is not empty. -/
def pathOf (L : List (ByteArray × ByteArray)) : ByteArray := L.foldl (fun p q => if q.2 = ⟨#[]⟩ then p else q.2) ⟨#[]⟩
theorem pathOf_take (L : List (ByteArray × ByteArray)) (k : Nat) (q : ByteArray × ByteArray) (h : L[k]? = some q) : pathOf (L.take (k + 1)) = if q.2 = ⟨#[]⟩ then pathOf (L.take k) else q.2 := by
  rw [List.take_add_one, h]
  simp [pathOf, List.foldl_append]
/-- What such a slice is, empty or not. -/
theorem own1_any {base : Nat} {e : TypeId} {w : World} {v : Value} {n : Nat} {xs : List Value} (h : w.ownsRow base e 1 v n xs) :
    ∃ a cap, v = .slice a n cap ∧ n ≤ cap ∧ cap ≤ maxLen ∧ ∀ i u, xs[i]? = some u → ∃ g, a = some ⟨g, 0, none⟩ ∧ base ≤ g ∧ g < w.heap.size ∧ w.cell? ⟨g, i, none⟩ = some u := by
  by_cases h0 : 0 < n
  · obtain ⟨g, cap, rfl, h1, h2, h3, h4, h5⟩ := own1_shape h h0
    exact ⟨_, cap, rfl, h3, h4, fun i u hu => ⟨g, rfl, h1, h2, h5 i u hu⟩⟩
  · obtain ⟨h1, h2⟩ := h
    obtain rfl : n = 0 := by omega
    have : xs = [] := List.eq_nil_of_length_eq_zero (by omega)
    subst this
    rcases h2 with ⟨rfl, _⟩ | ⟨g, cap, cur, rfl, hg, hh, h3, h4, _⟩
    · exact ⟨none, 0, rfl, by omega, by unfold maxLen; omega, fun i u hu => by simp at hu⟩
    · exact ⟨_, cap, rfl, h3, h4, fun i u hu => by simp at hu⟩

theorem ownsRow_base {B base : Nat} {e : TypeId} {size : Nat} {w : World} {v : Value} {n : Nat} {xs : List Value} (hB : B ≤ base) (h : w.ownsRow base e size v n xs) : w.ownsRow B e size v n xs := by
  obtain ⟨h1, h2⟩ := h
  refine ⟨h1, ?_⟩
  rcases h2 with h2 | ⟨g, cap, cur, rfl, hg, r⟩
  · exact .inl h2
  · exact .inr ⟨g, cap, cur, rfl, by omega, r⟩
set_option maxHeartbeats 4000000 in
/-- fault.Path. -/
theorem path_any (I : Nat → Prop) (x : Er) (v : Value) (w : World) (hE : ETy w) (h : ErAt I w x v) (hs : x.text.size ≤ 1000000000) :
    Calls Tryd.prog 20 #[v] w fun ex w' => ex = .returned (.string (pathOf x.way)) ∧ Below w.heap.size w w' := by
  have hw := way_any I x v w hE h hs
  have HL := Lib.hid (way_size x)
  clear h hE
  generalize x.way = L at hw HL ⊢
  go_enter Tryd.func20, Tryd.ntmps20
  go_wp2_with (go_at_call 34; refine hw.mono ?_; rintro e2 w2 ⟨v2, bs, rfl, hown, hfs, hb⟩; obtain ⟨a, cap, rfl, hc1, hc2, hc3⟩ := own1_any hown; clear hw hown)
  have hbl : bs.length ≤ 500000000 := by have := HL.out; have := hfs.1; omega
  have HC := Lib.hid hc3
  have HF := Lib.hid hfs
  have HB := Lib.hid hb
  unfold maxLen at hc2
  clear hc3 hfs hb
  go_loop [3, 9] (fun s i => ∃ k : Nat, k ≤ bs.length ∧ i = .int .i64 k ∧ s = .string (pathOf (L.take k))) (fun _ i => bs.length - (intOf i).toNat)
  case atStart => exact ⟨0, by omega, rfl, rfl⟩
  case round =>
    obtain ⟨k, hk, rfl, rfl⟩ := hrel
    by_cases hlt2 : k < bs.length
    · obtain ⟨b, hbk⟩ : ∃ b, bs[k]? = some b := ⟨_, List.getElem?_eq_getElem hlt2⟩
      obtain ⟨q, hq⟩ : ∃ q, L[k]? = some q := ⟨_, List.getElem?_eq_getElem (by rw [← HF.out.1]; exact hlt2)⟩
      obtain ⟨g, rfl, _, _, e0⟩ := HC.out k (.pointer (some ⟨b, 0, none⟩)) (by simp [ptrs, hbk])
      obtain ⟨hbl2, u, hr⟩ := HF.out.2 k b q hbk hq
      have c1 : w2.cell? ⟨b, 1, none⟩ = some (.string q.2) := (rowIs_below hr HB.out hbl2).cell (i := 1) (by omega)
      have HP := Lib.hid (pathOf_take L k q hq)
      clear hbk hq hr
      by_cases hp : q.2 = ⟨#[]⟩
      · rw [hp] at c1
        rw [if_pos hp] at HP
        go_wp2_with fail
        go_round
        case rel => exact ⟨k + 1, by omega, by go_num, by rw [HP.out]⟩
        case measure => simp [intOf]; omega
      · rw [if_neg hp] at HP
        have hp2 := isEmpty_ne q.2 hp
        go_wp2_with fail
        go_round
        case rel => exact ⟨k + 1, by omega, by go_num, by rw [HP.out]⟩
        case measure => simp [intOf]; omega
    · obtain rfl : k = bs.length := by omega
      go_wp2_with fail
      go_ret
      exact ⟨by rw [List.take_of_length_le (by rw [HF.out.1]; omega)]; rfl, HB.out⟩
set_option maxHeartbeats 4000000 in
/-- fault.Trace. -/
theorem trace_any (I : Nat → Prop) (x : Er) (v : Value) (w : World) (hE : ETy w) (h : ErAt I w x v) (hs : x.text.size ≤ 1000000000) :
    Calls Tryd.prog 22 #[v] w fun ex w' => ∃ v', ex = .returned v' ∧ w'.ownsRow w.heap.size 9 1 v' x.way.length (x.way.map fun q => .string q.1) ∧ Below w.heap.size w w' := by
  have hw := way_any I x v w hE h hs
  have HL := Lib.hid (way_size x)
  clear h hE
  generalize x.way = L at hw HL ⊢
  go_enter Tryd.func22, Tryd.ntmps22
  go_wp2_with (go_at_call 34; refine hw.mono ?_; rintro e2 w2 ⟨v2, bs, rfl, hown, hfs, hb⟩; obtain ⟨a, cap, rfl, hc1, hc2, hc3⟩ := own1_any hown; clear hw hown)
  have hbl : bs.length ≤ 500000000 := by have := HL.out; have := hfs.1; omega
  have HC := Lib.hid hc3
  have HF := Lib.hid hfs
  have HB := Lib.hid hb
  unfold maxLen at hc2
  clear hc3 hfs hb
  go_loopw [3, 9] (fun o i wr => ∃ k : Nat, k ≤ bs.length ∧ i = .int .i64 k ∧ wr.ownsRow w2.heap.size 9 1 o k ((L.take k).map fun q => Value.string q.1) ∧ Below w2.heap.size w2 wr) (fun _ i _ => bs.length - (intOf i).toNat)
  case atStart => exact ⟨0, by omega, rfl, World.ownsRow_nil _ _ _ _, Below.refl _ _⟩
  case round =>
    obtain ⟨k, hk, rfl, hown, hb⟩ := hrel
    by_cases hlt2 : k < bs.length
    · obtain ⟨b, hbk⟩ : ∃ b, bs[k]? = some b := ⟨_, List.getElem?_eq_getElem hlt2⟩
      obtain ⟨q, hq⟩ : ∃ q, L[k]? = some q := ⟨_, List.getElem?_eq_getElem (by rw [← HF.out.1]; exact hlt2)⟩
      obtain ⟨g, rfl, _, hg, e0⟩ := HC.out k (.pointer (some ⟨b, 0, none⟩)) (by simp [ptrs, hbk])
      obtain ⟨hbl2, u, hr⟩ := HF.out.2 k b q hbk hq
      have e1 := (hb.cell (p := ⟨g, k, none⟩) hg).trans e0
      have c1 : wr.cell? ⟨b, 0, none⟩ = some (.string q.1) := (rowIs_below (rowIs_below hr HB.out hbl2) hb (Nat.lt_of_lt_of_le hbl2 HB.out.size)).cell (i := 0) (by omega)
      have HP := Lib.hid (take_snoc (fun q : ByteArray × ByteArray => Value.string q.1) L k q hq)
      clear hbk hq hr e0
      go_wp2_with (first
        | (refine wpList_append_src rfl (.tmp 13) (.tmp 18) 45 rfl w2.heap.size 9 1 16 _ Tryd.underlying45 info9 rfl (by omega) _ _ _ rfl (ownsRow_keep hown (fun j hj => Go.Deep.blk_alloc_lt _ _ _ (World.ownsRow.lt hown j hj).2)) _ 1 [.string q.1] rfl (Src.of_block (Go.Deep.blk_alloc_new wr _) rfl) (by simp [Value.oneCell']) (by unfold maxLen; omega) (by omega) (by exact (hb.alloc hb.size _).size) ?_; intro v3 w3 hown3 hgr3 _
           have hb4 : Below w2.heap.size w2 w3 := (hb.alloc hb.size _).grown hgr3 (hb.alloc hb.size _).size (fun j hj => (World.ownsRow.lt hown j hj).1)
           have HO3 := Lib.hid hown3
           clear hown3 hgr3)
        | fail)
      go_roundw
      case rel => exact ⟨k + 1, by omega, by go_num, by rw [HP.out]; exact HO3.out, hb4⟩
      case measure => simp [intOf]; omega
    · obtain rfl : k = bs.length := by omega
      go_wp2_with fail
      go_ret
      rw [List.take_of_length_le (by rw [HF.out.1]; omega), HF.out.1] at hown
      exact ⟨_, rfl, ownsRow_base HB.out.size hown, HB.out.trans (hb.mono HB.out.size)⟩
end Go.Proofs.YtcodlhjedhaaaaaDoor
