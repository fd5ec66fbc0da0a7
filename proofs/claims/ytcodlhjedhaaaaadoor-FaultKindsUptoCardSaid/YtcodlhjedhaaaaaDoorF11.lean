/-
  way, walked.
-/
import Derived.Test.YtcodlhjedhaaaaaDoorF10
namespace Go.Proofs.YtcodlhjedhaaaaaDoor
open Go.RowKit
set_option maxRecDepth 100000

set_option maxHeartbeats 8000000 in
/-- way. -/
theorem way_any (I : Nat → Prop) (x : Er) (v : Value) (w : World) (hE : ETy w) (h : ErAt I w x v) (hs : x.text.size ≤ 1000000000) :
    Calls Tryd.prog 34 #[v] w fun ex w' => ∃ v' bs, ex = .returned v' ∧ w'.ownsRow w.heap.size 29 1 v' bs.length (ptrs bs) ∧ Fs w bs x.way ∧ Below w.heap.size w w' := by
  have HS := Lib.hid (way_size x)
  have HS2 := Lib.hid hs
  have HE := Lib.hid hE
  have HREL := Lib.hid (show ∃ (y : Er) (bs : List Nat) (pre : List (ByteArray × ByteArray)), y.sz ≤ x.sz ∧ ErAt (fun b => b < w.heap.size) w y v ∧ pre ++ y.way = x.way ∧ Fs w bs pre ∧ w.ownsRow w.heap.size 29 1 (.slice none 0 0) bs.length (ptrs bs) from
    ⟨x, [], [], Nat.le_refl _, h.any _ (fun b _ hb => hb), rfl, Fs.nil w, World.ownsRow_nil _ _ _ _⟩)
  clear hs hE h
  go_enter Tryd.func34, Tryd.ntmps34
  go_wp2
  go_loopg [0, 3] x.sz (fun k v o wr => ∃ (y : Er) (bs : List Nat) (pre : List (ByteArray × ByteArray)), y.sz ≤ k ∧ ErAt (fun b => b < w.heap.size) w y v ∧ pre ++ y.way = x.way ∧ Fs w bs pre ∧ wr.ownsRow w.heap.size 29 1 o bs.length (ptrs bs) ∧ Below w.heap.size w wr)
  case atStart => obtain ⟨y, bs, pre, h1, h2, h3, h4, h5⟩ := HREL.out; exact ⟨y, bs, pre, h1, h2, h3, h4, h5, Below.refl _ _⟩
  case round =>
    obtain ⟨y, bs, pre, hy1, hy2, hy3, hy4, hown, hb⟩ := hrel
    have HB := Lib.hid hb
    have HO := Lib.hid hown
    have HY := Lib.hid hy2
    cases hy2 with
    | none =>
      rw [Er.way, List.append_nil] at hy3
      go_wp2
      go_ret
      exact ⟨_, bs, rfl, hown, hy3 ▸ hy4, hb⟩
    | num e h0 h1 =>
      rw [Er.way, List.append_nil] at hy3
      have k2 : Below wr.heap.size wr ((wr.alloc (.cells #[.pointer none] 29)).alloc (.cells #[.pointer none] 33)) := ((Below.refl _ _).alloc (Nat.le_refl _) _).alloc (by simp) _
      have hE2 := HE.out.under (hb.trans (k2.mono hb.size))
      have hc1 := asFaultNum e _ wr.heap.size hE2 (by simp; omega)
      clear hE2 hown hb
      go_wp2_with (first
        | (go_at_call 33; refine hc1.mono ?_; rintro e2 w2 ⟨rfl, hb2⟩
           have hb3 := HB.out.trans ((k2.trans (hb2.mono k2.size)).mono HB.out.size)
           have hc2 := asListNum e w2 (wr.heap.size + 1) (HE.out.under hb3) (by have := hb2.size; simp at this; omega)
           clear hc1)
        | (go_at_call 33; refine hc2.mono ?_; rintro e2 w3 ⟨rfl, hb4⟩)
        | fail)
      go_ret
      exact ⟨_, bs, rfl, ownsRow_under (ownsRow_under (ownsRow_under HO.out k2) hb2) hb4, hy3 ▸ hy4, hb3.trans (hb4.mono hb3.size)⟩
    | flt op path z b u hz hIb hr hu =>
      rw [Er.way] at hy3
      have k2 : Below wr.heap.size wr ((wr.alloc (.cells #[.pointer none] 29)).alloc (.cells #[.pointer none] 33)) := ((Below.refl _ _).alloc (Nat.le_refl _) _).alloc (by simp) _
      have hE2 := HE.out.under (hb.trans (k2.mono hb.size))
      have ht1 : ((wr.alloc (.cells #[.pointer none] 29)).alloc (.cells #[.pointer none] 33)).rowIs wr.heap.size 29 1 (fun _ => .pointer none) := (rowIs_lit wr [.pointer none] 29 1 _ rfl).of_block (Go.Deep.blk_alloc_lt _ _ _ (by simp))
      have hc1 := asFaultHit (some ⟨b, 0, none⟩) _ wr.heap.size _ hE2 ht1
      have HR := Lib.hid hr
      have HU := Lib.hid hu
      have hsz := size_in_lt op path z
      have hlen : bs.length ≤ 500000000 := by
        have h1 := HS.out
        have h2 := HS2.out
        have h3 := congrArg List.length hy3
        have h4 := hy4.1
        simp at h3
        omega
      have HFS := Lib.hid (hy4.snoc hr)
      obtain ⟨gk', rfl⟩ : ∃ m, gk = m + 1 := ⟨gk - 1, by have := sz_pos (Er.flt op path z); omega⟩
      clear hE2 hown hb hr hu ht1
      go_wp2_with (first
        | (go_at_call 33; refine hc1.mono ?_; rintro e2 w2 ⟨rfl, hk2, hr2⟩
           have hb2 : Below wr.heap.size wr w2 := kept_fresh k2 hk2 (Nat.le_refl _)
           have e0 := hr2.cell (i := 0) (by omega)
           have hb3 : Below w.heap.size w w2 := HB.out.trans (hb2.mono HB.out.size)
           have c2 : w2.cell? ⟨b, 2, none⟩ = some u := (rowIs_below HR.out hb3 hIb).cell (i := 2) (by omega)
           have hown2 := ownsRow_under HO.out hb2
           clear hc1)
        | (go_at_call 45; refine (first_same b _).mono ?_; rintro e3 w3 ⟨rfl, rfl⟩)
        | (refine wpList_append_src rfl (.tmp 18) (.tmp 20) 71 rfl w.heap.size 29 1 8 _ Tryd.underlying71 info29 rfl (by omega) _ _ _ rfl (ownsRow_keep hown2 (fun j hj => Go.Deep.blk_alloc_lt _ _ _ (World.ownsRow.lt hown2 j hj).2)) _ 1 [.pointer (some ⟨b, 0, none⟩)] rfl (Src.of_block (Go.Deep.blk_alloc_new w2 _) rfl) (by simp [Value.oneCell']) (by unfold maxLen; omega) (by omega) (by exact (hb3.alloc hb3.size _).size) ?_; intro v4 w4 hown4 hgr4 _
           have hb4 : Below w.heap.size w w4 := (hb3.alloc hb3.size _).grown hgr4 (hb3.alloc hb3.size _).size (fun j hj => (World.ownsRow.lt hown2 j hj).1)
           have e4 : w4.cell? ⟨wr.heap.size, 0, none⟩ = some (.pointer (some ⟨b, 0, none⟩)) := (World.cell?_of_block (w := w2.alloc _) (hgr4.block wr.heap.size (by have := hr2.lt; rw [Go.Deep.nblk_alloc]; omega) (by intro e; have := World.ownsRow.lt HO.out _ (by first | exact e | exact e.symm); omega))).trans ((World.cell?_alloc_lt _ _ ⟨wr.heap.size, 0, none⟩ hr2.lt).trans e0)
           have c4 : w4.cell? ⟨b, 2, none⟩ = some u := (rowIs_below HR.out hb4 hIb).cell (i := 2) (by omega)
           have HO4 := Lib.hid hown4
           clear hown4 hgr4)
        | fail)
      go_roundg gk'
      case measure => omega
      case rel => exact ⟨z, bs ++ [b], pre ++ [(op, path)], by omega, HU.out, by rw [List.append_assoc]; exact hy3, HFS.out, by rw [List.length_append]; unfold ptrs; rw [List.map_append]; exact HO4.out, hb4⟩
    | lst l b g n cap us hl h2 hcap hmax hIb hIg hg hr hc hlx hu =>
      have k2 : Below wr.heap.size wr ((wr.alloc (.cells #[.pointer none] 29)).alloc (.cells #[.pointer none] 33)) := ((Below.refl _ _).alloc (Nat.le_refl _) _).alloc (by simp) _
      have hbk := hb.trans (k2.mono hb.size)
      have ht1 : ((wr.alloc (.cells #[.pointer none] 29)).alloc (.cells #[.pointer none] 33)).rowIs wr.heap.size 29 1 (fun _ => .pointer none) := (rowIs_lit wr [.pointer none] 29 1 _ rfl).of_block (Go.Deep.blk_alloc_lt _ _ _ (by simp))
      have ht2 : ((wr.alloc (.cells #[.pointer none] 29)).alloc (.cells #[.pointer none] 33)).rowIs (wr.heap.size + 1) 33 1 (fun _ => .pointer none) := rowIs_new2 wr _ 33 1 [.pointer none] _ rfl
      have hwb := hb.size
      have hc1 := asFault (fun b => b < w.heap.size) (.lst l) _ _ wr.heap.size none (HE.out.under hbk) (by simp) (HY.out.under hbk) (by omega) ht1
      obtain ⟨z, l', rfl⟩ : ∃ z l', l = z :: l' := by
        cases l with
        | nil => simp at hl; omega
        | cons z l' => exact ⟨z, l', rfl⟩
      have HU := Lib.hid (hu 0 z rfl)
      have hsz : z.sz < (Er.lst (z :: l')).sz := size_kid_lt (i := 0) rfl
      rw [Er.way] at hy3
      obtain ⟨t1', u1', hus⟩ := (hu 0 z rfl).iface (hlx 0 z rfl)
      obtain ⟨gk', rfl⟩ : ∃ m, gk = m + 1 := ⟨gk - 1, by have := sz_pos (Er.lst (z :: l')); omega⟩
      have HR := Lib.hid hr
      have HC := Lib.hid hc
      have HT2 := Lib.hid ht2
      have h0n : 0 < n := by omega
      have h0n' : (0 : Int) < (n : Int) := by omega
      have he33 := eql33
      clear hown hb hr hu ht1 ht2 hc hbk hlx hl
      have key : ∀ (w2 : World), Kept (fun i => i = wr.heap.size) ((wr.alloc (.cells #[.pointer none] 29)).alloc (.cells #[.pointer none] 33)) w2 →
          Below w.heap.size w w2 ∧ Below wr.heap.size wr w2 ∧ Calls Tryd.prog 33 #[.iface 33 (.pointer (some ⟨b, 0, none⟩)), .iface 97 (.pointer (some ⟨wr.heap.size + 1, 0, none⟩))] w2 fun ex w3 => ex = .returned (.bool true) ∧ Below wr.heap.size wr w3 ∧ w3.cell? ⟨wr.heap.size + 1, 0, none⟩ = some (.pointer (some ⟨b, 0, none⟩)) ∧ w3.cell? ⟨b, 0, none⟩ = some (.slice (some ⟨g, 0, none⟩) n cap) ∧ w3.cell? ⟨g, 0, none⟩ = some (us 0) := fun w2 hk2 => by
        have hb2 : Below wr.heap.size wr w2 := kept_fresh k2 hk2 (Nat.le_refl _)
        have hb3 : Below w.heap.size w w2 := HB.out.trans (hb2.mono HB.out.size)
        refine ⟨hb3, hb2, (asListHit (some ⟨b, 0, none⟩) w2 (wr.heap.size + 1) _ (HE.out.under hb3) (HT2.out.of_block (hk2.block _ HT2.out.lt (by omega)))).mono ?_⟩
        rintro e3 w3 ⟨rfl, hk3, hr3⟩
        have hb4 : Below wr.heap.size wr w3 := kept_fresh hb2 hk3 (by omega)
        have hb5 : Below w.heap.size w w3 := HB.out.trans (hb4.mono HB.out.size)
        exact ⟨rfl, hb4, hr3.cell (i := 0) (by omega), (rowIs_below HR.out hb5 hIb).cell (i := 0) (by omega), (hb5.cell (p := ⟨g, 0, none⟩) hg).trans (HC.out 0 h0n)⟩
      go_wp2_with (first
        | (go_at_call 33; refine hc1.mono ?_; rintro e2 w2 ⟨hit, p2, rfl, hk2, hr2⟩
           have e0 := hr2.cell (i := 0) (by omega)
           obtain ⟨hb3, hb2, hc2⟩ := key w2 hk2
           clear hc1 key
           cases hit)
        | (go_at_call 45; refine (first_list _ _ _).mono ?_; rintro e3 w3 ⟨rfl, rfl⟩)
        | (go_at_call 33; refine hc2.mono ?_; rintro e2 w3 ⟨rfl, hb4, e5, c5, c6⟩; rw [hus] at c6)
        | fail)
      all_goals
        go_roundg gk'
        case measure => omega
        case rel => exact ⟨z, bs, pre, by omega, hus ▸ HU.out, hy3, hy4, ownsRow_under HO.out hb4, HB.out.trans (hb4.mono HB.out.size)⟩
end Go.Proofs.YtcodlhjedhaaaaaDoor
