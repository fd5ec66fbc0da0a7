/-
  THE LAW ShaPieces' walk, for pieces of a bounded length together.
-/
import Derived.Test.YtmilbmgbpoekmaaDoorT16
namespace Go.Proofs.YtmilbmgbpoekmaaDoor
open Go.RowKit
set_option maxRecDepth 100000

/-- Own bytes as a slice that reads as them. -/
theorem OwnB.bytesAt {base : Nat} {w : World} {v : Value} {m : List Int} (h : OwnB base w v m) (hb : ∀ j, 0 ≤ m.getD j 0 ∧ m.getD j 0 < 256) :
    ∃ a cap, v = .slice a m.length cap ∧ BytesAt (fun b => b < w.heap.size) w a cap m ∧ cap ≤ 9223372036854775807 := by
  by_cases h0 : 0 < m.length
  · obtain ⟨g, cap, rfl, hg, hlt, hc1, hc2, hcell⟩ := h.at h0
    refine ⟨some ⟨g, 0, none⟩, cap, rfl, ⟨hc1, by simp, fun b o s e => ?_, hb⟩, by unfold maxLen at hc2; omega⟩
    cases e
    exact ⟨rfl, hlt, fun j hj => by rw [Nat.zero_add]; exact hcell j hj⟩
  · obtain rfl : m = [] := List.eq_nil_of_length_eq_zero (by omega)
    rcases h.2 with ⟨rfl, _⟩ | ⟨g, cap, cur, rfl, hg, hh, hc, hmx, hsz, htk⟩
    · exact ⟨none, 0, rfl, ⟨by simp, by simp, by simp, hb⟩, by omega⟩
    · refine ⟨some ⟨g, 0, none⟩, cap, rfl, ⟨hc, by simp, fun b o s e => ?_, hb⟩, by unfold maxLen at hmx; omega⟩
      cases e
      exact ⟨rfl, (Array.getElem?_eq_some_iff.1 hh).1, fun j hj => by simp at hj⟩

/-- A slice of bytes of the caller's; where it is empty, whatever its address. -/
def Piece (B : Nat) (w : World) (a : Option Addr) (cap : Nat) (l : List Int) : Prop := (l = [] ∧ (a = none → cap = 0)) ∨ BytesAt (fun b => b < B) w a cap l
theorem Piece.keep {B : Nat} {w w' : World} {a : Option Addr} {cap : Nat} {l : List Int} (h : Piece B w a cap l) (hb : ∀ b, b < B → w'.heap[b]? = w.heap[b]?) : Piece B w' a cap l :=
  h.imp id (fun h => h.keep hb)
theorem Piece.byte {B : Nat} {w : World} {a : Option Addr} {cap : Nat} {l : List Int} (h : Piece B w a cap l) : ∀ j, 0 ≤ l.getD j 0 ∧ l.getD j 0 < 256 := by
  rcases h with ⟨rfl, _⟩ | h
  · simp
  · exact h.byte

set_option maxHeartbeats 1000000 in
/-- h.Write of no bytes. -/
theorem write_zero (hb : Nat) (a : Option Addr) (cap : Nat) (st : Sha.St) (buf : List Int) (n : Nat) (w : World) (hH : HashIs w hb st buf n) (hn : n ≤ 4611686018427387904) :
    Calls Tryd.prog 19 #[.pointer (some ⟨hb, 0, none⟩), .slice a 0 cap] w fun e w' => e = .returned (.tuple #[]) ∧ w.grownBy w' (some hb) ∧ HashIs w' hb st buf n := by
  obtain ⟨rest, hrow, hrest, hr8, hbuf⟩ := hH
  have HREST := Lib.hid hrest
  have HR8 := Lib.hid hr8
  clear hrest hr8
  have c73 := hrow.cell (i := 73) (by omega)
  simp only [hc, show ¬ (73 < 8) by omega, show ¬ (73 < 72) by omega, show ¬ (73 = 72) by omega, if_false] at c73
  have f73 := hrow.frozen 73
  have hend : (w.setCell ⟨hb, 73, none⟩ (.int .i64 n)).rowIs hb 54 74 (hc st rest buf.length n) := (hrow.set 73 _).congr (fun j hj => by
    have h := hc73 st rest buf.length n n j hj
    exact h)
  go_enter Tryd.func19, Tryd.ntmps19
  go_wp2_with fail
  go_loopg [1] 0 (fun k v wr => k = 0 ∧ v = .slice a 0 cap ∧ wr = w.setCell ⟨hb, 73, none⟩ (.int .i64 n))
  case atStart => exact ⟨rfl, rfl, rfl⟩
  case round =>
    obtain ⟨rfl, rfl, rfl⟩ := hrel
    go_wp2_with fail
    go_end0
    exact ⟨rfl, grown_setCell (grown_refl w _) (.inl rfl) _, rest, hend, HREST.out, HR8.out, hbuf⟩

/-- h.Write of a piece. -/
theorem write_piece (B hb : Nat) (a : Option Addr) (cap len : Nat) (l m : List Int) (w : World) (hl : l.length = len) (hH : HashIs w hb (Sha.finSt Sha.init m) (Sha.finBuf m) m.length)
    (hP : Piece B w a cap l) (hBw : B ≤ w.heap.size) (hBh : B ≤ hb) (hcap : cap ≤ 9223372036854775807) (hll : len ≤ 140737488355328) (hn : m.length ≤ 4611686018427387904) (h00 : 0 < w.heap.size) (hb0 : hb ≠ 0) (hT : TabK w) :
    Calls Tryd.prog 19 #[.pointer (some ⟨hb, 0, none⟩), .slice a len cap] w fun e w' => e = .returned (.tuple #[]) ∧ w.grownBy w' (some hb) ∧ HashIs w' hb (Sha.finSt Sha.init (m ++ l)) (Sha.finBuf (m ++ l)) (m ++ l).length := by
  rcases hP with ⟨rfl, _⟩ | hB
  · obtain rfl : len = 0 := hl.symm
    rw [List.append_nil]
    exact write_zero hb a cap _ _ _ w hH hn
  · subst hl
    have h := write_len hb a cap l.length l _ _ _ w rfl hH (hB.to (fun b hb' => ⟨Nat.lt_of_lt_of_le hb' hBw, by omega⟩) (fun _ _ => rfl)) hcap hll hn h00 hb0 hT
    rw [← Sha.finSt_append, ← Sha.finBuf_append, ← List.length_append] at h
    exact h

/-- append(m, l...), m the call's own, l a piece. -/
theorem wpList_append_piece {ops : Array Oper} {rest : List Oper} {o : Oper} {a : Act} {w : World} {Q : Exit → Act → World → Prop} (hgd : o.guard = none) (s x : Operand)
    (ho : o.op = .call { callee := .builtin .append, args := #[s, x], argTypes := #[22, 22] }) (base : Nat) (v : Value) (m : List Int) (hs : a.eval s = v) (hown : OwnB base w v m)
    (B : Nat) (sa : Option Addr) (len scap : Nat) (l : List Int) (hx : a.eval x = .slice sa len scap) (hl : l.length = len) (hP : Piece B w sa scap l)
    (hfit : m.length + l.length ≤ 140737488355328) (hbase : base ≤ w.heap.size)
    (h : ∀ v' w', OwnB base w' v' (m ++ l) → w.grownBy w' v.ownBlock → wpList Tryd.prog ops Q rest (a.put o.dst v') w') : wpList Tryd.prog ops Q (o :: rest) a w := by
  rcases hP with ⟨rfl, h0⟩ | hB
  · obtain rfl : len = 0 := hl.symm
    have hinfo : (Tryd.prog.info? 5).map (fun i => (i.zero, i.size, i.bytes)) = some (some (.int .u8 0), 1, 1) := by kernel_rfl
    obtain ⟨i, hi, hz, hz1, hz2⟩ := info_parts hinfo
    rw [List.append_nil] at h
    cases sa with
    | none =>
      obtain rfl := h0 rfl
      exact wpList_append_own_none hgd s x 22 ho base 5 i 1 Tryd.underlying22 hi v m.length (u8s m) hs hown hx (h v w hown (World.grownBy.refl _ _))
    | some ad =>
      refine wpList_append_own _ hgd s x 22 ho base 5 i (.int .u8 0) 1 1 Tryd.underlying22 hi hz hz1 hz2 rfl (by decide) v m.length (u8s m) hs hown ad 0 scap [] hx rfl (by simp) (by simp)
        (by unfold maxLen; simp at hfit; omega) (by simp at hfit; omega) hbase (fun v' w' h1 h2 _ => h v' w' ?_ h2)
      unfold OwnB
      simpa using h1
  · exact wpList_append_bytes hgd s x ho base v m hs hown _ sa len scap l hx hl hB hfit hbase h
end Go.Proofs.YtmilbmgbpoekmaaDoor
