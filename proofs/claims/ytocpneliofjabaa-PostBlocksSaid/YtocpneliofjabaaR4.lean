/-
  THE REFERENCE: Send, Double, Drop.
-/
import Derived.Test.YtocpneliofjabaaR3
namespace Go.Proofs.Ytocpneliofjabaa
open Go.RowKit
set_option maxRecDepth 100000

/-- r.add(x). -/
theorem radd_any (S : Nat → Prop) (R : Nat) (r : Rst) (x : Pk) (hx : i64r x.fr ∧ i64r x.to) (w : World) (hp : RefSt S w R r) (hl : r.ever < 1000000) :
    Calls Try.prog 36 #[.pointer (some ⟨R, 0, none⟩), pka x] w fun e w' => e = .returned (.int .i64 r.addN) ∧ Kept S w w' ∧ RefSt (Gr S w w') w' R (r.add x) := by
  unfold Rst.add Rst.addN
  cases hf : r.full
  · exact radd_room S R r x hx w hp hl hf
  · exact (radd_full S R r x w hp hf).mono fun e w' ⟨he, hb⟩ => ⟨he, Kept.gr_ref hp hb⟩
def Rst.send (r : Rst) (f t : Int) (b : ByteArray) : Rst := if r.bl f t then r else r.add ⟨0, f, t, b⟩
def Rst.sendN (r : Rst) (f t : Int) : Int := if r.bl f t then 0 else r.addN
set_option maxHeartbeats 4000000 in
/-- r.Send(from, to, body). -/
theorem rsend_any (S : Nat → Prop) (R : Nat) (r : Rst) (f t : Int) (b : ByteArray) (hf : i64r f) (ht : i64r t) (w : World) (hp : RefSt S w R r) (hl : r.ever < 1000000) :
    Calls Try.prog 21 #[.pointer (some ⟨R, 0, none⟩), .int .i64 f, .int .i64 t, .string b] w fun e w' => e = .returned (.int .i64 (r.sendN f t)) ∧ Kept S w w' ∧ RefSt (Gr S w w') w' R (r.send f t b) := by
  unfold Rst.send Rst.sendN
  have HP := Lib.hid hp
  have hbl := rblocked_any S R r f t w hp
  clear hp
  cases hq : r.bl f t
  · rw [hq] at hbl
    clear hq
    go_enter Try.func21, Try.ntmps21
    go_wp2_with fail
    refine hbl.mono ?_
    rintro e w1 ⟨rfl, rfl⟩
    go_wp2_with fail
    refine (radd_any S R r ⟨0, f, t, b⟩ ⟨hf, ht⟩ w HP.out hl).mono ?_
    rintro e w2 ⟨rfl, h2⟩
    have H2 := Lib.hid h2
    clear h2 hbl
    go_wp2_with fail
    go_ret
    exact ⟨rfl, H2.out⟩
  · rw [hq] at hbl
    clear hq
    go_enter Try.func21, Try.ntmps21
    go_wp2_with fail
    refine hbl.mono ?_
    rintro e w1 ⟨rfl, rfl⟩
    go_wp2_with fail
    go_ret
    exact ⟨rfl, Kept.gr_ref HP.out (Below.refl _ _)⟩
def Rst.at (r : Rst) (id : Int) : Option Pk := r.L[(fndI id r.L).toNat]?
def Rst.dbl (r : Rst) (id : Int) : Rst := if fndI id r.L < 0 then r else match r.at id with | some x => r.add x | none => r
def Rst.dblN (r : Rst) (id : Int) : Int := if fndI id r.L < 0 then 0 else r.addN
set_option maxHeartbeats 4000000 in
/-- r.Double(id). -/
theorem rdouble_any (S : Nat → Prop) (R : Nat) (r : Rst) (id : Int) (w : World) (hp : RefSt S w R r) (hl : r.ever < 1000000) :
    Calls Try.prog 24 #[.pointer (some ⟨R, 0, none⟩), .int .i64 id] w fun e w' => e = .returned (.int .i64 (r.dblN id)) ∧ Kept S w w' ∧ RefSt (Gr S w w') w' R (r.dbl id) := by
  unfold Rst.dbl Rst.dblN Rst.at
  have HP := Lib.hid hp
  have hf := rfind_any S R r id w hp
  rcases fndI_cases id r.L with ⟨h1, h2⟩ | ⟨i, x, h1, hx, h2⟩
  · rw [h1] at hf ⊢
    clear hp h1 h2
    go_enter Try.func24, Try.ntmps24
    go_wp2_with fail
    refine hf.mono ?_
    rintro e w1 ⟨rfl, rfl⟩
    go_wp2_with fail
    go_ret
    exact ⟨rfl, Kept.gr_ref HP.out (Below.refl _ _)⟩
  · rw [h1] at hf ⊢
    rw [if_neg (by omega), if_neg (by omega), Int.toNat_natCast, hx]
    clear h1 h2
    have hi : i < r.L.length := (List.getElem?_eq_some_iff.1 hx).1
    have HX := Lib.hid hx
    obtain ⟨v, u, h1, h2, h3, h4, h5, h6, h7, h8, h9⟩ := hp
    obtain ⟨a, cap, rfl, hc1, hc2, hc3⟩ := h2.shape
    obtain ⟨g, rfl, _, _, hg, d0, d1, d2, d3⟩ := hc3 i x HX.out
    have c2 : w.cell? ⟨R, 2, none⟩ = some (.slice (some ⟨g, 0, none⟩) r.L.length cap) := h1.cell (by omega)
    have hLb : r.L.length ≤ 256 := by have := h8.room; have := h8.m2; simp only [Rst.st] at *; omega
    have hpk := h8.pk x (List.mem_of_getElem? HX.out)
    clear h1 h2 h3 h4 h5 h6 h7 h8 h9 hc3 hx
    unfold maxLen at hc2
    go_enter Try.func24, Try.ntmps24
    go_wp2_with fail
    refine hf.mono ?_
    rintro e w1 ⟨rfl, rfl⟩
    go_wp2_with fail
    refine (radd_any S R r x hpk.2 w HP.out hl).mono ?_
    rintro e w2 ⟨rfl, h2⟩
    have H2 := Lib.hid h2
    clear h2 hf
    go_wp2_with fail
    go_ret
    exact ⟨rfl, H2.out⟩

/-! ### A part of a row as a source -/
theorem cells_at {w : World} {g n cap : Nat} {L : List Pk} (h : PkOwn 0 w (.slice (some ⟨g, 0, none⟩) n cap) L) (j : Nat) (u : Value) (hu : (flat L)[j]? = some u) : w.cell? ⟨g, j, none⟩ = some u := by
  have := World.ownsRow.cells h (g := g) rfl j u hu
  rwa [show (⟨g, 0, none⟩ : Addr).add j = ⟨g, j, none⟩ by unfold Addr.add; split <;> simp_all] at this
theorem src_take {w : World} {g n cap i : Nat} {L : List Pk} (h : PkOwn 0 w (.slice (some ⟨g, 0, none⟩) n cap) L) (hi : i ≤ L.length) (c : Nat) : Src w 4 (.slice (some ⟨g, 0, none⟩) i c) (L.take i).length (flat (L.take i)) := by
  have hl : (L.take i).length = i := by simp; omega
  refine ⟨length_flat _, .inr ⟨⟨g, 0, none⟩, c, by rw [hl], fun j u hu => ?_⟩⟩
  rw [show (⟨g, 0, none⟩ : Addr).add j = ⟨g, j, none⟩ by unfold Addr.add; split <;> simp_all]
  rw [← flat_take, List.getElem?_take] at hu
  split at hu
  · exact cells_at h j u hu
  · cases hu
theorem src_drop {w : World} {g n cap i m : Nat} {L : List Pk} (h : PkOwn 0 w (.slice (some ⟨g, 0, none⟩) n cap) L) (hm : L.length = i + 1 + m) (c : Nat) : Src w 4 (.slice (some ⟨g, (i + 1) * 4, none⟩) m c) (L.drop (i + 1)).length (flat (L.drop (i + 1))) := by
  have hl : (L.drop (i + 1)).length = m := by simp; omega
  refine ⟨length_flat _, .inr ⟨⟨g, (i + 1) * 4, none⟩, c, by rw [hl], fun j u hu => ?_⟩⟩
  rw [show (⟨g, (i + 1) * 4, none⟩ : Addr).add j = ⟨g, (i + 1) * 4 + j, none⟩ by unfold Addr.add; split <;> simp_all]
  rw [← flat_drop, List.getElem?_drop] at hu
  exact cells_at h _ u hu
theorem src_drop0 {w : World} {i : Nat} {L : List Pk} (hm : L.length = i + 1) (ad : Addr) (c : Nat) : Src w 4 (.slice (some ad) 0 c) (L.drop (i + 1)).length (flat (L.drop (i + 1))) := by
  have hl : L.drop (i + 1) = [] := List.drop_of_length_le (by omega)
  rw [hl]
  exact ⟨rfl, .inr ⟨ad, c, rfl, fun j u hu => by simp [flat] at hu⟩⟩
def Rst.cut (r : Rst) (i : Nat) : Rst := ⟨r.most, r.ever, rmv i r.L, r.M⟩
theorem Rst.cut_fine {r : Rst} (h : r.st.Fine) {i : Nat} (hi : i < r.L.length) : (r.cut i).st.Fine := by
  obtain ⟨h1, h2, h3, h4, h5, h6, h7⟩ := Pst.cut_fine h (i := i) hi
  exact ⟨h1, h2, h3, h4, h5, h6, h7⟩
def Rst.drop (r : Rst) (id : Int) : Rst := if fndI id r.L < 0 then r else r.cut (fndI id r.L).toNat
def Rst.dropN (r : Rst) (id : Int) : Bool := decide (0 ≤ fndI id r.L)
end Go.Proofs.Ytocpneliofjabaa
