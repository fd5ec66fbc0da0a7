/-
  ONE CALL, BY THE ANSWERS ALONE: all kinds.
-/
import Derived.Test.YtocpneliofjabaaO4
namespace Go.Proofs.Ytocpneliofjabaa
open Go.RowKit
set_option maxRecDepth 100000

theorem Pst.notfull {s : Pst} (h : s.Fine) (hf : s.full = false) : s.L.length < 256 := by
  unfold Pst.full at hf
  have := h.m2
  simp at hf
  omega
/-- w.call(p, d). -/
theorem call_any (P B n : Nat) (s : Pst) (U : Nat → Prop) (w0 w : World) (K : Int) (d : Dc) (hd : DcOf K d) (h : Two (PA P n s) (WA B s.L s.last) U w0 w) (hf : s.Fine) (hl : s.last < 1000000) (hn : n ≤ 1000000) :
    Calls Try.prog 13 #[.pointer (some ⟨B, 0, none⟩), .pointer (some ⟨P, 0, none⟩), dcv K d] w fun e w' => e = .returned (.bool true) ∧ Two (PA P (n + 1) (s.doo d)) (WA B (s.doo d).L (s.doo d).last) U w0 w' := by
  obtain ⟨k, a, b, nn, body⟩ := d
  obtain ⟨k6, hk, ha, hb⟩ := hd
  have hup : ∀ (s1 : Pst) (e : Ending) (w' : World), (e = .returned (.bool true) ∧ Two (PA P n s1) (WA B s1.L s1.last) U w0 w') → e = .returned (.bool true) ∧ Two (PA P (n + 1) s1) (WA B s1.L s1.last) U w0 w' := fun s1 e w' ⟨h1, h2⟩ => ⟨h1, h2.n1 (Nat.le_succ n)⟩
  match k, k6, hk with
  | 0, _, hk =>
    show Calls Try.prog 13 _ w fun e w' => e = .returned (.bool true) ∧ Two (PA P (n + 1) (s.send a b body)) (WA B (s.send a b body).L (s.send a b body).last) U w0 w'
    by_cases hq : s.bl a b = true ∨ s.full = true
    · have e1 : s.send a b body = s := by
        unfold Pst.send Pst.add
        rcases hq with hq | hq
        · rw [if_pos hq]
        · rw [if_pos hq]; split <;> rfl
      have e2 : s.sendN a b = 0 := by
        unfold Pst.sendN Pst.addN
        rcases hq with hq | hq
        · rw [if_pos hq]
        · rw [if_pos hq]; split <;> rfl
      rw [e1]
      refine (call_send P B n s U w0 w K a b nn body h 0 s (fun S w hp => ?_) (fun S w hp => began_zero S B s.L s.last _ w hp) hk).mono (hup s)
      have h := send_any S P n s a b body ha hb w hp hl
      rwa [e1, e2] at h
    · have q1 : s.bl a b = false := by cases hh : s.bl a b <;> simp_all
      have q2 : s.full = false := by cases hh : s.full <;> simp_all
      have e1 : s.send a b body = s.push ⟨0, a, b, body⟩ := by unfold Pst.send Pst.add; rw [q1, q2]; rfl
      have e2 : s.sendN a b = s.last + 1 := by unfold Pst.sendN Pst.addN; rw [q1, q2]; rfl
      rw [e1]
      refine (call_send P B n s U w0 w K a b nn body h (s.last + 1) (s.push ⟨0, a, b, body⟩) (fun S w hp => ?_) (fun S w hp => began_next S B s.L s.last ⟨0, a, b, body⟩ w hp hf.l0 hl (Pst.notfull hf q2)) hk).mono (hup _)
      have h := send_any S P n s a b body ha hb w hp hl
      rwa [e1, e2] at h
  | 1, _, hk =>
    show Calls Try.prog 13 _ w fun e w' => e = .returned (.bool true) ∧ Two (PA P (n + 1) (s.take nn)) (WA B (s.take nn).L (s.take nn).last) U w0 w'
    cases ht : s.takes nn
    · have e1 : s.take nn = s := by unfold Pst.take; rw [ht]; rfl
      rw [e1]
      refine (call_take_no P B n s U w0 w K a b nn body h (s.takeX nn) (fun S w hp => ?_) hk).mono (hup s)
      have h := take_any S P n s nn w hp
      rwa [e1, ht] at h
    · rcases fndI_cases nn s.L with ⟨h1, h2⟩ | ⟨i, x, h1, hx, h2⟩
      · rw [Pst.take_no h1] at ht
        cases ht
      · have e1 : s.take nn = s.cut i := by unfold Pst.take; rw [ht, h1]; rfl
        have e2 : s.takeX nn = x := by unfold Pst.takeX; rw [ht, (Pst.take_some h1 hx).2]; rfl
        rw [e1]
        refine (call_take_yes P B n s U w0 w K a b nn body h i x h1 hx (fun S w hp => ?_) hk).mono (hup (s.cut i))
        have h := take_any S P n s nn w hp
        rwa [e1, e2, ht] at h
  | 2, _, hk =>
    show Calls Try.prog 13 _ w fun e w' => e = .returned (.bool true) ∧ Two (PA P (n + 1) (s.drop nn)) (WA B (s.drop nn).L (s.drop nn).last) U w0 w'
    rcases fndI_cases nn s.L with ⟨h1, h2⟩ | ⟨i, x, h1, hx, h2⟩
    · have e1 : s.drop nn = s := by unfold Pst.drop; rw [h1]; rfl
      rw [e1]
      exact (call_drop_no P B n s U w0 w K a b nn body h h1 hk).mono (hup s)
    · have e1 : s.drop nn = s.cut i := by unfold Pst.drop; rw [h1, if_neg (by omega), Int.toNat_natCast]
      rw [e1]
      exact (call_drop_yes P B n s U w0 w K a b nn body h i x h1 hx hk).mono (hup (s.cut i))
  | 3, _, hk =>
    show Calls Try.prog 13 _ w fun e w' => e = .returned (.bool true) ∧ Two (PA P (n + 1) (s.dbl nn)) (WA B (s.dbl nn).L (s.dbl nn).last) U w0 w'
    rcases fndI_cases nn s.L with ⟨h1, h2⟩ | ⟨i, x, h1, hx, h2⟩
    · have e1 : s.dbl nn = s := by unfold Pst.dbl; rw [h1]; rfl
      rw [e1]
      exact (call_double_no P B n s U w0 w K a b nn body h hl h1 hk).mono (hup s)
    · have e0 : s.at nn = some x := (Pst.take_some h1 hx).2
      have e1 : s.dbl nn = s.add x := by unfold Pst.dbl; rw [e0, h1, if_neg (by omega)]
      have e2 : s.dblN nn = s.addN := by unfold Pst.dblN; rw [h1, if_neg (by omega)]
      cases hq : s.full
      · have e3 : s.add x = s.push x := by unfold Pst.add; rw [hq]; rfl
        have e4 : s.addN = s.last + 1 := by unfold Pst.addN; rw [hq]; rfl
        rw [e1, e3]
        refine (call_double_yes P B n s U w0 w K a b nn body h i x h1 hx (s.last + 1) (s.push x) (fun S w hp => ?_) (fun S w hp => began_next S B s.L s.last x w hp hf.l0 hl (Pst.notfull hf hq)) hk).mono (hup _)
        have h := double_any S P n s nn w hp hl
        rwa [e1, e2, e3, e4] at h
      · have e3 : s.add x = s := by unfold Pst.add; rw [hq]; rfl
        have e4 : s.addN = 0 := by unfold Pst.addN; rw [hq]; rfl
        rw [e1, e3]
        refine (call_double_yes P B n s U w0 w K a b nn body h i x h1 hx 0 s (fun S w hp => ?_) (fun S w hp => began_zero S B s.L s.last x w hp) hk).mono (hup s)
        have h := double_any S P n s nn w hp hl
        rwa [e1, e2, e3, e4] at h
  | 4, _, hk =>
    show Calls Try.prog 13 _ w fun e w' => e = .returned (.bool true) ∧ Two (PA P (n + 1) (s.blk a b)) (WA B (s.blk a b).L (s.blk a b).last) U w0 w'
    have e1 : (s.blk a b).L = s.L := by unfold Pst.blk; split <;> rfl
    have e2 : (s.blk a b).last = s.last := by unfold Pst.blk; split <;> rfl
    rw [e1, e2]
    exact call_block P B n s U w0 w K a b nn body h (s.blk a b) (fun S w hp => block_any S P n s a b ha hb w hp hn) hk
  | 5, _, hk =>
    show Calls Try.prog 13 _ w fun e w' => e = .returned (.bool true) ∧ Two (PA P (n + 1) (s.fre a b)) (WA B s.L s.last) U w0 w'
    exact (call_free P B n s U w0 w K a b nn body h (s.fre a b) (fun S w hp => free_any S P n s a b ha hb w hp hn) hk).mono fun e w' ⟨h1, h2⟩ => ⟨h1, h2.n1 (Nat.le_succ n)⟩
  | k + 6, h6, _ => exact absurd (show k + 6 < 6 from h6) (by omega)
end Go.Proofs.Ytocpneliofjabaa
