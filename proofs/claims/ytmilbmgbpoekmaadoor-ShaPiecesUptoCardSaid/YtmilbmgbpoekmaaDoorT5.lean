import Derived.Test.YtmilbmgbpoekmaaDoorT4
namespace Go.Proofs.YtmilbmgbpoekmaaDoor
open Go.RowKit
set_option maxRecDepth 100000

theorem Tryd.sz54 : (Tryd.prog.info? 54).map (·.size) = some 74 := by kernel_rfl
theorem Tryd.sz25 : (Tryd.prog.info? 25).map (·.size) = some 32 := by kernel_rfl
theorem Tryd.sz47 : (Tryd.prog.info? 47).map (·.size) = some 8 := by kernel_rfl

theorem Tryd.sz46 : (Tryd.prog.info? 46).map (·.size) = some 1 := by kernel_rfl
theorem hc_one (st : Sha.St) (rest : Nat → Int) (u n : Int) (j : Nat) : (hc st rest u n j).oneCell' = true := by
  unfold hc; split <;> (try split) <;> (try split) <;> rfl
theorem HashIs.alloc {w : World} {hb n : Nat} {st : Sha.St} {buf : List Int} (h : HashIs w hb st buf n) (o : Obj) : HashIs (w.alloc o) hb st buf n := h.of_block (Go.Deep.blk_alloc_lt _ _ _ h.lt)
theorem bytesAt_new (w : World) (ok : Nat → Prop) (l : List Int) (hok : ok w.heap.size) (hl : ∀ j, 0 ≤ l.getD j 0 ∧ l.getD j 0 < 256) : BytesAt ok (w.alloc (.cells (u8s l).toArray 5)) (some ⟨w.heap.size, 0, none⟩) l.length l :=
  ⟨Nat.le_refl _, by simp, fun b o s e => by
    cases e
    refine ⟨rfl, hok, fun j hj => ?_⟩
    have := Go.Deep.blk_alloc_new w (.cells (u8s l).toArray 5)
    simp only [World.cell?, this]
    simpa using u8s_get l j hj, hl⟩
theorem bytesAt_row {w : World} {b : Nat} {t : TypeId} {f : Nat → Value} {n : Nat} (ok : Nat → Prop) (l : List Int) (h : w.rowIs b t n f) (hn : l.length = n) (hok : ok b) (hf : ∀ j, j < n → f j = .int .u8 (l.getD j 0)) (hl : ∀ j, 0 ≤ l.getD j 0 ∧ l.getD j 0 < 256) :
    BytesAt ok w (some ⟨b, 0, none⟩) n l :=
  ⟨by omega, by simp, fun b' o s e => by
    cases e
    refine ⟨rfl, hok, fun j hj => ?_⟩
    rw [Nat.zero_add, h.cell (by omega), hf j (by omega)], hl⟩
theorem write_len (hb : Nat) (a : Option Addr) (cap len : Nat) (l : List Int) (st : Sha.St) (buf : List Int) (n : Nat) (w : World) (hl : l.length = len) (hH : HashIs w hb st buf n)
   (hB : BytesAt (fun b => b < w.heap.size ∧ b ≠ hb) w a cap l) (hcap : cap ≤ 9223372036854775807) (hll : len ≤ 140737488355328) (hn : n ≤ 4611686018427387904) (h00 : 0 < w.heap.size) (hb0 : hb ≠ 0)
   (hT : ∀ k, k < 64 → w.cell? ⟨0, k, none⟩ = some (.int .u32 (Sha.KL.getD k 0))) :
    Calls Tryd.prog 19 #[.pointer (some ⟨hb, 0, none⟩), .slice a len cap] w fun e w' => e = .returned (.tuple #[]) ∧ w.grownBy w' (some hb) ∧ HashIs w' hb (Sha.finSt st (buf ++ l)) (Sha.finBuf (buf ++ l)) (n + len) := by
  subst hl; exact write_any hb a cap l st buf n w hH hB hcap hll hn h00 hb0 hT
theorem sizeBytes_byte (n : Nat) (j : Nat) : 0 ≤ (Sha.sizeBytes n).getD j 0 ∧ (Sha.sizeBytes n).getD j 0 < 256 := by
  by_cases h : j < 8
  · simp only [Sha.sizeBytes, List.getD_eq_getElem?_getD, List.getElem?_map, List.getElem?_range h, Option.map_some, Option.getD_some]
    omega
  · rw [List.getD_eq_getElem?_getD, List.getElem?_eq_none (by rw [Sha.length_sizeBytes]; omega)]
    exact ⟨by decide, by decide⟩
theorem sizeBytes_get (n q : Nat) (h : q < 8) : (Sha.sizeBytes n).getD q 0 = (n : Int) * 8 / 2 ^ (56 - 8 * q) % 256 := by
  simp only [Sha.sizeBytes, List.getD_eq_getElem?_getD, List.getElem?_map, List.getElem?_range h, Option.map_some, Option.getD_some]

theorem byte128 (j : Nat) : 0 ≤ ([128] : List Int).getD j 0 ∧ ([128] : List Int).getD j 0 < 256 := by
  cases j with
  | zero => decide
  | succ j => simp
theorem byte0 (j : Nat) : 0 ≤ ([0] : List Int).getD j 0 ∧ ([0] : List Int).getD j 0 < 256 := by
  cases j with
  | zero => decide
  | succ j => simp

theorem hashIs_more {w : World} {C N : Nat} {st S : Sha.St} {B : List Int} (m x : List Int) (hB : B = Sha.finBuf m) (hS : S = Sha.finSt st m) (h : HashIs w C (Sha.finSt S (B ++ x)) (Sha.finBuf (B ++ x)) N) :
    HashIs w C (Sha.finSt st (m ++ x)) (Sha.finBuf (m ++ x)) N := by
  rw [Sha.finSt_append st m x, Sha.finBuf_append m x, ← hB, ← hS]; exact h

theorem dig0 (F : Sha.St) (t : Nat) : Sha.digByte F (4 * t) = F.get t / 16777216 % 256 := by
  unfold Sha.digByte
  rw [show 4 * t / 4 = t by omega, show 4 * t % 4 = 0 by omega]; rfl
theorem dig1 (F : Sha.St) (t : Nat) : Sha.digByte F (4 * t + 1) = F.get t / 65536 % 256 := by
  unfold Sha.digByte
  rw [show (4 * t + 1) / 4 = t by omega, show (4 * t + 1) % 4 = 1 by omega]; rfl
theorem dig2 (F : Sha.St) (t : Nat) : Sha.digByte F (4 * t + 2) = F.get t / 256 % 256 := by
  unfold Sha.digByte
  rw [show (4 * t + 2) / 4 = t by omega, show (4 * t + 2) % 4 = 2 by omega]; rfl
theorem dig3 (F : Sha.St) (t : Nat) : Sha.digByte F (4 * t + 3) = F.get t % 256 := by
  unfold Sha.digByte
  rw [show (4 * t + 3) / 4 = t by omega, show (4 * t + 3) % 4 = 3 by omega]
  simp
theorem rowIs_dig4 {w : World} {D t : Nat} {F : Sha.St} (h : w.rowIs D 25 32 (fun j => .int .u8 (if j < 4 * t then Sha.digByte F j else 0))) :
    ((((w.setCell ⟨D, 4 * t, none⟩ (.int .u8 (F.get t / 16777216 % 256))).setCell ⟨D, 4 * t + 1, none⟩ (.int .u8 (F.get t / 65536 % 256))).setCell ⟨D, 4 * t + 2, none⟩ (.int .u8 (F.get t / 256 % 256))).setCell ⟨D, 4 * t + 3, none⟩ (.int .u8 (F.get t % 256))).rowIs D 25 32
      (fun j => .int .u8 (if j < 4 * (t + 1) then Sha.digByte F j else 0)) := by
  refine ((((h.set (4 * t) _).set (4 * t + 1) _).set (4 * t + 2) _).set (4 * t + 3) _).congr (fun j hj => ?_)
  by_cases e3 : j = 4 * t + 3
  · subst e3; rw [if_pos rfl, if_pos (by omega), dig3]
  · rw [if_neg e3]
    by_cases e2 : j = 4 * t + 2
    · subst e2; rw [if_pos rfl, if_pos (by omega), dig2]
    · rw [if_neg e2]
      by_cases e1 : j = 4 * t + 1
      · subst e1; rw [if_pos rfl, if_pos (by omega), dig1]
      · rw [if_neg e1]
        by_cases e0 : j = 4 * t
        · subst e0; rw [if_pos rfl, if_pos (by omega), dig0]
        · rw [if_neg e0]
          by_cases e : j < 4 * t
          · rw [if_pos e, if_pos (by omega)]
          · rw [if_neg e, if_neg (by omega)]
theorem digest_arr (F : Sha.St) : (u8s (Sha.digest F)).toArray = rowArr 32 (fun j => .int .u8 (Sha.digByte F j)) := by
  simp only [u8s, Sha.digest, rowArr, List.map_map]; rfl

/-- What holds at the head of the loop that writes noughts. -/
def SRel (w : World) (C : Nat) (st : Sha.St) (buf : List Int) (n : Nat) (k : Nat) (wr : World) : Prop :=
  ∃ i, i + k = Sha.zcount buf.length ∧ HashIs wr C (Sha.finSt st (buf ++ (128 :: List.replicate i 0))) (Sha.finBuf (buf ++ (128 :: List.replicate i 0))) (n + 1 + i) ∧ Below w.heap.size w wr ∧ wr.rowIs w.heap.size 25 32 (fun _ => .int .u8 0)

set_option maxHeartbeats 4000000 in
theorem hsum_any (p : Option Addr) (st : Sha.St) (buf : List Int) (n : Nat) (w : World)
   (hp : (∃ hb, p = some ⟨hb, 0, none⟩ ∧ HashIs w hb st buf n) ∨ (p = none ∧ st = Sha.init ∧ buf = [] ∧ n = 0)) (hn : n ≤ 1152921504606846976) (h00 : 0 < w.heap.size)
   (hT : ∀ k, k < 64 → w.cell? ⟨0, k, none⟩ = some (.int .u32 (Sha.KL.getD k 0))) :
    Calls Tryd.prog 18 #[.pointer p] w fun e w' => e = .returned (.agg (u8s (Sha.digest (Sha.finSt st (buf ++ (128 :: (List.replicate (Sha.zcount buf.length) 0 ++ Sha.sizeBytes n)))))).toArray) ∧ Below w.heap.size w w' := by
  have HT := Lib.hid hT
  clear hT
  have hz := zero54
  rcases hp with ⟨hb, rfl, hH⟩ | ⟨rfl, hst0, hbuf0, hn0⟩
  · have hlt := hH.lt
    obtain ⟨rest, hrow, hrest⟩ := hH
    have HREST := Lib.hid hrest
    clear hrest
    have hA := fun o => hrow.alloc o
    have HA := Lib.hid hA
    clear hA
    go_enter Tryd.func18, Tryd.ntmps18
    go_wp2_with (first
      | (refine wpList_load_abs rfl 54 (.tmp 14) rfl hb rfl 54 74 _ (HA.out _) _ Tryd.underlying54 rfl Tryd.sz54 ?_; intro cs hcs)
      | (refine wpList_store_abs rfl 54 (.tmp 3) (.tmp 15) rfl _ rfl cs rfl 54 74 _ (hc ⟨0, 0, 0, 0, 0, 0, 0, 0⟩ (fun _ => 0) 0 0) (rowIs_new2 _ _ 54 74 _ _ rfl) hcs.out Tryd.sz54 (fun j _ => hc_one _ _ _ _ j) ?_; intro w3 hrow3 hg3 hs3; have hRr : w3.rowIs w.heap.size 25 32 (fun _ => .int .u8 0) := rowIs_grown ((rowIs_lit w _ 25 32 _ rfl).alloc _) hg3 (by omega); have hBel : Below w.heap.size w w3 := (((Below.refl _ _).alloc (Nat.le_refl _) _).alloc (by simp) _).trans (below_of_grown hg3 (by omega) (by simp; omega)); have hHs : HashIs w3 (w.heap.size + 1) st buf n := ⟨rest, hrow3, HREST.out⟩; clear hs3 hg3; have c73 := hrow3.cell (i := 73) (by omega); simp only [hc, show ¬ (73 < 8) by omega, show ¬ (73 < 72) by omega, show ¬ (73 = 72) by omega, if_false] at c73)
      | fail)
    clear hrow3
    have hRC : w.heap.size < w.heap.size + 1 := by omega
    generalize w.heap.size + 1 = C at *
    clear HA hrow HREST hcs
    have hl3 := hHs.lt
    have hT3 : ∀ k, k < 64 → (w3.alloc (.cells #[.int .u8 128] 5)).cell? ⟨0, k, none⟩ = some (.int .u32 (Sha.KL.getD k 0)) := fun k hk => by
      rw [World.cell?_alloc_past _ _ _ (by show 0 < _; omega), hBel.cell (p := ⟨0, k, none⟩) h00]; exact HT.out k hk
    refine (write_any C (some ⟨w3.heap.size, 0, none⟩) 1 [128] st buf n _ (hHs.alloc _) (bytesAt_new w3 _ [128] ⟨by simp, by omega⟩ byte128) (by omega) (by simp) (by omega) (by simp) (by omega) hT3).mono ?_
    rintro e w4 ⟨rfl, hg4, hH4⟩
    have hB4 : Below w.heap.size w w4 := (hBel.alloc (by omega) _).trans (below_of_grown hg4 (by omega) (by simp; omega))
    have hR4 : w4.rowIs w.heap.size 25 32 (fun _ => .int .u8 0) := rowIs_grown (hRr.alloc _) hg4 (by omega)
    have hS4 : SRel w C st buf n (Sha.zcount buf.length) w4 := ⟨0, by omega, hH4, hB4, hR4⟩
    clear hT3 hg4 hH4 hB4 hR4 hBel hRr hHs c73
    generalize w3.heap.size = X1 at *
    clear hl3
    go_wp2_with fail
    go_loopg [22] (Sha.zcount buf.length) (fun k _ wr => SRel w C st buf n k wr)
    case atStart => exact hS4
    case round =>
      clear hS4
      obtain ⟨i, hik, hHs, hBel, hRr⟩ := hrel
      have hl3 := hHs.lt
      have hbl : buf.length < 64 ∨ 64 ≤ buf.length := by omega
      have hlen : (Sha.finBuf (buf ++ (128 :: List.replicate i 0))).length = (buf.length + 1 + i) % 64 := by
        rw [Sha.finBuf_length]; simp only [List.length_append, List.length_cons, List.length_replicate]; congr 1; omega
      have hz1 := Sha.zcount_lt buf.length
      have hz2 := Sha.zcount_at buf.length
      have hz3 := Sha.zcount_min buf.length i
      obtain ⟨B, hB⟩ : ∃ B, B = Sha.finBuf (buf ++ (128 :: List.replicate i 0)) := ⟨_, rfl⟩
      obtain ⟨S, hS⟩ : ∃ S, S = Sha.finSt st (buf ++ (128 :: List.replicate i 0)) := ⟨_, rfl⟩
      rw [← hB, ← hS] at hHs
      rw [← hB] at hlen
      have HBS := Lib.hid (And.intro hB hS)
      have HL := Lib.hid hlen
      have HZ2 := Lib.hid hz2
      have HZ3 := Lib.hid hz3
      have HIK := Lib.hid hik
      clear hB hS hlen hz2 hz3
      have c72 : wr.cell? ⟨C, 72, none⟩ = some (.int .i64 (B.length : Int)) := by
        obtain ⟨R, hR, _⟩ := hHs
        rw [hR.cell (by omega)]
        rfl
      by_cases hlt : i < Sha.zcount buf.length
      · have hgk : i + 1 ≤ Sha.zcount buf.length := hlt
        have hgk0 : 0 < gk := by omega
        have hd : ((B.length : Int) != 56) = true := by
          have := HZ3.out hlt
          have e := HL.out
          rw [bne_iff_ne]
          omega
        clear hik
        have hT3 : ∀ k, k < 64 → (wr.alloc (.cells #[.int .u8 0] 5)).cell? ⟨0, k, none⟩ = some (.int .u32 (Sha.KL.getD k 0)) := fun k hk => by
          rw [World.cell?_alloc_past _ _ _ (by show 0 < _; omega), hBel.cell (p := ⟨0, k, none⟩) h00]; exact HT.out k hk
        have HT3 := Lib.hid hT3
        clear hT3
        go_wp2_with fail
        refine (write_any C (some ⟨wr.heap.size, 0, none⟩) 1 [0] S B (n + 1 + i) _ (hHs.alloc _) (bytesAt_new wr _ [0] ⟨by simp, by omega⟩ byte0) (by omega) (by simp) (by omega) (by simp) (by omega) HT3.out).mono ?_
        rintro e w5 ⟨rfl, hg5, hH5⟩
        have hS5 : SRel w C st buf n (gk - 1) w5 := by
          have e1 : buf ++ (128 :: List.replicate i 0) ++ [0] = buf ++ (128 :: List.replicate (i + 1) 0) := by
            rw [List.replicate_succ', List.append_assoc, List.cons_append]
          refine ⟨i + 1, by have := HIK.out; omega, ?_, (hBel.alloc (by have := hBel.size; omega) _).trans (below_of_grown hg5 (by omega) (by have := hBel.size; simp; omega)), rowIs_grown (hRr.alloc _) hg5 (by omega)⟩
          rw [← e1]
          exact hashIs_more _ _ HBS.out.1 HBS.out.2 hH5
        clear hg5 hH5 hHs hBel hRr c72
        go_wp2_with fail
        go_roundg (gk - 1)
        case measure => omega
        case rel => exact hS5
      · have hi : i = Sha.zcount buf.length := by omega
        have HI := Lib.hid hi
        have hd : ((B.length : Int) != 56) = false := by
          have e := HL.out
          have e2 := HZ2.out
          rw [← hi] at e2
          have : B.length = 56 := by omega
          rw [this]; rfl
        have hile : i < 64 := by omega
        clear hi hik
        go_wp2_with fail
        have hZ0 : (wr.alloc (.cells #[.int .u8 0, .int .u8 0, .int .u8 0, .int .u8 0, .int .u8 0, .int .u8 0, .int .u8 0, .int .u8 0] 55)).rowIs wr.heap.size 55 8 (fun j => .int .u8 (if j < 0 then (Sha.sizeBytes n).getD j 0 else 0)) := rowIs_lit wr _ 55 8 _ rfl
        have hHs1 := hHs.alloc (.cells #[.int .u8 0, .int .u8 0, .int .u8 0, .int .u8 0, .int .u8 0, .int .u8 0, .int .u8 0, .int .u8 0] 55)
        have hRr1 := hRr.alloc (.cells #[.int .u8 0, .int .u8 0, .int .u8 0, .int .u8 0, .int .u8 0, .int .u8 0, .int .u8 0, .int .u8 0] 55)
        have hBel1 := hBel.alloc (by omega) (.cells #[.int .u8 0, .int .u8 0, .int .u8 0, .int .u8 0, .int .u8 0, .int .u8 0, .int .u8 0, .int .u8 0] 55)
        generalize wr.alloc (.cells #[.int .u8 0, .int .u8 0, .int .u8 0, .int .u8 0, .int .u8 0, .int .u8 0, .int .u8 0, .int .u8 0] 55) = w6 at *
        generalize wr.heap.size = Z at *
        clear hHs hRr hBel c72
        have hrel6 : HashIs w6 C S B (n + 1 + i) ∧ w6.rowIs w.heap.size 25 32 (fun _ => .int .u8 0) ∧ Below w.heap.size w w6 ∧ w6.rowIs Z 55 8 (fun j => .int .u8 (if j < 0 then (Sha.sizeBytes n).getD j 0 else 0)) := ⟨hHs1, hRr1, hBel1, hZ0⟩
        clear hZ0 hHs1 hRr1 hBel1
        go_loopw [27] (fun v wr => ∃ q : Nat, q ≤ 8 ∧ v = .int .i64 q ∧ HashIs wr C S B (n + 1 + i) ∧ wr.rowIs w.heap.size 25 32 (fun _ => .int .u8 0) ∧ Below w.heap.size w wr ∧ wr.rowIs Z 55 8 (fun j => .int .u8 (if j < q then (Sha.sizeBytes n).getD j 0 else 0))) (fun v _ => 8 - (intOf v).toNat)
        case atStart => exact ⟨0, by omega, rfl, hrel6⟩
        case round =>
          clear hrel6
          obtain ⟨q, hq, rfl, hHs, hRr, hBel, hZr⟩ := hrel
          by_cases hlt3 : q < 8
          · have cz := hZr.cell (i := q) hlt3
            simp only [Nat.lt_irrefl, if_false] at cz
            have fz := hZr.frozen q
            go_wp2_with fail
            go_roundw
            case rel =>
              refine ⟨q + 1, by omega, by go_num, hHs.of_block (Below.heap_setCell wr _ _ C (by exact Nat.ne_of_lt hl3)), hRr.setOther (a := ⟨Z, q, none⟩) (by exact Nat.ne_of_lt (Nat.lt_trans hRC hl3)) _, hBel.setCell (by exact Nat.le_of_lt (Nat.lt_trans hRC hl3)) _, ?_⟩
              refine (hZr.set q _).congr (fun j hj => ?_)
              by_cases e : j = q
              · subst e
                rw [if_pos rfl, if_pos (by omega), sizeBytes_get n j hlt3]
              · rw [if_neg e]
                by_cases e2 : j < q
                · rw [if_pos e2, if_pos (by omega)]
                · rw [if_neg e2, if_neg (by omega)]
            case measure => simp [intOf]; omega
          · have hZ8 : wr.rowIs Z 55 8 (fun j => .int .u8 ((Sha.sizeBytes n).getD j 0)) := hZr.congr (fun j hj => by rw [if_pos (by omega)])
            clear hZr
            have hT4 : ∀ k, k < 64 → wr.cell? ⟨0, k, none⟩ = some (.int .u32 (Sha.KL.getD k 0)) := fun k hk => by
              rw [hBel.cell (p := ⟨0, k, none⟩) h00]; exact HT.out k hk
            have HT4 := Lib.hid hT4
            clear hT4
            have hZl := hZ8.lt
            go_wp2_with fail
            refine (write_len C (some ⟨Z, 0, none⟩) 8 8 (Sha.sizeBytes n) S B (n + 1 + i) _ (Sha.length_sizeBytes n) hHs (bytesAt_row _ (Sha.sizeBytes n) hZ8 (Sha.length_sizeBytes n) ⟨hZl, by omega⟩ (fun j _ => rfl) (sizeBytes_byte n)) (by omega) (by omega) (by omega) (by omega) (by omega) HT4.out).mono ?_
            rintro e w7 ⟨rfl, hg7, hH7⟩
            have hF := hashIs_more _ _ HBS.out.1 HBS.out.2 hH7
            have hB7 : Below w.heap.size w w7 := hBel.trans (below_of_grown hg7 (by omega) (by omega))
            have hR7 : w7.rowIs w.heap.size 25 32 (fun _ => .int .u8 0) := rowIs_grown hRr hg7 (by omega)
            clear hg7 hH7 hHs hBel hRr hZ8
            obtain ⟨F, hFF⟩ : ∃ F, F = Sha.finSt st (buf ++ (128 :: List.replicate i 0) ++ Sha.sizeBytes n) := ⟨_, rfl⟩
            rw [← hFF] at hF
            have HFF := Lib.hid hFF
            clear hFF
            obtain ⟨R9, hR9, _⟩ := hF
            have hlC := hR9.lt
            have hc8 : ∀ o j, j < 8 → (w7.alloc o).cell? ⟨C, 0 + j, none⟩ = some (.int .u32 (F.get j)) := fun o j hj => by
              rw [Nat.zero_add, World.cell?_alloc_past _ _ _ hlC, hR9.cell (by omega)]
              unfold hc
              rw [if_pos hj]
            have HC8 := Lib.hid hc8
            clear hc8 hR9
            go_wp2_with (first
              | (refine wpList_load_part rfl 47 (.tmp 41) rfl C 0 rfl 8 _ (HC8.out _) _ Tryd.underlying47 rfl Tryd.sz47 ?_; intro ds hds)
              | fail)
            have hD0 : (w7.alloc (.cells #[.int .u8 0, .int .u8 0, .int .u8 0, .int .u8 0, .int .u8 0, .int .u8 0, .int .u8 0, .int .u8 0, .int .u8 0, .int .u8 0, .int .u8 0, .int .u8 0, .int .u8 0, .int .u8 0, .int .u8 0, .int .u8 0, .int .u8 0, .int .u8 0, .int .u8 0, .int .u8 0, .int .u8 0, .int .u8 0, .int .u8 0, .int .u8 0, .int .u8 0, .int .u8 0, .int .u8 0, .int .u8 0, .int .u8 0, .int .u8 0, .int .u8 0, .int .u8 0] 25)).rowIs w7.heap.size 25 32 (fun j => .int .u8 (if j < 0 then Sha.digByte F j else 0)) := rowIs_lit w7 _ 25 32 _ rfl
            have hR8 := hR7.alloc (.cells #[.int .u8 0, .int .u8 0, .int .u8 0, .int .u8 0, .int .u8 0, .int .u8 0, .int .u8 0, .int .u8 0, .int .u8 0, .int .u8 0, .int .u8 0, .int .u8 0, .int .u8 0, .int .u8 0, .int .u8 0, .int .u8 0, .int .u8 0, .int .u8 0, .int .u8 0, .int .u8 0, .int .u8 0, .int .u8 0, .int .u8 0, .int .u8 0, .int .u8 0, .int .u8 0, .int .u8 0, .int .u8 0, .int .u8 0, .int .u8 0, .int .u8 0, .int .u8 0] 25)
            have hB8 := hB7.alloc (by have := hR7.lt; omega) (.cells #[.int .u8 0, .int .u8 0, .int .u8 0, .int .u8 0, .int .u8 0, .int .u8 0, .int .u8 0, .int .u8 0, .int .u8 0, .int .u8 0, .int .u8 0, .int .u8 0, .int .u8 0, .int .u8 0, .int .u8 0, .int .u8 0, .int .u8 0, .int .u8 0, .int .u8 0, .int .u8 0, .int .u8 0, .int .u8 0, .int .u8 0, .int .u8 0, .int .u8 0, .int .u8 0, .int .u8 0, .int .u8 0, .int .u8 0, .int .u8 0, .int .u8 0, .int .u8 0] 25)
            have hRl := hR7.lt
            generalize w7.alloc (.cells #[.int .u8 0, .int .u8 0, .int .u8 0, .int .u8 0, .int .u8 0, .int .u8 0, .int .u8 0, .int .u8 0, .int .u8 0, .int .u8 0, .int .u8 0, .int .u8 0, .int .u8 0, .int .u8 0, .int .u8 0, .int .u8 0, .int .u8 0, .int .u8 0, .int .u8 0, .int .u8 0, .int .u8 0, .int .u8 0, .int .u8 0, .int .u8 0, .int .u8 0, .int .u8 0, .int .u8 0, .int .u8 0, .int .u8 0, .int .u8 0, .int .u8 0, .int .u8 0] 25) = w8 at *
            generalize w7.heap.size = D at *
            clear hR7 hB7 HC8 hlC
            have hrel8 : w8.rowIs w.heap.size 25 32 (fun _ => .int .u8 0) ∧ Below w.heap.size w w8 ∧ w8.rowIs D 25 32 (fun j => .int .u8 (if j < 0 then Sha.digByte F j else 0)) := ⟨hR8, hB8, hD0⟩
            clear hR8 hB8 hD0
            go_loopw [43] (fun v wr => ∃ t : Nat, t ≤ 8 ∧ v = .int .i64 t ∧ wr.rowIs w.heap.size 25 32 (fun _ => .int .u8 0) ∧ Below w.heap.size w wr ∧ wr.rowIs D 25 32 (fun j => .int .u8 (if j < 4 * t then Sha.digByte F j else 0))) (fun v _ => 8 - (intOf v).toNat)
            case atStart => exact ⟨0, by omega, rfl, hrel8⟩
            case round =>
              clear hrel8
              obtain ⟨t, ht, rfl, hRr, hBel, hDr⟩ := hrel
              by_cases hlt4 : t < 8
              · have hix : ∀ W, (Instr.index 47 (.agg ds) (.int .i64 (t : Int))).run Tryd.prog W = .ok (.int .u32 (F.get t)) W :=
                  run_index_arr 47 46 8 .i64 .u32 ds t _ Tryd.underlying47 Tryd.underlying46 Tryd.sz46 hlt4 (by rw [hds.out]; exact get_rowArr 8 _ t hlt4)
                have d0 := hDr.cell (i := 4 * t) (by omega)
                have d1 := hDr.cell (i := 4 * t + 1) (by omega)
                have d2 := hDr.cell (i := 4 * t + 2) (by omega)
                have d3 := hDr.cell (i := 4 * t + 3) (by omega)
                simp only [show ¬ (4 * t < 4 * t) by omega, show ¬ (4 * t + 1 < 4 * t) by omega, show ¬ (4 * t + 2 < 4 * t) by omega, show ¬ (4 * t + 3 < 4 * t) by omega, if_false] at d0 d1 d2 d3
                have e0 := hDr.frozen (4 * t)
                have e1 := hDr.frozen (4 * t + 1)
                have e2 := hDr.frozen (4 * t + 2)
                have e3 := hDr.frozen (4 * t + 3)
                go_wp2_with fail
                go_roundw
                case rel =>
                  have hne : w.heap.size ≠ D := by omega
                  refine ⟨t + 1, by omega, by go_num, (((hRr.setOther (a := ⟨D, 4 * t, none⟩) hne _).setOther (a := ⟨D, 4 * t + 1, none⟩) hne _).setOther (a := ⟨D, 4 * t + 2, none⟩) hne _).setOther (a := ⟨D, 4 * t + 3, none⟩) hne _, ?_, rowIs_dig4 hDr⟩
                  exact (((hBel.setCell (p := ⟨D, 4 * t, none⟩) (by exact Nat.le_of_lt hRl) _).setCell (p := ⟨D, 4 * t + 1, none⟩) (by exact Nat.le_of_lt hRl) _).setCell (p := ⟨D, 4 * t + 2, none⟩) (by exact Nat.le_of_lt hRl) _).setCell (p := ⟨D, 4 * t + 3, none⟩) (by exact Nat.le_of_lt hRl) _
                case measure => simp [intOf]; omega
              · have hD32 : wr.rowIs D 25 32 (fun j => .int .u8 (Sha.digByte F j)) := hDr.congr (fun j hj => by rw [if_pos (by omega)])
                clear hDr
                go_wp2_with (first
                  | (refine wpList_load_abs rfl 25 (.tmp 7) rfl D rfl 25 32 _ hD32 _ Tryd.underlying25 rfl Tryd.sz25 ?_; intro es hes)
                  | (refine wpList_store_abs rfl 25 (.tmp 2) (.tmp 74) rfl w.heap.size rfl es rfl 25 32 _ _ hRr hes.out Tryd.sz25 (fun j _ => rfl) ?_; intro w9 hR9 hg9 hs9; clear hs9)
                  | fail)
                have hbk := rowIs_block hR9
                refine bodyPost_ret (results_row (g := w.heap.size) rfl rfl hbk Tryd.underlying25 rfl (by rw [size_rowArr]; exact Tryd.sz25)) rfl ⟨?_, ?_⟩
                · have e1 : buf ++ (128 :: (List.replicate (Sha.zcount buf.length) 0 ++ Sha.sizeBytes n)) = buf ++ (128 :: List.replicate i 0) ++ Sha.sizeBytes n := by
                    rw [HI.out, List.append_assoc, List.cons_append]
                  rw [e1, ← HFF.out, digest_arr]
                · exact hBel.trans (below_of_grown hg9 (Nat.le_refl _) hBel.size)
  · have HEQ := Lib.hid (And.intro hst0 (And.intro hbuf0 hn0))
    clear hst0 hbuf0 hn0
    go_enter Tryd.func18, Tryd.ntmps18
    go_wp2_with fail
    refine (new_any _).mono ?_
    rintro e w2 ⟨rfl, hH, hB2⟩
    obtain ⟨h1, h2, h3⟩ := HEQ.out
    rw [← h1, ← h2, ← h3] at hH
    clear h1 h2 h3 HEQ
    obtain ⟨rest, hrow, hrest⟩ := hH
    have HREST := Lib.hid hrest
    clear hrest
    have hlt2 := hrow.lt
    simp only [Go.Deep.nblk_alloc] at hrow hB2 hlt2
    have hB2' : w.heap.size + 1 < w2.heap.size := hlt2
    have hR2 : w2.rowIs w.heap.size 25 32 (fun _ => .int .u8 0) := rowIs_below (rowIs_lit w _ 25 32 _ rfl) hB2 (by omega)
    go_wp2_with (first
      | (refine wpList_load_abs rfl 54 (.tmp 14) rfl (w.heap.size + 1) rfl 54 74 _ hrow _ Tryd.underlying54 rfl Tryd.sz54 ?_; intro cs hcs)
      | (refine wpList_store_abs rfl 54 (.tmp 3) (.tmp 15) rfl _ rfl cs rfl 54 74 _ (hc ⟨0, 0, 0, 0, 0, 0, 0, 0⟩ (fun _ => 0) 0 0) (rowIs_lit _ _ 54 74 _ rfl) hcs.out Tryd.sz54 (fun j _ => hc_one _ _ _ _ j) ?_; intro w3 hrow3 hg3 hs3; have hRr : w3.rowIs w.heap.size 25 32 (fun _ => .int .u8 0) := rowIs_grown (hR2.alloc _) hg3 (by omega); have hBel : Below w.heap.size w w3 := ((((Below.refl _ _).alloc (Nat.le_refl _) _).trans (hB2.mono (by omega))).alloc (by omega) _).trans (below_of_grown hg3 (by omega) (by simp; omega)); have hHs : HashIs w3 w2.heap.size st buf n := ⟨rest, hrow3, HREST.out⟩; clear hs3 hg3; have c73 := hrow3.cell (i := 73) (by omega); simp only [hc, show ¬ (73 < 8) by omega, show ¬ (73 < 72) by omega, show ¬ (73 = 72) by omega, if_false] at c73)
      | fail)
    clear hrow3
    have hRC : w.heap.size < w2.heap.size := by omega
    clear hrow hR2 hlt2 hB2' hB2 HREST hcs
    generalize w2.heap.size = C at *
    have hl3 := hHs.lt
    have hT3 : ∀ k, k < 64 → (w3.alloc (.cells #[.int .u8 128] 5)).cell? ⟨0, k, none⟩ = some (.int .u32 (Sha.KL.getD k 0)) := fun k hk => by
      rw [World.cell?_alloc_past _ _ _ (by show 0 < _; omega), hBel.cell (p := ⟨0, k, none⟩) h00]; exact HT.out k hk
    refine (write_any C (some ⟨w3.heap.size, 0, none⟩) 1 [128] st buf n _ (hHs.alloc _) (bytesAt_new w3 _ [128] ⟨by simp, by omega⟩ byte128) (by omega) (by simp) (by omega) (by simp) (by omega) hT3).mono ?_
    rintro e w4 ⟨rfl, hg4, hH4⟩
    have hB4 : Below w.heap.size w w4 := (hBel.alloc (by omega) _).trans (below_of_grown hg4 (by omega) (by simp; omega))
    have hR4 : w4.rowIs w.heap.size 25 32 (fun _ => .int .u8 0) := rowIs_grown (hRr.alloc _) hg4 (by omega)
    have hS4 : SRel w C st buf n (Sha.zcount buf.length) w4 := ⟨0, by omega, hH4, hB4, hR4⟩
    clear hT3 hg4 hH4 hB4 hR4 hBel hRr hHs c73
    generalize w3.heap.size = X1 at *
    clear hl3
    go_wp2_with fail
    go_loopg [22] (Sha.zcount buf.length) (fun k _ wr => SRel w C st buf n k wr)
    case atStart => exact hS4
    case round =>
      clear hS4
      obtain ⟨i, hik, hHs, hBel, hRr⟩ := hrel
      have hl3 := hHs.lt
      have hbl : buf.length < 64 ∨ 64 ≤ buf.length := by omega
      have hlen : (Sha.finBuf (buf ++ (128 :: List.replicate i 0))).length = (buf.length + 1 + i) % 64 := by
        rw [Sha.finBuf_length]; simp only [List.length_append, List.length_cons, List.length_replicate]; congr 1; omega
      have hz1 := Sha.zcount_lt buf.length
      have hz2 := Sha.zcount_at buf.length
      have hz3 := Sha.zcount_min buf.length i
      obtain ⟨B, hB⟩ : ∃ B, B = Sha.finBuf (buf ++ (128 :: List.replicate i 0)) := ⟨_, rfl⟩
      obtain ⟨S, hS⟩ : ∃ S, S = Sha.finSt st (buf ++ (128 :: List.replicate i 0)) := ⟨_, rfl⟩
      rw [← hB, ← hS] at hHs
      rw [← hB] at hlen
      have HBS := Lib.hid (And.intro hB hS)
      have HL := Lib.hid hlen
      have HZ2 := Lib.hid hz2
      have HZ3 := Lib.hid hz3
      have HIK := Lib.hid hik
      clear hB hS hlen hz2 hz3
      have c72 : wr.cell? ⟨C, 72, none⟩ = some (.int .i64 (B.length : Int)) := by
        obtain ⟨R, hR, _⟩ := hHs
        rw [hR.cell (by omega)]
        rfl
      by_cases hlt : i < Sha.zcount buf.length
      · have hgk : i + 1 ≤ Sha.zcount buf.length := hlt
        have hgk0 : 0 < gk := by omega
        have hd : ((B.length : Int) != 56) = true := by
          have := HZ3.out hlt
          have e := HL.out
          rw [bne_iff_ne]
          omega
        clear hik
        have hT3 : ∀ k, k < 64 → (wr.alloc (.cells #[.int .u8 0] 5)).cell? ⟨0, k, none⟩ = some (.int .u32 (Sha.KL.getD k 0)) := fun k hk => by
          rw [World.cell?_alloc_past _ _ _ (by show 0 < _; omega), hBel.cell (p := ⟨0, k, none⟩) h00]; exact HT.out k hk
        have HT3 := Lib.hid hT3
        clear hT3
        go_wp2_with fail
        refine (write_any C (some ⟨wr.heap.size, 0, none⟩) 1 [0] S B (n + 1 + i) _ (hHs.alloc _) (bytesAt_new wr _ [0] ⟨by simp, by omega⟩ byte0) (by omega) (by simp) (by omega) (by simp) (by omega) HT3.out).mono ?_
        rintro e w5 ⟨rfl, hg5, hH5⟩
        have hS5 : SRel w C st buf n (gk - 1) w5 := by
          have e1 : buf ++ (128 :: List.replicate i 0) ++ [0] = buf ++ (128 :: List.replicate (i + 1) 0) := by
            rw [List.replicate_succ', List.append_assoc, List.cons_append]
          refine ⟨i + 1, by have := HIK.out; omega, ?_, (hBel.alloc (by have := hBel.size; omega) _).trans (below_of_grown hg5 (by omega) (by have := hBel.size; simp; omega)), rowIs_grown (hRr.alloc _) hg5 (by omega)⟩
          rw [← e1]
          exact hashIs_more _ _ HBS.out.1 HBS.out.2 hH5
        clear hg5 hH5 hHs hBel hRr c72
        go_wp2_with fail
        go_roundg (gk - 1)
        case measure => omega
        case rel => exact hS5
      · have hi : i = Sha.zcount buf.length := by omega
        have HI := Lib.hid hi
        have hd : ((B.length : Int) != 56) = false := by
          have e := HL.out
          have e2 := HZ2.out
          rw [← hi] at e2
          have : B.length = 56 := by omega
          rw [this]; rfl
        have hile : i < 64 := by omega
        clear hi hik
        go_wp2_with fail
        have hZ0 : (wr.alloc (.cells #[.int .u8 0, .int .u8 0, .int .u8 0, .int .u8 0, .int .u8 0, .int .u8 0, .int .u8 0, .int .u8 0] 55)).rowIs wr.heap.size 55 8 (fun j => .int .u8 (if j < 0 then (Sha.sizeBytes n).getD j 0 else 0)) := rowIs_lit wr _ 55 8 _ rfl
        have hHs1 := hHs.alloc (.cells #[.int .u8 0, .int .u8 0, .int .u8 0, .int .u8 0, .int .u8 0, .int .u8 0, .int .u8 0, .int .u8 0] 55)
        have hRr1 := hRr.alloc (.cells #[.int .u8 0, .int .u8 0, .int .u8 0, .int .u8 0, .int .u8 0, .int .u8 0, .int .u8 0, .int .u8 0] 55)
        have hBel1 := hBel.alloc (by omega) (.cells #[.int .u8 0, .int .u8 0, .int .u8 0, .int .u8 0, .int .u8 0, .int .u8 0, .int .u8 0, .int .u8 0] 55)
        generalize wr.alloc (.cells #[.int .u8 0, .int .u8 0, .int .u8 0, .int .u8 0, .int .u8 0, .int .u8 0, .int .u8 0, .int .u8 0] 55) = w6 at *
        generalize wr.heap.size = Z at *
        clear hHs hRr hBel c72
        have hrel6 : HashIs w6 C S B (n + 1 + i) ∧ w6.rowIs w.heap.size 25 32 (fun _ => .int .u8 0) ∧ Below w.heap.size w w6 ∧ w6.rowIs Z 55 8 (fun j => .int .u8 (if j < 0 then (Sha.sizeBytes n).getD j 0 else 0)) := ⟨hHs1, hRr1, hBel1, hZ0⟩
        clear hZ0 hHs1 hRr1 hBel1
        go_loopw [27] (fun v wr => ∃ q : Nat, q ≤ 8 ∧ v = .int .i64 q ∧ HashIs wr C S B (n + 1 + i) ∧ wr.rowIs w.heap.size 25 32 (fun _ => .int .u8 0) ∧ Below w.heap.size w wr ∧ wr.rowIs Z 55 8 (fun j => .int .u8 (if j < q then (Sha.sizeBytes n).getD j 0 else 0))) (fun v _ => 8 - (intOf v).toNat)
        case atStart => exact ⟨0, by omega, rfl, hrel6⟩
        case round =>
          clear hrel6
          obtain ⟨q, hq, rfl, hHs, hRr, hBel, hZr⟩ := hrel
          by_cases hlt3 : q < 8
          · have cz := hZr.cell (i := q) hlt3
            simp only [Nat.lt_irrefl, if_false] at cz
            have fz := hZr.frozen q
            go_wp2_with fail
            go_roundw
            case rel =>
              refine ⟨q + 1, by omega, by go_num, hHs.of_block (Below.heap_setCell wr _ _ C (by exact Nat.ne_of_lt hl3)), hRr.setOther (a := ⟨Z, q, none⟩) (by exact Nat.ne_of_lt (Nat.lt_trans hRC hl3)) _, hBel.setCell (by exact Nat.le_of_lt (Nat.lt_trans hRC hl3)) _, ?_⟩
              refine (hZr.set q _).congr (fun j hj => ?_)
              by_cases e : j = q
              · subst e
                rw [if_pos rfl, if_pos (by omega), sizeBytes_get n j hlt3]
              · rw [if_neg e]
                by_cases e2 : j < q
                · rw [if_pos e2, if_pos (by omega)]
                · rw [if_neg e2, if_neg (by omega)]
            case measure => simp [intOf]; omega
          · have hZ8 : wr.rowIs Z 55 8 (fun j => .int .u8 ((Sha.sizeBytes n).getD j 0)) := hZr.congr (fun j hj => by rw [if_pos (by omega)])
            clear hZr
            have hT4 : ∀ k, k < 64 → wr.cell? ⟨0, k, none⟩ = some (.int .u32 (Sha.KL.getD k 0)) := fun k hk => by
              rw [hBel.cell (p := ⟨0, k, none⟩) h00]; exact HT.out k hk
            have HT4 := Lib.hid hT4
            clear hT4
            have hZl := hZ8.lt
            go_wp2_with fail
            refine (write_len C (some ⟨Z, 0, none⟩) 8 8 (Sha.sizeBytes n) S B (n + 1 + i) _ (Sha.length_sizeBytes n) hHs (bytesAt_row _ (Sha.sizeBytes n) hZ8 (Sha.length_sizeBytes n) ⟨hZl, by omega⟩ (fun j _ => rfl) (sizeBytes_byte n)) (by omega) (by omega) (by omega) (by omega) (by omega) HT4.out).mono ?_
            rintro e w7 ⟨rfl, hg7, hH7⟩
            have hF := hashIs_more _ _ HBS.out.1 HBS.out.2 hH7
            have hB7 : Below w.heap.size w w7 := hBel.trans (below_of_grown hg7 (by omega) (by omega))
            have hR7 : w7.rowIs w.heap.size 25 32 (fun _ => .int .u8 0) := rowIs_grown hRr hg7 (by omega)
            clear hg7 hH7 hHs hBel hRr hZ8
            obtain ⟨F, hFF⟩ : ∃ F, F = Sha.finSt st (buf ++ (128 :: List.replicate i 0) ++ Sha.sizeBytes n) := ⟨_, rfl⟩
            rw [← hFF] at hF
            have HFF := Lib.hid hFF
            clear hFF
            obtain ⟨R9, hR9, _⟩ := hF
            have hlC := hR9.lt
            have hc8 : ∀ o j, j < 8 → (w7.alloc o).cell? ⟨C, 0 + j, none⟩ = some (.int .u32 (F.get j)) := fun o j hj => by
              rw [Nat.zero_add, World.cell?_alloc_past _ _ _ hlC, hR9.cell (by omega)]
              unfold hc
              rw [if_pos hj]
            have HC8 := Lib.hid hc8
            clear hc8 hR9
            go_wp2_with (first
              | (refine wpList_load_part rfl 47 (.tmp 41) rfl C 0 rfl 8 _ (HC8.out _) _ Tryd.underlying47 rfl Tryd.sz47 ?_; intro ds hds)
              | fail)
            have hD0 : (w7.alloc (.cells #[.int .u8 0, .int .u8 0, .int .u8 0, .int .u8 0, .int .u8 0, .int .u8 0, .int .u8 0, .int .u8 0, .int .u8 0, .int .u8 0, .int .u8 0, .int .u8 0, .int .u8 0, .int .u8 0, .int .u8 0, .int .u8 0, .int .u8 0, .int .u8 0, .int .u8 0, .int .u8 0, .int .u8 0, .int .u8 0, .int .u8 0, .int .u8 0, .int .u8 0, .int .u8 0, .int .u8 0, .int .u8 0, .int .u8 0, .int .u8 0, .int .u8 0, .int .u8 0] 25)).rowIs w7.heap.size 25 32 (fun j => .int .u8 (if j < 0 then Sha.digByte F j else 0)) := rowIs_lit w7 _ 25 32 _ rfl
            have hR8 := hR7.alloc (.cells #[.int .u8 0, .int .u8 0, .int .u8 0, .int .u8 0, .int .u8 0, .int .u8 0, .int .u8 0, .int .u8 0, .int .u8 0, .int .u8 0, .int .u8 0, .int .u8 0, .int .u8 0, .int .u8 0, .int .u8 0, .int .u8 0, .int .u8 0, .int .u8 0, .int .u8 0, .int .u8 0, .int .u8 0, .int .u8 0, .int .u8 0, .int .u8 0, .int .u8 0, .int .u8 0, .int .u8 0, .int .u8 0, .int .u8 0, .int .u8 0, .int .u8 0, .int .u8 0] 25)
            have hB8 := hB7.alloc (by have := hR7.lt; omega) (.cells #[.int .u8 0, .int .u8 0, .int .u8 0, .int .u8 0, .int .u8 0, .int .u8 0, .int .u8 0, .int .u8 0, .int .u8 0, .int .u8 0, .int .u8 0, .int .u8 0, .int .u8 0, .int .u8 0, .int .u8 0, .int .u8 0, .int .u8 0, .int .u8 0, .int .u8 0, .int .u8 0, .int .u8 0, .int .u8 0, .int .u8 0, .int .u8 0, .int .u8 0, .int .u8 0, .int .u8 0, .int .u8 0, .int .u8 0, .int .u8 0, .int .u8 0, .int .u8 0] 25)
            have hRl := hR7.lt
            generalize w7.alloc (.cells #[.int .u8 0, .int .u8 0, .int .u8 0, .int .u8 0, .int .u8 0, .int .u8 0, .int .u8 0, .int .u8 0, .int .u8 0, .int .u8 0, .int .u8 0, .int .u8 0, .int .u8 0, .int .u8 0, .int .u8 0, .int .u8 0, .int .u8 0, .int .u8 0, .int .u8 0, .int .u8 0, .int .u8 0, .int .u8 0, .int .u8 0, .int .u8 0, .int .u8 0, .int .u8 0, .int .u8 0, .int .u8 0, .int .u8 0, .int .u8 0, .int .u8 0, .int .u8 0] 25) = w8 at *
            generalize w7.heap.size = D at *
            clear hR7 hB7 HC8 hlC
            have hrel8 : w8.rowIs w.heap.size 25 32 (fun _ => .int .u8 0) ∧ Below w.heap.size w w8 ∧ w8.rowIs D 25 32 (fun j => .int .u8 (if j < 0 then Sha.digByte F j else 0)) := ⟨hR8, hB8, hD0⟩
            clear hR8 hB8 hD0
            go_loopw [43] (fun v wr => ∃ t : Nat, t ≤ 8 ∧ v = .int .i64 t ∧ wr.rowIs w.heap.size 25 32 (fun _ => .int .u8 0) ∧ Below w.heap.size w wr ∧ wr.rowIs D 25 32 (fun j => .int .u8 (if j < 4 * t then Sha.digByte F j else 0))) (fun v _ => 8 - (intOf v).toNat)
            case atStart => exact ⟨0, by omega, rfl, hrel8⟩
            case round =>
              clear hrel8
              obtain ⟨t, ht, rfl, hRr, hBel, hDr⟩ := hrel
              by_cases hlt4 : t < 8
              · have hix : ∀ W, (Instr.index 47 (.agg ds) (.int .i64 (t : Int))).run Tryd.prog W = .ok (.int .u32 (F.get t)) W :=
                  run_index_arr 47 46 8 .i64 .u32 ds t _ Tryd.underlying47 Tryd.underlying46 Tryd.sz46 hlt4 (by rw [hds.out]; exact get_rowArr 8 _ t hlt4)
                have d0 := hDr.cell (i := 4 * t) (by omega)
                have d1 := hDr.cell (i := 4 * t + 1) (by omega)
                have d2 := hDr.cell (i := 4 * t + 2) (by omega)
                have d3 := hDr.cell (i := 4 * t + 3) (by omega)
                simp only [show ¬ (4 * t < 4 * t) by omega, show ¬ (4 * t + 1 < 4 * t) by omega, show ¬ (4 * t + 2 < 4 * t) by omega, show ¬ (4 * t + 3 < 4 * t) by omega, if_false] at d0 d1 d2 d3
                have e0 := hDr.frozen (4 * t)
                have e1 := hDr.frozen (4 * t + 1)
                have e2 := hDr.frozen (4 * t + 2)
                have e3 := hDr.frozen (4 * t + 3)
                go_wp2_with fail
                go_roundw
                case rel =>
                  have hne : w.heap.size ≠ D := by omega
                  refine ⟨t + 1, by omega, by go_num, (((hRr.setOther (a := ⟨D, 4 * t, none⟩) hne _).setOther (a := ⟨D, 4 * t + 1, none⟩) hne _).setOther (a := ⟨D, 4 * t + 2, none⟩) hne _).setOther (a := ⟨D, 4 * t + 3, none⟩) hne _, ?_, rowIs_dig4 hDr⟩
                  exact (((hBel.setCell (p := ⟨D, 4 * t, none⟩) (by exact Nat.le_of_lt hRl) _).setCell (p := ⟨D, 4 * t + 1, none⟩) (by exact Nat.le_of_lt hRl) _).setCell (p := ⟨D, 4 * t + 2, none⟩) (by exact Nat.le_of_lt hRl) _).setCell (p := ⟨D, 4 * t + 3, none⟩) (by exact Nat.le_of_lt hRl) _
                case measure => simp [intOf]; omega
              · have hD32 : wr.rowIs D 25 32 (fun j => .int .u8 (Sha.digByte F j)) := hDr.congr (fun j hj => by rw [if_pos (by omega)])
                clear hDr
                go_wp2_with (first
                  | (refine wpList_load_abs rfl 25 (.tmp 7) rfl D rfl 25 32 _ hD32 _ Tryd.underlying25 rfl Tryd.sz25 ?_; intro es hes)
                  | (refine wpList_store_abs rfl 25 (.tmp 2) (.tmp 74) rfl w.heap.size rfl es rfl 25 32 _ _ hRr hes.out Tryd.sz25 (fun j _ => rfl) ?_; intro w9 hR9 hg9 hs9; clear hs9)
                  | fail)
                have hbk := rowIs_block hR9
                refine bodyPost_ret (results_row (g := w.heap.size) rfl rfl hbk Tryd.underlying25 rfl (by rw [size_rowArr]; exact Tryd.sz25)) rfl ⟨?_, ?_⟩
                · have e1 : buf ++ (128 :: (List.replicate (Sha.zcount buf.length) 0 ++ Sha.sizeBytes n)) = buf ++ (128 :: List.replicate i 0) ++ Sha.sizeBytes n := by
                    rw [HI.out, List.append_assoc, List.cons_append]
                  rw [e1, ← HFF.out, digest_arr]
                · exact hBel.trans (below_of_grown hg9 (Nat.le_refl _) hBel.size)
end Go.Proofs.YtmilbmgbpoekmaaDoor
