import Derived.Test.YtmilbmgbpoekmaaDoorT2
import Derived.Test.YtmilbmgbpoekmaaDoorLib2
import Derived.Deep.RegionLaw
import Derived.Deep.MidRow
namespace Go.Proofs.YtmilbmgbpoekmaaDoor
open Go.RowKit
set_option maxRecDepth 100000

/-- What holds at the head of Write's loop. -/
def WRel (w : World) (hb : Nat) (st : Sha.St) (m : List Int) (N : Nat) (k : Nat) (v : Value) (wr : World) : Prop :=
  ∃ (a : Option Addr) (cap : Nat) (r : List Int) (S : Sha.St) (B : List Int), v = .slice a r.length cap ∧ r.length = k ∧ cap ≤ 9223372036854775807 ∧ BytesAt (fun b => b < w.heap.size ∧ b ≠ hb) wr a cap r ∧ HashIs wr hb S B N ∧
    Sha.finSt S (B ++ r) = Sha.finSt st m ∧ Sha.finBuf (B ++ r) = Sha.finBuf m ∧ w.grownBy wr (some hb)

theorem Tryd.sz5 : (Tryd.prog.info? 5).map (·.size) = some 1 := by kernel_rfl

theorem sl52 (hb u : Nat) (hu : u < 64) (W : World) : (Instr.sliceAt 52 (.pointer (some ⟨hb, 8, none⟩)) (some (.int .i64 (u : Int))) none none).run Tryd.prog W = .ok (.slice (some ⟨hb, 8 + u, none⟩) (64 - u) (64 - u)) W := by
  have hl : Tryd.prog.arrayLen 52 = 64 := by kernel_rfl
  have he : Tryd.prog.elem 52 = 5 := by kernel_rfl
  have hz : (sizeOf 5).run Tryd.prog W = .ok 1 W := by kernel_rfl
  rw [run_sliceAt_array_l W 52 _ (by rw [hl, he]; exact Tryd.underlying52) .i64 _ (by omega) (by rw [hl]; omega), hl, he, hz]
  simp only [Result.andThen_ok, slicedAt, Int.toNat_natCast, Nat.mul_one]
  rw [if_neg (by omega), Addr.add_mid]

theorem hc73 (st : Sha.St) (rest : Nat → Int) (u n n' : Int) (j : Nat) (hj : j < 74) : (if j = 73 then (.int .i64 n' : Value) else hc st rest u n j) = hc st rest u n' j := by
  unfold hc
  by_cases e : j = 73
  · subst e; rfl
  · rw [if_neg e]
    by_cases h1 : j < 8
    · rw [if_pos h1, if_pos h1]
    · rw [if_neg h1, if_neg h1]
      by_cases h2 : j < 72
      · rw [if_pos h2, if_pos h2]
      · rw [if_neg h2, if_neg h2, if_pos (by omega), if_pos (by omega)]
theorem hc72 (st : Sha.St) (rest : Nat → Int) (u u' n : Int) (j : Nat) : (if j = 72 then (.int .i64 u' : Value) else hc st rest u n j) = hc st rest u' n j := by
  unfold hc
  by_cases e : j = 72
  · subst e; rfl
  · rw [if_neg e]
    by_cases h1 : j < 8
    · rw [if_pos h1, if_pos h1]
    · rw [if_neg h1, if_neg h1]
      by_cases h2 : j < 72
      · rw [if_pos h2, if_pos h2]
      · rw [if_neg h2, if_neg h2, if_neg e, if_neg e]
/-- The bytes behind a copy of the first k of r to place u. -/
def put (rest : Nat → Int) (u k : Nat) (r : List Int) : Nat → Int := fun i => if u ≤ i ∧ i < u + k then r.getD (i - u) 0 else rest i

theorem put_buf (R : Nat → Int) (B r : List Int) (k : Nat) (hRB : ∀ i, i < B.length → R i = B.getD i 0) (i : Nat) (hi : i < B.length + k) :
    put R B.length k r i = (B ++ r.take k).getD i 0 := by
  unfold put
  by_cases h : i < B.length
  · rw [if_neg (by omega), hRB i h, Sha.getD_append_left _ _ _ h]
  · rw [if_pos ⟨by omega, hi⟩]
    simp only [List.getD_eq_getElem?_getD]
    rw [List.getElem?_append_right (by omega), List.getElem?_take, if_pos (by omega)]
theorem put_byte (R : Nat → Int) (u k : Nat) (r : List Int) (hR : ∀ i, 0 ≤ R i ∧ R i < 256) (hr : ∀ j, 0 ≤ r.getD j 0 ∧ r.getD j 0 < 256) (i : Nat) : 0 ≤ put R u k r i ∧ put R u k r i < 256 := by
  unfold put
  split
  · exact hr _
  · exact hR _
/-- A round that does not fill the block. -/
theorem wrel_part {w wr : World} {hb : Nat} {st S : Sha.St} {m r B : List Int} {N k cap' : Nat} {a' : Option Addr} {R : Nat → Int} (hk : k = min r.length (64 - B.length)) (hBl : B.length < 64) (hnot : ¬ B.length + k = 64)
    (hRB : ∀ i, i < B.length → R i = B.getD i 0) (hR8 : ∀ i, 0 ≤ R i ∧ R i < 256) (hr8 : ∀ j, 0 ≤ r.getD j 0 ∧ r.getD j 0 < 256) (hcap : cap' ≤ 9223372036854775807)
    (hBy : BytesAt (fun b => b < w.heap.size ∧ b ≠ hb) wr a' (cap' - k) (r.drop k)) (hrow : wr.rowIs hb 54 74 (hc S (put R B.length k r) ((B.length : Int) + (k : Int)) N))
    (hF : Sha.finSt S (B ++ r) = Sha.finSt st m ∧ Sha.finBuf (B ++ r) = Sha.finBuf m) (hg : w.grownBy wr (some hb)) :
    WRel w hb st m N (r.length - k) (.slice a' (r.length - k) (cap' - k)) wr := by
  have e : B ++ r.take k ++ r.drop k = B ++ r := by rw [List.append_assoc, List.take_append_drop]
  refine ⟨a', cap' - k, r.drop k, S, B ++ r.take k, by rw [List.length_drop], by rw [List.length_drop], by omega, hBy, ⟨put R B.length k r, ?_, fun i hi => ?_, put_byte R _ k r hR8 hr8, ?_⟩, by rw [e]; exact hF.1, by rw [e]; exact hF.2, hg⟩
  · rw [show (((B ++ r.take k).length : Nat) : Int) = (B.length : Int) + (k : Int) by rw [List.length_append, List.length_take]; omega]
    exact hrow
  · exact put_buf R B r k hRB i (by rw [List.length_append, List.length_take] at hi; omega)
  · rw [List.length_append, List.length_take]; omega
/-- A round that fills the block. -/
theorem wrel_full {w wr : World} {hb : Nat} {st S : Sha.St} {m r B : List Int} {N k cap' : Nat} {a' : Option Addr} {R : Nat → Int} (hk : k ≤ r.length) (hfull : B.length + k = 64)
    (hRB : ∀ i, i < B.length → R i = B.getD i 0) (hR8 : ∀ i, 0 ≤ R i ∧ R i < 256) (hr8 : ∀ j, 0 ≤ r.getD j 0 ∧ r.getD j 0 < 256) (hcap : cap' ≤ 9223372036854775807)
    (hBy : BytesAt (fun b => b < w.heap.size ∧ b ≠ hb) wr a' (cap' - k) (r.drop k)) (hrow : wr.rowIs hb 54 74 (hc (Sha.compress S (put R B.length k r)) (put R B.length k r) 0 N))
    (hF : Sha.finSt S (B ++ r) = Sha.finSt st m ∧ Sha.finBuf (B ++ r) = Sha.finBuf m) (hg : w.grownBy wr (some hb)) :
    WRel w hb st m N (r.length - k) (.slice a' (r.length - k) (cap' - k)) wr := by
  have e : B ++ r = (B ++ r.take k) ++ r.drop k := by rw [List.append_assoc, List.take_append_drop]
  have hl : (B ++ r.take k).length = 64 := by rw [List.length_append, List.length_take]; omega
  have hcm : Sha.compress S (put R B.length k r) = Sha.finSt S (B ++ r.take k) := by
    rw [(Sha.fin_full S _ hl).1]
    refine Sha.compress_congr (fun j hj => ?_) S
    rw [put_buf R B r k hRB j (by omega)]
    simp [Sha.blk]
  refine ⟨a', cap' - k, r.drop k, Sha.compress S (put R B.length k r), [], by rw [List.length_drop], by rw [List.length_drop], by omega, hBy, ⟨put R B.length k r, hrow, fun i hi => by simp at hi, put_byte R _ k r hR8 hr8, by simp⟩, ?_, ?_, hg⟩
  · rw [← hF.1, e, Sha.finSt_append S (B ++ r.take k) (r.drop k), (Sha.fin_full S _ hl).2, hcm]
  · rw [← hF.2, e, Sha.finBuf_append (B ++ r.take k) (r.drop k), (Sha.fin_full S _ hl).2]

set_option maxHeartbeats 1000000 in
theorem write_any (hb : Nat) (a : Option Addr) (cap : Nat) (l : List Int) (st : Sha.St) (buf : List Int) (n : Nat) (w : World) (hH : HashIs w hb st buf n)
   (hB : BytesAt (fun b => b < w.heap.size ∧ b ≠ hb) w a cap l) (hcap : cap ≤ 9223372036854775807) (hll : l.length ≤ 140737488355328) (hn : n ≤ 4611686018427387904) (h00 : 0 < w.heap.size) (hb0 : hb ≠ 0)
   (hT : ∀ k, k < 64 → w.cell? ⟨0, k, none⟩ = some (.int .u32 (Sha.KL.getD k 0))) :
    Calls Tryd.prog 19 #[.pointer (some ⟨hb, 0, none⟩), .slice a l.length cap] w fun e w' => e = .returned (.tuple #[]) ∧ w.grownBy w' (some hb) ∧ HashIs w' hb (Sha.finSt st (buf ++ l)) (Sha.finBuf (buf ++ l)) (n + l.length) := by
  have HT := Lib.hid hT
  clear hT
  have hlc := hB.fits
  have hb2 := hH.lt
  obtain ⟨rest, hrow, hrest, hr8, hbuf⟩ := hH
  have HREST := Lib.hid hrest
  have HR8 := Lib.hid hr8
  clear hrest hr8
  have c73 := hrow.cell (i := 73) (by omega)
  simp only [hc, show ¬ (73 < 8) by omega, show ¬ (73 < 72) by omega, show ¬ (73 = 72) by omega, if_false] at c73
  have f73 := hrow.frozen 73
  have hrel0 : WRel w hb st (buf ++ l) (n + l.length) l.length (.slice a l.length cap) (w.setCell ⟨hb, 73, none⟩ (.int .i64 ((n : Int) + (l.length : Int)))) := by
    refine ⟨a, cap, l, st, buf, rfl, rfl, hcap, hB.keep (fun b hb' => Below.heap_setCell w _ _ b hb'.2), ⟨rest, ?_, HREST.out, HR8.out, hbuf⟩, rfl, rfl, grown_setCell (grown_refl w _) (.inl rfl) _⟩
    refine (hrow.set 73 _).congr (fun j hj => ?_)
    rw [show ((n + l.length : Nat) : Int) = (n : Int) + (l.length : Int) by omega]
    exact hc73 st rest _ _ _ j hj
  obtain ⟨N, hN⟩ : ∃ N, N = n + l.length := ⟨_, rfl⟩
  obtain ⟨m, hm⟩ : ∃ m, m = buf ++ l := ⟨_, rfl⟩
  have HNM := Lib.hid (And.intro hN hm)
  go_enter Tryd.func19, Tryd.ntmps19
  go_wp2_with fail
  rw [← hN, ← hm] at hrel0
  clear hN hm
  go_loopg [1] l.length (fun k v wr => WRel w hb st m N k v wr)
  case atStart => exact hrel0
  case round =>
    clear hrel0 c73 f73 hrow
    obtain ⟨a, cap', r, S, B, rfl, rfl, hcap', hBy, hHs, hfin1, hfin2, hg⟩ := hrel
    have HF := Lib.hid (And.intro hfin1 hfin2)
    clear hfin1 hfin2
    obtain ⟨R, hR, hRB, hR8, hBl⟩ := hHs
    have HRB := Lib.hid hRB
    have HR8' := Lib.hid hR8
    clear hRB hR8
    have hfits := hBy.fits
    have hBr := Lib.hid hBy.byte
    by_cases h0 : r.length = 0
    · have hr0 : r = [] := List.eq_nil_of_length_eq_zero h0
      have HR0 := Lib.hid hr0
      clear hr0
      go_wp2_with fail
      go_end0
      have e := HR0.out
      obtain ⟨hN, hm⟩ := HNM.out
      have hF := HF.out
      rw [e, List.append_nil, (Sha.fin_short S B hBl).1, (Sha.fin_short S B hBl).2] at hF
      refine ⟨rfl, hg, ?_⟩
      rw [← hN, ← hm, ← hF.1, ← hF.2]
      exact ⟨R, hR, HRB.out, HR8'.out, hBl⟩
    · have h0' : 0 < r.length := Nat.pos_of_ne_zero h0
      obtain ⟨b, o, rfl, hok, hcells⟩ := hBy.addr h0'
      have HCE := Lib.hid hcells
      have c72 := hR.cell (i := 72) (by omega)
      simp only [hc, show ¬ (72 < 8) by omega, show ¬ (72 < 72) by omega, if_false, if_true] at c72
      have f72 := hR.frozen 72
      obtain ⟨cur, hcur, hcl, hcg⟩ := hR
      have HCUR := Lib.hid (And.intro hcur (And.intro hcl hcg))
      clear hcur hcl hcg hcells
      obtain ⟨k, hk⟩ : ∃ k, k = min r.length (64 - B.length) := ⟨_, rfl⟩
      have hk1 : k ≤ r.length := by omega
      have hk2 : B.length + k ≤ 64 := by omega
      have hk3 : 0 < k := by omega
      have HK := Lib.hid hk
      obtain ⟨a', ha', hBy'⟩ := hBy.drop k hk1
      have C1 : Hid ((u8s (r.take k)).length = Nat.min r.length (64 - B.length)) := by
        show _ = _
        rw [length_u8s, List.length_take, Nat.min_eq_left hk1]; exact hk
      have C2 : Hid (∀ j v, (u8s (r.take k))[j]? = some v → wr.drew.cell? ((⟨b, o, none⟩ : Addr).add j) = some v) := by
        intro j v hv
        have hj : j < k := by
          have := (List.getElem?_eq_some_iff.1 hv).1
          rw [length_u8s, List.length_take] at this
          omega
        rw [Addr.add_mid]
        have := HCE.out j (by omega)
        rw [u8s_get _ _ (by rw [List.length_take]; omega)] at hv
        rw [← hv]
        simpa [List.getD_eq_getElem?_getD, List.getElem?_take, hj] using this
      have C3 : Hid (8 + B.length + (u8s (r.take k)).length ≤ cur.toList.length) := by
        show _ ≤ _
        have e := HCUR.out.2.1
        rw [length_u8s, List.length_take, Nat.min_eq_left hk1, Array.length_toList (xs := cur), e]; omega
      have hsl := sl52 hb B.length hBl
      go_wp2_with fail
      clear hk
      go_region_law (first | (refine step_copy_row rfl (.tmp 26) (.tmp 27) 22 22 rfl 5 Tryd.underlying22 Tryd.sz5 _ _ _ _ _ _ rfl rfl hb (8 + B.length) cur.toList 54 HCUR.out.1 (u8s (r.take k)) C1.out (fun _ => ⟨rfl, _, rfl, C2.out⟩) C3.out (u8s_one _) ?_))
      have hlen : (u8s (r.take k)).length = k := by rw [length_u8s, List.length_take, Nat.min_eq_left hk1]
      rw [hlen]
      have hR2 : (wr.drew.setRow hb (splice cur.toList (8 + B.length) (u8s (r.take k))).toArray).rowIs hb 54 74 (hc S (put R B.length k r) B.length N) := by
        refine rowIs_splice (n := 74) (t := 54) HCUR.out.1 (by have e := HCUR.out.2.1; simpa using e) (by rw [hlen]; omega) (fun j hj => ?_)
        rw [hlen]
        have e2 := HCUR.out.2.2 j hj
        by_cases hin : 8 + B.length ≤ j ∧ j < 8 + B.length + k
        · rw [if_pos hin, u8s_get _ _ (by rw [List.length_take]; omega)]
          have e3 : hc S (put R B.length k r) B.length N j = .int .u8 (r.getD (j - (8 + B.length)) 0) := by
            unfold hc put
            rw [if_neg (by omega), if_pos (by omega), if_pos (by omega), show j - 8 - B.length = j - (8 + B.length) by omega]
          rw [e3]
          simp [List.getD_eq_getElem?_getD, show j - (8 + B.length) < k by omega]
        · rw [if_neg hin, Array.getElem?_toList, e2]
          unfold hc put
          by_cases h1 : j < 8
          · rw [if_pos h1, if_pos h1]
          · rw [if_neg h1, if_neg h1]
            by_cases h2 : j < 72
            · rw [if_pos h2, if_pos h2, if_neg (by omega)]
            · rw [if_neg h2, if_neg h2]
      have hg2 : w.grownBy (wr.drew.setRow hb (splice cur.toList (8 + B.length) (u8s (r.take k))).toArray) (some hb) := grown_trans (grown_drew hg) (setRow_grown _ _ _)
      have hBy2 : BytesAt (fun b => b < w.heap.size ∧ b ≠ hb) (wr.drew.setRow hb (splice cur.toList (8 + B.length) (u8s (r.take k))).toArray) a' (cap' - k) (r.drop k) :=
        hBy'.keep (fun b hb' => setRow_other wr.drew hb b _ (by intro e; exact hb'.2 (by rw [e])))
      clear hBy hBy' C1 C2 C3 HCE HCUR c72 f72 hlen hg
      generalize (wr.drew.setRow hb (splice cur.toList (8 + B.length) (u8s (r.take k))).toArray) = w2 at *
      have c72 := hR2.cell (i := 72) (by omega)
      simp only [hc, show ¬ (72 < 8) by omega, show ¬ (72 < 72) by omega, if_false, if_true] at c72
      have f72 := hR2.frozen 72
      go_wp2_with fail
      go_region
      have hr8 := hBr.out
      by_cases hfull : B.length + k = 64
      · have hd1 : ((B.length : Int) + (k : Int) == 64) = true := by simp; omega
        have HFU := Lib.hid hfull
        have hR3 : (w2.setCell ⟨hb, 72, none⟩ (.int .i64 ((B.length : Int) + (k : Int)))).drew.rowIs hb 54 74 (hc S (put R B.length k r) ((B.length : Int) + (k : Int)) N) := (hR2.set 72 _).drew.congr (fun j _ => hc72 S _ _ _ _ j)
        have hg3 : w.grownBy (w2.setCell ⟨hb, 72, none⟩ (.int .i64 ((B.length : Int) + (k : Int)))).drew (some hb) := grown_drew (grown_setCell hg2 (.inl rfl) _)
        have hBy3 : BytesAt (fun b => b < w.heap.size ∧ b ≠ hb) (w2.setCell ⟨hb, 72, none⟩ (.int .i64 ((B.length : Int) + (k : Int)))).drew a' (cap' - k) (r.drop k) :=
          hBy2.keep (fun b hb' => Below.heap_setCell w2 _ _ b hb'.2)
        clear hR2 hg2 hBy2 hfull hr8
        go_wp2_with fail
        clear c72 f72
        generalize (w2.setCell ⟨hb, 72, none⟩ (.int .i64 ((B.length : Int) + (k : Int)))).drew = w3 at *
        have hsz : w.heap.size ≤ w3.heap.size := hg3.size
        refine (mix_any hb hb 8 64 64 (put R B.length k r) S (hc S (put R B.length k r) ((B.length : Int) + (k : Int)) N) w3 (by omega) (by omega) (by omega) (by omega) (fun i hi => ?_) (put_byte R _ k r HR8'.out hBr.out) hR3 (fun i hi => ?_) (fun j hj => ?_)).mono ?_
        · rw [hR3.cell (by omega)]
          unfold hc
          rw [if_neg (by omega), if_pos (by omega), show 8 + i - 8 = i by omega]
        · unfold hc
          rw [if_pos hi]
        · rw [grown_cell hg3 (p := ⟨0, j, none⟩) h00 (by exact fun h => hb0 h.symm)]
          exact HT.out j hj
        rintro e w4 ⟨rfl, hg4, hrow4⟩
        have hg5 : w.grownBy w4 (some hb) := grown_trans hg3 hg4
        have hBy4 : BytesAt (fun b => b < w.heap.size ∧ b ≠ hb) w4 a' (cap' - k) (r.drop k) := hBy3.keep (fun b hb' => hg4.block b (by omega) (by intro e; cases e; exact hb'.2 rfl))
        have c72 := hrow4.cell (i := 72) (by omega)
        simp only [hc, show ¬ (72 < 8) by omega, show ¬ (72 < 72) by omega, if_false, if_true] at c72
        have f72 := hrow4.frozen 72
        clear hR3 hg3 hBy3 hg4
        go_wp2_with fail
        go_roundg (r.length - k)
        case measure => omega
        case rel =>
          refine wrel_full hk1 HFU.out HRB.out HR8'.out hBr.out hcap' (hBy4.keep (fun b hb' => Below.heap_setCell w4 _ _ b hb'.2)) ?_ HF.out (grown_setCell hg5 (.inl rfl) _)
          refine (hrow4.set 72 _).congr (fun j hj => ?_)
          unfold hc
          by_cases e : j = 72
          · subst e; rfl
          · rw [if_neg e]
            by_cases h1 : j < 8
            · rw [if_pos h1, if_pos h1]
            · rw [if_neg h1, if_neg h1, if_neg h1]
              by_cases h2 : j < 72
              · rw [if_pos h2, if_pos h2]
              · rw [if_neg h2, if_neg h2, if_neg e, if_neg e]
      · have hd1 : ((B.length : Int) + (k : Int) == 64) = false := by simp; omega
        have HFU := Lib.hid hfull
        clear hfull hr8
        go_wp2_with fail
        go_roundg (r.length - k)
        case measure => omega
        case rel =>
          exact wrel_part HK.out hBl HFU.out HRB.out HR8'.out hBr.out hcap' (hBy2.keep (fun b hb' => Below.heap_setCell w2 _ _ b hb'.2)) ((hR2.set 72 _).drew.congr (fun j _ => hc72 S _ _ _ _ j)) HF.out (grown_drew (grown_setCell hg2 (.inl rfl) _))
end Go.Proofs.YtmilbmgbpoekmaaDoor
