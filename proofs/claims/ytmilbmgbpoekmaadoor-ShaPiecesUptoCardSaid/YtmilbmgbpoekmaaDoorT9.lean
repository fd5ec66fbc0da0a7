import Derived.Test.YtmilbmgbpoekmaaDoorT7
import Derived.Test.YtmilbmgbpoekmaaDoorLib3
import Derived.Laws.BytesArg
import Derived.Deep.RegionLaw
namespace Go.Proofs.YtmilbmgbpoekmaaDoor
open Go.RowKit
set_option maxRecDepth 100000

/-- A digit's letter. -/
def hexd (n : Int) : Int := if n < 10 then 48 + n else 87 + n
def hexL : List Int → List Int
  | [] => []
  | x :: r => hexd (x / 16) :: hexd (x % 16) :: hexL r
theorem hexL_append : ∀ a b : List Int, hexL (a ++ b) = hexL a ++ hexL b
  | [], _ => rfl
  | x :: a, b => by simp [hexL, hexL_append a b]
theorem length_hexL : ∀ a : List Int, (hexL a).length = 2 * a.length
  | [] => rfl
  | x :: a => by simp [hexL, length_hexL a]; omega
theorem hexd_byte (n : Int) (h : 0 ≤ n ∧ n < 16) : 0 ≤ hexd n ∧ hexd n < 256 := by unfold hexd; split <;> omega
theorem hexIx_nat : ∀ (n : Nat), n < 16 → ∀ W : World, (Instr.index 9 (.string ⟨#[48, 49, 50, 51, 52, 53, 54, 55, 56, 57, 97, 98, 99, 100, 101, 102]⟩) (.int .u8 (n : Int))).run Tryd.prog W = .ok (.int .u8 (hexd n)) W := by
  intro n hn W
  have h0 : (Instr.index 9 (.string ⟨#[48, 49, 50, 51, 52, 53, 54, 55, 56, 57, 97, 98, 99, 100, 101, 102]⟩) (.int .u8 0)).run Tryd.prog W = .ok (.int .u8 48) W := by kernel_rfl
  have h1 : (Instr.index 9 (.string ⟨#[48, 49, 50, 51, 52, 53, 54, 55, 56, 57, 97, 98, 99, 100, 101, 102]⟩) (.int .u8 1)).run Tryd.prog W = .ok (.int .u8 49) W := by kernel_rfl
  have h2 : (Instr.index 9 (.string ⟨#[48, 49, 50, 51, 52, 53, 54, 55, 56, 57, 97, 98, 99, 100, 101, 102]⟩) (.int .u8 2)).run Tryd.prog W = .ok (.int .u8 50) W := by kernel_rfl
  have h3 : (Instr.index 9 (.string ⟨#[48, 49, 50, 51, 52, 53, 54, 55, 56, 57, 97, 98, 99, 100, 101, 102]⟩) (.int .u8 3)).run Tryd.prog W = .ok (.int .u8 51) W := by kernel_rfl
  have h4 : (Instr.index 9 (.string ⟨#[48, 49, 50, 51, 52, 53, 54, 55, 56, 57, 97, 98, 99, 100, 101, 102]⟩) (.int .u8 4)).run Tryd.prog W = .ok (.int .u8 52) W := by kernel_rfl
  have h5 : (Instr.index 9 (.string ⟨#[48, 49, 50, 51, 52, 53, 54, 55, 56, 57, 97, 98, 99, 100, 101, 102]⟩) (.int .u8 5)).run Tryd.prog W = .ok (.int .u8 53) W := by kernel_rfl
  have h6 : (Instr.index 9 (.string ⟨#[48, 49, 50, 51, 52, 53, 54, 55, 56, 57, 97, 98, 99, 100, 101, 102]⟩) (.int .u8 6)).run Tryd.prog W = .ok (.int .u8 54) W := by kernel_rfl
  have h7 : (Instr.index 9 (.string ⟨#[48, 49, 50, 51, 52, 53, 54, 55, 56, 57, 97, 98, 99, 100, 101, 102]⟩) (.int .u8 7)).run Tryd.prog W = .ok (.int .u8 55) W := by kernel_rfl
  have h8 : (Instr.index 9 (.string ⟨#[48, 49, 50, 51, 52, 53, 54, 55, 56, 57, 97, 98, 99, 100, 101, 102]⟩) (.int .u8 8)).run Tryd.prog W = .ok (.int .u8 56) W := by kernel_rfl
  have h9 : (Instr.index 9 (.string ⟨#[48, 49, 50, 51, 52, 53, 54, 55, 56, 57, 97, 98, 99, 100, 101, 102]⟩) (.int .u8 9)).run Tryd.prog W = .ok (.int .u8 57) W := by kernel_rfl
  have h10 : (Instr.index 9 (.string ⟨#[48, 49, 50, 51, 52, 53, 54, 55, 56, 57, 97, 98, 99, 100, 101, 102]⟩) (.int .u8 10)).run Tryd.prog W = .ok (.int .u8 97) W := by kernel_rfl
  have h11 : (Instr.index 9 (.string ⟨#[48, 49, 50, 51, 52, 53, 54, 55, 56, 57, 97, 98, 99, 100, 101, 102]⟩) (.int .u8 11)).run Tryd.prog W = .ok (.int .u8 98) W := by kernel_rfl
  have h12 : (Instr.index 9 (.string ⟨#[48, 49, 50, 51, 52, 53, 54, 55, 56, 57, 97, 98, 99, 100, 101, 102]⟩) (.int .u8 12)).run Tryd.prog W = .ok (.int .u8 99) W := by kernel_rfl
  have h13 : (Instr.index 9 (.string ⟨#[48, 49, 50, 51, 52, 53, 54, 55, 56, 57, 97, 98, 99, 100, 101, 102]⟩) (.int .u8 13)).run Tryd.prog W = .ok (.int .u8 100) W := by kernel_rfl
  have h14 : (Instr.index 9 (.string ⟨#[48, 49, 50, 51, 52, 53, 54, 55, 56, 57, 97, 98, 99, 100, 101, 102]⟩) (.int .u8 14)).run Tryd.prog W = .ok (.int .u8 101) W := by kernel_rfl
  have h15 : (Instr.index 9 (.string ⟨#[48, 49, 50, 51, 52, 53, 54, 55, 56, 57, 97, 98, 99, 100, 101, 102]⟩) (.int .u8 15)).run Tryd.prog W = .ok (.int .u8 102) W := by kernel_rfl
  match n, hn with
  | 0, _ => exact h0
  | 1, _ => exact h1
  | 2, _ => exact h2
  | 3, _ => exact h3
  | 4, _ => exact h4
  | 5, _ => exact h5
  | 6, _ => exact h6
  | 7, _ => exact h7
  | 8, _ => exact h8
  | 9, _ => exact h9
  | 10, _ => exact h10
  | 11, _ => exact h11
  | 12, _ => exact h12
  | 13, _ => exact h13
  | 14, _ => exact h14
  | 15, _ => exact h15
  | n + 16, h => omega
theorem hexIx (x : Int) (h : 0 ≤ x ∧ x < 16) (W : World) : (Instr.index 9 (.string ⟨#[48, 49, 50, 51, 52, 53, 54, 55, 56, 57, 97, 98, 99, 100, 101, 102]⟩) (.int .u8 x)).run Tryd.prog W = .ok (.int .u8 (hexd x)) W := by
  obtain ⟨n, rfl⟩ := Int.eq_ofNat_of_zero_le h.1
  exact hexIx_nat n (by omega) W

/-- append(m, l...), m the call's own, as one step of a region that draws its order. -/
theorem step_append_bytes {ops : Array Oper} {o : Oper} {a : Act} {w : World} {K : Act → World → Prop} {Q : Exit → Act → World → Prop} {E : Prop} (hgd : o.guard = none) (s x : Operand)
    (ho : o.op = .call { callee := .builtin .append, args := #[s, x], argTypes := #[22, 22] }) (base : Nat) (v : Value) (m : List Int) (hs : a.eval s = v) (hown : OwnB base w v m)
    (ok : Nat → Prop) (b off scap len : Nat) (l : List Int) (hx : a.eval x = .slice (some ⟨b, off, none⟩) len scap) (hl : l.length = len) (hB : BytesAt ok w (some ⟨b, off, none⟩) scap l)
    (hfit : m.length + l.length ≤ 140737488355328) (hbase : base ≤ w.heap.size)
    (h : ∀ v' w', OwnB base w' v' (m ++ l) → w.grownBy w' v.ownBlock → K (a.put o.dst v') w') :
    if Region.wanted o (yielded ops a.tmps) = true then Oper.wp Tryd.prog o a w K Q else E := by
  have hw : Region.wanted o (yielded ops a.tmps) = true := by simp [Region.wanted, hgd]
  rw [if_pos hw]
  have hinfo : (Tryd.prog.info? 5).map (fun i => (i.zero, i.size, i.bytes)) = some (some (.int .u8 0), 1, 1) := by kernel_rfl
  obtain ⟨i, hi, hz, hz1, hz2⟩ := info_parts hinfo
  subst hl
  refine wp_append_own _ s x 22 ho base 5 i (.int .u8 0) 1 1 Tryd.underlying22 hi hz hz1 hz2 rfl (by decide) v m.length (u8s m) hs hown ⟨b, off, none⟩ l.length scap (u8s l) hx (by rw [length_u8s, Nat.mul_one]) (bytesAt_news hB) (u8s_one l)
    (by unfold maxLen; omega) (by omega) hbase (fun v' w' h1 h2 _ => h v' w' ?_ h2)
  unfold OwnB
  rw [List.length_append]
  simpa [u8s] using h1
theorem bytesAt_two (W : World) (a b : Int) (ha : 0 ≤ a ∧ a < 256) (hb : 0 ≤ b ∧ b < 256) : BytesAt (fun _ => True) (W.alloc (.cells #[.int .u8 a, .int .u8 b] 5)) (some ⟨W.heap.size, 0, none⟩) 2 [a, b] :=
  ⟨by simp, by simp, fun b' o s e => by
    cases e
    refine ⟨rfl, trivial, fun j hj => ?_⟩
    have hbk : (W.alloc (.cells #[.int .u8 a, .int .u8 b] 5)).heap[W.heap.size]? = some (.cells #[.int .u8 a, .int .u8 b] 5 (0, 0)) := Go.Deep.blk_alloc_new _ _
    rw [cell_of_row _ W.heap.size _ _ 5 (0, 0) hbk]
    match j, hj with
    | 0, _ => rfl
    | 1, _ => rfl
    | n + 2, h => simp at h; omega, fun j => by
    match j with
    | 0 => exact ha
    | 1 => exact hb
    | n + 2 => simp⟩

theorem bytesAt_two' (W W' : World) (b : Nat) (hb0 : b = W.heap.size) (x y : Int) (ha : 0 ≤ x ∧ x < 256) (hb : 0 ≤ y ∧ y < 256) (hW : W' = W.drew.alloc (.cells #[.int .u8 x, .int .u8 y] 5)) : BytesAt (fun _ => True) W' (some ⟨b, 0, none⟩) 2 [x, y] := by
  subst hb0
  subst hW
  exact bytesAt_two W.drew x y ha hb
theorem ownB_two {base : Nat} {w w' : World} {v : Value} {m : List Int} {o : Obj} (h : OwnB base w v m) (hW : w' = w.drew.alloc o) : OwnB base w' v m := by
  subst hW
  exact (h.alloc o).keep (fun _ _ => rfl)

theorem below_own_grown {base : Nat} {w wr w' : World} {v : Value} {m : List Int} {o : Obj} (hb : Below base w wr) (hown : OwnB base wr v m) (hB : base ≤ wr.heap.size) (hgr : (wr.drew.alloc o).grownBy w' v.ownBlock) : Below base w w' := by
  refine hb.trans (((Below.refl base wr).drew.alloc hB o).trans ⟨hgr.os, hgr.tape, hgr.output, hgr.size, fun k hk => hgr.block k (by simp; omega) ?_⟩)
  rcases hown.2 with ⟨e, _⟩ | ⟨g, cap, cur, rfl, hg, _⟩
  · subst e
    simp [Value.ownBlock]
  · simp [Value.ownBlock]
    omega

set_option maxHeartbeats 2000000 in
/-- sha.Hex(d). -/
theorem hex_any (d : List Int) (hd : d.length = 32) (hb : ∀ j, 0 ≤ d.getD j 0 ∧ d.getD j 0 < 256) (w : World) :
    Calls Tryd.prog 14 #[.agg (u8s d).toArray] w fun e w' => e = .returned (.string (strOfNums (hexL d))) ∧ Below w.heap.size w w' := by
  obtain ⟨cs, hcs⟩ : ∃ cs, cs = (u8s d).toArray := ⟨_, rfl⟩
  have hcs2 : cs = rowArr 32 (fun j => .int .u8 (d.getD j 0)) := by rw [hcs]; exact u8s_rowArr d 32 hd
  rw [← hcs]
  have HCS := Lib.hid hcs2
  have HB := Lib.hid hb
  have HD := Lib.hid hd
  have hrow : ∀ W : World, (W.alloc (.cells cs 25)).rowIs W.heap.size 25 32 (fun j => .int .u8 (d.getD j 0)) := fun W => by
    rw [hcs2]; exact ⟨_, Go.Deep.blk_alloc_new _ _, size_rowArr _ _, get_rowArr _ _⟩
  have HROW := Lib.hid hrow
  clear hcs hcs2 hb hd hrow
  go_enter Tryd.func14, Tryd.ntmps14
  go_wp2_with (first
    | (refine wpList_load_abs rfl 25 (.tmp 1) rfl w.heap.size rfl 25 32 _ (HROW.out w) _ Tryd.underlying25 rfl Tryd.sz25 ?_; intro ds hds)
    | fail)
  go_loopw [3, 7] (fun v x wr => ∃ i : Nat, i ≤ 32 ∧ x = .int .i64 i ∧ OwnB (w.heap.size + 1) wr v (hexL (d.take i)) ∧ Below (w.heap.size + 1) (w.alloc (.cells cs 25)) wr) (fun _ x _ => 32 - (intOf x).toNat)
  case atStart => exact ⟨0, by omega, rfl, World.ownsRow_nil _ _ _ _, Below.refl _ _⟩
  case round =>
    obtain ⟨i, hi, rfl, hown, hbel⟩ := hrel
    by_cases hlt : i < 32
    · obtain ⟨x, hx⟩ : ∃ x, x = d.getD i 0 := ⟨_, rfl⟩
      have hix : ∀ W, (Instr.index 25 (.agg ds) (.int .i64 (i : Int))).run Tryd.prog W = .ok (.int .u8 x) W :=
        run_index_arr 25 5 32 .i64 .u8 ds i _ Tryd.underlying25 Tryd.underlying5 Tryd.sz5 hlt (by rw [hds.out, hx]; exact get_rowArr 32 _ i hlt)
      obtain ⟨xl, xh⟩ : 0 ≤ x ∧ x < 256 := by rw [hx]; exact HB.out i
      have HX := Lib.hid hx
      clear hx
      have hand : bits .and .u8 x 15 = x % 16 := u8_and15 x xl xh
      have i1 := hexIx (x / 16) (by omega)
      have i2 := hexIx (x % 16) (by omega)
      have hsz : w.heap.size + 1 ≤ wr.heap.size := by have := hbel.size; simpa using this
      go_wp2_with fail
      have hbase : w.heap.size + 1 ≤ (wr.drew.alloc (.cells #[.int .u8 (hexd (x / 16)), .int .u8 (hexd (x % 16))] 5)).heap.size := by simp; omega
      have hnl : (hexL (d.take i)).length = 2 * i := by rw [length_hexL, List.length_take, Nat.min_eq_left (by rw [HD.out]; exact hi)]
      have hd1 := hexd_byte (x / 16) (by omega)
      have hd2 := hexd_byte (x % 16) (by omega)
      have hfit : (hexL (d.take i)).length + [hexd (x / 16), hexd (x % 16)].length ≤ 140737488355328 := by rw [hnl]; simp; omega
      have e1 : hexL (d.take (i + 1)) = hexL (d.take i) ++ [hexd (x / 16), hexd (x % 16)] := by
        rw [List.take_add_one, hexL_append]
        have e2 : d[i]? = some x := by
          rw [HX.out, List.getD_eq_getElem?_getD, List.getElem?_eq_getElem (by rw [HD.out]; exact hlt)]
          rfl
        rw [e2]
        rfl
      go_region_law (refine step_append_bytes rfl (.tmp 10) (.tmp 17) rfl (w.heap.size + 1) _ (hexL (d.take i)) rfl (ownB_two hown rfl) (fun _ => True) wr.heap.size 0 2 2 [hexd (x / 16), hexd (x % 16)] rfl rfl (bytesAt_two' wr _ _ rfl _ _ hd1 hd2 rfl) hfit hbase ?_; intro v3 w3 hown3 hgr3)
      all_goals
        have hgo := below_own_grown hbel hown hsz hgr3
        rw [← e1] at hown3
        clear hgr3 hown hbel
        go_wp2_with fail
        refine ⟨⟨i + 1, by omega, by go_num, hown3, hgo⟩, by simp [intOf]; omega⟩
    · obtain rfl : i = 32 := by omega
      rw [List.take_of_length_le (by rw [HD.out]; exact Nat.le_refl 32)] at hown
      obtain ⟨g, cap, rfl, hg, hg2, hc1, hc2, hcell⟩ := hown.at (by rw [length_hexL, HD.out]; decide)
      have hlen : (hexL d).length = 64 := by rw [length_hexL, HD.out]
      have hcv := run_convert_bytes_arg (P := Tryd.prog) wr 22 5 Tryd.underlying22 Tryd.underlying5 g 0 64 cap (hexL d) hlen (fun j hj => by rw [Nat.zero_add]; exact hcell j (by omega)) 9 (by kernel_rfl)
      rw [hlen]
      go_wp2_with fail
      go_ret
      exact ⟨rfl, ((Below.refl _ _).alloc (Nat.le_refl _) _).trans (hbel.mono (Nat.le_succ _))⟩
end Go.Proofs.YtmilbmgbpoekmaaDoor
