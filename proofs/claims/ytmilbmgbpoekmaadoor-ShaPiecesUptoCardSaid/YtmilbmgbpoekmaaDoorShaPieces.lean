/-
  THE LAW ShaPieces, where what is handed in is of bulk at most 1048576: it returns true: its row and its tied card.
-/
import Derived.Test.YtmilbmgbpoekmaaDoorT24
import Derived.Test.YtmilbmgbpoekmaaDoorT12
import Derived.Deep.Matrix
namespace Go.Proofs.YtmilbmgbpoekmaaDoor.shaPieces
open Go.ChangeShapes Go.WideShapes Go.ChangeAt Go.RowKit
set_option maxRecDepth 100000

theorem cells22 : Tryd.prog.cellsOf 22 = 1 := by kernel_rfl

theorem bulk_append {H : Type} (l r : List (DataW H)) : Rows.uptoBulkAll (l ++ r) = Rows.uptoBulkAll l + Rows.uptoBulkAll r := by
  induction l with
  | nil => simp [Rows.uptoBulkAll]
  | cons x l ih => simp only [List.cons_append, Rows.uptoBulkAll, ih]; omega
theorem bulk_lits {H : Type} (k : IntKind) : ∀ l : List Int, Rows.uptoBulkAll (lits (H := H) k l) = l.length
  | [] => rfl
  | x :: l => by
    have ih := bulk_lits (H := H) k l
    show Rows.uptoBulk (.lit (.int k x)) + Rows.uptoBulkAll (lits k l) = _
    rw [ih]
    simp only [Rows.uptoBulk, List.length_cons]
    omega
theorem bulk_row {H : Type} (k : IntKind) (A : Option Addr) (L : Nat) (zs : List Int) (h : A = none → zs = []) : (zs.take L).length ≤ Rows.uptoBulk (Deep.intRow (H := H) k A L zs) := by
  cases A with
  | none => rw [h rfl]; simp
  | some a =>
    show _ ≤ Rows.uptoBulk (.slice (lits k (zs.take L)) (lits k (zs.drop L)))
    simp only [Rows.uptoBulk, bulk_lits]
    omega
theorem bulk_rows {H : Type} (k : IntKind) (A : Nat → Option Addr) (L : Nat → Nat) (Z : Nat → List Int) : ∀ n, (∀ r, r < n → A r = none → Z r = []) →
    (joined (fun r => (Z r).take (L r)) n).length ≤ Rows.uptoBulkAll ((List.range n).map fun r => Deep.intRow (H := H) k (A r) (L r) (Z r))
  | 0, _ => by simp [joined]
  | n + 1, h => by
    have ih := bulk_rows (H := H) k A L Z n (fun r hr => h r (by omega))
    have h1 := bulk_row (H := H) k (A n) (L n) (Z n) (h n (by omega))
    rw [joined_succ, List.length_append, List.range_succ, List.map_append, bulk_append]
    simp only [List.map_cons, List.map_nil, Rows.uptoBulkAll]
    omega
theorem cell_lt {W : World} {b o : Nat} {s : Option Nat} {v : Value} (h : W.cell? ⟨b, o, s⟩ = some v) : b < W.heap.size := by
  unfold World.cell? at h
  cases hg : W.heap[b]? with
  | none => simp [hg] at h
  | some ob => exact (Array.getElem?_eq_some_iff.1 hg).1

/-- For every argument of such a bulk and every world that holds the table. -/
theorem contract (H : Type) (enc : TypeId × Value → H) (W : World) (base : Nat) (args : Array Value) (ds gs : List (DataW H)) (before : List MemPlace)
    (hval : ∀ (j : Nat) t v, Tryd.f5.params[j]? = some t → args[j]? = some v → Value.okWide Tryd.prog W .any base t v)
    (hW : DataW.Whole enc Tryd.prog Tryd.f5.params.toList Rows.shaPiecesSpec.vars false W args.toList ds gs before)
    (hk : Rows.uptoSmall H (ds ++ gs) = true)
    (hL : laidMetH Tryd.prog Rows.shaPiecesUptoRow.laid W) :
    Calls Tryd.prog 5 args W fun e W' => ∃ v, e = .returned v ∧ Rows.shaPiecesSpec.post enc Tryd.prog Tryd.f5 false true false false W args v W' := by
  have hW' := hW
  obtain ⟨p, q, hA0, hV, rfl, hfz, hnd⟩ := hW
  have hA : DataW.TrodAll enc Tryd.prog W 0 (fun _ => true) true Tryd.f5.params.toList args.toList ds p := hA0
  rw [Tryd.params5] at hA hval
  obtain ⟨v0, vs0, d0, ds0, p0, q0, hargs, rfl, rfl, h0, r0⟩ := trodAll_cons hA
  obtain ⟨rfl, rfl, rfl⟩ := trodAll_nil r0
  obtain rfl : args = #[v0] := by cases args; simp_all
  obtain ⟨rfl, rfl⟩ := trodVars_none hV
  clear hA0
  simp only [List.append_nil] at hW' hk
  have hlt : ∀ x ∈ p0, x.block < W.heap.size := fun x hx => by simpa using hW'.lt x hx
  have hK := tabK_of_laid hL
  have walk : Calls Tryd.prog 5 #[v0] W fun e w' => e = .returned (.bool true) ∧ Below W.heap.size W w' := by
    obtain ⟨a0, len, cap, rfl⟩ := okWide_slice Tryd.underlying31 (hval 0 31 v0 rfl rfl)
    obtain ⟨fuel, hf⟩ := h0
    rcases Deep.open_int_rows Tryd.underlying31 Tryd.underlying22 Tryd.underlying5 cells22 ccells5 hf with ⟨hcs, hx⟩ | ⟨a, len', cap', A, L, C, Z, hcs, _, hl, hm, hx, hcell⟩
    · simp [Value.cells] at hcs
      obtain ⟨rfl, rfl, rfl⟩ := hcs
      exact shaPieces_walk none 0 0 (fun _ => none) (fun _ => 0) (fun _ => 0) (fun _ => []) W (by omega) (fun r hr => by omega) (fun r hr => by omega) (by simp [joined]) hK.pos hK
    · simp [Value.cells] at hcs
      obtain ⟨rfl, rfl, rfl⟩ := hcs
      simp only [Prod.mk.injEq] at hx
      obtain ⟨rfl, rfl⟩ := hx
      have hbulk := of_decide_eq_true hk
      simp only [Rows.uptoBulkAll, Rows.uptoBulk] at hbulk
      obtain ⟨b, o, s⟩ := a
      refine shaPieces_walk (some ⟨b, o, s⟩) len cap A L C (fun r => (Z r).take (L r)) W (by unfold maxLen at hm; omega) (fun r hr => ?_) (fun r hr => ?_) ?_ hK.pos hK
      · have h1 := (hcell 0 (by omega)).1
        have hs : s = none := by simpa [Addr.add] using World.cell?_spot h1
        subst hs
        have h2 := (hcell r (by omega)).1
        rw [Addr.add_mid] at h2
        exact ⟨b, o, rfl, cell_lt h2, h2⟩
      · obtain ⟨_, hLC, hCm, hZl, hwf, hnone, hsome⟩ := hcell r (by omega)
        have hlen : ((Z r).take (L r)).length = L r := by rw [List.length_take]; omega
        refine ⟨hlen, ?_, by unfold maxLen at hCm; omega⟩
        by_cases hz : L r = 0
        · exact .inl ⟨by simp [hz], hnone⟩
        · cases hA : A r with
          | none => have := hnone hA; omega
          | some a' =>
            obtain ⟨_, hc⟩ := hsome a' hA
            obtain ⟨b', o', s'⟩ := a'
            have hs : s' = none := by simpa [Addr.add] using World.cell?_spot (hc 0 (by omega))
            subst hs
            refine .inr ⟨by rw [hlen]; exact hLC, by simp, fun b2 o2 s2 e => ?_, getD_of_mem (fun x hx => by have := Go.bounds_u8 (hwf x (List.mem_of_mem_take hx)); omega)⟩
            cases e
            have h0c := hc 0 (by omega)
            rw [Addr.add_mid] at h0c
            refine ⟨rfl, cell_lt h0c, fun j hj => ?_⟩
            rw [hlen] at hj
            have hj' := hc j (by omega)
            rw [Addr.add_mid] at hj'
            rw [hj', List.getD_eq_getElem?_getD, List.getD_eq_getElem?_getD, List.getElem?_take, if_pos hj]
      · have h1 := bulk_rows (H := H) .u8 A L Z len (fun r hr hn => by
          obtain ⟨_, _, _, hZl, _, hnone, _⟩ := hcell r (by omega)
          exact List.eq_nil_of_length_eq_zero (by rw [hZl]; exact hnone hn))
        omega
  refine walk.mono fun e W' ⟨he, hb⟩ => ?_
  subst he
  exact ⟨_, rfl, _, _, _, [], p0, [], hW', trodAll_cons_mk (shut_bool Tryd.underlying4 _) trodAll_mk0,
    trodAll_mk1 (Below.trod laidOut (by kernel_rfl) (of_decide_eq_true (by kernel_rfl)) h0 hb hlt), rfl, hb.frame _, fun h => by cases h⟩

theorem laid_met (os : Os) : laidMet Tryd.prog Rows.shaPiecesUptoRow.laid ((laidWorld os).forCall (fun _ _ => 0) ⟨#[], #[.slice none 0 0], []⟩).memory :=
  laidMet_of_run' 8 (by kernel_rfl) (by kernel_rfl)
theorem reads (os : Os) {H : Type} (enc : TypeId × Value → H) : ∃ places, DataW.whole enc Tryd.prog ((laidWorld os).forCall (fun _ _ => 0) ⟨#[], #[.slice none 0 0], []⟩).memory Tryd.f5.params.toList Rows.shaPiecesSpec.vars false (#[.slice none 0 0] : Array Value).toList 8 = some ([.nil], [], places) :=
  ⟨[], by kernel_rfl⟩
/-- The second form's step. -/
theorem lifted (os : Os) (started : os.Started) (H : Type) (enc : TypeId × Value → H) (F : Stop.Interp) :
    ReturnsInHanded {} Tryd.checked os 5 .any ((Rows.OpenSpec.upto Rows.shaPiecesSpec).preRow enc Tryd.prog Tryd.f5 Rows.shaPiecesUptoRow.domain false Rows.shaPiecesUptoRow.laid) (((Rows.OpenSpec.upto Rows.shaPiecesSpec).at F).post enc Tryd.prog Tryd.f5 false true false false) := by
  obtain ⟨places, hx⟩ := reads os enc
  refine returnsInHanded_of_row (C := Tryd.checked) (s := Rows.OpenSpec.upto Rows.shaPiecesSpec) own started (by kernel_rfl) Tryd.func5
    (witness_row_at (enc := enc) (C := Tryd.checked) false (laidWorld os) #[.slice none 0 0] rfl (by kernel_rfl) (by kernel_rfl) (by kernel_rfl)
      (OpenSpec.preRow_of_cond 8 hx (by kernel_rfl) (fun k hk => by cases hk; kernel_rfl) (by kernel_rfl) (laid_met os))) ?_
  intro W base args ds gs before hval hW _ hcond _ hL _ _
  exact contract H enc W base args ds gs before hval hW (hcond _ rfl) hL

theorem said : Rows.ShaPiecesUptoSaid :=
  OpenClaim.holds_of_cond 5 Tryd.f5 rfl rfl rfl rfl rfl rfl rfl ⟨rfl, rfl, rfl, rfl, rfl⟩ rfl rfl rfl rfl rfl (by kernel_rfl) Tryd.func5 (by kernel_rfl)
    (of_decide_eq_true (by kernel_rfl)) (by unfold Func.isWrapper; first | (rw [if_pos (by decide +kernel)]; kernel_rfl) | (rw [if_neg (by decide +kernel)]; exact ⟨rfl, rfl⟩))
    (fun os started H enc _ F => by rw [OpenClaim.pre_eq_preRow]; exact lifted os started H enc F)

/-- No parameter wants a stand-in; the program's own looks are off. -/
theorem plain (f : FuncId) (fn : Func) (hf : Tryd.pinned.checked.prog.funcNamed "veneer/veneerlaw01.ShaPieces" = some f) (hfn : Tryd.pinned.checked.prog.funcs[f]? = some fn) :
    false = Tryd.pinned.checked.prog.looks [] ∧ ∀ (j : Nat) t, fn.params[j]? = some t → Tryd.pinned.checked.prog.wantsStandIn t = false := by
  obtain rfl : f = 5 := Option.some.inj ((show Tryd.prog.funcNamed "veneer/veneerlaw01.ShaPieces" = some 5 by kernel_rfl).symm.trans hf) |>.symm
  obtain rfl : fn = Tryd.f5 := (Option.some.inj (Tryd.func5.symm.trans hfn)).symm
  refine ⟨by kernel_rfl, fun j t ht => ?_⟩
  rw [Tryd.params5] at ht
  obtain rfl : t = 31 := by simpa using Array.mem_of_getElem? ht
  exact (show Tryd.prog.wantsStandIn 31 = false by kernel_rfl)

/-- THE SECOND FORM's CARD. -/
theorem card : Rows.ShaPiecesUptoCardSaid :=
  Claim7.holds_tied_plain_at .later [] _ _ _ _ said (fun _ h => by cases h) (by kernel_rfl) (fun _ h => by cases h) shaPiecesUpto_row_tie rfl ⟨rfl, rfl⟩ (by kernel_rfl) rfl plain (by kernel_rfl)
end Go.Proofs.YtmilbmgbpoekmaaDoor.shaPieces
