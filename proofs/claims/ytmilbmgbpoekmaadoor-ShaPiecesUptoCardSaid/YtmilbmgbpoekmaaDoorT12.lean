/-
  WHAT THE ROWS OVER A SLICE OF BYTES SHARE: the argument opened; the table of the row's list; a world for the witness.
-/
import Derived.Test.YtmilbmgbpoekmaaDoorT10
import Derived.Test.YtmilbmgbpoekmaaDoorCards
import Derived.Test.YtmilbmgbpoekmaaDoorTie
import Derived.WalkKit
import Derived.ProofKit
import Derived.OpenShut
import Derived.Deep.DeepHandedRow
import Derived.Lib.LaidTab
namespace Go.Proofs.YtmilbmgbpoekmaaDoor
open Go.ChangeShapes Go.WideShapes Go.ChangeAt Go.RowKit
set_option maxRecDepth 100000

theorem own : ownKnob Tryd.prog.godebug = none := by kernel_rfl
theorem laidOut : laidOutB Tryd.prog = true := by kernel_rfl
theorem gTab : Tryd.prog.globalNamed "veneer/sha.rounds" = some 0 := by kernel_rfl
theorem gTabType : (Tryd.prog.globals[0]?).map (·.type) = some 48 := by kernel_rfl
theorem ccells48 : Tryd.prog.cellsOf 48 = 64 := by kernel_rfl
theorem ccells46 : Tryd.prog.cellsOf 46 = 1 := by kernel_rfl
theorem ccells5 : Tryd.prog.cellsOf 5 = 1 := by kernel_rfl
theorem bytes5 : Tryd.prog.bytesOf 5 = 1 := by kernel_rfl

/-- What the row's list gives: the table's cells. -/
theorem tabK_of_laid {W : World} (h : laidMetH Tryd.prog [("veneer/sha.rounds", Rows.laid_veneer_sha_rounds)] W) : TabK W := by
  have hT : Lib.TabIs Tryd.prog W "veneer/sha.rounds" .u32 Sha.KL := Lib.tabIs_of_head (rest := []) gTab gTabType Tryd.underlying48 Tryd.underlying46 ccells46 ccells48 h
  exact fun k hk => hT.cell gTab k (by simpa [Sha.KL] using hk)

theorem TabK.pos {W : World} (h : TabK W) : 0 < W.heap.size := by
  have := h 0 (by decide)
  unfold World.cell? at this
  cases hg : W.heap[0]? with
  | none => simp [hg] at this
  | some o => exact (Array.getElem?_eq_some_iff.1 hg).1

/-- A slice of bytes that came in. -/
theorem open22 {H : Type} {enc : TypeId × Value → H} {W : World} {base : Nat} {v : Value} {d : DataW H} {p : List MemPlace} (hval : Value.okWide Tryd.prog W .any base 22 v) (h : DataW.Trod enc Tryd.prog W 0 (fun _ => true) true 22 v d p)
    (hlt : ∀ x ∈ p, x.block < W.heap.size) (hs : ∀ xs ys, d = .slice xs ys → (xs.length + ys.length) * Tryd.prog.bytesOf 5 ≤ reachBytes) :
    ∃ a cap l, v = .slice a l.length cap ∧ BytesAt (fun b => b < W.heap.size) W a cap l ∧ cap ≤ 140737488351232 := by
  obtain ⟨a0, len, cap, rfl⟩ := okWide_slice Tryd.underlying22 hval
  obtain ⟨fuel, hf⟩ := h
  rcases open_ints Tryd.underlying22 Tryd.underlying5 ccells5 hf with ⟨hcs, hx⟩ | ⟨a, len', cap', zs, hcs, _, hl, hm, hz, hx, hcell, hwz⟩
  · simp [Value.cells] at hcs
    obtain ⟨rfl, rfl, rfl⟩ := hcs
    exact ⟨none, 0, [], rfl, ⟨by simp, by simp, by simp, by simp⟩, by omega⟩
  · simp [Value.cells] at hcs
    obtain ⟨rfl, rfl, rfl⟩ := hcs
    simp only [Prod.mk.injEq] at hx
    obtain ⟨rfl, rfl⟩ := hx
    simp only [if_true] at hz
    have hr := hs _ _ rfl
    rw [bytes5] at hr
    simp only [lits, List.length_map, List.length_take, List.length_drop, reachBytes] at hr
    have hlen : (zs.take len).length = len := by rw [List.length_take]; omega
    have hwf : ∀ n ∈ zs, 0 ≤ n ∧ n < 256 := fun n hn => by
      have := Go.bounds_u8 (hwz n hn)
      omega
    have hby : ∀ j, 0 ≤ (zs.take len).getD j 0 ∧ (zs.take len).getD j 0 < 256 := fun j => by
      rw [List.getD_eq_getElem?_getD]
      cases e : (zs.take len)[j]? with
      | none => simp
      | some x => exact hwf x (List.mem_of_mem_take (List.mem_of_getElem? e))
    refine ⟨some a, cap, zs.take len, by rw [hlen], ⟨by rw [hlen]; exact hl, by simp, fun b o s e => ?_, hby⟩, by omega⟩
    obtain rfl := Option.some.inj e
    have hh : W.has Tryd.prog .any base ⟨b, o, s⟩ 5 cap := by
      have h1 : Cell.ok Tryd.prog W .any base 22 (.slice (some ⟨b, o, s⟩) len cap) := by
        have h2 := hval
        simp only [Value.okWide, Tryd.underlying22, Cell.okWide] at h2
        exact h2
      simp only [Cell.ok, Tryd.underlying22] at h1
      exact h1.2.2
    obtain ⟨_, hsp, row, n, hsh, _⟩ := hh
    have hsp' : s = none := hsp
    subst hsp'
    have hb : b < W.heap.size := by
      have hsh' : W.shape? b = some (row, n) := hsh
      unfold World.shape? at hsh'
      cases hg : W.heap[b]? with
      | none => rw [hg] at hsh'; cases hsh'
      | some ob => exact (Array.getElem?_eq_some_iff.1 hg).1
    refine ⟨rfl, hb, fun j hj => ?_⟩
    rw [hlen] at hj
    have := hcell j (by omega)
    rw [Addr.add_mid] at this
    rw [this, List.getD_eq_getElem?_getD, List.getD_eq_getElem?_getD, List.getElem?_take, if_pos hj]

/-- A world for the witness: the settled one, the table holding what its initialiser lays. -/
noncomputable def laidWorld (os : Os) : World :=
  { World.holding Tryd.prog os ⟨#[], #[], []⟩ with heap := (World.holding Tryd.prog os ⟨#[], #[], []⟩).heap.modify 0 fun
      | .cells _ t frozen => .cells (Sha.KL.map (Value.int .u32)).toArray t frozen
      | o => o }
end Go.Proofs.YtmilbmgbpoekmaaDoor
