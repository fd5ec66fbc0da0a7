/-
  WHAT THE ROWS SHARE: the steps that came in; the tables of the row's list; a world for the witness.
-/
import Derived.Test.YtcodlhjedhaaaaaDoorF23
import Derived.Test.YtcodlhjedhaaaaaDoorCards
import Derived.Test.YtcodlhjedhaaaaaDoorTie
import Derived.WalkKit
import Derived.ProofKit
import Derived.OpenShut
import Derived.Deep.Slices
import Derived.Deep.Fields
import Derived.Deep.DeepHandedRow
import Derived.Lib.LaidTab
import Derived.LaidHandle
import Derived.Deep.Matrix
namespace Go.Proofs.YtcodlhjedhaaaaaDoor
open Go.ChangeShapes Go.WideShapes Go.ChangeAt Go.RowKit
set_option maxRecDepth 100000

theorem own : ownKnob Tryd.prog.godebug = none := by kernel_rfl
theorem laidOut : laidOutB Tryd.prog = true := by kernel_rfl
theorem ccells62 : Tryd.prog.cellsOf 62 = 5 := by kernel_rfl
theorem fields62 : ∃ fs, Tryd.prog.underlying 62 = some (.struct fs) ∧ Deep.oneCellFields Tryd.prog fs = true ∧ (fs.toList.map (·.type)) = [3, 9, 9, 3, 3] := by
  refine ⟨_, Tryd.underlying62, by kernel_rfl, by kernel_rfl⟩

/-! ### The row's list -/
theorem tabIs_of_third {P : Program} {W : World} {name : String} {k : IntKind} {zs : List Int} {x y : String × DataW Unit} {rest : List (String × DataW Unit)} {g : Nat} {t e : TypeId} {n : Nat}
    (hg : P.globalNamed name = some g) (hty : (P.globals[g]?).map (·.type) = some t) (ht : P.underlying t = some (.array n e)) (he : P.underlying e = some (.int k)) (hce : P.cellsOf e = 1) (hct : P.cellsOf t = n)
    (h : laidMet P (x :: y :: (name, Lib.tabData k zs) :: rest) W) : Lib.TabIs P W name k zs := by
  obtain ⟨ps, ⟨_, _, _, _, _, _, _, _, _, _, ⟨_, _, _, _, _, _, _, _, _, _, ⟨g', t', cs, fuel, p, q, hg', ht', hvar, hd, _, _⟩, _⟩, _⟩, _⟩ := h
  obtain rfl := Option.some.inj (hg.symm.trans hg')
  obtain rfl := Option.some.inj (hty.symm.trans ht')
  unfold Lib.TabIs
  rw [hvar, ← Lib.cells_of_tab ht he hce hct hd]
theorem gET : Tryd.prog.globalNamed "errors.errorType" = some 0 := by kernel_rfl
theorem rtT : (Tryd.prog.cutTypes.find? (·.1 == "internal/reflectlite.rtype")).map (·.2) = some 102 := by kernel_rfl
theorem oneRow : ((List.range Tryd.prog.types.size).filter fun t => Tryd.prog.rowNamed t [101, 114, 114, 111, 114]) = [32] := by kernel_rfl
/-- The four variables that the rows list. -/
def theLaid : List (String × DataW Unit) := [("math/bits.deBruijn32tab", Rows.laid_math_bits_deBruijn32tab), ("math/bits.deBruijn64tab", Rows.laid_math_bits_deBruijn64tab), ("internal/strconv.uint64pow10", Rows.laid_internal_strconv_uint64pow10), ("errors.errorType", Rows.laid_errors_errorType)]
theorem parts_of_laid {W : World} (h : laidMetH Tryd.prog theLaid W) : laidMet Tryd.prog [("math/bits.deBruijn32tab", Rows.laid_math_bits_deBruijn32tab), ("math/bits.deBruijn64tab", Rows.laid_math_bits_deBruijn64tab), ("internal/strconv.uint64pow10", Rows.laid_internal_strconv_uint64pow10)] W ∧
    handlesMet Tryd.prog [("errors.errorType", Rows.laid_errors_errorType)] W := h
theorem ety_of_laid {W : World} (h : laidMetH Tryd.prog theLaid W) : ETy W := by
  obtain ⟨name, u, ty, e1, e2, e3, e4, e5⟩ := (parts_of_laid h).2 _ (List.mem_singleton.2 rfl)
  have en : name = [101, 114, 114, 111, 114] := (Option.some.inj e1).symm
  subst en
  obtain rfl := Option.some.inj (rtT.symm.trans e2)
  have hm : ty ∈ (List.range Tryd.prog.types.size).filter fun t => Tryd.prog.rowNamed t [101, 114, 114, 111, 114] := List.mem_filter.2 ⟨List.mem_range.2 e3, e4⟩
  rw [oneRow] at hm
  obtain rfl := List.mem_singleton.1 hm
  have hh : typeHandle Tryd.prog 32 = .pointer (some ⟨5, 32, none⟩) := by kernel_rfl
  rw [hh] at e5
  simpa [ETy] using World.var?_cell gET e5 0
theorem tab_of_laid {W : World} (h : laidMetH Tryd.prog theLaid W) : Tab W :=
  tabIs_of_third (t := 125) (e := 118) (n := 20) gPow (by kernel_rfl) (by kernel_rfl) (by kernel_rfl) (by kernel_rfl) (by kernel_rfl) (parts_of_laid h).1

/-! ### The steps that came in -/
theorem cell_lt {W : World} {b o : Nat} {s : Option Nat} {v : Value} (h : W.cell? ⟨b, o, s⟩ = some v) : b < W.heap.size := by
  unfold World.cell? at h
  cases hg : W.heap[b]? with
  | none => simp [hg] at h
  | some ob => exact (Array.getElem?_eq_some_iff.1 hg).1
theorem bulk_append {H : Type} (l r : List (DataW H)) : Rows.uptoBulkAll (l ++ r) = Rows.uptoBulkAll l + Rows.uptoBulkAll r := by
  induction l with
  | nil => simp [Rows.uptoBulkAll]
  | cons x l ih => simp only [List.cons_append, Rows.uptoBulkAll, ih]; omega
theorem bulk_steps {H : Type} (S : Nat → St) (D : Nat → DataW H) : ∀ n, (∀ i, i < n → (S i).op.size + (S i).path.size + 2 ≤ Rows.uptoBulk (D i)) → weight ((List.range n).map S) + n ≤ Rows.uptoBulkAll ((List.range n).map D)
  | 0, _ => by simp [weight]
  | n + 1, h => by
    have ih := bulk_steps S D n (fun i hi => h i (by omega))
    have h1 := h n (by omega)
    rw [List.range_succ, List.map_append, List.map_append, bulk_append, List.map_cons, List.map_nil, weight_snoc]
    simp only [List.map_cons, List.map_nil, Rows.uptoBulkAll]
    omega
/-- One step. -/
theorem open_step {H : Type} {enc : TypeId × Value → H} {W : World} {fuel : Nat} {cs : List Value} {d : DataW H} {p : List MemPlace} (ht : DataW.trod enc Tryd.prog W 0 (fun _ => true) true fuel 62 cs = some (d, p)) :
    ∃ s : St, cs = row5 s.row ∧ s.op.size + s.path.size + 2 ≤ Rows.uptoBulk d := by
  obtain ⟨fs, hfs, hone, hty⟩ := fields62
  obtain ⟨xs, n', _, hx, hcl, hxl, hg⟩ := DataW.trod_struct hfs ht
  rw [ccells62] at hcl
  simp only [Prod.mk.injEq] at hx
  obtain ⟨rfl, _⟩ := hx
  have hfsz : fs.toList.length = 5 := by have := congrArg List.length hty; simpa using this
  match cs, hcl with
  | [x0, x1, x2, x3, x4], _ =>
    have key : ∀ (j : Nat) (t : TypeId), [3, 9, 9, 3, 3][j]? = some t → ∀ (x : Value), [x0, x1, x2, x3, x4][j]? = some x → ∃ y, DataW.trod enc Tryd.prog W 0 (fun _ => true) true n' t [x] = some y ∧ xs[j]? = some y := by
      intro j t hj x hxj
      rw [← hty, List.getElem?_map] at hj
      cases hfj : fs.toList[j]? with
      | none => simp [hfj] at hj
      | some f =>
        simp [hfj] at hj
        have hfj' : fs[j]? = some f := by simpa using hfj
        obtain ⟨ho, hk⟩ := Deep.hone_of hone j f hfj'
        have h1 := hg j f hfj'
        rw [ho, hk, hj] at h1
        have hjl : j < xs.length := by rw [hxl]; exact (Array.getElem?_eq_some_iff.1 hfj').1
        rw [List.getElem?_eq_getElem hjl] at h1
        have hd : ([x0, x1, x2, x3, x4].drop j).take 1 = [x] := by
          obtain ⟨hlt, he⟩ := List.getElem?_eq_some_iff.1 hxj
          rw [List.drop_eq_getElem_cons hlt, he]
          rfl
        rw [hd] at h1
        exact ⟨_, h1, List.getElem?_eq_getElem hjl⟩
    obtain ⟨y0, g0, z0⟩ := key 0 3 rfl x0 rfl
    obtain ⟨y1, g1, z1⟩ := key 1 9 rfl x1 rfl
    obtain ⟨y2, g2, z2⟩ := key 2 9 rfl x2 rfl
    obtain ⟨y3, g3, z3⟩ := key 3 3 rfl x3 rfl
    obtain ⟨y4, g4, z4⟩ := key 4 3 rfl x4 rfl
    obtain ⟨n0, e0, f0, _⟩ := DataW.trod_int Tryd.underlying3 g0
    obtain ⟨s1, e1, f1, _⟩ := DataW.trod_string Tryd.underlying9 g1
    obtain ⟨s2, e2, f2, _⟩ := DataW.trod_string Tryd.underlying9 g2
    obtain ⟨n3, e3, f3, _⟩ := DataW.trod_int Tryd.underlying3 g3
    obtain ⟨n4, e4, f4, _⟩ := DataW.trod_int Tryd.underlying3 g4
    simp only [List.cons.injEq, and_true] at e0 e1 e2 e3 e4
    subst e0; subst e1; subst e2; subst e3; subst e4
    subst f0; subst f1; subst f2; subst f3; subst f4
    have hlen : xs.length = 5 := by rw [hxl]; simpa using hfsz
    match xs, hlen with
    | [a0, a1, a2, a3, a4], _ =>
      simp at z0 z1 z2 z3 z4
      subst z0; subst z1; subst z2; subst z3; subst z4
      refine ⟨⟨n0, s1, s2, n3, n4⟩, rfl, ?_⟩
      simp only [List.map_cons, List.map_nil, Rows.uptoBulk, Rows.uptoBulkAll, Array.length_toList, ByteArray.size]
      omega
/-- The steps. -/
theorem open_steps {H : Type} {enc : TypeId × Value → H} {W : World} {base : Nat} {v : Value} {d : DataW H} {p : List MemPlace} (hval : Value.okWide Tryd.prog W .any base 22 v) (h : DataW.Trod enc Tryd.prog W 0 (fun _ => true) true 22 v d p) :
    ∃ A ss cap, v = .slice A ss.length cap ∧ StepsAt W A ss ∧ weight ss + ss.length ≤ Rows.uptoBulk d := by
  obtain ⟨a0, len, cap, rfl⟩ := okWide_slice Tryd.underlying22 hval
  obtain ⟨fuel, hf⟩ := h
  rcases Deep.open_slice Tryd.underlying22 hf with ⟨hcs, hx⟩ | ⟨a, len', cap', m, n, D, Pl, hcs, _, hl, hm, hmm, hx, hi⟩
  · simp [Value.cells] at hcs
    obtain ⟨rfl, rfl, rfl⟩ := hcs
    exact ⟨none, [], 0, rfl, fun i s hs => by simp at hs, by simp [weight]⟩
  · simp [Value.cells] at hcs
    obtain ⟨rfl, rfl, rfl⟩ := hcs
    obtain ⟨b, o, s⟩ := a
    simp only [if_true] at hmm
    simp only [Prod.mk.injEq] at hx
    obtain ⟨rfl, _⟩ := hx
    have hst : ∀ i, ∃ st : St, i < len → (∀ j, j < 5 → W.cell? (((⟨b, o, s⟩ : Addr).add (i * 5)).add j) = some (st.row j)) ∧ st.op.size + st.path.size + 2 ≤ Rows.uptoBulk (D i) := fun i => by
      by_cases hil : i < len
      · obtain ⟨cs', hc, ht⟩ := hi i (by omega)
        rw [ccells62] at hc
        obtain ⟨_, hcl, hat⟩ := World.cells?_some hc
        obtain ⟨st, rfl, hbk⟩ := open_step ht
        exact ⟨st, fun _ => ⟨fun j hj => (hat j hj).trans (row5_get _ j hj), hbk⟩⟩
      · exact ⟨⟨0, ⟨#[]⟩, ⟨#[]⟩, 0, 0⟩, fun h => absurd h hil⟩
    obtain ⟨S, hS⟩ := Classical.skolem.1 hst
    refine ⟨some ⟨b, o, s⟩, (List.range len).map S, cap, by simp, fun i st hsi => ?_, ?_⟩
    · have hil : i < len := by have := (List.getElem?_eq_some_iff.1 hsi).1; simpa using this
      have hs : s = none := by simpa [Addr.add] using World.cell?_spot ((hS 0 (by omega)).1 0 (by omega))
      subst hs
      obtain rfl : S i = st := by simpa [hil] using hsi
      have hc := (hS i hil).1
      refine ⟨b, o, rfl, ?_, fun j hj => ?_⟩
      · have := hc 0 (by omega)
        rw [Addr.add_mid, Addr.add_mid] at this
        exact cell_lt this
      · have := hc j hj
        rwa [Addr.add_mid, Addr.add_mid] at this
    · have h1 := bulk_steps S D len (fun i hil => (hS i hil).2)
      rw [List.length_map, List.length_range]
      simp only [Rows.uptoBulk]
      omega

/-- A world for the witness: the settled one, the listed variables holding what the list says. -/
noncomputable def laidWorld (os : Os) : World :=
  let w0 := World.holding Tryd.prog os ⟨#[], #[], []⟩
  let put := fun (h : Array Obj) (b : Nat) (c : Array Value) => h.modify b fun
      | .cells _ t frozen => .cells c t frozen
      | o => o
  let h1 := put w0.heap 0 #[.iface 102 (.agg #[.pointer (some ⟨5, 32, none⟩)])]
  let h2 := put h1 2 ((Lib.pow10Tab.map (Value.int .u64)).toArray)
  let h3 := put h2 3 (#[0, 1, 28, 2, 29, 14, 24, 3, 30, 22, 20, 15, 25, 17, 4, 8, 31, 27, 13, 23, 21, 19, 16, 7, 26, 12, 18, 6, 11, 5, 10, 9].map (Value.int .u8))
  let h4 := put h3 4 (#[0, 1, 56, 2, 57, 49, 28, 3, 61, 58, 42, 50, 38, 29, 17, 4, 62, 47, 59, 36, 45, 43, 51, 22, 53, 39, 33, 30, 24, 18, 12, 5, 63, 55, 48, 27, 60, 41, 37, 16, 46, 35, 44, 21, 52, 32, 23, 11, 54, 26, 40, 15, 34, 20, 31, 10, 25, 14, 19, 9, 13, 8, 7, 6].map (Value.int .u8))
  { w0 with heap := h4 }
theorem laid_met (os : Os) : laidMetH Tryd.prog theLaid ((laidWorld os).forCall (fun _ _ => 0) ⟨#[], #[.slice none 0 0], []⟩).memory :=
  laidMetH_of_parts (laidMet_of_run' 8 (by kernel_rfl) (by kernel_rfl)) (by kernel_rfl)
end Go.Proofs.YtcodlhjedhaaaaaDoor
