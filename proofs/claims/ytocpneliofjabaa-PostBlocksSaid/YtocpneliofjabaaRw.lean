/-
  WHAT THE ROWS SHARE: a script that came in.
-/
import Derived.Test.YtocpneliofjabaaRows
import Derived.Test.YtocpneliofjabaaL5
import Derived.WalkKit
import Derived.ProofKit
import Derived.OpenShut
import Derived.Deep.Slices
import Derived.Deep.Fields
import Derived.JoinedOf
namespace Go.Proofs.Ytocpneliofjabaa
open Go.ChangeShapes Go.WideShapes Go.ChangeAt Go.RowKit
set_option maxRecDepth 100000

theorem own : ownKnob Try.prog.godebug = none := by kernel_rfl
theorem ccells35 : Try.prog.cellsOf 35 = 5 := by kernel_rfl
theorem fields35 : ∃ fs, Try.prog.underlying 35 = some (.struct fs) ∧ Deep.oneCellFields Try.prog fs = true ∧ (fs.toList.map (·.type)) = [3, 3, 3, 3, 9] := by
  refine ⟨_, Try.underlying35, by kernel_rfl, by kernel_rfl⟩
theorem i64r_of_wf {n : Int} (h : (Lit.int .i64 n).wf = true) : i64r n := by
  simpa [i64r, Lit.wf, IntKind.min, IntKind.max, IntKind.signed, IntKind.bits] using h
theorem cell_lt {W : World} {b o : Nat} {s : Option Nat} {v : Value} (h : W.cell? ⟨b, o, s⟩ = some v) : b < W.heap.size := by
  unfold World.cell? at h
  cases hg : W.heap[b]? with
  | none => simp [hg] at h
  | some ob => exact (Array.getElem?_eq_some_iff.1 hg).1
/-- A script that came in. -/
theorem open_script {H : Type} {enc : TypeId × Value → H} {W : World} {base : Nat} {v : Value} {d : DataW H} {p : List MemPlace} (hval : Value.okWide Try.prog W .any base 22 v) (h : DataW.Trod enc Try.prog W 0 (fun _ => true) true 22 v d p) :
    ∃ A len cap, v = .slice A len cap ∧ len ≤ 9223372036854775807 ∧ ScAt W A len := by
  obtain ⟨a0, len, cap, rfl⟩ := okWide_slice Try.underlying22 hval
  obtain ⟨fuel, hf⟩ := h
  obtain ⟨fs, hfs, hone, hty⟩ := fields35
  rcases Deep.open_slice Try.underlying22 hf with ⟨hcs, hx⟩ | ⟨a, len', cap', m, n, D, Pl, hcs, _, hl, hm, hmm, hx, hi⟩
  · simp [Value.cells] at hcs
    obtain ⟨rfl, rfl, rfl⟩ := hcs
    exact ⟨none, 0, 0, rfl, by omega, fun i hi => by omega⟩
  · simp [Value.cells] at hcs
    obtain ⟨rfl, rfl, rfl⟩ := hcs
    obtain ⟨b, o, s⟩ := a
    refine ⟨_, len, cap, rfl, by unfold maxLen at hm; omega, fun i hil => ?_⟩
    simp only [if_true] at hmm
    have hs : s = none := by
      obtain ⟨c0, hc0, _⟩ := hi 0 (by omega)
      rw [ccells35] at hc0
      obtain ⟨_, hcl0, hat0⟩ := World.cells?_some hc0
      have h0 := hat0 0 (by omega)
      rw [List.getElem?_eq_getElem (by omega)] at h0
      simpa [Addr.add] using World.cell?_spot h0
    subst hs
    obtain ⟨cs', hc, ht⟩ := hi i (by omega)
    rw [ccells35] at hc
    obtain ⟨_, hcl, hat⟩ := World.cells?_some hc
    obtain ⟨xs, n', _, _, _, hxl, hg⟩ := DataW.trod_struct hfs ht
    have hfsz : fs.toList.length = 5 := by have := congrArg List.length hty; simpa using this
    match cs', hcl with
    | [x0, x1, x2, x3, x4], _ =>
      have key : ∀ (j : Nat) (t : TypeId), [3, 3, 3, 3, 9][j]? = some t → ∀ (x : Value), [x0, x1, x2, x3, x4][j]? = some x → ∃ y, DataW.trod enc Try.prog W 0 (fun _ => true) true n' t [x] = some y := by
        intro j t hj x hxj
        rw [← hty, List.getElem?_map] at hj
        cases hfj : fs.toList[j]? with
        | none => simp [hfj] at hj
        | some f =>
          simp [hfj] at hj
          have hfj' : fs[j]? = some f := by simpa using hfj
          obtain ⟨ho, hk⟩ := Deep.hone_of hone j f hfj'
          have h1 := hg j f hfj'
          rw [ho, hk, hj] at h1
          have hjl : j < xs.length := by rw [hxl]; exact (Array.getElem?_eq_some_iff.1 hfj').1
          rw [List.getElem?_eq_getElem hjl] at h1
          have hd : ([x0, x1, x2, x3, x4].drop j).take 1 = [x] := by
            obtain ⟨hlt, he⟩ := List.getElem?_eq_some_iff.1 hxj
            rw [List.drop_eq_getElem_cons hlt, he]
            rfl
          rw [hd] at h1
          exact ⟨_, h1⟩
      obtain ⟨y0, g0⟩ := key 0 3 rfl x0 rfl
      obtain ⟨y1, g1⟩ := key 1 3 rfl x1 rfl
      obtain ⟨y2, g2⟩ := key 2 3 rfl x2 rfl
      obtain ⟨y3, g3⟩ := key 3 3 rfl x3 rfl
      obtain ⟨y4, g4⟩ := key 4 9 rfl x4 rfl
      obtain ⟨n0, e0, _, w0⟩ := DataW.trod_int Try.underlying3 g0
      obtain ⟨n1, e1, _, w1⟩ := DataW.trod_int Try.underlying3 g1
      obtain ⟨n2, e2, _, w2⟩ := DataW.trod_int Try.underlying3 g2
      obtain ⟨n3, e3, _, w3⟩ := DataW.trod_int Try.underlying3 g3
      obtain ⟨s4, e4, _, w4⟩ := DataW.trod_string Try.underlying9 g4
      simp only [List.cons.injEq, and_true] at e0 e1 e2 e3 e4
      subst e0; subst e1; subst e2; subst e3; subst e4
      obtain ⟨k, hk6, hk⟩ := kind_six n0
      have cc : ∀ j u, j < 5 → ([Value.int .i64 n0, .int .i64 n1, .int .i64 n2, .int .i64 n3, .string s4] : List Value)[j]? = some u → W.cell? ⟨b, o + i * 5 + j, none⟩ = some u := fun j u hj hu => by
        have := hat j hj
        rw [hu, Addr.add_mid, Addr.add_mid] at this
        exact this
      have h0 := cc 0 _ (by omega) rfl
      exact ⟨b, o, n0, ⟨k, n1, n2, n3, s4⟩, rfl, cell_lt h0, ⟨hk6, hk, i64r_of_wf w1, i64r_of_wf w2⟩, h0, cc 1 _ (by omega) rfl, cc 2 _ (by omega) rfl, cc 3 _ (by omega) rfl, cc 4 _ (by omega) rfl⟩
end Go.Proofs.Ytocpneliofjabaa
