/-
  errors.as in general: the target a number; the target a fault.
-/
import Derived.Test.YtcodlhjedhaaaaaDoorF6
import Derived.Deep.LoopGhost
namespace Go.Proofs.YtcodlhjedhaaaaaDoor
open Go.RowKit Go.Extern.Stop Go.Stop Go.Extern
set_option maxRecDepth 100000

/-- The first number. -/
def Er.code : Er → Int
  | .none => 0
  | .num e => e
  | .flt _ _ x => x.code
  | .lst [] => 0
  | .lst (x :: _) => x.code
theorem sz86 : (Tryd.prog.info? 86).map (·.size) = some 3 := by kernel_rfl
theorem unwrap29 (a : Option Addr) (w : World) : (method 260 29 (.pointer a) "Unwrap").run Tryd.prog w = .ok (15, .pointer a) w := by kernel_rfl
theorem unwrap33 (a : Option Addr) (w : World) : (method 260 33 (.pointer a) "Unwrap").run Tryd.prog w = .ok (32, .pointer a) w := by kernel_rfl
def row3 (x y z : Value) : Nat → Value
  | 0 => x
  | 1 => y
  | _ => z
theorem rowArr3 (f : Nat → Value) : rowArr 3 f = #[f 0, f 1, f 2] := rfl
/-- What is no nothing is an interface value. -/
theorem ErAt.iface {I : Nat → Prop} {w : World} {x : Er} {v : Value} (h : ErAt I w x v) (hx : x ≠ .none) : ∃ t u, v = .iface t u := by
  cases h with
  | none => exact absurd rfl hx
  | _ => exact ⟨_, _, rfl⟩
theorem ErAt.kept {I : Nat → Prop} {w w' : World} {x : Er} {v : Value} {tb : Nat} (h : ErAt I w x v) (hk : Kept (fun i => i = tb) w w') (hI : ¬ I tb) : ErAt I w' x v :=
  h.keep hk.size (fun b hb hlt => ⟨hb, hk.block b hlt (fun e => hI (e ▸ hb))⟩)
theorem cell_block_lt {w : World} {a : Addr} {v : Value} (h : w.cell? a = some v) : a.block < w.heap.size := by
  rcases Nat.lt_or_ge a.block w.heap.size with h1 | h1
  · exact h1
  · simp [World.cell?, Array.getElem?_eq_none h1] at h
mutual
def Er.sz : Er → Nat
  | .none => 1
  | .num _ => 1
  | .flt _ _ x => x.sz + 1
  | .lst l => Er.szs l + 1
def Er.szs : List Er → Nat
  | [] => 0
  | x :: l => x.sz + Er.szs l
end
theorem sz_pos (x : Er) : 0 < x.sz := by cases x <;> simp [Er.sz]
theorem szs_ge : ∀ (l : List Er) (i : Nat) (x : Er), l[i]? = some x → x.sz ≤ Er.szs l
  | [], i, x, h => by simp at h
  | y :: l, 0, x, h => by
    obtain rfl : y = x := by simpa using h
    simp [Er.szs]
  | y :: l, i + 1, x, h => by
    have := szs_ge l i x (by simpa using h)
    rw [Er.szs]
    omega
theorem size_kid_lt {l : List Er} {i : Nat} {x : Er} (h : l[i]? = some x) : x.sz < (Er.lst l).sz := by
  have := szs_ge l i x h
  rw [Er.sz]
  omega
theorem size_in_lt (op path : ByteArray) (x : Er) : x.sz < (Er.flt op path x).sz := by
  rw [Er.sz]
  omega

/-- The fault as a target: whatever comes, the target holds a pointer. -/
def FPost (tb : Nat) (w : World) (ex : Ending) (w' : World) : Prop := ∃ hit p, ex = .returned (.bool hit) ∧ Kept (fun i => i = tb) w w' ∧ w'.rowIs tb 29 1 (fun _ => .pointer p)
set_option maxHeartbeats 8000000 in
theorem as_fault : ∀ (N : Nat) (I : Nat → Prop) (x : Er) (v : Value) (w : World) (tb : Nat) (a : Addr) (p0 : Option Addr), x.sz ≤ N → x ≠ .none → ErAt I w x v → ¬ I tb → a.block ≠ tb → w.cell? a = some (.pointer (some ⟨tb, 0, none⟩)) → w.rowIs tb 29 1 (fun _ => .pointer p0) →
    Calls Tryd.prog 44 #[v, .iface 95 (.pointer (some ⟨tb, 0, none⟩)), .agg #[.pointer (some ⟨5, 95, none⟩), .pointer (some a), .int .u64 150], .iface 102 (.agg #[.pointer (some ⟨5, 29, none⟩)])] w (FPost tb w) := by
  intro N
  induction N with
  | zero => intro I x v w tb a p0 hN; have := sz_pos x; omega
  | succ N ihN =>
    intro I x v w tb a p0 hN hx h hI hat ha ht
    cases h with
    | none => exact absurd rfl hx
    | num e h0 h1 =>
      refine (as_num29 e tb a w).mono ?_
      rintro ex w' ⟨rfl, hb⟩
      exact ⟨false, p0, rfl, Kept.of_below hb, rowIs_below ht hb ht.lt⟩
    | flt op path y b u hy hIb hr hu =>
      refine (as_hit29 (some ⟨b, 0, none⟩) tb a (.pointer p0) w ha ht).mono ?_
      rintro ex w' ⟨rfl, hk, hr'⟩
      exact ⟨true, _, rfl, hk, hr'⟩
    | lst l b g n cap us hl h2 hcap hmax hIb hIg hg hr hc hlx hu =>
      have k1 : Below w.heap.size w (w.alloc (.cells #[.pointer (some ⟨5, 95, none⟩), .pointer (some a), .int .u64 150] 86)) := (Below.refl _ _).alloc (Nat.le_refl _) _
      have hone : ∀ i, i < n → (us i).oneCell' = true := fun i hi => (hu i _ (List.getElem?_eq_getElem (by omega))).oneCell
      have hUW := lunwrap_any b g n cap us _ hmax (hr.of_block (k1.block b hr.lt)) (fun i hi => (k1.cell (p := ⟨g, i, none⟩) hg).trans (hc i hi)) hone
      have HBOX := Lib.hid (rowIs_lit w [.pointer (some ⟨5, 95, none⟩), .pointer (some a), .int .u64 150] 86 3 (row3 (.pointer (some ⟨5, 95, none⟩)) (.pointer (some a)) (.int .u64 150)) rfl)
      have hal := cell_block_lt ha
      have HREC := Lib.hid (fun (i : Nat) (hi : i < n) (w2 : World) (p : Option Addr) (hk : Kept (fun i => i = tb) w w2) (hr2 : w2.rowIs tb 29 1 (fun _ => .pointer p)) =>
        ihN I _ (us i) w2 tb a p (by have := size_kid_lt (List.getElem?_eq_getElem (l := l) (i := i) (by omega)); omega) (hlx i _ (List.getElem?_eq_getElem (by omega))) ((hu i _ (List.getElem?_eq_getElem (by omega))).kept hk hI) hI hat
          ((World.cell?_of_block (w := w) (hk.block _ hal (fun e => hat e))).trans ha) hr2)
      have HIF := Lib.hid (fun (i : Nat) (hi : i < n) => (hu i _ (List.getElem?_eq_getElem (by omega))).iface (hlx i _ (List.getElem?_eq_getElem (by omega))))
      have HT := Lib.hid ht
      have HK1 := Lib.hid k1
      have htl := ht.lt
      have h46 := @run_callFunc_extern Tryd.prog 46 _ ReflectliteType.typeOf Tryd.func46 (by kernel_rfl) (by kernel_rfl) (by kernel_rfl) (by kernel_rfl)
      have h89 := @run_callFunc_extern Tryd.prog 89 _ (ReflectliteType.relation "AssignableTo" ReflectliteType.assignableTo) Tryd.func89 (by kernel_rfl) (by kernel_rfl) (by kernel_rfl) (by kernel_rfl)
      have tO := typeOf33
      have mA := methodAssignableTo
      have aS := assignable33_29
      have t1 := assert33_106
      have t2 := assert33_109
      have t3 := assert33_110
      have mU := unwrap33
      clear hr hc hu hlx hone ihN ha ht k1 hl hN hx
      go_enter Tryd.func44, Tryd.ntmps44
      go_wp2
      refine wp_loop_rounds 1 ?_
      rw [rounds_succ]
      go_wp2_with (go_at_call 32; refine hUW.mono ?_; rintro e2 wl ⟨vl, rfl, hown, hbl⟩; obtain ⟨gl, cl, rfl, hgl, hgl2, hcl, hclm, hcell⟩ := own1_shape hown (by omega); clear hUW hown)
      have hk0 : Kept (fun i => i = tb) w wl := Kept.of_below (HK1.out.trans (hbl.mono HK1.out.size))
      have hsz0 : w.heap.size + 1 ≤ wl.heap.size := by have := hbl.size; simpa using this
      have HCELL := Lib.hid (fun (j : Nat) (hj : j < n) => hcell j (us j) (by simp [hj]))
      have HBOX2 := Lib.hid (rowIs_below HBOX.out hbl HBOX.out.lt)
      have htw : wl.rowIs tb 29 1 (fun _ => .pointer p0) := rowIs_below HT.out (HK1.out.trans (hbl.mono HK1.out.size)) htl
      rw [Go.Deep.nblk_alloc] at hgl
      clear hcell hbl
      go_loopw [50] (fun i wr => ∃ (k : Nat) (p : Option Addr), k ≤ n ∧ i = .int .i64 k ∧ Kept (fun i => i = tb) wl wr ∧ wr.rowIs tb 29 1 (fun _ => .pointer p)) (fun i _ => n - (intOf i).toNat)
      case atStart => exact ⟨0, p0, by omega, rfl, Kept.refl _ _, htw⟩
      case round =>
        obtain ⟨k, p, hk, rfl, hkr, htr⟩ := hrel
        by_cases hlt2 : k < n
        · obtain ⟨t, u, hus⟩ := HIF.out k hlt2
          have hrec := HREC.out k hlt2 wr p (hk0.trans hkr (fun i _ h => h)) htr
          rw [hus] at hrec
          have e0 : wr.cell? ⟨gl, k, none⟩ = some (.iface t u) := (World.cell?_of_block (w := wl) (hkr.block gl hgl2 (by intro e; omega))).trans ((HCELL.out k hlt2).trans (by rw [hus]))
          have HB3 := Lib.hid (HBOX2.out.of_block (hkr.block w.heap.size (by omega) (by intro e; omega)))
          clear hus htr
          go_wp2_with (first
            | (refine wpList_load_part rfl 86 (.tmp 6) rfl w.heap.size 0 rfl 3 _ (fun j hj => by rw [Nat.zero_add]; exact HB3.out.cell hj) _ Tryd.underlying86 rfl sz86 ?_; intro cs hcs; obtain rfl := hcs.out; rw [rowArr3]; simp only [row3])
            | (go_at_call 44; refine hrec.mono ?_; rintro e2 w2 ⟨hit, p2, rfl, hk2, hr2⟩; cases hit)
            | fail)
          · go_roundw
            case rel => exact ⟨k + 1, p2, by omega, by go_num, hkr.trans hk2 (fun i _ h => h), hr2⟩
            case measure => simp [intOf]; omega
          · go_ret
            exact ⟨true, p2, rfl, (hk0.trans hkr (fun i _ h => h)).trans hk2 (fun i _ h => h), hr2⟩
        · go_wp2_with fail
          go_ret
          exact ⟨false, p, rfl, hk0.trans hkr (fun i _ h => h), htr⟩

/-- The number as a target: it is there. -/
def CPost (x : Er) (tb : Nat) (w : World) (ex : Ending) (w' : World) : Prop := ex = .returned (.bool true) ∧ Kept (fun i => i = tb) w w' ∧ w'.rowIs tb 35 1 (fun _ => .int .i64 x.code)
set_option maxHeartbeats 8000000 in
theorem as_code : ∀ (N : Nat) (I : Nat → Prop) (x : Er) (v : Value) (w : World) (tb : Nat) (a : Addr) (old : Value), x.sz ≤ N → x ≠ .none → ErAt I w x v → ¬ I tb → a.block ≠ tb → w.cell? a = some (.pointer (some ⟨tb, 0, none⟩)) → w.rowIs tb 35 1 (fun _ => old) →
    Calls Tryd.prog 44 #[v, .iface 70 (.pointer (some ⟨tb, 0, none⟩)), .agg #[.pointer (some ⟨5, 70, none⟩), .pointer (some a), .int .u64 150], .iface 102 (.agg #[.pointer (some ⟨5, 35, none⟩)])] w (CPost x tb w) := by
  intro N
  induction N with
  | zero => intro I x v w tb a p0 hN; have := sz_pos x; omega
  | succ N ihN =>
    intro I x v w tb a old hN hx h hI hat ha ht
    have k1 : Below w.heap.size w (w.alloc (.cells #[.pointer (some ⟨5, 70, none⟩), .pointer (some a), .int .u64 150] 86)) := (Below.refl _ _).alloc (Nat.le_refl _) _
    have hal := cell_block_lt ha
    have HTL := Lib.hid ht.lt
    have h46 := @run_callFunc_extern Tryd.prog 46 _ ReflectliteType.typeOf Tryd.func46 (by kernel_rfl) (by kernel_rfl) (by kernel_rfl) (by kernel_rfl)
    have h89 := @run_callFunc_extern Tryd.prog 89 _ (ReflectliteType.relation "AssignableTo" ReflectliteType.assignableTo) Tryd.func89 (by kernel_rfl) (by kernel_rfl) (by kernel_rfl) (by kernel_rfl)
    have h51 := @run_callFunc_extern Tryd.prog 51 _ (ReflectliteValue.method (ReflectliteValue.valueError "reflectlite.Value.Elem" 0) ReflectliteValue.elem) Tryd.func51 (by kernel_rfl) (by kernel_rfl) (by kernel_rfl) (by kernel_rfl)
    have h41 := @run_callFunc_extern Tryd.prog 41 _ (fun args => ReflectliteValue.unpack (args.getD 0 (.tuple #[]))) Tryd.func41 (by kernel_rfl) (by kernel_rfl) (by kernel_rfl) (by kernel_rfl)
    have h52 := @run_callFunc_extern Tryd.prog 52 _ ReflectliteValue.set Tryd.func52 (by kernel_rfl) (by kernel_rfl) (by kernel_rfl) (by kernel_rfl)
    have mA := methodAssignableTo
    have HA := Lib.hid ha
    have HT := Lib.hid ht
    have HK1 := Lib.hid k1
    have HBOX := Lib.hid (rowIs_lit w [.pointer (some ⟨5, 70, none⟩), .pointer (some a), .int .u64 150] 86 3 (row3 (.pointer (some ⟨5, 70, none⟩)) (.pointer (some a)) (.int .u64 150)) rfl)
    have HIH := Lib.hid ihN
    have hrel0 : ∃ y, y.sz ≤ N + 1 ∧ y ≠ .none ∧ ErAt I w y v ∧ y.code = x.code := ⟨x, hN, hx, h, rfl⟩
    have HREL := Lib.hid hrel0
    obtain ⟨t0, u0, rfl⟩ := h.iface hx
    clear ihN ha ht k1 hN hx h hrel0
    go_enter Tryd.func44, Tryd.ntmps44
    go_wp2
    go_loopg [0] (N + 1) (fun k v wr => (∃ y, y.sz ≤ k ∧ k ≤ N + 1 ∧ y ≠ .none ∧ ErAt I w y v ∧ y.code = x.code) ∧ wr = w.alloc (.cells #[.pointer (some ⟨5, 70, none⟩), .pointer (some a), .int .u64 150] 86))
    case atStart => obtain ⟨y, h1, h2⟩ := HREL.out; exact ⟨⟨y, h1, Nat.le_refl _, h2⟩, rfl⟩
    case round =>
      obtain ⟨⟨y, hy1, hy2, hy3, hy4, hy5⟩, rfl⟩ := hrel
      cases hy4 with
      | none => exact absurd rfl hy3
      | num e h0 h1 =>
        have tO := typeOf35
        have aS := assignable35_35
        have vO := valueOf35
        have el := elemV70 a ⟨tb, 0, none⟩ (w.alloc (.cells #[.pointer (some ⟨5, 70, none⟩), .pointer (some a), .int .u64 150] 86)) ((HK1.out.cell hal).trans HA.out)
        have k2 := HK1.out.alloc HK1.out.size (.cells #[.int .i64 e] 35)
        have ht2 := rowIs_below HT.out k2 HTL.out
        have st := set35 ⟨tb, 0, none⟩ ⟨w.heap.size + 1, 0, none⟩ e old ((w.alloc (.cells #[.pointer (some ⟨5, 70, none⟩), .pointer (some a), .int .u64 150] 86)).alloc (.cells #[.int .i64 e] 35)) (by rw [World.cell?_alloc_at _ _ _ _ (by simp)]; rfl) (ht2.cell (i := 0) (by omega)) (ht2.frozen 0)
        have hend : CPost x tb w (.returned (.bool true)) (((w.alloc (.cells #[.pointer (some ⟨5, 70, none⟩), .pointer (some a), .int .u64 150] 86)).alloc (.cells #[.int .i64 e] 35)).setCell ⟨tb, 0, none⟩ (.int .i64 e)) :=
          ⟨rfl, Kept.setCell (S := fun i => i = tb) (Kept.of_below k2) (p := ⟨tb, 0, none⟩) (fun _ => rfl) _, (ht2.set 0 (.int .i64 e)).congr (fun i hi => by rw [← hy5, Er.code]; simp; omega)⟩
        clear k2 ht2
        go_wp2
        go_ret
        exact hend
      | flt op path z b u hz hIb hr hu =>
        have tO := typeOf29
        have aS := assignable29_35
        have t1 := assert29_106
        have t2 := assert29_109
        have mU := unwrap29
        obtain ⟨t1', u1', rfl⟩ := hu.iface hz
        have hUW := funwrap_any b op path _ _ (hr.of_block (HK1.out.block b hr.lt))
        have HU := Lib.hid hu
        have hsz := size_in_lt op path z
        rw [Er.code] at hy5
        obtain ⟨gk', rfl⟩ : ∃ m, gk = m + 1 := ⟨gk - 1, by have := sz_pos (Er.flt op path z); omega⟩
        clear hr hu
        go_wp2_with (first | (go_at_call 15; refine hUW.mono ?_; rintro e2 w2 ⟨rfl, rfl⟩) | fail)
        go_roundg gk'
        case measure => omega
        case rel => exact ⟨⟨z, by omega, by omega, hz, HU.out, hy5⟩, rfl⟩
      | lst l b g n cap us hl h2 hcap hmax hIb hIg hg hr hc hlx hu =>
        have tO := typeOf33
        have aS := assignable33_35
        have t1 := assert33_106
        have t2 := assert33_109
        have t3 := assert33_110
        have mU := unwrap33
        have hone : ∀ i, i < n → (us i).oneCell' = true := fun i hi => (hu i _ (List.getElem?_eq_getElem (by omega))).oneCell
        have hUW := lunwrap_any b g n cap us _ hmax (hr.of_block (HK1.out.block b hr.lt)) (fun i hi => (HK1.out.cell (p := ⟨g, i, none⟩) hg).trans (hc i hi)) hone
        obtain ⟨z, l', rfl⟩ : ∃ z l', l = z :: l' := by
          cases l with
          | nil => simp at hl; omega
          | cons z l' => exact ⟨z, l', rfl⟩
        have hz := hlx 0 z rfl
        have huz := hu 0 z rfl
        have hsz : z.sz < (Er.lst (z :: l')).sz := size_kid_lt (i := 0) rfl
        rw [Er.code] at hy5
        obtain ⟨t1', u1', hus⟩ := huz.iface hz
        have HREC := Lib.hid (fun (w2 : World) (hk : Below w.heap.size w w2) => HIH.out I z (us 0) w2 tb a old (by omega) hz (huz.under hk) hI hat ((hk.cell hal).trans HA.out) (rowIs_below HT.out hk HTL.out))
        have h0n : 0 < n := by omega
        have HN := Lib.hid (show n ≠ 0 by omega)
        clear hr hc hu hlx hone huz hl
        go_wp2_with (first | (go_at_call 32; refine hUW.mono ?_; rintro e2 wl ⟨vl, rfl, hown, hbl⟩; obtain ⟨gl, cl, rfl, hgl, hgl2, hcl, hclm, hcell⟩ := own1_shape hown (by omega); clear hUW hown) | fail)
        have hb2 : Below w.heap.size w wl := HK1.out.trans (hbl.mono HK1.out.size)
        have hrec := HREC.out wl hb2
        rw [hus] at hrec
        have e0 : wl.cell? ⟨gl, 0, none⟩ = some (.iface t1' u1') := hcell 0 _ (by simp [h0n, hus])
        have HB3 := Lib.hid (rowIs_below HBOX.out hbl HBOX.out.lt)
        have HB2 := Lib.hid hb2
        clear hcell hbl hb2
        refine wp_loop_rounds 1 ?_
        rw [rounds_succ]
        go_wp2_with (first
          | (refine wpList_load_part rfl 86 (.tmp 6) rfl w.heap.size 0 rfl 3 _ (fun j hj => by rw [Nat.zero_add]; exact HB3.out.cell hj) _ Tryd.underlying86 rfl sz86 ?_; intro cs hcs; obtain rfl := hcs.out; rw [rowArr3]; simp only [row3])
          | (go_at_call 44; refine hrec.mono ?_; rintro e2 w2 ⟨rfl, hk2, hr2⟩)
          | fail)
        go_ret
        exact ⟨rfl, (Kept.of_below HB2.out).trans hk2 (fun i _ h => h), by rw [← hy5]; exact hr2⟩
end Go.Proofs.YtcodlhjedhaaaaaDoor
