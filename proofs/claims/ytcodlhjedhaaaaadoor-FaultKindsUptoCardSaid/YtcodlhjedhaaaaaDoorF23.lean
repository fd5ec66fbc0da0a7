/-
  long; awake.
-/
import Derived.Test.YtcodlhjedhaaaaaDoorF21
namespace Go.Proofs.YtcodlhjedhaaaaaDoor
open Go.RowKit
set_option maxRecDepth 100000

theorem weight_take_succ (ss : List St) (k : Nat) (s : St) (h : ss[k]? = some s) : weight (ss.take (k + 1)) = weight (ss.take k) + (s.op.size + s.path.size + 1) := by
  rw [List.take_add_one, h]
  exact weight_snoc _ _

set_option maxHeartbeats 4000000 in
/-- long. -/
theorem long_any (ss : List St) (a : Option Addr) (cap : Nat) (w : World) (hS : StepsAt w a ss) (hl : ss.length ≤ 1048576) (hw : weight ss ≤ 1000000000) :
    Calls Tryd.prog 9 #[.slice a ss.length cap] w fun e w' => e = .returned (.bool (decide ((weight ss : Int) > 100000))) ∧ Below w.heap.size w w' := by
  have HS := Lib.hid hS
  clear hS
  go_enter Tryd.func9, Tryd.ntmps9
  go_wp2_with fail
  go_loopw [3, 4] (fun n i wr => ∃ k : Nat, k ≤ ss.length ∧ i = .int .i64 k ∧ n = .int .i64 (weight (ss.take k)) ∧ Below w.heap.size w wr) (fun _ i _ => ss.length - (intOf i).toNat)
  case atStart => exact ⟨0, by omega, rfl, by rw [List.take_zero]; rfl, Below.refl _ _⟩
  case round =>
    obtain ⟨k, hk, rfl, rfl, hb⟩ := hrel
    by_cases hlt2 : k < ss.length
    · obtain ⟨s, hs⟩ : ∃ s, ss[k]? = some s := ⟨_, List.getElem?_eq_getElem hlt2⟩
      obtain ⟨b, o, rfl, hbl, hcell⟩ := HS.out k s hs
      have d1 : wr.cell? ⟨b, o + k * 5 + 1, none⟩ = some (.string s.op) := (hb.cell (p := ⟨b, o + k * 5 + 1, none⟩) hbl).trans (hcell 1 (by omega))
      have d2 : wr.cell? ⟨b, o + k * 5 + 2, none⟩ = some (.string s.path) := (hb.cell (p := ⟨b, o + k * 5 + 2, none⟩) hbl).trans (hcell 2 (by omega))
      have hws := weight_take_succ ss k s hs
      have hwt := weight_take ss (k + 1)
      have hb1 : weight (ss.take k) + (s.op.size + s.path.size + 1) ≤ 1000000000 := by omega
      have HWS := Lib.hid hws
      clear hs hcell hws hwt
      generalize weight (ss.take k) = n at hb1 HWS ⊢
      have q1 : IntKind.i64.wrap ((s.op.size : Int) + s.path.size) = (s.op.size : Int) + s.path.size := IntWalk.i64_in _ (by omega)
      have q2 : IntKind.i64.wrap ((s.op.size : Int) + s.path.size + 1) = (s.op.size : Int) + s.path.size + 1 := IntWalk.i64_in _ (by omega)
      have q3 : IntKind.i64.wrap ((n : Int) + ((s.op.size : Int) + s.path.size + 1)) = (n : Int) + ((s.op.size : Int) + s.path.size + 1) := IntWalk.i64_in _ (by omega)
      go_wp2_with fail
      go_quiet (fail)
      clear q1 q2 q3
      go_wp2_with fail
      go_roundw
      case rel => exact ⟨k + 1, by omega, by go_num, by rw [HWS.out]; push_cast; rfl, below_drewN hb _⟩
      case measure => simp [intOf]; omega
    · obtain rfl : k = ss.length := by omega
      have HT := Lib.hid (congrArg weight (List.take_length (l := ss)))
      generalize weight (ss.take ss.length) = n at HT ⊢
      go_wp2_with fail
      go_ret
      exact ⟨by rw [← HT.out]; rfl, hb⟩

def awEr : Er := .flt ⟨#[100, 111]⟩ ⟨#[]⟩ (.flt ⟨#[119, 114, 105, 116, 101]⟩ ⟨#[47, 97]⟩ (.num 134))
theorem awWrap : wrapEr ⟨#[100, 111]⟩ (newEr ⟨#[119, 114, 105, 116, 101]⟩ ⟨#[47, 97]⟩ 134) = awEr := by simp [newEr, wrapEr, awEr]
theorem awEr_ne : awEr ≠ .none := by simp [awEr]
theorem awText : awEr.text = ⟨#[100, 111, 58, 32, 119, 114, 105, 116, 101, 32, 47, 97, 58, 32, 118, 101, 110, 101, 101, 114, 58, 32, 101, 114, 114, 111, 114, 32, 49, 51, 52]⟩ := by decide +kernel
theorem awCode : awEr.code = 134 := by rfl
theorem awPath : pathOf awEr.way = ⟨#[47, 97]⟩ := by decide +kernel
set_option maxHeartbeats 4000000 in
/-- awake. -/
theorem awake_any (w : World) (hT : Tab w) (hE : ETy w) : Calls Tryd.prog 8 #[] w fun e w' => e = .returned (.bool true) ∧ Below w.heap.size w w' := by
  have HT := Lib.hid hT
  have HE := Lib.hid hE
  clear hT hE
  have key : ∀ w2 v, Below w.heap.size w w2 → ErAt (fun b => w.heap.size ≤ b) w2 awEr v →
      (∀ w3, Below w2.heap.size w2 w3 → (Calls Tryd.prog 14 #[v] w3 fun ex w' => ex = .returned (.string ⟨#[100, 111, 58, 32, 119, 114, 105, 116, 101, 32, 47, 97, 58, 32, 118, 101, 110, 101, 101, 114, 58, 32, 101, 114, 114, 111, 114, 32, 49, 51, 52]⟩) ∧ Below w3.heap.size w3 w') ∧
        (Calls Tryd.prog 19 #[v] w3 fun ex w' => ex = .returned (.int .i64 134) ∧ Below w3.heap.size w3 w') ∧ (Calls Tryd.prog 20 #[v] w3 fun ex w' => ex = .returned (.string ⟨#[47, 97]⟩) ∧ Below w3.heap.size w3 w')) := fun w2 v hb he w3 hb3 => by
    have h3 := he.under hb3
    have hbb := hb.trans (hb3.mono hb.size)
    have hsz : awEr.text.size ≤ 1000000000 := by rw [awText]; decide
    refine ⟨?_, ?_, ?_⟩
    · have := text_any h3 (HT.out.under hbb) hsz
      rwa [awText] at this
    · exact code_any _ _ _ _ (HE.out.under hbb) h3
    · have := path_any _ _ _ _ (HE.out.under hbb) h3 hsz
      rwa [awPath] at this
  have KEY := Lib.hid key
  clear key
  go_enter Tryd.func8, Tryd.ntmps8
  go_wp2_with (first
    | (go_at_call 27; (with_reducible refine (new_any ⟨#[119, 114, 105, 116, 101]⟩ ⟨#[47, 97]⟩ 134 (by omega) (by omega) w).mono ?_); rintro e1 w1 ⟨u1, rfl, hu1, hb1⟩
       have HU1 := Lib.hid hu1
       have HB1 := Lib.hid hb1
       clear hu1 hb1)
    | (go_at_call 26; refine (wrap_any _ ⟨#[100, 111]⟩ _ u1 w1 HU1.out).mono ?_; rintro e2 w2 ⟨u2, rfl, hu2, hb2⟩
       rw [awWrap] at hu2
       have hbw := HB1.out.trans (hb2.mono HB1.out.size)
       have HK := Lib.hid (KEY.out w2 u2 hbw (hu2.any _ (fun b hb hlt => hb.elim (fun h => h) (fun h => Nat.le_trans HB1.out.size h))))
       have HBW := Lib.hid hbw
       obtain ⟨t2, v2, rfl⟩ := hu2.iface awEr_ne
       clear hu2 hb2 hbw)
    | (go_at_call 14; refine (HK.out w2 (Below.refl _ _)).1.mono ?_; rintro e3 w3 ⟨rfl, hb3⟩
       have HB3 := Lib.hid hb3
       clear hb3)
    | (go_at_call 19; refine (HK.out w3 HB3.out).2.1.mono ?_; rintro e4 w4 ⟨rfl, hb4⟩
       have HB4 := Lib.hid (HB3.out.trans (hb4.mono HB3.out.size))
       clear hb4)
    | (go_at_call 20; refine (HK.out w4 HB4.out).2.2.mono ?_; rintro e5 w5 ⟨rfl, hb5⟩
       have HB5 := Lib.hid (HB4.out.trans (hb5.mono HB4.out.size))
       clear hb5)
    | (go_at_call 27; (with_reducible refine (new_any ⟨#[120]⟩ ⟨#[]⟩ 0 (by omega) (by omega) w5).mono ?_); rintro e6 w6 ⟨u6, rfl, hu6, hb6⟩
       obtain rfl := hu6.nil.2 rfl
       have HB6 := Lib.hid (HB5.out.trans (hb6.mono HB5.out.size))
       clear hu6 hb6)
    | fail)
  go_ret
  exact ⟨rfl, HBW.out.trans (HB6.out.mono HBW.out.size)⟩
end Go.Proofs.YtcodlhjedhaaaaaDoor
