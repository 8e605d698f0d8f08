/- The card CronGoes. -/
import Derived.Test.YtdbipmidjdhjpaaDoorCronLaw
import Derived.Test.YtdbipmidjdhjpaaDoorCards
import Derived.Test.YtdbipmidjdhjpaaDoorTie
import Derived.Deep.DeepHandedRow
import Derived.Lib.LaidTab
import Derived.ChangeMaps5
import Derived.Stop.LaidErr
import Derived.Lib.SmallJoins
import Derived.OpenShut
namespace Go.Proofs.YtdbipmidjdhjpaaDoor.cronGoes
open Go.ChangeShapes Go.WideShapes Go.ChangeAt Go.RowKit
set_option linter.unusedVariables false
set_option maxRecDepth 100000
theorem gTab : Tryd.prog.globalNamed "shiftbell/civil.ahead" = some 0 := by kernel_rfl
theorem gTabType : (Tryd.prog.globals[0]?).map (·.type) = some 67 := by kernel_rfl
theorem gBru : Tryd.prog.globalNamed "math/bits.deBruijn64tab" = some 1 := by kernel_rfl
theorem gBruType : (Tryd.prog.globals[1]?).map (·.type) = some 92 := by kernel_rfl
theorem cellsT : Tryd.prog.cellsOf 67 = 13 := by kernel_rfl
theorem cellsI : Tryd.prog.cellsOf 3 = 1 := by kernel_rfl
theorem cellsB : Tryd.prog.cellsOf 92 = 64 := by kernel_rfl
theorem cellsU : Tryd.prog.cellsOf 5 = 1 := by kernel_rfl
theorem cells58 : Tryd.prog.cellsOf 58 = 5 := by kernel_rfl
def bruI : List Int := Lib.deBruijn64tab.map Int.ofNat
/-- what the row's list gives: the tables' cells -/
theorem bru {W : World} (h : laidMetH Tryd.prog Rows.cronGoesRow.laid W) : Bruijn W := by
  have t : Lib.TabIs Tryd.prog W "math/bits.deBruijn64tab" .u8 bruI := Lib.tabIs_of_head (rest := [("shiftbell/civil.ahead", Rows.laid_shiftbell_civil_ahead)]) gBru gBruType Tryd.underlying92 Tryd.underlying5 cellsU cellsB h
  intro i hi
  have hi' : i < bruI.length := by simpa [bruI] using hi
  have := t.cell gBru i hi'
  rw [this]
  simp only [bruI, List.getD_eq_getElem?_getD, List.getElem?_map]
  rw [List.getElem?_eq_getElem hi]
  simp
theorem tab {W : World} (h : laidMetH Tryd.prog Rows.cronGoesRow.laid W) : Tab W := by
  have h2 : laidMet Tryd.prog [("shiftbell/civil.ahead", Rows.laid_shiftbell_civil_ahead)] W := laidMet.tail (x := ("math/bits.deBruijn64tab", Rows.laid_math_bits_deBruijn64tab)) h
  have t : Lib.TabIs Tryd.prog W "shiftbell/civil.ahead" .i64 Civ.cumT := Lib.tabIs_of_head (rest := []) gTab gTabType Tryd.underlying67 Tryd.underlying3 cellsI cellsT h2
  intro i hi
  have := t.cell gTab i (by simpa [Civ.cumT] using hi)
  simpa using this
theorem array5 {α : Type} {cs : Array α} (h : cs.size = 5) : ∃ c0 c1 c2 c3 c4, cs = #[c0, c1, c2, c3, c4] := by
  obtain ⟨l⟩ := cs
  match l, h with
  | [c0, c1, c2, c3, c4], _ => exact ⟨c0, c1, c2, c3, c4, rfl⟩
theorem list5 {α : Type} {l : List α} (h : l.length = 5) : ∃ c0 c1 c2 c3 c4, l = [c0, c1, c2, c3, c4] := by
  match l, h with
  | [c0, c1, c2, c3, c4], _ => exact ⟨c0, c1, c2, c3, c4, rfl⟩
theorem five (a b c d e : Nat) (h0 : a < 18446744073709551616) (h1 : b < 18446744073709551616) (h2 : c < 18446744073709551616) (h3 : d < 18446744073709551616) (h4 : e < 18446744073709551616) :
    ∃ S : Nat → Nat, Sets S ∧ Value.agg #[.int .u64 a, .int .u64 b, .int .u64 c, .int .u64 d, .int .u64 e] = cronV S := by
  refine ⟨fun i => if i = 0 then a else if i = 1 then b else if i = 2 then c else if i = 3 then d else e, fun i => ?_, by simp [cronV]⟩
  dsimp only
  split
  · exact h0
  · split
    · exact h1
    · split
      · exact h2
      · split
        · exact h3
        · exact h4
section
variable {H : Type} {enc : TypeId × Value → H} {w : World} {base : Nat} {spare : Nat → Bool} {held : Bool}
theorem u64_nat {fuel : Nat} {v : Value} {x : DataW H × List MemPlace} (h : DataW.trod enc Tryd.prog w base spare held fuel 56 [v] = some x) : ∃ a : Nat, a < 18446744073709551616 ∧ v = .int .u64 a := by
  obtain ⟨n, e, _, hw⟩ := DataW.trod_int Tryd.underlying56 h
  simp only [List.cons.injEq, and_true] at e
  have hb := Go.bounds_u64 hw
  obtain ⟨a, rfl⟩ := Int.eq_ofNat_of_zero_le hb.1
  exact ⟨a, by omega, e⟩
theorem open_cron {r : Reach} {b0 : Nat} {v : Value} {d : DataW H} {p : List MemPlace} (hv : Value.okWide Tryd.prog w r b0 58 v) (h : DataW.Trod enc Tryd.prog w base spare held 58 v d p) :
    ∃ S : Nat → Nat, Sets S ∧ v = cronV S := by
  obtain ⟨cs, rfl, hsz⟩ := okWide_struct Tryd.underlying58 hv
  obtain ⟨c0, c1, c2, c3, c4, rfl⟩ := array5 (hsz.trans cells58)
  obtain ⟨fuel, hf⟩ := h
  obtain ⟨xs, n, _, _, hl, hlen, hg⟩ := DataW.trod_struct Tryd.underlying58 hf
  obtain ⟨y0, y1, y2, y3, y4, rfl⟩ := list5 hlen
  have k56 : Tryd.prog.cellsOf 56 = 1 := by kernel_rfl
  have g0 : DataW.trod enc Tryd.prog w base spare held n 56 [c0] = some y0 := by simpa [Value.cells, k56] using hg 0 _ rfl
  have g1 : DataW.trod enc Tryd.prog w base spare held n 56 [c1] = some y1 := by simpa [Value.cells, k56] using hg 1 _ rfl
  have g2 : DataW.trod enc Tryd.prog w base spare held n 56 [c2] = some y2 := by simpa [Value.cells, k56] using hg 2 _ rfl
  have g3 : DataW.trod enc Tryd.prog w base spare held n 56 [c3] = some y3 := by simpa [Value.cells, k56] using hg 3 _ rfl
  have g4 : DataW.trod enc Tryd.prog w base spare held n 56 [c4] = some y4 := by simpa [Value.cells, k56] using hg 4 _ rfl
  obtain ⟨a0, l0, rfl⟩ := u64_nat g0
  obtain ⟨a1, l1, rfl⟩ := u64_nat g1
  obtain ⟨a2, l2, rfl⟩ := u64_nat g2
  obtain ⟨a3, l3, rfl⟩ := u64_nat g3
  obtain ⟨a4, l4, rfl⟩ := u64_nat g4
  exact five a0 a1 a2 a3 a4 l0 l1 l2 l3 l4
end
theorem entry {H : Type} {enc : TypeId × Value → H} {base : Nat} (W : World) {v0 v1 : Value} {d0 d1 : DataW H} {p0 p1 : List MemPlace}
    (o0 : Value.okWide Tryd.prog W .any base 58 v0) (h0 : DataW.Trod enc Tryd.prog W 0 (fun _ => true) true 58 v0 d0 p0)
    (o1 : Value.okWide Tryd.prog W .any base 3 v1) (h1 : DataW.Trod enc Tryd.prog W 0 (fun _ => true) true 3 v1 d1 p1)
    (hL : laidMetH Tryd.prog Rows.cronGoesRow.laid W)
    : Calls Tryd.prog 7 #[v0, v1] W fun e w' => e = .returned (.bool true) ∧ Below W.heap.size W w' := by
  obtain ⟨S, hS, rfl⟩ := open_cron o0 h0
  obtain ⟨t, rfl, _, _, _⟩ := open_int Tryd.underlying3 o1 h1
  exact goes_any S t W hS (tab hL) (bru hL)
theorem own : ownKnob Tryd.prog.godebug = none := by kernel_rfl
theorem laidOut : laidOutB Tryd.prog = true := by kernel_rfl
theorem contract (H : Type) (enc : TypeId × Value → H) (W : World) (base : Nat) (args : Array Value) (ds gs : List (DataW H)) (before : List MemPlace)
    (hval0 : ∀ (j : Nat) t v, Tryd.f7.params[j]? = some t → args[j]? = some v → Value.okWide Tryd.prog W .any base t v)
    (hW : DataW.Whole enc Tryd.prog Tryd.f7.params.toList Rows.cronGoesSpec.vars false W args.toList ds gs before)
    (hL : laidMetH Tryd.prog Rows.cronGoesRow.laid W) :
    Calls Tryd.prog 7 args W fun e W' => ∃ v, e = .returned v ∧ Rows.cronGoesSpec.post enc Tryd.prog Tryd.f7 false true false false W args v W' := by
  have hval : ∀ (j : Nat) t v, Tryd.f7.params[j]? = some t → args[j]? = some v → Value.okWide Tryd.prog W .any base t v := hval0
  have hW' := hW
  obtain ⟨p, q, hA0, hV, rfl, hfz, hnd⟩ := hW
  have hA : DataW.TrodAll enc Tryd.prog W 0 (fun _ => true) true Tryd.f7.params.toList args.toList ds p := hA0
  rw [Tryd.params7] at hA hval
  obtain ⟨v0, vs0, d0, ds0, p0, q0, hargs, rfl, rfl, h0, r0⟩ := trodAll_cons hA
  obtain ⟨v1, vs1, d1, ds1, p1, q1, rfl, rfl, rfl, h1, r1⟩ := trodAll_cons r0
  obtain ⟨rfl, rfl, rfl⟩ := trodAll_nil r1
  obtain rfl : args = #[v0, v1] := by cases args; simp_all
  obtain ⟨rfl, rfl⟩ := trodVars_none hV
  have lt0 : ∀ x ∈ p0, x.block < W.heap.size := by obtain ⟨m, hm⟩ := h0; exact DataW.trod_lt m _ _ _ hm
  have lt1 : ∀ x ∈ p1, x.block < W.heap.size := by obtain ⟨m, hm⟩ := h1; exact DataW.trod_lt m _ _ _ hm
  refine (entry (enc := enc) W (hval 0 58 v0 rfl rfl) h0 (hval 1 3 v1 rfl rfl) h1 hL).mono fun e W' ⟨he, bel⟩ => ?_
  subst he
  exact ⟨_, rfl, _, _, _, [], _, [], hW', trodAll_mk1 (shut_bool Tryd.underlying4 _), (trodAll_cons_mk (Below.trod laidOut (by kernel_rfl) (of_decide_eq_true (by kernel_rfl)) h0 bel lt0) (trodAll_cons_mk (Below.trod laidOut (by kernel_rfl) (of_decide_eq_true (by kernel_rfl)) h1 bel lt1) trodAll_mk0)), rfl, bel.frame _, fun h => by cases h⟩

/-- a world for the witness: the settled one, the listed tables holding what their initialisers lay -/
noncomputable def laidWorld (os : Os) : World :=
  { World.holding Tryd.prog os ⟨#[], #[], []⟩ with heap := (((World.holding Tryd.prog os ⟨#[], #[], []⟩).heap).modify 1 (fun | .cells _ t frozen => .cells #[.int .u8 0, .int .u8 1, .int .u8 56, .int .u8 2, .int .u8 57, .int .u8 49, .int .u8 28, .int .u8 3, .int .u8 61, .int .u8 58, .int .u8 42, .int .u8 50, .int .u8 38, .int .u8 29, .int .u8 17, .int .u8 4, .int .u8 62, .int .u8 47, .int .u8 59, .int .u8 36, .int .u8 45, .int .u8 43, .int .u8 51, .int .u8 22, .int .u8 53, .int .u8 39, .int .u8 33, .int .u8 30, .int .u8 24, .int .u8 18, .int .u8 12, .int .u8 5, .int .u8 63, .int .u8 55, .int .u8 48, .int .u8 27, .int .u8 60, .int .u8 41, .int .u8 37, .int .u8 16, .int .u8 46, .int .u8 35, .int .u8 44, .int .u8 21, .int .u8 52, .int .u8 32, .int .u8 23, .int .u8 11, .int .u8 54, .int .u8 26, .int .u8 40, .int .u8 15, .int .u8 34, .int .u8 20, .int .u8 31, .int .u8 10, .int .u8 25, .int .u8 14, .int .u8 19, .int .u8 9, .int .u8 13, .int .u8 8, .int .u8 7, .int .u8 6] t frozen | o => o)).modify 0 (fun | .cells _ t frozen => .cells #[.int .i64 0, .int .i64 0, .int .i64 31, .int .i64 59, .int .i64 90, .int .i64 120, .int .i64 151, .int .i64 181, .int .i64 212, .int .i64 243, .int .i64 273, .int .i64 304, .int .i64 334] t frozen | o => o) }
theorem laid_met (os : Os) : laidMet Tryd.prog Rows.cronGoesRow.laid ((laidWorld os).forCall (fun _ _ => 0) ⟨#[], #[.agg #[.int .u64 0, .int .u64 0, .int .u64 0, .int .u64 0, .int .u64 0], .int .i64 0], []⟩).memory :=
  laidMet_of_run' 8 (by kernel_rfl) (by kernel_rfl)
set_option maxRecDepth 100000 in
theorem lifted (os : Os) (started : os.Started) (H : Type) (enc : TypeId × Value → H) (F : Stop.Interp) :
    ReturnsInHanded {} Tryd.checked os 7 .any ((OpenSpec.ofChange Rows.cronGoesSpec).preRow enc Tryd.prog Tryd.f7 Rows.cronGoesRow.domain false Rows.cronGoesRow.laid) (((OpenSpec.ofChange Rows.cronGoesSpec).at F).post enc Tryd.prog Tryd.f7 false true false false) := by
  have hx : ∃ places, DataW.whole enc Tryd.prog ((laidWorld os).forCall (fun _ _ => 0) ⟨#[], #[.agg #[.int .u64 0, .int .u64 0, .int .u64 0, .int .u64 0, .int .u64 0], .int .i64 0], []⟩).memory Tryd.f7.params.toList Rows.cronGoesSpec.vars false (#[.agg #[.int .u64 0, .int .u64 0, .int .u64 0, .int .u64 0, .int .u64 0], .int .i64 0] : Array Value).toList 8 = some ([.agg [.lit (.int .u64 0), .lit (.int .u64 0), .lit (.int .u64 0), .lit (.int .u64 0), .lit (.int .u64 0)], .lit (.int .i64 0)], [], places) := ⟨[], by kernel_rfl⟩
  obtain ⟨places, hx⟩ := hx
  refine returnsInHanded_of_row (C := Tryd.checked) (s := OpenSpec.ofChange Rows.cronGoesSpec) own started (by kernel_rfl) Tryd.func7
    (witness_row_at (enc := enc) (C := Tryd.checked) false (laidWorld os) #[.agg #[.int .u64 0, .int .u64 0, .int .u64 0, .int .u64 0, .int .u64 0], .int .i64 0] rfl (by kernel_rfl) (by kernel_rfl) (by kernel_rfl)
      (OpenSpec.preRow_of_cond 8 hx (by kernel_rfl) (fun k hk => by cases hk) (by kernel_rfl) (laid_met os))) ?_
  intro W base args ds gs before hval hW _ _ hsz hL _ _
  exact contract H enc W base args ds gs before hval hW hL

theorem over : Rows.CronGoesSaid :=
  OpenClaim.holds_of_cond 7 Tryd.f7 rfl rfl rfl rfl rfl rfl rfl ⟨rfl, rfl, rfl, rfl, rfl⟩ rfl rfl rfl rfl rfl (by kernel_rfl) Tryd.func7 (by kernel_rfl)
    (of_decide_eq_true (by kernel_rfl)) (by unfold Func.isWrapper; first | (rw [if_pos (by decide +kernel)]; kernel_rfl) | (rw [if_neg (by decide +kernel)]; exact ⟨rfl, rfl⟩))
    (fun os started H enc _ F => by rw [OpenClaim.pre_eq_preRow]; exact lifted os started H enc F)
theorem plain (f : FuncId) (fn : Func) (hf : Tryd.pinned.checked.prog.funcNamed "shiftbell/shiftbelllaw.CronGoes" = some f) (hfn : Tryd.pinned.checked.prog.funcs[f]? = some fn) :
    false = Tryd.pinned.checked.prog.looks [] ∧ ∀ (j : Nat) t, fn.params[j]? = some t → Tryd.pinned.checked.prog.wantsStandIn t = false := by
  obtain rfl : f = 7 := Option.some.inj ((show Tryd.prog.funcNamed "shiftbell/shiftbelllaw.CronGoes" = some 7 by kernel_rfl).symm.trans hf) |>.symm
  obtain rfl : fn = Tryd.f7 := (Option.some.inj (Tryd.func7.symm.trans hfn)).symm
  refine ⟨by kernel_rfl, fun j t ht => ?_⟩
  rw [Tryd.params7] at ht
  have hm := Array.mem_of_getElem? ht
  have k3 : Tryd.prog.wantsStandIn 3 = false := by kernel_rfl
  have k58 : Tryd.prog.wantsStandIn 58 = false := by kernel_rfl
  have key : ∀ t ∈ (#[58, 3] : Array Nat), Tryd.prog.wantsStandIn t = false := by
    intro t ht
    have : t = 58 ∨ t = 3 := by simpa using ht
    rcases this with rfl | rfl
    all_goals first | exact k3 | exact k58
  exact key t hm
/-- the card -/
theorem proved : Rows.CronGoesCardSaid :=
  Claim7.holds_tied_plain_at .later [] _ _ _ _ over (fun _ h => by cases h) (by kernel_rfl) (fun _ h => by cases h) cronGoes_row_tie rfl ⟨rfl, rfl⟩ (by kernel_rfl) rfl plain (by kernel_rfl)
end Go.Proofs.YtdbipmidjdhjpaaDoor.cronGoes
