/- For all needs and every row of needs, Check, Fits, Add, Sub, Sum and Times answer what the document says: the statement NeedTells. No condition. -/
import Derived.Test.YtdbipmidjdhjpaaNeedWalkA
import Derived.Test.YtdbipmidjdhjpaaNeedWalkB
import Derived.Test.YtdbipmidjdhjpaaNeedWalkC
import Derived.Test.YtdbipmidjdhjpaaOpen
namespace Go.Proofs.Ytdbipmidjdhjpaa.needTells
open Go.ChangeShapes Go.WideShapes Go.ChangeAt Go.RowKit Go.Joins Go.Deep
set_option linter.unusedVariables false
set_option maxRecDepth 100000
theorem cells35 : Try.prog.cellsOf 35 = 3 := by kernel_rfl
theorem cells2 : Try.prog.cellsOf 2 = 1 := by kernel_rfl
theorem law_any (a b c x y z : Int) (L : List (Int × Int × Int)) (p : Option Addr) (n cap : Nat) (w : World) (hn : n = L.length) (hmax : n ≤ 9223372036854775807) (hL : Needs w p L) :
    Calls Try.prog 7 #[.agg #[.int .i64 a, .int .i64 b, .int .i64 c], .agg #[.int .i64 x, .int .i64 y, .int .i64 z], .slice p n cap] w fun e w' => e = .returned (.bool true) ∧ Below w.heap.size w w' := by
  cases hb : bothB a b c x y z with
  | false => exact law_bad a b c x y z L p n cap w hn hmax hL hb
  | true =>
    cases hz : zeroB a b c with
    | true => exact law_zero a b c x y z L p n cap w hn hmax hL hb hz
    | false => exact law_more a b c x y z L p n cap w hn hmax hL hb hz
/-- three numbers, read as a need -/
theorem need3 {H : Type} {enc : TypeId × Value → H} {W : World} {base : Nat} {spare : Nat → Bool} {held : Bool} {fuel : Nat} {x : DataW H × List MemPlace} {cs : List Value} (hlen : cs.length = 3) (h : DataW.trod enc Try.prog W base spare held fuel 35 cs = some x) :
    ∃ a b c : Int, cs = [.int .i64 a, .int .i64 b, .int .i64 c] := by
  match cs, hlen with
  | [c0, c1, c2], _ =>
    obtain ⟨_, _, _, _, _, f0⟩ := field Try.underlying35 h 0 2 0 1 rfl cells2
    obtain ⟨_, _, _, _, _, f1⟩ := field Try.underlying35 h 1 2 1 1 rfl cells2
    obtain ⟨_, _, _, _, _, f2⟩ := field Try.underlying35 h 2 2 2 1 rfl cells2
    obtain ⟨a, rfl, _⟩ := cell_int Try.underlying2 f0
    obtain ⟨b, rfl, _⟩ := cell_int Try.underlying2 f1
    obtain ⟨c, rfl, _⟩ := cell_int Try.underlying2 f2
    exact ⟨a, b, c, rfl⟩
theorem entry {H : Type} {enc : TypeId × Value → H} {base : Nat} (W : World) {v0 v1 v2 : Value} {d0 d1 d2 : DataW H} {p0 p1 p2 : List MemPlace}
    (o0 : Value.okWide Try.prog W .any base 35 v0) (h0 : DataW.Trod enc Try.prog W 0 (fun _ => true) true 35 v0 d0 p0)
    (o1 : Value.okWide Try.prog W .any base 35 v1) (h1 : DataW.Trod enc Try.prog W 0 (fun _ => true) true 35 v1 d1 p1)
    (o2 : Value.okWide Try.prog W .any base 70 v2) (h2 : DataW.Trod enc Try.prog W 0 (fun _ => true) true 70 v2 d2 p2)
    : Calls Try.prog 7 #[v0, v1, v2] W fun e w' => e = .returned (.bool true) ∧ Below W.heap.size W w' := by
  obtain ⟨c0, c1, c2, y0, y1, y2, m, rfl, rfl, rfl, k0, k1, k2⟩ := open_agg3 Try.underlying35 (by kernel_rfl) cells35 o0 h0
  obtain ⟨a, e0, _, _⟩ := DataW.trod_int Try.underlying2 k0
  obtain ⟨b, e1, _, _⟩ := DataW.trod_int Try.underlying2 k1
  obtain ⟨c, e2, _, _⟩ := DataW.trod_int Try.underlying2 k2
  simp only [List.cons.injEq, and_true] at e0 e1 e2
  subst e0 e1 e2
  obtain ⟨c3, c4, c5, y3, y4, y5, m2, rfl, rfl, rfl, k3, k4, k5⟩ := open_agg3 Try.underlying35 (by kernel_rfl) cells35 o1 h1
  obtain ⟨x, e3, _, _⟩ := DataW.trod_int Try.underlying2 k3
  obtain ⟨y, e4, _, _⟩ := DataW.trod_int Try.underlying2 k4
  obtain ⟨z, e5, _, _⟩ := DataW.trod_int Try.underlying2 k5
  simp only [List.cons.injEq, and_true] at e3 e4 e5
  subst e3 e4 e5
  obtain ⟨ad, len, cap, rfl⟩ := okWide_slice Try.underlying70 o2
  obtain ⟨fuel, hf⟩ := h2
  rcases open_slice Try.underlying70 hf with ⟨e, _⟩ | ⟨ad', len', cap', m, n, D, Pl, e, _, hlc, hm, hmm, hx, hi⟩
  · simp [Value.cells] at e
    obtain ⟨rfl, rfl, rfl⟩ := e
    exact law_any a b c x y z [] none 0 0 W rfl (by omega) (fun h => absurd h (by simp))
  · simp [Value.cells] at e
    obtain ⟨rfl, rfl, rfl⟩ := e
    simp only [if_true] at hmm
    subst hmm
    have hch : ∀ k, k < len → ∃ t : Int × Int × Int, ∀ j v, [Value.int .i64 t.1, Value.int .i64 t.2.1, Value.int .i64 t.2.2][j]? = some v → W.cell? ((ad'.add (k * 3)).add j) = some v := by
      intro k hk
      obtain ⟨cs', hc, ht⟩ := hi k (by omega)
      obtain ⟨_, hl, hat⟩ := World.cells?_some hc
      rw [cells35] at hl hat
      obtain ⟨a, b, c, rfl⟩ := need3 hl ht
      refine ⟨(a, b, c), fun j v hv => ?_⟩
      have hj : j < 3 := (List.getElem?_eq_some_iff.1 hv).1
      have := hat j hj
      rw [hv] at this
      exact this
    obtain ⟨F, hF⟩ := choose_lt hch
    refine law_any a b c x y z ((List.range len).map F) (some ad') len _ W (by simp) (by unfold maxLen at hm; omega) (fun hL => ?_)
    have hpos : 0 < len := by simpa using hL
    have hspot : ad'.spot = none := by
      have := World.cell?_spot (hF 0 hpos 0 _ rfl)
      simpa [Addr.add] using this
    obtain ⟨b0, off, spot⟩ := ad'
    simp only at hspot
    subst hspot
    refine ⟨b0, off, rfl, ?_, fun i c' m' g' hg => ?_⟩
    · have := hF 0 hpos 0 _ rfl
      rw [Addr.add_mid, Addr.add_mid] at this
      exact block_lt_of_cell this
    · have hil : i < len := by
        have := (List.getElem?_eq_some_iff.1 hg).1
        simpa using this
      have e : F i = (c', m', g') := by
        rw [List.getElem?_map, List.getElem?_range hil] at hg
        simpa using hg
      have h0 := hF i hil 0 _ rfl
      have h1 := hF i hil 1 _ rfl
      have h2 := hF i hil 2 _ rfl
      rw [e, Addr.add_mid, Addr.add_mid] at h0 h1 h2
      refine ⟨?_, ?_, ?_⟩
      · exact h0
      · exact h1
      · exact h2
theorem own : ownKnob Try.prog.godebug = none := by kernel_rfl
theorem laidOut : laidOutB Try.prog = true := by kernel_rfl
set_option maxRecDepth 100000 in
theorem lifted (os : Os) (started : os.Started) (H : Type) (enc : TypeId × Value → H) :
    ReturnsInHanded {} Try.checked os 7 .any (Rows.needTellsSpec.pre6 enc Try.prog Try.f7 Rows.needTellsRow.domain false) (Rows.needTellsSpec.post enc Try.prog Try.f7 false true false false) := by
  refine returnsInHanded_of_change (C := Try.checked) own started (by kernel_rfl) Try.func7
    (ChangeSpec.witness6 (enc := enc) (C := Try.checked) false ⟨#[], #[.agg #[.int .i64 0, .int .i64 0, .int .i64 0], .agg #[.int .i64 0, .int .i64 0, .int .i64 0], .slice none 0 0], []⟩ 8 (by kernel_rfl) (by kernel_rfl) (by kernel_rfl) (by kernel_rfl)) ?_
  intro W base args ds gs before hval0 hW hcnd _
  have hval : ∀ (j : Nat) t v, Try.f7.params[j]? = some t → args[j]? = some v → Value.okWide Try.prog W .any base t v := hval0
  have hW' := hW
  obtain ⟨p, q, hA0, hV, rfl, hfz, hnd⟩ := hW
  have hA : DataW.TrodAll enc Try.prog W 0 (fun _ => true) true Try.f7.params.toList args.toList ds p := hA0
  rw [Try.params7] at hA hval
  obtain ⟨v0, vs0, d0, ds0, p0, q0, hargs, rfl, rfl, h0, r0⟩ := trodAll_cons hA
  obtain ⟨v1, vs1, d1, ds1, p1, q1, rfl, rfl, rfl, h1, r1⟩ := trodAll_cons r0
  obtain ⟨v2, vs2, d2, ds2, p2, q2, rfl, rfl, rfl, h2, r2⟩ := trodAll_cons r1
  obtain ⟨rfl, rfl, rfl⟩ := trodAll_nil r2
  obtain rfl : args = #[v0, v1, v2] := by cases args; simp_all
  obtain ⟨rfl, rfl⟩ := trodVars_none hV
  have lt0 : ∀ x ∈ p0, x.block < W.heap.size := by obtain ⟨m, hm⟩ := h0; exact DataW.trod_lt m _ _ _ hm
  have lt1 : ∀ x ∈ p1, x.block < W.heap.size := by obtain ⟨m, hm⟩ := h1; exact DataW.trod_lt m _ _ _ hm
  have lt2 : ∀ x ∈ p2, x.block < W.heap.size := by obtain ⟨m, hm⟩ := h2; exact DataW.trod_lt m _ _ _ hm
  refine (entry (enc := enc) W (hval 0 35 v0 rfl rfl) h0 (hval 1 35 v1 rfl rfl) h1 (hval 2 70 v2 rfl rfl) h2).mono fun e W' ⟨he, bel⟩ => ?_
  subst he
  exact ⟨_, rfl, _, _, _, [], _, [], hW', trodAll_mk1 (shut_bool Try.underlying4 _), (trodAll_cons_mk (Below.trod laidOut (by kernel_rfl) (of_decide_eq_true (by kernel_rfl)) h0 bel lt0) (trodAll_cons_mk (Below.trod laidOut (by kernel_rfl) (of_decide_eq_true (by kernel_rfl)) h1 bel lt1) (trodAll_cons_mk (Below.trod laidOut (by kernel_rfl) (of_decide_eq_true (by kernel_rfl)) h2 bel lt2) trodAll_mk0))), rfl, bel.frame _, fun h => by cases h⟩

theorem over : Rows.needTellsRow.holds Try.pinned (OpenSpec.ofChange Rows.needTellsSpec) :=
  OpenClaim.holds_of_wide 7 Try.f7 rfl rfl rfl rfl rfl rfl rfl ⟨rfl, rfl, rfl, rfl, rfl⟩ rfl rfl rfl rfl rfl (by kernel_rfl) Try.func7 (by kernel_rfl)
    (of_decide_eq_true (by kernel_rfl)) (by unfold Func.isWrapper; first | (rw [if_pos (by decide +kernel)]; kernel_rfl) | (rw [if_neg (by decide +kernel)]; exact ⟨rfl, rfl⟩))
    (fun os started H enc _ => lifted os started H enc)

theorem proved : Rows.NeedTellsSaid := over
end Go.Proofs.Ytdbipmidjdhjpaa.needTells
