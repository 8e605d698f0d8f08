/- For every list of deeds, a disk answers what the document says: the statement JournalPlays. -/
import Derived.Test.YtdbipmidjdhjpaaJournalLaw
import Derived.Test.YtdbipmidjdhjpaaOpen
namespace Go.Proofs.Ytdbipmidjdhjpaa.journalPlays
open Go.ChangeShapes Go.WideShapes Go.ChangeAt Go.RowKit Go.Joins Go.Deep
set_option linter.unusedVariables false
set_option maxRecDepth 100000
theorem cells44 : Try.prog.cellsOf 44 = 18 := by kernel_rfl
theorem cells2 : Try.prog.cellsOf 2 = 1 := by kernel_rfl
theorem cells3 : Try.prog.cellsOf 3 = 1 := by kernel_rfl
theorem cells4 : Try.prog.cellsOf 4 = 1 := by kernel_rfl
theorem cells5 : Try.prog.cellsOf 5 = 1 := by kernel_rfl
theorem cells9 : Try.prog.cellsOf 9 = 1 := by kernel_rfl
theorem cells24 : Try.prog.cellsOf 24 = 1 := by kernel_rfl
theorem cells31 : Try.prog.cellsOf 31 = 1 := by kernel_rfl
theorem cells35 : Try.prog.cellsOf 35 = 3 := by kernel_rfl
theorem cells36 : Try.prog.cellsOf 36 = 1 := by kernel_rfl
theorem cells38 : Try.prog.cellsOf 38 = 5 := by kernel_rfl
theorem cells40 : Try.prog.cellsOf 40 = 11 := by kernel_rfl
theorem cells42 : Try.prog.cellsOf 42 = 15 := by kernel_rfl
theorem bytes5 : Try.prog.bytesOf 5 = 1 := by kernel_rfl

section
variable {H : Type} {enc : TypeId × Value → H} {W : World} {base : Nat} {spare : Nat → Bool} {held : Bool} {fuel : Nat} {x : DataW H × List MemPlace}
theorem one_int {t : TypeId} {k : IntKind} {v : Value} (ht : Try.prog.underlying t = some (.int k)) (h : DataW.trod enc Try.prog W base spare held fuel t [v] = some x) : v.oneCell' = true := by
  obtain ⟨n, rfl, _⟩ := cell_int ht h; rfl
theorem one_bool {t : TypeId} {v : Value} (ht : Try.prog.underlying t = some .bool) (h : DataW.trod enc Try.prog W base spare held fuel t [v] = some x) : v.oneCell' = true := by
  obtain ⟨n, e, _⟩ := DataW.trod_bool ht h
  simp only [List.cons.injEq, and_true] at e
  subst e; rfl
theorem one_string {t : TypeId} {v : Value} (ht : Try.prog.underlying t = some .string) (h : DataW.trod enc Try.prog W base spare held fuel t [v] = some x) : v.oneCell' = true := by
  obtain ⟨n, e, _⟩ := DataW.trod_string ht h
  simp only [List.cons.injEq, and_true] at e
  subst e; rfl
theorem one_slice {t e : TypeId} {v : Value} (ht : Try.prog.underlying t = some (.slice e)) (h : DataW.trod enc Try.prog W base spare held fuel t [v] = some x) : v.oneCell' = true := by
  rcases DataW.trod_slice ht h with ⟨e, _⟩ | ⟨a, len, cap, _, _, _, _, e, _⟩
  all_goals
    simp only [List.cons.injEq, and_true] at e
    subst e; rfl

theorem deed {cs : List Value} (hlen : cs.length = 18) (h : DataW.trod enc Try.prog W base spare held fuel 44 cs = some x) (hl : Light Try.prog 44 x.1) :
    ∃ (kd kp : Int) (a : Option Addr) (c : Nat) (xs : List Int) (rest : List Value), cs = .int .i64 kd :: .int .i64 kp :: .slice a xs.length c :: rest ∧ rest.length = 15 ∧ (∀ v ∈ rest, v.oneCell' = true) ∧
      Src W 1 (.slice a xs.length c) xs.length (xs.map (.int .u8)) ∧ xs.length ≤ 140737488351232 := by
  match cs, hlen with
  | [c0, c1, c2, c3, c4, c5, c6, c7, c8, c9, c10, c11, c12, c13, c14, c15, c16, c17], _ =>
    obtain ⟨_, _, _, _, _, f0⟩ := field Try.underlying44 h 0 3 0 1 rfl cells3
    obtain ⟨_, _, _, _, _, f1⟩ := field Try.underlying44 h 1 3 1 1 rfl cells3
    obtain ⟨ps, m2, y2, hx, hp2, f2⟩ := field Try.underlying44 h 2 31 2 1 rfl cells31
    obtain ⟨_, _, _, _, _, fx⟩ := field Try.underlying44 h 3 42 3 15 rfl cells42
    obtain ⟨_, _, _, _, _, e0⟩ := field Try.underlying42 fx 0 3 0 1 rfl cells3
    obtain ⟨_, _, _, _, _, ej⟩ := field Try.underlying42 fx 1 40 1 11 rfl cells40
    obtain ⟨_, _, _, _, _, e2⟩ := field Try.underlying42 fx 2 2 12 1 rfl cells2
    obtain ⟨_, _, _, _, _, e3⟩ := field Try.underlying42 fx 3 3 13 1 rfl cells3
    obtain ⟨_, _, _, _, _, e4⟩ := field Try.underlying42 fx 4 4 14 1 rfl cells4
    obtain ⟨_, _, _, _, _, j0⟩ := field Try.underlying40 ej 0 9 0 1 rfl cells9
    obtain ⟨_, _, _, _, _, j1⟩ := field Try.underlying40 ej 1 3 1 1 rfl cells3
    obtain ⟨_, _, _, _, _, jn⟩ := field Try.underlying40 ej 2 35 2 3 rfl cells35
    obtain ⟨_, _, _, _, _, ja⟩ := field Try.underlying40 ej 3 38 5 5 rfl cells38
    obtain ⟨_, _, _, _, _, j4⟩ := field Try.underlying40 ej 4 24 10 1 rfl cells24
    obtain ⟨_, _, _, _, _, n0⟩ := field Try.underlying35 jn 0 2 0 1 rfl cells2
    obtain ⟨_, _, _, _, _, n1⟩ := field Try.underlying35 jn 1 2 1 1 rfl cells2
    obtain ⟨_, _, _, _, _, n2⟩ := field Try.underlying35 jn 2 2 2 1 rfl cells2
    obtain ⟨_, _, _, _, _, a0⟩ := field Try.underlying38 ja 0 3 0 1 rfl cells3
    obtain ⟨_, _, _, _, _, a1⟩ := field Try.underlying38 ja 1 9 1 1 rfl cells9
    obtain ⟨_, _, _, _, _, a2⟩ := field Try.underlying38 ja 2 9 2 1 rfl cells9
    obtain ⟨_, _, _, _, _, a3⟩ := field Try.underlying38 ja 3 2 3 1 rfl cells2
    obtain ⟨_, _, _, _, _, a4⟩ := field Try.underlying38 ja 4 36 4 1 rfl cells36
    obtain ⟨kd, rfl, _⟩ := cell_int Try.underlying3 f0
    obtain ⟨kp, rfl, _⟩ := cell_int Try.underlying3 f1
    have hone : ∀ v ∈ [c3, c4, c5, c6, c7, c8, c9, c10, c11, c12, c13, c14, c15, c16, c17], v.oneCell' = true := by
      intro v hv
      simp only [List.mem_cons, List.not_mem_nil, or_false] at hv
      rcases hv with rfl | rfl | rfl | rfl | rfl | rfl | rfl | rfl | rfl | rfl | rfl | rfl | rfl | rfl | rfl
      · exact one_int Try.underlying3 e0
      · exact one_string Try.underlying9 j0
      · exact one_int Try.underlying3 j1
      · exact one_int Try.underlying2 n0
      · exact one_int Try.underlying2 n1
      · exact one_int Try.underlying2 n2
      · exact one_int Try.underlying3 a0
      · exact one_string Try.underlying9 a1
      · exact one_string Try.underlying9 a2
      · exact one_int Try.underlying2 a3
      · exact one_slice Try.underlying36 a4
      · exact one_slice Try.underlying24 j4
      · exact one_int Try.underlying2 e2
      · exact one_int Try.underlying3 e3
      · exact one_bool Try.underlying4 e4
    have hl2 : Light Try.prog 31 y2.1 := light_field (i := 2) (T := 31) (off := 2) Try.underlying44 (by rw [← hx]; exact hl) rfl hp2
    rcases open_ints Try.underlying31 Try.underlying5 cells5 f2 with ⟨e, _⟩ | ⟨a, len, cap, zs, e, _, hlc, hm, hz, hy, hcell, _⟩
    · simp only [List.drop_succ_cons, List.drop_zero, List.take_succ_cons, List.take_zero, List.cons.injEq, and_true] at e
      subst e
      exact ⟨kd, kp, none, 0, [], _, rfl, rfl, hone, .inl ⟨rfl, rfl, rfl⟩, by simp⟩
    · simp only [List.drop_succ_cons, List.drop_zero, List.take_succ_cons, List.take_zero, List.cons.injEq, and_true] at e
      subst e
      have hzl : len ≤ zs.length := by rw [hz]; split <;> omega
      have hbd : len ≤ 140737488351232 := by
        rw [hy] at hl2
        have := (light_slice Try.underlying31 hl2).1
        rw [bytes5] at this
        simp only [lits, List.length_map, List.length_take, List.length_drop, reachBytes] at this
        omega
      refine ⟨kd, kp, some a, cap, zs.take len, _, by simp [hzl], rfl, hone, .inr ⟨a, cap, by simp [hzl], by simp, fun j u hu => ?_⟩, by simp; omega⟩
      have hj : j < len := by
        have := (List.getElem?_eq_some_iff.1 hu).1
        simp at this; omega
      rw [hcell j (by omega)]
      rw [← hu]
      simp [hj, List.getD, List.getElem?_eq_getElem (show j < zs.length by omega)]
end

theorem entry {H : Type} {enc : TypeId × Value → H} {base : Nat} (W : World) {v0 : Value} {d0 : DataW H} {p0 : List MemPlace}
    (o0 : Value.okWide Try.prog W .any base 27 v0) (h0 : DataW.Trod enc Try.prog W 0 (fun _ => true) true 27 v0 d0 p0)
    (li0 : Light Try.prog 27 d0)
    : Calls Try.prog 4 #[v0] W fun e w' => e = .returned (.bool true) ∧ Below W.heap.size W w' := by
  obtain ⟨a, len, cap, rfl⟩ := okWide_slice Try.underlying27 o0
  obtain ⟨fuel, hf⟩ := h0
  rcases open_slice Try.underlying27 hf with ⟨e, _⟩ | ⟨ad, len', cap', m, n, D, Pl, e, _, hlc, hm, hmm, hx, hi⟩
  · simp [Value.cells] at e
    obtain ⟨rfl, rfl, rfl⟩ := e
    exact journal_nil W _ _
  · simp [Value.cells] at e
    obtain ⟨rfl, rfl, rfl⟩ := e
    by_cases hz : len = 0
    · subst hz; exact journal_nil W _ _
    · by_cases hlong : 60 < len
      · exact journal_long W _ _ _ hlong (by unfold maxLen at hm; omega)
      · simp only [if_true] at hmm
        subst hmm
        have hspot : ad.spot = none := by
          obtain ⟨cs', hc, _⟩ := hi 0 (by omega)
          obtain ⟨_, hl, hat⟩ := World.cells?_some hc
          have h0' := hat 0 (by rw [cells44]; omega)
          rw [cells44] at hl
          rw [List.getElem?_eq_getElem (by omega)] at h0'
          have := World.cell?_spot h0'
          simpa [Addr.add] using this
        obtain ⟨b, off, spot⟩ := ad
        simp only at hspot
        subst hspot
        refine journal_short W b off _ _ (by omega) fun k hk => ?_
        obtain ⟨cs', hc, ht⟩ := hi k (by omega)
        obtain ⟨_, hl, hat⟩ := World.cells?_some hc
        rw [cells44] at hl hat
        simp only [Prod.mk.injEq] at hx
        have hL : Light Try.prog 44 (D k) := by
          rw [hx.1] at li0
          exact (light_slice Try.underlying27 li0).2.1 _ (by simp; exact ⟨k, hk, rfl⟩)
        obtain ⟨kd, kp, a, c, xs, rest, rfl, h1, h2, h3, h4⟩ := deed hl ht hL
        refine ⟨kd, kp, a, c, xs, rest, fun j v hv => ?_, h1, h2, h3, h4⟩
        have hj : j < 18 := by
          have := (List.getElem?_eq_some_iff.1 hv).1
          omega
        have := hat j hj
        rw [hv, Addr.add_mid, Addr.add_mid] at this
        exact this
theorem own : ownKnob Try.prog.godebug = none := by kernel_rfl
theorem laidOut : laidOutB Try.prog = true := by kernel_rfl
set_option maxRecDepth 100000 in
theorem lifted (os : Os) (started : os.Started) (H : Type) (enc : TypeId × Value → H) :
    ReturnsInHanded {} Try.checked os 4 .any (Rows.journalPlaysSpec.pre6 enc Try.prog Try.f4 Rows.journalPlaysRow.domain false) (Rows.journalPlaysSpec.post enc Try.prog Try.f4 false true false false) := by
  refine returnsInHanded_of_change_sized (C := Try.checked) own started (by kernel_rfl) Try.func4
    (ChangeSpec.witness6 (enc := enc) (C := Try.checked) false ⟨#[], #[.slice none 0 0], []⟩ 8 (by kernel_rfl) (by kernel_rfl) (by kernel_rfl) (by kernel_rfl)) ?_
  intro W base args ds gs before hval0 hW hcnd hsz0 _
  have hval : ∀ (j : Nat) t v, Try.f4.params[j]? = some t → args[j]? = some v → Value.okWide Try.prog W .any base t v := hval0
  have hW' := hW
  obtain ⟨p, q, hA0, hV, rfl, hfz, hnd⟩ := hW
  have hA : DataW.TrodAll enc Try.prog W 0 (fun _ => true) true Try.f4.params.toList args.toList ds p := hA0
  rw [Try.params4] at hA hval
  obtain ⟨v0, vs0, d0, ds0, p0, q0, hargs, rfl, rfl, h0, r0⟩ := trodAll_cons hA
  obtain ⟨rfl, rfl, rfl⟩ := trodAll_nil r0
  obtain rfl : args = #[v0] := by cases args; simp_all
  obtain ⟨rfl, rfl⟩ := trodVars_none hV
  have lt0 : ∀ x ∈ p0, x.block < W.heap.size := by obtain ⟨m, hm⟩ := h0; exact DataW.trod_lt m _ _ _ hm
  have hsz : (DataW.weightsEach Try.prog [27] [d0]).all (fun x => decide (x ≤ reachBytes)) = true := hsz0
  have li0 : Light Try.prog 27 d0 := light_each hsz (j := 0) rfl rfl
  refine (entry (enc := enc) W (hval 0 27 v0 rfl rfl) h0 li0).mono fun e W' ⟨he, bel⟩ => ?_
  subst he
  exact ⟨_, rfl, _, _, _, [], _, [], hW', trodAll_mk1 (shut_bool Try.underlying4 _), (trodAll_cons_mk (Below.trod laidOut (by kernel_rfl) (of_decide_eq_true (by kernel_rfl)) h0 bel lt0) trodAll_mk0), rfl, bel.frame _, fun h => by cases h⟩

theorem over : Rows.journalPlaysRow.holds Try.pinned (OpenSpec.ofChange Rows.journalPlaysSpec) :=
  OpenClaim.holds_of_wide 4 Try.f4 rfl rfl rfl rfl rfl rfl rfl ⟨rfl, rfl, rfl, rfl, rfl⟩ rfl rfl rfl rfl rfl (by kernel_rfl) Try.func4 (by kernel_rfl)
    (of_decide_eq_true (by kernel_rfl)) (by unfold Func.isWrapper; first | (rw [if_pos (by decide +kernel)]; kernel_rfl) | (rw [if_neg (by decide +kernel)]; exact ⟨rfl, rfl⟩))
    (fun os started H enc _ => lifted os started H enc)

theorem proved : Rows.JournalPlaysSaid := over
end Go.Proofs.Ytdbipmidjdhjpaa.journalPlays
